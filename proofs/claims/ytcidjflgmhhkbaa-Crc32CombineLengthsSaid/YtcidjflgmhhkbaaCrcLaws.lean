/- The walks of the statements of layer 3 (crc32): each returns true and changes nothing that was there. -/
import Derived.Test.YtcidjflgmhhkbaaCrcComb
namespace Go.Proofs.Ytcidjflgmhhkbaa
open Go.RowKit
set_option linter.unusedVariables false

theorem bapp {a b c : World} (h : Below a.heap.size a b) (k : Below b.heap.size b c) : Below a.heap.size a c := h.trans (k.mono h.size)
theorem balloc {a b : World} (h : Below a.heap.size a b) (o : Obj) : Below a.heap.size a (b.alloc o) := h.alloc h.size o

theorem u32_bv {n : Int} (h : (Lit.int .u32 n).wf = true) : ∃ x : BitVec 32, n = (x.toNat : Int) := by
  have hb : 0 ≤ n ∧ n < 4294967296 := by
    simp [Lit.wf, IntKind.min, IntKind.max, IntKind.bits, IntKind.signed] at h
    omega
  refine ⟨BitVec.ofNat 32 n.toNat, ?_⟩
  simp
  omega

theorem sum_one (s : ByteArray) (b : Nat) (W : World) (h : s.size ≤ maxLen) (hc : W.cell? ⟨b, 0, none⟩ = some (.string s)) :
    Calls Try.prog 14 #[.slice (some ⟨b, 0, none⟩) 1 1] W fun e w' => e = .returned (.int .u32 ((Crc.upd Crc.ini s.data.toList).toNat : Int)) ∧ W = w' := by
  have := sum_any [s] b 0 1 W (by simp [maxLen]) (by
    intro i hi
    obtain rfl : i = 0 := by simp at hi; omega
    exact h) (by
    intro i hi
    obtain rfl : i = 0 := by simp at hi; omega
    exact hc)
  simpa [bytesAll] using this

theorem rsum_one (s : ByteArray) (b : Nat) (W : World) (h : s.size ≤ maxLen) (hc : W.cell? ⟨b, 0, none⟩ = some (.string s)) :
    Calls Try.prog 15 #[.slice (some ⟨b, 0, none⟩) 1 1] W fun e w' => e = .returned (.int .u32 ((Crc.upd Crc.ini s.data.toList).toNat : Int)) ∧ W = w' := by
  have := rsum_any [s] b 0 1 W (by simp [maxLen]) (by
    intro i hi
    obtain rfl : i = 0 := by simp at hi; omega
    exact h) (by
    intro i hi
    obtain rfl : i = 0 := by simp at hi; omega
    exact hc)
  simpa [bytesAll] using this

theorem sum_two (s t : ByteArray) (b : Nat) (W : World) (h : s.size ≤ maxLen) (h' : t.size ≤ maxLen) (hc : W.cell? ⟨b, 0, none⟩ = some (.string s)) (hc' : W.cell? ⟨b, 1, none⟩ = some (.string t)) :
    Calls Try.prog 14 #[.slice (some ⟨b, 0, none⟩) 2 2] W fun e w' => e = .returned (.int .u32 ((Crc.upd Crc.ini (s.data.toList ++ t.data.toList)).toNat : Int)) ∧ W = w' := by
  have := sum_any [s, t] b 0 2 W (by simp [maxLen]) (by
    intro i hi
    match i, hi with
    | 0, _ => exact h
    | 1, _ => exact h') (by
    intro i hi
    match i, hi with
    | 0, _ => exact hc
    | 1, _ => exact hc')
  simpa [bytesAll] using this

theorem sum_three (s t u : ByteArray) (b : Nat) (W : World) (h : s.size ≤ maxLen) (h' : t.size ≤ maxLen) (h'' : u.size ≤ maxLen) (hc : W.cell? ⟨b, 0, none⟩ = some (.string s)) (hc' : W.cell? ⟨b, 1, none⟩ = some (.string t)) (hc'' : W.cell? ⟨b, 2, none⟩ = some (.string u)) :
    Calls Try.prog 14 #[.slice (some ⟨b, 0, none⟩) 3 3] W fun e w' => e = .returned (.int .u32 ((Crc.upd Crc.ini (s.data.toList ++ (t.data.toList ++ u.data.toList))).toNat : Int)) ∧ W = w' := by
  have := sum_any [s, t, u] b 0 3 W (by simp [maxLen]) (by
    intro i hi
    match i, hi with
    | 0, _ => exact h
    | 1, _ => exact h'
    | 2, _ => exact h'') (by
    intro i hi
    match i, hi with
    | 0, _ => exact hc
    | 1, _ => exact hc'
    | 2, _ => exact hc'')
  simpa [bytesAll] using this

theorem awake_sum : ((Crc.upd Crc.ini [49, 50, 51, 52, 53, 54, 55, 56, 57]).toNat : Int) = 58124007 := by
  rw [show Crc.upd Crc.ini [49, 50, 51, 52, 53, 54, 55, 56, 57] = 58124007#32 from by decide +kernel]
  rfl
theorem awake_ini : (Crc.ini.toNat : Int) = 4294967295 := rfl
theorem awake_num : (58124007 : Int) = ((58124007#32).toNat : Int) := rfl
theorem awake_bytes : (⟨(Crc.bytesOf 58124007#32).toArray⟩ : ByteArray) = ⟨#[3, 118, 230, 231]⟩ := by decide +kernel

theorem awake_any (w : World) : Calls Try.prog 11 #[] w fun e w' => e = .returned (.bool true) ∧ Below w.heap.size w w' := by
  have h1 := Lib.hid awake_sum
  have h2 := Lib.hid awake_bytes
  have h3 := Lib.hid awake_ini
  have h4 := Lib.hid awake_num
  go_enter Try.func11, Try.ntmps11
  go_wp2_with fail
  refine (sum_one ⟨#[49, 50, 51, 52, 53, 54, 55, 56, 57]⟩ _ _ (by simp [maxLen, ByteArray.size]) (by go_cell)).mono ?_
  rintro e w' ⟨rfl, rfl⟩
  rw [h1.out]
  go_wp2_with fail
  refine (sum_nil _).mono ?_
  rintro e w' ⟨rfl, rfl⟩
  rw [h3.out]
  go_wp2_with fail
  rw [h4.out]
  refine (bytes_any 58124007#32 _).mono ?_
  rintro e w' ⟨rfl, hb⟩
  rw [h2.out]
  go_wp2_with fail
  go_ret
  exact ⟨rfl, ((Below.refl _ _).alloc (Nat.le_refl _) _).trans (hb.mono (by simp))⟩

theorem values_walk (a0 : Int) (a1 : ByteArray) (w0 : (Lit.int .u32 a0).wf = true) (w1 : a1.size ≤ maxLen) (w : World) :
    Calls Try.prog 3 #[.int .u32 a0, .string a1] w fun e w' => e = .returned (.bool true) ∧ Below w.heap.size w w' := by
  obtain ⟨x, rfl⟩ := u32_bv w0
  clear w0
  unfold maxLen at w1
  by_cases h : 300 < (a1.size : Int)
  · go_enter Try.func3, Try.ntmps3
    go_wp2_with fail
    refine (awake_any _).mono ?_
    rintro e w' ⟨rfl, hb⟩
    go_wp2_with fail
    go_ret
    exact ⟨rfl, hb⟩
  · go_enter Try.func3, Try.ntmps3
    go_wp2_with fail
    refine (update_any _ _ _ (by unfold maxLen; omega)).mono ?_
    rintro e w' ⟨rfl, rfl⟩
    go_wp2_with fail
    refine (rupdate_any _ _ _ (by unfold maxLen; omega)).mono ?_
    rintro e w' ⟨rfl, rfl⟩
    go_wp2_with fail
    refine (sum_one a1 _ _ (by unfold maxLen; omega) (by go_cell)).mono ?_
    rintro e w' ⟨rfl, rfl⟩
    go_wp2_with fail
    refine (rsum_one a1 _ _ (by unfold maxLen; omega) (by go_cell)).mono ?_
    rintro e w' ⟨rfl, rfl⟩
    go_wp2_with fail
    refine (bytes_any _ _).mono ?_
    rintro e w1 ⟨rfl, hb1⟩
    go_wp2_with fail
    refine (rbytes_any _ _).mono ?_
    rintro e w2 ⟨rfl, hb2⟩
    go_wp2_with fail
    refine (awake_any _).mono ?_
    rintro e w3 ⟨rfl, hb3⟩
    go_wp2_with fail
    go_ret
    have hb1' := hb1.mono (show w.heap.size ≤ _ by simp; omega)
    have hb12 := ((((Below.refl w.heap.size w).alloc (Nat.le_refl _) _).alloc (by simp) _).trans hb1')
    exact ⟨rfl, (hb12.trans (hb2.mono hb12.size)).trans (hb3.mono (hb12.trans (hb2.mono hb12.size)).size)⟩

theorem residue_walk (a0 : ByteArray) (w0 : a0.size ≤ maxLen) (w : World) :
    Calls Try.prog 7 #[.string a0] w fun e w' => e = .returned (.bool true) ∧ Below w.heap.size w w' := by
  unfold maxLen at w0
  by_cases h : 300 < (a0.size : Int)
  · go_enter Try.func7, Try.ntmps7
    go_wp2_with fail
    refine (awake_any _).mono ?_
    rintro e w' ⟨rfl, hb⟩
    go_wp2_with fail
    go_ret
    exact ⟨rfl, hb⟩
  · have hres : Hid (((Crc.upd Crc.ini (a0.data.toList ++ Crc.bytesOf (Crc.upd Crc.ini a0.data.toList))).toNat : Int) = 0) := by
      show _ = _
      rw [Crc.upd_append, Crc.upd_residue]; rfl
    go_enter Try.func7, Try.ntmps7
    go_wp2_with fail
    refine (sum_one a0 _ _ (by unfold maxLen; omega) (by go_cell)).mono ?_
    rintro e w' ⟨rfl, rfl⟩
    generalize Crc.upd Crc.ini a0.data.toList = r at hres ⊢
    go_wp2_with fail
    refine (bytes_any r _).mono ?_
    rintro e w1 ⟨rfl, hb1⟩
    go_wp2_with fail
    refine (sum_two a0 ⟨(Crc.bytesOf r).toArray⟩ _ _ (by unfold maxLen; omega) (by simp [maxLen, ByteArray.size, Crc.bytesOf]) (by go_cell) (by go_cell)).mono ?_
    rintro e w' ⟨rfl, rfl⟩
    rw [hres.out]
    go_wp2_with fail
    refine (awake_any _).mono ?_
    rintro e w3 ⟨rfl, hb3⟩
    go_wp2_with fail
    go_ret
    exact ⟨rfl, bapp (balloc (bapp (balloc (Below.refl _ _) _) hb1) _) hb3⟩

theorem combine_walk (a0 a1 : ByteArray) (w0 : a0.size ≤ maxLen) (w1 : a1.size ≤ maxLen) (w : World) :
    Calls Try.prog 9 #[.string a0, .string a1] w fun e w' => e = .returned (.bool true) ∧ Below w.heap.size w w' := by
  unfold maxLen at w0 w1
  by_cases h : 200 < (a0.size : Int)
  · go_enter Try.func9, Try.ntmps9
    go_wp2_with fail
    refine (awake_any _).mono ?_
    rintro e w' ⟨rfl, hb⟩
    go_wp2_with fail
    go_ret
    exact ⟨rfl, hb⟩
  by_cases h' : 200 < (a1.size : Int)
  · go_enter Try.func9, Try.ntmps9
    go_wp2_with fail
    refine (awake_any _).mono ?_
    rintro e w' ⟨rfl, hb⟩
    go_wp2_with fail
    go_ret
    exact ⟨rfl, hb⟩
  · have hres : Hid (Crc.comb (Crc.upd Crc.ini a0.data.toList) (Crc.upd Crc.ini a1.data.toList) a1.size = Crc.upd Crc.ini (a0.data.toList ++ a1.data.toList)) := Crc.comb_sum _ _
    go_enter Try.func9, Try.ntmps9
    go_wp2_with fail
    refine (sum_one a0 _ _ (by unfold maxLen; omega) (by go_cell)).mono ?_
    rintro e w' ⟨rfl, rfl⟩
    go_wp2_with fail
    refine (sum_one a1 _ _ (by unfold maxLen; omega) (by go_cell)).mono ?_
    rintro e w' ⟨rfl, rfl⟩
    go_wp2_with fail
    refine (combine_any _ _ _ _ (by omega)).mono ?_
    rintro e w' ⟨rfl, rfl⟩
    rw [hres.out]
    go_wp2_with fail
    refine (sum_two a0 a1 _ _ (by unfold maxLen; omega) (by unfold maxLen; omega) (by go_cell) (by go_cell)).mono ?_
    rintro e w' ⟨rfl, rfl⟩
    go_wp2_with fail
    refine (awake_any _).mono ?_
    rintro e w3 ⟨rfl, hb3⟩
    go_wp2_with fail
    go_ret
    exact ⟨rfl, bapp (balloc (balloc (balloc (Below.refl _ _) _) _) _) hb3⟩

/-- Combine at any length -/
def combI (a b : BitVec 32) (n : Int) : BitVec 32 := if n < 0 then 0#32 else Crc.comb a b n.toNat

theorem combine_int (a b : BitVec 32) (n : Int) (w : World) (h : n ≤ 9223372036854775807) :
    Calls Try.prog 19 #[.int .u32 (a.toNat : Int), .int .u32 (b.toNat : Int), .int .i64 n] w fun e w' => e = .returned (.int .u32 ((combI a b n).toNat : Int)) ∧ w = w' := by
  unfold combI
  by_cases hn : n < 0
  · rw [if_pos hn]
    exact combine_neg a b n w hn
  · rw [if_neg hn]
    obtain ⟨k, rfl⟩ := Int.eq_ofNat_of_zero_le (show 0 ≤ n by omega)
    exact combine_any a b k w (by omega)

theorem rcombine_int (a b : BitVec 32) (n : Int) (w : World) (h : n ≤ 9223372036854775807) :
    Calls Try.prog 20 #[.int .u32 (a.toNat : Int), .int .u32 (b.toNat : Int), .int .i64 n] w fun e w' => e = .returned (.int .u32 ((combI a b n).toNat : Int)) ∧ w = w' := by
  unfold combI
  by_cases hn : n < 0
  · rw [if_pos hn]
    exact rcombine_neg a b n w hn
  · rw [if_neg hn]
    obtain ⟨k, rfl⟩ := Int.eq_ofNat_of_zero_le (show 0 ≤ n by omega)
    exact rcombine_any a b k w (by omega)

theorem combI_assoc (a b c : BitVec 32) (n m : Int) (hn : 0 ≤ n) (hm : 0 ≤ m) : combI (combI a b n) c m = combI a (combI b c m) (n + m) := by
  unfold combI
  rw [if_neg (by omega), if_neg (by omega), if_neg (by omega), if_neg (by omega), Crc.comb_assoc, Int.toNat_add hn hm]

theorem i64_bd {n : Int} (h : (Lit.int .i64 n).wf = true) : -9223372036854775808 ≤ n ∧ n ≤ 9223372036854775807 := by
  simp [Lit.wf, IntKind.min, IntKind.max, IntKind.bits, IntKind.signed] at h
  omega

theorem lengths_walk (a0 a1 a2 a3 a4 : Int) (w0 : (Lit.int .u32 a0).wf = true) (w1 : (Lit.int .u32 a1).wf = true) (w2 : (Lit.int .u32 a2).wf = true) (w3 : (Lit.int .i64 a3).wf = true) (w4 : (Lit.int .i64 a4).wf = true) (w : World) :
    Calls Try.prog 10 #[.int .u32 a0, .int .u32 a1, .int .u32 a2, .int .i64 a3, .int .i64 a4] w fun e w' => e = .returned (.bool true) ∧ Below w.heap.size w w' := by
  obtain ⟨x, rfl⟩ := u32_bv w0
  obtain ⟨y, rfl⟩ := u32_bv w1
  obtain ⟨z, rfl⟩ := u32_bv w2
  have b3 := i64_bd w3
  have b4 := i64_bd w4
  clear w0 w1 w2 w3 w4
  obtain ⟨b31, b32⟩ := b3
  obtain ⟨b41, b42⟩ := b4
  have hif : (0 ≤ a3 ∧ 0 ≤ a4 ∧ a3 < 1099511627776 ∧ a4 < 1099511627776) ∨ a3 < 0 ∨ (0 ≤ a3 ∧ a4 < 0) ∨ (0 ≤ a3 ∧ 0 ≤ a4 ∧ 1099511627776 ≤ a3) ∨ (0 ≤ a3 ∧ 0 ≤ a4 ∧ a3 < 1099511627776 ∧ 1099511627776 ≤ a4) := by omega
  rcases hif with ⟨h1, h2, h3, h4⟩ | h1 | ⟨h1, h2⟩ | ⟨h1, h2, h3⟩ | ⟨h1, h2, h3, h4⟩
  · have hres := Lib.hid (combI_assoc x y z a3 a4 h1 h2)
    go_enter Try.func10, Try.ntmps10
    go_wp2_with fail
    refine (combine_int _ _ _ _ (by omega)).mono ?_
    rintro e w' ⟨rfl, rfl⟩
    go_wp2_with fail
    refine (rcombine_int _ _ _ _ (by omega)).mono ?_
    rintro e w' ⟨rfl, rfl⟩
    go_wp2_with fail
    refine (combine_int _ _ _ _ (by omega)).mono ?_
    rintro e w' ⟨rfl, rfl⟩
    go_wp2_with fail
    refine (rcombine_int _ _ _ _ (by omega)).mono ?_
    rintro e w' ⟨rfl, rfl⟩
    go_wp2_with fail
    refine (combine_int _ _ _ _ (by omega)).mono ?_
    rintro e w' ⟨rfl, rfl⟩
    go_wp2_with fail
    refine (combine_int _ _ _ _ (by omega)).mono ?_
    rintro e w' ⟨rfl, rfl⟩
    rw [hres.out]
    go_wp2_with fail
    refine (combine_int _ _ _ _ (by omega)).mono ?_
    rintro e w' ⟨rfl, rfl⟩
    go_wp2_with fail
    refine (combine_int _ _ _ _ (by omega)).mono ?_
    rintro e w' ⟨rfl, rfl⟩
    go_wp2_with fail
    refine (awake_any _).mono ?_
    rintro e w' ⟨rfl, hb⟩
    go_wp2_with fail
    go_ret
    exact ⟨rfl, hb⟩
  all_goals
    go_enter Try.func10, Try.ntmps10
    go_wp2_with fail
    refine (combine_int _ _ _ _ (by omega)).mono ?_
    rintro e w' ⟨rfl, rfl⟩
    go_wp2_with fail
    refine (rcombine_int _ _ _ _ (by omega)).mono ?_
    rintro e w' ⟨rfl, rfl⟩
    go_wp2_with fail
    refine (combine_int _ _ _ _ (by omega)).mono ?_
    rintro e w' ⟨rfl, rfl⟩
    go_wp2_with fail
    refine (rcombine_int _ _ _ _ (by omega)).mono ?_
    rintro e w' ⟨rfl, rfl⟩
    go_wp2_with fail
    refine (awake_any _).mono ?_
    rintro e w' ⟨rfl, hb⟩
    go_wp2_with fail
    go_ret
    exact ⟨rfl, hb⟩
end Go.Proofs.Ytcidjflgmhhkbaa
