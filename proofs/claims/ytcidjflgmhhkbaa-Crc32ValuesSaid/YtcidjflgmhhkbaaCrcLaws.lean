/- The walks of the statements of layer 3 (crc32): each returns true and changes nothing that was there. -/
import Derived.Test.YtcidjflgmhhkbaaCrcComb
namespace Go.Proofs.Ytcidjflgmhhkbaa
open Go.RowKit

theorem u32_bv {n : Int} (h : (Lit.int .u32 n).wf = true) : ∃ x : BitVec 32, n = (x.toNat : Int) := by
  have hb : 0 ≤ n ∧ n < 4294967296 := by
    simp [Lit.wf, IntKind.min, IntKind.max, IntKind.bits, IntKind.signed] at h
    omega
  refine ⟨BitVec.ofNat 32 n.toNat, ?_⟩
  simp
  omega

theorem sum_one (s : ByteArray) (b : Nat) (W : World) (h : s.size ≤ maxLen) (hc : W.cell? ⟨b, 0, none⟩ = some (.string s)) :
    Calls Try.prog 14 #[.slice (some ⟨b, 0, none⟩) 1 1] W fun e w' => e = .returned (.int .u32 ((Crc.upd Crc.ini s.data.toList).toNat : Int)) ∧ W = w' := by
  have := sum_any [s] b 0 1 W (by simp [maxLen]) (by
    intro i hi
    obtain rfl : i = 0 := by simp at hi; omega
    exact h) (by
    intro i hi
    obtain rfl : i = 0 := by simp at hi; omega
    exact hc)
  simpa [bytesAll] using this

theorem rsum_one (s : ByteArray) (b : Nat) (W : World) (h : s.size ≤ maxLen) (hc : W.cell? ⟨b, 0, none⟩ = some (.string s)) :
    Calls Try.prog 15 #[.slice (some ⟨b, 0, none⟩) 1 1] W fun e w' => e = .returned (.int .u32 ((Crc.upd Crc.ini s.data.toList).toNat : Int)) ∧ W = w' := by
  have := rsum_any [s] b 0 1 W (by simp [maxLen]) (by
    intro i hi
    obtain rfl : i = 0 := by simp at hi; omega
    exact h) (by
    intro i hi
    obtain rfl : i = 0 := by simp at hi; omega
    exact hc)
  simpa [bytesAll] using this

theorem sum_two (s t : ByteArray) (b : Nat) (W : World) (h : s.size ≤ maxLen) (h' : t.size ≤ maxLen) (hc : W.cell? ⟨b, 0, none⟩ = some (.string s)) (hc' : W.cell? ⟨b, 1, none⟩ = some (.string t)) :
    Calls Try.prog 14 #[.slice (some ⟨b, 0, none⟩) 2 2] W fun e w' => e = .returned (.int .u32 ((Crc.upd Crc.ini (s.data.toList ++ t.data.toList)).toNat : Int)) ∧ W = w' := by
  have := sum_any [s, t] b 0 2 W (by simp [maxLen]) (by
    intro i hi
    match i, hi with
    | 0, _ => exact h
    | 1, _ => exact h') (by
    intro i hi
    match i, hi with
    | 0, _ => exact hc
    | 1, _ => exact hc')
  simpa [bytesAll] using this

theorem sum_three (s t u : ByteArray) (b : Nat) (W : World) (h : s.size ≤ maxLen) (h' : t.size ≤ maxLen) (h'' : u.size ≤ maxLen) (hc : W.cell? ⟨b, 0, none⟩ = some (.string s)) (hc' : W.cell? ⟨b, 1, none⟩ = some (.string t)) (hc'' : W.cell? ⟨b, 2, none⟩ = some (.string u)) :
    Calls Try.prog 14 #[.slice (some ⟨b, 0, none⟩) 3 3] W fun e w' => e = .returned (.int .u32 ((Crc.upd Crc.ini (s.data.toList ++ (t.data.toList ++ u.data.toList))).toNat : Int)) ∧ W = w' := by
  have := sum_any [s, t, u] b 0 3 W (by simp [maxLen]) (by
    intro i hi
    match i, hi with
    | 0, _ => exact h
    | 1, _ => exact h'
    | 2, _ => exact h'') (by
    intro i hi
    match i, hi with
    | 0, _ => exact hc
    | 1, _ => exact hc'
    | 2, _ => exact hc'')
  simpa [bytesAll] using this

theorem awake_sum : ((Crc.upd Crc.ini [49, 50, 51, 52, 53, 54, 55, 56, 57]).toNat : Int) = 58124007 := by
  rw [show Crc.upd Crc.ini [49, 50, 51, 52, 53, 54, 55, 56, 57] = 58124007#32 from by decide +kernel]
  rfl
theorem awake_ini : (Crc.ini.toNat : Int) = 4294967295 := rfl
theorem awake_num : (58124007 : Int) = ((58124007#32).toNat : Int) := rfl
theorem awake_bytes : (⟨(Crc.bytesOf 58124007#32).toArray⟩ : ByteArray) = ⟨#[3, 118, 230, 231]⟩ := by decide +kernel

theorem awake_any (w : World) : Calls Try.prog 11 #[] w fun e w' => e = .returned (.bool true) ∧ Below w.heap.size w w' := by
  have h1 := Lib.hid awake_sum
  have h2 := Lib.hid awake_bytes
  have h3 := Lib.hid awake_ini
  have h4 := Lib.hid awake_num
  go_enter Try.func11, Try.ntmps11
  go_wp2_with fail
  refine (sum_one ⟨#[49, 50, 51, 52, 53, 54, 55, 56, 57]⟩ _ _ (by simp [maxLen, ByteArray.size]) (by go_cell)).mono ?_
  rintro e w' ⟨rfl, rfl⟩
  rw [h1.out]
  go_wp2_with fail
  refine (sum_nil _).mono ?_
  rintro e w' ⟨rfl, rfl⟩
  rw [h3.out]
  go_wp2_with fail
  rw [h4.out]
  refine (bytes_any 58124007#32 _).mono ?_
  rintro e w' ⟨rfl, hb⟩
  rw [h2.out]
  go_wp2_with fail
  go_ret
  exact ⟨rfl, ((Below.refl _ _).alloc (Nat.le_refl _) _).trans (hb.mono (by simp))⟩

theorem values_walk (a0 : Int) (a1 : ByteArray) (w0 : (Lit.int .u32 a0).wf = true) (w1 : a1.size ≤ maxLen) (w : World) :
    Calls Try.prog 3 #[.int .u32 a0, .string a1] w fun e w' => e = .returned (.bool true) ∧ Below w.heap.size w w' := by
  obtain ⟨x, rfl⟩ := u32_bv w0
  clear w0
  unfold maxLen at w1
  by_cases h : 300 < (a1.size : Int)
  · go_enter Try.func3, Try.ntmps3
    go_wp2_with fail
    refine (awake_any _).mono ?_
    rintro e w' ⟨rfl, hb⟩
    go_wp2_with fail
    go_ret
    exact ⟨rfl, hb⟩
  · go_enter Try.func3, Try.ntmps3
    go_wp2_with fail
    refine (update_any _ _ _ (by unfold maxLen; omega)).mono ?_
    rintro e w' ⟨rfl, rfl⟩
    go_wp2_with fail
    refine (rupdate_any _ _ _ (by unfold maxLen; omega)).mono ?_
    rintro e w' ⟨rfl, rfl⟩
    go_wp2_with fail
    refine (sum_one a1 _ _ (by unfold maxLen; omega) (by go_cell)).mono ?_
    rintro e w' ⟨rfl, rfl⟩
    go_wp2_with fail
    refine (rsum_one a1 _ _ (by unfold maxLen; omega) (by go_cell)).mono ?_
    rintro e w' ⟨rfl, rfl⟩
    go_wp2_with fail
    refine (bytes_any _ _).mono ?_
    rintro e w1 ⟨rfl, hb1⟩
    go_wp2_with fail
    refine (rbytes_any _ _).mono ?_
    rintro e w2 ⟨rfl, hb2⟩
    go_wp2_with fail
    refine (awake_any _).mono ?_
    rintro e w3 ⟨rfl, hb3⟩
    go_wp2_with fail
    go_ret
    have hb1' := hb1.mono (show w.heap.size ≤ _ by simp; omega)
    have hb12 := ((((Below.refl w.heap.size w).alloc (Nat.le_refl _) _).alloc (by simp) _).trans hb1')
    exact ⟨rfl, (hb12.trans (hb2.mono hb12.size)).trans (hb3.mono (hb12.trans (hb2.mono hb12.size)).size)⟩
end Go.Proofs.Ytcidjflgmhhkbaa
