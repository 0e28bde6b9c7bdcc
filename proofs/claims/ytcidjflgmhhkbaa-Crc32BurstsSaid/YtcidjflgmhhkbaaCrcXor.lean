/- The contract of the statements' own function xor: the string of the bytes' exclusive ors; and the walk of Crc32Affine. -/
import Derived.Test.YtcidjflgmhhkbaaCrcLaws2
import Derived.Laws.Cover1
namespace Go.Proofs.Ytcidjflgmhhkbaa
open Go.RowKit
set_option linter.unusedVariables false
attribute [local simp] Slots Slot look Is Oper.looksAt Op.operands Call.operands

theorem bits_xor8 (a b : UInt8) : bits .xor .u8 (a.toNat : Int) (b.toNat : Int) = ((a ^^^ b).toNat : Int) := by
  have h : bits .xor .u8 (a.toNat : Int) (b.toNat : Int) = IntKind.u8.wrap ((BitVec.ofInt 8 (a.toNat : Int) ^^^ BitVec.ofInt 8 (b.toNat : Int)).toNat : Int) := rfl
  have ha := a.toNat_lt
  have hb := b.toNat_lt
  have hx : a.toNat ^^^ b.toNat < 2 ^ 8 := Nat.xor_lt_two_pow (by omega) (by omega)
  rw [h, BitVec.ofInt_natCast, BitVec.ofInt_natCast, IntKind.wrap_u8, BitVec.toNat_xor, BitVec.toNat_ofNat, BitVec.toNat_ofNat, UInt8.toNat_xor, Nat.mod_eq_of_lt (by omega : a.toNat < 2 ^ 8), Nat.mod_eq_of_lt (by omega : b.toNat < 2 ^ 8)]
  omega

def xor3 (s t u : List UInt8) : List UInt8 := List.zipWith (· ^^^ ·) (List.zipWith (· ^^^ ·) s t) u

theorem xor3_take (s t u : ByteArray) (k : Nat) (h1 : k < s.size) (h2 : k < t.size) (h3 : k < u.size) :
    (xor3 s.data.toList t.data.toList u.data.toList).take (k + 1) = (xor3 s.data.toList t.data.toList u.data.toList).take k ++ [s[k] ^^^ t[k] ^^^ u[k]] := by
  have hs : s.data.toList.length = s.size := rfl
  have ht : t.data.toList.length = t.size := rfl
  have hu : u.data.toList.length = u.size := rfl
  rw [List.take_succ_eq_append_getElem (by simp [xor3]; omega)]
  congr 2
  simp [xor3]
  rfl

theorem byte_string (q : UInt8) (b : Nat) (W : World) (T : TypeId) (h : W.heap[b]? = some (.cells #[.int .u8 (q.toNat : Int)] T (0, 0))) :
    (convert 35 9 (.slice (some ⟨b, 0, none⟩) 1 1)).run Try.prog W = .ok (.string ⟨#[q]⟩) W := by
  have := run_convert_bytes_arg (P := Try.prog) W 35 5 Try.underlying35 Try.underlying5 b 0 1 1 [(q.toNat : Int)] rfl (by
    intro i hi
    obtain rfl : i = 0 := by omega
    exact row_cell h rfl) 9 Try.underlying9
  simpa [strOfNums] using this

set_option maxHeartbeats 400000 in
theorem xor_any (s t u : ByteArray) (ht : t.size = s.size) (hu : u.size = s.size) (hn : s.size ≤ 100) (w : World) :
    Calls Try.prog 18 #[.string s, .string t, .string u] w fun e w' => ∃ z : ByteArray, z.data.toList = xor3 s.data.toList t.data.toList u.data.toList ∧ e = .returned (.string z) ∧ Below w.heap.size w w' := by
  have HT := Lib.hid ht
  have HU := Lib.hid hu
  clear ht hu
  go_enter Try.func18, Try.ntmps18
  go_wp2_with fail
  go_loopw [7, 8] (fun o i wr => ∃ k : Nat, ∃ z : ByteArray, k ≤ s.size ∧ i = .int .i64 k ∧ o = .string z ∧ z.data.toList = (xor3 s.data.toList t.data.toList u.data.toList).take k ∧ Below w.heap.size w wr) (fun _ i _ => s.size - (intOf i).toNat)
  case atStart => exact ⟨0, _, Nat.zero_le _, rfl, rfl, rfl, Below.refl _ _⟩
  case round =>
    obtain ⟨k, z, hk, rfl, rfl, hz, hbel⟩ := hrel
    have HZ := Lib.hid hz
    have hzs : z.size ≤ 100 := by
      have h1 : z.size = z.data.toList.length := rfl
      rw [h1, hz]
      have := List.length_take_le k (xor3 s.data.toList t.data.toList u.data.toList)
      omega
    clear hz
    by_cases hlt : k < s.size
    · have hkt : k < t.size := by have := HT.out; omega
      have hku : k < u.size := by have := HU.out; omega
      have hfin := Lib.hid (xor3_take s t u k hlt hkt hku)
      obtain ⟨p, hp⟩ : ∃ p, p = s[k] ^^^ t[k] := ⟨_, rfl⟩
      obtain ⟨q, hq⟩ : ∃ q, q = p ^^^ u[k] := ⟨_, rfl⟩
      have hx1 : bits .xor .u8 (s[k].toNat : Int) (t[k].toNat : Int) = (p.toNat : Int) := by rw [hp]; exact bits_xor8 _ _
      have hx2 : bits .xor .u8 (p.toNat : Int) (u[k].toNat : Int) = (q.toNat : Int) := by rw [hq]; exact bits_xor8 _ _
      have HQ := Lib.hid hq
      have HP := Lib.hid hp
      clear hq hp
      have hcv : ∀ b W, W.heap[b]? = some (.cells #[.int .u8 (q.toNat : Int)] 5 (0, 0)) → (convert 35 9 (.slice (some ⟨b, 0, none⟩) 1 1)).run Try.prog W = .ok (.string ⟨#[q]⟩) W := fun b W h => byte_string q b W _ h
      go_wp2_with fail
      refine wp_region_grow (by kernel_rfl) (by kernel_rfl) ?_
      repeat
        first
        | (apply grow_is
           case h =>
            intro a w1 hg hs hsl
            clear hs
            simp at hsl
            try (first | (refine Exists.elim (row_spec hsl) ?_; rintro b ⟨hv, _, hh⟩) | (refine Exists.elim (row_spec hsl.1) ?_; rintro b ⟨hv, _, hh⟩))
            unfold growAt guardOk
            go_simp
            try go_bits
            try simp only [↓IntWalk.iteOmega]
            first
              | exact grow_same)
        | (refine grow_in (Row wr #[.int .u8 (q.toNat : Int)] 5 1 1) (Up.row _ _ _ _ _) ?_ ?_
           · intro a w1 hg hs hsl
             clear hs
             simp at hsl
             try (first | (refine Exists.elim (row_spec hsl) ?_; rintro b ⟨hv, _, hh⟩) | (refine Exists.elim (row_spec hsl.1) ?_; rintro b ⟨hv, _, hh⟩))
             unfold growAt guardOk
             go_simp
             try go_bits
             try simp only [↓IntWalk.iteOmega]
             with_reducible exact row_new hg)
      refine grow_fin ?_
      intro w1 hw1
      simp only [List.reverse_cons, List.reverse_nil, List.nil_append, List.cons_append, FinT, Is, forall_eq, List.setIfInBounds_toArray, List.set_cons_succ, List.set_cons_zero]
      intro v1 hv1
      go_wp2_with fail
      go_roundw
      case rel =>
        refine ⟨k + 1, _, by omega, by go_num, rfl, ?_, hbel.trans (hw1.mono hbel.size)⟩
        have e : (z ++ ⟨#[q]⟩ : ByteArray).data.toList = z.data.toList ++ [q] := by simp
        rw [e, HZ.out, hfin.out, HQ.out, HP.out]
      case measure => simp [intOf]; omega
    · obtain rfl : k = s.size := by omega
      go_wp2_with fail
      go_ret
      refine ⟨z, ?_, rfl, hbel⟩
      rw [HZ.out, List.take_of_length_le]
      have h1 : s.data.toList.length = s.size := rfl
      simp [xor3]; omega

theorem affine_law (s t u : List UInt8) (h1 : t.length = s.length) (h2 : u.length = s.length) :
    Crc.upd Crc.ini s ^^^ Crc.upd Crc.ini t ^^^ Crc.upd Crc.ini u = Crc.upd Crc.ini (xor3 s t u) := by
  unfold xor3
  have e : Crc.ini = (Crc.ini ^^^ Crc.ini) ^^^ Crc.ini := by rw [BitVec.xor_self, BitVec.zero_xor]
  conv => rhs; rw [e]
  rw [Crc.upd_xor2 _ u (by simp; omega), Crc.upd_xor2 s t h1.symm]

theorem min3 (a b c : Nat) (W : World) (ts : Array TypeId) (T : TypeId) : ∃ n : Nat, n ≤ a ∧ n ≤ b ∧ n ≤ c ∧ (Builtin.min_ ts T #[.int .i64 (a : Int), .int .i64 (b : Int), .int .i64 (c : Int)]).run Try.prog W = .ok (.int .i64 (n : Int)) W := by
  rw [run_min_int3]
  by_cases h1 : b < a
  · by_cases h2 : c < b
    · exact ⟨c, by omega, by omega, by omega, by rw [if_pos (by omega : (b : Int) < a), if_pos (by omega)]⟩
    · exact ⟨b, by omega, by omega, by omega, by rw [if_pos (by omega : (b : Int) < a), if_neg (by omega)]⟩
  · by_cases h2 : c < a
    · exact ⟨c, by omega, by omega, by omega, by rw [if_neg (by omega : ¬ (b : Int) < a), if_pos (by omega)]⟩
    · exact ⟨a, by omega, by omega, by omega, by rw [if_neg (by omega : ¬ (b : Int) < a), if_neg (by omega)]⟩

theorem affine_walk (a0 a1 a2 : ByteArray) (w0 : a0.size ≤ maxLen) (w1 : a1.size ≤ maxLen) (w2 : a2.size ≤ maxLen) (w : World) :
    Calls Try.prog 5 #[.string a0, .string a1, .string a2] w fun e w' => e = .returned (.bool true) ∧ Below w.heap.size w w' := by
  unfold maxLen at w0 w1 w2
  obtain ⟨n, hn0, hn1, hn2, hmin⟩ := min3 a0.size a1.size a2.size w #[3, 3, 3] 3
  by_cases hn : 100 < (n : Int)
  · go_enter Try.func5, Try.ntmps5
    go_wp2_with fail
    refine (awake_any _).mono ?_
    rintro e w' ⟨rfl, hb⟩
    go_wp2_with fail
    go_ret
    exact ⟨rfl, hb⟩
  · have hlaw := affine_law (a0.extract 0 n).data.toList (a1.extract 0 n).data.toList (a2.extract 0 n).data.toList (by simp; omega) (by simp; omega)
    have hxor := fun W => xor_any (a0.extract 0 n) (a1.extract 0 n) (a2.extract 0 n) (by simp; omega) (by simp; omega) (by simp; omega) W
    have hs : (a0.extract 0 n).size ≤ maxLen := by simp [maxLen]; omega
    have ht : (a1.extract 0 n).size ≤ maxLen := by simp [maxLen]; omega
    have hu : (a2.extract 0 n).size ≤ maxLen := by simp [maxLen]; omega
    have hzl : (xor3 (a0.extract 0 n).data.toList (a1.extract 0 n).data.toList (a2.extract 0 n).data.toList).length ≤ maxLen := by simp [maxLen, xor3]; omega
    have e0 : a0.extract 0 n = a0.extract 0 n := rfl
    generalize hG0 : a0.extract 0 n = s at hlaw hxor hs hzl
    generalize hG1 : a1.extract 0 n = t at hlaw hxor ht hzl
    generalize hG2 : a2.extract 0 n = u at hlaw hxor hu hzl
    clear e0
    have hb1 := bits_xor32 (Crc.upd Crc.ini s.data.toList) (Crc.upd Crc.ini t.data.toList)
    have hb2 := bits_xor32 (Crc.upd Crc.ini s.data.toList ^^^ Crc.upd Crc.ini t.data.toList) (Crc.upd Crc.ini u.data.toList)
    rw [hlaw] at hb2
    clear hlaw
    have hS := fun b W => sum_one s b W hs
    have hT := fun b W => sum_one t b W ht
    have hU := fun b W => sum_one u b W hu
    have hZ : Hid (∀ z : ByteArray, z.data.toList = xor3 s.data.toList t.data.toList u.data.toList → ∀ b W, W.cell? ⟨b, 0, none⟩ = some (.string z) → Calls Try.prog 14 #[.slice (some ⟨b, 0, none⟩) 1 1] W fun e w' => e = .returned (.int .u32 ((Crc.upd Crc.ini (xor3 s.data.toList t.data.toList u.data.toList)).toNat : Int)) ∧ W = w') := by
      intro z hz b W hc
      have hsz : z.size ≤ maxLen := by have : z.size = z.data.toList.length := rfl; rw [this, hz]; exact hzl
      have := sum_one z b W hsz hc
      rwa [hz] at this
    generalize Crc.upd Crc.ini (xor3 s.data.toList t.data.toList u.data.toList) = D at hb2 hZ
    generalize xor3 s.data.toList t.data.toList u.data.toList = zl at hxor hZ
    generalize Crc.upd Crc.ini s.data.toList ^^^ Crc.upd Crc.ini t.data.toList = AB at hb1 hb2
    generalize Crc.upd Crc.ini s.data.toList = A at hb1 hS
    generalize Crc.upd Crc.ini t.data.toList = B at hb1 hT
    generalize Crc.upd Crc.ini u.data.toList = C at hb2 hU
    have HS := Lib.hid hS
    have HT := Lib.hid hT
    have HU := Lib.hid hU
    have HX := Lib.hid hxor
    clear hS hT hU hxor hzl hs ht hu
    go_enter Try.func5, Try.ntmps5
    go_wp2_with fail
    refine wp_region_grow (by kernel_rfl) (by kernel_rfl) ?_
    repeat
      first
      | (apply grow_is
         case h =>
          intro a w1 hg hs hsl
          clear hs
          simp at hsl
          try (first | (refine Exists.elim (row_spec hsl) ?_; rintro b ⟨hv, _, hh⟩) | (refine Exists.elim (row_spec hsl.1) ?_; rintro b ⟨hv, _, hh⟩))
          unfold growAt guardOk
          go_simp
          try go_bits
          try simp only [↓IntWalk.iteOmega]
          first
            | exact grow_same)
    refine grow_fin ?_
    intro w1 hw1
    simp only [List.reverse_cons, List.reverse_nil, List.nil_append, List.cons_append, FinT, Is, forall_eq, List.setIfInBounds_toArray, List.set_cons_succ, List.set_cons_zero]
    go_wp2_with fail
    refine (HS.out _ _ (by go_cell)).mono ?_
    rintro e w' ⟨rfl, rfl⟩
    go_wp2_with fail
    refine (HT.out _ _ (by go_cell)).mono ?_
    rintro e w' ⟨rfl, rfl⟩
    go_wp2_with fail
    refine (HU.out _ _ (by go_cell)).mono ?_
    rintro e w' ⟨rfl, rfl⟩
    go_wp2_with fail
    refine (HX.out _).mono ?_
    rintro e w2 ⟨z, hz, rfl, hb⟩
    have HZ := Lib.hid hz
    clear hz
    go_wp2_with fail
    refine (hZ.out z HZ.out _ _ (by go_cell)).mono ?_
    rintro e w' ⟨rfl, rfl⟩
    go_wp2_with fail
    refine (awake_any _).mono ?_
    rintro e w' ⟨rfl, hb3⟩
    go_wp2_with fail
    go_ret
    exact ⟨rfl, bapp (balloc (bapp (balloc (balloc (balloc hw1 _) _) _) hb) _) hb3⟩
end Go.Proofs.Ytcidjflgmhhkbaa
