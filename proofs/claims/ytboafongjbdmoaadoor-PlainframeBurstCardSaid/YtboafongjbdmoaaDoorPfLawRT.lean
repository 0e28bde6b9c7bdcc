/- Contract of syncmark.IsPlain; the law PlainframeRoundTrip returns true. (Layer 26) -/
import Derived.Test.YtboafongjbdmoaaDoorPfAwake
import Derived.Test.YtboafongjbdmoaaDoorPfDec3
import Derived.Test.YtboafongjbdmoaaDoorPfFlipP
namespace Go.Proofs.YtboafongjbdmoaaDoor
open Go.RowKit
open Go.Lib hiding intOf
set_option linter.unusedVariables false

/-- a plain mark stands at place i -/
def isPl (l : List UInt8) (i : Nat) : Bool := decide (i + 16 ≤ l.length) && decide ((l.drop i).take 16 = plainM)

theorem within_any (s : ByteArray) (i : Nat) (w : World) (hs : s.size ≤ maxLen) (hi : i ≤ maxLen) :
    Calls Tryd.prog 45 #[.string s, .int .i64 i] w fun e w' => e = .returned (.bool (decide (i + 16 ≤ s.size))) ∧ w = w' := by
  unfold maxLen at hs hi
  by_cases h1 : i + 16 ≤ s.size
  · rw [decide_eq_true h1]
    go_enter Tryd.func45, Tryd.ntmps45
    go_wp2_with fail
    go_ret
    exact ⟨ret_bool (by first | rfl | exact decide_eq_true (by omega) | exact he), rfl⟩
  · rw [decide_eq_false h1]
    by_cases h2 : i ≤ s.size
    · go_enter Tryd.func45, Tryd.ntmps45
      go_wp2_with fail
      go_ret
      exact ⟨ret_bool (decide_eq_false (by omega)), rfl⟩
    · go_enter Tryd.func45, Tryd.ntmps45
      go_wp2_with fail
      go_ret
      exact ⟨rfl, rfl⟩

theorem isPlain_any (s : ByteArray) (i : Nat) (w : World) (hs : s.size ≤ maxLen) (hi : i ≤ maxLen) :
    Calls Tryd.prog 19 #[.string s, .int .i64 i] w fun e w' => e = .returned (.bool (isPl s.data.toList i)) ∧ w = w' := by
  have hW := fun W => within_any s i W hs hi
  unfold maxLen at hs hi
  unfold isPl
  rw [show s.data.toList.length = s.size from rfl]
  by_cases h1 : i + 16 ≤ s.size
  · rw [decide_eq_true h1] at hW ⊢
    obtain ⟨b, hb⟩ : ∃ b, b = decide ((s.data.toList.drop i).take 16 = plainM) := ⟨_, rfl⟩
    have he : ((s.extract i (i + 16)).toList == ([48, 48, 48, 48, 48, 49, 49, 48, 48, 49, 48, 49, 48, 49, 49, 49] : List UInt8)) = b := by
      rw [hb, ByteArray.toList_eq, ext_BA, BA_data, Nat.add_sub_cancel_left, Bool.eq_iff_iff, beq_iff_eq, decide_eq_true_eq]
    rw [← hb]
    have HW := Lib.hid hW
    clear hW hb
    rw [Bool.true_and]
    go_enter Tryd.func19, Tryd.ntmps19
    go_wp2_with fail
    refine (HW.out _).mono ?_
    rintro e w1 ⟨rfl, rfl⟩
    go_wp2_with fail
    go_ret
    exact ⟨ret_bool (by first | rfl | exact he), rfl⟩
  · rw [decide_eq_false h1] at hW ⊢
    have HW := Lib.hid hW
    clear hW
    rw [Bool.false_and]
    go_enter Tryd.func19, Tryd.ntmps19
    go_wp2_with fail
    refine (HW.out _).mono ?_
    rintro e w1 ⟨rfl, rfl⟩
    go_wp2_with fail
    go_ret
    exact ⟨rfl, rfl⟩

theorem pc_eq (a : Nat) (i t : Int) (s : ByteArray) (w : World) :
    (binOp .eql 31 (.agg #[.int .u32 a, .int .i64 i, .int .i64 t, .string s]) (.agg #[.int .u32 a, .int .i64 i, .int .i64 t, .string s])).run Tryd.prog w = .ok (.bool true) w := by
  have hu : Tryd.prog.underlying 31 = some (.struct (Tryd.prog.fieldsOf 31)) := by unfold Program.fieldsOf; rw [Tryd.underlying31]
  rw [run_eql_struct, run_equalIn_struct w 9999 _ _ _ hu (by kernel_rfl)]
  unfold Program.fieldsOf
  rw [Tryd.underlying31]
  simp [Op.eqFields, go_sem, Tryd.underlying9]
theorem enc_cut (p : Pc) (h : p.text.size = 64) : (BA (encL p)).size = 768 ∧ (BA (encL p)).extract 16 768 = BA (cellsB (sealB (headB p))) ∧ isPl (encL p) 0 = true := by
  refine ⟨?_, ?_, ?_⟩
  · rw [BA_size]; unfold encL
    rw [List.length_append, cells_len h]; rfl
  · rw [ext_BA]
    unfold encL
    rw [BA_data, List.drop_append, List.drop_eq_nil_of_le (by decide)]
    show BA ((([] : List UInt8) ++ (cellsB (sealB (headB p))).drop 0).take 752) = _
    rw [List.nil_append, List.drop_zero, List.take_of_length_le (by rw [cells_len h]; exact Nat.le_refl _)]
  · unfold isPl
    rw [decide_eq_true (by unfold encL; rw [List.length_append, cells_len h]; decide), Bool.true_and, decide_eq_true_eq, List.drop_zero]
    rfl

set_option maxRecDepth 100000 in
set_option maxHeartbeats 1600000 in
theorem lawRT_any (a : Nat) (i t : Int) (s : ByteArray) (w : World) (hs : s.size ≤ maxLen) (ha : a < 4294967296) (hE : Env w) :
    Calls Tryd.prog 8 #[.agg #[.int .u32 a, .int .i64 i, .int .i64 t, .string s]] w fun e w' => e = .returned (.bool true) ∧ Ext w w' := by
  have HW := Lib.hid (fun W (h : Env W) => awake_any W h)
  have hs' := hs
  unfold maxLen at hs
  have hx0 : Ext w (w.alloc (.cells #[.int .u32 a, .int .i64 i, .int .i64 t, .string s] 31)) := (Ext.refl _).alloc _
  have hE0 := hE.ext hx0
  have HB0 : Hid (Blk (w.alloc (.cells #[.int .u32 a, .int .i64 i, .int .i64 t, .string s] 31)) w.heap.size 31 [.int .u32 a, .int .i64 i, .int .i64 t, .string s]) := by show (w.heap.push _)[w.heap.size]? = _; simp
  by_cases h6 : (200 : Int) < s.size
  · go_enter Tryd.func8, Tryd.ntmps8
    go_wp2_with fail
    refine (HW.out _ hE0).mono ?_
    rintro e w1 ⟨rfl, hx⟩
    go_wp2_with fail
    go_ret
    exact ⟨rfl, hx0.trans hx⟩
  have hA : ∀ W, Env W → Calls Tryd.prog 14 #[.agg #[.int .u32 a, .int .i64 i, .int .i64 t, .string s]] W fun e w' => e = .returned (.tuple #[.string (BA (encodeA ⟨a, i, t, s⟩).1), .int .i64 (encodeA ⟨a, i, t, s⟩).2]) ∧ Ext W w' := fun W h => encode_any ⟨a, i, t, s⟩ W ha hs' h
  unfold encodeA at hA
  by_cases hc : checkZ i t s = 0
  rotate_left
  · rw [if_neg (show ¬ checkZ (⟨a, i, t, s⟩ : Pc).index (⟨a, i, t, s⟩ : Pc).total (⟨a, i, t, s⟩ : Pc).text = 0 from hc)] at hA
    simp only at hA
    have hE0' : (checkZ i t s == 0) = false := by simpa using hc
    have hE1' : (checkZ i t s != 0) = true := by simpa using hc
    generalize checkZ i t s = E at *
    have HA : Hid (∀ W, Env W → Calls Tryd.prog 14 #[.agg #[.int .u32 a, .int .i64 i, .int .i64 t, .string s]] W fun e w' => e = .returned (.tuple #[.string ⟨#[]⟩, .int .i64 E]) ∧ Ext W w') := hA
    clear hA
    go_enter Tryd.func8, Tryd.ntmps8
    go_wp2_with fail
    refine (HA.out _ hE0).mono ?_
    rintro e w1 ⟨rfl, hx1⟩
    have hx01 := hx0.trans hx1
    go_wp2_with fail
    refine (HW.out _ (hE.ext hx01)).mono ?_
    rintro e w3 ⟨rfl, hx3⟩
    go_wp2_with fail
    go_ret
    exact ⟨rfl, hx01.trans hx3⟩
  rw [if_pos (show checkZ (⟨a, i, t, s⟩ : Pc).index (⟨a, i, t, s⟩ : Pc).total (⟨a, i, t, s⟩ : Pc).text = 0 from hc)] at hA
  simp only at hA
  have h64 := (check_ok hc).2.2.2.2.1
  obtain ⟨hz, hcut, hpl⟩ := enc_cut ⟨a, i, t, s⟩ h64
  have hP := fun W => isPlain_any (BA (encL ⟨a, i, t, s⟩)) 0 W (by rw [hz]; unfold maxLen; omega) (by unfold maxLen; omega)
  rw [BA_data, hpl] at hP
  have hD := fun W h => decode_any (BA (cellsB (sealB (headB ⟨a, i, t, s⟩)))) W (by rw [BA_size, cells_len (p := ⟨a, i, t, s⟩) h64]; decide) h
  rw [BA_data, decode_cells _ (seal_len (p := ⟨a, i, t, s⟩) h64), text_back ⟨a, i, t, s⟩ ha hc, ← hcut] at hD
  have HD : Hid (∀ W, Env W → Calls Tryd.prog 18 #[.string ((BA (encL ⟨a, i, t, s⟩)).extract 16 768)] W fun e w' => e = .returned (.tuple #[.agg #[.int .u32 a, .int .i64 i, .int .i64 t, .string s], .int .i64 0]) ∧ Ext W w') := hD
  generalize BA (encL ⟨a, i, t, s⟩) = S at *
  have HA := Lib.hid hA
  have HP := Lib.hid hP
  have hq := pc_eq a i t s
  clear hA hP hD hcut hpl hc
  go_enter Tryd.func8, Tryd.ntmps8
  go_wp2_with fail
  refine (HA.out _ hE0).mono ?_
  rintro e w1 ⟨rfl, hx1⟩
  have HB1 := Lib.hid (HB0.out.ext hx1)
  have hx01 := hx0.trans hx1
  clear hx1 hx0
  go_wp2_with fail
  refine (HP.out _).mono ?_
  rintro e w2 ⟨rfl, rfl⟩
  go_wp2_with fail
  refine (HD.out _ (hE.ext hx01)).mono ?_
  rintro e w2 ⟨rfl, hx2⟩
  have HB2 := Lib.hid (HB1.out.ext hx2)
  have hx02 := hx01.trans hx2
  obtain ⟨c0, c1, c2, c3, -⟩ := four (HB2.out.alloc (.cells #[.int .u32 a, .int .i64 i, .int .i64 t, .string s] 31))
  clear hx2
  go_wp2_with fail
  refine (HW.out _ ?_).mono ?_
  · exact hE.ext (hx02.alloc _)
  rintro e w3 ⟨rfl, hx3⟩
  go_wp2_with fail
  go_ret
  exact ⟨rfl, (hx02.alloc _).trans hx3⟩
end Go.Proofs.YtboafongjbdmoaaDoor
