/- The law PlainframeEncode returns true. (Layer 26) -/
import Derived.Test.YtboafongjbdmoaaDoorPfAwake
namespace Go.Proofs.YtboafongjbdmoaaDoor
open Go.RowKit
open Go.Lib hiding intOf
set_option linter.unusedVariables false

theorem str_same (x : ByteArray) : (x.toList == x.toList) = true := beq_self_eq_true _

set_option maxRecDepth 100000 in
set_option maxHeartbeats 1600000 in
theorem lawEncode_any (a : Nat) (i t : Int) (s : ByteArray) (w : World) (hs : s.size ≤ maxLen) (ha : a < 4294967296) (hE : Env w) :
    Calls Tryd.prog 4 #[.agg #[.int .u32 a, .int .i64 i, .int .i64 t, .string s]] w fun e w' => e = .returned (.bool true) ∧ Ext w w' := by
  have HW := Lib.hid (fun W (h : Env W) => awake_any W h)
  have hs' := hs
  unfold maxLen at hs
  have hx0 : Ext w (w.alloc (.cells #[.int .u32 a, .int .i64 i, .int .i64 t, .string s] 31)) := (Ext.refl _).alloc _
  have hE0 := hE.ext hx0
  by_cases h6 : (200 : Int) < s.size
  · go_enter Tryd.func4, Tryd.ntmps4
    go_wp2_with fail
    refine (HW.out _ hE0).mono ?_
    rintro e w1 ⟨rfl, hx⟩
    go_wp2_with fail
    go_ret
    exact ⟨rfl, hx0.trans hx⟩
  have hA : ∀ W, Env W → Calls Tryd.prog 14 #[.agg #[.int .u32 a, .int .i64 i, .int .i64 t, .string s]] W fun e w' => e = .returned (.tuple #[.string (BA (encodeA ⟨a, i, t, s⟩).1), .int .i64 (encodeA ⟨a, i, t, s⟩).2]) ∧ Ext W w' := fun W h => encode_any ⟨a, i, t, s⟩ W ha hs' h
  have hB : ∀ W, Calls Tryd.prog 15 #[.agg #[.int .u32 a, .int .i64 i, .int .i64 t, .string s]] W fun e w' => e = .returned (.tuple #[.string (BA (encodeA ⟨a, i, t, s⟩).1), .int .i64 (encodeA ⟨a, i, t, s⟩).2]) ∧ Ext W w' := fun W => rencode_any ⟨a, i, t, s⟩ W ha hs'
  generalize encodeA ⟨a, i, t, s⟩ = R at *
  obtain ⟨l, E⟩ := R
  simp only at hA hB
  have hEE : (E == E) = true := beq_self_eq_true _
  have hss := str_same (BA l)
  generalize BA l = S at *
  have HA := Lib.hid hA
  have HB := Lib.hid hB
  clear hA hB
  go_enter Tryd.func4, Tryd.ntmps4
  go_wp2_with fail
  refine (HA.out _ hE0).mono ?_
  rintro e w1 ⟨rfl, hx1⟩
  have hc0 : w1.cell? ⟨w.heap.size, 0, none⟩ = some (.int .u32 a) := hx1.cell (by go_cell)
  have hc1 : w1.cell? ⟨w.heap.size, 1, none⟩ = some (.int .i64 i) := hx1.cell (by go_cell)
  have hc2 : w1.cell? ⟨w.heap.size, 2, none⟩ = some (.int .i64 t) := hx1.cell (by go_cell)
  have hc3 : w1.cell? ⟨w.heap.size, 3, none⟩ = some (.string s) := hx1.cell (by go_cell)
  have hx01 := hx0.trans hx1
  clear hx1 hx0
  generalize w.heap.size = bb at *
  go_wp2_with fail
  refine (HB.out _).mono ?_
  rintro e w2 ⟨rfl, hx2⟩
  have hx02 := hx01.trans hx2
  go_wp2_with fail
  refine (HW.out _ (hE.ext hx02)).mono ?_
  rintro e w3 ⟨rfl, hx3⟩
  go_wp2_with fail
  go_ret
  exact ⟨rfl, hx02.trans hx3⟩
end Go.Proofs.YtboafongjbdmoaaDoor
