/- The contract of retention.Apply at entries that are neither holds nor releases. -/
import Derived.Test.YtkbaappeakgnoaaGreatDoorRetWalk
namespace Go.Proofs.YtkbaappeakgnoaaGreatDoor
open Go.RowKit Go.Lib
set_option linter.unusedVariables false

/-- has a hold another path -/
def notAt (p : ByteArray) (h : Hold) : Bool := !(h.1.toList == p.toList)

theorem other_any (p : ByteArray) (b : Nat) (h : Hold) (w : World) (hd : w.cell? ⟨b, 1, none⟩ = some (.string p)) :
    Calls Tryz.prog 19 #[.agg #[.string h.1, .int .i64 h.2], .pointer (some ⟨b, 0, none⟩)] w fun e w' => e = .returned (.bool (notAt p h)) ∧ Ext w w' := by
  have hb := cell_lt hd
  simp only at hb
  unfold notAt
  go_enter Tryz.func19, Tryz.ntmps19
  go_wp2_with fail
  go_ret
  exact ⟨rfl, (Ext.refl _).alloc _⟩

set_option maxHeartbeats 2000000 in
set_option maxRecDepth 100000 in
theorem applyOther_any (kind : Int) (p : ByteArray) (a2 a3 a4 a5 a6 : Value) (date : Int) (A : Option Addr) (n cap : Nat) (l : List Hold) (w : World) (h5 : kind ≠ 5) (h6 : kind ≠ 6) (hl : HLst w A n cap l) (hr : n * 24 ≤ 140737488351232) :
    Calls Tryz.prog 10 #[.slice A n cap, .agg #[.int .i64 kind, .string p, a2, a3, a4, a5, a6], .int .i64 date] w fun e w' => ∃ B c, e = .returned (.tuple #[.slice B (l.filter (inForce date)).length c, .int .i64 0]) ∧ HLst w' B (l.filter (inForce date)).length c (l.filter (inForce date)) ∧ Ext w w' := by
  have hact := fun W (hW : HLst W A n cap l) => active_any date A n cap l W hW hr
  have hlen := hl.len
  have hfl := List.length_filter_le (inForce date) l
  generalize l.filter (inForce date) = m at *
  have hmr : m.length * 24 ≤ 140737488351232 := by omega
  have HACT := Lib.hid hact
  have k5 : (kind == 5) = false := beq_eq_false_iff_ne.2 h5
  have k6 : (kind == 6) = false := beq_eq_false_iff_ne.2 h6
  clear hact hfl h5 h6 hlen
  have hx0 : Ext w (w.alloc (.cells #[.int .i64 kind, .string p, a2, a3, a4, a5, a6] 32)) := (Ext.refl w).alloc _
  go_enter Tryz.func10, Tryz.ntmps10
  go_wp2_with fail
  refine (HACT.out _ (hl.ext hx0)).mono ?_
  rintro e w1 ⟨v, rfl, hown, hx⟩
  obtain ⟨B, c1, rfl, hl1⟩ := HLst.of_own hown
  have he1 : w1.cell? ⟨w.heap.size, 1, none⟩ = some (.string p) := hx.cell (by simp)
  have he0 : w1.cell? ⟨w.heap.size, 0, none⟩ = some (.int .i64 kind) := hx.cell (by simp)
  clear hown
  go_wp2_with fail
  refine (selected_any 19 #[.pointer (some ⟨w.heap.size, 0, none⟩)] (notAt p) B m.length c1 m w1 hl1 ⟨fun _ _ => by simp [callFunc, go_sem]; rfl, fun W h _ hxW => other_any p w.heap.size h W (hxW.cell he1)⟩ hmr).mono ?_
  rintro e w2 ⟨v2, rfl, hown2, hx2⟩
  have hf0 := hx2.cell he0
  have hl2 := hl1.ext hx2
  clear hown2 hl1 he1 he0
  go_wp2_with fail
  go_ret2
  exact ⟨B, c1, rfl, hl2, (hx0.trans hx).trans hx2⟩
end Go.Proofs.YtkbaappeakgnoaaGreatDoor
