/- The argument of the law RetentionRelease opened. -/
import Derived.Test.YtkbaappeakgnoaaGreatDoorRetOpen2
namespace Go.Proofs.YtkbaappeakgnoaaGreatDoor
open Go.ChangeShapes Go.WideShapes Go.RowKit Go.Lib Go.Deep
set_option linter.unusedVariables false

variable {H : Type} {enc : TypeId × Value → H}

set_option maxRecDepth 100000 in
theorem open_named {W : World} {r : Reach} {b0 : Nat} {v : Value} {d : DataW H} {ps : List MemPlace} (hval : Value.okWide Tryz.prog W r b0 41 v) (h : DataW.Trod enc Tryz.prog W 0 (fun _ => true) true 41 v d ps) :
    ∃ (A : Option Addr) (n cap : Nat) (l : List Hold) (p q : ByteArray) (date till : Int),
      v = .agg #[.slice A n cap, .string p, .string q, .int .i64 date, .int .i64 till] ∧ HLst W A n cap l ∧ (∀ h ∈ l, h.1.size ≤ maxLen) ∧ p.size + 1 ≤ Rows.uptoBulk d ∧ q.size + 1 ≤ Rows.uptoBulk d := by
  obtain ⟨cs, rfl, hsz⟩ := okWide_struct Tryz.underlying41 hval
  rw [show Tryz.prog.cellsOf 41 = 5 by kernel_rfl] at hsz
  obtain ⟨l⟩ := cs
  match l, hsz with
  | [c, c0, c1, c2, c3], _ =>
    obtain ⟨fuel, hf⟩ := h
    obtain ⟨xs, n, _, hx, _, hlen, hg⟩ := DataW.trod_struct Tryz.underlying41 hf
    have g0 := hg 0 _ rfl
    have g1 := hg 1 _ rfl
    have g2 := hg 2 _ rfl
    have g3 := hg 3 _ rfl
    have g4 := hg 4 _ rfl
    match xs, hlen with
    | [y0, y1, y2, y3, y4], _ =>
      have k0 : Tryz.prog.cellsOf 22 = 1 := by kernel_rfl
      have k1 : Tryz.prog.cellsOf 9 = 1 := by kernel_rfl
      have k2 : Tryz.prog.cellsOf 3 = 1 := by kernel_rfl
      have g0 : DataW.trod enc Tryz.prog W 0 (fun _ => true) true n 22 [c] = some y0 := by simpa [Value.cells, k0] using g0
      have g1 : DataW.trod enc Tryz.prog W 0 (fun _ => true) true n 9 [c0] = some y1 := by simpa [Value.cells, k1] using g1
      have g2 : DataW.trod enc Tryz.prog W 0 (fun _ => true) true n 9 [c1] = some y2 := by simpa [Value.cells, k1] using g2
      have g3 : DataW.trod enc Tryz.prog W 0 (fun _ => true) true n 3 [c2] = some y3 := by simpa [Value.cells, k2] using g3
      have g4 : DataW.trod enc Tryz.prog W 0 (fun _ => true) true n 3 [c3] = some y4 := by simpa [Value.cells, k2] using g4
      obtain ⟨A, m, cap, l, rfl, hl, hz⟩ := hold_cell g0
      obtain ⟨p, rfl, hy1⟩ := str_cell g1
      obtain ⟨q, rfl, hy2⟩ := str_cell g2
      obtain ⟨z7, rfl⟩ := int_cell g3
      obtain ⟨z8, rfl⟩ := int_cell g4
      refine ⟨A, m, cap, l, p, q, z7, z8, rfl, hl, hz, ?_⟩
      simp only [Prod.mk.injEq] at hx
      rw [hx.1]
      have h1 : p.data.toList.length = p.size := rfl
      have h2 : q.data.toList.length = q.size := rfl
      simp only [List.map_cons, List.map_nil, hy1, hy2, Rows.uptoBulk, Rows.uptoBulkAll]
      have := uptoBulk_pos y0.1
      constructor
      · omega
      · omega
end Go.Proofs.YtkbaappeakgnoaaGreatDoor
