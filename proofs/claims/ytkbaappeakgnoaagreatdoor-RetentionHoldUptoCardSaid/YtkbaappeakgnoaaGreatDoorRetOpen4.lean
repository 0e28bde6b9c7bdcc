/- The argument of the law RetentionHold opened. -/
import Derived.Test.YtkbaappeakgnoaaGreatDoorRetOpen2
import Derived.OpenShut
namespace Go.Proofs.YtkbaappeakgnoaaGreatDoor
open Go.ChangeShapes Go.WideShapes Go.RowKit Go.Lib Go.Deep
set_option linter.unusedVariables false

variable {H : Type} {enc : TypeId × Value → H}

theorem u16_cell {W : World} {fuel : Nat} {c : Value} {y : DataW H × List MemPlace} (hf : DataW.trod enc Tryz.prog W 0 (fun _ => true) true fuel 23 [c] = some y) : ∃ z : Nat, c = .int .u16 (z : Int) ∧ z ≤ 65535 := by
  obtain ⟨z, hz, -, hw⟩ := DataW.trod_int Tryz.underlying23 hf
  simp only [Lit.wf, IntKind.min, IntKind.max, IntKind.signed, IntKind.bits, Bool.and_eq_true, decide_eq_true_eq, Bool.false_eq_true, if_false] at hw
  refine ⟨z.toNat, ?_, by omega⟩
  have hz : c = .int .u16 z := by simpa using hz
  rw [hz]
  congr 1
  omega
set_option maxRecDepth 100000 in
theorem open_held {W : World} {r : Reach} {b0 : Nat} {v : Value} {d : DataW H} {ps : List MemPlace} (hval : Value.okWide Tryz.prog W r b0 26 v) (h : DataW.Trod enc Tryz.prog W 0 (fun _ => true) true 26 v d ps) :
    ∃ (A : Option Addr) (n cap : Nat) (l : List Hold) (p q : ByteArray) (x1 x2 x3 : Nat),
      v = .agg #[.slice A n cap, .string p, .string q, .int .u16 (x1 : Int), .int .u16 (x2 : Int), .int .u16 (x3 : Int)] ∧ HLst W A n cap l ∧ (∀ h ∈ l, h.1.size ≤ maxLen) ∧ x1 ≤ 65535 ∧ x2 ≤ 65535 ∧ x3 ≤ 65535 ∧ p.size + 1 ≤ Rows.uptoBulk d ∧ q.size + 1 ≤ Rows.uptoBulk d := by
  obtain ⟨cs, rfl, hsz⟩ := okWide_struct Tryz.underlying26 hval
  rw [show Tryz.prog.cellsOf 26 = 6 by kernel_rfl] at hsz
  obtain ⟨l⟩ := cs
  match l, hsz with
  | [c, c0, c1, c2, c3, c4], _ =>
    obtain ⟨fuel, hf⟩ := h
    obtain ⟨xs, n, _, hx, _, hlen, hg⟩ := DataW.trod_struct Tryz.underlying26 hf
    have g0 := hg 0 _ rfl
    have g1 := hg 1 _ rfl
    have g2 := hg 2 _ rfl
    have g3 := hg 3 _ rfl
    match xs, hlen with
    | [y0, y1, y2, y3], _ =>
      have k0 : Tryz.prog.cellsOf 22 = 1 := by kernel_rfl
      have k1 : Tryz.prog.cellsOf 9 = 1 := by kernel_rfl
      have k2 : Tryz.prog.cellsOf 24 = 3 := by kernel_rfl
      have k3 : Tryz.prog.cellsOf 23 = 1 := by kernel_rfl
      have g0 : DataW.trod enc Tryz.prog W 0 (fun _ => true) true n 22 [c] = some y0 := by simpa [Value.cells, k0] using g0
      have g1 : DataW.trod enc Tryz.prog W 0 (fun _ => true) true n 9 [c0] = some y1 := by simpa [Value.cells, k1] using g1
      have g2 : DataW.trod enc Tryz.prog W 0 (fun _ => true) true n 9 [c1] = some y2 := by simpa [Value.cells, k1] using g2
      have g3 : DataW.trod enc Tryz.prog W 0 (fun _ => true) true n 24 [c2, c3, c4] = some y3 := by simpa [Value.cells, k2] using g3
      obtain ⟨zs, m, _, _, _, hzl, hze⟩ := DataW.trod_array Tryz.underlying24 g3
      match zs, hzl with
      | [z0, z1, z2], _ =>
        have e0 : DataW.trod enc Tryz.prog W 0 (fun _ => true) true m 23 [c2] = some z0 := by simpa [k3] using hze 0 (by decide)
        have e1 : DataW.trod enc Tryz.prog W 0 (fun _ => true) true m 23 [c3] = some z1 := by simpa [k3] using hze 1 (by decide)
        have e2 : DataW.trod enc Tryz.prog W 0 (fun _ => true) true m 23 [c4] = some z2 := by simpa [k3] using hze 2 (by decide)
        obtain ⟨A, a, cap, l, rfl, hl, hz⟩ := hold_cell g0
        obtain ⟨p, rfl, hy1⟩ := str_cell g1
        obtain ⟨q, rfl, hy2⟩ := str_cell g2
        obtain ⟨x1, rfl, b1⟩ := u16_cell e0
        obtain ⟨x2, rfl, b2⟩ := u16_cell e1
        obtain ⟨x3, rfl, b3⟩ := u16_cell e2
        refine ⟨A, a, cap, l, p, q, x1, x2, x3, rfl, hl, hz, b1, b2, b3, ?_⟩
        simp only [Prod.mk.injEq] at hx
        rw [hx.1]
        have h1 : p.data.toList.length = p.size := rfl
        have h2 : q.data.toList.length = q.size := rfl
        simp only [List.map_cons, List.map_nil, hy1, hy2, Rows.uptoBulk, Rows.uptoBulkAll]
        have := uptoBulk_pos y0.1
        constructor
        · omega
        · omega
end Go.Proofs.YtkbaappeakgnoaaGreatDoor
