/- An argument that is a plain frame, opened. (Layer 26) -/
import Derived.Test.YtlkiaeelnbjchaaGreatDoorRows
import Derived.Test.YtlkiaeelnbjchaaGreatDoorPfWorld
import Derived.Deep.Fields
import Derived.ChangeMaps5
namespace Go.Proofs.YtlkiaeelnbjchaaGreatDoor
open Go.ChangeShapes Go.WideShapes Go.RowKit Go.Lib Go.Deep
set_option linter.unusedVariables false

variable {H : Type} {enc : TypeId × Value → H}

set_option maxRecDepth 100000 in
theorem open_plain {W : World} {r : Reach} {b0 : Nat} {v : Value} {d : DataW H} {ps : List MemPlace} (hval : Value.okWide Tryz.prog W r b0 38 v) (h : DataW.Trod enc Tryz.prog W 0 (fun _ => true) true 38 v d ps) :
    ∃ (a : Nat) (i t : Int) (s : ByteArray), v = .agg #[.int .u32 a, .int .i64 i, .int .i64 t, .string s] ∧ a < 4294967296 ∧ s.size ≤ maxLen := by
  obtain ⟨cs, rfl, hsz⟩ := okWide_struct Tryz.underlying38 hval
  rw [show Tryz.prog.cellsOf 38 = 4 by kernel_rfl] at hsz
  obtain ⟨l⟩ := cs
  match l, hsz with
  | [c0, c1, c2, c3], _ =>
    obtain ⟨fuel, hf⟩ := h
    obtain ⟨xs, n, _, hx, _, hlen, hg⟩ := DataW.trod_struct Tryz.underlying38 hf
    have g0 := hg 0 _ rfl
    have g1 := hg 1 _ rfl
    have g2 := hg 2 _ rfl
    have g3 := hg 3 _ rfl
    match xs, hlen with
    | [y0, y1, y2, y3], _ =>
      have k0 : Tryz.prog.cellsOf 23 = 1 := by kernel_rfl
      have k1 : Tryz.prog.cellsOf 9 = 1 := by kernel_rfl
      have k2 : Tryz.prog.cellsOf 3 = 1 := by kernel_rfl
      have g0 : DataW.trod enc Tryz.prog W 0 (fun _ => true) true n 23 [c0] = some y0 := by simpa [Value.cells, k0] using g0
      have g1 : DataW.trod enc Tryz.prog W 0 (fun _ => true) true n 3 [c1] = some y1 := by simpa [Value.cells, k2] using g1
      have g2 : DataW.trod enc Tryz.prog W 0 (fun _ => true) true n 3 [c2] = some y2 := by simpa [Value.cells, k2] using g2
      have g3 : DataW.trod enc Tryz.prog W 0 (fun _ => true) true n 9 [c3] = some y3 := by simpa [Value.cells, k1] using g3
      obtain ⟨z0, h0, _, w0⟩ := DataW.trod_int Tryz.underlying23 g0
      obtain ⟨z1, h1, _⟩ := DataW.trod_int Tryz.underlying3 g1
      obtain ⟨z2, h2, _⟩ := DataW.trod_int Tryz.underlying3 g2
      obtain ⟨s, h3, _, hs⟩ := DataW.trod_string Tryz.underlying9 g3
      obtain ⟨a, rfl, ha⟩ := u32_of w0
      simp at h0 h1 h2 h3
      subst h0 h1 h2 h3
      exact ⟨a, z1, z2, s, rfl, ha, hs⟩
end Go.Proofs.YtlkiaeelnbjchaaGreatDoor
