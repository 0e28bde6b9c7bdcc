/- A list of bytes as an argument, opened. -/
import Derived.Test.YtimegcnpembhkaaDoorRows
import Derived.Test.YtimegcnpembhkaaDoorMem
import Derived.SliceStrings
import Derived.Deep.SlicePairs
import Derived.Deep.Fields
import Derived.WalkKit
import Derived.ProofKit
import Derived.ChangeMaps5
import Derived.ChangeSlices
import Derived.Lib.UnsafeStr
namespace Go.Proofs.YtimegcnpembhkaaDoor
open Go.ChangeShapes Go.WideShapes Go.RowKit Go.Lib Go.Deep
set_option linter.unusedVariables false

theorem cell_spot {w : World} {a : Addr} {v : Value} (h : w.cell? a = some v) : a = ⟨a.block, a.off, none⟩ := by
  obtain ⟨b, o, s⟩ := a
  cases s with
  | none => rfl
  | some s =>
    unfold World.cell? at h
    simp only [Option.isSome_some, if_true] at h
    split at h <;> cases h
theorem add_none (b o k : Nat) : (⟨b, o, none⟩ : Addr).add k = ⟨b, o + k, none⟩ := by
  unfold Addr.add
  split
  · rename_i h
    rw [h]
    rfl
  · rfl
variable {H : Type} {enc : TypeId × Value → H}

theorem u8_lit {n : Int} (h : (Lit.int .u8 n).wf = true) : ∃ a : Nat, n = (a : Int) ∧ a < 256 := by
  simp only [Lit.wf, IntKind.min, IntKind.max, IntKind.signed, IntKind.bits, Bool.and_eq_true, decide_eq_true_eq, Bool.false_eq_true, if_false] at h
  exact ⟨n.toNat, by omega, by omega⟩
set_option maxRecDepth 100000 in
theorem open_u8s {W : World} {r : Reach} {b0 : Nat} {v : Value} {d : DataW H} {ps : List MemPlace} (hval : Value.okWide Tryd.prog W r b0 43 v) (h : DataW.Trod enc Tryd.prog W 0 (fun _ => true) true 43 v d ps) :
    ∃ A n cap, ∃ l : List UInt8, v = .slice A n cap ∧ Lst W A n cap (Lib.byteCells l) ∧ (A = none → cap = 0) := by
  obtain ⟨A, n, cap, rfl⟩ := okWide_slice Tryd.underlying43 hval
  obtain ⟨fuel, hf⟩ := h
  rcases Go.ChangeShapes.open_ints Tryd.underlying43 Tryd.underlying5 (by kernel_rfl) hf with ⟨hc, _⟩ | ⟨a, len, cap', zs, hcs, _, hl, hm, hz, _, hcell, hwf⟩
  · simp [Value.cells] at hc
    obtain ⟨rfl, rfl, rfl⟩ := hc
    exact ⟨none, 0, 0, [], rfl, Lst.nil W, fun _ => rfl⟩
  · simp [Value.cells] at hcs
    obtain ⟨rfl, rfl, rfl⟩ := hcs
    simp only [if_true] at hz
    refine ⟨some a, n, cap, (zs.take n).map fun z => UInt8.ofNat z.toNat, rfl, ⟨by unfold Lib.byteCells; rw [List.length_map, List.length_map, List.length_take]; omega, hl, hm, fun hn => ?_⟩, fun e => nomatch e⟩
    have ha : a = ⟨a.block, a.off, none⟩ := by
      have := cell_spot (hcell 0 (by omega))
      obtain ⟨b, o, s⟩ := a
      simp [Addr.add] at this
      rw [this]
    refine ⟨a.block, a.off, by rw [← ha], fun i hi => ?_⟩
    have hin : i < n := by unfold Lib.byteCells at hi; rw [List.length_map, List.length_map, List.length_take] at hi; omega
    have hcl := hcell i (by omega)
    rw [ha, add_none] at hcl
    rw [hcl]
    have hiz : i < zs.length := by omega
    obtain ⟨x, hx, hx2⟩ := u8_lit (hwf zs[i] (List.getElem_mem hiz))
    have hg : zs.getD i 0 = (x : Int) := by rw [List.getD_eq_getElem?_getD, List.getElem?_eq_getElem hiz, Option.getD_some, hx]
    rw [hg, ← List.getElem?_eq_getElem hi]
    unfold Lib.byteCells
    rw [List.getElem?_map, List.getElem?_map, List.getElem?_take_of_lt hin, List.getElem?_eq_getElem hiz, hx, Option.map_some, Option.map_some, Int.toNat_natCast, UInt8.toNat_ofNat', Nat.mod_eq_of_lt (by omega)]
end Go.Proofs.YtimegcnpembhkaaDoor
