/- A list of strings as an argument, opened. -/
import Derived.Test.YtjmglbppmolipaaGreatDoorRows
import Derived.Test.YtjmglbppmolipaaGreatDoorMem
import Derived.SliceStrings
import Derived.Deep.SlicePairs
import Derived.Deep.Fields
import Derived.WalkKit
import Derived.ProofKit
import Derived.ChangeMaps5
namespace Go.Proofs.YtjmglbppmolipaaGreatDoor
open Go.ChangeShapes Go.WideShapes Go.RowKit Go.Lib Go.Deep
set_option linter.unusedVariables false

theorem cell_spot {w : World} {a : Addr} {v : Value} (h : w.cell? a = some v) : a = ⟨a.block, a.off, none⟩ := by
  obtain ⟨b, o, s⟩ := a
  cases s with
  | none => rfl
  | some s =>
    unfold World.cell? at h
    simp only [Option.isSome_some, if_true] at h
    split at h <;> cases h
theorem add_none (b o k : Nat) : (⟨b, o, none⟩ : Addr).add k = ⟨b, o + k, none⟩ := by
  unfold Addr.add
  split
  · rename_i h
    rw [h]
    rfl
  · rfl
variable {H : Type} {enc : TypeId × Value → H}

set_option maxRecDepth 100000 in
theorem open_strs_nil {W : World} {r : Reach} {b0 : Nat} {v : Value} {d : DataW H} {ps : List MemPlace} (hval : Value.okWide Tryz.prog W r b0 22 v) (h : DataW.Trod enc Tryz.prog W 0 (fun _ => true) true 22 v d ps) :
    ∃ A n cap rows, v = .slice A n cap ∧ Lst W A n cap ((rows : List ByteArray).map .string) ∧ (∀ s ∈ rows, s.size ≤ maxLen) ∧ (A = none → n = 0 ∧ cap = 0) := by
  obtain ⟨A, n, cap, rfl⟩ := okWide_slice Tryz.underlying22 hval
  obtain ⟨fuel, hf⟩ := h
  rcases open_strings Tryz.underlying22 Tryz.underlying9 (by kernel_rfl) hf with ⟨hc, _⟩ | ⟨a, len, cap', ss, hcs, _, hl, hm, hz, _, hcell, hsz⟩
  · simp [Value.cells] at hc
    obtain ⟨rfl, rfl, rfl⟩ := hc
    exact ⟨none, 0, 0, [], rfl, Lst.nil W, ⟨fun _ h => (nomatch h), fun _ => ⟨rfl, rfl⟩⟩⟩
  · simp [Value.cells] at hcs
    obtain ⟨rfl, rfl, rfl⟩ := hcs
    simp only [if_true] at hz
    refine ⟨some a, n, cap, ss.take n, rfl, ⟨by rw [List.length_map, List.length_take]; omega, hl, hm, fun hn => ?_⟩, ⟨fun s hs => hsz s (List.mem_of_mem_take hs), fun e => nomatch e⟩⟩
    have ha : a = ⟨a.block, a.off, none⟩ := by
      have := cell_spot (hcell 0 (by omega))
      obtain ⟨b, o, s⟩ := a
      simp [Addr.add] at this
      rw [this]
    refine ⟨a.block, a.off, by rw [← ha], fun i hi => ?_⟩
    have hin : i < n := by simp at hi; omega
    have := hcell i (by omega)
    rw [ha, add_none] at this
    rw [this]
    simp [List.getElem_map, List.getElem_take, List.getD_eq_getElem?_getD, show i < ss.length by omega]
set_option maxRecDepth 100000 in
theorem open_strs {W : World} {r : Reach} {b0 : Nat} {v : Value} {d : DataW H} {ps : List MemPlace} (hval : Value.okWide Tryz.prog W r b0 22 v) (h : DataW.Trod enc Tryz.prog W 0 (fun _ => true) true 22 v d ps) :
    ∃ A n cap rows, v = .slice A n cap ∧ Lst W A n cap ((rows : List ByteArray).map .string) ∧ ∀ s ∈ rows, s.size ≤ maxLen := by
  obtain ⟨A, n, cap, rows, h1, h2, h3, -⟩ := open_strs_nil hval h
  exact ⟨A, n, cap, rows, h1, h2, h3⟩
end Go.Proofs.YtjmglbppmolipaaGreatDoor
