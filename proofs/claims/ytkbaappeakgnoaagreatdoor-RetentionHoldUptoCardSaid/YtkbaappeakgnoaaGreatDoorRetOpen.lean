/- The arguments of the laws of layer 38, opened. -/
import Derived.Test.YtkbaappeakgnoaaGreatDoorRows
import Derived.Test.YtkbaappeakgnoaaGreatDoorMem
import Derived.Deep.SlicePairs
import Derived.Deep.Fields
import Derived.WalkKit
import Derived.ProofKit
import Derived.ChangeMaps5
namespace Go.Proofs.YtkbaappeakgnoaaGreatDoor
open Go.ChangeShapes Go.WideShapes Go.RowKit Go.Lib Go.Deep
set_option linter.unusedVariables false

theorem uptoBulk_pos {H : Type} (d : DataW H) : 1 ≤ Rows.uptoBulk d := by
  cases d with
  | lit l => cases l <;> simp [Rows.uptoBulk]
  | nil => simp [Rows.uptoBulk]
  | ptr d => simp [Rows.uptoBulk]
  | slice elems spare => simp [Rows.uptoBulk]
  | agg parts => simp [Rows.uptoBulk]
  | iface t d => simp [Rows.uptoBulk]
  | map entries => simp [Rows.uptoBulk]
  | held h => simp [Rows.uptoBulk]

theorem cell_spot {w : World} {a : Addr} {v : Value} (h : w.cell? a = some v) : a = ⟨a.block, a.off, none⟩ := by
  obtain ⟨b, o, s⟩ := a
  cases s with
  | none => rfl
  | some s =>
    unfold World.cell? at h
    simp only [Option.isSome_some, if_true] at h
    split at h <;> cases h

theorem add_none (b o k : Nat) : (⟨b, o, none⟩ : Addr).add k = ⟨b, o + k, none⟩ := by
  unfold Addr.add
  split
  · rename_i h
    rw [h]
    rfl
  · rfl

variable {H : Type} {enc : TypeId × Value → H}

set_option maxRecDepth 100000 in
theorem open_holds {W : World} {r : Reach} {b0 : Nat} {v : Value} {d : DataW H} {ps : List MemPlace} (hval : Value.okWide Tryz.prog W r b0 22 v) (h : DataW.Trod enc Tryz.prog W 0 (fun _ => true) true 22 v d ps) :
    ∃ A n cap l, v = .slice A n cap ∧ HLst W A n cap l ∧ ∀ h ∈ l, h.1.size ≤ maxLen := by
  obtain ⟨A, n, cap, rfl⟩ := okWide_slice Tryz.underlying22 hval
  obtain ⟨fuel, hf⟩ := h
  rcases open_slice_pairs Tryz.underlying22 Tryz.underlying44 (by kernel_rfl) rfl rfl (by kernel_rfl) (by kernel_rfl) hf with ⟨hc, _⟩ | ⟨a, len, cap', m, k, V0, V1, D0, D1, P0, P1, hcs, _, hlc, hcm, hm, _, hall⟩
  · simp [Value.cells] at hc
    obtain ⟨rfl, rfl, rfl⟩ := hc
    exact ⟨none, 0, 0, [], rfl, HLst.nil W, fun _ h => by cases h⟩
  · simp [Value.cells] at hcs
    obtain ⟨rfl, rfl, rfl⟩ := hcs
    simp only [if_true] at hm
    have each : ∀ i, ∃ s : ByteArray, ∃ z : Int, i < n → V0 i = .string s ∧ V1 i = .int .i64 z ∧ s.size ≤ maxLen := by
      intro i
      by_cases hi : i < n
      · obtain ⟨h1, h2, h3, h4⟩ := hall i (by omega)
        obtain ⟨s, hs, _, hsz⟩ := DataW.trod_string Tryz.underlying9 h3
        obtain ⟨z, hz, _⟩ := DataW.trod_int Tryz.underlying3 h4
        simp only [List.cons.injEq, and_true] at hs hz
        exact ⟨s, z, fun _ => ⟨hs, hz, hsz⟩⟩
      · exact ⟨⟨#[]⟩, 0, fun h => absurd h hi⟩
    obtain ⟨S, hS⟩ := Classical.axiomOfChoice each
    obtain ⟨Z, hZ⟩ := Classical.axiomOfChoice hS
    refine ⟨some a, n, cap, (List.range n).map fun i => (S i, Z i), rfl, ⟨by simp, hlc, hcm, fun hn => ?_⟩, ?_⟩
    · have ha : a = ⟨a.block, a.off, none⟩ := by
        obtain ⟨h1, _⟩ := hall 0 (by omega)
        have := cell_spot h1
        obtain ⟨b, o, s⟩ := a
        simp [Addr.add] at this
        rw [this]
      refine ⟨a.block, a.off, by rw [← ha], fun i hi => ?_⟩
      have hin : i < n := by simpa using hi
      obtain ⟨h1, h2, _⟩ := hall i (by omega)
      obtain ⟨e1, e2, _⟩ := hZ i hin
      rw [e1] at h1
      rw [e2] at h2
      rw [ha, add_none] at h1 h2
      simp only [List.getElem_map, List.getElem_range]
      exact ⟨h1, by rw [Nat.add_assoc]; exact h2⟩
    · intro h hh
      obtain ⟨i, hi, rfl⟩ := List.mem_map.1 hh
      exact (hZ i (List.mem_range.1 hi)).2.2

set_option maxRecDepth 100000 in
theorem open_entry {W : World} {r : Reach} {b0 : Nat} {v : Value} {d : DataW H} {ps : List MemPlace} (hval : Value.okWide Tryz.prog W r b0 32 v) (h : DataW.Trod enc Tryz.prog W 0 (fun _ => true) true 32 v d ps) :
    ∃ (kind : Int) (p : ByteArray) (a2 a3 a4 a5 a6 : Value), v = .agg #[.int .i64 kind, .string p, a2, a3, a4, a5, a6] ∧ p.size + 1 ≤ Rows.uptoBulk d := by
  obtain ⟨cs, rfl, hsz⟩ := okWide_struct Tryz.underlying32 hval
  have h7 : Tryz.prog.cellsOf 32 = 7 := by kernel_rfl
  rw [h7] at hsz
  obtain ⟨l⟩ := cs
  match l, hsz with
  | [c0, c1, c2, c3, c4, c5, c6], _ =>
    obtain ⟨fuel, hf⟩ := h
    obtain ⟨xs, n, _, hx, _, hlen, hg⟩ := DataW.trod_struct Tryz.underlying32 hf
    have g0 := hg 0 _ rfl
    have g1 := hg 1 _ rfl
    match xs, hlen with
    | [y0, y1, y2, y3, y4, y5, y6], _ =>
      have k0 : Tryz.prog.cellsOf 3 = 1 := by kernel_rfl
      have k1 : Tryz.prog.cellsOf 9 = 1 := by kernel_rfl
      have g0 : DataW.trod enc Tryz.prog W 0 (fun _ => true) true n 3 [c0] = some y0 := by simpa [Value.cells, k0] using g0
      have g1 : DataW.trod enc Tryz.prog W 0 (fun _ => true) true n 9 [c1] = some y1 := by simpa [Value.cells, k1] using g1
      obtain ⟨z, hz, _⟩ := DataW.trod_int Tryz.underlying3 g0
      obtain ⟨s, hs, hy1, _⟩ := DataW.trod_string Tryz.underlying9 g1
      obtain rfl : c0 = .int .i64 z := by simpa using hz
      obtain rfl : c1 = .string s := by simpa using hs
      refine ⟨z, s, c2, c3, c4, c5, c6, rfl, ?_⟩
      simp only [Prod.mk.injEq] at hx
      rw [hx.1, hy1]
      have : s.data.toList.length = s.size := rfl
      simp only [List.map_cons, List.map_nil, Rows.uptoBulk, Rows.uptoBulkAll]
      omega
end Go.Proofs.YtkbaappeakgnoaaGreatDoor
