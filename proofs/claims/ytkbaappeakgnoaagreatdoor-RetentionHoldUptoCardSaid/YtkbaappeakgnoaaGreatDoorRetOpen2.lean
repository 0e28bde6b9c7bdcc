/- The struct arguments of the laws of layer 38 (holds with an entry, with a path), opened. -/
import Derived.Test.YtkbaappeakgnoaaGreatDoorRetOpen
namespace Go.Proofs.YtkbaappeakgnoaaGreatDoor
open Go.ChangeShapes Go.WideShapes Go.RowKit Go.Lib Go.Deep
set_option linter.unusedVariables false

variable {H : Type} {enc : TypeId × Value → H}

theorem hold_cell {W : World} {fuel : Nat} {c : Value} {y : DataW H × List MemPlace} (hf : DataW.trod enc Tryz.prog W 0 (fun _ => true) true fuel 22 [c] = some y) :
    ∃ A n cap l, c = .slice A n cap ∧ HLst W A n cap l ∧ ∀ h ∈ l, h.1.size ≤ maxLen := by
  rcases open_slice_pairs Tryz.underlying22 Tryz.underlying44 (by kernel_rfl) rfl rfl (by kernel_rfl) (by kernel_rfl) hf with ⟨hc, _⟩ | ⟨a, n, cap, m, k, V0, V1, D0, D1, P0, P1, hcs, _, hlc, hcm, hm, _, hall⟩
  · obtain rfl : c = .slice none 0 0 := by simpa using hc
    exact ⟨none, 0, 0, [], rfl, HLst.nil W, fun _ h => by cases h⟩
  · obtain rfl : c = .slice (some a) n cap := by simpa using hcs
    simp only [if_true] at hm
    have each : ∀ i, ∃ s : ByteArray, ∃ z : Int, i < n → V0 i = .string s ∧ V1 i = .int .i64 z ∧ s.size ≤ maxLen := by
      intro i
      by_cases hi : i < n
      · obtain ⟨h1, h2, h3, h4⟩ := hall i (by omega)
        obtain ⟨s, hs, _, hsz⟩ := DataW.trod_string Tryz.underlying9 h3
        obtain ⟨z, hz, _⟩ := DataW.trod_int Tryz.underlying3 h4
        simp only [List.cons.injEq, and_true] at hs hz
        exact ⟨s, z, fun _ => ⟨hs, hz, hsz⟩⟩
      · exact ⟨⟨#[]⟩, 0, fun h => absurd h hi⟩
    obtain ⟨S, hS⟩ := Classical.axiomOfChoice each
    obtain ⟨Z, hZ⟩ := Classical.axiomOfChoice hS
    refine ⟨some a, n, cap, (List.range n).map fun i => (S i, Z i), rfl, ⟨by simp, hlc, hcm, fun hn => ?_⟩, ?_⟩
    · have ha : a = ⟨a.block, a.off, none⟩ := by
        obtain ⟨h1, _⟩ := hall 0 (by omega)
        have := cell_spot h1
        obtain ⟨b, o, s⟩ := a
        simp [Addr.add] at this
        rw [this]
      refine ⟨a.block, a.off, by rw [← ha], fun i hi => ?_⟩
      have hin : i < n := by simpa using hi
      obtain ⟨h1, h2, _⟩ := hall i (by omega)
      obtain ⟨e1, e2, _⟩ := hZ i hin
      rw [e1] at h1
      rw [e2] at h2
      rw [ha, add_none] at h1 h2
      simp only [List.getElem_map, List.getElem_range]
      exact ⟨h1, by rw [Nat.add_assoc]; exact h2⟩
    · intro h hh
      obtain ⟨i, hi, rfl⟩ := List.mem_map.1 hh
      exact (hZ i (List.mem_range.1 hi)).2.2

theorem slice_cell {W : World} {fuel : Nat} {t e : TypeId} (ht : Tryz.prog.underlying t = some (.slice e)) {c : Value} {y : DataW H × List MemPlace} (hf : DataW.trod enc Tryz.prog W 0 (fun _ => true) true fuel t [c] = some y) :
    ∃ A n cap, c = .slice A n cap := by
  rcases DataW.trod_slice ht hf with ⟨hc, _⟩ | ⟨a, n, cap, _, _, _, _, hcs, _⟩
  · exact ⟨none, 0, 0, by simpa using hc⟩
  · exact ⟨some a, n, cap, by simpa using hcs⟩

theorem str_cell {W : World} {fuel : Nat} {c : Value} {y : DataW H × List MemPlace} (hf : DataW.trod enc Tryz.prog W 0 (fun _ => true) true fuel 9 [c] = some y) : ∃ s : ByteArray, c = .string s ∧ y.1 = .lit (.string s.data.toList) := by
  obtain ⟨s, hs, hy, _⟩ := DataW.trod_string Tryz.underlying9 hf
  exact ⟨s, by simpa using hs, by rw [hy]⟩
theorem int_cell {W : World} {fuel : Nat} {c : Value} {y : DataW H × List MemPlace} (hf : DataW.trod enc Tryz.prog W 0 (fun _ => true) true fuel 3 [c] = some y) : ∃ z : Int, c = .int .i64 z := by
  obtain ⟨z, hz, _⟩ := DataW.trod_int Tryz.underlying3 hf
  exact ⟨z, by simpa using hz⟩

end Go.Proofs.YtkbaappeakgnoaaGreatDoor
