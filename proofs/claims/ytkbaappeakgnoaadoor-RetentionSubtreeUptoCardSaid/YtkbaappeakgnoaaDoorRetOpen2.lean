/- The struct arguments of the laws of layer 38 (holds with an entry, with a path), opened. -/
import Derived.Test.YtkbaappeakgnoaaDoorRetOpen
namespace Go.Proofs.YtkbaappeakgnoaaDoor
open Go.ChangeShapes Go.WideShapes Go.RowKit Go.Lib Go.Deep
set_option linter.unusedVariables false

variable {H : Type} {enc : TypeId × Value → H}

theorem hold_cell {W : World} {fuel : Nat} {c : Value} {y : DataW H × List MemPlace} (hf : DataW.trod enc Tryd.prog W 0 (fun _ => true) true fuel 22 [c] = some y) :
    ∃ A n cap l, c = .slice A n cap ∧ HLst W A n cap l ∧ ∀ h ∈ l, h.1.size ≤ maxLen := by
  rcases open_slice_pairs Tryd.underlying22 Tryd.underlying39 (by kernel_rfl) rfl rfl (by kernel_rfl) (by kernel_rfl) hf with ⟨hc, _⟩ | ⟨a, n, cap, m, k, V0, V1, D0, D1, P0, P1, hcs, _, hlc, hcm, hm, _, hall⟩
  · obtain rfl : c = .slice none 0 0 := by simpa using hc
    exact ⟨none, 0, 0, [], rfl, HLst.nil W, fun _ h => by cases h⟩
  · obtain rfl : c = .slice (some a) n cap := by simpa using hcs
    simp only [if_true] at hm
    have each : ∀ i, ∃ s : ByteArray, ∃ z : Int, i < n → V0 i = .string s ∧ V1 i = .int .i64 z ∧ s.size ≤ maxLen := by
      intro i
      by_cases hi : i < n
      · obtain ⟨h1, h2, h3, h4⟩ := hall i (by omega)
        obtain ⟨s, hs, _, hsz⟩ := DataW.trod_string Tryd.underlying9 h3
        obtain ⟨z, hz, _⟩ := DataW.trod_int Tryd.underlying3 h4
        simp only [List.cons.injEq, and_true] at hs hz
        exact ⟨s, z, fun _ => ⟨hs, hz, hsz⟩⟩
      · exact ⟨⟨#[]⟩, 0, fun h => absurd h hi⟩
    obtain ⟨S, hS⟩ := Classical.axiomOfChoice each
    obtain ⟨Z, hZ⟩ := Classical.axiomOfChoice hS
    refine ⟨some a, n, cap, (List.range n).map fun i => (S i, Z i), rfl, ⟨by simp, hlc, hcm, fun hn => ?_⟩, ?_⟩
    · have ha : a = ⟨a.block, a.off, none⟩ := by
        obtain ⟨h1, _⟩ := hall 0 (by omega)
        have := cell_spot h1
        obtain ⟨b, o, s⟩ := a
        simp [Addr.add] at this
        rw [this]
      refine ⟨a.block, a.off, by rw [← ha], fun i hi => ?_⟩
      have hin : i < n := by simpa using hi
      obtain ⟨h1, h2, _⟩ := hall i (by omega)
      obtain ⟨e1, e2, _⟩ := hZ i hin
      rw [e1] at h1
      rw [e2] at h2
      rw [ha, add_none] at h1 h2
      simp only [List.getElem_map, List.getElem_range]
      exact ⟨h1, by rw [Nat.add_assoc]; exact h2⟩
    · intro h hh
      obtain ⟨i, hi, rfl⟩ := List.mem_map.1 hh
      exact (hZ i (List.mem_range.1 hi)).2.2

theorem slice_cell {W : World} {fuel : Nat} {t e : TypeId} (ht : Tryd.prog.underlying t = some (.slice e)) {c : Value} {y : DataW H × List MemPlace} (hf : DataW.trod enc Tryd.prog W 0 (fun _ => true) true fuel t [c] = some y) :
    ∃ A n cap, c = .slice A n cap := by
  rcases DataW.trod_slice ht hf with ⟨hc, _⟩ | ⟨a, n, cap, _, _, _, _, hcs, _⟩
  · exact ⟨none, 0, 0, by simpa using hc⟩
  · exact ⟨some a, n, cap, by simpa using hcs⟩

theorem str_cell {W : World} {fuel : Nat} {c : Value} {y : DataW H × List MemPlace} (hf : DataW.trod enc Tryd.prog W 0 (fun _ => true) true fuel 9 [c] = some y) : ∃ s : ByteArray, c = .string s ∧ y.1 = .lit (.string s.data.toList) := by
  obtain ⟨s, hs, hy, _⟩ := DataW.trod_string Tryd.underlying9 hf
  exact ⟨s, by simpa using hs, by rw [hy]⟩
theorem int_cell {W : World} {fuel : Nat} {c : Value} {y : DataW H × List MemPlace} (hf : DataW.trod enc Tryd.prog W 0 (fun _ => true) true fuel 3 [c] = some y) : ∃ z : Int, c = .int .i64 z := by
  obtain ⟨z, hz, _⟩ := DataW.trod_int Tryd.underlying3 hf
  exact ⟨z, by simpa using hz⟩

set_option maxRecDepth 100000 in
theorem entry_cells {W : World} {fuel : Nat} {c0 c1 c2 c3 c4 c5 c6 : Value} {y : DataW H × List MemPlace} (hf : DataW.trod enc Tryd.prog W 0 (fun _ => true) true fuel 26 [c0, c1, c2, c3, c4, c5, c6] = some y) :
    ∃ (kind : Int) (p : ByteArray) (A2 : Option Addr) (n2 k2 : Nat) (s3 : ByteArray) (z4 : Int) (s5 : ByteArray) (A6 : Option Addr) (n6 k6 : Nat), c0 = .int .i64 kind ∧ c1 = .string p ∧ c2 = .slice A2 n2 k2 ∧ c3 = .string s3 ∧ c4 = .int .i64 z4 ∧ c5 = .string s5 ∧ c6 = .slice A6 n6 k6 ∧ p.size + 1 ≤ Rows.uptoBulk y.1 := by
  obtain ⟨xs, n, _, hx, _, hlen, hg⟩ := DataW.trod_struct Tryd.underlying26 hf
  have g0 := hg 0 _ rfl
  have g1 := hg 1 _ rfl
  have g2 := hg 2 _ rfl
  have g3 := hg 3 _ rfl
  have g4 := hg 4 _ rfl
  have g5 := hg 5 _ rfl
  have g6 := hg 6 _ rfl
  match xs, hlen with
  | [y0, y1, y2, y3, y4, y5, y6], _ =>
    have k0 : Tryd.prog.cellsOf 3 = 1 := by kernel_rfl
    have k1 : Tryd.prog.cellsOf 9 = 1 := by kernel_rfl
    have k2 : Tryd.prog.cellsOf 23 = 1 := by kernel_rfl
    have k3 : Tryd.prog.cellsOf 24 = 1 := by kernel_rfl
    have g0 : DataW.trod enc Tryd.prog W 0 (fun _ => true) true n 3 [c0] = some y0 := by simpa [k0] using g0
    have g1 : DataW.trod enc Tryd.prog W 0 (fun _ => true) true n 9 [c1] = some y1 := by simpa [k1] using g1
    have g2 : DataW.trod enc Tryd.prog W 0 (fun _ => true) true n 23 [c2] = some y2 := by simpa [k2] using g2
    have g3 : DataW.trod enc Tryd.prog W 0 (fun _ => true) true n 9 [c3] = some y3 := by simpa [k1] using g3
    have g4 : DataW.trod enc Tryd.prog W 0 (fun _ => true) true n 3 [c4] = some y4 := by simpa [k0] using g4
    have g5 : DataW.trod enc Tryd.prog W 0 (fun _ => true) true n 9 [c5] = some y5 := by simpa [k1] using g5
    have g6 : DataW.trod enc Tryd.prog W 0 (fun _ => true) true n 24 [c6] = some y6 := by simpa [k3] using g6
    obtain ⟨z, rfl⟩ := int_cell g0
    obtain ⟨s, rfl, hy1⟩ := str_cell g1
    obtain ⟨A2, n2, q2, rfl⟩ := slice_cell Tryd.underlying23 g2
    obtain ⟨s3, rfl, _⟩ := str_cell g3
    obtain ⟨z4, rfl⟩ := int_cell g4
    obtain ⟨s5, rfl, _⟩ := str_cell g5
    obtain ⟨A6, n6, q6, rfl⟩ := slice_cell Tryd.underlying24 g6
    refine ⟨z, s, A2, n2, q2, s3, z4, s5, A6, n6, q6, rfl, rfl, rfl, rfl, rfl, rfl, rfl, ?_⟩
    rw [hx]
    have : s.data.toList.length = s.size := rfl
    simp only [List.map_cons, List.map_nil, hy1, Rows.uptoBulk, Rows.uptoBulkAll]
    omega

set_option maxRecDepth 100000 in
theorem open_dated {W : World} {r : Reach} {b0 : Nat} {v : Value} {d : DataW H} {ps : List MemPlace} (hval : Value.okWide Tryd.prog W r b0 36 v) (h : DataW.Trod enc Tryd.prog W 0 (fun _ => true) true 36 v d ps) :
    ∃ (A : Option Addr) (n cap : Nat) (l : List Hold) (kind : Int) (p : ByteArray) (A2 : Option Addr) (n2 k2 : Nat) (s3 : ByteArray) (z4 : Int) (s5 : ByteArray) (A6 : Option Addr) (n6 k6 : Nat) (date earlier : Int),
      v = .agg #[.slice A n cap, .int .i64 kind, .string p, .slice A2 n2 k2, .string s3, .int .i64 z4, .string s5, .slice A6 n6 k6, .int .i64 date, .int .i64 earlier] ∧ HLst W A n cap l ∧ (∀ h ∈ l, h.1.size ≤ maxLen) ∧ p.size + 1 ≤ Rows.uptoBulk d := by
  obtain ⟨cs, rfl, hsz⟩ := okWide_struct Tryd.underlying36 hval
  rw [show Tryd.prog.cellsOf 36 = 10 by kernel_rfl] at hsz
  obtain ⟨l⟩ := cs
  match l, hsz with
  | [c, c0, c1, c2, c3, c4, c5, c6, c7, c8], _ =>
    obtain ⟨fuel, hf⟩ := h
    obtain ⟨xs, n, _, hx, _, hlen, hg⟩ := DataW.trod_struct Tryd.underlying36 hf
    have g0 := hg 0 _ rfl
    have g1 := hg 1 _ rfl
    have g2 := hg 2 _ rfl
    have g3 := hg 3 _ rfl
    match xs, hlen with
    | [y0, y1, y2, y3], _ =>
      have k0 : Tryd.prog.cellsOf 22 = 1 := by kernel_rfl
      have k1 : Tryd.prog.cellsOf 26 = 7 := by kernel_rfl
      have k2 : Tryd.prog.cellsOf 3 = 1 := by kernel_rfl
      have g0 : DataW.trod enc Tryd.prog W 0 (fun _ => true) true n 22 [c] = some y0 := by simpa [Value.cells, k0] using g0
      have g1 : DataW.trod enc Tryd.prog W 0 (fun _ => true) true n 26 [c0, c1, c2, c3, c4, c5, c6] = some y1 := by simpa [Value.cells, k1] using g1
      have g2 : DataW.trod enc Tryd.prog W 0 (fun _ => true) true n 3 [c7] = some y2 := by simpa [Value.cells, k2] using g2
      have g3 : DataW.trod enc Tryd.prog W 0 (fun _ => true) true n 3 [c8] = some y3 := by simpa [Value.cells, k2] using g3
      obtain ⟨A, m, cap, l, rfl, hl, hz⟩ := hold_cell g0
      obtain ⟨kind, p, A2, n2, q2, s3, z4, s5, A6, n6, q6, rfl, rfl, rfl, rfl, rfl, rfl, rfl, hb⟩ := entry_cells g1
      obtain ⟨z7, rfl⟩ := int_cell g2
      obtain ⟨z8, rfl⟩ := int_cell g3
      refine ⟨A, m, cap, l, kind, p, A2, n2, q2, s3, z4, s5, A6, n6, q6, z7, z8, rfl, hl, hz, ?_⟩
      simp only [Prod.mk.injEq] at hx
      rw [hx.1]
      simp only [List.map_cons, List.map_nil, Rows.uptoBulk, Rows.uptoBulkAll]
      have := uptoBulk_pos y0.1
      omega

set_option maxRecDepth 100000 in
theorem open_named {W : World} {r : Reach} {b0 : Nat} {v : Value} {d : DataW H} {ps : List MemPlace} (hval : Value.okWide Tryd.prog W r b0 41 v) (h : DataW.Trod enc Tryd.prog W 0 (fun _ => true) true 41 v d ps) :
    ∃ (A : Option Addr) (n cap : Nat) (l : List Hold) (p q : ByteArray) (date till : Int),
      v = .agg #[.slice A n cap, .string p, .string q, .int .i64 date, .int .i64 till] ∧ HLst W A n cap l ∧ (∀ h ∈ l, h.1.size ≤ maxLen) ∧ p.size + 1 ≤ Rows.uptoBulk d ∧ q.size + 1 ≤ Rows.uptoBulk d := by
  obtain ⟨cs, rfl, hsz⟩ := okWide_struct Tryd.underlying41 hval
  rw [show Tryd.prog.cellsOf 41 = 5 by kernel_rfl] at hsz
  obtain ⟨l⟩ := cs
  match l, hsz with
  | [c, c0, c1, c2, c3], _ =>
    obtain ⟨fuel, hf⟩ := h
    obtain ⟨xs, n, _, hx, _, hlen, hg⟩ := DataW.trod_struct Tryd.underlying41 hf
    have g0 := hg 0 _ rfl
    have g1 := hg 1 _ rfl
    have g2 := hg 2 _ rfl
    have g3 := hg 3 _ rfl
    have g4 := hg 4 _ rfl
    match xs, hlen with
    | [y0, y1, y2, y3, y4], _ =>
      have k0 : Tryd.prog.cellsOf 22 = 1 := by kernel_rfl
      have k1 : Tryd.prog.cellsOf 9 = 1 := by kernel_rfl
      have k2 : Tryd.prog.cellsOf 3 = 1 := by kernel_rfl
      have g0 : DataW.trod enc Tryd.prog W 0 (fun _ => true) true n 22 [c] = some y0 := by simpa [Value.cells, k0] using g0
      have g1 : DataW.trod enc Tryd.prog W 0 (fun _ => true) true n 9 [c0] = some y1 := by simpa [Value.cells, k1] using g1
      have g2 : DataW.trod enc Tryd.prog W 0 (fun _ => true) true n 9 [c1] = some y2 := by simpa [Value.cells, k1] using g2
      have g3 : DataW.trod enc Tryd.prog W 0 (fun _ => true) true n 3 [c2] = some y3 := by simpa [Value.cells, k2] using g3
      have g4 : DataW.trod enc Tryd.prog W 0 (fun _ => true) true n 3 [c3] = some y4 := by simpa [Value.cells, k2] using g4
      obtain ⟨A, m, cap, l, rfl, hl, hz⟩ := hold_cell g0
      obtain ⟨p, rfl, hy1⟩ := str_cell g1
      obtain ⟨q, rfl, hy2⟩ := str_cell g2
      obtain ⟨z7, rfl⟩ := int_cell g3
      obtain ⟨z8, rfl⟩ := int_cell g4
      refine ⟨A, m, cap, l, p, q, z7, z8, rfl, hl, hz, ?_⟩
      simp only [Prod.mk.injEq] at hx
      rw [hx.1]
      have h1 : p.data.toList.length = p.size := rfl
      have h2 : q.data.toList.length = q.size := rfl
      simp only [List.map_cons, List.map_nil, hy1, hy2, Rows.uptoBulk, Rows.uptoBulkAll]
      have := uptoBulk_pos y0.1
      constructor
      · omega
      · omega
end Go.Proofs.YtkbaappeakgnoaaDoor
