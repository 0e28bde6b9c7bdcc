/- The plain law of the round trip. (Layer 52) -/
import Derived.Test.YthanegmaipckdaaDoorBitParse2
import Derived.Test.YthanegmaipckdaaDoorBA
namespace Go.Proofs.YthanegmaipckdaaDoor
open Go.Lib Dec

theorem catB_flat (rows : List ByteArray) : catB rows = (rows.map fun r => r.data.toList).flatten := by unfold catB; rw [List.flatMap_def]
theorem catB_BA (l : List Bytes) : catB (l.map BA) = l.flatten := by rw [catB_flat, List.map_map]; congr 1; exact List.map_id'' (fun _ => rfl) l
theorem expA_yes (rs : List (Nat × UInt8)) (wd : Nat) (hg : GoodR 0 rs) (h1 : 1 ≤ wd) (h2 : wd ≤ 200) (h3 : (cellsR rs).length % wd = 0) (h4 : (cellsR rs).length / wd ≤ 200) (h5 : (cellsR rs).length ≠ 0) :
    expA (encB rs) wd = (chunkB wd (cellsR rs), 0) := by
  unfold expA
  rw [if_neg (by omega), good_parse rs 0 hg, Int.toNat_natCast]
  simp only
  have e : totR rs = (cellsR rs).length := rfl
  rw [e, if_neg (by omega), if_neg (by omega)]
theorem pic_len {rows : List ByteArray} (h : picE rows = 0) : (∀ r ∈ (rows.map fun r => r.data.toList), r.length = widthB rows) ∧ 1 ≤ widthB rows ∧ widthB rows ≤ 200 ∧ rows.length ≤ 200 ∧ 1 ≤ rows.length ∧ (catB rows).all isPx = true := by
  obtain ⟨h1, h2, h3⟩ := pic_facts h
  have hpos : 1 ≤ rows.length := by cases rows with | nil => exact absurd rfl h1 | cons _ _ => simp
  have h0 := h3 (rows[0]'(by omega)) (List.getElem_mem _)
  refine ⟨fun r hr => ?_, by omega, by omega, h2, hpos, ?_⟩
  · obtain ⟨x, hx, rfl⟩ := List.mem_map.1 hr
    exact (h3 x hx).1
  · rw [List.all_eq_true]
    intro c hc
    unfold catB at hc
    obtain ⟨r, hr, hc⟩ := List.mem_flatMap.1 hc
    exact List.all_eq_true.1 (h3 r hr).2.2.2 c hc
theorem pic_cat {rows : List ByteArray} (h : picE rows = 0) : chunkB (widthB rows) (catB rows) = (rows.map fun r => r.data.toList) ∧ (catB rows).length = rows.length * widthB rows := by
  obtain ⟨h1, h2, _⟩ := pic_len h
  have := chunk_cat (widthB rows) h2 _ h1
  rw [← catB_flat, List.length_map] at this
  exact this
/-- a picture is restored from its run-length form -/
theorem exp_comp {rows : List ByteArray} (h : picE rows = 0) : expA (encB (runsB (catB rows))) (widthB rows) = ((rows.map fun r => r.data.toList), 0) := by
  obtain ⟨_, h2, h3, h4, h5, h6⟩ := pic_len h
  obtain ⟨c1, c2⟩ := pic_cat h
  have hle : (catB rows).length ≤ 40000 := by rw [c2]; exact Nat.mul_le_mul h4 h3
  have hc := cells_runsB (catB rows)
  have := expA_yes (runsB (catB rows)) (widthB rows) (good_runsB _ h6 (by omega)) h2 h3 (by rw [hc, c2, Nat.mul_mod_left]) (by rw [hc, c2, Nat.mul_div_cancel _ (by omega)]; exact h4) (by rw [hc, c2]; exact Nat.ne_of_gt (Nat.mul_pos h5 h2))
  rw [this, hc, c1]
theorem rowsE_all (k : Nat) : ∀ rows : List ByteArray, (∀ r ∈ rows, r.size = k ∧ 1 ≤ r.size ∧ r.size ≤ 200 ∧ r.data.toList.all isPx = true) → rowsE k rows = 0 := by
  intro rows
  induction rows with
  | nil => intro _; rfl
  | cons r t ih =>
    intro h
    obtain ⟨a, b, c, d⟩ := h r (by simp)
    rw [rowsE]
    have : rowE k r = 0 := by unfold rowE; rw [if_neg (by omega), if_neg (fun e => e a), if_pos d]
    rw [if_pos this]
    exact ih (fun x hx => h x (by simp [hx]))
theorem picE_all {rows : List ByteArray} {k : Nat} (h1 : 1 ≤ rows.length) (h2 : rows.length ≤ 200) (h3 : ∀ r ∈ rows, r.size = k ∧ 1 ≤ r.size ∧ r.size ≤ 200 ∧ r.data.toList.all isPx = true) : picE rows = 0 ∧ widthB rows = k := by
  have hw : widthB rows = k := by
    cases rows with
    | nil => simp at h1
    | cons r t => exact (h3 r (by simp)).1
  refine ⟨?_, hw⟩
  unfold picE
  rw [if_neg (by intro e; rw [e] at h1; simp at h1), if_neg (by omega), hw]
  exact rowsE_all k rows h3
theorem good_px : ∀ (rs : List (Nat × UInt8)) (last : UInt8), GoodR last rs → (cellsR rs).all isPx = true := by
  intro rs
  induction rs with
  | nil => intro _ _; rfl
  | cons x r ih =>
    intro last ⟨h1, h2, h3, h4, h5⟩
    rw [cellsR_cons, List.all_append, ih _ h5, Bool.and_true, List.all_eq_true]
    intro c hc
    rw [List.eq_of_mem_replicate hc]; exact h3
/-- an expanded picture's run-length form is the string -/
theorem comp_exp {runs : Bytes} {width : Int} {l : List Bytes} {E : Int} (h : expA runs width = (l, E)) : (E ≠ 0 ∧ l = []) ∨ (E = 0 ∧ compZ (l.map BA) = (runs, width.toNat, 0) ∧ 1 ≤ width ∧ width ≤ 200) := by
  unfold expA at h
  by_cases hw : width < 1 ∨ 200 < width
  · rw [if_pos hw] at h
    cases h
    exact Or.inl ⟨by decide, rfl⟩
  rw [if_neg hw] at h
  cases hp : parseR 0 runs with
  | none =>
    rw [hp] at h
    cases h
    exact Or.inl ⟨by decide, rfl⟩
  | some rs =>
    rw [hp] at h
    simp only at h
    obtain ⟨hL, hg⟩ := parse_good _ 0 _ rs (Nat.le_refl _) hp
    by_cases c1 : totR rs = 0 ∨ totR rs % width.toNat ≠ 0
    · rw [if_pos c1] at h
      cases h
      exact Or.inl ⟨by decide, rfl⟩
    rw [if_neg c1] at h
    by_cases c2 : 200 < totR rs / width.toNat
    · rw [if_pos c2] at h
      cases h
      exact Or.inl ⟨by decide, rfl⟩
    rw [if_neg c2] at h
    cases h
    refine Or.inr ⟨rfl, ?_, by omega, by omega⟩
    have ht : totR rs = (cellsR rs).length := rfl
    have hm : (cellsR rs).length % width.toNat = 0 := by rw [← ht]; omega
    have hpx := good_px rs 0 hg
    have hwd : 1 ≤ width.toNat := by omega
    have hq : 1 ≤ (cellsR rs).length / width.toNat := by
      have := Nat.div_add_mod (cellsR rs).length width.toNat
      rw [hm] at this
      rcases Nat.eq_zero_or_pos ((cellsR rs).length / width.toNat) with h0 | h0
      · rw [h0] at this; omega
      · exact h0
    have hpic := picE_all (rows := (chunkB width.toNat (cellsR rs)).map BA) (k := width.toNat) (by rw [List.length_map, chunk_len]; exact hq) (by rw [List.length_map, chunk_len, ← ht]; omega) (fun r hr => by
      obtain ⟨b, hb, rfl⟩ := List.mem_map.1 hr
      obtain ⟨m1, m2⟩ := chunk_mem _ _ b hb
      refine ⟨by rw [BA_size, m1], by rw [BA_size, m1]; omega, by rw [BA_size, m1]; omega, ?_⟩
      rw [BA_data, List.all_eq_true]
      intro c hc
      exact List.all_eq_true.1 hpx c (m2 c hc))
    unfold compZ
    rw [if_pos hpic.1, hpic.2, catB_BA, flat_chunk _ _ hm, runsB_cells rs hg.alt, ← hL]
theorem map_data_BA (rows : List ByteArray) : (rows.map fun r => r.data.toList).map BA = rows := by
  rw [List.map_map]
  exact List.map_id'' (fun r => BA_of r) rows
end Go.Proofs.YthanegmaipckdaaDoor
