/- The plain law of concatenated sources: the text and the labels of the first begin those of both. -/
import Derived.Test.YtimegcnpembhkaaDoorAsmSim
namespace Go.Proofs.YtimegcnpembhkaaDoor
open Go.RowKit
open Go.Lib hiding intOf
set_option linter.unusedVariables false

/-- what a check says that passes -/
structure Ok (D M : Bytes → Bool) (l : List Tok) : Prop where
  fresh : ∀ n ∈ l.filterMap (defN ·.1), M n = false
  nodup : (l.filterMap (defN ·.1)).Nodup
  each : ∀ t ∈ l, defN t.1 = none → (∀ n, refN t.1 = some n → D n = true) ∧ (refN t.1 = none → codeB t.1 = true)
theorem ok_of_chk (D : Bytes → Bool) : ∀ (l : List Tok) (M : Bytes → Bool), (chkGo D M l).2 = 0 → Ok D M l := by
  intro l
  induction l with
  | nil => intro M _; exact ⟨by simp, by simp, by simp⟩
  | cons t r ih =>
    intro M h
    unfold chkGo at h
    cases hd : defN t.1 with
    | some n =>
      rw [hd] at h
      simp only at h
      by_cases hm : M n = true
      · rw [if_pos hm] at h; cases h
      · rw [if_neg hm] at h
        have hk := ih _ h
        have hn : n ∉ r.filterMap (defN ·.1) := by
          intro hmem
          have := hk.fresh n hmem
          unfold setB at this
          rw [if_pos rfl] at this
          cases this
        refine ⟨?_, ?_, ?_⟩
        · intro k hkm
          simp only [List.filterMap_cons, hd, List.mem_cons] at hkm
          rcases hkm with rfl | hkm
          · simpa using hm
          · have := hk.fresh k hkm
            unfold setB at this
            by_cases hkn : k = n
            · rw [if_pos hkn] at this; cases this
            · rw [if_neg hkn] at this; exact this
        · simp only [List.filterMap_cons, hd, List.nodup_cons]
          exact ⟨hn, hk.nodup⟩
        · intro u hu hdu
          rcases List.mem_cons.1 hu with rfl | hu
          · rw [hd] at hdu; cases hdu
          · exact hk.each u hu hdu
    | none =>
      rw [hd] at h
      simp only at h
      have rest : (chkGo D M r).2 = 0 ∧ (∀ n, refN t.1 = some n → D n = true) ∧ (refN t.1 = none → codeB t.1 = true) := by
        cases hr : refN t.1 with
        | some n =>
          rw [hr] at h
          simp only at h
          by_cases hD : D n = true
          · rw [if_pos hD] at h
            exact ⟨h, fun k hk => by cases hk; exact hD, fun hk => by cases hk⟩
          · rw [if_neg hD] at h; cases h
        | none =>
          rw [hr] at h
          simp only at h
          by_cases hC : codeB t.1 = true
          · rw [if_pos hC] at h
            exact ⟨h, (fun k hk => by cases hk), fun _ => hC⟩
          · rw [if_neg hC] at h; cases h
      have hk := ih _ rest.1
      refine ⟨?_, ?_, ?_⟩
      · simpa [List.filterMap_cons, hd] using hk.fresh
      · simpa [List.filterMap_cons, hd] using hk.nodup
      · intro u hu hdu
        rcases List.mem_cons.1 hu with rfl | hu
        · exact rest.2
        · exact hk.each u hu hdu
theorem chk_of_ok (D : Bytes → Bool) : ∀ (l : List Tok) (M : Bytes → Bool), Ok D M l → chkGo D M l = (0, 0) := by
  intro l
  induction l with
  | nil => intro M _; rfl
  | cons t r ih =>
    intro M h
    unfold chkGo
    have htail : ∀ u ∈ r, defN u.1 = none → (∀ n, refN u.1 = some n → D n = true) ∧ (refN u.1 = none → codeB u.1 = true) := fun u hu => h.each u (by simp [hu])
    cases hd : defN t.1 with
    | some n =>
      have hnd := h.nodup
      simp only [List.filterMap_cons, hd, List.nodup_cons] at hnd
      have hf := h.fresh n (by simp [hd])
      simp only
      rw [if_neg (by rw [hf]; decide)]
      refine ih _ ⟨?_, hnd.2, htail⟩
      intro k hk
      unfold setB
      rw [if_neg (fun e => hnd.1 (by rw [← e]; exact hk))]
      exact h.fresh k (by simp only [List.filterMap_cons, hd, List.mem_cons]; exact Or.inr hk)
    | none =>
      have he := h.each t (by simp) hd
      have hk : Ok D M r := ⟨fun k hk => h.fresh k (by simpa [List.filterMap_cons, hd] using hk), by simpa [List.filterMap_cons, hd] using h.nodup, htail⟩
      simp only
      cases hr : refN t.1 with
      | some n => simp only; rw [if_pos (he.1 n hr)]; exact ih _ hk
      | none => simp only; rw [if_pos (he.2 hr)]; exact ih _ hk

theorem mem_defs {l : List Tok} {n : Bytes} : defd l n = true ↔ n ∈ l.filterMap (defN ·.1) := by
  unfold defd
  rw [List.any_eq_true, List.mem_filterMap]
  constructor
  · rintro ⟨t, h1, h2⟩; exact ⟨t, h1, of_decide_eq_true h2⟩
  · rintro ⟨t, h1, h2⟩; exact ⟨t, h1, decide_eq_true h2⟩

/-- the labels' names are the definitions' -/
theorem build_names (f : Bytes → Int) (o : Int) : ∀ (l : List Tok) (s : Bytes) (p : List Lab), (buildA f o s p l).2.map (·.1) = p.map (·.1) ++ l.filterMap (defN ·.1) := by
  intro l
  induction l with
  | nil => intro s p; simp [buildA]
  | cons t r ih =>
    intro s p
    unfold buildA
    cases hd : defN t.1 with
    | some n => simp only; rw [ih]; simp [hd]
    | none => simp only; rw [ih]; simp [hd]

theorem build_some (f : Bytes → Int) (o : Int) (s : Bytes) (p : List Lab) (t : Tok) (r : List Tok) (n : Bytes) (h : defN t.1 = some n) : buildA f o s p (t :: r) = buildA f o s (p ++ [(n, o + s.length)]) r := by
  rw [buildA, h]
theorem build_none (f : Bytes → Int) (o : Int) (s : Bytes) (p : List Lab) (t : Tok) (r : List Tok) (h : defN t.1 = none) : buildA f o s p (t :: r) = buildA f o (glue s (addS f t)) p r := by
  rw [buildA, h]

theorem build_append (f : Bytes → Int) (o : Int) : ∀ (l m : List Tok) (s : Bytes) (p : List Lab), buildA f o s p (l ++ m) = buildA f o (buildA f o s p l).1 (buildA f o s p l).2 m := by
  intro l
  induction l with
  | nil => intro m s p; rfl
  | cons t r ih =>
    intro m s p
    rw [List.cons_append]
    cases hd : defN t.1 with
    | some n => rw [build_some f o _ _ _ _ _ hd, build_some f o _ _ _ _ _ hd]; exact ih _ _ _
    | none => rw [build_none f o _ _ _ _ hd, build_none f o _ _ _ _ hd]; exact ih _ _ _
theorem glue_prefix (a b : Bytes) : a <+: glue a b := by
  unfold glue
  split
  · rw [List.append_assoc]; exact List.prefix_append _ _
  · exact List.prefix_append _ _
theorem build_prefix (f : Bytes → Int) (o : Int) : ∀ (l : List Tok) (s : Bytes) (p : List Lab), s <+: (buildA f o s p l).1 ∧ p <+: (buildA f o s p l).2 := by
  intro l
  induction l with
  | nil => intro s p; exact ⟨List.prefix_refl _, List.prefix_refl _⟩
  | cons t r ih =>
    intro s p
    unfold buildA
    cases hd : defN t.1 with
    | some n => exact ⟨(ih _ _).1, (List.prefix_append _ _).trans (ih _ _).2⟩
    | none => exact ⟨(glue_prefix _ _).trans (ih _ _).1, (ih _ _).2⟩
/-- the text depends on the addresses of the references that it meets -/
theorem build_congr (f g : Bytes → Int) (o : Int) : ∀ (l : List Tok) (s : Bytes) (p : List Lab), (∀ t ∈ l, ∀ n, defN t.1 = none → refN t.1 = some n → f n = g n) → buildA f o s p l = buildA g o s p l := by
  intro l
  induction l with
  | nil => intro s p _; rfl
  | cons t r ih =>
    intro s p h
    unfold buildA
    cases hd : defN t.1 with
    | some n => exact ih _ _ fun u hu => h u (by simp [hu])
    | none =>
      have : addS f t = addS g t := by
        unfold addS
        cases hr : refN t.1 with
        | some n => simp only; rw [h t (by simp) n hd hr]
        | none => rfl
      simp only
      rw [this]
      exact ih _ _ fun u hu => h u (by simp [hu])
theorem shift_zero : ∀ {l m : List Lab}, Shift 0 l m → l = m := by
  intro l m h
  induction h with
  | nil => rfl
  | cons h1 h2 _ ih => rw [ih]; congr 1; exact Prod.ext h1 (by omega)
/-- the labels of both passes are the same -/
theorem build_labels (f g : Bytes → Int) (o : Int) (l : List Tok) : (buildA f o [] [] l).2 = (buildA g o [] [] l).2 := by
  have := (build_sim f g o o l [] [] [] [] .nil (by rw [Int.sub_self]; exact .nil)).2
  rw [Int.sub_self] at this
  exact shift_zero this

theorem lookI_notin (p q : List Lab) (n : Bytes) (h : n ∉ q.map (·.1)) : lookI (p ++ q) n = lookI p n := by
  have key : ∀ q : List Lab, n ∉ q.map (·.1) → lookI (p ++ q.reverse.reverse) n = lookI p n := by
    intro q
    generalize hr : q.reverse = r
    intro hq
    have hq' : n ∉ r.map (·.1) := by rw [← hr, List.map_reverse, List.mem_reverse]; exact hq
    clear hq hr
    induction r with
    | nil => simp
    | cons x r ih =>
      rw [List.reverse_cons, ← List.append_assoc, lookI_snoc]
      unfold setI
      simp only [List.map_cons, List.mem_cons, not_or] at hq'
      rw [if_neg hq'.1]
      exact ih hq'.2
  have := key q h
  rwa [List.reverse_reverse] at this

theorem cutAt_join (c : UInt8) : ∀ (a b p : Bytes), cutAt c p (a ++ c :: b) = cutAt c p a ++ cutAt c [] b := by
  intro a
  induction a with
  | nil => intro b p; simp [cutAt]
  | cons x a ih =>
    intro b p
    rw [List.cons_append]
    by_cases h : x = c
    · simp [cutAt, h, ih]
    · simp [cutAt, h, ih]
theorem linesToks_append : ∀ (l m : List Bytes) (n : Nat), linesToks n (l ++ m) = linesToks n l ++ linesToks (n + l.length) m := by
  intro l
  induction l with
  | nil => intro m n; rfl
  | cons x l ih =>
    intro m n
    simp only [List.cons_append, linesToks, ih, List.append_assoc, List.length_cons]
    rw [show n + 1 + l.length = n + (l.length + 1) by omega]
theorem toks_join (a b : Bytes) : ∃ r, toks (a ++ 10 :: b) = toks a ++ r := by
  unfold toks
  rw [cutAt_join, linesToks_append]
  exact ⟨_, rfl⟩

/-- what an answer without an error is -/
theorem asm_ok {src : Bytes} {o : Int} (h : (asmA src o).2.2.2 = 0) :
    0 ≤ o ∧ o < 262144 ∧ Ok (defd (toks src)) (fun _ => false) (toks src) ∧ asmA src o = ((buildA (lookI (buildA (fun _ => 0) o [] [] (toks src)).2) o [] [] (toks src)).1, (buildA (fun _ => 0) o [] [] (toks src)).2, 0, 0) ∧ (asmA src o).1.length ≤ 40000 := by
  by_cases h1 : o < 0 ∨ 262144 ≤ o
  · unfold asmA at h; rw [if_pos h1] at h; cases h
  have h' := h
  unfold asmA at h' ⊢
  rw [if_neg h1] at h' ⊢
  by_cases hc : (chkA (toks src)).2 ≠ 0
  · rw [if_pos hc] at h'; exact absurd h' hc
  rw [if_neg hc] at h' ⊢
  by_cases hl : 40000 < (buildA (lookI (buildA (fun _ => 0) o [] [] (toks src)).2) o [] [] (toks src)).1.length
  · rw [if_pos hl] at h'; cases h'
  rw [if_neg hl] at h' ⊢
  refine ⟨by omega, by omega, ok_of_chk _ _ _ (by simpa [chkA] using hc), ?_, by simp only; omega⟩
  rw [build_labels (lookI (buildA (fun _ => 0) o [] [] (toks src)).2) (fun _ => 0) o (toks src)]

theorem asm_cat (a b : Bytes) (o : Int) (h1 : (asmA a o).2.2.2 = 0) (h2 : (asmA (a ++ 10 :: b) o).2.2.2 = 0) :
    (asmA a o).1 <+: (asmA (a ++ 10 :: b) o).1 ∧ (asmA a o).2.1 <+: (asmA (a ++ 10 :: b) o).2.1 := by
  obtain ⟨_, _, k1, e1, _⟩ := asm_ok h1
  obtain ⟨_, _, k2, e2, _⟩ := asm_ok h2
  obtain ⟨r, hr⟩ := toks_join a b
  rw [e1, e2, hr]
  rw [hr] at k2
  simp only
  have hnd := k2.nodup
  rw [List.filterMap_append, List.nodup_append] at hnd
  have hp : (buildA (fun _ => 0) o [] [] (toks a)).2 <+: (buildA (fun _ => 0) o [] [] (toks a ++ r)).2 := by
    rw [build_append]; exact (build_prefix _ _ _ _ _).2
  refine ⟨?_, hp⟩
  obtain ⟨q, hq⟩ := hp
  have hc : buildA (lookI (buildA (fun _ => 0) o [] [] (toks a)).2) o [] [] (toks a) = buildA (lookI (buildA (fun _ => 0) o [] [] (toks a ++ r)).2) o [] [] (toks a) := by
    refine build_congr _ _ _ _ _ _ fun t ht n hd hrf => ?_
    rw [← hq]
    refine (lookI_notin _ _ _ ?_).symm
    have hn : n ∈ (toks a).filterMap (defN ·.1) := mem_defs.1 ((k1.each t ht hd).1 n hrf)
    have hnames := congrArg (List.map (·.1)) hq
    rw [List.map_append, build_names, build_names, List.filterMap_append] at hnames
    simp only [List.map_nil, List.nil_append] at hnames
    have := List.append_cancel_left hnames
    rw [this]
    intro hmem
    exact hnd.2.2 n hn n hmem rfl
  rw [hc]
  conv => rhs; rw [build_append]
  exact (build_prefix _ _ _ _ _).1
end Go.Proofs.YtimegcnpembhkaaDoor
