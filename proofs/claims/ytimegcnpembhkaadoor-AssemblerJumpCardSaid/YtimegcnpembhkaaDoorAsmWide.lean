/- The plain law of layout: other white space and comments change the lines alone. -/
import Derived.Test.YtimegcnpembhkaaDoorAsmCat
import Derived.Lib.Replace
namespace Go.Proofs.YtimegcnpembhkaaDoor
open Go.RowKit
open Go.Lib hiding intOf
set_option linter.unusedVariables false

theorem replaceK_flat (c : UInt8) (new : Bytes) : ∀ l : Bytes, replaceK [c] new (count l [c]) l = l.flatMap fun x => if x = c then new else [x] := by
  intro l
  induction l with
  | nil => rfl
  | cons b l ih =>
    by_cases h : b = c
    · subst h
      have hi := index_cons_eq b l
      rw [count_hit (i := 0) (by simp) (by rw [hi]; rfl), Nat.add_comm, replaceK_hit _ _ _ _ 0 (by rw [hi]; rfl)]
      simp only [List.take_zero, List.nil_append, List.length_cons, List.length_nil, Nat.zero_add, List.drop_succ_cons, List.drop_zero, List.flatMap_cons, if_pos]
      rw [ih]
    · have hi := index_cons_ne b c l h
      have hg := index_ge l [c]
      rw [List.flatMap_cons, if_neg h, ← ih]
      by_cases h1 : index l [c] = -1
      · rw [count_miss h1, count_miss (by rw [hi, if_pos h1])]
        rfl
      · obtain ⟨i, hii⟩ : ∃ i : Nat, index l [c] = i := ⟨(index l [c]).toNat, by omega⟩
        have hi2 : index (b :: l) [c] = ((i + 1 : Nat) : Int) := by rw [hi, if_neg h1, hii]; rfl
        rw [count_hit (i := i) (by simp) hii, count_hit (i := i + 1) (by simp) hi2, Nat.add_comm, replaceK_hit _ _ _ _ _ hi2]
        rw [Nat.add_comm 1, replaceK_hit _ _ _ _ _ hii]
        simp
theorem replaceAll_flat (c : UInt8) (new : Bytes) (l : Bytes) (h : ([c] == new) = false) : replaceAll l [c] new = l.flatMap fun x => if x = c then new else [x] := by
  unfold replaceAll replace
  rw [if_neg (by rw [h]; decide)]
  unfold replaceNum
  rw [if_pos (Or.inl (by decide))]
  exact replaceK_flat c new l

theorem contains_mem (c : UInt8) : ∀ l : Bytes, Lib.contains l [c] = decide (c ∈ l) := by
  intro l
  unfold Lib.contains
  induction l with
  | nil => simp [index]
  | cons b l ih =>
    by_cases h : b = c
    · subst h
      rw [index_cons_eq]
      simp
    · rw [index_cons_ne b c l h]
      have hc : ¬ c = b := fun e => h e.symm
      have hg := index_ge l [c]
      by_cases h1 : index l [c] = -1
      · rw [if_pos h1]
        rw [h1] at ih
        have : ¬ c ∈ l := by simpa using ih
        simp [hc, this]
      · rw [if_neg h1]
        rw [decide_eq_true (by omega)] at ih
        have : c ∈ l := by simpa using ih
        rw [decide_eq_true (by omega)]
        simp [this]

def newW : Bytes := [32, 32, 35, 32, 38, 32, 97, 110, 111, 116, 104, 101, 114, 10, 32]
def headW : Bytes := [35, 32, 97, 32, 99, 111, 109, 109, 101, 110, 116, 10]
/-- the wide source -/
def wideA (s : Bytes) : Bytes := headW ++ s.flatMap fun x => if x = 32 then newW else [x]

theorem scan_head (X : Bytes) : scan (headW ++ X) 1 [] false = scan X 2 [] false := by
  simp [headW, scan]
theorem scan_new (X : Bytes) (n : Nat) (cur : Bytes) : scan (newW ++ X) n cur false = (if cur = [] then [] else [(cur, n)]) ++ scan X (n + 1) [] false := by
  simp [newW, scan]

theorem scan_wide : ∀ (s : Bytes) (n m : Nat) (cur : Bytes), (35 : UInt8) ∉ s → (10 : UInt8) ∉ s →
    (scan (s.flatMap fun x => if x = 32 then newW else [x]) n cur false).map (·.1) = (scan s m cur false).map (·.1) ∧ ∀ t ∈ scan (s.flatMap fun x => if x = 32 then newW else [x]) n cur false, n ≤ t.2 := by
  intro s
  induction s with
  | nil =>
    intro n m cur _ _
    unfold scan
    by_cases h : cur = []
    · simp [h]
    · simp [h]
  | cons c s ih =>
    intro n m cur h1 h2
    simp only [List.mem_cons, not_or] at h1 h2
    rw [List.flatMap_cons]
    by_cases hc : c = 32
    · subst hc
      rw [if_pos rfl, scan_new, scan_sp]
      obtain ⟨k1, k2⟩ := ih (n + 1) m [] h1.2 h2.2
      refine ⟨?_, fun t ht => ?_⟩
      · rw [List.map_append, List.map_append, k1]
        by_cases h : cur = [] <;> simp [h]
      · rcases List.mem_append.1 ht with ht | ht
        · split at ht
          · cases ht
          · obtain rfl : t = (cur, n) := by simpa using ht
            exact Nat.le_refl _
        · have := k2 t ht; omega
    · rw [if_neg hc, List.cons_append, List.nil_append, scan_other c _ _ _ (fun e => h2.1 e.symm) (fun e => h1.1 e.symm) hc, scan_other c _ _ _ (fun e => h2.1 e.symm) (fun e => h1.1 e.symm) hc]
      exact ih n m _ h1.2 h2.2
theorem scan_line : ∀ (s : Bytes) (n : Nat) (cur : Bytes) (com : Bool), ∀ t ∈ scan s n cur com, n ≤ t.2 := by
  intro s
  induction s with
  | nil =>
    intro n cur com t ht
    unfold scan at ht
    split at ht
    · cases ht
    · obtain rfl : t = (cur, n) := by simpa using ht
      exact Nat.le_refl _
  | cons c r ih =>
    intro n cur com t ht
    have one : t ∈ (if cur = [] then [] else [(cur, n)]) → n ≤ t.2 := by
      intro hm
      split at hm
      · cases hm
      · obtain rfl : t = (cur, n) := by simpa using hm
        exact Nat.le_refl _
    by_cases h10 : c = 10
    · subst h10
      rw [scan_nl, List.mem_append] at ht
      rcases ht with h | h
      · exact one h
      · have := ih _ _ _ t h; omega
    · cases com with
      | true => rw [scan_com _ _ _ _ h10] at ht; exact ih _ _ _ t ht
      | false =>
        by_cases h35 : c = 35
        · subst h35
          rw [scan_hash, List.mem_append] at ht
          rcases ht with h | h
          · exact one h
          · exact ih _ _ _ t h
        · by_cases h32 : c = 32
          · subst h32
            rw [scan_sp, List.mem_append] at ht
            rcases ht with h | h
            · exact one h
            · exact ih _ _ _ t h
          · rw [scan_other _ _ _ _ h10 h35 h32] at ht
            exact ih _ _ _ t ht

theorem toks_wide (s : Bytes) (h1 : (35 : UInt8) ∉ s) (h2 : (10 : UInt8) ∉ s) :
    (toks (wideA s)).map (·.1) = (toks s).map (·.1) ∧ (∀ t ∈ toks (wideA s), 2 ≤ t.2) ∧ (∀ t ∈ toks s, 1 ≤ t.2) := by
  rw [← scan_toks, ← scan_toks]
  unfold wideA
  rw [scan_head]
  obtain ⟨k1, k2⟩ := scan_wide s 2 1 [] h1 h2
  exact ⟨k1, k2, scan_line s 1 [] false⟩

theorem chk_texts (D : Bytes → Bool) : ∀ (a b : List Tok) (M : Bytes → Bool), a.map (·.1) = b.map (·.1) →
    (chkGo D M a = (0, 0) ∧ chkGo D M b = (0, 0)) ∨ ∃ t ∈ a, ∃ u ∈ b, ∃ e : Int, e ≠ 0 ∧ chkGo D M a = ((t.2 : Int), e) ∧ chkGo D M b = ((u.2 : Int), e) := by
  intro a
  induction a with
  | nil => intro b M h; cases b with | nil => exact Or.inl ⟨rfl, rfl⟩ | cons _ _ => simp at h
  | cons t r ih =>
    intro b M h
    cases b with
    | nil => simp at h
    | cons u q =>
      simp only [List.map_cons, List.cons.injEq] at h
      have lift : ∀ M, ((chkGo D M r = (0, 0) ∧ chkGo D M q = (0, 0)) ∨ ∃ t' ∈ t :: r, ∃ u' ∈ u :: q, ∃ e : Int, e ≠ 0 ∧ chkGo D M r = ((t'.2 : Int), e) ∧ chkGo D M q = ((u'.2 : Int), e)) := by
        intro M
        rcases ih q M h.2 with k | ⟨t', ht, u', hu, e, k⟩
        · exact Or.inl k
        · exact Or.inr ⟨t', by simp [ht], u', by simp [hu], e, k⟩
      unfold chkGo
      rw [← h.1]
      cases hd : defN t.1 with
      | some n =>
        simp only
        by_cases hm : M n = true
        · rw [if_pos hm, if_pos hm]
          exact Or.inr ⟨t, by simp, u, by simp, 8, by decide, rfl, rfl⟩
        · rw [if_neg hm, if_neg hm]; exact lift _
      | none =>
        simp only
        cases hr : refN t.1 with
        | some n =>
          simp only
          by_cases hm : D n = true
          · rw [if_pos hm, if_pos hm]; exact lift _
          · rw [if_neg hm, if_neg hm]
            exact Or.inr ⟨t, by simp, u, by simp, 7, by decide, rfl, rfl⟩
        | none =>
          simp only
          by_cases hm : codeB t.1 = true
          · rw [if_pos hm, if_pos hm]; exact lift _
          · rw [if_neg hm, if_neg hm]
            exact Or.inr ⟨t, by simp, u, by simp, 3, by decide, rfl, rfl⟩
theorem defd_texts {a b : List Tok} (h : a.map (·.1) = b.map (·.1)) : defd a = defd b := by
  funext n
  have e : ∀ l : List Tok, defd l n = (l.map (·.1)).any fun x => decide (defN x = some n) := fun l => by unfold defd; rw [List.any_map]; rfl
  rw [e, e, h]
theorem build_texts (f : Bytes → Int) (o : Int) : ∀ (a b : List Tok) (s : Bytes) (p : List Lab), a.map (·.1) = b.map (·.1) → buildA f o s p a = buildA f o s p b := by
  intro a
  induction a with
  | nil => intro b s p h; cases b with | nil => rfl | cons _ _ => simp at h
  | cons t r ih =>
    intro b s p h
    cases b with
    | nil => simp at h
    | cons u q =>
      simp only [List.map_cons, List.cons.injEq] at h
      cases hd : defN t.1 with
      | some n => rw [build_some f o _ _ _ _ _ hd, build_some f o _ _ _ _ n (by rw [← h.1]; exact hd)]; exact ih _ _ _ h.2
      | none =>
        rw [build_none f o _ _ _ _ hd, build_none f o _ _ _ _ (by rw [← h.1]; exact hd)]
        have : addS f t = addS f u := by unfold addS; rw [h.1]
        rw [this]
        exact ih _ _ _ h.2

theorem asm_wide (s : Bytes) (o : Int) (h1 : (35 : UInt8) ∉ s) (h2 : (10 : UInt8) ∉ s) :
    (asmA s o).1 = (asmA (wideA s) o).1 ∧ (asmA s o).2.1 = (asmA (wideA s) o).2.1 ∧ (asmA s o).2.2.2 = (asmA (wideA s) o).2.2.2 ∧ (0 < (asmA s o).2.2.1 ↔ 1 < (asmA (wideA s) o).2.2.1) := by
  obtain ⟨k1, k2, k3⟩ := toks_wide s h1 h2
  unfold asmA
  by_cases hr : o < 0 ∨ 262144 ≤ o
  · rw [if_pos hr, if_pos hr]; simp
  rw [if_neg hr, if_neg hr]
  have hb : ∀ f p, buildA f o [] p (toks (wideA s)) = buildA f o [] p (toks s) := fun f p => build_texts f o _ _ _ _ k1
  unfold chkA
  rw [defd_texts k1, hb, hb]
  rcases chk_texts (defd (toks s)) _ _ (fun _ => false) k1 with ⟨e1, e2⟩ | ⟨t, ht, u, hu, e, he, e1, e2⟩
  · rw [e1, e2]
    simp only [ne_eq, not_true_eq_false, if_false]
    by_cases hl : 40000 < (buildA (lookI (buildA (fun _ => 0) o [] [] (toks s)).2) o [] [] (toks s)).1.length
    · rw [if_pos hl]; simp
    · rw [if_neg hl]; simp
  · rw [e1, e2]
    simp only
    rw [if_pos he, if_pos he]
    refine ⟨rfl, rfl, rfl, ?_⟩
    have := k2 t ht
    have := k3 u hu
    simp only
    omega
end Go.Proofs.YtimegcnpembhkaaDoor
