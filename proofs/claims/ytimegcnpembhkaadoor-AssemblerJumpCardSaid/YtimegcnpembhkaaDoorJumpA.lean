/- The law AssemblerJump, the assembler's side: the words of its source, the text that comes of them. -/
import Derived.Test.YtimegcnpembhkaaDoorAsmWide
import Derived.Test.YtimegcnpembhkaaDoorDecimal
namespace Go.Proofs.YtimegcnpembhkaaDoor
open Go.Lib Dec
set_option linter.unusedVariables false

/-- the texts of a source's tokens -/
def wtx (s : Bytes) : List Bytes := (toks s).map (·.1)
theorem scan_texts : ∀ (s : Bytes) (n m : Nat) (cur : Bytes) (com : Bool), (scan s n cur com).map (·.1) = (scan s m cur com).map (·.1)
  | [], n, m, cur, com => by
    rw [scan, scan]
    split <;> rfl
  | c :: r, n, m, cur, com => by
    rw [scan, scan]
    split
    · rw [List.map_append, List.map_append, scan_texts r (n + 1) (m + 1)]
      congr 1
      split <;> rfl
    split
    · exact scan_texts r n m [] true
    split
    · rw [List.map_append, List.map_append, scan_texts r n m]
      congr 1
      split <;> rfl
    split
    · rw [List.map_append, List.map_append, scan_texts r n m]
      congr 1
      split <;> rfl
    · exact scan_texts r n m _ false
theorem scan_space : ∀ (a b : Bytes) (n : Nat) (cur : Bytes), (35 : UInt8) ∉ a → (scan (a ++ 32 :: b) n cur false).map (·.1) = (scan a n cur false).map (·.1) ++ (scan b 1 [] false).map (·.1)
  | [], b, n, cur, _ => by
    rw [List.nil_append, scan_sp, List.map_append, scan_texts b n 1]
    congr 1
  | c :: a, b, n, cur, h => by
    have ha : (35 : UInt8) ∉ a := fun e => h (List.mem_cons_of_mem _ e)
    have hc : c ≠ 35 := fun e => h (by rw [e]; exact List.mem_cons_self)
    rw [List.cons_append]
    by_cases h10 : c = 10
    · subst h10
      rw [scan_nl, scan_nl, List.map_append, List.map_append, scan_space a b _ _ ha, List.append_assoc]
    by_cases h32 : c = 32
    · subst h32
      rw [scan_sp, scan_sp, List.map_append, List.map_append, scan_space a b _ _ ha, List.append_assoc]
    rw [scan_other _ _ _ _ h10 hc h32, scan_other _ _ _ _ h10 hc h32]
    exact scan_space a b _ _ ha
theorem scan_word : ∀ (w : Bytes) (n : Nat) (cur : Bytes), cur ++ w ≠ [] → (∀ c ∈ w, c ≠ 10 ∧ c ≠ 35 ∧ c ≠ 32) → scan w n cur false = [(cur ++ w, n)]
  | [], n, cur, h, _ => by
    rw [List.append_nil] at h ⊢
    rw [scan, if_neg h]
  | c :: w, n, cur, h, hw => by
    obtain ⟨h1, h2, h3⟩ := hw c List.mem_cons_self
    rw [scan_other _ _ _ _ h1 h2 h3, scan_word w n _ (by simp) (fun x hx => hw x (List.mem_cons_of_mem _ hx)), List.append_assoc]
    rfl
theorem wtx_space (a b : Bytes) (h : (35 : UInt8) ∉ a) : wtx (a ++ 32 :: b) = wtx a ++ wtx b := by
  unfold wtx
  rw [← scan_toks, ← scan_toks, ← scan_toks]
  exact scan_space a b 1 [] h
theorem wtx_word (w : Bytes) (h : w ≠ []) (hw : ∀ c ∈ w, c ≠ 10 ∧ c ≠ 35 ∧ c ≠ 32) : wtx w = [w] := by
  unfold wtx
  rw [← scan_toks, scan_word w 1 [] (by simpa using h) hw]
  rfl
theorem wtx_cons (w b : Bytes) (h : w ≠ []) (hw : ∀ c ∈ w, c ≠ 10 ∧ c ≠ 35 ∧ c ≠ 32) : wtx (w ++ 32 :: b) = w :: wtx b := by
  rw [wtx_space w b (fun e => (hw 35 e).2.1 rfl), wtx_word w h hw]
  rfl
theorem cd_free {c : UInt8} (h : isCd c = true) : c ≠ 10 ∧ c ≠ 35 ∧ c ≠ 32 := by
  refine ⟨?_, ?_, ?_⟩ <;>
  · rintro rfl
    exact absurd h (by decide)
/-- a word of signs and digits -/
def CodeW (w : Bytes) : Prop := w ≠ [] ∧ ∀ c ∈ w, isCd c = true
theorem scan_code : ∀ (s : Bytes) (n : Nat) (cur : Bytes), (∀ c ∈ cur, isCd c = true) → (∀ c ∈ s, c = 10 ∨ c = 32 ∨ isCd c = true) → ∀ t ∈ scan s n cur false, CodeW t.1
  | [], n, cur, hc, _, t, ht => by
    rw [scan] at ht
    split at ht
    · cases ht
    · rename_i h
      rw [List.mem_singleton.1 ht]
      exact ⟨h, hc⟩
  | c :: s, n, cur, hc, hs, t, ht => by
    have hs' : ∀ x ∈ s, x = 10 ∨ x = 32 ∨ isCd x = true := fun x hx => hs x (List.mem_cons_of_mem _ hx)
    have hfirst : ∀ t ∈ (if cur = [] then [] else [(cur, n)] : List Tok), CodeW t.1 := fun t ht => by
      split at ht
      · cases ht
      · rename_i h
        rw [List.mem_singleton.1 ht]
        exact ⟨h, hc⟩
    by_cases h10 : c = 10
    · subst h10
      rw [scan_nl] at ht
      rcases List.mem_append.1 ht with ht | ht
      · exact hfirst t ht
      · exact scan_code s _ [] (fun x hx => by cases hx) hs' t ht
    by_cases h32 : c = 32
    · subst h32
      rw [scan_sp] at ht
      rcases List.mem_append.1 ht with ht | ht
      · exact hfirst t ht
      · exact scan_code s _ [] (fun x hx => by cases hx) hs' t ht
    have hcd : isCd c = true := by
      rcases hs c List.mem_cons_self with h | h | h
      · exact absurd h h10
      · exact absurd h h32
      · exact h
    rw [scan_other _ _ _ _ h10 (cd_free hcd).2.1 h32] at ht
    exact scan_code s n _ (fun x hx => by
      rcases List.mem_append.1 hx with hx | hx
      · exact hc x hx
      · rw [List.mem_singleton.1 hx]; exact hcd) hs' t ht
theorem wtx_code (s : Bytes) (hs : ∀ c ∈ s, c = 10 ∨ c = 32 ∨ isCd c = true) : ∀ k ∈ wtx s, CodeW k := by
  intro k hk
  unfold wtx at hk
  rw [← scan_toks] at hk
  obtain ⟨t, ht, rfl⟩ := List.mem_map.1 hk
  exact scan_code s 1 [] (fun x hx => by cases hx) hs t ht
theorem low_code (c : UInt8) (h : isCd c = true) : isLow c = false := u8_all (p := fun c => isCd c = true → isLow c = false) (by decide +kernel) c h
theorem CodeW.facts {w : Bytes} (h : CodeW w) : defN w = none ∧ refN w = none ∧ codeB w = true := by
  obtain ⟨h1, h2⟩ := h
  refine ⟨?_, ?_, List.all_eq_true.2 h2⟩
  · unfold defN
    rw [if_neg]
    rintro ⟨-, hn⟩
    have hsub : ∀ c ∈ w.dropLast, isCd c = true := fun c hc => h2 c (List.dropLast_subset _ hc)
    cases hd : w.dropLast with
    | nil => rw [hd] at hn; cases hn
    | cons c r =>
      rw [hd] at hn hsub
      unfold nameB at hn
      dsimp only at hn
      rw [low_code c (hsub c List.mem_cons_self)] at hn
      simp at hn
  · cases w with
    | nil => rfl
    | cons c r =>
      have hc := h2 c List.mem_cons_self
      unfold refN
      split
      · rename_i r' heq
        injection heq with e1 e2
        rw [e1] at hc
        exact absurd hc (by decide)
      · rfl
theorem chk_code (D : Bytes → Bool) (M : Bytes → Bool) (r : List Tok) : ∀ pre : List Tok, (∀ t ∈ pre, CodeW t.1) → chkGo D M (pre ++ r) = chkGo D M r
  | [], _ => rfl
  | t :: pre, h => by
    obtain ⟨f1, f2, f3⟩ := (h t List.mem_cons_self).facts
    rw [List.cons_append, chkGo, f1, f2]
    dsimp only
    rw [if_pos f3]
    exact chk_code D M r pre (fun x hx => h x (List.mem_cons_of_mem _ hx))
theorem build_code (f : Bytes → Int) (o : Int) (labs : List Lab) (r : List Tok) : ∀ (pre : List Tok) (text : Bytes), (∀ t ∈ pre, CodeW t.1) → buildA f o text labs (pre ++ r) = buildA f o ((pre.map (·.1)).foldl glue text) labs r
  | [], text, _ => rfl
  | t :: pre, text, h => by
    obtain ⟨f1, f2, f3⟩ := (h t List.mem_cons_self).facts
    rw [List.cons_append, buildA, f1]
    dsimp only
    rw [build_code f o labs r pre _ (fun x hx => h x (List.mem_cons_of_mem _ hx)), List.map_cons, List.foldl_cons]
    unfold addS
    rw [f2]
theorem lastB_app2 (a b : Bytes) (h : b ≠ []) : lastB (a ++ b) = lastB b := by
  unfold lastB
  rw [List.getLast?_append]
  cases hb : b.getLast? with
  | none => exact absurd (List.getLast?_eq_none_iff.1 hb) h
  | some x => rfl
theorem glue_front (a b s : Bytes) (h : b ≠ []) : glue (a ++ b) s = a ++ glue b s := by
  unfold glue
  rw [lastB_app2 a b h]
  split <;> simp
theorem glue_ne (b s : Bytes) (h : b ≠ []) : glue b s ≠ [] := by
  unfold glue
  intro e
  have := List.append_eq_nil_iff.1 e
  split at this
  · have := List.append_eq_nil_iff.1 this.1
    exact h this.1
  · exact h this.1
theorem fold_front (a : Bytes) : ∀ (ks : List Bytes) (b : Bytes), b ≠ [] → ks.foldl glue (a ++ b) = a ++ ks.foldl glue b
  | [], b, _ => rfl
  | k :: ks, b, h => by
    rw [List.foldl_cons, List.foldl_cons, glue_front a b k h, fold_front a ks _ (glue_ne b k h)]
end Go.Proofs.YtimegcnpembhkaaDoor
