/- The plain law of the round trip: a text's disassembly has digits and single signs as tokens, and assembles to the text. -/
import Derived.Test.YtimegcnpembhkaaDoorAsmCat
import Derived.Test.YtimegcnpembhkaaDoorAsmDis
namespace Go.Proofs.YtimegcnpembhkaaDoor
open Go.RowKit
open Go.Lib hiding intOf
set_option linter.unusedVariables false

def dstep (st : UInt8 × Bytes) (c : UInt8) : UInt8 × Bytes :=
  (c, if c = 32 ∨ c = 10 then st.2 else (if st.2 ≠ [] ∧ ¬ (isDig c = true ∧ isDig st.1 = true) then st.2 ++ [32] else st.2) ++ [c])
theorem disGo_fold : ∀ (s : Bytes) (last : UInt8) (out : Bytes), disGo last out s = (s.foldl dstep (last, out)).2 := by
  intro s
  induction s with
  | nil => intro last out; rfl
  | cons c r ih =>
    intro last out
    rw [List.foldl_cons]
    unfold disGo
    by_cases h : c = 32 ∨ c = 10
    · rw [if_pos h, ih]; simp only [dstep, if_pos h]
    · rw [if_neg h, ih]; simp only [dstep, if_neg h]
theorem disGo_length : ∀ (s : Bytes) (last : UInt8) (out : Bytes), (disGo last out s).length ≤ out.length + 2 * s.length := by
  intro s
  induction s with
  | nil => intro last out; simp [disGo]
  | cons c r ih =>
    intro last out
    unfold disGo
    split
    · have := ih c out; simp; omega
    · have := ih c ((if out ≠ [] ∧ ¬ (isDig c = true ∧ isDig last = true) then out ++ [32] else out) ++ [c])
      refine Nat.le_trans this ?_
      split <;> simp <;> omega

def glueAll (Ts : List Bytes) : Bytes := Ts.foldl glue []
def joinSp (Ts : List Bytes) : Bytes := Ts.foldl (fun a t => if a = [] then t else a ++ 32 :: t) []

/-- a text and its tokens -/
structure Grp (s : Bytes) (Ts : List Bytes) : Prop where
  gl : glueAll Ts = s
  fold : s.foldl dstep (32, []) = (lastB s, joinSp Ts)
  toks : ∀ t ∈ Ts, t ≠ [] ∧ (∀ c ∈ t, isCd c = true) ∧ (t.length = 1 ∨ ∀ c ∈ t, isDig c = true)
  cur : isDig (lastB s) = true → ∃ T cur, Ts = T ++ [cur] ∧ (∀ c ∈ cur, isDig c = true)
  none : Ts = [] → s = []

theorem Grp.nil : Grp [] [] := ⟨rfl, rfl, (fun t h => by cases h), (fun h => absurd h (by decide)), fun _ => rfl⟩
theorem lastB_snoc (s : Bytes) (c : UInt8) : lastB (s ++ [c]) = c := by simp [lastB]
theorem joinSp_ne {Ts : List Bytes} (h : ∀ t ∈ Ts, t ≠ []) (hn : Ts ≠ []) : joinSp Ts ≠ [] := by
  obtain ⟨T, t, rfl⟩ : ∃ T t, Ts = T ++ [t] := ⟨Ts.dropLast, Ts.getLast hn, (List.dropLast_concat_getLast hn).symm⟩
  unfold joinSp
  rw [List.foldl_append, List.foldl_cons, List.foldl_nil]
  have ht := h t (by simp)
  split
  · exact ht
  · simp
theorem joinSp_snoc {Ts : List Bytes} (h : ∀ t ∈ Ts, t ≠ []) (t : Bytes) : joinSp (Ts ++ [t]) = if Ts = [] then t else joinSp Ts ++ 32 :: t := by
  have : joinSp (Ts ++ [t]) = if joinSp Ts = [] then t else joinSp Ts ++ 32 :: t := by
    unfold joinSp
    rw [List.foldl_append]; rfl
  rw [this]
  by_cases hn : Ts = []
  · subst hn; rfl
  · rw [if_neg hn, if_neg (joinSp_ne h hn)]
theorem cd_ws {c : UInt8} (h : isCd c = true) : ¬ (c = 32 ∨ c = 10) := by
  rintro (rfl | rfl)
  · exact absurd h (by decide)
  · exact absurd h (by decide)

/-- a new token -/
theorem Grp.new {s : Bytes} {Ts : List Bytes} (h : Grp s Ts) (c : UInt8) (hc : isCd c = true) (hd : ¬ (isDig c = true ∧ isDig (lastB s) = true)) : Grp (s ++ [c]) (Ts ++ [[c]]) := by
  have hne : ∀ t ∈ Ts, t ≠ [] := fun t ht => (h.toks t ht).1
  refine ⟨?_, ?_, ?_, ?_, fun e => by simp at e⟩
  · unfold glueAll
    rw [List.foldl_append]
    have := h.gl
    unfold glueAll at this
    rw [this, List.foldl_cons, List.foldl_nil]
    unfold Go.Proofs.YtimegcnpembhkaaDoor.glue
    rw [if_neg]
    rw [Bool.and_eq_true]
    exact fun e => hd ⟨e.2, e.1⟩
  · rw [List.foldl_append, h.fold, List.foldl_cons, List.foldl_nil, lastB_snoc, joinSp_snoc hne]
    unfold dstep
    rw [if_neg (cd_ws hc)]
    simp only
    by_cases hn : Ts = []
    · subst hn
      rw [if_pos rfl, if_neg (by simp [joinSp])]
      rfl
    · rw [if_neg hn, if_pos ⟨joinSp_ne hne hn, hd⟩]
      simp
  · intro t ht
    rcases List.mem_append.1 ht with ht | ht
    · exact h.toks t ht
    · obtain rfl : t = [c] := by simpa using ht
      exact ⟨by simp, fun d hd => by simp at hd; rw [hd]; exact hc, Or.inl rfl⟩
  · intro e
    rw [lastB_snoc] at e
    exact ⟨Ts, [c], rfl, fun d hd => by simp at hd; rw [hd]; exact e⟩

theorem glue_snoc (a b : Bytes) (c : UInt8) (h : b ≠ []) : glue a (b ++ [c]) = glue a b ++ [c] := by
  unfold glue
  have : headB (b ++ [c]) = headB b := by cases b with | nil => exact absurd rfl h | cons x xs => rfl
  rw [this, List.append_assoc]

/-- one character more -/
theorem Grp.char {s : Bytes} {Ts : List Bytes} (h : Grp s Ts) (c : UInt8) (hc : isCd c = true) : ∃ Ts', Grp (s ++ [c]) Ts' := by
  by_cases hd : isDig c = true ∧ isDig (lastB s) = true
  · obtain ⟨T, cur, rfl, hcur⟩ := h.cur hd.2
    have hne : ∀ t ∈ T ++ [cur], t ≠ [] := fun t ht => (h.toks t ht).1
    have hcn := hne cur (by simp)
    have hneT : ∀ t ∈ T, t ≠ [] := fun t ht => hne t (by simp [ht])
    refine ⟨T ++ [cur ++ [c]], ?_, ?_, ?_, ?_, fun e => by simp at e⟩
    · have := h.gl
      unfold glueAll at this ⊢
      rw [List.foldl_append, List.foldl_cons, List.foldl_nil] at this ⊢
      rw [glue_snoc _ _ _ hcn, this]
    · rw [List.foldl_append, h.fold, List.foldl_cons, List.foldl_nil, lastB_snoc, joinSp_snoc hneT, joinSp_snoc hneT]
      unfold dstep
      rw [if_neg (cd_ws hc)]
      simp only
      rw [if_neg (fun e => e.2 hd)]
      by_cases hn : T = []
      · rw [if_pos hn, if_pos hn]
      · rw [if_neg hn, if_neg hn]; simp
    · intro t ht
      rcases List.mem_append.1 ht with ht | ht
      · exact h.toks t (by simp [ht])
      · obtain rfl : t = cur ++ [c] := by simpa using ht
        refine ⟨by simp, fun d hdm => ?_, Or.inr fun d hdm => ?_⟩
        · rcases List.mem_append.1 hdm with e | e
          · exact (h.toks cur (by simp)).2.1 d e
          · simp at e; rw [e]; exact hc
        · rcases List.mem_append.1 hdm with e | e
          · exact hcur d e
          · simp at e; rw [e]; exact hd.1
    · intro _
      refine ⟨T, cur ++ [c], rfl, fun d hdm => ?_⟩
      rcases List.mem_append.1 hdm with e | e
      · exact hcur d e
      · simp at e; rw [e]; exact hd.1
  · exact ⟨_, h.new c hc hd⟩

/-- a space and a digit more -/
theorem Grp.space {s : Bytes} {Ts : List Bytes} (h : Grp s Ts) (c : UInt8) (hl : isDig (lastB s) = true) (hc : isDig c = true) : ∃ Ts', Grp (s ++ [32] ++ [c]) Ts' := by
  have hcd : isCd c = true := by unfold isCd; rw [hc, Bool.or_true]
  obtain ⟨T, cur, hT, hcur⟩ := h.cur hl
  have hn : Ts ≠ [] := by rw [hT]; simp
  have hne : ∀ t ∈ Ts, t ≠ [] := fun t ht => (h.toks t ht).1
  refine ⟨Ts ++ [[c]], ?_, ?_, ?_, ?_, fun e => by simp at e⟩
  · unfold glueAll
    rw [List.foldl_append]
    have := h.gl
    unfold glueAll at this
    rw [this, List.foldl_cons, List.foldl_nil]
    unfold Go.Proofs.YtimegcnpembhkaaDoor.glue
    rw [if_pos (by rw [hl]; exact hc)]
  · rw [List.foldl_append, List.foldl_append, h.fold, List.foldl_cons, List.foldl_nil, List.foldl_cons, List.foldl_nil, lastB_snoc, joinSp_snoc hne, if_neg hn]
    unfold dstep
    rw [if_neg (cd_ws hcd), if_pos (Or.inl rfl)]
    simp only
    rw [if_pos ⟨joinSp_ne hne hn, fun e => absurd e.2 (by decide)⟩]
    simp
  · intro t ht
    rcases List.mem_append.1 ht with ht | ht
    · exact h.toks t ht
    · obtain rfl : t = [c] := by simpa using ht
      exact ⟨by simp, fun d hd => by simp at hd; rw [hd]; exact hcd, Or.inl rfl⟩
  · intro _
    exact ⟨Ts, [c], rfl, fun d hd => by simp at hd; rw [hd]; exact hc⟩
theorem Grp.chars : ∀ (r : Bytes) {s : Bytes} {Ts : List Bytes}, Grp s Ts → (∀ c ∈ r, isCd c = true) → ∃ Ts', Grp (s ++ r) Ts' := by
  intro r
  induction r with
  | nil => intro s Ts h _; exact ⟨Ts, by simpa using h⟩
  | cons c r ih =>
    intro s Ts h hc
    obtain ⟨T1, h1⟩ := h.char c (hc c (by simp))
    obtain ⟨T2, h2⟩ := ih h1 (fun d hd => hc d (by simp [hd]))
    exact ⟨T2, by simpa using h2⟩
theorem Grp.add {s : Bytes} {Ts : List Bytes} (h : Grp s Ts) (a : Bytes) (ha : a ≠ []) (hc : ∀ c ∈ a, isCd c = true) : ∃ Ts', Grp (glue s a) Ts' := by
  cases a with
  | nil => exact absurd rfl ha
  | cons c r =>
    unfold Go.Proofs.YtimegcnpembhkaaDoor.glue
    by_cases hd : (isDig (lastB s) && isDig (headB (c :: r))) = true
    · rw [if_pos hd]
      rw [Bool.and_eq_true] at hd
      obtain ⟨T1, h1⟩ := h.space c hd.1 hd.2
      obtain ⟨T2, h2⟩ := h1.chars r (fun d hd => hc d (by simp [hd]))
      exact ⟨T2, by simpa using h2⟩
    · rw [if_neg hd]
      exact h.chars (c :: r) hc

theorem sixA_cd (n : Int) : sixA n ≠ [] ∧ ∀ c ∈ sixA n, isCd c = true := by
  refine ⟨?_, fun c hc => ?_⟩
  · intro e
    have := congrArg List.length e
    unfold sixA at this
    rw [digs_length] at this
    cases this
  · unfold isCd
    rw [digs_dig _ _ c hc, Bool.or_true]
theorem build_grp (f : Bytes → Int) (o : Int) (D M : Bytes → Bool) : ∀ (l : List Tok) (s : Bytes) (p : List Lab) (Ts : List Bytes), (∀ t ∈ l, t.1 ≠ []) → (∀ t ∈ l, defN t.1 = none → refN t.1 = none → codeB t.1 = true) → Grp s Ts → ∃ Ts', Grp (buildA f o s p l).1 Ts' := by
  intro l
  induction l with
  | nil => intro s p Ts _ _ h; exact ⟨Ts, h⟩
  | cons t r ih =>
    intro s p Ts hn hk h
    have hn' : ∀ u ∈ r, u.1 ≠ [] := fun u hu => hn u (by simp [hu])
    have hk' : ∀ u ∈ r, defN u.1 = none → refN u.1 = none → codeB u.1 = true := fun u hu => hk u (by simp [hu])
    cases hd : defN t.1 with
    | some n => rw [build_some f o _ _ _ _ _ hd]; exact ih _ _ _ hn' hk' h
    | none =>
      rw [build_none f o _ _ _ _ hd]
      have ha : addS f t ≠ [] ∧ ∀ c ∈ addS f t, isCd c = true := by
        unfold addS
        cases hr : refN t.1 with
        | some n => exact sixA_cd _
        | none =>
          refine ⟨hn t (by simp), fun c hc => ?_⟩
          have := hk t (by simp) hd hr
          unfold codeB at this
          exact List.all_eq_true.1 this c hc
      obtain ⟨T1, h1⟩ := h.add _ ha.1 ha.2
      exact ih _ _ _ hn' hk' h1

theorem scan_word : ∀ (t rest : Bytes) (n : Nat) (cur : Bytes), (∀ c ∈ t, isCd c = true) → scan (t ++ rest) n cur false = scan rest n (cur ++ t) false := by
  intro t
  induction t with
  | nil => intro rest n cur _; simp
  | cons c t ih =>
    intro rest n cur h
    have hc := h c (by simp)
    rw [List.cons_append, scan_other c _ _ _ (fun e => cd_ws hc (Or.inr e)) (fun e => by rw [e] at hc; exact absurd hc (by decide)) (fun e => cd_ws hc (Or.inl e)), ih _ _ _ (fun d hd => h d (by simp [hd]))]
    simp
theorem joinSp_cons (t : Bytes) (r : List Bytes) (ht : t ≠ []) : joinSp (t :: r) = t ++ r.flatMap (fun u => 32 :: u) := by
  have key : ∀ (r : List Bytes) (a : Bytes), a ≠ [] → r.foldl (fun a t => if a = [] then t else a ++ 32 :: t) a = a ++ r.flatMap (fun u => 32 :: u) := by
    intro r
    induction r with
    | nil => intro a _; simp
    | cons x r ih =>
      intro a ha
      rw [List.foldl_cons, if_neg ha, ih _ (by simp)]
      simp
  unfold joinSp
  rw [List.foldl_cons, if_pos rfl]
  exact key r t ht
theorem toks_joinSp (Ts : List Bytes) (h : ∀ t ∈ Ts, t ≠ [] ∧ ∀ c ∈ t, isCd c = true) : toks (joinSp Ts) = Ts.map (·, 1) := by
  rw [← scan_toks]
  have key : ∀ (r : List Bytes) (cur : Bytes), cur ≠ [] → (∀ t ∈ r, t ≠ [] ∧ ∀ c ∈ t, isCd c = true) → scan (r.flatMap (fun u => 32 :: u)) 1 cur false = (cur, 1) :: r.map (·, 1) := by
    intro r
    induction r with
    | nil => intro cur hc _; simp [scan, hc]
    | cons x r ih =>
      intro cur hc hr
      rw [List.flatMap_cons, List.cons_append, scan_sp, if_neg hc, scan_word _ _ _ _ (hr x (by simp)).2, List.nil_append, ih _ (hr x (by simp)).1 (fun t ht => hr t (by simp [ht]))]
      simp
  cases Ts with
  | nil => rfl
  | cons t r =>
    have ht := h t (by simp)
    rw [joinSp_cons t r ht.1, scan_word _ _ _ _ ht.2, List.nil_append, key r t ht.1 (fun u hu => h u (by simp [hu]))]
    rfl

theorem tok_code {t : Bytes} (h1 : t ≠ []) (h2 : ∀ c ∈ t, isCd c = true) (h3 : t.length = 1 ∨ ∀ c ∈ t, isDig c = true) : defN t = none ∧ refN t = none ∧ codeB t = true := by
  refine ⟨?_, ?_, List.all_eq_true.2 h2⟩
  · unfold defN
    rw [if_neg]
    rintro ⟨hl, hn⟩
    rcases h3 with h3 | h3
    · have : t.dropLast = [] := List.eq_nil_of_length_eq_zero (by rw [List.length_dropLast, h3])
      rw [this] at hn
      cases hn
    · have hm : (58 : UInt8) ∈ t := List.mem_of_getLast? hl
      exact absurd (h3 _ hm) (by decide)
  · unfold refN
    split
    · exact absurd (h2 38 (by simp)) (by decide)
    · rfl

theorem build_code (f : Bytes → Int) (o : Int) : ∀ (Ts : List Bytes) (s : Bytes) (p : List Lab), (∀ t ∈ Ts, defN t = none ∧ refN t = none) → buildA f o s p (Ts.map (·, 1)) = (Ts.foldl glue s, p) := by
  intro Ts
  induction Ts with
  | nil => intro s p _; rfl
  | cons t r ih =>
    intro s p h
    have ht := h t (by simp)
    rw [List.map_cons, build_none f o _ _ _ _ ht.1, ih _ _ (fun u hu => h u (by simp [hu]))]
    have : addS f (t, 1) = t := by unfold addS; simp only; rw [ht.2]
    rw [this]; rfl

/-- assembling a disassembly -/
theorem asm_back (src : Bytes) (o : Int) (h : (asmA src o).2.2.2 = 0) :
    ∃ Ts : List Bytes, disA (asmA src o).1 = (joinSp Ts, 0) ∧ toks (joinSp Ts) = Ts.map (·, 1) ∧ asmA (joinSp Ts) o = ((asmA src o).1, [], 0, 0) ∧ (∀ t ∈ Ts, t.length = 1 ∨ ∀ c ∈ t, isDig c = true) ∧ (joinSp Ts).length ≤ 80000 := by
  obtain ⟨h0, h1, hok, he, hlen⟩ := asm_ok h
  have htm := toks_mem src
  obtain ⟨Ts, hg⟩ := build_grp (lookI (buildA (fun _ => 0) o [] [] (toks src)).2) o (fun _ => false) (fun _ => false) (toks src) [] [] [] (fun t ht => (htm t ht).1) (fun t ht h2 h3 => (hok.each t ht h2).2 h3) Grp.nil
  have ht : (asmA src o).1 = (buildA (lookI (buildA (fun _ => 0) o [] [] (toks src)).2) o [] [] (toks src)).1 := by rw [he]
  rw [← ht] at hg
  generalize (asmA src o).1 = s at *
  clear he ht hok htm
  have hk := toks_joinSp Ts (fun t ht => ⟨(hg.toks t ht).1, (hg.toks t ht).2.1⟩)
  have hds : disGo 32 [] s = joinSp Ts := by rw [disGo_fold, hg.fold]
  have hall : ∀ t ∈ Ts, defN t = none ∧ refN t = none ∧ codeB t = true := fun t ht => tok_code (hg.toks t ht).1 (hg.toks t ht).2.1 (hg.toks t ht).2.2
  refine ⟨Ts, ?_, hk, ?_, fun t ht => (hg.toks t ht).2.2, ?_⟩
  · unfold disA
    rw [hds, if_pos]
    unfold disOk
    rw [List.all_eq_true]
    intro c hc
    have key : ∀ (Ts : List Bytes) (s : Bytes), (∀ c ∈ s, (isCd c || isWs c) = true) → (∀ t ∈ Ts, ∀ c ∈ t, isCd c = true) → ∀ c ∈ Ts.foldl glue s, (isCd c || isWs c) = true := by
      intro Ts
      induction Ts with
      | nil => intro s hs _; exact hs
      | cons t r ih =>
        intro s hs ht
        rw [List.foldl_cons]
        refine ih _ ?_ (fun u hu => ht u (by simp [hu]))
        intro c hc
        unfold Go.Proofs.YtimegcnpembhkaaDoor.glue at hc
        rcases List.mem_append.1 hc with hc | hc
        · split at hc
          · rcases List.mem_append.1 hc with hc | hc
            · exact hs c hc
            · simp at hc; rw [hc]; decide
          · exact hs c hc
        · rw [ht t (by simp) c hc]; rfl
    refine key Ts [] (fun c hc => by cases hc) (fun t ht => (hg.toks t ht).2.1) c ?_
    have := hg.gl
    unfold glueAll at this
    rw [this]; exact hc
  · unfold asmA
    rw [if_neg (by omega), hk]
    have hchk : chkA (Ts.map (·, 1)) = (0, 0) := by
      refine chk_of_ok _ _ _ ⟨fun _ _ => rfl, ?_, ?_⟩
      · have : (Ts.map (·, 1)).filterMap (fun t : Tok => defN t.1) = [] := by
          rw [List.filterMap_eq_nil_iff]
          intro t ht
          obtain ⟨u, hu, rfl⟩ := List.mem_map.1 ht
          exact (hall u hu).1
        rw [this]; exact List.nodup_nil
      · intro t ht _
        obtain ⟨u, hu, rfl⟩ := List.mem_map.1 ht
        refine ⟨fun n hn => ?_, fun _ => (hall u hu).2.2⟩
        rw [(hall u hu).2.1] at hn; cases hn
    rw [hchk]
    rw [if_neg (by simp), build_code _ _ _ _ _ (fun t ht => ⟨(hall t ht).1, (hall t ht).2.1⟩)]
    have hgl := hg.gl
    unfold glueAll at hgl
    rw [hgl, if_neg (by simp only; omega)]
  · rw [← hds]
    have := disGo_length s 32 []
    simp at this
    omega
end Go.Proofs.YtimegcnpembhkaaDoor
