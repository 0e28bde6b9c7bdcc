/- The plain law of labels: each has the address at which the text of the tokens before it ends. -/
import Derived.Test.YtimegcnpembhkaaDoorAsmBack
namespace Go.Proofs.YtimegcnpembhkaaDoor
open Go.RowKit
open Go.Lib hiding intOf
set_option linter.unusedVariables false

def zero6 : Bytes := [48, 48, 48, 48, 48, 48]
/-- a token without the address of its label -/
def repl (t : Bytes) : Bytes := if t.head? = some 38 then zero6 else t
def codeW (l : List Tok) : List Bytes := l.filterMap fun t => match defN t.1 with | some _ => none | none => some (repl t.1)
def spW (Ws : List Bytes) : Bytes := Ws.flatMap fun u => 32 :: u

theorem codeW_snoc (l : List Tok) (t : Tok) : codeW (l ++ [t]) = match defN t.1 with | some _ => codeW l | none => codeW l ++ [repl t.1] := by
  unfold codeW
  rw [List.filterMap_append]
  cases h : defN t.1 <;> simp [h]
theorem spW_snoc (Ws : List Bytes) (u : Bytes) : spW (Ws ++ [u]) = spW Ws ++ 32 :: u := by simp [spW]

theorem ok_repl {D M : Bytes → Bool} {l : List Tok} (h : Ok D M l) {t : Tok} (ht : t ∈ l) (hn : t.1 ≠ []) (hd : defN t.1 = none) :
    repl t.1 ≠ [] ∧ (∀ c ∈ repl t.1, isCd c = true) ∧ defN (repl t.1) = none ∧ refN (repl t.1) = none := by
  have hz : zero6 ≠ [] ∧ (∀ c ∈ zero6, isCd c = true) ∧ defN zero6 = none ∧ refN zero6 = none := by decide +kernel
  unfold repl
  by_cases h38 : t.1.head? = some 38
  · rw [if_pos h38]; exact hz
  · rw [if_neg h38]
    have hr : refN t.1 = none := by
      unfold refN
      split
      · rename_i r he
        rw [he] at h38
        exact absurd rfl h38
      · rfl
    have hc := (h.each t ht hd).2 hr
    exact ⟨hn, fun c hcm => List.all_eq_true.1 hc c hcm, hd, hr⟩

theorem sim_repl (f : Bytes → Int) (t : Tok) (h38 : t.1.head? = some 38 → ∃ n, refN t.1 = some n) : Sim (addS f t) (repl t.1) := by
  unfold addS repl
  by_cases h : t.1.head? = some 38
  · obtain ⟨n, hn⟩ := h38 h
    rw [if_pos h, hn]
    exact Sim.digs _ _ (by unfold sixA zero6; rw [digs_length]; rfl) (fun c hc => digs_dig _ _ c hc) (by decide)
  · rw [if_neg h]
    have : refN t.1 = none := by
      unfold refN
      split
      · rename_i r he
        rw [he] at h
        exact absurd rfl h
      · rfl
    rw [this]
    exact Sim.refl _

theorem ok_ref {D M : Bytes → Bool} {l : List Tok} (h : Ok D M l) {t : Tok} (ht : t ∈ l) (hd : defN t.1 = none) (h38 : t.1.head? = some 38) : ∃ n, refN t.1 = some n := by
  cases hr : refN t.1 with
  | some n => exact ⟨n, rfl⟩
  | none =>
    have hc := (h.each t ht hd).2 hr
    cases ht1 : t.1 with
    | nil => rw [ht1] at h38; cases h38
    | cons c r =>
      rw [ht1] at h38 hc
      have hcc : c = 38 := by simpa using h38
      have := List.all_eq_true.1 hc c (by simp)
      rw [hcc] at this
      exact absurd this (by decide)

theorem build_repl (f : Bytes → Int) (o : Int) {D M : Bytes → Bool} {L : List Tok} (hok : Ok D M L) : ∀ (l : List Tok) (s s' : Bytes) (p : List Lab), (∀ t ∈ l, t ∈ L) → Sim s s' → Sim (buildA f o s p l).1 ((codeW l).foldl glue s') := by
  intro l
  induction l with
  | nil => intro s s' p _ h; exact h
  | cons t r ih =>
    intro s s' p hm h
    have hm' : ∀ u ∈ r, u ∈ L := fun u hu => hm u (by simp [hu])
    cases hd : defN t.1 with
    | some n =>
      rw [build_some f o _ _ _ _ _ hd]
      have : codeW (t :: r) = codeW r := by unfold codeW; simp [hd]
      rw [this]
      exact ih _ _ _ hm' h
    | none =>
      rw [build_none f o _ _ _ _ hd]
      have : codeW (t :: r) = repl t.1 :: codeW r := by unfold codeW; simp [hd]
      rw [this, List.foldl_cons]
      exact ih _ _ _ hm' (h.glue (sim_repl f t (fun h38 => ok_ref hok (hm t (by simp)) hd h38)))

theorem toks_spW (Ws : List Bytes) (h : ∀ t ∈ Ws, t ≠ [] ∧ ∀ c ∈ t, isCd c = true) : toks (spW Ws) = Ws.map (·, 1) := by
  cases Ws with
  | nil => rfl
  | cons t r =>
    have ht := h t (by simp)
    have e : spW (t :: r) = 32 :: joinSp (t :: r) := by rw [joinSp_cons t r ht.1]; rfl
    rw [e, ← scan_toks, scan_sp, if_pos rfl, List.nil_append, scan_toks]
    exact toks_joinSp (t :: r) h

/-- the front of the source, assembled alone -/
theorem asm_front {src : Bytes} {o : Int} (h : (asmA src o).2.2.2 = 0) (k : Nat) :
    ∃ T : Bytes, asmA (spW (codeW ((toks src).take k))) o = (T, [], 0, 0) ∧ T.length = (buildA (fun _ => 0) o [] [] ((toks src).take k)).1.length := by
  obtain ⟨h0, h1, hok, he, hlen⟩ := asm_ok h
  have htm := toks_mem src
  have hmem : ∀ t ∈ (toks src).take k, t ∈ toks src := fun t ht => List.mem_of_mem_take ht
  have hW : ∀ u ∈ codeW ((toks src).take k), u ≠ [] ∧ (∀ c ∈ u, isCd c = true) ∧ defN u = none ∧ refN u = none := by
    intro u hu
    unfold codeW at hu
    obtain ⟨t, ht, hu⟩ := List.mem_filterMap.1 hu
    cases hd : defN t.1 with
    | some n => rw [hd] at hu; cases hu
    | none =>
      rw [hd] at hu
      simp only [Option.some.injEq] at hu
      rw [← hu]
      exact ok_repl hok (hmem t ht) (htm t (hmem t ht)).1 hd
  have hsim := build_repl (fun _ => 0) o hok ((toks src).take k) [] [] [] hmem .nil
  have hk := toks_spW _ (fun t ht => ⟨(hW t ht).1, (hW t ht).2.1⟩)
  refine ⟨(codeW ((toks src).take k)).foldl glue [], ?_, hsim.length.symm⟩
  have htext : (asmA src o).1 = (buildA (lookI (buildA (fun _ => 0) o [] [] (toks src)).2) o [] [] (toks src)).1 := by rw [he]
  have hle : ((codeW ((toks src).take k)).foldl glue []).length ≤ 40000 := by
    rw [← hsim.length]
    have e1 : (buildA (fun _ => 0) o [] [] ((toks src).take k)).1.length = (buildA (lookI (buildA (fun _ => 0) o [] [] (toks src)).2) o [] [] ((toks src).take k)).1.length :=
      (build_sim _ _ o o _ [] [] [] [] .nil (by rw [Int.sub_self]; exact .nil)).1.length
    rw [e1]
    have e2 := build_append (lookI (buildA (fun _ => 0) o [] [] (toks src)).2) o ((toks src).take k) ((toks src).drop k) [] []
    rw [List.take_append_drop] at e2
    have e3 := (build_prefix (lookI (buildA (fun _ => 0) o [] [] (toks src)).2) o ((toks src).drop k) (buildA (lookI (buildA (fun _ => 0) o [] [] (toks src)).2) o [] [] ((toks src).take k)).1 (buildA (lookI (buildA (fun _ => 0) o [] [] (toks src)).2) o [] [] ((toks src).take k)).2).1.length_le
    rw [← e2, ← htext] at e3
    omega
  unfold asmA
  rw [if_neg (by omega), hk]
  have hchk : chkA ((codeW ((toks src).take k)).map (·, 1)) = (0, 0) := by
    refine chk_of_ok _ _ _ ⟨fun _ _ => rfl, ?_, ?_⟩
    · have : ((codeW ((toks src).take k)).map (·, 1)).filterMap (fun t : Tok => defN t.1) = [] := by
        rw [List.filterMap_eq_nil_iff]
        intro t ht
        obtain ⟨u, hu, rfl⟩ := List.mem_map.1 ht
        exact (hW u hu).2.2.1
      rw [this]; exact List.nodup_nil
    · intro t ht _
      obtain ⟨u, hu, rfl⟩ := List.mem_map.1 ht
      refine ⟨fun n hn => ?_, fun _ => List.all_eq_true.2 (hW u hu).2.1⟩
      rw [(hW u hu).2.2.2] at hn; cases hn
  rw [hchk, if_neg (by simp), build_code _ _ _ _ _ (fun t ht => ⟨(hW t ht).2.2.1, (hW t ht).2.2.2⟩), if_neg (by simp only; omega)]

theorem scan_sum : ∀ (r : Bytes) (n : Nat) (cur : Bytes) (com : Bool), ((scan r n cur com).map (·.1.length + 1)).sum ≤ cur.length + r.length + 1 := by
  intro r
  induction r with
  | nil => intro n cur com; unfold scan; by_cases h : cur = [] <;> simp [h]
  | cons c r ih =>
    intro n cur com
    by_cases h10 : c = 10
    · subst h10
      rw [scan_nl]
      have := ih (n + 1) [] false
      by_cases h : cur = [] <;> simp [h] at this ⊢ <;> omega
    · cases com with
      | true => rw [scan_com _ _ _ _ h10]; have := ih n [] true; simp at this ⊢; omega
      | false =>
        by_cases h35 : c = 35
        · subst h35
          rw [scan_hash]
          have := ih n [] true
          by_cases h : cur = [] <;> simp [h] at this ⊢ <;> omega
        · by_cases h32 : c = 32
          · subst h32
            rw [scan_sp]
            have := ih n [] false
            by_cases h : cur = [] <;> simp [h] at this ⊢ <;> omega
          · rw [scan_other _ _ _ _ h10 h35 h32]
            have := ih n (cur ++ [c]) false
            simp at this ⊢; omega
theorem spW_length (l : List Tok) : (spW (codeW l)).length ≤ 7 * (l.map (·.1.length + 1)).sum := by
  induction l with
  | nil => simp [spW, codeW]
  | cons t r ih =>
    have e : (spW (codeW (t :: r))).length ≤ 7 * (t.1.length + 1) + (spW (codeW r)).length := by
      cases hd : defN t.1 with
      | some n =>
        have : codeW (t :: r) = codeW r := by unfold codeW; simp [hd]
        rw [this]; omega
      | none =>
        have : codeW (t :: r) = repl t.1 :: codeW r := by unfold codeW; simp [hd]
        rw [this]
        have hr : (repl t.1).length ≤ t.1.length + 6 := by unfold repl zero6; split <;> simp
        simp [spW]
        omega
    simp only [List.map_cons, List.sum_cons]
    omega
theorem front_length (src : Bytes) (k : Nat) : (spW (codeW ((toks src).take k))).length ≤ 7 * (src.length + 1) := by
  have h1 := spW_length ((toks src).take k)
  have h2 : (((toks src).take k).map (·.1.length + 1)).sum ≤ ((toks src).map (·.1.length + 1)).sum := by
    conv => rhs; rw [← List.take_append_drop k (toks src)]
    rw [List.map_append, List.sum_append]
    omega
  have h3 := scan_sum src 1 [] false
  rw [scan_toks] at h3
  simp at h3 h2 h1
  omega

/-- the label of a definition -/
theorem label_at (o : Int) : ∀ (l : List Tok) (s : Bytes) (p : List Lab) (k : Nat) (m : Bytes), (h : k < l.length) → defN (l[k]).1 = some m →
    (buildA (fun _ => 0) o s p l).2[p.length + ((l.take k).filterMap (defN ·.1)).length]? = some (m, o + (buildA (fun _ => 0) o s p (l.take k)).1.length) := by
  intro l
  induction l with
  | nil => intro s p k m h; simp at h
  | cons t r ih =>
    intro s p k m h hd
    match k with
    | 0 =>
      simp only [List.getElem_cons_zero] at hd
      rw [build_some _ o _ _ _ _ _ hd]
      obtain ⟨q, hq⟩ := (build_prefix (fun _ => 0) o r s (p ++ [(m, o + (s.length : Int))])).2
      rw [← hq]
      simp [buildA]
    | k + 1 =>
      simp only [List.getElem_cons_succ] at hd
      have hk : k < r.length := by simpa using h
      cases ht : defN t.1 with
      | some n =>
        rw [build_some _ o _ _ _ _ _ ht, List.take_succ_cons, build_some _ o _ _ _ _ _ ht]
        have := ih s (p ++ [(n, o + (s.length : Int))]) k m hk hd
        simp only [List.filterMap_cons, ht, List.length_append, List.length_cons, List.length_nil] at this ⊢
        rw [← this]
        congr 1
        omega
      | none =>
        rw [build_none _ o _ _ _ _ ht, List.take_succ_cons, build_none _ o _ _ _ _ ht]
        have := ih (glue s (addS (fun _ => 0) t)) p k m hk hd
        simp only [List.filterMap_cons, ht] at this ⊢
        exact this
end Go.Proofs.YtimegcnpembhkaaDoor
