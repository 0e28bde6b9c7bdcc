/- The plain law of expansion: a string read as runs, the cells of runs, the rows of a picture. (Layer 52) -/
import Derived.Test.YthanegmaipckdaaDoorBitPlain
import Derived.Test.YthanegmaipckdaaDoorDecimal
namespace Go.Proofs.YthanegmaipckdaaDoor
open Go.Lib Dec

/-- the runs are good behind a byte -/
def GoodR : UInt8 → List (Nat × UInt8) → Prop
  | _, [] => True
  | last, x :: r => 1 ≤ x.1 ∧ x.1 ≤ 99999 ∧ isPx x.2 = true ∧ x.2 ≠ last ∧ GoodR x.2 r
/-- the first run of a string, and what is left -/
def headR (l : Bytes) : Option (Nat × UInt8 × Bytes) :=
  match l.takeWhile dgB, l.dropWhile dgB with
  | d :: p, c :: r => if d ≠ 48 ∧ p.length ≤ 4 ∧ isPx c = true then some (valD (d :: p), c, r) else none
  | _, _ => none
def parseF : Nat → UInt8 → Bytes → Option (List (Nat × UInt8))
  | _, _, [] => some []
  | 0, _, _ :: _ => none
  | f + 1, last, a :: l => match headR (a :: l) with
    | none => none
    | some (n, c, r) => if c = last then none else (parseF f c r).map ((n, c) :: ·)
/-- the runs of a run-length form -/
def parseR (last : UInt8) (l : Bytes) : Option (List (Nat × UInt8)) := parseF l.length last l

theorem px_dg {c : UInt8} (h : isPx c = true) : dgB c = false := by
  simp only [isPx, List.contains_cons, List.contains_nil, Bool.or_false, Bool.or_eq_true, beq_iff_eq] at h
  rcases h with rfl | rfl <;> decide
theorem px_ne0 {c : UInt8} (h : isPx c = true) : c ≠ 0 := by
  intro e; rw [e] at h; exact absurd h (by decide)
theorem takeWhile_app (p : UInt8 → Bool) (l : Bytes) (c : UInt8) (r : Bytes) (hl : ∀ x ∈ l, p x = true) (hc : p c = false) : (l ++ c :: r).takeWhile p = l ∧ (l ++ c :: r).dropWhile p = c :: r := by
  induction l with
  | nil => simp [hc]
  | cons a l ih =>
    have ha := hl a (by simp)
    have := ih (fun x hx => hl x (by simp [hx]))
    simp [ha, this.1, this.2]
theorem tw_all (p : UInt8 → Bool) (l : Bytes) : ∀ x ∈ l.takeWhile p, p x = true := by
  induction l with
  | nil => intro x hx; cases hx
  | cons a l ih =>
    intro x hx
    rw [List.takeWhile_cons] at hx
    by_cases ha : p a = true
    · rw [if_pos ha] at hx
      rcases List.mem_cons.1 hx with rfl | hx
      · exact ha
      · exact ih x hx
    · rw [if_neg ha] at hx; cases hx

theorem headR_some {l : Bytes} {n : Nat} {c : UInt8} {r : Bytes} (h : headR l = some (n, c, r)) : l = decDigits n ++ c :: r ∧ 1 ≤ n ∧ n ≤ 99999 ∧ isPx c = true := by
  unfold headR at h
  have hsplit := List.takeWhile_append_dropWhile (p := dgB) (l := l)
  have hall := tw_all dgB l
  cases hp : l.takeWhile dgB with
  | nil => rw [hp] at h; cases h
  | cons d p =>
    cases hr : l.dropWhile dgB with
    | nil => rw [hp, hr] at h; cases h
    | cons c' r' =>
      rw [hp, hr] at h
      rw [hp] at hall
      rw [hp, hr] at hsplit
      simp only at h
      split at h
      · rename_i hg
        simp only [Option.some.injEq, Prod.mk.injEq] at h
        obtain ⟨rfl, rfl, rfl⟩ := h
        have hdv := dec_val p.length d p rfl hall hg.1
        have hlt := valD_lt (d :: p) hall
        have hle : 10 ^ (d :: p).length ≤ 10 ^ 5 := Nat.pow_le_pow_right (by decide) (by rw [List.length_cons]; omega)
        refine ⟨by rw [hdv]; exact hsplit.symm, valD_pos d p (hall d (by simp)) hg.1, by omega, hg.2.2⟩
      · cases h
theorem headR_dec (n : Nat) (c : UInt8) (r : Bytes) (h1 : 1 ≤ n) (h2 : n ≤ 99999) (hc : isPx c = true) : headR (decDigits n ++ c :: r) = some (n, c, r) := by
  obtain ⟨t1, t2⟩ := takeWhile_app dgB (decDigits n) c r (dec_dig n) (px_dg hc)
  obtain ⟨d, p, hd, hne⟩ := dec_head n h1
  have hlen := dec_len (n := n) (k := 4) (by omega)
  have hv := val_dec n
  unfold headR
  rw [t1, t2, hd]
  simp only
  rw [hd] at hlen hv
  rw [if_pos ⟨hne, by simpa using hlen, hc⟩, hv]
theorem headR_nil : headR [] = none := rfl
theorem headR_lt {l : Bytes} {n : Nat} {c : UInt8} {r : Bytes} (h : headR l = some (n, c, r)) : r.length < l.length := by
  rw [(headR_some h).1]; simp; omega

theorem parseF_fuel : ∀ (f g : Nat) (last : UInt8) (l : Bytes), l.length ≤ f → l.length ≤ g → parseF f last l = parseF g last l := by
  intro f
  induction f with
  | zero =>
    intro g last l hf _
    obtain rfl : l = [] := List.eq_nil_of_length_eq_zero (by omega)
    cases g <;> rfl
  | succ f ih =>
    intro g last l hf hg
    cases l with
    | nil => cases g <;> rfl
    | cons a l =>
      cases g with
      | zero => simp at hg
      | succ g =>
        rw [parseF, parseF]
        cases hh : headR (a :: l) with
        | none => rfl
        | some x =>
          obtain ⟨n, c, r⟩ := x
          have hlt := headR_lt hh
          simp only [List.length_cons] at hlt hf hg
          simp only
          rw [ih g c r (by omega) (by omega)]
theorem parseR_nil (last : UInt8) : parseR last [] = some [] := rfl
theorem parseR_none {last : UInt8} {l : Bytes} (h0 : l ≠ []) (h : headR l = none) : parseR last l = none := by
  cases l with
  | nil => exact absurd rfl h0
  | cons a l => unfold parseR; rw [List.length_cons, parseF, h]
theorem parseR_same {last : UInt8} {l : Bytes} {n : Nat} {r : Bytes} (h : headR l = some (n, last, r)) : parseR last l = none := by
  cases l with
  | nil => cases h
  | cons a l => unfold parseR; rw [List.length_cons, parseF, h]; simp
theorem parseR_some {last : UInt8} {l : Bytes} {n : Nat} {c : UInt8} {r : Bytes} (h : headR l = some (n, c, r)) (hc : c ≠ last) : parseR last l = (parseR c r).map ((n, c) :: ·) := by
  have hlt := headR_lt h
  cases l with
  | nil => cases h
  | cons a l =>
    unfold parseR
    rw [List.length_cons, parseF, h]
    simp only [if_neg hc]
    rw [parseF_fuel l.length r.length c r (by simp at hlt; omega) (Nat.le_refl _)]

theorem parse_good : ∀ (k : Nat) (last : UInt8) (l : Bytes) (rs : List (Nat × UInt8)), l.length ≤ k → parseR last l = some rs → l = encB rs ∧ GoodR last rs := by
  intro k
  induction k with
  | zero =>
    intro last l rs hk h
    obtain rfl : l = [] := List.eq_nil_of_length_eq_zero (by omega)
    rw [parseR_nil] at h
    cases h
    exact ⟨rfl, trivial⟩
  | succ k ih =>
    intro last l rs hk h
    by_cases h0 : l = []
    · subst h0
      rw [parseR_nil] at h
      cases h
      exact ⟨rfl, trivial⟩
    · cases hh : headR l with
      | none => rw [parseR_none h0 hh] at h; cases h
      | some x =>
        obtain ⟨n, c, r⟩ := x
        have hlt := headR_lt hh
        obtain ⟨e, h1, h2, h3⟩ := headR_some hh
        by_cases hc : c = last
        · subst hc; rw [parseR_same hh] at h; cases h
        · rw [parseR_some hh hc] at h
          cases hp : parseR c r with
          | none => rw [hp] at h; cases h
          | some rs' =>
            rw [hp] at h
            cases h
            obtain ⟨e2, g2⟩ := ih c r rs' (by omega) hp
            refine ⟨?_, h1, h2, h3, hc, g2⟩
            rw [encB_cons, e, e2]
            simp
theorem good_parse : ∀ (rs : List (Nat × UInt8)) (last : UInt8), GoodR last rs → parseR last (encB rs) = some rs := by
  intro rs
  induction rs with
  | nil => intro last _; rfl
  | cons x rs ih =>
    intro last ⟨h1, h2, h3, h4, h5⟩
    obtain ⟨n, c⟩ := x
    simp only at h1 h2 h3 h4 h5
    have he : encB ((n, c) :: rs) = decDigits n ++ c :: encB rs := by rw [encB_cons]; simp
    have hh := headR_dec n c (encB rs) h1 h2 h3
    rw [he, parseR_some hh h4, ih c h5]
    rfl

/-- the cells of runs -/
def cellsR (rs : List (Nat × UInt8)) : Bytes := rs.flatMap fun x => List.replicate x.1 x.2
/-- how many cells -/
def totR (rs : List (Nat × UInt8)) : Nat := (cellsR rs).length
theorem cellsR_cons (x : Nat × UInt8) (r : List (Nat × UInt8)) : cellsR (x :: r) = List.replicate x.1 x.2 ++ cellsR r := rfl
theorem cellsR_append (a b : List (Nat × UInt8)) : cellsR (a ++ b) = cellsR a ++ cellsR b := by simp [cellsR]
theorem totR_snoc (a : List (Nat × UInt8)) (n : Nat) (c : UInt8) : totR (a ++ [(n, c)]) = totR a + n := by simp [totR, cellsR]
theorem cellsR_snoc (a : List (Nat × UInt8)) (n : Nat) (c : UInt8) : cellsR (a ++ [(n, c)]) = cellsR a ++ List.replicate n c := by simp [cellsR]

/-- neighbours differ, none is empty -/
def AltR : List (Nat × UInt8) → Prop
  | [] => True
  | x :: r => 1 ≤ x.1 ∧ (∀ y, r.head? = some y → y.2 ≠ x.2) ∧ AltR r
theorem GoodR.alt : ∀ {rs : List (Nat × UInt8)} {last : UInt8}, GoodR last rs → AltR rs := by
  intro rs
  induction rs with
  | nil => intro _ _; trivial
  | cons x rs ih =>
    intro last ⟨h1, _, _, _, h5⟩
    refine ⟨h1, fun y hy => ?_, ih h5⟩
    cases rs with
    | nil => cases hy
    | cons z rs =>
      simp only [List.head?_cons, Option.some.injEq] at hy
      subst hy
      exact h5.2.2.2.1
theorem GoodR.mem : ∀ {rs : List (Nat × UInt8)} {last : UInt8}, GoodR last rs → ∀ x ∈ rs, 1 ≤ x.1 ∧ x.1 ≤ 99999 ∧ isPx x.2 = true := by
  intro rs
  induction rs with
  | nil => intro _ _ x hx; cases hx
  | cons y rs ih =>
    intro last ⟨h1, h2, h3, _, h5⟩ x hx
    rcases List.mem_cons.1 hx with rfl | hx
    · exact ⟨h1, h2, h3⟩
    · exact ih h5 x hx
theorem good_of_alt : ∀ (rs : List (Nat × UInt8)) (last : UInt8), AltR rs → (∀ x ∈ rs, x.1 ≤ 99999 ∧ isPx x.2 = true) → (∀ y, rs.head? = some y → y.2 ≠ last) → GoodR last rs := by
  intro rs
  induction rs with
  | nil => intro _ _ _ _; trivial
  | cons x rs ih =>
    intro last ⟨h1, h2, h3⟩ hm hl
    exact ⟨h1, (hm x (by simp)).1, (hm x (by simp)).2, hl x rfl, ih x.2 h3 (fun y hy => hm y (by simp [hy])) h2⟩
theorem runsB_cells : ∀ rs : List (Nat × UInt8), AltR rs → runsB (cellsR rs) = rs := by
  intro rs
  induction rs with
  | nil => intro _; rfl
  | cons x rs ih =>
    intro ⟨h1, h2, h3⟩
    rw [cellsR_cons, runsB_step _ _ _ h1 ?_, ih h3]
    intro y t e
    cases rs with
    | nil => cases e
    | cons z rs =>
      obtain ⟨m, hm⟩ : ∃ m, z.1 = m + 1 := ⟨z.1 - 1, by have := h3.1; omega⟩
      rw [cellsR_cons, hm, List.replicate_succ, List.cons_append] at e
      injection e with e1 _
      rw [← e1]
      exact h2 z rfl
theorem cells_runsGo : ∀ (l : Bytes) (c : UInt8) (n : Nat), cellsR (runsGo c n l) = List.replicate n c ++ l := by
  intro l
  induction l with
  | nil => intro c n; simp [runsGo, cellsR]
  | cons x r ih =>
    intro c n
    rw [runsGo]
    by_cases h : x = c
    · subst h
      rw [if_pos rfl, ih, List.replicate_succ']
      simp
    · rw [if_neg h, cellsR_cons, ih]
      simp
theorem cells_runsB (l : Bytes) : cellsR (runsB l) = l := by
  cases l with
  | nil => rfl
  | cons c r => rw [runsB, cells_runsGo]; rfl
theorem runsGo_alt : ∀ (l : Bytes) (c : UInt8) (n : Nat), 1 ≤ n → AltR (runsGo c n l) ∧ ∃ m r, runsGo c n l = (m, c) :: r := by
  intro l
  induction l with
  | nil => intro c n h; exact ⟨⟨h, fun y hy => (by cases hy), trivial⟩, n, [], rfl⟩
  | cons x r ih =>
    intro c n h
    rw [runsGo]
    by_cases e : x = c
    · rw [if_pos e]; exact ih c (n + 1) (by omega)
    · rw [if_neg e]
      obtain ⟨h1, m, t, ht⟩ := ih x 1 (Nat.le_refl _)
      refine ⟨⟨h, fun y hy => ?_, h1⟩, n, _, rfl⟩
      rw [ht] at hy
      simp only [List.head?_cons, Option.some.injEq] at hy
      rw [← hy]
      exact e
theorem runsB_alt (l : Bytes) : AltR (runsB l) := by
  cases l with
  | nil => trivial
  | cons c r => exact (runsGo_alt r c 1 (Nat.le_refl _)).1
theorem mem_cells {rs : List (Nat × UInt8)} {x : Nat × UInt8} (hx : x ∈ rs) : x.1 ≤ (cellsR rs).length ∧ (1 ≤ x.1 → x.2 ∈ cellsR rs) := by
  obtain ⟨a, b, rfl⟩ := List.append_of_mem hx
  rw [cellsR_append, cellsR_cons]
  constructor
  · simp; omega
  · intro h
    obtain ⟨m, hm⟩ : ∃ m, x.1 = m + 1 := ⟨x.1 - 1, by omega⟩
    rw [hm, List.replicate_succ]
    simp
theorem AltR.mem : ∀ {rs : List (Nat × UInt8)}, AltR rs → ∀ x ∈ rs, 1 ≤ x.1 := by
  intro rs
  induction rs with
  | nil => intro _ x hx; cases hx
  | cons y rs ih =>
    intro ⟨h1, _, h3⟩ x hx
    rcases List.mem_cons.1 hx with rfl | hx
    · exact h1
    · exact ih h3 x hx
/-- the runs of a picture's cells are good -/
theorem good_runsB (l : Bytes) (hp : l.all isPx = true) (hl : l.length ≤ 99999) : GoodR 0 (runsB l) := by
  have hall : ∀ x ∈ runsB l, x.1 ≤ 99999 ∧ isPx x.2 = true := by
    intro x hx
    have h1 := mem_cells hx
    rw [cells_runsB] at h1
    exact ⟨by omega, List.all_eq_true.1 hp _ (h1.2 ((runsB_alt l).mem x hx))⟩
  refine good_of_alt _ _ (runsB_alt l) hall fun y hy => px_ne0 (hall y ?_).2
  exact List.mem_of_mem_head? hy

/-- the rows of a width -/
def chunkB (w : Nat) (l : Bytes) : List Bytes := (List.range (l.length / w)).map fun i => (l.drop (i * w)).take w
/-- what is left behind the last whole row -/
def restB (w : Nat) (l : Bytes) : Bytes := l.drop (l.length / w * w)
theorem restB_length (w : Nat) (l : Bytes) : (restB w l).length = l.length % w := by
  unfold restB
  rw [List.length_drop]
  have := Nat.div_add_mod l.length w
  rw [Nat.mul_comm] at this
  omega
theorem chunk_keep (w : Nat) (l : Bytes) (c : UInt8) : (List.range (l.length / w)).map (fun i => ((l ++ [c]).drop (i * w)).take w) = chunkB w l := by
  unfold chunkB
  refine List.map_congr_left fun i hi => ?_
  have hi' : i < l.length / w := List.mem_range.1 hi
  have h1 : (i + 1) * w ≤ l.length / w * w := Nat.mul_le_mul_right _ hi'
  have h2 : l.length / w * w ≤ l.length := Nat.div_mul_le_self _ _
  rw [Nat.succ_mul] at h1
  rw [List.drop_append_of_le_length (by omega), List.take_append_of_le_length (by rw [List.length_drop]; omega)]
theorem chunk_full (w : Nat) (l : Bytes) (c : UInt8) (hw : 1 ≤ w) (h : (restB w l).length + 1 = w) : chunkB w (l ++ [c]) = chunkB w l ++ [restB w l ++ [c]] ∧ restB w (l ++ [c]) = [] := by
  rw [restB_length] at h
  have h0 := Nat.div_add_mod l.length w
  have hq : (l ++ [c]).length / w = l.length / w + 1 := by
    rw [List.length_append, List.length_singleton]
    rw [show l.length + 1 = w * (l.length / w + 1) by rw [Nat.mul_add]; omega]
    exact Nat.mul_div_cancel_left _ (by omega)
  have hlen : l.length + 1 = (l.length / w + 1) * w := by rw [Nat.add_mul, Nat.mul_comm]; omega
  have h2 : l.length / w * w ≤ l.length := Nat.div_mul_le_self _ _
  constructor
  · unfold chunkB
    rw [hq, List.range_succ, List.map_append, List.map_cons, List.map_nil]
    rw [chunk_keep w l c]
    congr 1
    unfold restB
    rw [List.drop_append_of_le_length h2, List.take_of_length_le]
    rw [List.length_append, List.length_drop, List.length_singleton]
    rw [Nat.add_mul] at hlen
    omega
  · unfold restB
    rw [hq, ← hlen]
    rw [List.drop_of_length_le (by simp)]
theorem chunk_part (w : Nat) (l : Bytes) (c : UInt8) (hw : 1 ≤ w) (h : (restB w l).length + 1 ≠ w) : chunkB w (l ++ [c]) = chunkB w l ∧ restB w (l ++ [c]) = restB w l ++ [c] := by
  rw [restB_length] at h
  have hm := Nat.mod_lt l.length (show 0 < w by omega)
  have h0 := Nat.div_add_mod l.length w
  have hq : (l ++ [c]).length / w = l.length / w := by
    rw [List.length_append, List.length_singleton]
    rw [show l.length + 1 = (l.length % w + 1) + w * (l.length / w) by omega, Nat.add_mul_div_left _ _ (by omega), Nat.div_eq_of_lt (by omega)]
    omega
  have h2 : l.length / w * w ≤ l.length := Nat.div_mul_le_self _ _
  constructor
  · unfold chunkB
    rw [hq]
    exact chunk_keep w l c
  · unfold restB
    rw [hq, List.drop_append_of_le_length h2]
theorem restB_nil (w : Nat) (l : Bytes) (h : l.length % w = 0) : restB w l = [] := List.eq_nil_of_length_eq_zero (by rw [restB_length]; exact h)
/-- the rows of joined rows -/
theorem chunk_cat (w : Nat) (hw : 1 ≤ w) : ∀ rows : List Bytes, (∀ r ∈ rows, r.length = w) → chunkB w rows.flatten = rows ∧ rows.flatten.length = rows.length * w := by
  intro rows
  induction rows with
  | nil => intro _; simp [chunkB]
  | cons r rows ih =>
    intro h
    have hr := h r (by simp)
    obtain ⟨h1, h2⟩ := ih (fun x hx => h x (by simp [hx]))
    have hl : (r :: rows).flatten.length = (rows.length + 1) * w := by
      rw [List.flatten_cons, List.length_append, h2, hr, Nat.add_mul]; omega
    refine ⟨?_, by rw [hl]; rfl⟩
    have hq1 : rows.flatten.length / w = rows.length := by rw [h2]; exact Nat.mul_div_cancel _ (by omega)
    have hq : (r :: rows).flatten.length / w = rows.length + 1 := by rw [hl]; exact Nat.mul_div_cancel _ (by omega)
    unfold chunkB at h1 ⊢
    rw [hq, List.range_succ_eq_map, List.map_cons, List.map_map]
    rw [hq1] at h1
    congr 1
    · rw [Nat.zero_mul, List.drop_zero, List.flatten_cons, List.take_append_of_le_length (by omega), List.take_of_length_le (by omega)]
    · conv => rhs; rw [← h1]
      refine List.map_congr_left fun i _ => ?_
      show ((r :: rows).flatten.drop ((i + 1) * w)).take w = _
      rw [List.flatten_cons, Nat.add_mul, List.drop_append, List.drop_of_length_le (by omega), List.nil_append, show i * w + 1 * w - r.length = i * w by omega]
theorem chunk_len (w : Nat) (l : Bytes) : (chunkB w l).length = l.length / w := by simp [chunkB]
theorem chunk_get (w : Nat) (l : Bytes) (i : Nat) (h : i < l.length / w) : (chunkB w l)[i]'(by rw [chunk_len]; exact h) = (l.drop (i * w)).take w := by simp [chunkB]
theorem chunk_mem (w : Nat) (l : Bytes) : ∀ r ∈ chunkB w l, r.length = w ∧ ∀ c ∈ r, c ∈ l := by
  intro r hr
  unfold chunkB at hr
  obtain ⟨i, hi, rfl⟩ := List.mem_map.1 hr
  have hi' : i < l.length / w := List.mem_range.1 hi
  have h1 : (i + 1) * w ≤ l.length / w * w := Nat.mul_le_mul_right _ hi'
  have h2 : l.length / w * w ≤ l.length := Nat.div_mul_le_self _ _
  rw [Nat.succ_mul] at h1
  refine ⟨by rw [List.length_take, List.length_drop]; omega, fun c hc => List.mem_of_mem_drop (List.mem_of_mem_take hc)⟩
theorem flat_chunk (w : Nat) (l : Bytes) (h : l.length % w = 0) : (chunkB w l).flatten = l := by
  have key : ∀ k, k ≤ l.length / w → ((List.range k).map fun i => (l.drop (i * w)).take w).flatten = l.take (k * w) := by
    intro k
    induction k with
    | zero => intro _; simp
    | succ k ih =>
      intro hk
      rw [List.range_succ, List.map_append, List.flatten_append, ih (by omega), Nat.succ_mul]
      simp only [List.map_cons, List.map_nil, List.flatten_cons, List.flatten_nil, List.append_nil]
      rw [List.take_add]
  unfold chunkB
  rw [key _ (Nat.le_refl _), List.take_of_length_le]
  have := Nat.div_add_mod l.length w
  rw [Nat.mul_comm] at this
  omega

/-- the answer of Expand: the rows, the error -/
def expA (runs : Bytes) (width : Int) : List Bytes × Int :=
  if width < 1 ∨ 200 < width then ([], 2) else
  match parseR 0 runs with
  | none => ([], 3)
  | some rs => if totR rs = 0 ∨ totR rs % width.toNat ≠ 0 then ([], 4) else if 200 < totR rs / width.toNat then ([], 6) else (chunkB width.toNat (cellsR rs), 0)
end Go.Proofs.YthanegmaipckdaaDoor
