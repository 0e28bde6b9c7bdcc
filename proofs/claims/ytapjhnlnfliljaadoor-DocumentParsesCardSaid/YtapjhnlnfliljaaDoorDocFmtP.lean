/- Documents, formatting in plain words: its size, the round trip, blank lines between blocks. (Layer 49) -/
import Derived.Test.YtapjhnlnfliljaaDoorDocLawP
namespace Go.Proofs.YtapjhnlnfliljaaDoor
open Go.Lib Dec

theorem db_ext {a b : DB} (h1 : a.kind = b.kind) (h2 : a.words = b.words) (h3 : a.rows = b.rows) (h4 : a.runs = b.runs) (h5 : a.width = b.width) : a = b := by
  cases a; cases b; simp only at h1 h2 h3 h4 h5; subst h1 h2 h3 h4 h5; rfl
instance dbEq : DecidableEq DB := fun a b => decidable_of_iff (a.kind = b.kind ∧ a.words = b.words ∧ a.rows = b.rows ∧ a.runs = b.runs ∧ a.width = b.width) ⟨fun ⟨h1, h2, h3, h4, h5⟩ => db_ext h1 h2 h3 h4 h5, fun h => by subst h; exact ⟨rfl, rfl, rfl, rfl, rfl⟩⟩
def cellF (c : Bytes) : Bytes := [32] ++ c ++ [32, 124]
def rowF (r : List Bytes) : Bytes := [124] ++ r.flatMap cellF ++ [10]
/-- the lines of a block -/
def fmtB (b : DB) : Option Bytes :=
  if b.kind = 1 then some ([35, 32] ++ joinA [32] b.words ++ [10]) else if b.kind = 2 then some (joinA [32] b.words ++ [10])
  else if b.kind = 3 then some (b.rows.flatMap rowF) else if b.kind = 4 then some ([33, 32] ++ decDigits b.width ++ [32] ++ b.runs ++ [10]) else none
def partsA : List DB → Option (List Bytes)
  | [] => some []
  | b :: r => match fmtB b with | none => none | some x => (partsA r).map (x :: ·)
def formatA (l : List DB) : Bytes × Nat :=
  match partsA l with
  | none => ([], 10)
  | some ps => if 20000 < (joinA [10] ps).length then ([], 6) else if (parseA (joinA [10] ps)).2.2 ≠ 0 ∨ (parseA (joinA [10] ps)).1 ≠ l then ([], 3) else (joinA [10] ps, 0)

/-- a bound of what a block is written with -/
def wtR (r : List Bytes) : Nat := 2 + (r.map fun x : List UInt8 => x.length + 3).sum
def wtB (b : DB) : Nat := lenS b.words + (b.rows.map wtR).sum + b.runs.length + 8
def wtL (l : List DB) : Nat := (l.map wtB).sum
theorem wtL_append (a b : List DB) : wtL (a ++ b) = wtL a + wtL b := by unfold wtL; rw [List.map_append, List.sum_append]
theorem lenS_append (a b : List Bytes) : lenS (a ++ b) = lenS a + lenS b := by unfold lenS; rw [List.map_append, List.sum_append]
theorem lenS_filter (p : Bytes → Bool) (l : List Bytes) : lenS (l.filter p) ≤ lenS l := by
  induction l with
  | nil => simp
  | cons x l ih =>
    rw [List.filter_cons]
    split
    · rw [lenS_cons, lenS_cons]; omega
    · rw [lenS_cons]; omega
theorem trimA_len (c : Bytes) : (trimA c).length ≤ c.length := by
  unfold trimA
  have h1 := (List.dropWhile_sublist (fun x : UInt8 => x == 32) (l := (c.reverse.dropWhile (· == 32)).reverse)).length_le
  have h2 := (List.dropWhile_sublist (fun x : UInt8 => x == 32) (l := c.reverse)).length_le
  simp at h1 h2 ⊢
  omega
theorem words_len (s : Bytes) : lenS (wordsA s) ≤ s.length + 1 := by
  have h1 := lenS_filter (· ≠ []) (cutAt 32 [] s)
  have h2 := cutAt_sum 32 s []
  simp at h2
  unfold wordsA
  omega
theorem tail_len (l : List Bytes) : lenS l.tail ≤ lenS l := by cases l with | nil => simp | cons x r => rw [List.tail_cons, lenS_cons]; omega
theorem row_wt (l : List Bytes) : wtR (l.map trimA) ≤ 2 + 3 * lenS l := by
  unfold wtR
  induction l with
  | nil => simp [lenS]
  | cons x l ih =>
    rw [List.map_cons, List.map_cons, List.sum_cons, lenS_cons]
    have := trimA_len x
    omega
theorem lineA_wt (s : Bytes) : wtB (lineA s).1 ≤ 9 * (s.length + 1) := by
  have h0 : wtB noB = 8 := rfl
  unfold lineA
  split
  · rw [h0]; omega
  split
  · rw [h0]; omega
  split
  · unfold rowA
    split
    · rw [h0]; omega
    split
    · rw [h0]; omega
    · rename_i h1 h2
      have h := row_wt (cutAt 124 [] (s.drop 1).dropLast)
      have hs := cutAt_sum 124 (s.drop 1).dropLast []
      simp only [List.length_nil, List.length_dropLast, List.length_drop, Nat.zero_add] at hs
      show lenS [] + (List.map wtR [cellsA s]).sum + 0 + 8 ≤ _
      unfold cellsA
      simp only [List.map_cons, List.map_nil, List.sum_cons, List.sum_nil]
      have : lenS ([] : List Bytes) = 0 := rfl
      omega
  split
  · split
    · rw [h0]; omega
    · have h1 := tail_len (wordsA s)
      have h2 := words_len s
      show lenS (wordsA s).tail + 0 + 0 + 8 ≤ _
      omega
  split
  · unfold picA
    dsimp only
    split
    · rw [h0]; omega
    · split
      · rw [h0]; omega
      · show 0 + 0 + (List.drop _ (s.drop 2)).length + 8 ≤ _
        simp only [List.length_drop]
        omega
  · have h2 := words_len s
    show lenS (wordsA s) + 0 + 0 + 8 ≤ _
    omega
theorem addA_wt (out : List DB) (op : Nat) (b : DB) : wtL (addA out op b) ≤ wtL out + wtB b := by
  unfold addA
  split
  · omega
  split
  · split
    · rename_i h
      rw [List.getLast?_eq_none_iff.1 h]
      simp [wtL]
    · rename_i x h
      obtain ⟨l, rfl⟩ : ∃ l, out = l ++ [x] := List.getLast?_eq_some_iff.1 h
      rw [List.dropLast_concat, wtL_append, wtL_append]
      have : wtB (mergeA x b) + 8 ≤ wtB x + wtB b := by
        unfold wtB mergeA
        simp only [lenS_append, List.map_append, List.sum_append]
        omega
      simp only [wtL, List.map_cons, List.map_nil, List.sum_cons, List.sum_nil]
      omega
  · rw [wtL_append]; simp [wtL]
theorem outA_wt : ∀ (ls : List Bytes) (out : List DB) (op : Nat), wtL (outA ls out op) ≤ wtL out + 9 * lenS ls
  | [], out, op => by simp [outA]
  | s :: r, out, op => by
    have h1 := outA_wt r (addA out op (lineA s).1) (lineA s).1.kind
    have h2 := addA_wt out op (lineA s).1
    have h3 := lineA_wt s
    rw [outA, lenS_cons]
    omega
theorem parse_wt {t : Bytes} {l : List DB} {n : Nat} (h : parseA t = (l, n, 0)) : wtL l ≤ 9 * (t.length + 1) := by
  obtain ⟨-, -, -, rfl⟩ := parseA_ok h
  have h1 := outA_wt (linesA t) [] 0
  have h2 := cutAt_sum 10 t []
  rw [show cutAt 10 [] t = linesA t from rfl] at h2
  simp only [List.length_nil, Nat.zero_add] at h2
  have : wtL ([] : List DB) = 0 := rfl
  omega
theorem addA_kind {P : DB → Prop} (hm : ∀ x b, P x → P (mergeA x b)) (out : List DB) (op : Nat) (b : DB) (ho : ∀ x ∈ out, P x) (hb : b.kind ≠ 0 → P b) : ∀ x ∈ addA out op b, P x := by
  unfold addA
  split
  · exact ho
  rename_i h0
  split
  · split
    · intro x hx; rw [List.mem_singleton.1 hx]; exact hb h0
    · rename_i y h
      obtain ⟨l, rfl⟩ : ∃ l, out = l ++ [y] := List.getLast?_eq_some_iff.1 h
      intro x hx
      rw [List.dropLast_concat] at hx
      rcases List.mem_append.1 hx with hx | hx
      · exact ho x (by simp [hx])
      · rw [List.mem_singleton.1 hx]; exact hm _ _ (ho y (by simp))
  · intro x hx
    rcases List.mem_append.1 hx with hx | hx
    · exact ho x hx
    · rw [List.mem_singleton.1 hx]; exact hb h0
/-- what every block of a document satisfies -/
def KindB (b : DB) : Prop := 1 ≤ b.kind ∧ b.kind ≤ 4 ∧ b.width ≤ 200
theorem lineA_kindB (s : Bytes) : (lineA s).1.kind ≠ 0 → KindB (lineA s).1 := by
  intro h
  rcases lineA_good s with ⟨h1, h2⟩ | ⟨h1, -, -, -, h2⟩ | ⟨h1, -, -, -, h2⟩ | ⟨h1, -, -, -, h2⟩ | ⟨h1, -, -, -, -, h2⟩
  · exact absurd h1 h
  all_goals (refine ⟨?_, ?_, ?_⟩ <;> omega)
theorem outA_kind : ∀ (ls : List Bytes) (out : List DB) (op : Nat), (∀ x ∈ out, KindB x) → ∀ x ∈ outA ls out op, KindB x
  | [], _, _, h => h
  | s :: r, out, op, h => outA_kind r _ _ (addA_kind (fun _ _ hx => hx) out op _ h (lineA_kindB s))
theorem parse_kind {t : Bytes} {l : List DB} {n : Nat} (h : parseA t = (l, n, 0)) : ∀ x ∈ l, KindB x := by
  obtain ⟨-, -, -, rfl⟩ := parseA_ok h
  exact outA_kind _ _ _ (by simp)
theorem sum3 (r : List Bytes) : (r.flatMap cellF).length = (r.map fun x : List UInt8 => x.length + 3).sum := by
  induction r with
  | nil => rfl
  | cons x r ih => rw [List.flatMap_cons, List.length_append, ih, List.map_cons, List.sum_cons]; simp [cellF]
theorem fmt_rows (rs : List (List Bytes)) : (rs.flatMap rowF).length = (rs.map wtR).sum := by
  induction rs with
  | nil => rfl
  | cons r rs ih => rw [List.flatMap_cons, List.length_append, ih, List.map_cons, List.sum_cons]; simp only [rowF, wtR, List.length_append, sum3, List.length_cons, List.length_nil]; omega
theorem fmtB_some {b : DB} (h : KindB b) : ∃ x, fmtB b = some x ∧ x.length + 1 ≤ wtB b := by
  obtain ⟨h1, h2, h3⟩ := h
  have hj := joinA_len [32] rfl b.words
  unfold fmtB wtB
  by_cases e1 : b.kind = 1
  · rw [if_pos e1]; exact ⟨_, rfl, by simp only [List.length_append, List.length_cons, List.length_nil]; omega⟩
  rw [if_neg e1]
  by_cases e2 : b.kind = 2
  · rw [if_pos e2]; exact ⟨_, rfl, by simp only [List.length_append, List.length_cons, List.length_nil]; omega⟩
  rw [if_neg e2]
  by_cases e3 : b.kind = 3
  · rw [if_pos e3]; exact ⟨_, rfl, by rw [fmt_rows]; omega⟩
  rw [if_neg e3, if_pos (by omega)]
  have hd := dec_len (n := b.width) (k := 2) (by omega)
  exact ⟨_, rfl, by simp only [List.length_append, List.length_cons, List.length_nil]; omega⟩
theorem partsA_some : ∀ l : List DB, (∀ x ∈ l, KindB x) → ∃ ps, partsA l = some ps ∧ lenS ps ≤ wtL l
  | [], _ => ⟨[], rfl, Nat.zero_le _⟩
  | b :: r, h => by
    obtain ⟨x, h1, h2⟩ := fmtB_some (h b (by simp))
    obtain ⟨ps, h3, h4⟩ := partsA_some r (fun y hy => h y (List.mem_cons_of_mem _ hy))
    refine ⟨x :: ps, by rw [partsA, h1]; simp [h3], ?_⟩
    rw [lenS_cons]
    unfold wtL at h4 ⊢
    rw [List.map_cons, List.sum_cons]
    omega
/-- the round trip: a document's blocks are formatted to a text of the same blocks, or refused with ErrSyntax -/
theorem format_parsed {t : Bytes} {l : List DB} {n : Nat} (ht : t.length ≤ 2000) (h : parseA t = (l, n, 0)) : (formatA l).2 = 3 ∨ ((formatA l).2 = 0 ∧ parseA (formatA l).1 = (l, 0, 0)) := by
  obtain ⟨ps, h1, h2⟩ := partsA_some l (parse_kind h)
  have h3 := joinA_len [10] rfl ps
  have h4 := parse_wt h
  unfold formatA
  rw [h1]
  dsimp only
  rw [if_neg (by omega)]
  split
  · exact .inl rfl
  · rename_i hc
    refine .inr ⟨rfl, ?_⟩
    have e1 : (parseA (joinA [10] ps)).2.2 = 0 := Decidable.byContradiction fun e => hc (.inl e)
    have e2 : (parseA (joinA [10] ps)).1 = l := Decidable.byContradiction fun e => hc (.inr e)
    obtain ⟨l', n', e'⟩ : ∃ l' n', parseA (joinA [10] ps) = (l', n', 0) := ⟨_, _, by rw [← e1]⟩
    obtain ⟨-, rfl, -, -⟩ := parseA_ok e'
    show parseA (joinA [10] ps) = (l, 0, 0)
    rw [e'] at e2 ⊢
    rw [show l' = l from e2]
/-- one block alone -/
theorem format_one {b : DB} (hk : KindB b) (hw : wtB b ≤ 20000) : ∃ x, fmtB b = some x ∧ formatA [b] = (if (parseA x).2.2 ≠ 0 ∨ (parseA x).1 ≠ [b] then ([], 3) else (x, 0)) := by
  obtain ⟨x, h1, h2⟩ := fmtB_some hk
  refine ⟨x, h1, ?_⟩
  unfold formatA
  have hp : partsA [b] = some [x] := by rw [partsA, h1]; rfl
  rw [hp]
  dsimp only
  rw [if_neg (by simp only [joinA]; omega)]
  rfl
theorem fmtB_end {b : DB} {x : Bytes} (h : fmtB b = some x) (h0 : x ≠ []) : ∃ u, x = u ++ [10] := by
  unfold fmtB at h
  split at h
  · cases h; exact ⟨_, rfl⟩
  split at h
  · cases h; exact ⟨_, rfl⟩
  split at h
  · cases h
    rcases List.eq_nil_or_concat b.rows with e | ⟨rs, r, e⟩
    · rw [e] at h0; exact absurd rfl h0
    · rw [e, List.concat_eq_append, List.flatMap_append]
      exact ⟨rs.flatMap rowF ++ ([124] ++ r.flatMap cellF), by simp [rowF]⟩
  split at h
  · cases h; exact ⟨_, rfl⟩
  · cases h
/-- blocks with blank lines between them -/
def blanksA (j : Nat) : List Bytes → Bytes
  | [] => []
  | x :: r => x ++ [32, 10] ++ List.replicate j 10 ++ blanksA j r
theorem linesA_nl (n : Nat) (t : Bytes) : linesA (List.replicate n 10 ++ t) = List.replicate n [] ++ linesA t := by
  induction n with
  | zero => rfl
  | succ n ih => rw [List.replicate_succ, List.cons_append, show (10 : UInt8) :: (List.replicate n 10 ++ t) = [] ++ 10 :: (List.replicate n 10 ++ t) from rfl, linesA_mid, ih]; rfl
theorem blank_lines (n : Nat) (out : List DB) (op : Nat) (i : Nat) (rest : List Bytes) : errA (List.replicate n [] ++ rest) i = errA rest (i + n) ∧ (op = 0 ∨ 0 < n → outA (List.replicate n [] ++ rest) out op = outA rest out 0) := by
  induction n generalizing op i with
  | zero => refine ⟨rfl, fun h => ?_⟩; rcases h with h | h; subst h; rfl; omega
  | succ n ih =>
    rw [List.replicate_succ, List.cons_append, errA, outA, lineA_nil, if_neg (by decide), addA_noB]
    refine ⟨by rw [(ih 0 (i + 1)).1]; congr 1; omega, fun _ => ?_⟩
    exact (ih 0 i).2 (.inl rfl)
theorem blanks_out (j : Nat) : ∀ (l : List DB) (ps : List Bytes), ps.length = l.length → (∀ k (h1 : k < ps.length) (h2 : k < l.length), fmtB l[k] = some ps[k] ∧ parseA ps[k] = ([l[k]], 0, 0)) → ∀ (out : List DB) (i : Nat),
    errA (linesA (blanksA j ps)) i = none ∧ outA (linesA (blanksA j ps)) out 0 = out ++ l
  | [], [], _, _, out, i => by
    rw [blanksA, show linesA [] = [[]] from rfl, errA, outA, lineA_nil, if_neg (by decide), addA_noB]
    exact ⟨rfl, by rw [outA, List.append_nil]⟩
  | b :: l, x :: ps, hl, h, out, i => by
    obtain ⟨h1, h2⟩ := h 0 (by simp) (by simp)
    simp only [List.getElem_cons_zero] at h1 h2
    obtain ⟨hx, -, he, ho⟩ := parseA_ok h2
    have hne : x ≠ [] := by
      rintro rfl
      rw [show linesA [] = [[]] from rfl, outA, lineA_nil, addA_noB] at ho
      cases ho
    obtain ⟨u, rfl⟩ := fmtB_end h1 hne
    rw [linesA_mid, show linesA [] = [[]] from rfl, errA_append] at he
    rw [linesA_mid, show linesA [] = [[]] from rfl, outA_append, outA, lineA_nil, addA_noB, outA] at ho
    have he' : errA (linesA u) 1 = none := by
      cases hc : errA (linesA u) 1 with
      | none => rfl
      | some y => rw [hc] at he; cases he
    have ih := blanks_out j l ps (by simpa using hl) (fun k h1 h2 => by
      have := h (k + 1) (by simp; omega) (by simp; omega)
      simpa using this)
    have hlines : linesA (blanksA j ((u ++ [10]) :: ps)) = linesA u ++ ([32] :: (List.replicate j [] ++ linesA (blanksA j ps))) := by
      rw [blanksA, show u ++ [10] ++ [32, 10] ++ List.replicate j 10 ++ blanksA j ps = u ++ 10 :: ([32] ++ 10 :: (List.replicate j 10 ++ blanksA j ps)) by simp, linesA_mid, linesA_mid, linesA_nl]
      rfl
    rw [hlines, errA_append, errA_shift _ _ i he', outA_append]
    dsimp only
    rw [errA, outA, lineA_sp, if_neg (by decide), addA_noB]
    have hb := blank_lines j (outA (linesA u) out 0) 0 (i + (linesA u).length + 1) (linesA (blanksA j ps))
    rw [hb.1]
    refine ⟨(ih out _).1, ?_⟩
    show outA (List.replicate j [] ++ linesA (blanksA j ps)) _ 0 = _
    rw [hb.2 (.inl rfl), (ih _ i).2, outA_from (linesA u) out, ← ho]
    simp
  | [], _ :: _, hl, _, _, _ => by simp at hl
  | _ :: _, [], hl, _, _, _ => by simp at hl
theorem blanks_parse (k j : Nat) (l : List DB) (ps : List Bytes) (hl : ps.length = l.length) (h : ∀ k (h1 : k < ps.length) (h2 : k < l.length), fmtB l[k] = some ps[k] ∧ parseA ps[k] = ([l[k]], 0, 0)) (hz : k + (blanksA j ps).length ≤ 20000) :
    parseA (List.replicate k 10 ++ blanksA j ps) = (l, 0, 0) := by
  have hb := blank_lines k [] 0 1 (linesA (blanksA j ps))
  have ho := blanks_out j l ps hl h [] (1 + k)
  rw [parseA_of (by simp; omega) (by rw [linesA_nl, hb.1]; exact ho.1), linesA_nl, hb.2 (.inl rfl), ho.2]
  rfl
theorem blanksA_len (j : Nat) (hj : j ≤ 2) : ∀ ps : List Bytes, (blanksA j ps).length ≤ 4 * lenS ps
  | [] => by simp [blanksA]
  | x :: r => by
    have := blanksA_len j hj r
    rw [blanksA, lenS_cons]
    simp only [List.length_append, List.length_cons, List.length_nil, List.length_replicate]
    omega
end Go.Proofs.YtapjhnlnfliljaaDoor
