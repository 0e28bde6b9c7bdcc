/- The plain law of assembly: its tokens by pieces of lines, and by a scan byte by byte. -/
import Derived.Test.YtimegcnpembhkaaDoorSplit
namespace Go.Proofs.YtimegcnpembhkaaDoor
open Go.Lib

abbrev Bytes := List UInt8
/-- a token and its line -/
abbrev Tok := Bytes × Nat

/-- the tokens of a line without its comment -/
def linePieces (l : Bytes) : List Bytes := (cutAt 32 [] (l.takeWhile (· ≠ 35))).filter (· ≠ [])
def linesToks : Nat → List Bytes → List Tok
  | _, [] => []
  | n, l :: r => (linePieces l).map (·, n) ++ linesToks (n + 1) r
/-- the tokens of a source -/
def toks (s : Bytes) : List Tok := linesToks 1 (cutAt 10 [] s)

/-- the scan byte by byte: the line, the token that has begun, is it a comment -/
def scan : Bytes → Nat → Bytes → Bool → List Tok
  | [], n, cur, _ => if cur = [] then [] else [(cur, n)]
  | c :: r, n, cur, com =>
    if c = 10 then (if cur = [] then [] else [(cur, n)]) ++ scan r (n + 1) [] false
    else if com then scan r n [] true
    else if c = 35 then (if cur = [] then [] else [(cur, n)]) ++ scan r n [] true
    else if c = 32 then (if cur = [] then [] else [(cur, n)]) ++ scan r n [] false
    else scan r n (cur ++ [c]) false

theorem scan_nl (r : Bytes) (n : Nat) (cur : Bytes) (com : Bool) : scan (10 :: r) n cur com = (if cur = [] then [] else [(cur, n)]) ++ scan r (n + 1) [] false := by
  rw [scan, if_pos rfl]
theorem scan_com (c : UInt8) (r : Bytes) (n : Nat) (cur : Bytes) (h : c ≠ 10) : scan (c :: r) n cur true = scan r n [] true := by
  rw [scan, if_neg h, if_pos rfl]
theorem scan_hash (r : Bytes) (n : Nat) (cur : Bytes) : scan (35 :: r) n cur false = (if cur = [] then [] else [(cur, n)]) ++ scan r n [] true := by
  rw [scan, if_neg (by decide), if_neg (by decide), if_pos rfl]
theorem scan_sp (r : Bytes) (n : Nat) (cur : Bytes) : scan (32 :: r) n cur false = (if cur = [] then [] else [(cur, n)]) ++ scan r n [] false := by
  rw [scan, if_neg (by decide), if_neg (by decide), if_neg (by decide), if_pos rfl]
theorem scan_other (c : UInt8) (r : Bytes) (n : Nat) (cur : Bytes) (h1 : c ≠ 10) (h2 : c ≠ 35) (h3 : c ≠ 32) : scan (c :: r) n cur false = scan r n (cur ++ [c]) false := by
  rw [scan, if_neg h1, if_neg (by decide), if_neg h2, if_neg h3]

/-- the pieces of a line, a piece already begun -/
def piecesFrom (cur l : Bytes) : List Bytes := (cutAt 32 cur (l.takeWhile (· ≠ 35))).filter (· ≠ [])

theorem piecesFrom_nil (cur : Bytes) : piecesFrom cur [] = if cur = [] then [] else [cur] := by
  unfold piecesFrom
  by_cases h : cur = [] <;> simp [cutAt, h]
theorem piecesFrom_hash (cur r : Bytes) : piecesFrom cur (35 :: r) = if cur = [] then [] else [cur] := by
  unfold piecesFrom
  by_cases h : cur = [] <;> simp [cutAt, h]
theorem piecesFrom_space (cur r : Bytes) : piecesFrom cur (32 :: r) = (if cur = [] then [] else [cur]) ++ piecesFrom [] r := by
  unfold piecesFrom
  by_cases h : cur = [] <;> simp [cutAt, h]
theorem piecesFrom_other (cur r : Bytes) (c : UInt8) (h : c ≠ 35) (h2 : c ≠ 32) : piecesFrom cur (c :: r) = piecesFrom (cur ++ [c]) r := by
  unfold piecesFrom
  simp [cutAt, h, h2]

theorem cutAt_append (c : UInt8) (p q : Bytes) : ∀ l : Bytes, cutAt c (p ++ q) l = match cutAt c q l with | [] => [] | x :: xs => (p ++ x) :: xs := by
  intro l
  induction l generalizing q with
  | nil => simp [cutAt]
  | cons b l ih =>
    by_cases h : b = c
    · simp [cutAt, h]
    · simp only [cutAt, if_neg h, List.append_assoc]
      exact ih (q ++ [b])

/-- tokens of the lines that a rest makes, the first line having begun: cur its last piece, or a comment -/
theorem scan_lines : ∀ (r : Bytes) (n : Nat) (cur : Bytes),
    (∀ l : Bytes, scan r n cur false = (match cutAt 10 l r with | [] => [] | x :: xs => (piecesFrom cur (x.drop l.length)).map (·, n) ++ linesToks (n + 1) xs)) ∧
    (∀ l : Bytes, scan r n [] true = (match cutAt 10 l r with | [] => [] | _ :: xs => linesToks (n + 1) xs)) := by
  intro r
  induction r with
  | nil =>
    intro n cur
    refine ⟨fun l => ?_, fun l => ?_⟩
    · simp only [scan, cutAt, List.drop_length, linesToks, List.append_nil, piecesFrom_nil]
      by_cases h : cur = [] <;> simp [h]
    · simp [scan, cutAt, linesToks]
  | cons c r ih =>
    intro n cur
    have first : ∀ l : Bytes, c ≠ 10 → ∃ x xs, cutAt 10 (l ++ [c]) r = (l ++ c :: x) :: xs ∧ cutAt 10 [] r = x :: xs := by
      intro l _
      have h := cutAt_append 10 (l ++ [c]) [] r
      rw [List.append_nil] at h
      cases hc : cutAt 10 [] r with
      | nil =>
        exfalso
        have : ∀ (m p : Bytes), cutAt 10 p m ≠ [] := by
          intro m
          induction m with
          | nil => intro p; simp [cutAt]
          | cons b m ihm => intro p; unfold cutAt; split <;> simp [ihm]
        exact this _ _ hc
      | cons x xs =>
        rw [hc] at h
        exact ⟨x, xs, by simpa using h, rfl⟩
    refine ⟨fun l => ?_, fun l => ?_⟩
    · by_cases h10 : c = 10
      · subst h10
        rw [scan_nl, (ih (n + 1) []).1 []]
        simp only [cutAt, if_pos, List.drop_length, piecesFrom_nil]
        have hne : ∃ x xs, cutAt 10 [] r = x :: xs := by
          cases hc : cutAt 10 [] r with
          | nil =>
            exfalso
            have : ∀ (m p : Bytes), cutAt 10 p m ≠ [] := by
              intro m
              induction m with
              | nil => intro p; simp [cutAt]
              | cons b m ihm => intro p; unfold cutAt; split <;> simp [ihm]
            exact this _ _ hc
          | cons x xs => exact ⟨x, xs, rfl⟩
        obtain ⟨x, xs, hx⟩ := hne
        rw [hx]
        simp only [linesToks, List.length_nil, List.drop_zero]
        show _ ++ ((piecesFrom [] x).map (·, n + 1) ++ _) = _
        by_cases hc : cur = [] <;> simp [hc, piecesFrom, linePieces]
      · obtain ⟨x, xs, hx, hx0⟩ := first l h10
        have e : cutAt 10 l (c :: r) = (l ++ c :: x) :: xs := by rw [← hx]; simp [cutAt, h10]
        rw [e]
        simp only [List.drop_left]
        by_cases h35 : c = 35
        · subst h35
          rw [piecesFrom_hash]
          rw [scan_hash, (ih n []).2 [], hx0]
          by_cases hc : cur = [] <;> simp [hc]
        · by_cases h32 : c = 32
          · subst h32
            rw [piecesFrom_space]
            rw [scan_sp, (ih n []).1 [], hx0]
            by_cases hc : cur = [] <;> simp [hc]
          · rw [piecesFrom_other _ _ _ h35 h32]
            rw [scan_other _ _ _ _ h10 h35 h32, (ih n (cur ++ [c])).1 [], hx0]
            simp
    · by_cases h10 : c = 10
      · subst h10
        rw [scan_nl, (ih (n + 1) []).1 []]
        simp only [cutAt, if_pos]
        cases hc : cutAt 10 [] r with
        | nil => simp [linesToks]
        | cons x xs => simp [linesToks, piecesFrom, linePieces]
      · obtain ⟨x, xs, hx, hx0⟩ := first l h10
        have e : cutAt 10 l (c :: r) = (l ++ c :: x) :: xs := by rw [← hx]; simp [cutAt, h10]
        rw [e]
        rw [scan_com _ _ _ _ h10, (ih n []).2 [], hx0]

theorem cutAt_ne (c : UInt8) : ∀ (m p : Bytes), cutAt c p m ≠ [] := by
  intro m
  induction m with
  | nil => intro p; simp [cutAt]
  | cons b m ihm => intro p; unfold cutAt; split <;> simp [ihm]

/-- both make the same tokens -/
theorem scan_toks (s : Bytes) : scan s 1 [] false = toks s := by
  rw [(scan_lines s 1 []).1 []]
  unfold toks
  cases hc : cutAt 10 [] s with
  | nil => rfl
  | cons x xs => simp [linesToks, piecesFrom, linePieces]

theorem scan_length : ∀ (r : Bytes) (n : Nat) (cur : Bytes) (com : Bool), (scan r n cur com).length ≤ r.length + (if cur = [] then 0 else 1) := by
  intro r
  induction r with
  | nil => intro n cur com; unfold scan; by_cases h : cur = [] <;> simp [h]
  | cons c r ih =>
    intro n cur com
    by_cases h10 : c = 10
    · subst h10
      rw [scan_nl]
      have := ih (n + 1) [] false
      by_cases h : cur = [] <;> simp [h] at this ⊢ <;> omega
    · cases com with
      | true =>
        rw [scan_com _ _ _ _ h10]
        have := ih n [] true
        by_cases h : cur = [] <;> simp [h] at this ⊢ <;> omega
      | false =>
        by_cases h35 : c = 35
        · subst h35
          rw [scan_hash]
          have := ih n [] true
          by_cases h : cur = [] <;> simp [h] at this ⊢ <;> omega
        · by_cases h32 : c = 32
          · subst h32
            rw [scan_sp]
            have := ih n [] false
            by_cases h : cur = [] <;> simp [h] at this ⊢ <;> omega
          · rw [scan_other _ _ _ _ h10 h35 h32]
            have := ih n (cur ++ [c]) false
            by_cases h : cur = [] <;> simp [h] at this ⊢ <;> omega
/-- no more tokens than bytes -/
theorem toks_length (s : Bytes) : (toks s).length ≤ s.length := by
  rw [← scan_toks]
  have := scan_length s 1 [] false
  simpa using this
theorem cutAt_le (c : UInt8) : ∀ (l p : Bytes), ∀ x ∈ cutAt c p l, x.length ≤ p.length + l.length := by
  intro l
  induction l with
  | nil => intro p x hx; simp [cutAt] at hx; subst hx; omega
  | cons b l ih =>
    intro p x hx
    unfold cutAt at hx
    split at hx
    · rcases List.mem_cons.1 hx with h | h
      · subst h; omega
      · have := ih [] x h; simp at this ⊢; omega
    · have := ih (p ++ [b]) x hx; simp at this ⊢; omega
theorem cutAt_count (c : UInt8) : ∀ (l p : Bytes), (cutAt c p l).length ≤ l.length + 1 := by
  intro l
  induction l with
  | nil => intro p; simp [cutAt]
  | cons b l ih =>
    intro p
    unfold cutAt
    split
    · have := ih []; simp at this ⊢; omega
    · have := ih (p ++ [b]); simp at this ⊢; omega
theorem linesToks_drop (n : Nat) (ls : List Bytes) (k : Nat) (h : k < ls.length) : linesToks n (ls.drop k) = (linePieces ls[k]).map (·, n) ++ linesToks (n + 1) (ls.drop (k + 1)) := by
  rw [List.drop_eq_getElem_cons h]
  rfl
/-- the tokens of a line are not empty, nor is one longer than the source -/
theorem toks_mem (s : Bytes) : ∀ t ∈ toks s, t.1 ≠ [] ∧ t.1.length ≤ s.length ∧ (∀ c ∈ t.1, c ∈ s) := by
  have key : ∀ (r : Bytes) (n : Nat) (cur : Bytes) (com : Bool), ∀ t ∈ scan r n cur com, t.1 ≠ [] ∧ t.1.length ≤ cur.length + r.length ∧ (∀ c ∈ t.1, c ∈ cur ∨ c ∈ r) := by
    intro r
    induction r with
    | nil =>
      intro n cur com t ht
      unfold scan at ht
      split at ht
      · cases ht
      · rename_i h
        obtain rfl : t = (cur, n) := by simpa using ht
        exact ⟨h, by simp, fun c hc => Or.inl hc⟩
    | cons c r ih =>
      intro n cur com t ht
      have one : ∀ m : Nat, t ∈ (if cur = [] then [] else [(cur, m)]) → t.1 ≠ [] ∧ t.1.length ≤ cur.length + (c :: r).length ∧ (∀ d ∈ t.1, d ∈ cur ∨ d ∈ c :: r) := by
        intro m hm
        split at hm
        · cases hm
        · rename_i h
          obtain rfl : t = (cur, m) := by simpa using hm
          exact ⟨h, by simp, fun c hc => Or.inl hc⟩
      have more : ∀ m cm, t ∈ scan r m [] cm → t.1 ≠ [] ∧ t.1.length ≤ cur.length + (c :: r).length ∧ (∀ d ∈ t.1, d ∈ cur ∨ d ∈ c :: r) := by
        intro m cm hm
        obtain ⟨h1, h2, h3⟩ := ih m [] cm t hm
        refine ⟨h1, by simp at h2 ⊢; omega, fun d hd => Or.inr ?_⟩
        rcases h3 d hd with h | h
        · cases h
        · exact List.mem_cons_of_mem _ h
      by_cases h10 : c = 10
      · subst h10
        rw [scan_nl, List.mem_append] at ht
        rcases ht with h | h
        · exact one _ h
        · exact more _ _ h
      · cases com with
        | true => rw [scan_com _ _ _ _ h10] at ht; exact more _ _ ht
        | false =>
          by_cases h35 : c = 35
          · subst h35
            rw [scan_hash, List.mem_append] at ht
            rcases ht with h | h
            · exact one _ h
            · exact more _ _ h
          · by_cases h32 : c = 32
            · subst h32
              rw [scan_sp, List.mem_append] at ht
              rcases ht with h | h
              · exact one _ h
              · exact more _ _ h
            · rw [scan_other _ _ _ _ h10 h35 h32] at ht
              obtain ⟨h1, h2, h3⟩ := ih n (cur ++ [c]) false t ht
              refine ⟨h1, by simp at h2 ⊢; omega, fun d hd => ?_⟩
              rcases h3 d hd with h | h
              · rcases List.mem_append.1 h with h | h
                · exact Or.inl h
                · exact Or.inr (by simp at h; simp [h])
              · exact Or.inr (List.mem_cons_of_mem _ h)
  intro t ht
  rw [← scan_toks] at ht
  obtain ⟨h1, h2, h3⟩ := key s 1 [] false t ht
  refine ⟨h1, by simpa using h2, fun c hc => ?_⟩
  rcases h3 c hc with h | h
  · cases h
  · exact h
end Go.Proofs.YtimegcnpembhkaaDoor
