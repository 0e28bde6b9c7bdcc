/- Documents, the plain laws: lines joined, blank lines, the first invalid line, words joined. (Layer 49) -/
import Derived.Test.YtapjhnlnfliljaaDoorDocSpec
namespace Go.Proofs.YtapjhnlnfliljaaDoor
open Go.Lib Dec

theorem cutAt_mid (c : UInt8) (a b : Bytes) : ∀ p, cutAt c p (a ++ c :: b) = cutAt c p a ++ cutAt c [] b := by
  induction a with
  | nil => intro p; simp [cutAt]
  | cons x a ih =>
    intro p
    rw [List.cons_append, cutAt, cutAt]
    split
    · rw [ih, List.cons_append]
    · exact ih _
theorem cutAt_none (c : UInt8) (l : Bytes) (h : c ∉ l) : ∀ p, cutAt c p l = [p ++ l] := by
  induction l with
  | nil => intro p; simp [cutAt]
  | cons x l ih =>
    intro p
    rw [cutAt, if_neg (fun e => h (by rw [e]; simp)), ih (fun hm => h (List.mem_cons_of_mem _ hm))]
    simp
theorem cutAt_free (c : UInt8) (l : Bytes) : ∀ p, c ∉ p → ∀ x ∈ cutAt c p l, c ∉ x := by
  induction l with
  | nil => intro p hp x hx; simp [cutAt] at hx; rw [hx]; exact hp
  | cons y l ih =>
    intro p hp x hx
    rw [cutAt] at hx
    split at hx
    · rcases List.mem_cons.1 hx with rfl | hx
      · exact hp
      · exact ih [] (by simp) x hx
    · rename_i hy
      exact ih (p ++ [y]) (by simp [hp]; exact fun e => hy e.symm) x hx
/-- the lengths of pieces, each with one more -/
def lenS (ls : List Bytes) : Nat := (ls.map fun x : List UInt8 => x.length + 1).sum
theorem lenS_cons (x : Bytes) (r : List Bytes) : lenS (x :: r) = x.length + 1 + lenS r := by unfold lenS; rw [List.map_cons, List.sum_cons]
theorem cutAt_sum (c : UInt8) (l : Bytes) : ∀ p, lenS (cutAt c p l) = p.length + l.length + 1 := by
  induction l with
  | nil => intro p; simp [cutAt, lenS]
  | cons y l ih =>
    intro p
    rw [cutAt]
    split
    · rw [lenS_cons, ih]; simp; omega
    · rw [ih]; simp; omega
/-- pieces joined -/
def joinA (sep : Bytes) : List Bytes → Bytes
  | [] => []
  | [x] => x
  | x :: y :: r => x ++ sep ++ joinA sep (y :: r)
theorem joinA_cons (sep x : Bytes) (r : List Bytes) (h : r ≠ []) : joinA sep (x :: r) = x ++ sep ++ joinA sep r := by
  cases r with
  | nil => exact absurd rfl h
  | cons y r => rfl
theorem cutAt_join (c : UInt8) : ∀ ls : List Bytes, (∀ x ∈ ls, c ∉ x) → ls ≠ [] → cutAt c [] (joinA [c] ls) = ls
  | [], _, h => absurd rfl h
  | [x], h, _ => by rw [joinA, cutAt_none c x (h x (by simp))]; rfl
  | x :: y :: r, h, _ => by
    rw [joinA, List.append_assoc, List.singleton_append, cutAt_mid, cutAt_none c x (h x (by simp)), cutAt_join c (y :: r) (fun z hz => h z (List.mem_cons_of_mem _ hz)) (by simp)]
    rfl

theorem linesA_mid (a b : Bytes) : linesA (a ++ 10 :: b) = linesA a ++ linesA b := cutAt_mid 10 a b []
theorem wordsA_mid (a b : Bytes) : wordsA (a ++ 32 :: b) = wordsA a ++ wordsA b := by unfold wordsA; rw [cutAt_mid, List.filter_append]
theorem wordsA_nil : wordsA [] = [] := rfl
theorem wordsA_one (w : Bytes) (h : 32 ∉ w) (h0 : w ≠ []) : wordsA w = [w] := by unfold wordsA; rw [cutAt_none 32 w h]; simp [h0]
theorem wordsA_mem (l : Bytes) : ∀ w ∈ wordsA l, w ≠ [] ∧ 32 ∉ w := by
  intro w hw
  unfold wordsA at hw
  obtain ⟨h1, h2⟩ := List.mem_filter.1 hw
  exact ⟨by simpa using h2, cutAt_free 32 l [] (by simp) w h1⟩
theorem wordsA_spaces (l : Bytes) (n : Nat) : wordsA (List.replicate n 32 ++ l) = wordsA l := by
  induction n with
  | zero => rfl
  | succ n ih =>
    rw [List.replicate_succ, List.cons_append, show (32 : UInt8) :: (List.replicate n 32 ++ l) = [] ++ 32 :: (List.replicate n 32 ++ l) from rfl, wordsA_mid, ih, wordsA_nil]
    rfl
theorem wordsA_end (l : Bytes) : wordsA (l ++ [32]) = wordsA l := by rw [wordsA_mid, wordsA_nil, List.append_nil]
theorem wordsA_join3 : ∀ ls : List Bytes, (∀ w ∈ ls, w ≠ [] ∧ 32 ∉ w) → wordsA (joinA [32, 32, 32] ls) = ls
  | [], _ => rfl
  | [x], h => wordsA_one x (h x (by simp)).2 (h x (by simp)).1
  | x :: y :: r, h => by
    rw [joinA, List.append_assoc, show [32, 32, 32] ++ joinA [32, 32, 32] (y :: r) = 32 :: (List.replicate 2 32 ++ joinA [32, 32, 32] (y :: r)) from rfl, wordsA_mid, wordsA_spaces, wordsA_one x (h x (by simp)).2 (h x (by simp)).1, wordsA_join3 (y :: r) (fun z hz => h z (List.mem_cons_of_mem _ hz))]
    rfl
/-- words joined by three spaces, with spaces around them -/
theorem wordsA_again (l : Bytes) : wordsA ([32, 32] ++ joinA [32, 32, 32] (wordsA l) ++ [32]) = wordsA l := by
  rw [wordsA_end, show [32, 32] ++ joinA [32, 32, 32] (wordsA l) = List.replicate 2 32 ++ joinA [32, 32, 32] (wordsA l) from rfl, wordsA_spaces, wordsA_join3 _ (wordsA_mem l)]

/-- the first invalid line -/
def errA : List Bytes → Nat → Option (Nat × Nat)
  | [], _ => none
  | s :: r, i => if (lineA s).2 ≠ 0 then some (i, (lineA s).2) else errA r (i + 1)
def opA : List Bytes → Nat → Nat
  | [], op => op
  | s :: r, _ => opA r (lineA s).1.kind
def outA : List Bytes → List DB → Nat → List DB
  | [], out, _ => out
  | s :: r, out, op => outA r (addA out op (lineA s).1) (lineA s).1.kind
theorem goA_eq : ∀ (ls : List Bytes) (i : Nat) (out : List DB) (op : Nat), goA ls i out op = (match errA ls i with | some (k, e) => ([], k, e) | none => (outA ls out op, 0, 0))
  | [], _, _, _ => rfl
  | s :: r, i, out, op => by
    rw [goA, errA]
    split
    · rfl
    · rw [goA_eq r]; rfl
theorem errA_append : ∀ (a b : List Bytes) (i : Nat), errA (a ++ b) i = (match errA a i with | some x => some x | none => errA b (i + a.length))
  | [], b, i => rfl
  | s :: a, b, i => by
    rw [List.cons_append, errA, errA]
    split
    · rfl
    · rw [errA_append a b (i + 1), List.length_cons, show i + 1 + a.length = i + (a.length + 1) by omega]
theorem outA_append : ∀ (a b : List Bytes) (out : List DB) (op : Nat), outA (a ++ b) out op = outA b (outA a out op) (opA a op)
  | [], _, _, _ => rfl
  | s :: a, b, out, op => by rw [List.cons_append, outA, outA_append a b]; rfl
theorem opA_append : ∀ (a b : List Bytes) (op : Nat), opA (a ++ b) op = opA b (opA a op)
  | [], _, _ => rfl
  | s :: a, b, op => by rw [List.cons_append, opA, opA_append a b]; rfl
theorem errA_shift : ∀ (a : List Bytes) (i j : Nat), errA a i = none → errA a j = none
  | [], _, _, _ => rfl
  | s :: a, i, j, h => by
    rw [errA] at h ⊢
    split at h
    · cases h
    · rename_i h0
      rw [if_neg h0]
      exact errA_shift a _ _ h
/-- where the first invalid line is -/
theorem errA_some : ∀ (a : List Bytes) (i k e : Nat), errA a i = some (k, e) → i ≤ k ∧ ∃ h : k - i < a.length, errA (a.take (k - i)) 1 = none ∧ (lineA (a[k - i])).2 = e ∧ e ≠ 0
  | [], _, _, _, h => by cases h
  | s :: a, i, k, e, h => by
    rw [errA] at h
    split at h
    · rename_i h0
      cases h
      refine ⟨Nat.le_refl _, by simp, ?_, ?_, h0⟩
      · rw [Nat.sub_self]; rfl
      · simp
    · rename_i h0
      obtain ⟨h1, h2, h3, h4, h5⟩ := errA_some a (i + 1) k e h
      obtain ⟨d, hd⟩ : ∃ d, d = k - (i + 1) := ⟨_, rfl⟩
      have hk : k - i = d + 1 := by omega
      refine ⟨by omega, ?_⟩
      simp only [← hd] at h2 h3 h4
      simp only [hk]
      refine ⟨by simpa using h2, ?_, by simpa using h4, h5⟩
      rw [List.take_succ_cons, errA, if_neg h0]
      exact errA_shift _ _ _ h3
theorem lineA_nil : lineA [] = (noB, 0) := rfl
theorem lineA_sp : lineA [32] = (noB, 0) := by
  have h1 : ([32] : Bytes).all okD = true := by decide
  have h2 : wordsA [32] = [] := by decide
  unfold lineA
  rw [if_neg (by rw [h1]; decide), if_pos h2]
def freeS (out : List DB) (op : Nat) : Prop := out ≠ [] ∨ ¬ (op = 2 ∨ op = 3)
theorem addA_pre (pre out : List DB) (op : Nat) (b : DB) (h : freeS out op) : addA (pre ++ out) op b = pre ++ addA out op b := by
  unfold addA
  split
  · rfl
  split
  · rename_i h1
    have ho : out ≠ [] := by
      rcases h with h | h
      · exact h
      · exact absurd h1.2 h
    obtain ⟨l, x, rfl⟩ : ∃ l x, out = l ++ [x] := ⟨out.dropLast, out.getLast ho, (List.dropLast_concat_getLast ho).symm⟩
    rw [← List.append_assoc, List.getLast?_concat, List.getLast?_concat]
    simp
  · rw [List.append_assoc]
theorem addA_free (out : List DB) (op : Nat) (b : DB) : freeS (addA out op b) b.kind := by
  unfold addA
  split
  · rename_i h; exact .inr (by omega)
  split
  · left
    split <;> simp
  · exact .inl (by simp)
theorem outA_pre : ∀ (ls : List Bytes) (pre out : List DB) (op : Nat), freeS out op → outA ls (pre ++ out) op = pre ++ outA ls out op
  | [], _, _, _, _ => rfl
  | s :: r, pre, out, op, h => by rw [outA, outA, addA_pre pre out op _ h]; exact outA_pre r pre _ _ (addA_free out op _)
theorem outA_from (ls : List Bytes) (pre : List DB) : outA ls pre 0 = pre ++ outA ls [] 0 := by
  have := outA_pre ls pre [] 0 (.inr (by omega))
  rwa [List.append_nil] at this
theorem addA_noB (out : List DB) (op : Nat) : addA out op noB = out := by unfold addA; rw [if_pos (show noB.kind = 0 from rfl)]
theorem parseA_ok {t : Bytes} {l : List DB} {n : Nat} (h : parseA t = (l, n, 0)) : t.length ≤ 20000 ∧ n = 0 ∧ errA (linesA t) 1 = none ∧ l = outA (linesA t) [] 0 := by
  unfold parseA at h
  split at h
  · cases h
  · rename_i h0
    rw [goA_eq] at h
    cases he : errA (linesA t) 1 with
    | none => rw [he] at h; cases h; exact ⟨by omega, rfl, rfl, rfl⟩
    | some x =>
      obtain ⟨k, e⟩ := x
      rw [he] at h
      cases h
      exact absurd rfl (errA_some _ _ _ _ he).2.2.2.2
theorem parseA_of {t : Bytes} (h : t.length ≤ 20000) (he : errA (linesA t) 1 = none) : parseA t = (outA (linesA t) [] 0, 0, 0) := by
  unfold parseA
  rw [if_neg (by omega), goA_eq, he]
theorem parseA_err {t : Bytes} (h : t.length ≤ 20000) {k e : Nat} (he : errA (linesA t) 1 = some (k, e)) : parseA t = ([], k, e) := by
  unfold parseA
  rw [if_neg (by omega), goA_eq, he]
/-- two documents joined by an empty line -/
theorem parseA_join (a b : Bytes) (h : a.length + b.length ≤ 2000) (l m : List DB) (n k : Nat) (ha : parseA a = (l, n, 0)) (hb : parseA b = (m, k, 0)) : parseA (a ++ [10, 10] ++ b) = (l ++ m, 0, 0) := by
  obtain ⟨-, -, ea, rfl⟩ := parseA_ok ha
  obtain ⟨-, -, eb, rfl⟩ := parseA_ok hb
  have hl : linesA (a ++ [10, 10] ++ b) = linesA a ++ ([] :: linesA b) := by
    rw [List.append_assoc, show [10, 10] ++ b = 10 :: ([] ++ 10 :: b) from rfl, linesA_mid, linesA_mid]
    rfl
  have he : errA (linesA (a ++ [10, 10] ++ b)) 1 = none := by
    rw [hl, errA_append, ea]
    show errA ([] :: linesA b) _ = none
    rw [errA, lineA_nil, if_neg (by decide)]
    exact errA_shift _ _ _ eb
  rw [parseA_of (by simp; omega) he, hl, outA_append, outA, lineA_nil, addA_noB]
  show (outA (linesA b) _ 0, 0, 0) = _
  rw [outA_from]
/-- the lines of a text have no line feed -/
theorem linesA_free (t : Bytes) : ∀ x ∈ linesA t, 10 ∉ x := cutAt_free 10 t [] (by simp)
theorem linesA_one (x : Bytes) (h : 10 ∉ x) : linesA x = [x] := by unfold linesA; rw [cutAt_none 10 x h]; rfl
theorem linesA_join (ls : List Bytes) (h : ∀ x ∈ ls, 10 ∉ x) : linesA (joinA [10] ls) = if ls = [] then [[]] else ls := by
  by_cases h0 : ls = []
  · rw [h0]; rfl
  · rw [if_neg h0]; exact cutAt_join 10 ls h h0
theorem joinA_len (sep : Bytes) (hs : sep.length = 1) : ∀ ls : List Bytes, (joinA sep ls).length ≤ lenS ls
  | [] => by simp [joinA]
  | [x] => by simp [joinA, lenS]
  | x :: y :: r => by
    have := joinA_len sep hs (y :: r)
    rw [joinA, lenS_cons]
    simp only [List.length_append]
    omega
theorem sum_take (ls : List Bytes) (k : Nat) : lenS (ls.take k) ≤ lenS ls := by
  induction ls generalizing k with
  | nil => simp
  | cons x r ih =>
    cases k with
    | zero => simp [lenS]
    | succ k => rw [List.take_succ_cons, lenS_cons, lenS_cons]; have := ih k; omega
theorem sum_mem (ls : List Bytes) (x : Bytes) (h : x ∈ ls) : x.length ≤ lenS ls := by
  induction ls with
  | nil => cases h
  | cons y r ih =>
    rw [lenS_cons]
    rcases List.mem_cons.1 h with rfl | h
    · omega
    · have := ih h; omega
/-- the first invalid line of a text -/
theorem parseA_lines (t more : Bytes) (h : t.length + more.length ≤ 2000) (l : List DB) (n e : Nat) (hp : parseA t = (l, n, e)) (h0 : e ≠ 0) :
    1 ≤ n ∧ ∃ hn : n - 1 < (linesA t).length, parseA (t ++ [10] ++ more) = ([], n, e) ∧ (parseA (joinA [10] ((linesA t).take (n - 1)))).2.2 = 0 ∧ parseA ((linesA t)[n - 1]) = ([], 1, e) := by
  cases he : errA (linesA t) 1 with
  | none => rw [parseA_of (by omega) he] at hp; cases hp; exact absurd rfl h0
  | some x =>
    obtain ⟨k, e'⟩ := x
    rw [parseA_err (by omega) he] at hp
    cases hp
    obtain ⟨h1, h2, h3, h4, h5⟩ := errA_some _ _ _ _ he
    have hfree := linesA_free t
    have hs := cutAt_sum 10 t []
    rw [show cutAt 10 [] t = linesA t from rfl] at hs
    simp only [List.length_nil, Nat.zero_add] at hs
    refine ⟨h1, h2, ?_, ?_, ?_⟩
    · refine parseA_err (by simp; omega) ?_
      rw [List.append_assoc, List.singleton_append, linesA_mid, errA_append, he]
    · have hl := joinA_len [10] rfl ((linesA t).take (n - 1))
      have ht := sum_take (linesA t) (n - 1)
      rw [parseA_of (by omega)]
      rw [linesA_join _ (fun x hx => hfree x (List.mem_of_mem_take hx))]
      split
      · rw [errA, lineA_nil]; rfl
      · exact h3
    · have hm : (linesA t)[n - 1] ∈ linesA t := List.getElem_mem h2
      have hsm := sum_mem _ _ hm
      refine parseA_err (by omega) ?_
      rw [linesA_one _ (hfree _ hm), errA, h4, if_pos h5]
end Go.Proofs.YtapjhnlnfliljaaDoor
