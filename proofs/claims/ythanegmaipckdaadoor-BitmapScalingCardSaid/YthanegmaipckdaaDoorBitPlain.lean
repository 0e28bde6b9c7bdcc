/- The plain words of pictures: why rows are none, the runs of a string, the runs written out, what Compress answers. (Layer 52) -/
import Derived.Test.YthanegmaipckdaaDoorAsmSpec
import Derived.Lib.ItoaNum
namespace Go.Proofs.YthanegmaipckdaaDoor
open Go.Lib

def runsGo : UInt8 → Nat → Bytes → List (Nat × UInt8)
  | c, n, [] => [(n, c)]
  | c, n, x :: r => if x = c then runsGo c (n + 1) r else (n, c) :: runsGo x 1 r
/-- the runs of a string: their lengths and bytes -/
def runsB : Bytes → List (Nat × UInt8)
  | [] => []
  | c :: r => runsGo c 1 r
theorem runsGo_rep (c : UInt8) : ∀ (j k : Nat) (t : Bytes), runsGo c k (List.replicate j c ++ t) = runsGo c (k + j) t := by
  intro j
  induction j with
  | zero => intro k t; rfl
  | succ j ih =>
    intro k t
    rw [List.replicate_succ, List.cons_append, runsGo, if_pos rfl, ih]
    rw [show k + 1 + j = k + (j + 1) by omega]
theorem runsB_step (c : UInt8) (n : Nat) (t : Bytes) (h1 : 1 ≤ n) (ht : ∀ x r, t = x :: r → x ≠ c) : runsB (List.replicate n c ++ t) = (n, c) :: runsB t := by
  obtain ⟨m, rfl⟩ : ∃ m, n = m + 1 := ⟨n - 1, by omega⟩
  rw [List.replicate_succ, List.cons_append, runsB, runsGo_rep]
  cases t with
  | nil => rw [runsGo, Nat.add_comm]; rfl
  | cons x r =>
    rw [runsGo, if_neg (ht x r rfl), Nat.add_comm]
    rfl
/-- the runs written out -/
def encB (rs : List (Nat × UInt8)) : Bytes := rs.flatMap fun x => Lib.decDigits x.1 ++ [x.2]
/-- the runs of what is left at a place, m equal bytes before it -/
def tailR (s : Bytes) (k m : Nat) : List (Nat × UInt8) := match s.drop k with
  | [] => []
  | x :: r => runsGo x (m + 1) r
theorem tailR_zero (s : Bytes) : tailR s 0 0 = runsB s := by
  unfold tailR
  cases s with
  | nil => rfl
  | cons c r => rfl
theorem tailR_end (s : Bytes) (k m : Nat) (h : s.length ≤ k) : tailR s k m = [] := by
  unfold tailR
  rw [List.drop_of_length_le h]
theorem tailR_same (s : Bytes) (k m : Nat) (h : k + 1 < s.length) (he : s[k + 1] = s[k]) : tailR s k m = tailR s (k + 1) (m + 1) := by
  unfold tailR
  rw [List.drop_eq_getElem_cons (show k < s.length by omega), List.drop_eq_getElem_cons h]
  simp only
  rw [runsGo, if_pos he, he]
theorem tailR_new (s : Bytes) (k m : Nat) (h : k + 1 < s.length) (he : s[k + 1] ≠ s[k]) : tailR s k m = (m + 1, s[k]) :: tailR s (k + 1) 0 := by
  unfold tailR
  rw [List.drop_eq_getElem_cons (show k < s.length by omega), List.drop_eq_getElem_cons h]
  simp only
  rw [runsGo, if_neg he]
theorem tailR_last (s : Bytes) (k m : Nat) (h : k + 1 = s.length) : tailR s k m = [(m + 1, s[k]'(by omega))] := by
  unfold tailR
  rw [List.drop_eq_getElem_cons (show k < s.length by omega), List.drop_of_length_le (by omega)]
  rfl
theorem encB_cons (x : Nat × UInt8) (r : List (Nat × UInt8)) : encB (x :: r) = Lib.decDigits x.1 ++ [x.2] ++ encB r := rfl
def isPx (c : UInt8) : Bool := [46, 35].contains c
/-- the error of a row, the first row's width being k -/
def rowE (k : Nat) (r : ByteArray) : Int :=
  if r.size = 0 ∨ 200 < r.size then 2 else if r.size ≠ k then 1 else if r.data.toList.all isPx = true then 0 else 3
def rowsE (k : Nat) : List ByteArray → Int
  | [] => 0
  | r :: t => if rowE k r = 0 then rowsE k t else rowE k r
def widthB (rows : List ByteArray) : Nat := match rows with
  | [] => 0
  | r :: _ => r.size
/-- why rows are not a picture -/
def picE (rows : List ByteArray) : Int := if rows = [] then 4 else if 200 < rows.length then 6 else rowsE (widthB rows) rows

/-- the rows joined -/
def catB (rows : List ByteArray) : Bytes := rows.flatMap fun r => r.data.toList
/-- the answer of Compress -/
def compZ (rows : List ByteArray) : Bytes × Nat × Int := if picE rows = 0 then (encB (runsB (catB rows)), widthB rows, 0) else ([], 0, picE rows)

theorem catB_take (rows : List ByteArray) (k : Nat) (h : k < rows.length) : catB (rows.take (k + 1)) = catB (rows.take k) ++ rows[k].data.toList := by
  unfold catB
  rw [List.take_succ_eq_append_getElem h, List.flatMap_append, List.flatMap_cons, List.flatMap_nil, List.append_nil]
theorem rowsE_zero (k : Nat) : ∀ rows : List ByteArray, rowsE k rows = 0 → ∀ r ∈ rows, r.size = k ∧ 1 ≤ r.size ∧ r.size ≤ 200 ∧ r.data.toList.all isPx = true := by
  intro rows
  induction rows with
  | nil => intro _ r hr; cases hr
  | cons a t ih =>
    intro h r hr
    rw [rowsE] at h
    by_cases ha : rowE k a = 0
    · rw [if_pos ha] at h
      rcases List.mem_cons.1 hr with rfl | hr
      · unfold rowE at ha
        by_cases g1 : r.size = 0 ∨ 200 < r.size
        · rw [if_pos g1] at ha; cases ha
        · rw [if_neg g1] at ha
          by_cases g2 : r.size ≠ k
          · rw [if_pos g2] at ha; cases ha
          · rw [if_neg g2] at ha
            by_cases g3 : r.data.toList.all isPx = true
            · exact ⟨by omega, by omega, by omega, g3⟩
            · rw [if_neg g3] at ha; cases ha
      · exact ih h r hr
    · rw [if_neg ha] at h; exact absurd h ha
theorem pic_facts {rows : List ByteArray} (h : picE rows = 0) : rows ≠ [] ∧ rows.length ≤ 200 ∧ ∀ r ∈ rows, r.size = widthB rows ∧ 1 ≤ r.size ∧ r.size ≤ 200 ∧ r.data.toList.all isPx = true := by
  unfold picE at h
  by_cases h1 : rows = []
  · rw [if_pos h1] at h; cases h
  · rw [if_neg h1] at h
    by_cases h2 : 200 < rows.length
    · rw [if_pos h2] at h; cases h
    · rw [if_neg h2] at h
      exact ⟨h1, by omega, rowsE_zero _ rows h⟩
end Go.Proofs.YthanegmaipckdaaDoor
