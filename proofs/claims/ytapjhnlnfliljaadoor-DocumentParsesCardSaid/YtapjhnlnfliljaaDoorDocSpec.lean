/- Documents in plain words: words, lines, cells, pictures, blocks; parsing as a fold over the lines. (Layer 49) -/
import Derived.Test.YtapjhnlnfliljaaDoorBA
import Derived.Test.YtapjhnlnfliljaaDoorDecimal
namespace Go.Proofs.YtapjhnlnfliljaaDoor
open Go.Lib Dec

def wordsA (l : Bytes) : List Bytes := (cutAt 32 [] l).filter (· ≠ [])
def linesA (l : Bytes) : List Bytes := cutAt 10 [] l
/-- without spaces at the ends -/
def trimA (l : Bytes) : Bytes := ((l.reverse.dropWhile (· == 32)).reverse).dropWhile (· == 32)
/-- a block; kind 0: none -/
structure DB where
  kind : Nat
  words : List Bytes
  rows : List (List Bytes)
  runs : Bytes
  width : Nat
def noB : DB := ⟨0, [], [], [], 0⟩
def cellsA (s : Bytes) : List Bytes := (cutAt 124 [] (s.drop 1).dropLast).map trimA
def rowA (s : Bytes) : DB × Nat :=
  if s.length < 2 ∨ s.getLast? ≠ some 124 then (noB, 3) else if 32 < (cellsA s).length then (noB, 6) else (⟨3, [], [cellsA s], [], 0⟩, 0)
/-- the width: decimal, from 1 to 200, as it is written -/
def widthA (l : Bytes) : Option Nat := if l ≠ [] ∧ (l.all dgB = true) ∧ l.head? ≠ some 48 ∧ valD l ≤ 200 then some (valD l) else none
def picA (s : Bytes) : DB × Nat :=
  let num := s.takeWhile (· ≠ 32)
  let runs := s.drop (num.length + 1)
  match widthA num with
  | none => (noB, 3)
  | some n => if runs = [] ∨ runs.contains 32 = true then (noB, 3) else (⟨4, [], [], runs, n⟩, 0)
def okD (c : UInt8) : Bool := decide (32 ≤ c.toNat) && decide (c.toNat ≤ 126)
def lineA (s : Bytes) : DB × Nat :=
  if s.all okD = false then (noB, 3)
  else if wordsA s = [] then (noB, 0)
  else if s.head? = some 124 then rowA s
  else if hasPrefix s [35, 32] = true then (if (wordsA s).length < 2 then (noB, 3) else (⟨1, (wordsA s).tail, [], [], 0⟩, 0))
  else if hasPrefix s [33, 32] = true then picA (s.drop 2)
  else (⟨2, wordsA s, [], [], 0⟩, 0)
def mergeA (x b : DB) : DB := { x with words := x.words ++ b.words, rows := x.rows ++ b.rows }
def addA (out : List DB) (op : Nat) (b : DB) : List DB :=
  if b.kind = 0 then out
  else if b.kind = op ∧ (op = 2 ∨ op = 3) then (match out.getLast? with | none => [b] | some x => out.dropLast ++ [mergeA x b])
  else out ++ [b]
/-- the lines from number i on: the blocks so far, the kind that is open -/
def goA : List Bytes → Nat → List DB → Nat → List DB × Nat × Nat
  | [], _, out, _ => (out, 0, 0)
  | s :: r, i, out, op => if (lineA s).2 ≠ 0 then ([], i, (lineA s).2) else goA r (i + 1) (addA out op (lineA s).1) (lineA s).1.kind
def parseA (t : Bytes) : List DB × Nat × Nat := if 20000 < t.length then ([], 0, 6) else goA (linesA t) 1 [] 0

/-- the kind tells what a block has -/
def GoodB (b : DB) : Prop :=
  (b.kind = 0 ∧ b = noB) ∨ (b.kind = 1 ∧ b.words ≠ [] ∧ b.rows = [] ∧ b.runs = [] ∧ b.width = 0) ∨ (b.kind = 2 ∧ b.words ≠ [] ∧ b.rows = [] ∧ b.runs = [] ∧ b.width = 0) ∨
  (b.kind = 3 ∧ b.words = [] ∧ b.rows ≠ [] ∧ b.runs = [] ∧ b.width = 0) ∨ (b.kind = 4 ∧ b.words = [] ∧ b.rows = [] ∧ b.runs ≠ [] ∧ 1 ≤ b.width ∧ b.width ≤ 200)
theorem widthA_some {l : Bytes} {n : Nat} (h : widthA l = some n) : l = decDigits n ∧ 1 ≤ n ∧ n ≤ 200 := by
  unfold widthA at h
  split at h
  · rename_i hc
    obtain ⟨h1, h2, h3, h4⟩ := hc
    injection h with h
    cases l with
    | nil => exact absurd rfl h1
    | cons c r =>
      have hd : ∀ x ∈ c :: r, dgB x = true := List.all_eq_true.1 h2
      have h48 : c ≠ 48 := fun e => h3 (by rw [e]; rfl)
      have hp := valD_pos c r (hd c List.mem_cons_self) h48
      exact ⟨by rw [← h]; exact (dec_val r.length c r rfl hd h48).symm, by omega, by omega⟩
  · cases h
theorem lineA_good (s : Bytes) : GoodB (lineA s).1 := by
  unfold lineA
  split
  · exact .inl ⟨rfl, rfl⟩
  split
  · exact .inl ⟨rfl, rfl⟩
  rename_i hw
  split
  · unfold rowA
    split
    · exact .inl ⟨rfl, rfl⟩
    split
    · exact .inl ⟨rfl, rfl⟩
    · exact .inr (.inr (.inr (.inl ⟨rfl, rfl, by simp, rfl, rfl⟩)))
  split
  · split
    · exact .inl ⟨rfl, rfl⟩
    · rename_i h2
      refine .inr (.inl ⟨rfl, ?_, rfl, rfl, rfl⟩)
      intro e
      have := congrArg List.length e
      simp at this
      omega
  split
  · unfold picA
    dsimp only
    split
    · exact .inl ⟨rfl, rfl⟩
    · rename_i n hn
      obtain ⟨-, h1, h2⟩ := widthA_some hn
      split
      · exact .inl ⟨rfl, rfl⟩
      · rename_i hr
        exact .inr (.inr (.inr (.inr ⟨rfl, rfl, rfl, fun e => hr (.inl e), h1, h2⟩)))
  · exact .inr (.inr (.inl ⟨rfl, hw, rfl, rfl, rfl⟩))
theorem lineA_kind (s : Bytes) : (lineA s).1.kind ≤ 4 := by
  rcases lineA_good s with ⟨h, -⟩ | ⟨h, -⟩ | ⟨h, -⟩ | ⟨h, -⟩ | ⟨h, -⟩ <;> omega
end Go.Proofs.YtapjhnlnfliljaaDoor
