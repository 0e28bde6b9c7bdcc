/- Contracts of the reference: a mark at a place, the frames of pieces. (Layer 27) -/
import Derived.Test.YtlkiaeelnbjchaaDoorLdPieces
import Derived.Test.YtlkiaeelnbjchaaDoorPfRDec3
namespace Go.Proofs.YtlkiaeelnbjchaaDoor
open Go.RowKit
open Go.Lib hiding intOf
set_option linter.unusedVariables false

/-- the cell at a place, 0 behind the end -/
def cellAt (l : List UInt8) (i : Nat) : UInt8 := l.getD i 0
theorem isPl_of {l : List UInt8} {i : Nat} (h : ∀ j, (hj : j < 16) → cellAt l (i + j) = plainM[j]'hj) : isPl l i = true := by
  have hlen : i + 16 ≤ l.length := by
    have h15 := h 15 (by decide)
    rcases Nat.lt_or_ge (i + 15) l.length with h' | h'
    · omega
    · unfold cellAt at h15
      rw [List.getD_eq_getElem?_getD, List.getElem?_eq_none h'] at h15
      exact absurd h15 (by decide)
  unfold isPl
  rw [decide_eq_true hlen, Bool.true_and, decide_eq_true_eq]
  apply List.ext_getElem
  · rw [List.length_take, List.length_drop]
    show min 16 (l.length - i) = 16
    omega
  · intro j h1 h2
    have := h j h2
    unfold cellAt at this
    rw [List.getD_eq_getElem?_getD, List.getElem?_eq_getElem (by have : j < 16 := h2; omega)] at this
    rw [List.getElem_take, List.getElem_drop]
    exact this
theorem isPl_no {l : List UInt8} {i j : Nat} (hj : j < 16) (h : cellAt l (i + j) ≠ plainM[j]'hj) : isPl l i = false := by
  rw [Bool.eq_false_iff]
  intro hp
  unfold isPl at hp
  rw [Bool.and_eq_true, decide_eq_true_eq, decide_eq_true_eq] at hp
  apply h
  unfold cellAt
  rw [List.getD_eq_getElem?_getD, List.getElem?_eq_getElem (by omega)]
  have : ((l.drop i).take 16)[j]'(by rw [List.length_take, List.length_drop]; omega) = plainM[j]'hj := by simp only [hp.2]
  rw [List.getElem_take, List.getElem_drop] at this
  exact this

end Go.Proofs.YtlkiaeelnbjchaaDoor
