/- Plain laws of holds: what is forbidden on a date is forbidden on all earlier dates; an entry is forbidden exactly if one of the holds alone forbids it. -/
import Derived.Test.YtkbaappeakgnoaaDoorRetWalk
namespace Go.Proofs.YtkbaappeakgnoaaDoor
open Go.RowKit Go.Lib
set_option linter.unusedVariables false

theorem inForce_anti {d e : Int} (h : e ≤ d) (x : Hold) (hx : inForce d x = true) : inForce e x = true := by
  unfold inForce at *
  rw [decide_eq_true_iff] at *
  omega
theorem heldB_anti {d e : Int} (h : e ≤ d) {l : List Hold} {p : ByteArray} (hh : heldB l p d = true) : heldB l p e = true := by
  unfold heldB at *
  rw [List.any_eq_true] at *
  obtain ⟨x, hx, hb⟩ := hh
  rw [Bool.and_eq_true] at hb
  exact ⟨x, hx, by rw [Bool.and_eq_true]; exact ⟨inForce_anti h x hb.1, hb.2⟩⟩
theorem belowB_anti {d e : Int} (h : e ≤ d) {l : List Hold} {p : ByteArray} (hh : belowB l p d = true) : belowB l p e = true := by
  unfold belowB at *
  rw [List.any_eq_true] at *
  obtain ⟨x, hx, hb⟩ := hh
  rw [Bool.and_eq_true] at hb
  exact ⟨x, hx, by rw [Bool.and_eq_true]; exact ⟨inForce_anti h x hb.1, hb.2⟩⟩
/-- what is forbidden on a date is forbidden on all earlier dates -/
theorem allowZ_anti {d e : Int} (h : e ≤ d) (l : List Hold) (kind : Int) (p : ByteArray) : allowZ l kind p d = 0 ∨ allowZ l kind p e = 15 := by
  unfold allowZ
  by_cases hk : kind = 1 ∨ kind = 2 ∨ kind = 3
  · rw [if_pos hk, if_pos hk]
    cases hh : heldB l p d
    · exact Or.inl rfl
    · rw [heldB_anti h hh]
      exact Or.inr rfl
  · rw [if_neg hk, if_neg hk]
    by_cases h4 : kind = 4
    · rw [if_pos h4, if_pos h4]
      cases hh : heldB l p d
      · cases hb : belowB l p d
        · exact Or.inl rfl
        · refine Or.inr ?_
          rw [belowB_anti h hb, Bool.or_true]
          rfl
      · rw [heldB_anti h hh]
        exact Or.inr rfl
    · rw [if_neg h4]
      exact Or.inl rfl
/-- one hold alone -/
theorem heldB_cons (h : Hold) (l : List Hold) (p : ByteArray) (d : Int) : heldB (h :: l) p d = (heldB [h] p d || heldB l p d) := by
  simp [heldB]
theorem belowB_cons (h : Hold) (l : List Hold) (p : ByteArray) (d : Int) : belowB (h :: l) p d = (belowB [h] p d || belowB l p d) := by
  simp [belowB]
theorem heldB_any (l : List Hold) (p : ByteArray) (d : Int) : heldB l p d = l.any fun h => heldB [h] p d := by
  induction l with
  | nil => rfl
  | cons h l ih => rw [heldB_cons, ih, List.any_cons]
/-- an entry is forbidden exactly if one of the holds alone forbids it -/
theorem allowZ_any (l : List Hold) (kind : Int) (p : ByteArray) (d : Int) : (allowZ l kind p d == 15) = l.any fun h => allowZ [h] kind p d == 15 := by
  unfold allowZ
  by_cases hk : kind = 1 ∨ kind = 2 ∨ kind = 3
  · simp only [if_pos hk]
    induction l with
    | nil => simp [heldB]
    | cons h l ih =>
      rw [heldB_cons, List.any_cons, ← ih]
      cases heldB [h] p d <;> cases heldB l p d <;> rfl
  · simp only [if_neg hk]
    by_cases h4 : kind = 4
    · simp only [if_pos h4]
      induction l with
      | nil => simp [heldB, belowB]
      | cons h l ih =>
        rw [heldB_cons, belowB_cons, List.any_cons, ← ih]
        cases heldB [h] p d <;> cases heldB l p d <;> cases belowB [h] p d <;> cases belowB l p d <;> rfl
    · simp only [if_neg h4]
      induction l with
      | nil => rfl
      | cons h l ih => rw [List.any_cons, ← ih]; rfl
end Go.Proofs.YtkbaappeakgnoaaDoor
