/- Contracts of the reference: Check, Unreadable, ToBytes, number. (Layer 26) -/
import Derived.Test.YtlkiaeelnbjchaaDoorPfDec
import Derived.Lib.Bytealg
namespace Go.Proofs.YtlkiaeelnbjchaaDoor
open Go.RowKit
open Go.Lib hiding intOf
set_option linter.unusedVariables false

def cellC (c : UInt8) : Bool := [48, 49, 63].contains c
theorem cellC_int (c : UInt8) : cellC c = true ↔ ((c.toNat : Int) = 48 ∨ (c.toNat : Int) = 49 ∨ (c.toNat : Int) = 63) := by
  have h : ∀ c : Fin 256, cellC (UInt8.ofNat c.val) = true ↔ (((UInt8.ofNat c.val).toNat : Int) = 48 ∨ ((UInt8.ofNat c.val).toNat : Int) = 49 ∨ ((UInt8.ofNat c.val).toNat : Int) = 63) := by decide +kernel
  have := h ⟨c.toNat, c.toNat_lt⟩
  simpa using this
theorem cellsOk_bad {l : List UInt8} {i : Nat} (h : i < l.length) (h1 : cellC l[i] = false) : cellsOk l = false := by
  unfold cellsOk
  rw [List.all_eq_false]
  exact ⟨_, List.getElem_mem h, by rw [show ([48, 49, 63].contains l[i]) = cellC l[i] from rfl, h1]; decide⟩
theorem cellsOk_all {l : List UInt8} (h : ∀ i (h : i < l.length), cellC l[i] = true) : cellsOk l = true := by
  unfold cellsOk
  rw [List.all_eq_true]
  intro x hx
  obtain ⟨i, hi, rfl⟩ := List.getElem_of_mem hx
  exact h i hi

theorem count_snoc (l : List UInt8) (i : Nat) (h : i < l.length) : Lib.countByte (l.take (i + 1)) 63 = Lib.countByte (l.take i) 63 + if l[i] = 63 then 1 else 0 := by
  unfold Lib.countByte
  rw [List.take_succ_eq_append_getElem h, List.count_append]
  congr 1
  rw [List.count_singleton]
  by_cases e : l[i] = 63 <;> simp [e]

theorem digC_int (c : UInt8) : digC c = true ↔ (48 ≤ (c.toNat : Int) ∧ (c.toNat : Int) ≤ 57) := by
  unfold digC
  rw [Bool.and_eq_true, decide_eq_true_eq, decide_eq_true_eq]
  omega
/-- what number answers -/
def numZ (l : List UInt8) : Int := if digB l = true then (numD l : Int) else -1
theorem numD_snoc (l : List UInt8) (i : Nat) (h : i < l.length) : numD (l.take (i + 1)) = 10 * numD (l.take i) + (l[i].toNat - 48) := by
  unfold numD numF
  rw [List.take_succ_eq_append_getElem h, List.foldl_append]; rfl

end Go.Proofs.YtlkiaeelnbjchaaDoor
