/- The laws of layer 38 return true: RetentionResult. -/
import Derived.Test.YtkbaappeakgnoaaGreatDoorRetFine
import Derived.Test.YtkbaappeakgnoaaGreatDoorRetAwake
namespace Go.Proofs.YtkbaappeakgnoaaGreatDoor
open Go.RowKit Go.Lib
set_option linter.unusedVariables false
attribute [local simp] Slots Slot look Is Oper.looksAt Op.operands Call.operands

/-- a list of holds in new memory -/
def HL (l : List Hold) : AV := fun w v => ∃ A cap, v = .slice A l.length cap ∧ HLst w A l.length cap l
theorem Up.hl (l : List Hold) : Up (HL l) := fun _ _ _ hx ⟨A, cap, h, hl⟩ => ⟨A, cap, h, hl.ext hx⟩

theorem active_hl (date : Int) (A : Option Addr) (n cap : Nat) (l : List Hold) (w : World) (hl : HLst w A n cap l) (hr : n * 24 ≤ 140737488351232) :
    Calls Tryz.prog 12 #[.slice A n cap, .int .i64 date] w fun e w' => ∃ v, e = .returned v ∧ Ext w w' ∧ HL (l.filter (inForce date)) w' v := by
  refine (active_any date A n cap l w hl hr).mono ?_
  rintro e w' ⟨v, rfl, hown, hx⟩
  exact ⟨v, rfl, hx, HLst.of_own hown⟩


theorem short_of_good {l : List Hold} (h : ∀ i, i < l.length → good l i) : Short l := by
  intro x hx
  obtain ⟨i, hi, rfl⟩ := List.getElem_of_mem hx
  exact good_chk (h i hi) hi

end Go.Proofs.YtkbaappeakgnoaaGreatDoor
