/- The contracts of the reference of layer 38: Held, Allowed, Active, Same, Valid. -/
import Derived.Test.YtkbaappeakgnoaaGreatDoorRetWalk
import Derived.Laws.StructEq
namespace Go.Proofs.YtkbaappeakgnoaaGreatDoor
open Go.RowKit Go.Lib
set_option linter.unusedVariables false
attribute [local simp] Slots Slot look Is Oper.looksAt Op.operands Call.operands


end Go.Proofs.YtkbaappeakgnoaaGreatDoor
