/- Contract of the reference's Decode. (Layer 26; printed by bin/genrdec.py) -/
import Derived.Test.YtlkiaeelnbjchaaDoorPfRDec2
import Derived.WalkSpells
namespace Go.Proofs.YtlkiaeelnbjchaaDoor
open Go.RowKit
open Go.Lib hiding intOf
set_option linter.unusedVariables false
attribute [local simp] Slots Slot look Is Oper.looksAt Op.operands Call.operands

end Go.Proofs.YtlkiaeelnbjchaaDoor
