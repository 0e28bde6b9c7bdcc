/- A world that holds the library's tables, for the witnesses of the rows of layer 38; the cell of a length's bound. -/
import Derived.Test.YtkbaappeakgnoaaDoorRows
import Derived.Test.YtkbaappeakgnoaaDoorPathWalk
import Derived.WalkKit
import Derived.ProofKit
import Derived.OpenShut
import Derived.Deep.DeepHandedRow
import Derived.Lib.LaidTab
namespace Go.Proofs.YtkbaappeakgnoaaDoor
open Go.ChangeShapes Go.WideShapes Go.ChangeAt Go.RowKit
set_option linter.unusedVariables false

def oneCell : DataW Unit → Value
  | .lit (.int k n) => .int k n
  | _ => undef
def rowCells : DataW Unit → List Value
  | .agg l => l.map oneCell
  | _ => []
def pairCells : DataW Unit → List Value
  | .agg l => l.flatMap rowCells
  | _ => []
def layAt (h : Array Obj) (b : Nat) (cs : Array Value) : Array Obj := h.modify b (fun o => match o with
  | .cells _ t frozen => .cells cs t frozen
  | o => o)
/-- the settled world with both tables laid -/
noncomputable def laidWorld (os : Os) : World :=
  { World.holding Tryd.prog os ⟨#[], #[], []⟩ with heap := layAt (layAt (World.holding Tryd.prog os ⟨#[], #[], []⟩).heap 1 (rowCells Rows.laid_unicode_utf8_first).toArray) 2 (pairCells Rows.laid_unicode_utf8_acceptRanges).toArray }
/-- the arguments of the witness: no holds, an entry of zeros, the date 0 -/
def arg0 : Array Value := #[.slice none 0 0, .agg #[.int .i64 0, .string ByteArray.empty, .slice none 0 0, .string ByteArray.empty, .int .i64 0, .string ByteArray.empty, .slice none 0 0], .int .i64 0]

theorem laid_met (os : Os) : laidMet Tryd.prog Rows.retentionResultUptoRow.laid ((laidWorld os).forCall (fun _ _ => 0) ⟨#[], arg0, []⟩).memory :=
  laidMet_of_run' 8 (by kernel_rfl) (by kernel_rfl)

theorem env_of {W : World} (h : W.ShapedOpen Tryd.prog) : Env W := Tryd.laysM219.s1_3 W h
end Go.Proofs.YtkbaappeakgnoaaDoor
