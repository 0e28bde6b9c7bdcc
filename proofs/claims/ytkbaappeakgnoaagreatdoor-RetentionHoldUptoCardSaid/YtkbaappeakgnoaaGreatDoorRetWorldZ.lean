/- A world that holds the library's tables, for the witnesses of the rows of layer 38; the cell of a length's bound. -/
import Derived.Test.YtkbaappeakgnoaaGreatDoorRows
import Derived.Test.YtkbaappeakgnoaaGreatDoorPathWalk
import Derived.WalkKit
import Derived.ProofKit
import Derived.OpenShut
import Derived.Deep.DeepHandedRow
import Derived.Lib.LaidTab
namespace Go.Proofs.YtkbaappeakgnoaaGreatDoor
open Go.ChangeShapes Go.WideShapes Go.ChangeAt Go.RowKit
set_option linter.unusedVariables false

def oneCell : DataW Unit → Value
  | .lit (.int k n) => .int k n
  | _ => undef
def rowCells : DataW Unit → List Value
  | .agg l => l.map oneCell
  | _ => []
def pairCells : DataW Unit → List Value
  | .agg l => l.flatMap rowCells
  | _ => []
def layAt (h : Array Obj) (b : Nat) (cs : Array Value) : Array Obj := h.modify b (fun o => match o with
  | .cells _ t frozen => .cells cs t frozen
  | o => o)
/-- the settled world's first free block -/
noncomputable def low : Nat := (World.holding Tryz.prog default ⟨#[], #[], []⟩).heap.size
abbrev rangeS : ByteArray := { data := #[118, 97, 108, 117, 101, 32, 111, 117, 116, 32, 111, 102, 32, 114, 97, 110, 103, 101] }
abbrev syntaxS : ByteArray := { data := #[105, 110, 118, 97, 108, 105, 100, 32, 115, 121, 110, 116, 97, 120] }
/-- the settled world with all tables laid, and the two errors -/
noncomputable def laidWorld (os : Os) : World :=
  let w0 := World.holding Tryz.prog os ⟨#[.cells #[.string rangeS] 123, .cells #[.string syntaxS] 123], #[], []⟩
  { w0 with heap := layAt (layAt (layAt (layAt (layAt (layAt (layAt w0.heap 2 (rowCells Rows.laid_unicode_utf8_first).toArray) 3 (pairCells Rows.laid_unicode_utf8_acceptRanges).toArray)
    5 (rowCells Rows.laid_internal_strconv_uint64pow10).toArray) 6 (rowCells Rows.laid_math_bits_deBruijn32tab).toArray) 7 (rowCells Rows.laid_math_bits_deBruijn64tab).toArray)
    1 #[.iface 121 (.pointer (some ⟨low, 0, none⟩))]) 0 #[.iface 121 (.pointer (some ⟨low + 1, 0, none⟩))] }
/-- the arguments of the witness: no holds, an entry of zeros, the date 0 -/
def arg0 : Array Value := #[.slice none 0 0, .agg #[.int .i64 0, .string ByteArray.empty, .slice none 0 0, .string ByteArray.empty, .int .i64 0, .string ByteArray.empty, .slice none 0 0], .int .i64 0]

theorem laid_met (os : Os) : laidMet Tryz.prog Rows.retentionNeutralUptoRow.laid ((laidWorld os).forCall (fun _ _ => 0) ⟨#[], arg0, []⟩).memory :=
  laidMet_of_run' 8 (by kernel_rfl) (by kernel_rfl)

theorem env_of {W : World} (h : W.ShapedOpen Tryz.prog) : Env W := Tryz.laysM219.s1_3 W h
end Go.Proofs.YtkbaappeakgnoaaGreatDoor
