/- A world that holds the library's tables, for the witnesses of the rows of layer 18; what a world gives the walks. -/
import Derived.Test.YtimegcnpembhkaaDoorRows
import Derived.Test.YtimegcnpembhkaaDoorAsmLib
import Derived.WalkKit
import Derived.ProofKit
import Derived.OpenShut
import Derived.Deep.DeepHandedRow
import Derived.Lib.LaidTab
import Derived.Stop.LaidErr
namespace Go.Proofs.YtimegcnpembhkaaDoor
open Go.ChangeShapes Go.WideShapes Go.ChangeAt Go.RowKit
set_option linter.unusedVariables false

def oneCell : DataW Unit → Value
  | .lit (.int k n) => .int k n
  | _ => undef
def rowCells : DataW Unit → List Value
  | .agg l => l.map oneCell
  | _ => []
def pairCells : DataW Unit → List Value
  | .agg l => l.flatMap rowCells
  | _ => []
def layAt (h : Array Obj) (b : Nat) (cs : Array Value) : Array Obj := h.modify b (fun o => match o with
  | .cells _ t frozen => .cells cs t frozen
  | o => o)
/-- the settled world with the tables laid -/
noncomputable def laidWorld (os : Os) : World :=
  { World.holding Tryd.prog os ⟨#[], #[], []⟩ with heap := layAt (layAt (layAt (layAt (layAt (World.holding Tryd.prog os ⟨#[], #[], []⟩).heap 1 (rowCells Rows.laid_unicode_utf8_first).toArray) 2 (pairCells Rows.laid_unicode_utf8_acceptRanges).toArray)
    3 (rowCells Rows.laid_internal_strconv_uint64pow10).toArray) 4 (rowCells Rows.laid_math_bits_deBruijn32tab).toArray) 5 (rowCells Rows.laid_math_bits_deBruijn64tab).toArray }

theorem env_of {W : World} (h : W.ShapedOpen Tryd.prog) (hL : laidMet Tryd.prog [("math/bits.deBruijn32tab", Rows.laid_math_bits_deBruijn32tab), ("math/bits.deBruijn64tab", Rows.laid_math_bits_deBruijn64tab), ("internal/strconv.uint64pow10", Rows.laid_internal_strconv_uint64pow10), ("unicode/utf8.acceptRanges", Rows.laid_unicode_utf8_acceptRanges), ("unicode/utf8.first", Rows.laid_unicode_utf8_first)] W) : Env W :=
  ⟨Tryd.laysM219.s1_3 W h, Lib.tabIs_of_head (k := .u64) (zs := Lib.pow10Tab) (g := 3) (by kernel_rfl) (by kernel_rfl) Tryd.underlying143 Tryd.underlying87 (by kernel_rfl) (by kernel_rfl) hL.tail.tail⟩
end Go.Proofs.YtimegcnpembhkaaDoor
