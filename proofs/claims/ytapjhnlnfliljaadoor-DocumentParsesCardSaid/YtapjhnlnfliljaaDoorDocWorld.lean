/- A world that holds the library's tables and errors, for the witnesses of the rows of layer 49; what a world gives the walks. -/
import Derived.Test.YtapjhnlnfliljaaDoorRows
import Derived.Test.YtapjhnlnfliljaaDoorDocLib
import Derived.WalkKit
import Derived.ProofKit
import Derived.OpenShut
import Derived.Deep.DeepHandedRow
import Derived.Lib.LaidTab
import Derived.Stop.LaidErr
namespace Go.Proofs.YtapjhnlnfliljaaDoor
open Go.ChangeShapes Go.WideShapes Go.ChangeAt Go.RowKit
set_option linter.unusedVariables false

def oneCell : DataW Unit → Value
  | .lit (.int k n) => .int k n
  | _ => undef
def rowCells : DataW Unit → List Value
  | .agg l => l.map oneCell
  | _ => []
def pairCells : DataW Unit → List Value
  | .agg l => l.flatMap rowCells
  | _ => []
def layAt (h : Array Obj) (b : Nat) (cs : Array Value) : Array Obj := h.modify b (fun o => match o with
  | .cells _ t frozen => .cells cs t frozen
  | o => o)
noncomputable def low : Nat := (World.holding Tryd.prog default ⟨#[], #[], []⟩).heap.size
abbrev rangeS : ByteArray := { data := #[118, 97, 108, 117, 101, 32, 111, 117, 116, 32, 111, 102, 32, 114, 97, 110, 103, 101] }
abbrev syntaxS : ByteArray := { data := #[105, 110, 118, 97, 108, 105, 100, 32, 115, 121, 110, 116, 97, 120] }
/-- the settled world with all tables laid, and the two errors -/
noncomputable def laidWorld (os : Os) : World :=
  let w0 := World.holding Tryd.prog os ⟨#[.cells #[.string rangeS] 140, .cells #[.string syntaxS] 140], #[], []⟩
  { w0 with heap := layAt (layAt (layAt (layAt (layAt (layAt (layAt w0.heap 1 (rowCells Rows.laid_unicode_utf8_first).toArray) 2 (pairCells Rows.laid_unicode_utf8_acceptRanges).toArray)
    5 (rowCells Rows.laid_internal_strconv_uint64pow10).toArray) 6 (rowCells Rows.laid_math_bits_deBruijn32tab).toArray) 7 (rowCells Rows.laid_math_bits_deBruijn64tab).toArray)
    4 #[.iface 138 (.pointer (some ⟨low, 0, none⟩))]) 3 #[.iface 138 (.pointer (some ⟨low + 1, 0, none⟩))] }

abbrev laidL : List (String × DataW Unit) := [("math/bits.deBruijn32tab", Rows.laid_math_bits_deBruijn32tab), ("math/bits.deBruijn64tab", Rows.laid_math_bits_deBruijn64tab), ("internal/strconv.uint64pow10", Rows.laid_internal_strconv_uint64pow10), ("unicode/utf8.acceptRanges", Rows.laid_unicode_utf8_acceptRanges), ("strconv.ErrRange", Rows.laid_strconv_ErrRange), ("strconv.ErrSyntax", Rows.laid_strconv_ErrSyntax), ("unicode/utf8.first", Rows.laid_unicode_utf8_first)]

theorem env_of {W : World} (h : W.ShapedOpen Tryd.prog) (hL : laidMet Tryd.prog laidL W) : Env W :=
  ⟨Tryd.laysM219.s1_3 W h, Lib.tabIs_of_head (k := .u64) (zs := Lib.pow10Tab) (g := 5) (by kernel_rfl) (by kernel_rfl) Tryd.underlying132 Tryd.underlying83 (by kernel_rfl) (by kernel_rfl) hL.tail.tail⟩
theorem row_err (u : TypeId) (h : Tryd.prog.typeName? 3 u = some "*errors.errorString") : u = 138 :=
  typeName_ptr_named (nm := "errors.errorString") (by kernel_rfl) (by kernel_rfl) (by decide) u h
theorem sy_of {W : World} (hL : laidMet Tryd.prog laidL W) : Sy W := by
  obtain ⟨a, s, hv, _⟩ := laid_sentinel (g := 3) (ti := 58) (ts := 9) hL.tail.tail.tail.tail.tail (by kernel_rfl) (by kernel_rfl) Tryd.underlying58 row_err Tryd.underlying138 Tryd.underlying140 rfl rfl Tryd.underlying9 (by kernel_rfl) (by kernel_rfl)
  obtain ⟨a2, s2, hv2, _⟩ := laid_sentinel (g := 4) (ti := 58) (ts := 9) hL.tail.tail.tail.tail (by kernel_rfl) (by kernel_rfl) Tryd.underlying58 row_err Tryd.underlying138 Tryd.underlying140 rfl rfl Tryd.underlying9 (by kernel_rfl) (by kernel_rfl)
  exact ⟨⟨_, by simpa using World.var?_cell (by kernel_rfl : Tryd.prog.globalNamed "strconv.ErrSyntax" = some 3) hv 0, Or.inr ⟨_, _, rfl⟩⟩, ⟨_, by simpa using World.var?_cell (by kernel_rfl : Tryd.prog.globalNamed "strconv.ErrRange" = some 4) hv2 0, Or.inr ⟨_, _, rfl⟩⟩⟩
end Go.Proofs.YtapjhnlnfliljaaDoor
