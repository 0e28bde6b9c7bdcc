/- A world that holds the library's tables and errors, for the witnesses of the rows of layer 52; what a world gives the walks. -/
import Derived.Test.YthanegmaipckdaaDoorRows
import Derived.Test.YthanegmaipckdaaDoorBitDecode
import Derived.WalkKit
import Derived.ProofKit
import Derived.OpenShut
import Derived.Deep.DeepHandedRow
import Derived.Lib.LaidTab
import Derived.Stop.LaidErr
namespace Go.Proofs.YthanegmaipckdaaDoor
open Go.ChangeShapes Go.WideShapes Go.ChangeAt Go.RowKit
set_option linter.unusedVariables false

def oneCell : DataW Unit → Value
  | .lit (.int k n) => .int k n
  | _ => undef
def rowCells : DataW Unit → List Value
  | .agg l => l.map oneCell
  | _ => []
def pairCells : DataW Unit → List Value
  | .agg l => l.flatMap rowCells
  | _ => []
def layAt (h : Array Obj) (b : Nat) (cs : Array Value) : Array Obj := h.modify b (fun o => match o with
  | .cells _ t frozen => .cells cs t frozen
  | o => o)
noncomputable def low : Nat := (World.holding Tryd.prog default ⟨#[], #[], []⟩).heap.size
abbrev rangeS : ByteArray := { data := #[118, 97, 108, 117, 101, 32, 111, 117, 116, 32, 111, 102, 32, 114, 97, 110, 103, 101] }
abbrev syntaxS : ByteArray := { data := #[105, 110, 118, 97, 108, 105, 100, 32, 115, 121, 110, 116, 97, 120] }
/-- the settled world with all tables laid, and the two errors -/
noncomputable def laidWorld (os : Os) : World :=
  let w0 := World.holding Tryd.prog os ⟨#[.cells #[.string rangeS] 120, .cells #[.string syntaxS] 120], #[], []⟩
  { w0 with heap := layAt (layAt (layAt (layAt (layAt (layAt (layAt w0.heap 4 (rowCells Rows.laid_unicode_utf8_first).toArray) 5 (pairCells Rows.laid_unicode_utf8_acceptRanges).toArray)
    3 (rowCells Rows.laid_internal_strconv_uint64pow10).toArray) 6 (rowCells Rows.laid_math_bits_deBruijn32tab).toArray) 7 (rowCells Rows.laid_math_bits_deBruijn64tab).toArray)
    2 #[.iface 118 (.pointer (some ⟨low, 0, none⟩))]) 1 #[.iface 118 (.pointer (some ⟨low + 1, 0, none⟩))] }

abbrev laidL : List (String × DataW Unit) := [("math/bits.deBruijn32tab", Rows.laid_math_bits_deBruijn32tab), ("math/bits.deBruijn64tab", Rows.laid_math_bits_deBruijn64tab), ("internal/strconv.uint64pow10", Rows.laid_internal_strconv_uint64pow10), ("unicode/utf8.acceptRanges", Rows.laid_unicode_utf8_acceptRanges), ("strconv.ErrRange", Rows.laid_strconv_ErrRange), ("strconv.ErrSyntax", Rows.laid_strconv_ErrSyntax), ("unicode/utf8.first", Rows.laid_unicode_utf8_first)]

theorem env_of {W : World} (h : W.ShapedOpen Tryd.prog) (hL : laidMet Tryd.prog laidL W) : Env W :=
  ⟨Tryd.laysM219.s1_3 W h, Lib.tabIs_of_head (k := .u64) (zs := Lib.pow10Tab) (g := 3) (by kernel_rfl) (by kernel_rfl) Tryd.underlying113 Tryd.underlying86 (by kernel_rfl) (by kernel_rfl) hL.tail.tail⟩
theorem row_err (u : TypeId) (h : Tryd.prog.typeName? 3 u = some "*errors.errorString") : u = 118 :=
  typeName_ptr_named (nm := "errors.errorString") (by kernel_rfl) (by kernel_rfl) (by decide) u h
theorem sy_of {W : World} (hL : laidMet Tryd.prog laidL W) : Sy W := by
  obtain ⟨a, s, hv, _⟩ := laid_sentinel (g := 1) (ti := 51) (ts := 9) hL.tail.tail.tail.tail.tail (by kernel_rfl) (by kernel_rfl) Tryd.underlying51 row_err Tryd.underlying118 Tryd.underlying120 rfl rfl Tryd.underlying9 (by kernel_rfl) (by kernel_rfl)
  exact ⟨_, by simpa using World.var?_cell (by kernel_rfl : Tryd.prog.globalNamed "strconv.ErrSyntax" = some 1) hv 0, Or.inr ⟨_, _, rfl⟩⟩
end Go.Proofs.YthanegmaipckdaaDoor
