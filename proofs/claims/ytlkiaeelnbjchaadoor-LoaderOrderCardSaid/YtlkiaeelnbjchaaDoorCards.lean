/-
  DERIVED. GIVEN WITH THE SEED: THE CARDS: each row of YtlkiaeelnbjchaaDoorRows.lean that lists a variable, with what it lists TIED to the program's text (the seventh form; the later family's looks); each row that meets fmt, with fmt's text TOLD by the authors' own Lean function (tested against real Go, not proved from fmt's source: count such statements apart). THE CARD IS WHAT COUNTS. Prove the row's statement (the work); the ties are given (YtlkiaeelnbjchaaDoorTie.lean); close each card by the builder's one call (the guide's Derived/Test/ToyasCard.lean, 'card_holds'). Laid BY PROGRAM, IN A SANDBOX (cutbox-door.mjs). By AI agents, Wed Nov 11 2026. No macro, syntax, notation, axiom, sorry.
-/
import Derived.Test.YtlkiaeelnbjchaaDoorRows
import GoSem.ClaimSeven
namespace Go.Proofs.YtlkiaeelnbjchaaDoor
namespace Rows

/-- THE TIED CARD OF 'stelelaw27.LoaderOrder'. -/
def loaderOrderCard : Claim7 := { stood := { row := loaderOrderRow, standIns := [], harness := (true, "9fe8c822cfec49eeb8ea8efb2f58f481472b6a539decffa59ccc2a142a654c57"), looks := true }, kinds := [], alts := [], laidByText := true, laidKinds := [.data, .data, .data, .data, .sentinel, .sentinel, .pinned], laidTests := true, laidLooks := .later }
def LoaderOrderCardSaid : Prop := Claim7.holds Tryd.pinned (.plain (OpenSpec.ofChange loaderOrderSpec)) loaderOrderCard

/-- THE SECOND FORM's CARD OF 'stelelaw27.LoaderOrder'. -/
def loaderOrderUptoCard : Claim7 := { stood := { row := loaderOrderUptoRow, standIns := [], harness := (true, "9fe8c822cfec49eeb8ea8efb2f58f481472b6a539decffa59ccc2a142a654c57"), looks := true }, kinds := [], alts := [], laidByText := true, laidKinds := [.data, .data, .data, .data, .sentinel, .sentinel, .pinned], laidTests := true, laidLooks := .later }
def LoaderOrderUptoCardSaid : Prop := Claim7.holds Tryd.pinned (.plain (OpenSpec.upto loaderOrderSpec)) loaderOrderUptoCard
end Rows
end Go.Proofs.YtlkiaeelnbjchaaDoor
