/-
  DERIVED. GIVEN WITH THE SEED: THE CARDS: each row of YtboafongjbdmoaaGreatDoorRows.lean that lists a variable, with what it lists TIED to the program's text (the seventh form; the later family's looks); each row that meets fmt, with fmt's text TOLD by the authors' own Lean function (tested against real Go, not proved from fmt's source: count such statements apart). THE CARD IS WHAT COUNTS. Prove the row's statement (the work); the ties are given (YtboafongjbdmoaaGreatDoorTie.lean); close each card by the builder's one call (the guide's Derived/Test/ToyasCard.lean, 'card_holds'). Laid BY PROGRAM, IN A SANDBOX (cutbox-door.mjs). By AI agents, Wed Nov 11 2026. No macro, syntax, notation, axiom, sorry.
-/
import Derived.Test.YtboafongjbdmoaaGreatDoorRows
import GoSem.ClaimSeven
namespace Go.Proofs.YtboafongjbdmoaaGreatDoor
namespace Rows

/-- THE TIED CARD OF 'stelelaw26.PlainframeDecode'. -/
def plainframeDecodeCard : Claim7 := { stood := { row := plainframeDecodeRow, standIns := [], harness := (true, "5231d584a704a03f410b0c8929fd30563fe98511eb7a78138c55144519c3fea3"), looks := true }, kinds := [], alts := [], laidByText := true, laidKinds := [.data, .data, .data, .data, .sentinel, .sentinel, .pinned], laidTests := true, laidLooks := .later }
def PlainframeDecodeCardSaid : Prop := Claim7.holds Tryz.pinned (.plain (OpenSpec.ofChange plainframeDecodeSpec)) plainframeDecodeCard

/-- THE SECOND FORM's CARD OF 'stelelaw26.PlainframeDecode'. -/
def plainframeDecodeUptoCard : Claim7 := { stood := { row := plainframeDecodeUptoRow, standIns := [], harness := (true, "5231d584a704a03f410b0c8929fd30563fe98511eb7a78138c55144519c3fea3"), looks := true }, kinds := [], alts := [], laidByText := true, laidKinds := [.data, .data, .data, .data, .sentinel, .sentinel, .pinned], laidTests := true, laidLooks := .later }
def PlainframeDecodeUptoCardSaid : Prop := Claim7.holds Tryz.pinned (.plain (OpenSpec.upto plainframeDecodeSpec)) plainframeDecodeUptoCard
end Rows
end Go.Proofs.YtboafongjbdmoaaGreatDoor
