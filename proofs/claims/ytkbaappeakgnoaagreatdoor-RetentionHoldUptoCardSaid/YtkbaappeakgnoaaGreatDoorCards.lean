/-
  DERIVED. GIVEN WITH THE SEED: THE CARDS: each row of YtkbaappeakgnoaaGreatDoorRows.lean that lists a variable, with what it lists TIED to the program's text (the seventh form; the later family's looks); each row that meets fmt, with fmt's text TOLD by the authors' own Lean function (tested against real Go, not proved from fmt's source: count such statements apart). THE CARD IS WHAT COUNTS. Prove the row's statement (the work); the ties are given (YtkbaappeakgnoaaGreatDoorTie.lean); close each card by the builder's one call (the guide's Derived/Test/ToyasCard.lean, 'card_holds'). Laid BY PROGRAM, IN A SANDBOX (cutbox-door.mjs). By AI agents, Wed Nov 11 2026. No macro, syntax, notation, axiom, sorry.
-/
import Derived.Test.YtkbaappeakgnoaaGreatDoorRows
import GoSem.ClaimSeven
namespace Go.Proofs.YtkbaappeakgnoaaGreatDoor
namespace Rows

/-- THE TIED CARD OF 'stelelaw38.RetentionHold'. -/
def retentionHoldCard : Claim7 := { stood := { row := retentionHoldRow, standIns := [], harness := (true, "9eda2570993ae61aa51a7f2e177a43a2063a0ad18d0d04c855ad85ed2af78016"), looks := true }, kinds := [], alts := [], laidByText := true, laidKinds := [.data, .data, .data, .data, .sentinel, .sentinel, .pinned], laidTests := true, laidLooks := .later }
def RetentionHoldCardSaid : Prop := Claim7.holds Tryz.pinned (.plain (OpenSpec.ofChange retentionHoldSpec)) retentionHoldCard

/-- THE TIED CARD OF 'stelelaw38.RetentionRelease'. -/
def retentionReleaseCard : Claim7 := { stood := { row := retentionReleaseRow, standIns := [], harness := (true, "9eda2570993ae61aa51a7f2e177a43a2063a0ad18d0d04c855ad85ed2af78016"), looks := true }, kinds := [], alts := [], laidByText := true, laidKinds := [.data, .data, .data, .data, .sentinel, .sentinel, .pinned], laidTests := true, laidLooks := .later }
def RetentionReleaseCardSaid : Prop := Claim7.holds Tryz.pinned (.plain (OpenSpec.ofChange retentionReleaseSpec)) retentionReleaseCard

/-- THE TIED CARD OF 'stelelaw38.RetentionNeutral'. -/
def retentionNeutralCard : Claim7 := { stood := { row := retentionNeutralRow, standIns := [], harness := (true, "9eda2570993ae61aa51a7f2e177a43a2063a0ad18d0d04c855ad85ed2af78016"), looks := true }, kinds := [], alts := [], laidByText := true, laidKinds := [.data, .data, .data, .data, .sentinel, .sentinel, .pinned], laidTests := true, laidLooks := .later }
def RetentionNeutralCardSaid : Prop := Claim7.holds Tryz.pinned (.plain (OpenSpec.ofChange retentionNeutralSpec)) retentionNeutralCard

/-- THE SECOND FORM's CARD OF 'stelelaw38.RetentionHold'. -/
def retentionHoldUptoCard : Claim7 := { stood := { row := retentionHoldUptoRow, standIns := [], harness := (true, "9eda2570993ae61aa51a7f2e177a43a2063a0ad18d0d04c855ad85ed2af78016"), looks := true }, kinds := [], alts := [], laidByText := true, laidKinds := [.data, .data, .data, .data, .sentinel, .sentinel, .pinned], laidTests := true, laidLooks := .later }
def RetentionHoldUptoCardSaid : Prop := Claim7.holds Tryz.pinned (.plain (OpenSpec.upto retentionHoldSpec)) retentionHoldUptoCard

/-- THE SECOND FORM's CARD OF 'stelelaw38.RetentionRelease'. -/
def retentionReleaseUptoCard : Claim7 := { stood := { row := retentionReleaseUptoRow, standIns := [], harness := (true, "9eda2570993ae61aa51a7f2e177a43a2063a0ad18d0d04c855ad85ed2af78016"), looks := true }, kinds := [], alts := [], laidByText := true, laidKinds := [.data, .data, .data, .data, .sentinel, .sentinel, .pinned], laidTests := true, laidLooks := .later }
def RetentionReleaseUptoCardSaid : Prop := Claim7.holds Tryz.pinned (.plain (OpenSpec.upto retentionReleaseSpec)) retentionReleaseUptoCard

/-- THE SECOND FORM's CARD OF 'stelelaw38.RetentionNeutral'. -/
def retentionNeutralUptoCard : Claim7 := { stood := { row := retentionNeutralUptoRow, standIns := [], harness := (true, "9eda2570993ae61aa51a7f2e177a43a2063a0ad18d0d04c855ad85ed2af78016"), looks := true }, kinds := [], alts := [], laidByText := true, laidKinds := [.data, .data, .data, .data, .sentinel, .sentinel, .pinned], laidTests := true, laidLooks := .later }
def RetentionNeutralUptoCardSaid : Prop := Claim7.holds Tryz.pinned (.plain (OpenSpec.upto retentionNeutralSpec)) retentionNeutralUptoCard
end Rows
end Go.Proofs.YtkbaappeakgnoaaGreatDoor
