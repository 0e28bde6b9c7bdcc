/-
  DERIVED. GIVEN WITH THE SEED: THE CARDS: each row of YtkbaappeakgnoaaDoorRows.lean that lists a variable, with what it lists TIED to the program's text (the seventh form; the later family's looks); each row that meets fmt, with fmt's text TOLD by the authors' own Lean function (tested against real Go, not proved from fmt's source: count such statements apart). THE CARD IS WHAT COUNTS. Prove the row's statement (the work); the ties are given (YtkbaappeakgnoaaDoorTie.lean); close each card by the builder's one call (the guide's Derived/Test/ToyasCard.lean, 'card_holds'). Laid BY PROGRAM, IN A SANDBOX (cutbox-door.mjs). By AI agents, Wed Nov 11 2026. No macro, syntax, notation, axiom, sorry.
-/
import Derived.Test.YtkbaappeakgnoaaDoorRows
import GoSem.ClaimSeven
namespace Go.Proofs.YtkbaappeakgnoaaDoor
namespace Rows

/-- THE TIED CARD OF 'stelelaw38.RetentionResult'. -/
def retentionResultCard : Claim7 := { stood := { row := retentionResultRow, standIns := [], harness := (true, "30bf946473f39311ecfa3edbd37d9fa1e6ba4772af95af69aed3b8db256cfdbb"), looks := false }, kinds := [], alts := [], laidByText := true, laidKinds := [.data, .pinned], laidTests := true, laidLooks := .later }
def RetentionResultCardSaid : Prop := Claim7.holds Tryd.pinned (.plain (OpenSpec.ofChange retentionResultSpec)) retentionResultCard

/-- THE TIED CARD OF 'stelelaw38.RetentionMonotonicity'. -/
def retentionMonotonicityCard : Claim7 := { stood := { row := retentionMonotonicityRow, standIns := [], harness := (true, "30bf946473f39311ecfa3edbd37d9fa1e6ba4772af95af69aed3b8db256cfdbb"), looks := false }, kinds := [], alts := [], laidByText := true, laidKinds := [.data, .pinned], laidTests := true, laidLooks := .later }
def RetentionMonotonicityCardSaid : Prop := Claim7.holds Tryd.pinned (.plain (OpenSpec.ofChange retentionMonotonicitySpec)) retentionMonotonicityCard

/-- THE TIED CARD OF 'stelelaw38.RetentionUnion'. -/
def retentionUnionCard : Claim7 := { stood := { row := retentionUnionRow, standIns := [], harness := (true, "30bf946473f39311ecfa3edbd37d9fa1e6ba4772af95af69aed3b8db256cfdbb"), looks := false }, kinds := [], alts := [], laidByText := true, laidKinds := [.data, .pinned], laidTests := true, laidLooks := .later }
def RetentionUnionCardSaid : Prop := Claim7.holds Tryd.pinned (.plain (OpenSpec.ofChange retentionUnionSpec)) retentionUnionCard

/-- THE TIED CARD OF 'stelelaw38.RetentionSubtree'. -/
def retentionSubtreeCard : Claim7 := { stood := { row := retentionSubtreeRow, standIns := [], harness := (true, "30bf946473f39311ecfa3edbd37d9fa1e6ba4772af95af69aed3b8db256cfdbb"), looks := false }, kinds := [], alts := [], laidByText := true, laidKinds := [.data, .pinned], laidTests := true, laidLooks := .later }
def RetentionSubtreeCardSaid : Prop := Claim7.holds Tryd.pinned (.plain (OpenSpec.ofChange retentionSubtreeSpec)) retentionSubtreeCard

/-- THE SECOND FORM's CARD OF 'stelelaw38.RetentionResult'. -/
def retentionResultUptoCard : Claim7 := { stood := { row := retentionResultUptoRow, standIns := [], harness := (true, "30bf946473f39311ecfa3edbd37d9fa1e6ba4772af95af69aed3b8db256cfdbb"), looks := false }, kinds := [], alts := [], laidByText := true, laidKinds := [.data, .pinned], laidTests := true, laidLooks := .later }
def RetentionResultUptoCardSaid : Prop := Claim7.holds Tryd.pinned (.plain (OpenSpec.upto retentionResultSpec)) retentionResultUptoCard

/-- THE SECOND FORM's CARD OF 'stelelaw38.RetentionMonotonicity'. -/
def retentionMonotonicityUptoCard : Claim7 := { stood := { row := retentionMonotonicityUptoRow, standIns := [], harness := (true, "30bf946473f39311ecfa3edbd37d9fa1e6ba4772af95af69aed3b8db256cfdbb"), looks := false }, kinds := [], alts := [], laidByText := true, laidKinds := [.data, .pinned], laidTests := true, laidLooks := .later }
def RetentionMonotonicityUptoCardSaid : Prop := Claim7.holds Tryd.pinned (.plain (OpenSpec.upto retentionMonotonicitySpec)) retentionMonotonicityUptoCard

/-- THE SECOND FORM's CARD OF 'stelelaw38.RetentionUnion'. -/
def retentionUnionUptoCard : Claim7 := { stood := { row := retentionUnionUptoRow, standIns := [], harness := (true, "30bf946473f39311ecfa3edbd37d9fa1e6ba4772af95af69aed3b8db256cfdbb"), looks := false }, kinds := [], alts := [], laidByText := true, laidKinds := [.data, .pinned], laidTests := true, laidLooks := .later }
def RetentionUnionUptoCardSaid : Prop := Claim7.holds Tryd.pinned (.plain (OpenSpec.upto retentionUnionSpec)) retentionUnionUptoCard

/-- THE SECOND FORM's CARD OF 'stelelaw38.RetentionSubtree'. -/
def retentionSubtreeUptoCard : Claim7 := { stood := { row := retentionSubtreeUptoRow, standIns := [], harness := (true, "30bf946473f39311ecfa3edbd37d9fa1e6ba4772af95af69aed3b8db256cfdbb"), looks := false }, kinds := [], alts := [], laidByText := true, laidKinds := [.data, .pinned], laidTests := true, laidLooks := .later }
def RetentionSubtreeUptoCardSaid : Prop := Claim7.holds Tryd.pinned (.plain (OpenSpec.upto retentionSubtreeSpec)) retentionSubtreeUptoCard
end Rows
end Go.Proofs.YtkbaappeakgnoaaDoor
