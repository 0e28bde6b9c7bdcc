/-
  DERIVED. GIVEN WITH THE SEED: THE CARDS: each row of YtboafongjbdmoaaDoorRows.lean that lists a variable, with what it lists TIED to the program's text (the seventh form; the later family's looks); each row that meets fmt, with fmt's text TOLD by the authors' own Lean function (tested against real Go, not proved from fmt's source: count such statements apart). THE CARD IS WHAT COUNTS. Prove the row's statement (the work); the ties are given (YtboafongjbdmoaaDoorTie.lean); close each card by the builder's one call (the guide's Derived/Test/ToyasCard.lean, 'card_holds'). Laid BY PROGRAM, IN A SANDBOX (cutbox-door.mjs). By AI agents, Wed Nov 11 2026. No macro, syntax, notation, axiom, sorry.
-/
import Derived.Test.YtboafongjbdmoaaDoorRows
import GoSem.ClaimSeven
namespace Go.Proofs.YtboafongjbdmoaaDoor
namespace Rows

/-- THE TIED CARD OF 'stelelaw26.PlainframeSplit'. -/
def plainframeSplitCard : Claim7 := { stood := { row := plainframeSplitRow, standIns := [], harness := (true, "7349df9ac49148713f75243278902495ab4487486922c74c4eb236aa80df8f3c"), looks := true }, kinds := [], alts := [], laidByText := true, laidKinds := [.data, .data, .data, .data, .sentinel, .sentinel, .pinned], laidTests := true, laidLooks := .later }
def PlainframeSplitCardSaid : Prop := Claim7.holds Tryd.pinned (.plain (OpenSpec.ofChange plainframeSplitSpec)) plainframeSplitCard

/-- THE TIED CARD OF 'stelelaw26.PlainframeEncode'. -/
def plainframeEncodeCard : Claim7 := { stood := { row := plainframeEncodeRow, standIns := [], harness := (true, "7349df9ac49148713f75243278902495ab4487486922c74c4eb236aa80df8f3c"), looks := true }, kinds := [], alts := [], laidByText := true, laidKinds := [.data, .data, .data, .data, .sentinel, .sentinel, .pinned], laidTests := true, laidLooks := .later }
def PlainframeEncodeCardSaid : Prop := Claim7.holds Tryd.pinned (.plain (OpenSpec.ofChange plainframeEncodeSpec)) plainframeEncodeCard

/-- THE TIED CARD OF 'stelelaw26.PlainframeConcatenation'. -/
def plainframeConcatenationCard : Claim7 := { stood := { row := plainframeConcatenationRow, standIns := [], harness := (true, "7349df9ac49148713f75243278902495ab4487486922c74c4eb236aa80df8f3c"), looks := true }, kinds := [], alts := [], laidByText := true, laidKinds := [.data, .data, .data, .data, .sentinel, .sentinel, .pinned], laidTests := true, laidLooks := .later }
def PlainframeConcatenationCardSaid : Prop := Claim7.holds Tryd.pinned (.plain (OpenSpec.ofChange plainframeConcatenationSpec)) plainframeConcatenationCard

/-- THE TIED CARD OF 'stelelaw26.PlainframeText'. -/
def plainframeTextCard : Claim7 := { stood := { row := plainframeTextRow, standIns := [], harness := (true, "7349df9ac49148713f75243278902495ab4487486922c74c4eb236aa80df8f3c"), looks := true }, kinds := [], alts := [], laidByText := true, laidKinds := [.data, .data, .data, .data, .sentinel, .sentinel, .pinned], laidTests := true, laidLooks := .later }
def PlainframeTextCardSaid : Prop := Claim7.holds Tryd.pinned (.plain (OpenSpec.ofChange plainframeTextSpec)) plainframeTextCard

/-- THE TIED CARD OF 'stelelaw26.PlainframeBurst'. -/
def plainframeBurstCard : Claim7 := { stood := { row := plainframeBurstRow, standIns := [], harness := (true, "7349df9ac49148713f75243278902495ab4487486922c74c4eb236aa80df8f3c"), looks := true }, kinds := [], alts := [], laidByText := true, laidKinds := [.data, .data, .data, .data, .sentinel, .sentinel, .pinned], laidTests := true, laidLooks := .later }
def PlainframeBurstCardSaid : Prop := Claim7.holds Tryd.pinned (.plain (OpenSpec.ofChange plainframeBurstSpec)) plainframeBurstCard

/-- THE TIED CARD OF 'stelelaw26.PlainframeRoundTrip'. -/
def plainframeRoundTripCard : Claim7 := { stood := { row := plainframeRoundTripRow, standIns := [], harness := (true, "7349df9ac49148713f75243278902495ab4487486922c74c4eb236aa80df8f3c"), looks := true }, kinds := [], alts := [], laidByText := true, laidKinds := [.data, .data, .data, .data, .sentinel, .sentinel, .pinned], laidTests := true, laidLooks := .later }
def PlainframeRoundTripCardSaid : Prop := Claim7.holds Tryd.pinned (.plain (OpenSpec.ofChange plainframeRoundTripSpec)) plainframeRoundTripCard

/-- THE TIED CARD OF 'stelelaw26.PlainframeDamage'. -/
def plainframeDamageCard : Claim7 := { stood := { row := plainframeDamageRow, standIns := [], harness := (true, "7349df9ac49148713f75243278902495ab4487486922c74c4eb236aa80df8f3c"), looks := true }, kinds := [], alts := [], laidByText := true, laidKinds := [.data, .data, .data, .data, .sentinel, .sentinel, .pinned], laidTests := true, laidLooks := .later }
def PlainframeDamageCardSaid : Prop := Claim7.holds Tryd.pinned (.plain (OpenSpec.ofChange plainframeDamageSpec)) plainframeDamageCard

/-- THE SECOND FORM's CARD OF 'stelelaw26.PlainframeSplit'. -/
def plainframeSplitUptoCard : Claim7 := { stood := { row := plainframeSplitUptoRow, standIns := [], harness := (true, "7349df9ac49148713f75243278902495ab4487486922c74c4eb236aa80df8f3c"), looks := true }, kinds := [], alts := [], laidByText := true, laidKinds := [.data, .data, .data, .data, .sentinel, .sentinel, .pinned], laidTests := true, laidLooks := .later }
def PlainframeSplitUptoCardSaid : Prop := Claim7.holds Tryd.pinned (.plain (OpenSpec.upto plainframeSplitSpec)) plainframeSplitUptoCard

/-- THE SECOND FORM's CARD OF 'stelelaw26.PlainframeEncode'. -/
def plainframeEncodeUptoCard : Claim7 := { stood := { row := plainframeEncodeUptoRow, standIns := [], harness := (true, "7349df9ac49148713f75243278902495ab4487486922c74c4eb236aa80df8f3c"), looks := true }, kinds := [], alts := [], laidByText := true, laidKinds := [.data, .data, .data, .data, .sentinel, .sentinel, .pinned], laidTests := true, laidLooks := .later }
def PlainframeEncodeUptoCardSaid : Prop := Claim7.holds Tryd.pinned (.plain (OpenSpec.upto plainframeEncodeSpec)) plainframeEncodeUptoCard

/-- THE SECOND FORM's CARD OF 'stelelaw26.PlainframeConcatenation'. -/
def plainframeConcatenationUptoCard : Claim7 := { stood := { row := plainframeConcatenationUptoRow, standIns := [], harness := (true, "7349df9ac49148713f75243278902495ab4487486922c74c4eb236aa80df8f3c"), looks := true }, kinds := [], alts := [], laidByText := true, laidKinds := [.data, .data, .data, .data, .sentinel, .sentinel, .pinned], laidTests := true, laidLooks := .later }
def PlainframeConcatenationUptoCardSaid : Prop := Claim7.holds Tryd.pinned (.plain (OpenSpec.upto plainframeConcatenationSpec)) plainframeConcatenationUptoCard

/-- THE SECOND FORM's CARD OF 'stelelaw26.PlainframeText'. -/
def plainframeTextUptoCard : Claim7 := { stood := { row := plainframeTextUptoRow, standIns := [], harness := (true, "7349df9ac49148713f75243278902495ab4487486922c74c4eb236aa80df8f3c"), looks := true }, kinds := [], alts := [], laidByText := true, laidKinds := [.data, .data, .data, .data, .sentinel, .sentinel, .pinned], laidTests := true, laidLooks := .later }
def PlainframeTextUptoCardSaid : Prop := Claim7.holds Tryd.pinned (.plain (OpenSpec.upto plainframeTextSpec)) plainframeTextUptoCard

/-- THE SECOND FORM's CARD OF 'stelelaw26.PlainframeBurst'. -/
def plainframeBurstUptoCard : Claim7 := { stood := { row := plainframeBurstUptoRow, standIns := [], harness := (true, "7349df9ac49148713f75243278902495ab4487486922c74c4eb236aa80df8f3c"), looks := true }, kinds := [], alts := [], laidByText := true, laidKinds := [.data, .data, .data, .data, .sentinel, .sentinel, .pinned], laidTests := true, laidLooks := .later }
def PlainframeBurstUptoCardSaid : Prop := Claim7.holds Tryd.pinned (.plain (OpenSpec.upto plainframeBurstSpec)) plainframeBurstUptoCard

/-- THE SECOND FORM's CARD OF 'stelelaw26.PlainframeRoundTrip'. -/
def plainframeRoundTripUptoCard : Claim7 := { stood := { row := plainframeRoundTripUptoRow, standIns := [], harness := (true, "7349df9ac49148713f75243278902495ab4487486922c74c4eb236aa80df8f3c"), looks := true }, kinds := [], alts := [], laidByText := true, laidKinds := [.data, .data, .data, .data, .sentinel, .sentinel, .pinned], laidTests := true, laidLooks := .later }
def PlainframeRoundTripUptoCardSaid : Prop := Claim7.holds Tryd.pinned (.plain (OpenSpec.upto plainframeRoundTripSpec)) plainframeRoundTripUptoCard

/-- THE SECOND FORM's CARD OF 'stelelaw26.PlainframeDamage'. -/
def plainframeDamageUptoCard : Claim7 := { stood := { row := plainframeDamageUptoRow, standIns := [], harness := (true, "7349df9ac49148713f75243278902495ab4487486922c74c4eb236aa80df8f3c"), looks := true }, kinds := [], alts := [], laidByText := true, laidKinds := [.data, .data, .data, .data, .sentinel, .sentinel, .pinned], laidTests := true, laidLooks := .later }
def PlainframeDamageUptoCardSaid : Prop := Claim7.holds Tryd.pinned (.plain (OpenSpec.upto plainframeDamageSpec)) plainframeDamageUptoCard
end Rows
end Go.Proofs.YtboafongjbdmoaaDoor
