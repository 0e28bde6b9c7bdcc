/-
  DERIVED. GIVEN WITH THE SEED: THE CARDS: each row of YthanegmaipckdaaDoorRows.lean that lists a variable, with what it lists TIED to the program's text (the seventh form; the later family's looks); each row that meets fmt, with fmt's text TOLD by the authors' own Lean function (tested against real Go, not proved from fmt's source: count such statements apart). THE CARD IS WHAT COUNTS. Prove the row's statement (the work); the ties are given (YthanegmaipckdaaDoorTie.lean); close each card by the builder's one call (the guide's Derived/Test/ToyasCard.lean, 'card_holds'). Laid BY PROGRAM, IN A SANDBOX (cutbox-door.mjs). By AI agents, Wed Nov 11 2026. No macro, syntax, notation, axiom, sorry.
-/
import Derived.Test.YthanegmaipckdaaDoorRows
import GoSem.ClaimSeven
namespace Go.Proofs.YthanegmaipckdaaDoor
namespace Rows

/-- THE TIED CARD OF 'stelelaw52.BitmapExpand'. -/
def bitmapExpandCard : Claim7 := { stood := { row := bitmapExpandRow, standIns := [], harness := (true, "6b7148eac390f39faa963b94e3134db983aaca8fc996518b81595cbda6537f40"), looks := true }, kinds := [], alts := [], laidByText := true, laidKinds := [.data, .data, .data, .data, .sentinel, .sentinel, .pinned], laidTests := true, laidLooks := .later }
def BitmapExpandCardSaid : Prop := Claim7.holds Tryd.pinned (.plain (OpenSpec.ofChange bitmapExpandSpec)) bitmapExpandCard

/-- THE TIED CARD OF 'stelelaw52.BitmapCompress'. -/
def bitmapCompressCard : Claim7 := { stood := { row := bitmapCompressRow, standIns := [], harness := (true, "6b7148eac390f39faa963b94e3134db983aaca8fc996518b81595cbda6537f40"), looks := true }, kinds := [], alts := [], laidByText := true, laidKinds := [.data, .data, .data, .data, .sentinel, .sentinel, .pinned], laidTests := true, laidLooks := .later }
def BitmapCompressCardSaid : Prop := Claim7.holds Tryd.pinned (.plain (OpenSpec.ofChange bitmapCompressSpec)) bitmapCompressCard

/-- THE TIED CARD OF 'stelelaw52.BitmapRoundTrip'. -/
def bitmapRoundTripCard : Claim7 := { stood := { row := bitmapRoundTripRow, standIns := [], harness := (true, "6b7148eac390f39faa963b94e3134db983aaca8fc996518b81595cbda6537f40"), looks := true }, kinds := [], alts := [], laidByText := true, laidKinds := [.data, .data, .data, .data, .sentinel, .sentinel, .pinned], laidTests := true, laidLooks := .later }
def BitmapRoundTripCardSaid : Prop := Claim7.holds Tryd.pinned (.plain (OpenSpec.ofChange bitmapRoundTripSpec)) bitmapRoundTripCard

/-- THE TIED CARD OF 'stelelaw52.BitmapInversion'. -/
def bitmapInversionCard : Claim7 := { stood := { row := bitmapInversionRow, standIns := [], harness := (true, "6b7148eac390f39faa963b94e3134db983aaca8fc996518b81595cbda6537f40"), looks := true }, kinds := [], alts := [], laidByText := true, laidKinds := [.data, .data, .data, .data, .sentinel, .sentinel, .pinned], laidTests := true, laidLooks := .later }
def BitmapInversionCardSaid : Prop := Claim7.holds Tryd.pinned (.plain (OpenSpec.ofChange bitmapInversionSpec)) bitmapInversionCard

/-- THE TIED CARD OF 'stelelaw52.BitmapReversal'. -/
def bitmapReversalCard : Claim7 := { stood := { row := bitmapReversalRow, standIns := [], harness := (true, "6b7148eac390f39faa963b94e3134db983aaca8fc996518b81595cbda6537f40"), looks := true }, kinds := [], alts := [], laidByText := true, laidKinds := [.data, .data, .data, .data, .sentinel, .sentinel, .pinned], laidTests := true, laidLooks := .later }
def BitmapReversalCardSaid : Prop := Claim7.holds Tryd.pinned (.plain (OpenSpec.ofChange bitmapReversalSpec)) bitmapReversalCard

/-- THE TIED CARD OF 'stelelaw52.BitmapScale'. -/
def bitmapScaleCard : Claim7 := { stood := { row := bitmapScaleRow, standIns := [], harness := (true, "6b7148eac390f39faa963b94e3134db983aaca8fc996518b81595cbda6537f40"), looks := true }, kinds := [], alts := [], laidByText := true, laidKinds := [.data, .data, .data, .data, .sentinel, .sentinel, .pinned], laidTests := true, laidLooks := .later }
def BitmapScaleCardSaid : Prop := Claim7.holds Tryd.pinned (.plain (OpenSpec.ofChange bitmapScaleSpec)) bitmapScaleCard

/-- THE TIED CARD OF 'stelelaw52.BitmapScaling'. -/
def bitmapScalingCard : Claim7 := { stood := { row := bitmapScalingRow, standIns := [], harness := (true, "6b7148eac390f39faa963b94e3134db983aaca8fc996518b81595cbda6537f40"), looks := true }, kinds := [], alts := [], laidByText := true, laidKinds := [.data, .data, .data, .data, .sentinel, .sentinel, .pinned], laidTests := true, laidLooks := .later }
def BitmapScalingCardSaid : Prop := Claim7.holds Tryd.pinned (.plain (OpenSpec.ofChange bitmapScalingSpec)) bitmapScalingCard

/-- THE SECOND FORM's CARD OF 'stelelaw52.BitmapExpand'. -/
def bitmapExpandUptoCard : Claim7 := { stood := { row := bitmapExpandUptoRow, standIns := [], harness := (true, "6b7148eac390f39faa963b94e3134db983aaca8fc996518b81595cbda6537f40"), looks := true }, kinds := [], alts := [], laidByText := true, laidKinds := [.data, .data, .data, .data, .sentinel, .sentinel, .pinned], laidTests := true, laidLooks := .later }
def BitmapExpandUptoCardSaid : Prop := Claim7.holds Tryd.pinned (.plain (OpenSpec.upto bitmapExpandSpec)) bitmapExpandUptoCard

/-- THE SECOND FORM's CARD OF 'stelelaw52.BitmapCompress'. -/
def bitmapCompressUptoCard : Claim7 := { stood := { row := bitmapCompressUptoRow, standIns := [], harness := (true, "6b7148eac390f39faa963b94e3134db983aaca8fc996518b81595cbda6537f40"), looks := true }, kinds := [], alts := [], laidByText := true, laidKinds := [.data, .data, .data, .data, .sentinel, .sentinel, .pinned], laidTests := true, laidLooks := .later }
def BitmapCompressUptoCardSaid : Prop := Claim7.holds Tryd.pinned (.plain (OpenSpec.upto bitmapCompressSpec)) bitmapCompressUptoCard

/-- THE SECOND FORM's CARD OF 'stelelaw52.BitmapRoundTrip'. -/
def bitmapRoundTripUptoCard : Claim7 := { stood := { row := bitmapRoundTripUptoRow, standIns := [], harness := (true, "6b7148eac390f39faa963b94e3134db983aaca8fc996518b81595cbda6537f40"), looks := true }, kinds := [], alts := [], laidByText := true, laidKinds := [.data, .data, .data, .data, .sentinel, .sentinel, .pinned], laidTests := true, laidLooks := .later }
def BitmapRoundTripUptoCardSaid : Prop := Claim7.holds Tryd.pinned (.plain (OpenSpec.upto bitmapRoundTripSpec)) bitmapRoundTripUptoCard

/-- THE SECOND FORM's CARD OF 'stelelaw52.BitmapInversion'. -/
def bitmapInversionUptoCard : Claim7 := { stood := { row := bitmapInversionUptoRow, standIns := [], harness := (true, "6b7148eac390f39faa963b94e3134db983aaca8fc996518b81595cbda6537f40"), looks := true }, kinds := [], alts := [], laidByText := true, laidKinds := [.data, .data, .data, .data, .sentinel, .sentinel, .pinned], laidTests := true, laidLooks := .later }
def BitmapInversionUptoCardSaid : Prop := Claim7.holds Tryd.pinned (.plain (OpenSpec.upto bitmapInversionSpec)) bitmapInversionUptoCard

/-- THE SECOND FORM's CARD OF 'stelelaw52.BitmapReversal'. -/
def bitmapReversalUptoCard : Claim7 := { stood := { row := bitmapReversalUptoRow, standIns := [], harness := (true, "6b7148eac390f39faa963b94e3134db983aaca8fc996518b81595cbda6537f40"), looks := true }, kinds := [], alts := [], laidByText := true, laidKinds := [.data, .data, .data, .data, .sentinel, .sentinel, .pinned], laidTests := true, laidLooks := .later }
def BitmapReversalUptoCardSaid : Prop := Claim7.holds Tryd.pinned (.plain (OpenSpec.upto bitmapReversalSpec)) bitmapReversalUptoCard

/-- THE SECOND FORM's CARD OF 'stelelaw52.BitmapScale'. -/
def bitmapScaleUptoCard : Claim7 := { stood := { row := bitmapScaleUptoRow, standIns := [], harness := (true, "6b7148eac390f39faa963b94e3134db983aaca8fc996518b81595cbda6537f40"), looks := true }, kinds := [], alts := [], laidByText := true, laidKinds := [.data, .data, .data, .data, .sentinel, .sentinel, .pinned], laidTests := true, laidLooks := .later }
def BitmapScaleUptoCardSaid : Prop := Claim7.holds Tryd.pinned (.plain (OpenSpec.upto bitmapScaleSpec)) bitmapScaleUptoCard

/-- THE SECOND FORM's CARD OF 'stelelaw52.BitmapScaling'. -/
def bitmapScalingUptoCard : Claim7 := { stood := { row := bitmapScalingUptoRow, standIns := [], harness := (true, "6b7148eac390f39faa963b94e3134db983aaca8fc996518b81595cbda6537f40"), looks := true }, kinds := [], alts := [], laidByText := true, laidKinds := [.data, .data, .data, .data, .sentinel, .sentinel, .pinned], laidTests := true, laidLooks := .later }
def BitmapScalingUptoCardSaid : Prop := Claim7.holds Tryd.pinned (.plain (OpenSpec.upto bitmapScalingSpec)) bitmapScalingUptoCard
end Rows
end Go.Proofs.YthanegmaipckdaaDoor
