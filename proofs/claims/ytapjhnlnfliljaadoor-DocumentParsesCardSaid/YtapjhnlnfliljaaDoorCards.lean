/-
  DERIVED. GIVEN WITH THE SEED: THE CARDS: each row of YtapjhnlnfliljaaDoorRows.lean that lists a variable, with what it lists TIED to the program's text (the seventh form; the later family's looks); each row that meets fmt, with fmt's text TOLD by the authors' own Lean function (tested against real Go, not proved from fmt's source: count such statements apart). THE CARD IS WHAT COUNTS. Prove the row's statement (the work); the ties are given (YtapjhnlnfliljaaDoorTie.lean); close each card by the builder's one call (the guide's Derived/Test/ToyasCard.lean, 'card_holds'). Laid BY PROGRAM, IN A SANDBOX (cutbox-door.mjs). By AI agents, Wed Nov 11 2026. No macro, syntax, notation, axiom, sorry.
-/
import Derived.Test.YtapjhnlnfliljaaDoorRows
import GoSem.ClaimSeven
namespace Go.Proofs.YtapjhnlnfliljaaDoor
namespace Rows

/-- THE TIED CARD OF 'stelelaw49.DocumentParses'. -/
def documentParsesCard : Claim7 := { stood := { row := documentParsesRow, standIns := [], harness := (true, "df0895c1dfac2a014ecd184b8c416d16e44b9c07502a1f2a6261f44542fb0b26"), looks := true }, kinds := [], alts := [], laidByText := true, laidKinds := [.data, .data, .data, .data, .sentinel, .sentinel, .pinned], laidTests := true, laidLooks := .later }
def DocumentParsesCardSaid : Prop := Claim7.holds Tryd.pinned (.plain (OpenSpec.ofChange documentParsesSpec)) documentParsesCard

/-- THE TIED CARD OF 'stelelaw49.DocumentJoin'. -/
def documentJoinCard : Claim7 := { stood := { row := documentJoinRow, standIns := [], harness := (true, "df0895c1dfac2a014ecd184b8c416d16e44b9c07502a1f2a6261f44542fb0b26"), looks := true }, kinds := [], alts := [], laidByText := true, laidKinds := [.data, .data, .data, .data, .sentinel, .sentinel, .pinned], laidTests := true, laidLooks := .later }
def DocumentJoinCardSaid : Prop := Claim7.holds Tryd.pinned (.plain (OpenSpec.ofChange documentJoinSpec)) documentJoinCard

/-- THE TIED CARD OF 'stelelaw49.DocumentWords'. -/
def documentWordsCard : Claim7 := { stood := { row := documentWordsRow, standIns := [], harness := (true, "df0895c1dfac2a014ecd184b8c416d16e44b9c07502a1f2a6261f44542fb0b26"), looks := true }, kinds := [], alts := [], laidByText := true, laidKinds := [.data, .data, .data, .data, .sentinel, .sentinel, .pinned], laidTests := true, laidLooks := .later }
def DocumentWordsCardSaid : Prop := Claim7.holds Tryd.pinned (.plain (OpenSpec.ofChange documentWordsSpec)) documentWordsCard

/-- THE TIED CARD OF 'stelelaw49.DocumentLines'. -/
def documentLinesCard : Claim7 := { stood := { row := documentLinesRow, standIns := [], harness := (true, "df0895c1dfac2a014ecd184b8c416d16e44b9c07502a1f2a6261f44542fb0b26"), looks := true }, kinds := [], alts := [], laidByText := true, laidKinds := [.data, .data, .data, .data, .sentinel, .sentinel, .pinned], laidTests := true, laidLooks := .later }
def DocumentLinesCardSaid : Prop := Claim7.holds Tryd.pinned (.plain (OpenSpec.ofChange documentLinesSpec)) documentLinesCard

/-- THE TIED CARD OF 'stelelaw49.DocumentRoundTrip'. -/
def documentRoundTripCard : Claim7 := { stood := { row := documentRoundTripRow, standIns := [], harness := (true, "df0895c1dfac2a014ecd184b8c416d16e44b9c07502a1f2a6261f44542fb0b26"), looks := true }, kinds := [], alts := [], laidByText := true, laidKinds := [.data, .data, .data, .data, .sentinel, .sentinel, .pinned], laidTests := true, laidLooks := .later }
def DocumentRoundTripCardSaid : Prop := Claim7.holds Tryd.pinned (.plain (OpenSpec.ofChange documentRoundTripSpec)) documentRoundTripCard

/-- THE TIED CARD OF 'stelelaw49.DocumentBlanks'. -/
def documentBlanksCard : Claim7 := { stood := { row := documentBlanksRow, standIns := [], harness := (true, "df0895c1dfac2a014ecd184b8c416d16e44b9c07502a1f2a6261f44542fb0b26"), looks := true }, kinds := [], alts := [], laidByText := true, laidKinds := [.data, .data, .data, .data, .sentinel, .sentinel, .pinned], laidTests := true, laidLooks := .later }
def DocumentBlanksCardSaid : Prop := Claim7.holds Tryd.pinned (.plain (OpenSpec.ofChange documentBlanksSpec)) documentBlanksCard

/-- THE SECOND FORM's CARD OF 'stelelaw49.DocumentParses'. -/
def documentParsesUptoCard : Claim7 := { stood := { row := documentParsesUptoRow, standIns := [], harness := (true, "df0895c1dfac2a014ecd184b8c416d16e44b9c07502a1f2a6261f44542fb0b26"), looks := true }, kinds := [], alts := [], laidByText := true, laidKinds := [.data, .data, .data, .data, .sentinel, .sentinel, .pinned], laidTests := true, laidLooks := .later }
def DocumentParsesUptoCardSaid : Prop := Claim7.holds Tryd.pinned (.plain (OpenSpec.upto documentParsesSpec)) documentParsesUptoCard

/-- THE SECOND FORM's CARD OF 'stelelaw49.DocumentJoin'. -/
def documentJoinUptoCard : Claim7 := { stood := { row := documentJoinUptoRow, standIns := [], harness := (true, "df0895c1dfac2a014ecd184b8c416d16e44b9c07502a1f2a6261f44542fb0b26"), looks := true }, kinds := [], alts := [], laidByText := true, laidKinds := [.data, .data, .data, .data, .sentinel, .sentinel, .pinned], laidTests := true, laidLooks := .later }
def DocumentJoinUptoCardSaid : Prop := Claim7.holds Tryd.pinned (.plain (OpenSpec.upto documentJoinSpec)) documentJoinUptoCard

/-- THE SECOND FORM's CARD OF 'stelelaw49.DocumentWords'. -/
def documentWordsUptoCard : Claim7 := { stood := { row := documentWordsUptoRow, standIns := [], harness := (true, "df0895c1dfac2a014ecd184b8c416d16e44b9c07502a1f2a6261f44542fb0b26"), looks := true }, kinds := [], alts := [], laidByText := true, laidKinds := [.data, .data, .data, .data, .sentinel, .sentinel, .pinned], laidTests := true, laidLooks := .later }
def DocumentWordsUptoCardSaid : Prop := Claim7.holds Tryd.pinned (.plain (OpenSpec.upto documentWordsSpec)) documentWordsUptoCard

/-- THE SECOND FORM's CARD OF 'stelelaw49.DocumentLines'. -/
def documentLinesUptoCard : Claim7 := { stood := { row := documentLinesUptoRow, standIns := [], harness := (true, "df0895c1dfac2a014ecd184b8c416d16e44b9c07502a1f2a6261f44542fb0b26"), looks := true }, kinds := [], alts := [], laidByText := true, laidKinds := [.data, .data, .data, .data, .sentinel, .sentinel, .pinned], laidTests := true, laidLooks := .later }
def DocumentLinesUptoCardSaid : Prop := Claim7.holds Tryd.pinned (.plain (OpenSpec.upto documentLinesSpec)) documentLinesUptoCard

/-- THE SECOND FORM's CARD OF 'stelelaw49.DocumentRoundTrip'. -/
def documentRoundTripUptoCard : Claim7 := { stood := { row := documentRoundTripUptoRow, standIns := [], harness := (true, "df0895c1dfac2a014ecd184b8c416d16e44b9c07502a1f2a6261f44542fb0b26"), looks := true }, kinds := [], alts := [], laidByText := true, laidKinds := [.data, .data, .data, .data, .sentinel, .sentinel, .pinned], laidTests := true, laidLooks := .later }
def DocumentRoundTripUptoCardSaid : Prop := Claim7.holds Tryd.pinned (.plain (OpenSpec.upto documentRoundTripSpec)) documentRoundTripUptoCard

/-- THE SECOND FORM's CARD OF 'stelelaw49.DocumentBlanks'. -/
def documentBlanksUptoCard : Claim7 := { stood := { row := documentBlanksUptoRow, standIns := [], harness := (true, "df0895c1dfac2a014ecd184b8c416d16e44b9c07502a1f2a6261f44542fb0b26"), looks := true }, kinds := [], alts := [], laidByText := true, laidKinds := [.data, .data, .data, .data, .sentinel, .sentinel, .pinned], laidTests := true, laidLooks := .later }
def DocumentBlanksUptoCardSaid : Prop := Claim7.holds Tryd.pinned (.plain (OpenSpec.upto documentBlanksSpec)) documentBlanksUptoCard
end Rows
end Go.Proofs.YtapjhnlnfliljaaDoor
