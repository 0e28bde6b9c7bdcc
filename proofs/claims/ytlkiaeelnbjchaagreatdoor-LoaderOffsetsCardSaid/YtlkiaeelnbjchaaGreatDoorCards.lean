/-
  DERIVED. GIVEN WITH THE SEED: THE CARDS: each row of YtlkiaeelnbjchaaGreatDoorRows.lean that lists a variable, with what it lists TIED to the program's text (the seventh form; the later family's looks); each row that meets fmt, with fmt's text TOLD by the authors' own Lean function (tested against real Go, not proved from fmt's source: count such statements apart). THE CARD IS WHAT COUNTS. Prove the row's statement (the work); the ties are given (YtlkiaeelnbjchaaGreatDoorTie.lean); close each card by the builder's one call (the guide's Derived/Test/ToyasCard.lean, 'card_holds'). Laid BY PROGRAM, IN A SANDBOX (cutbox-door.mjs). By AI agents, Wed Nov 11 2026. No macro, syntax, notation, axiom, sorry.
-/
import Derived.Test.YtlkiaeelnbjchaaGreatDoorRows
import GoSem.ClaimSeven
namespace Go.Proofs.YtlkiaeelnbjchaaGreatDoor
namespace Rows

/-- THE TIED CARD OF 'stelelaw27.LoaderLoads'. -/
def loaderLoadsCard : Claim7 := { stood := { row := loaderLoadsRow, standIns := [], harness := (true, "34ff3d252673c357fb26c13064c9a1cd1fb339b5a2fa814d0d9751a798c7bac3"), looks := true }, kinds := [], alts := [], laidByText := true, laidKinds := [.data, .data, .data, .data, .sentinel, .sentinel, .pinned], laidTests := true, laidLooks := .later }
def LoaderLoadsCardSaid : Prop := Claim7.holds Tryz.pinned (.plain (OpenSpec.ofChange loaderLoadsSpec)) loaderLoadsCard

/-- THE TIED CARD OF 'stelelaw27.LoaderInputs'. -/
def loaderInputsCard : Claim7 := { stood := { row := loaderInputsRow, standIns := [], harness := (true, "34ff3d252673c357fb26c13064c9a1cd1fb339b5a2fa814d0d9751a798c7bac3"), looks := true }, kinds := [], alts := [], laidByText := true, laidKinds := [.data, .data, .data, .data, .sentinel, .sentinel, .pinned], laidTests := true, laidLooks := .later }
def LoaderInputsCardSaid : Prop := Claim7.holds Tryz.pinned (.plain (OpenSpec.ofChange loaderInputsSpec)) loaderInputsCard

/-- THE TIED CARD OF 'stelelaw27.LoaderFinds'. -/
def loaderFindsCard : Claim7 := { stood := { row := loaderFindsRow, standIns := [], harness := (true, "34ff3d252673c357fb26c13064c9a1cd1fb339b5a2fa814d0d9751a798c7bac3"), looks := true }, kinds := [], alts := [], laidByText := true, laidKinds := [.data, .data, .data, .data, .sentinel, .sentinel, .pinned], laidTests := true, laidLooks := .later }
def LoaderFindsCardSaid : Prop := Claim7.holds Tryz.pinned (.plain (OpenSpec.ofChange loaderFindsSpec)) loaderFindsCard

/-- THE TIED CARD OF 'stelelaw27.LoaderOffsets'. -/
def loaderOffsetsCard : Claim7 := { stood := { row := loaderOffsetsRow, standIns := [], harness := (true, "34ff3d252673c357fb26c13064c9a1cd1fb339b5a2fa814d0d9751a798c7bac3"), looks := true }, kinds := [], alts := [], laidByText := true, laidKinds := [.data, .data, .data, .data, .sentinel, .sentinel, .pinned], laidTests := true, laidLooks := .later }
def LoaderOffsetsCardSaid : Prop := Claim7.holds Tryz.pinned (.plain (OpenSpec.ofChange loaderOffsetsSpec)) loaderOffsetsCard

/-- THE TIED CARD OF 'stelelaw27.LoaderLosses'. -/
def loaderLossesCard : Claim7 := { stood := { row := loaderLossesRow, standIns := [], harness := (true, "34ff3d252673c357fb26c13064c9a1cd1fb339b5a2fa814d0d9751a798c7bac3"), looks := true }, kinds := [], alts := [], laidByText := true, laidKinds := [.data, .data, .data, .data, .sentinel, .sentinel, .pinned], laidTests := true, laidLooks := .later }
def LoaderLossesCardSaid : Prop := Claim7.holds Tryz.pinned (.plain (OpenSpec.ofChange loaderLossesSpec)) loaderLossesCard

/-- THE TIED CARD OF 'stelelaw27.LoaderArchives'. -/
def loaderArchivesCard : Claim7 := { stood := { row := loaderArchivesRow, standIns := [], harness := (true, "34ff3d252673c357fb26c13064c9a1cd1fb339b5a2fa814d0d9751a798c7bac3"), looks := true }, kinds := [], alts := [], laidByText := true, laidKinds := [.data, .data, .data, .data, .sentinel, .sentinel, .pinned], laidTests := true, laidLooks := .later }
def LoaderArchivesCardSaid : Prop := Claim7.holds Tryz.pinned (.plain (OpenSpec.ofChange loaderArchivesSpec)) loaderArchivesCard

/-- THE TIED CARD OF 'stelelaw27.LoaderRecovers'. -/
def loaderRecoversCard : Claim7 := { stood := { row := loaderRecoversRow, standIns := [], harness := (true, "34ff3d252673c357fb26c13064c9a1cd1fb339b5a2fa814d0d9751a798c7bac3"), looks := true }, kinds := [], alts := [], laidByText := true, laidKinds := [.data, .data, .data, .data, .sentinel, .sentinel, .pinned], laidTests := true, laidLooks := .later }
def LoaderRecoversCardSaid : Prop := Claim7.holds Tryz.pinned (.plain (OpenSpec.ofChange loaderRecoversSpec)) loaderRecoversCard

/-- THE SECOND FORM's CARD OF 'stelelaw27.LoaderLoads'. -/
def loaderLoadsUptoCard : Claim7 := { stood := { row := loaderLoadsUptoRow, standIns := [], harness := (true, "34ff3d252673c357fb26c13064c9a1cd1fb339b5a2fa814d0d9751a798c7bac3"), looks := true }, kinds := [], alts := [], laidByText := true, laidKinds := [.data, .data, .data, .data, .sentinel, .sentinel, .pinned], laidTests := true, laidLooks := .later }
def LoaderLoadsUptoCardSaid : Prop := Claim7.holds Tryz.pinned (.plain (OpenSpec.upto loaderLoadsSpec)) loaderLoadsUptoCard

/-- THE SECOND FORM's CARD OF 'stelelaw27.LoaderInputs'. -/
def loaderInputsUptoCard : Claim7 := { stood := { row := loaderInputsUptoRow, standIns := [], harness := (true, "34ff3d252673c357fb26c13064c9a1cd1fb339b5a2fa814d0d9751a798c7bac3"), looks := true }, kinds := [], alts := [], laidByText := true, laidKinds := [.data, .data, .data, .data, .sentinel, .sentinel, .pinned], laidTests := true, laidLooks := .later }
def LoaderInputsUptoCardSaid : Prop := Claim7.holds Tryz.pinned (.plain (OpenSpec.upto loaderInputsSpec)) loaderInputsUptoCard

/-- THE SECOND FORM's CARD OF 'stelelaw27.LoaderFinds'. -/
def loaderFindsUptoCard : Claim7 := { stood := { row := loaderFindsUptoRow, standIns := [], harness := (true, "34ff3d252673c357fb26c13064c9a1cd1fb339b5a2fa814d0d9751a798c7bac3"), looks := true }, kinds := [], alts := [], laidByText := true, laidKinds := [.data, .data, .data, .data, .sentinel, .sentinel, .pinned], laidTests := true, laidLooks := .later }
def LoaderFindsUptoCardSaid : Prop := Claim7.holds Tryz.pinned (.plain (OpenSpec.upto loaderFindsSpec)) loaderFindsUptoCard

/-- THE SECOND FORM's CARD OF 'stelelaw27.LoaderOffsets'. -/
def loaderOffsetsUptoCard : Claim7 := { stood := { row := loaderOffsetsUptoRow, standIns := [], harness := (true, "34ff3d252673c357fb26c13064c9a1cd1fb339b5a2fa814d0d9751a798c7bac3"), looks := true }, kinds := [], alts := [], laidByText := true, laidKinds := [.data, .data, .data, .data, .sentinel, .sentinel, .pinned], laidTests := true, laidLooks := .later }
def LoaderOffsetsUptoCardSaid : Prop := Claim7.holds Tryz.pinned (.plain (OpenSpec.upto loaderOffsetsSpec)) loaderOffsetsUptoCard

/-- THE SECOND FORM's CARD OF 'stelelaw27.LoaderLosses'. -/
def loaderLossesUptoCard : Claim7 := { stood := { row := loaderLossesUptoRow, standIns := [], harness := (true, "34ff3d252673c357fb26c13064c9a1cd1fb339b5a2fa814d0d9751a798c7bac3"), looks := true }, kinds := [], alts := [], laidByText := true, laidKinds := [.data, .data, .data, .data, .sentinel, .sentinel, .pinned], laidTests := true, laidLooks := .later }
def LoaderLossesUptoCardSaid : Prop := Claim7.holds Tryz.pinned (.plain (OpenSpec.upto loaderLossesSpec)) loaderLossesUptoCard

/-- THE SECOND FORM's CARD OF 'stelelaw27.LoaderArchives'. -/
def loaderArchivesUptoCard : Claim7 := { stood := { row := loaderArchivesUptoRow, standIns := [], harness := (true, "34ff3d252673c357fb26c13064c9a1cd1fb339b5a2fa814d0d9751a798c7bac3"), looks := true }, kinds := [], alts := [], laidByText := true, laidKinds := [.data, .data, .data, .data, .sentinel, .sentinel, .pinned], laidTests := true, laidLooks := .later }
def LoaderArchivesUptoCardSaid : Prop := Claim7.holds Tryz.pinned (.plain (OpenSpec.upto loaderArchivesSpec)) loaderArchivesUptoCard

/-- THE SECOND FORM's CARD OF 'stelelaw27.LoaderRecovers'. -/
def loaderRecoversUptoCard : Claim7 := { stood := { row := loaderRecoversUptoRow, standIns := [], harness := (true, "34ff3d252673c357fb26c13064c9a1cd1fb339b5a2fa814d0d9751a798c7bac3"), looks := true }, kinds := [], alts := [], laidByText := true, laidKinds := [.data, .data, .data, .data, .sentinel, .sentinel, .pinned], laidTests := true, laidLooks := .later }
def LoaderRecoversUptoCardSaid : Prop := Claim7.holds Tryz.pinned (.plain (OpenSpec.upto loaderRecoversSpec)) loaderRecoversUptoCard
end Rows
end Go.Proofs.YtlkiaeelnbjchaaGreatDoor
