/-
  DERIVED. GIVEN WITH THE SEED: THE CARDS: each row of YtjmglbppmolipaaGreatDoorRows.lean that lists a variable, with what it lists TIED to the program's text (the seventh form; the later family's looks); each row that meets fmt, with fmt's text TOLD by the authors' own Lean function (tested against real Go, not proved from fmt's source: count such statements apart). THE CARD IS WHAT COUNTS. Prove the row's statement (the work); the ties are given (YtjmglbppmolipaaGreatDoorTie.lean); close each card by the builder's one call (the guide's Derived/Test/ToyasCard.lean, 'card_holds'). Laid BY PROGRAM, IN A SANDBOX (cutbox-door.mjs). By AI agents, Wed Nov 11 2026. No macro, syntax, notation, axiom, sorry.
-/
import Derived.Test.YtjmglbppmolipaaGreatDoorRows
import GoSem.ClaimSeven
namespace Go.Proofs.YtjmglbppmolipaaGreatDoor
namespace Rows

/-- THE TIED CARD OF 'stelelaw28.BootstrapStart'. -/
def bootstrapStartCard : Claim7 := { stood := { row := bootstrapStartRow, standIns := [], harness := (true, "ec85bcba01bfbb778a6e47ba2c7f506fe885400481565ec9308fee5821a27c83"), looks := true }, kinds := [], alts := [], laidByText := true, laidKinds := [.data, .data, .data, .data, .sentinel, .sentinel, .pinned], laidTests := true, laidLooks := .later }
def BootstrapStartCardSaid : Prop := Claim7.holds Tryz.pinned (.plain (OpenSpec.ofChange bootstrapStartSpec)) bootstrapStartCard

/-- THE TIED CARD OF 'stelelaw28.BootstrapStrips'. -/
def bootstrapStripsCard : Claim7 := { stood := { row := bootstrapStripsRow, standIns := [], harness := (true, "ec85bcba01bfbb778a6e47ba2c7f506fe885400481565ec9308fee5821a27c83"), looks := true }, kinds := [], alts := [], laidByText := true, laidKinds := [.data, .data, .data, .data, .sentinel, .sentinel, .pinned], laidTests := true, laidLooks := .later }
def BootstrapStripsCardSaid : Prop := Claim7.holds Tryz.pinned (.plain (OpenSpec.ofChange bootstrapStripsSpec)) bootstrapStripsCard

/-- THE TIED CARD OF 'stelelaw28.BootstrapBoot'. -/
def bootstrapBootCard : Claim7 := { stood := { row := bootstrapBootRow, standIns := [], harness := (true, "ec85bcba01bfbb778a6e47ba2c7f506fe885400481565ec9308fee5821a27c83"), looks := true }, kinds := [], alts := [], laidByText := true, laidKinds := [.data, .data, .data, .data, .sentinel, .sentinel, .pinned], laidTests := true, laidLooks := .later }
def BootstrapBootCardSaid : Prop := Claim7.holds Tryz.pinned (.plain (OpenSpec.ofChange bootstrapBootSpec)) bootstrapBootCard

/-- THE TIED CARD OF 'stelelaw28.BootstrapLoss'. -/
def bootstrapLossCard : Claim7 := { stood := { row := bootstrapLossRow, standIns := [], harness := (true, "ec85bcba01bfbb778a6e47ba2c7f506fe885400481565ec9308fee5821a27c83"), looks := true }, kinds := [], alts := [], laidByText := true, laidKinds := [.data, .data, .data, .data, .sentinel, .sentinel, .pinned], laidTests := true, laidLooks := .later }
def BootstrapLossCardSaid : Prop := Claim7.holds Tryz.pinned (.plain (OpenSpec.ofChange bootstrapLossSpec)) bootstrapLossCard

/-- THE TIED CARD OF 'stelelaw28.BootstrapSteps'. -/
def bootstrapStepsCard : Claim7 := { stood := { row := bootstrapStepsRow, standIns := [], harness := (true, "ec85bcba01bfbb778a6e47ba2c7f506fe885400481565ec9308fee5821a27c83"), looks := true }, kinds := [], alts := [], laidByText := true, laidKinds := [.data, .data, .data, .data, .sentinel, .sentinel, .pinned], laidTests := true, laidLooks := .later }
def BootstrapStepsCardSaid : Prop := Claim7.holds Tryz.pinned (.plain (OpenSpec.ofChange bootstrapStepsSpec)) bootstrapStepsCard

/-- THE TIED CARD OF 'stelelaw28.BootstrapRuns'. -/
def bootstrapRunsCard : Claim7 := { stood := { row := bootstrapRunsRow, standIns := [], harness := (true, "ec85bcba01bfbb778a6e47ba2c7f506fe885400481565ec9308fee5821a27c83"), looks := true }, kinds := [], alts := [], laidByText := true, laidKinds := [.data, .data, .data, .data, .sentinel, .sentinel, .pinned], laidTests := true, laidLooks := .later }
def BootstrapRunsCardSaid : Prop := Claim7.holds Tryz.pinned (.plain (OpenSpec.ofChange bootstrapRunsSpec)) bootstrapRunsCard

/-- THE TIED CARD OF 'stelelaw28.BootstrapCopies'. -/
def bootstrapCopiesCard : Claim7 := { stood := { row := bootstrapCopiesRow, standIns := [], harness := (true, "ec85bcba01bfbb778a6e47ba2c7f506fe885400481565ec9308fee5821a27c83"), looks := true }, kinds := [], alts := [], laidByText := true, laidKinds := [.data, .data, .data, .data, .sentinel, .sentinel, .pinned], laidTests := true, laidLooks := .later }
def BootstrapCopiesCardSaid : Prop := Claim7.holds Tryz.pinned (.plain (OpenSpec.ofChange bootstrapCopiesSpec)) bootstrapCopiesCard

/-- THE SECOND FORM's CARD OF 'stelelaw28.BootstrapStart'. -/
def bootstrapStartUptoCard : Claim7 := { stood := { row := bootstrapStartUptoRow, standIns := [], harness := (true, "ec85bcba01bfbb778a6e47ba2c7f506fe885400481565ec9308fee5821a27c83"), looks := true }, kinds := [], alts := [], laidByText := true, laidKinds := [.data, .data, .data, .data, .sentinel, .sentinel, .pinned], laidTests := true, laidLooks := .later }
def BootstrapStartUptoCardSaid : Prop := Claim7.holds Tryz.pinned (.plain (OpenSpec.upto bootstrapStartSpec)) bootstrapStartUptoCard

/-- THE SECOND FORM's CARD OF 'stelelaw28.BootstrapStrips'. -/
def bootstrapStripsUptoCard : Claim7 := { stood := { row := bootstrapStripsUptoRow, standIns := [], harness := (true, "ec85bcba01bfbb778a6e47ba2c7f506fe885400481565ec9308fee5821a27c83"), looks := true }, kinds := [], alts := [], laidByText := true, laidKinds := [.data, .data, .data, .data, .sentinel, .sentinel, .pinned], laidTests := true, laidLooks := .later }
def BootstrapStripsUptoCardSaid : Prop := Claim7.holds Tryz.pinned (.plain (OpenSpec.upto bootstrapStripsSpec)) bootstrapStripsUptoCard

/-- THE SECOND FORM's CARD OF 'stelelaw28.BootstrapBoot'. -/
def bootstrapBootUptoCard : Claim7 := { stood := { row := bootstrapBootUptoRow, standIns := [], harness := (true, "ec85bcba01bfbb778a6e47ba2c7f506fe885400481565ec9308fee5821a27c83"), looks := true }, kinds := [], alts := [], laidByText := true, laidKinds := [.data, .data, .data, .data, .sentinel, .sentinel, .pinned], laidTests := true, laidLooks := .later }
def BootstrapBootUptoCardSaid : Prop := Claim7.holds Tryz.pinned (.plain (OpenSpec.upto bootstrapBootSpec)) bootstrapBootUptoCard

/-- THE SECOND FORM's CARD OF 'stelelaw28.BootstrapLoss'. -/
def bootstrapLossUptoCard : Claim7 := { stood := { row := bootstrapLossUptoRow, standIns := [], harness := (true, "ec85bcba01bfbb778a6e47ba2c7f506fe885400481565ec9308fee5821a27c83"), looks := true }, kinds := [], alts := [], laidByText := true, laidKinds := [.data, .data, .data, .data, .sentinel, .sentinel, .pinned], laidTests := true, laidLooks := .later }
def BootstrapLossUptoCardSaid : Prop := Claim7.holds Tryz.pinned (.plain (OpenSpec.upto bootstrapLossSpec)) bootstrapLossUptoCard

/-- THE SECOND FORM's CARD OF 'stelelaw28.BootstrapSteps'. -/
def bootstrapStepsUptoCard : Claim7 := { stood := { row := bootstrapStepsUptoRow, standIns := [], harness := (true, "ec85bcba01bfbb778a6e47ba2c7f506fe885400481565ec9308fee5821a27c83"), looks := true }, kinds := [], alts := [], laidByText := true, laidKinds := [.data, .data, .data, .data, .sentinel, .sentinel, .pinned], laidTests := true, laidLooks := .later }
def BootstrapStepsUptoCardSaid : Prop := Claim7.holds Tryz.pinned (.plain (OpenSpec.upto bootstrapStepsSpec)) bootstrapStepsUptoCard

/-- THE SECOND FORM's CARD OF 'stelelaw28.BootstrapRuns'. -/
def bootstrapRunsUptoCard : Claim7 := { stood := { row := bootstrapRunsUptoRow, standIns := [], harness := (true, "ec85bcba01bfbb778a6e47ba2c7f506fe885400481565ec9308fee5821a27c83"), looks := true }, kinds := [], alts := [], laidByText := true, laidKinds := [.data, .data, .data, .data, .sentinel, .sentinel, .pinned], laidTests := true, laidLooks := .later }
def BootstrapRunsUptoCardSaid : Prop := Claim7.holds Tryz.pinned (.plain (OpenSpec.upto bootstrapRunsSpec)) bootstrapRunsUptoCard

/-- THE SECOND FORM's CARD OF 'stelelaw28.BootstrapCopies'. -/
def bootstrapCopiesUptoCard : Claim7 := { stood := { row := bootstrapCopiesUptoRow, standIns := [], harness := (true, "ec85bcba01bfbb778a6e47ba2c7f506fe885400481565ec9308fee5821a27c83"), looks := true }, kinds := [], alts := [], laidByText := true, laidKinds := [.data, .data, .data, .data, .sentinel, .sentinel, .pinned], laidTests := true, laidLooks := .later }
def BootstrapCopiesUptoCardSaid : Prop := Claim7.holds Tryz.pinned (.plain (OpenSpec.upto bootstrapCopiesSpec)) bootstrapCopiesUptoCard
end Rows
end Go.Proofs.YtjmglbppmolipaaGreatDoor
