/-
  DERIVED. GIVEN WITH THE SEED: THE CARDS: each row of YtokiapglmedipaaGreatDoorRows.lean that lists a variable, with what it lists TIED to the program's text (the seventh form; the later family's looks); each row that meets fmt, with fmt's text TOLD by the authors' own Lean function (tested against real Go, not proved from fmt's source: count such statements apart). THE CARD IS WHAT COUNTS. Prove the row's statement (the work); the ties are given (YtokiapglmedipaaGreatDoorTie.lean); close each card by the builder's one call (the guide's Derived/Test/ToyasCard.lean, 'card_holds'). Laid BY PROGRAM, IN A SANDBOX (cutbox-door.mjs). By AI agents, Wed Nov 11 2026. No macro, syntax, notation, axiom, sorry.
-/
import Derived.Test.YtokiapglmedipaaGreatDoorRows
import GoSem.ClaimSeven
namespace Go.Proofs.YtokiapglmedipaaGreatDoor
namespace Rows

/-- THE TIED CARD OF 'laws.FnExactFuelOf'. -/
def fnExactFuelOfCard : Claim7 := { stood := { row := fnExactFuelOfRow, standIns := [], harness := (true, "0a03c7efb549f78a5ed5b9da9099b2c1e32b6db22e520883254631e6a382a9e9"), looks := true }, kinds := [], alts := [], laidByText := true, laidKinds := [.widerDeep, .mapped], laidTests := true, laidLooks := .later }
def FnExactFuelOfCardSaid : Prop := Claim7.holds Tryz.pinned (.plain (OpenSpec.ofChange fnExactFuelOfSpec)) fnExactFuelOfCard

/-- THE TIED CARD OF 'laws.FnExactRunProgram'. -/
def fnExactRunProgramCard : Claim7 := { stood := { row := fnExactRunProgramRow, standIns := [], harness := (true, "0a03c7efb549f78a5ed5b9da9099b2c1e32b6db22e520883254631e6a382a9e9"), looks := true }, kinds := [], alts := [], laidByText := true, laidKinds := [.widerDeep, .mapped], laidTests := true, laidLooks := .later }
def FnExactRunProgramCardSaid : Prop := Claim7.holds Tryz.pinned (.plain (OpenSpec.ofChange fnExactRunProgramSpec)) fnExactRunProgramCard

/-- THE TIED CARD OF 'laws.FnFuel'. -/
def fnFuelCard : Claim7 := { stood := { row := fnFuelRow, standIns := [], harness := (true, "0a03c7efb549f78a5ed5b9da9099b2c1e32b6db22e520883254631e6a382a9e9"), looks := true }, kinds := [], alts := [], laidByText := true, laidKinds := [.widerDeep, .mapped], laidTests := true, laidLooks := .later }
def FnFuelCardSaid : Prop := Claim7.holds Tryz.pinned (.plain (OpenSpec.ofChange fnFuelSpec)) fnFuelCard

/-- THE TIED CARD OF 'laws.FnMoreFuel'. -/
def fnMoreFuelCard : Claim7 := { stood := { row := fnMoreFuelRow, standIns := [], harness := (true, "0a03c7efb549f78a5ed5b9da9099b2c1e32b6db22e520883254631e6a382a9e9"), looks := true }, kinds := [], alts := [], laidByText := true, laidKinds := [.widerDeep, .mapped], laidTests := true, laidLooks := .later }
def FnMoreFuelCardSaid : Prop := Claim7.holds Tryz.pinned (.plain (OpenSpec.ofChange fnMoreFuelSpec)) fnMoreFuelCard

/-- THE TIED CARD OF 'laws.FnInputs'. -/
def fnInputsCard : Claim7 := { stood := { row := fnInputsRow, standIns := [], harness := (true, "0a03c7efb549f78a5ed5b9da9099b2c1e32b6db22e520883254631e6a382a9e9"), looks := true }, kinds := [], alts := [], laidByText := true, laidKinds := [.widerDeep, .mapped, .data], laidTests := true, laidLooks := .later }
def FnInputsCardSaid : Prop := Claim7.holds Tryz.pinned (.plain (OpenSpec.ofChange fnInputsSpec)) fnInputsCard

/-- THE TIED CARD OF 'laws.FnSayFirst'. -/
def fnSayFirstCard : Claim7 := { stood := { row := fnSayFirstRow, standIns := [], harness := (true, "0a03c7efb549f78a5ed5b9da9099b2c1e32b6db22e520883254631e6a382a9e9"), looks := true }, kinds := [], alts := [], laidByText := true, laidKinds := [.widerDeep, .mapped], laidTests := true, laidLooks := .later }
def FnSayFirstCardSaid : Prop := Claim7.holds Tryz.pinned (.plain (OpenSpec.ofChange fnSayFirstSpec)) fnSayFirstCard

/-- THE TIED CARD OF 'laws.FnWrapped'. -/
def fnWrappedCard : Claim7 := { stood := { row := fnWrappedRow, standIns := [], harness := (true, "0a03c7efb549f78a5ed5b9da9099b2c1e32b6db22e520883254631e6a382a9e9"), looks := true }, kinds := [], alts := [], laidByText := true, laidKinds := [.widerDeep, .mapped], laidTests := true, laidLooks := .later }
def FnWrappedCardSaid : Prop := Claim7.holds Tryz.pinned (.plain (OpenSpec.ofChange fnWrappedSpec)) fnWrappedCard

/-- THE TIED CARD OF 'laws.FnRenameRuns'. -/
def fnRenameRunsCard : Claim7 := { stood := { row := fnRenameRunsRow, standIns := [], harness := (true, "0a03c7efb549f78a5ed5b9da9099b2c1e32b6db22e520883254631e6a382a9e9"), looks := true }, kinds := [], alts := [], laidByText := true, laidKinds := [.widerDeep, .mapped], laidTests := true, laidLooks := .later }
def FnRenameRunsCardSaid : Prop := Claim7.holds Tryz.pinned (.plain (OpenSpec.ofChange fnRenameRunsSpec)) fnRenameRunsCard

/-- THE TIED CARD OF 'laws.FnCutRuns'. -/
def fnCutRunsCard : Claim7 := { stood := { row := fnCutRunsRow, standIns := [], harness := (true, "0a03c7efb549f78a5ed5b9da9099b2c1e32b6db22e520883254631e6a382a9e9"), looks := true }, kinds := [], alts := [], laidByText := true, laidKinds := [.widerDeep, .mapped, .data], laidTests := true, laidLooks := .later }
def FnCutRunsCardSaid : Prop := Claim7.holds Tryz.pinned (.plain (OpenSpec.ofChange fnCutRunsSpec)) fnCutRunsCard

/-- THE TIED CARD OF 'laws.FnFoldRuns'. -/
def fnFoldRunsCard : Claim7 := { stood := { row := fnFoldRunsRow, standIns := [], harness := (true, "0a03c7efb549f78a5ed5b9da9099b2c1e32b6db22e520883254631e6a382a9e9"), looks := true }, kinds := [], alts := [], laidByText := true, laidKinds := [.widerDeep, .mapped, .data], laidTests := true, laidLooks := .later }
def FnFoldRunsCardSaid : Prop := Claim7.holds Tryz.pinned (.plain (OpenSpec.ofChange fnFoldRunsSpec)) fnFoldRunsCard

/-- THE SECOND FORM's CARD OF 'laws.FnExactFuelOf'. -/
def fnExactFuelOfUptoCard : Claim7 := { stood := { row := fnExactFuelOfUptoRow, standIns := [], harness := (true, "0a03c7efb549f78a5ed5b9da9099b2c1e32b6db22e520883254631e6a382a9e9"), looks := true }, kinds := [], alts := [], laidByText := true, laidKinds := [.widerDeep, .mapped], laidTests := true, laidLooks := .later }
def FnExactFuelOfUptoCardSaid : Prop := Claim7.holds Tryz.pinned (.plain (OpenSpec.upto fnExactFuelOfSpec)) fnExactFuelOfUptoCard

/-- THE SECOND FORM's CARD OF 'laws.FnExactRunProgram'. -/
def fnExactRunProgramUptoCard : Claim7 := { stood := { row := fnExactRunProgramUptoRow, standIns := [], harness := (true, "0a03c7efb549f78a5ed5b9da9099b2c1e32b6db22e520883254631e6a382a9e9"), looks := true }, kinds := [], alts := [], laidByText := true, laidKinds := [.widerDeep, .mapped], laidTests := true, laidLooks := .later }
def FnExactRunProgramUptoCardSaid : Prop := Claim7.holds Tryz.pinned (.plain (OpenSpec.upto fnExactRunProgramSpec)) fnExactRunProgramUptoCard

/-- THE SECOND FORM's CARD OF 'laws.FnFuel'. -/
def fnFuelUptoCard : Claim7 := { stood := { row := fnFuelUptoRow, standIns := [], harness := (true, "0a03c7efb549f78a5ed5b9da9099b2c1e32b6db22e520883254631e6a382a9e9"), looks := true }, kinds := [], alts := [], laidByText := true, laidKinds := [.widerDeep, .mapped], laidTests := true, laidLooks := .later }
def FnFuelUptoCardSaid : Prop := Claim7.holds Tryz.pinned (.plain (OpenSpec.upto fnFuelSpec)) fnFuelUptoCard

/-- THE SECOND FORM's CARD OF 'laws.FnMoreFuel'. -/
def fnMoreFuelUptoCard : Claim7 := { stood := { row := fnMoreFuelUptoRow, standIns := [], harness := (true, "0a03c7efb549f78a5ed5b9da9099b2c1e32b6db22e520883254631e6a382a9e9"), looks := true }, kinds := [], alts := [], laidByText := true, laidKinds := [.widerDeep, .mapped], laidTests := true, laidLooks := .later }
def FnMoreFuelUptoCardSaid : Prop := Claim7.holds Tryz.pinned (.plain (OpenSpec.upto fnMoreFuelSpec)) fnMoreFuelUptoCard

/-- THE SECOND FORM's CARD OF 'laws.FnInputs'. -/
def fnInputsUptoCard : Claim7 := { stood := { row := fnInputsUptoRow, standIns := [], harness := (true, "0a03c7efb549f78a5ed5b9da9099b2c1e32b6db22e520883254631e6a382a9e9"), looks := true }, kinds := [], alts := [], laidByText := true, laidKinds := [.widerDeep, .mapped, .data], laidTests := true, laidLooks := .later }
def FnInputsUptoCardSaid : Prop := Claim7.holds Tryz.pinned (.plain (OpenSpec.upto fnInputsSpec)) fnInputsUptoCard

/-- THE SECOND FORM's CARD OF 'laws.FnSayFirst'. -/
def fnSayFirstUptoCard : Claim7 := { stood := { row := fnSayFirstUptoRow, standIns := [], harness := (true, "0a03c7efb549f78a5ed5b9da9099b2c1e32b6db22e520883254631e6a382a9e9"), looks := true }, kinds := [], alts := [], laidByText := true, laidKinds := [.widerDeep, .mapped], laidTests := true, laidLooks := .later }
def FnSayFirstUptoCardSaid : Prop := Claim7.holds Tryz.pinned (.plain (OpenSpec.upto fnSayFirstSpec)) fnSayFirstUptoCard

/-- THE SECOND FORM's CARD OF 'laws.FnWrapped'. -/
def fnWrappedUptoCard : Claim7 := { stood := { row := fnWrappedUptoRow, standIns := [], harness := (true, "0a03c7efb549f78a5ed5b9da9099b2c1e32b6db22e520883254631e6a382a9e9"), looks := true }, kinds := [], alts := [], laidByText := true, laidKinds := [.widerDeep, .mapped], laidTests := true, laidLooks := .later }
def FnWrappedUptoCardSaid : Prop := Claim7.holds Tryz.pinned (.plain (OpenSpec.upto fnWrappedSpec)) fnWrappedUptoCard

/-- THE SECOND FORM's CARD OF 'laws.FnRenameRuns'. -/
def fnRenameRunsUptoCard : Claim7 := { stood := { row := fnRenameRunsUptoRow, standIns := [], harness := (true, "0a03c7efb549f78a5ed5b9da9099b2c1e32b6db22e520883254631e6a382a9e9"), looks := true }, kinds := [], alts := [], laidByText := true, laidKinds := [.widerDeep, .mapped], laidTests := true, laidLooks := .later }
def FnRenameRunsUptoCardSaid : Prop := Claim7.holds Tryz.pinned (.plain (OpenSpec.upto fnRenameRunsSpec)) fnRenameRunsUptoCard

/-- THE SECOND FORM's CARD OF 'laws.FnCutRuns'. -/
def fnCutRunsUptoCard : Claim7 := { stood := { row := fnCutRunsUptoRow, standIns := [], harness := (true, "0a03c7efb549f78a5ed5b9da9099b2c1e32b6db22e520883254631e6a382a9e9"), looks := true }, kinds := [], alts := [], laidByText := true, laidKinds := [.widerDeep, .mapped, .data], laidTests := true, laidLooks := .later }
def FnCutRunsUptoCardSaid : Prop := Claim7.holds Tryz.pinned (.plain (OpenSpec.upto fnCutRunsSpec)) fnCutRunsUptoCard

/-- THE SECOND FORM's CARD OF 'laws.FnFoldRuns'. -/
def fnFoldRunsUptoCard : Claim7 := { stood := { row := fnFoldRunsUptoRow, standIns := [], harness := (true, "0a03c7efb549f78a5ed5b9da9099b2c1e32b6db22e520883254631e6a382a9e9"), looks := true }, kinds := [], alts := [], laidByText := true, laidKinds := [.widerDeep, .mapped, .data], laidTests := true, laidLooks := .later }
def FnFoldRunsUptoCardSaid : Prop := Claim7.holds Tryz.pinned (.plain (OpenSpec.upto fnFoldRunsSpec)) fnFoldRunsUptoCard
end Rows
end Go.Proofs.YtokiapglmedipaaGreatDoor
