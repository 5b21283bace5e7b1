/-
  DERIVED. GIVEN WITH THE SEED: THE CARDS: each row of YthfklclcofcpiaaGreatDoorRows.lean that lists a variable, with what it lists TIED to the program's text (the seventh form; the later family's looks); each row that meets fmt, with fmt's text TOLD by the authors' own Lean function (tested against real Go, not proved from fmt's source: count such statements apart). THE CARD IS WHAT COUNTS. Prove the row's statement (the work); the ties are given (YthfklclcofcpiaaGreatDoorTie.lean); close each card by the builder's one call (the guide's Derived/Test/ToyasCard.lean, 'card_holds'). Laid BY PROGRAM, IN A SANDBOX (cutbox-door.mjs). By AI agents, Wed Nov 11 2026. No macro, syntax, notation, axiom, sorry.
-/
import Derived.Test.YthfklclcofcpiaaGreatDoorRows
import GoSem.ClaimSeven
namespace Go.Proofs.YthfklclcofcpiaaGreatDoor
namespace Rows

/-- THE TIED CARD OF 'laws.FnExactCutProgram'. -/
def fnExactCutProgramCard : Claim7 := { stood := { row := fnExactCutProgramRow, standIns := [], harness := (true, "9b0ba218fa6e918addee77f241e11cb9b8a6bb69a8c34251c5f2478f20ce6562"), looks := false }, kinds := [], alts := [], laidByText := true, laidKinds := [.widerDeep, .mapped], laidTests := true, laidLooks := .later }
def FnExactCutProgramCardSaid : Prop := Claim7.holds Tryz.pinned (.plain (OpenSpec.ofChange fnExactCutProgramSpec)) fnExactCutProgramCard

/-- THE TIED CARD OF 'laws.FnExactFoldProgram'. -/
def fnExactFoldProgramCard : Claim7 := { stood := { row := fnExactFoldProgramRow, standIns := [], harness := (true, "9b0ba218fa6e918addee77f241e11cb9b8a6bb69a8c34251c5f2478f20ce6562"), looks := false }, kinds := [], alts := [], laidByText := true, laidKinds := [.widerDeep, .mapped], laidTests := true, laidLooks := .later }
def FnExactFoldProgramCardSaid : Prop := Claim7.holds Tryz.pinned (.plain (OpenSpec.ofChange fnExactFoldProgramSpec)) fnExactFoldProgramCard

/-- THE SECOND FORM's CARD OF 'laws.FnExactCutProgram'. -/
def fnExactCutProgramUptoCard : Claim7 := { stood := { row := fnExactCutProgramUptoRow, standIns := [], harness := (true, "9b0ba218fa6e918addee77f241e11cb9b8a6bb69a8c34251c5f2478f20ce6562"), looks := false }, kinds := [], alts := [], laidByText := true, laidKinds := [.widerDeep, .mapped], laidTests := true, laidLooks := .later }
def FnExactCutProgramUptoCardSaid : Prop := Claim7.holds Tryz.pinned (.plain (OpenSpec.upto fnExactCutProgramSpec)) fnExactCutProgramUptoCard

/-- THE SECOND FORM's CARD OF 'laws.FnExactFoldProgram'. -/
def fnExactFoldProgramUptoCard : Claim7 := { stood := { row := fnExactFoldProgramUptoRow, standIns := [], harness := (true, "9b0ba218fa6e918addee77f241e11cb9b8a6bb69a8c34251c5f2478f20ce6562"), looks := false }, kinds := [], alts := [], laidByText := true, laidKinds := [.widerDeep, .mapped], laidTests := true, laidLooks := .later }
def FnExactFoldProgramUptoCardSaid : Prop := Claim7.holds Tryz.pinned (.plain (OpenSpec.upto fnExactFoldProgramSpec)) fnExactFoldProgramUptoCard
end Rows
end Go.Proofs.YthfklclcofcpiaaGreatDoor
