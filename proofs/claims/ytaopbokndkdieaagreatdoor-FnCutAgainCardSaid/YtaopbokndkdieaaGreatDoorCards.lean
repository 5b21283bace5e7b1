/-
  DERIVED. GIVEN WITH THE SEED: THE CARDS: each row of YtaopbokndkdieaaGreatDoorRows.lean that lists a variable, with what it lists TIED to the program's text (the seventh form; the later family's looks); each row that meets fmt, with fmt's text TOLD by the authors' own Lean function (tested against real Go, not proved from fmt's source: count such statements apart). THE CARD IS WHAT COUNTS. Prove the row's statement (the work); the ties are given (YtaopbokndkdieaaGreatDoorTie.lean); close each card by the builder's one call (the guide's Derived/Test/ToyasCard.lean, 'card_holds'). Laid BY PROGRAM, IN A SANDBOX (cutbox-door.mjs). By AI agents, Wed Nov 11 2026. No macro, syntax, notation, axiom, sorry.
-/
import Derived.Test.YtaopbokndkdieaaGreatDoorRows
import GoSem.ClaimSeven
namespace Go.Proofs.YtaopbokndkdieaaGreatDoor
namespace Rows

/-- THE TIED CARD OF 'laws.FnExactCutProgram'. -/
def fnExactCutProgramCard : Claim7 := { stood := { row := fnExactCutProgramRow, standIns := [], harness := (true, "1e635009ea3b62e2741219c522759ac100973a2d6bf7adfcc7fae70cf5d30bab"), looks := false }, kinds := [], alts := [], laidByText := true, laidKinds := [.widerDeep, .mapped], laidTests := true, laidLooks := .later }
def FnExactCutProgramCardSaid : Prop := Claim7.holds Tryz.pinned (.plain (OpenSpec.ofChange fnExactCutProgramSpec)) fnExactCutProgramCard

/-- THE TIED CARD OF 'laws.FnExactFoldProgram'. -/
def fnExactFoldProgramCard : Claim7 := { stood := { row := fnExactFoldProgramRow, standIns := [], harness := (true, "1e635009ea3b62e2741219c522759ac100973a2d6bf7adfcc7fae70cf5d30bab"), looks := false }, kinds := [], alts := [], laidByText := true, laidKinds := [.widerDeep, .mapped], laidTests := true, laidLooks := .later }
def FnExactFoldProgramCardSaid : Prop := Claim7.holds Tryz.pinned (.plain (OpenSpec.ofChange fnExactFoldProgramSpec)) fnExactFoldProgramCard

/-- THE TIED CARD OF 'laws.FnExactIsSimple'. -/
def fnExactIsSimpleCard : Claim7 := { stood := { row := fnExactIsSimpleRow, standIns := [], harness := (true, "1e635009ea3b62e2741219c522759ac100973a2d6bf7adfcc7fae70cf5d30bab"), looks := false }, kinds := [], alts := [], laidByText := true, laidKinds := [.widerDeep, .mapped], laidTests := true, laidLooks := .later }
def FnExactIsSimpleCardSaid : Prop := Claim7.holds Tryz.pinned (.plain (OpenSpec.ofChange fnExactIsSimpleSpec)) fnExactIsSimpleCard

/-- THE TIED CARD OF 'laws.FnIsSimple'. -/
def fnIsSimpleCard : Claim7 := { stood := { row := fnIsSimpleRow, standIns := [], harness := (true, "1e635009ea3b62e2741219c522759ac100973a2d6bf7adfcc7fae70cf5d30bab"), looks := false }, kinds := [], alts := [], laidByText := true, laidKinds := [.widerDeep, .mapped], laidTests := true, laidLooks := .later }
def FnIsSimpleCardSaid : Prop := Claim7.holds Tryz.pinned (.plain (OpenSpec.ofChange fnIsSimpleSpec)) fnIsSimpleCard

/-- THE TIED CARD OF 'laws.FnCutAgain'. -/
def fnCutAgainCard : Claim7 := { stood := { row := fnCutAgainRow, standIns := [], harness := (true, "1e635009ea3b62e2741219c522759ac100973a2d6bf7adfcc7fae70cf5d30bab"), looks := false }, kinds := [], alts := [], laidByText := true, laidKinds := [.widerDeep, .mapped], laidTests := true, laidLooks := .later }
def FnCutAgainCardSaid : Prop := Claim7.holds Tryz.pinned (.plain (OpenSpec.ofChange fnCutAgainSpec)) fnCutAgainCard

/-- THE SECOND FORM's CARD OF 'laws.FnExactCutProgram'. -/
def fnExactCutProgramUptoCard : Claim7 := { stood := { row := fnExactCutProgramUptoRow, standIns := [], harness := (true, "1e635009ea3b62e2741219c522759ac100973a2d6bf7adfcc7fae70cf5d30bab"), looks := false }, kinds := [], alts := [], laidByText := true, laidKinds := [.widerDeep, .mapped], laidTests := true, laidLooks := .later }
def FnExactCutProgramUptoCardSaid : Prop := Claim7.holds Tryz.pinned (.plain (OpenSpec.upto fnExactCutProgramSpec)) fnExactCutProgramUptoCard

/-- THE SECOND FORM's CARD OF 'laws.FnExactFoldProgram'. -/
def fnExactFoldProgramUptoCard : Claim7 := { stood := { row := fnExactFoldProgramUptoRow, standIns := [], harness := (true, "1e635009ea3b62e2741219c522759ac100973a2d6bf7adfcc7fae70cf5d30bab"), looks := false }, kinds := [], alts := [], laidByText := true, laidKinds := [.widerDeep, .mapped], laidTests := true, laidLooks := .later }
def FnExactFoldProgramUptoCardSaid : Prop := Claim7.holds Tryz.pinned (.plain (OpenSpec.upto fnExactFoldProgramSpec)) fnExactFoldProgramUptoCard

/-- THE SECOND FORM's CARD OF 'laws.FnExactIsSimple'. -/
def fnExactIsSimpleUptoCard : Claim7 := { stood := { row := fnExactIsSimpleUptoRow, standIns := [], harness := (true, "1e635009ea3b62e2741219c522759ac100973a2d6bf7adfcc7fae70cf5d30bab"), looks := false }, kinds := [], alts := [], laidByText := true, laidKinds := [.widerDeep, .mapped], laidTests := true, laidLooks := .later }
def FnExactIsSimpleUptoCardSaid : Prop := Claim7.holds Tryz.pinned (.plain (OpenSpec.upto fnExactIsSimpleSpec)) fnExactIsSimpleUptoCard

/-- THE SECOND FORM's CARD OF 'laws.FnIsSimple'. -/
def fnIsSimpleUptoCard : Claim7 := { stood := { row := fnIsSimpleUptoRow, standIns := [], harness := (true, "1e635009ea3b62e2741219c522759ac100973a2d6bf7adfcc7fae70cf5d30bab"), looks := false }, kinds := [], alts := [], laidByText := true, laidKinds := [.widerDeep, .mapped], laidTests := true, laidLooks := .later }
def FnIsSimpleUptoCardSaid : Prop := Claim7.holds Tryz.pinned (.plain (OpenSpec.upto fnIsSimpleSpec)) fnIsSimpleUptoCard

/-- THE SECOND FORM's CARD OF 'laws.FnCutAgain'. -/
def fnCutAgainUptoCard : Claim7 := { stood := { row := fnCutAgainUptoRow, standIns := [], harness := (true, "1e635009ea3b62e2741219c522759ac100973a2d6bf7adfcc7fae70cf5d30bab"), looks := false }, kinds := [], alts := [], laidByText := true, laidKinds := [.widerDeep, .mapped], laidTests := true, laidLooks := .later }
def FnCutAgainUptoCardSaid : Prop := Claim7.holds Tryz.pinned (.plain (OpenSpec.upto fnCutAgainSpec)) fnCutAgainUptoCard
end Rows
end Go.Proofs.YtaopbokndkdieaaGreatDoor
