/-
  DERIVED. GIVEN WITH THE SEED: THE CARDS: each row of YtiojgfhdcpppcaaDoorRows.lean that lists a variable, with what it lists TIED to the program's text (the seventh form; the later family's looks); each row that meets fmt, with fmt's text TOLD by the authors' own Lean function (tested against real Go, not proved from fmt's source: count such statements apart). THE CARD IS WHAT COUNTS. Prove the row's statement (the work); the ties are given (YtiojgfhdcpppcaaDoorTie.lean); close each card by the builder's one call (the guide's Derived/Test/ToyasCard.lean, 'card_holds'). Laid BY PROGRAM, IN A SANDBOX (cutbox-door.mjs). By AI agents, Wed Nov 11 2026. No macro, syntax, notation, axiom, sorry.
-/
import Derived.Test.YtiojgfhdcpppcaaDoorRows
import GoSem.ClaimSeven
namespace Go.Proofs.YtiojgfhdcpppcaaDoor
namespace Rows

/-- THE TIED CARD OF 'laws.FnExactCheckProgram'. -/
def fnExactCheckProgramCard : Claim7 := { stood := { row := fnExactCheckProgramRow, standIns := [], harness := (true, "de58aaf08c915173cde3dac80de1846d2b878f5692909243ca08248874403da3"), looks := false }, kinds := [], alts := [], laidByText := true, laidKinds := [.widerDeep, .mapped], laidTests := true, laidLooks := .later }
def FnExactCheckProgramCardSaid : Prop := Claim7.holds Tryd.pinned (.plain (OpenSpec.ofChange fnExactCheckProgramSpec)) fnExactCheckProgramCard

/-- THE TIED CARD OF 'laws.FnCheck'. -/
def fnCheckCard : Claim7 := { stood := { row := fnCheckRow, standIns := [], harness := (true, "de58aaf08c915173cde3dac80de1846d2b878f5692909243ca08248874403da3"), looks := false }, kinds := [], alts := [], laidByText := true, laidKinds := [.widerDeep, .mapped], laidTests := true, laidLooks := .later }
def FnCheckCardSaid : Prop := Claim7.holds Tryd.pinned (.plain (OpenSpec.ofChange fnCheckSpec)) fnCheckCard

/-- THE TIED CARD OF 'laws.FnExactCountVars'. -/
def fnExactCountVarsCard : Claim7 := { stood := { row := fnExactCountVarsRow, standIns := [], harness := (true, "de58aaf08c915173cde3dac80de1846d2b878f5692909243ca08248874403da3"), looks := false }, kinds := [], alts := [], laidByText := true, laidKinds := [.widerDeep, .mapped], laidTests := true, laidLooks := .later }
def FnExactCountVarsCardSaid : Prop := Claim7.holds Tryd.pinned (.plain (OpenSpec.ofChange fnExactCountVarsSpec)) fnExactCountVarsCard

/-- THE TIED CARD OF 'laws.FnCountVars'. -/
def fnCountVarsCard : Claim7 := { stood := { row := fnCountVarsRow, standIns := [], harness := (true, "de58aaf08c915173cde3dac80de1846d2b878f5692909243ca08248874403da3"), looks := false }, kinds := [], alts := [], laidByText := true, laidKinds := [.widerDeep, .mapped], laidTests := true, laidLooks := .later }
def FnCountVarsCardSaid : Prop := Claim7.holds Tryd.pinned (.plain (OpenSpec.ofChange fnCountVarsSpec)) fnCountVarsCard

/-- THE SECOND FORM's CARD OF 'laws.FnExactCheckProgram'. -/
def fnExactCheckProgramUptoCard : Claim7 := { stood := { row := fnExactCheckProgramUptoRow, standIns := [], harness := (true, "de58aaf08c915173cde3dac80de1846d2b878f5692909243ca08248874403da3"), looks := false }, kinds := [], alts := [], laidByText := true, laidKinds := [.widerDeep, .mapped], laidTests := true, laidLooks := .later }
def FnExactCheckProgramUptoCardSaid : Prop := Claim7.holds Tryd.pinned (.plain (OpenSpec.upto fnExactCheckProgramSpec)) fnExactCheckProgramUptoCard

/-- THE SECOND FORM's CARD OF 'laws.FnCheck'. -/
def fnCheckUptoCard : Claim7 := { stood := { row := fnCheckUptoRow, standIns := [], harness := (true, "de58aaf08c915173cde3dac80de1846d2b878f5692909243ca08248874403da3"), looks := false }, kinds := [], alts := [], laidByText := true, laidKinds := [.widerDeep, .mapped], laidTests := true, laidLooks := .later }
def FnCheckUptoCardSaid : Prop := Claim7.holds Tryd.pinned (.plain (OpenSpec.upto fnCheckSpec)) fnCheckUptoCard

/-- THE SECOND FORM's CARD OF 'laws.FnExactCountVars'. -/
def fnExactCountVarsUptoCard : Claim7 := { stood := { row := fnExactCountVarsUptoRow, standIns := [], harness := (true, "de58aaf08c915173cde3dac80de1846d2b878f5692909243ca08248874403da3"), looks := false }, kinds := [], alts := [], laidByText := true, laidKinds := [.widerDeep, .mapped], laidTests := true, laidLooks := .later }
def FnExactCountVarsUptoCardSaid : Prop := Claim7.holds Tryd.pinned (.plain (OpenSpec.upto fnExactCountVarsSpec)) fnExactCountVarsUptoCard

/-- THE SECOND FORM's CARD OF 'laws.FnCountVars'. -/
def fnCountVarsUptoCard : Claim7 := { stood := { row := fnCountVarsUptoRow, standIns := [], harness := (true, "de58aaf08c915173cde3dac80de1846d2b878f5692909243ca08248874403da3"), looks := false }, kinds := [], alts := [], laidByText := true, laidKinds := [.widerDeep, .mapped], laidTests := true, laidLooks := .later }
def FnCountVarsUptoCardSaid : Prop := Claim7.holds Tryd.pinned (.plain (OpenSpec.upto fnCountVarsSpec)) fnCountVarsUptoCard
end Rows
end Go.Proofs.YtiojgfhdcpppcaaDoor
