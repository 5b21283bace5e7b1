/-
  DERIVED. GIVEN WITH THE SEED: THE CARDS: each row of YtghpabfdmbdpfaaGreatDoorRows.lean that lists a variable, with what it lists TIED to the program's text (the seventh form; the later family's looks); each row that meets fmt, with fmt's text TOLD by the authors' own Lean function (tested against real Go, not proved from fmt's source: count such statements apart). THE CARD IS WHAT COUNTS. Prove the row's statement (the work); the ties are given (YtghpabfdmbdpfaaGreatDoorTie.lean); close each card by the builder's one call (the guide's Derived/Test/ToyasCard.lean, 'card_holds'). Laid BY PROGRAM, IN A SANDBOX (cutbox-door.mjs). By AI agents, Wed Nov 11 2026. No macro, syntax, notation, axiom, sorry.
-/
import Derived.Test.YtghpabfdmbdpfaaGreatDoorRows
import GoSem.ClaimSeven
namespace Go.Proofs.YtghpabfdmbdpfaaGreatDoor
namespace Rows

/-- THE TIED CARD OF 'laws.FnLowerBlocks'. -/
def fnLowerBlocksCard : Claim7 := { stood := { row := fnLowerBlocksRow, standIns := [], harness := (true, "009108a4496e17e79125824aea4694524d3e0f61443cde34430736581dc089cd"), looks := false }, kinds := [], alts := [], laidByText := true, laidKinds := [.widerDeep, .mapped], laidTests := true, laidLooks := .later }
def FnLowerBlocksCardSaid : Prop := Claim7.holds Tryz.pinned (.plain (OpenSpec.ofChange fnLowerBlocksSpec)) fnLowerBlocksCard

/-- THE TIED CARD OF 'laws.FnExactLowerBlocks'. -/
def fnExactLowerBlocksCard : Claim7 := { stood := { row := fnExactLowerBlocksRow, standIns := [], harness := (true, "009108a4496e17e79125824aea4694524d3e0f61443cde34430736581dc089cd"), looks := false }, kinds := [], alts := [], laidByText := true, laidKinds := [.widerDeep, .mapped], laidTests := true, laidLooks := .later }
def FnExactLowerBlocksCardSaid : Prop := Claim7.holds Tryz.pinned (.plain (OpenSpec.ofChange fnExactLowerBlocksSpec)) fnExactLowerBlocksCard

/-- THE TIED CARD OF 'laws.FnExactLowerSize'. -/
def fnExactLowerSizeCard : Claim7 := { stood := { row := fnExactLowerSizeRow, standIns := [], harness := (true, "009108a4496e17e79125824aea4694524d3e0f61443cde34430736581dc089cd"), looks := false }, kinds := [], alts := [], laidByText := true, laidKinds := [.widerDeep, .mapped], laidTests := true, laidLooks := .later }
def FnExactLowerSizeCardSaid : Prop := Claim7.holds Tryz.pinned (.plain (OpenSpec.ofChange fnExactLowerSizeSpec)) fnExactLowerSizeCard

/-- THE TIED CARD OF 'laws.FnLowerSize'. -/
def fnLowerSizeCard : Claim7 := { stood := { row := fnLowerSizeRow, standIns := [], harness := (true, "009108a4496e17e79125824aea4694524d3e0f61443cde34430736581dc089cd"), looks := false }, kinds := [], alts := [], laidByText := true, laidKinds := [.widerDeep, .mapped], laidTests := true, laidLooks := .later }
def FnLowerSizeCardSaid : Prop := Claim7.holds Tryz.pinned (.plain (OpenSpec.ofChange fnLowerSizeSpec)) fnLowerSizeCard

/-- THE TIED CARD OF 'laws.FnExactVarReg'. -/
def fnExactVarRegCard : Claim7 := { stood := { row := fnExactVarRegRow, standIns := [], harness := (true, "009108a4496e17e79125824aea4694524d3e0f61443cde34430736581dc089cd"), looks := false }, kinds := [], alts := [], laidByText := true, laidKinds := [.widerDeep, .mapped], laidTests := true, laidLooks := .later }
def FnExactVarRegCardSaid : Prop := Claim7.holds Tryz.pinned (.plain (OpenSpec.ofChange fnExactVarRegSpec)) fnExactVarRegCard

/-- THE TIED CARD OF 'laws.FnVarReg'. -/
def fnVarRegCard : Claim7 := { stood := { row := fnVarRegRow, standIns := [], harness := (true, "009108a4496e17e79125824aea4694524d3e0f61443cde34430736581dc089cd"), looks := false }, kinds := [], alts := [], laidByText := true, laidKinds := [.widerDeep, .mapped], laidTests := true, laidLooks := .later }
def FnVarRegCardSaid : Prop := Claim7.holds Tryz.pinned (.plain (OpenSpec.ofChange fnVarRegSpec)) fnVarRegCard

/-- THE SECOND FORM's CARD OF 'laws.FnLowerBlocks'. -/
def fnLowerBlocksUptoCard : Claim7 := { stood := { row := fnLowerBlocksUptoRow, standIns := [], harness := (true, "009108a4496e17e79125824aea4694524d3e0f61443cde34430736581dc089cd"), looks := false }, kinds := [], alts := [], laidByText := true, laidKinds := [.widerDeep, .mapped], laidTests := true, laidLooks := .later }
def FnLowerBlocksUptoCardSaid : Prop := Claim7.holds Tryz.pinned (.plain (OpenSpec.upto fnLowerBlocksSpec)) fnLowerBlocksUptoCard

/-- THE SECOND FORM's CARD OF 'laws.FnExactLowerBlocks'. -/
def fnExactLowerBlocksUptoCard : Claim7 := { stood := { row := fnExactLowerBlocksUptoRow, standIns := [], harness := (true, "009108a4496e17e79125824aea4694524d3e0f61443cde34430736581dc089cd"), looks := false }, kinds := [], alts := [], laidByText := true, laidKinds := [.widerDeep, .mapped], laidTests := true, laidLooks := .later }
def FnExactLowerBlocksUptoCardSaid : Prop := Claim7.holds Tryz.pinned (.plain (OpenSpec.upto fnExactLowerBlocksSpec)) fnExactLowerBlocksUptoCard

/-- THE SECOND FORM's CARD OF 'laws.FnExactLowerSize'. -/
def fnExactLowerSizeUptoCard : Claim7 := { stood := { row := fnExactLowerSizeUptoRow, standIns := [], harness := (true, "009108a4496e17e79125824aea4694524d3e0f61443cde34430736581dc089cd"), looks := false }, kinds := [], alts := [], laidByText := true, laidKinds := [.widerDeep, .mapped], laidTests := true, laidLooks := .later }
def FnExactLowerSizeUptoCardSaid : Prop := Claim7.holds Tryz.pinned (.plain (OpenSpec.upto fnExactLowerSizeSpec)) fnExactLowerSizeUptoCard

/-- THE SECOND FORM's CARD OF 'laws.FnLowerSize'. -/
def fnLowerSizeUptoCard : Claim7 := { stood := { row := fnLowerSizeUptoRow, standIns := [], harness := (true, "009108a4496e17e79125824aea4694524d3e0f61443cde34430736581dc089cd"), looks := false }, kinds := [], alts := [], laidByText := true, laidKinds := [.widerDeep, .mapped], laidTests := true, laidLooks := .later }
def FnLowerSizeUptoCardSaid : Prop := Claim7.holds Tryz.pinned (.plain (OpenSpec.upto fnLowerSizeSpec)) fnLowerSizeUptoCard

/-- THE SECOND FORM's CARD OF 'laws.FnExactVarReg'. -/
def fnExactVarRegUptoCard : Claim7 := { stood := { row := fnExactVarRegUptoRow, standIns := [], harness := (true, "009108a4496e17e79125824aea4694524d3e0f61443cde34430736581dc089cd"), looks := false }, kinds := [], alts := [], laidByText := true, laidKinds := [.widerDeep, .mapped], laidTests := true, laidLooks := .later }
def FnExactVarRegUptoCardSaid : Prop := Claim7.holds Tryz.pinned (.plain (OpenSpec.upto fnExactVarRegSpec)) fnExactVarRegUptoCard

/-- THE SECOND FORM's CARD OF 'laws.FnVarReg'. -/
def fnVarRegUptoCard : Claim7 := { stood := { row := fnVarRegUptoRow, standIns := [], harness := (true, "009108a4496e17e79125824aea4694524d3e0f61443cde34430736581dc089cd"), looks := false }, kinds := [], alts := [], laidByText := true, laidKinds := [.widerDeep, .mapped], laidTests := true, laidLooks := .later }
def FnVarRegUptoCardSaid : Prop := Claim7.holds Tryz.pinned (.plain (OpenSpec.upto fnVarRegSpec)) fnVarRegUptoCard
end Rows
end Go.Proofs.YtghpabfdmbdpfaaGreatDoor
