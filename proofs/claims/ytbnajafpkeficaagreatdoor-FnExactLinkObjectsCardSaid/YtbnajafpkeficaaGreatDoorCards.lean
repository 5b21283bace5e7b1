/-
  DERIVED. GIVEN WITH THE SEED: THE CARDS: each row of YtbnajafpkeficaaGreatDoorRows.lean that lists a variable, with what it lists TIED to the program's text (the seventh form; the later family's looks); each row that meets fmt, with fmt's text TOLD by the authors' own Lean function (tested against real Go, not proved from fmt's source: count such statements apart). THE CARD IS WHAT COUNTS. Prove the row's statement (the work); the ties are given (YtbnajafpkeficaaGreatDoorTie.lean); close each card by the builder's one call (the guide's Derived/Test/ToyasCard.lean, 'card_holds'). Laid BY PROGRAM, IN A SANDBOX (cutbox-door.mjs). By AI agents, Wed Nov 11 2026. No macro, syntax, notation, axiom, sorry.
-/
import Derived.Test.YtbnajafpkeficaaGreatDoorRows
import GoSem.ClaimSeven
namespace Go.Proofs.YtbnajafpkeficaaGreatDoor
namespace Rows

/-- THE TIED CARD OF 'laws.FnExactLinkOrder'. -/
def fnExactLinkOrderCard : Claim7 := { stood := { row := fnExactLinkOrderRow, standIns := [], harness := (true, "aa4209571bb505cef8fe2af49b09f21d00e09ad2c320975ae5c27c5423209888"), looks := false }, kinds := [], alts := [], laidByText := true, laidKinds := [.widerDeep, .widerDeep], laidTests := true, laidLooks := .later }
def FnExactLinkOrderCardSaid : Prop := Claim7.holds Tryz.pinned (.plain (OpenSpec.ofChange fnExactLinkOrderSpec)) fnExactLinkOrderCard

/-- THE TIED CARD OF 'laws.FnExactLinkObjects'. -/
def fnExactLinkObjectsCard : Claim7 := { stood := { row := fnExactLinkObjectsRow, standIns := [], harness := (true, "aa4209571bb505cef8fe2af49b09f21d00e09ad2c320975ae5c27c5423209888"), looks := false }, kinds := [], alts := [], laidByText := true, laidKinds := [.widerDeep, .widerDeep], laidTests := true, laidLooks := .later }
def FnExactLinkObjectsCardSaid : Prop := Claim7.holds Tryz.pinned (.plain (OpenSpec.ofChange fnExactLinkObjectsSpec)) fnExactLinkObjectsCard

/-- THE SECOND FORM's CARD OF 'laws.FnExactLinkOrder'. -/
def fnExactLinkOrderUptoCard : Claim7 := { stood := { row := fnExactLinkOrderUptoRow, standIns := [], harness := (true, "aa4209571bb505cef8fe2af49b09f21d00e09ad2c320975ae5c27c5423209888"), looks := false }, kinds := [], alts := [], laidByText := true, laidKinds := [.widerDeep, .widerDeep], laidTests := true, laidLooks := .later }
def FnExactLinkOrderUptoCardSaid : Prop := Claim7.holds Tryz.pinned (.plain (OpenSpec.upto fnExactLinkOrderSpec)) fnExactLinkOrderUptoCard

/-- THE SECOND FORM's CARD OF 'laws.FnExactLinkObjects'. -/
def fnExactLinkObjectsUptoCard : Claim7 := { stood := { row := fnExactLinkObjectsUptoRow, standIns := [], harness := (true, "aa4209571bb505cef8fe2af49b09f21d00e09ad2c320975ae5c27c5423209888"), looks := false }, kinds := [], alts := [], laidByText := true, laidKinds := [.widerDeep, .widerDeep], laidTests := true, laidLooks := .later }
def FnExactLinkObjectsUptoCardSaid : Prop := Claim7.holds Tryz.pinned (.plain (OpenSpec.upto fnExactLinkObjectsSpec)) fnExactLinkObjectsUptoCard
end Rows
end Go.Proofs.YtbnajafpkeficaaGreatDoor
