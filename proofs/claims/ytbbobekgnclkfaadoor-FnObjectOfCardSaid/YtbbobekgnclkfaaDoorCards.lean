/-
  DERIVED. GIVEN WITH THE SEED: THE CARDS: each row of YtbbobekgnclkfaaDoorRows.lean that lists a variable, with what it lists TIED to the program's text (the seventh form; the later family's looks); each row that meets fmt, with fmt's text TOLD by the authors' own Lean function (tested against real Go, not proved from fmt's source: count such statements apart). THE CARD IS WHAT COUNTS. Prove the row's statement (the work); the ties are given (YtbbobekgnclkfaaDoorTie.lean); close each card by the builder's one call (the guide's Derived/Test/ToyasCard.lean, 'card_holds'). Laid BY PROGRAM, IN A SANDBOX (cutbox-door.mjs). By AI agents, Wed Nov 11 2026. No macro, syntax, notation, axiom, sorry.
-/
import Derived.Test.YtbbobekgnclkfaaDoorRows
import GoSem.ClaimSeven
namespace Go.Proofs.YtbbobekgnclkfaaDoor
namespace Rows

/-- THE TIED CARD OF 'laws.FnExactImageOf'. -/
def fnExactImageOfCard : Claim7 := { stood := { row := fnExactImageOfRow, standIns := [], harness := (true, "041802cdaec9c58cddb4dfa1e7e92252f18c8a445e0c243b5710a2fcb7610551"), looks := false }, kinds := [], alts := [], laidByText := true, laidKinds := [.widerDeep, .widerDeep], laidTests := true, laidLooks := .later }
def FnExactImageOfCardSaid : Prop := Claim7.holds Tryd.pinned (.plain (OpenSpec.ofChange fnExactImageOfSpec)) fnExactImageOfCard

/-- THE TIED CARD OF 'laws.FnExactReadImage'. -/
def fnExactReadImageCard : Claim7 := { stood := { row := fnExactReadImageRow, standIns := [], harness := (true, "041802cdaec9c58cddb4dfa1e7e92252f18c8a445e0c243b5710a2fcb7610551"), looks := false }, kinds := [], alts := [], laidByText := true, laidKinds := [.widerDeep, .widerDeep], laidTests := true, laidLooks := .later }
def FnExactReadImageCardSaid : Prop := Claim7.holds Tryd.pinned (.plain (OpenSpec.ofChange fnExactReadImageSpec)) fnExactReadImageCard

/-- THE TIED CARD OF 'laws.FnObjectOf'. -/
def fnObjectOfCard : Claim7 := { stood := { row := fnObjectOfRow, standIns := [], harness := (true, "041802cdaec9c58cddb4dfa1e7e92252f18c8a445e0c243b5710a2fcb7610551"), looks := false }, kinds := [], alts := [], laidByText := true, laidKinds := [.widerDeep, .widerDeep], laidTests := true, laidLooks := .later }
def FnObjectOfCardSaid : Prop := Claim7.holds Tryd.pinned (.plain (OpenSpec.ofChange fnObjectOfSpec)) fnObjectOfCard

/-- THE TIED CARD OF 'laws.FnExactObjectValid'. -/
def fnExactObjectValidCard : Claim7 := { stood := { row := fnExactObjectValidRow, standIns := [], harness := (true, "041802cdaec9c58cddb4dfa1e7e92252f18c8a445e0c243b5710a2fcb7610551"), looks := false }, kinds := [], alts := [], laidByText := true, laidKinds := [.widerDeep, .widerDeep], laidTests := true, laidLooks := .later }
def FnExactObjectValidCardSaid : Prop := Claim7.holds Tryd.pinned (.plain (OpenSpec.ofChange fnExactObjectValidSpec)) fnExactObjectValidCard

/-- THE TIED CARD OF 'laws.FnExactObjectOf'. -/
def fnExactObjectOfCard : Claim7 := { stood := { row := fnExactObjectOfRow, standIns := [], harness := (true, "041802cdaec9c58cddb4dfa1e7e92252f18c8a445e0c243b5710a2fcb7610551"), looks := false }, kinds := [], alts := [], laidByText := true, laidKinds := [.widerDeep, .widerDeep], laidTests := true, laidLooks := .later }
def FnExactObjectOfCardSaid : Prop := Claim7.holds Tryd.pinned (.plain (OpenSpec.ofChange fnExactObjectOfSpec)) fnExactObjectOfCard

/-- THE TIED CARD OF 'laws.FnExactObjectCalls'. -/
def fnExactObjectCallsCard : Claim7 := { stood := { row := fnExactObjectCallsRow, standIns := [], harness := (true, "041802cdaec9c58cddb4dfa1e7e92252f18c8a445e0c243b5710a2fcb7610551"), looks := false }, kinds := [], alts := [], laidByText := true, laidKinds := [.widerDeep, .widerDeep], laidTests := true, laidLooks := .later }
def FnExactObjectCallsCardSaid : Prop := Claim7.holds Tryd.pinned (.plain (OpenSpec.ofChange fnExactObjectCallsSpec)) fnExactObjectCallsCard

/-- THE SECOND FORM's CARD OF 'laws.FnExactImageOf'. -/
def fnExactImageOfUptoCard : Claim7 := { stood := { row := fnExactImageOfUptoRow, standIns := [], harness := (true, "041802cdaec9c58cddb4dfa1e7e92252f18c8a445e0c243b5710a2fcb7610551"), looks := false }, kinds := [], alts := [], laidByText := true, laidKinds := [.widerDeep, .widerDeep], laidTests := true, laidLooks := .later }
def FnExactImageOfUptoCardSaid : Prop := Claim7.holds Tryd.pinned (.plain (OpenSpec.upto fnExactImageOfSpec)) fnExactImageOfUptoCard

/-- THE SECOND FORM's CARD OF 'laws.FnExactReadImage'. -/
def fnExactReadImageUptoCard : Claim7 := { stood := { row := fnExactReadImageUptoRow, standIns := [], harness := (true, "041802cdaec9c58cddb4dfa1e7e92252f18c8a445e0c243b5710a2fcb7610551"), looks := false }, kinds := [], alts := [], laidByText := true, laidKinds := [.widerDeep, .widerDeep], laidTests := true, laidLooks := .later }
def FnExactReadImageUptoCardSaid : Prop := Claim7.holds Tryd.pinned (.plain (OpenSpec.upto fnExactReadImageSpec)) fnExactReadImageUptoCard

/-- THE SECOND FORM's CARD OF 'laws.FnObjectOf'. -/
def fnObjectOfUptoCard : Claim7 := { stood := { row := fnObjectOfUptoRow, standIns := [], harness := (true, "041802cdaec9c58cddb4dfa1e7e92252f18c8a445e0c243b5710a2fcb7610551"), looks := false }, kinds := [], alts := [], laidByText := true, laidKinds := [.widerDeep, .widerDeep], laidTests := true, laidLooks := .later }
def FnObjectOfUptoCardSaid : Prop := Claim7.holds Tryd.pinned (.plain (OpenSpec.upto fnObjectOfSpec)) fnObjectOfUptoCard

/-- THE SECOND FORM's CARD OF 'laws.FnExactObjectValid'. -/
def fnExactObjectValidUptoCard : Claim7 := { stood := { row := fnExactObjectValidUptoRow, standIns := [], harness := (true, "041802cdaec9c58cddb4dfa1e7e92252f18c8a445e0c243b5710a2fcb7610551"), looks := false }, kinds := [], alts := [], laidByText := true, laidKinds := [.widerDeep, .widerDeep], laidTests := true, laidLooks := .later }
def FnExactObjectValidUptoCardSaid : Prop := Claim7.holds Tryd.pinned (.plain (OpenSpec.upto fnExactObjectValidSpec)) fnExactObjectValidUptoCard

/-- THE SECOND FORM's CARD OF 'laws.FnExactObjectOf'. -/
def fnExactObjectOfUptoCard : Claim7 := { stood := { row := fnExactObjectOfUptoRow, standIns := [], harness := (true, "041802cdaec9c58cddb4dfa1e7e92252f18c8a445e0c243b5710a2fcb7610551"), looks := false }, kinds := [], alts := [], laidByText := true, laidKinds := [.widerDeep, .widerDeep], laidTests := true, laidLooks := .later }
def FnExactObjectOfUptoCardSaid : Prop := Claim7.holds Tryd.pinned (.plain (OpenSpec.upto fnExactObjectOfSpec)) fnExactObjectOfUptoCard

/-- THE SECOND FORM's CARD OF 'laws.FnExactObjectCalls'. -/
def fnExactObjectCallsUptoCard : Claim7 := { stood := { row := fnExactObjectCallsUptoRow, standIns := [], harness := (true, "041802cdaec9c58cddb4dfa1e7e92252f18c8a445e0c243b5710a2fcb7610551"), looks := false }, kinds := [], alts := [], laidByText := true, laidKinds := [.widerDeep, .widerDeep], laidTests := true, laidLooks := .later }
def FnExactObjectCallsUptoCardSaid : Prop := Claim7.holds Tryd.pinned (.plain (OpenSpec.upto fnExactObjectCallsSpec)) fnExactObjectCallsUptoCard
end Rows
end Go.Proofs.YtbbobekgnclkfaaDoor
