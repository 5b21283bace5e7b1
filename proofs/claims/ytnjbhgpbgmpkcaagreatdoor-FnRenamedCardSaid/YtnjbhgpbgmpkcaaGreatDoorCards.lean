/-
  DERIVED. GIVEN WITH THE SEED: THE CARDS: each row of YtnjbhgpbgmpkcaaGreatDoorRows.lean that lists a variable, with what it lists TIED to the program's text (the seventh form; the later family's looks); each row that meets fmt, with fmt's text TOLD by the authors' own Lean function (tested against real Go, not proved from fmt's source: count such statements apart). THE CARD IS WHAT COUNTS. Prove the row's statement (the work); the ties are given (YtnjbhgpbgmpkcaaGreatDoorTie.lean); close each card by the builder's one call (the guide's Derived/Test/ToyasCard.lean, 'card_holds'). Laid BY PROGRAM, IN A SANDBOX (cutbox-door.mjs). By AI agents, Wed Nov 11 2026. No macro, syntax, notation, axiom, sorry.
-/
import Derived.Test.YtnjbhgpbgmpkcaaGreatDoorRows
import GoSem.ClaimSeven
namespace Go.Proofs.YtnjbhgpbgmpkcaaGreatDoor
namespace Rows

/-- THE TIED CARD OF 'laws.FnExactInputsFor'. -/
def fnExactInputsForCard : Claim7 := { stood := { row := fnExactInputsForRow, standIns := [], harness := (true, "6298dc8b7d06c8d96219082422c8ab380101c8fb656283aa2a0c74e55e498d83"), looks := false }, kinds := [], alts := [], laidByText := true, laidKinds := [.widerDeep, .mapped, .data], laidTests := true, laidLooks := .later }
def FnExactInputsForCardSaid : Prop := Claim7.holds Tryz.pinned (.plain (OpenSpec.ofChange fnExactInputsForSpec)) fnExactInputsForCard

/-- THE TIED CARD OF 'laws.FnExactIsRenamed'. -/
def fnExactIsRenamedCard : Claim7 := { stood := { row := fnExactIsRenamedRow, standIns := [], harness := (true, "6298dc8b7d06c8d96219082422c8ab380101c8fb656283aa2a0c74e55e498d83"), looks := false }, kinds := [], alts := [], laidByText := true, laidKinds := [.widerDeep, .mapped], laidTests := true, laidLooks := .later }
def FnExactIsRenamedCardSaid : Prop := Claim7.holds Tryz.pinned (.plain (OpenSpec.ofChange fnExactIsRenamedSpec)) fnExactIsRenamedCard

/-- THE TIED CARD OF 'laws.FnIsRenamed'. -/
def fnIsRenamedCard : Claim7 := { stood := { row := fnIsRenamedRow, standIns := [], harness := (true, "6298dc8b7d06c8d96219082422c8ab380101c8fb656283aa2a0c74e55e498d83"), looks := false }, kinds := [], alts := [], laidByText := true, laidKinds := [.widerDeep, .mapped], laidTests := true, laidLooks := .later }
def FnIsRenamedCardSaid : Prop := Claim7.holds Tryz.pinned (.plain (OpenSpec.ofChange fnIsRenamedSpec)) fnIsRenamedCard

/-- THE TIED CARD OF 'laws.FnExactRenameProgram'. -/
def fnExactRenameProgramCard : Claim7 := { stood := { row := fnExactRenameProgramRow, standIns := [], harness := (true, "6298dc8b7d06c8d96219082422c8ab380101c8fb656283aa2a0c74e55e498d83"), looks := false }, kinds := [], alts := [], laidByText := true, laidKinds := [.widerDeep, .mapped], laidTests := true, laidLooks := .later }
def FnExactRenameProgramCardSaid : Prop := Claim7.holds Tryz.pinned (.plain (OpenSpec.ofChange fnExactRenameProgramSpec)) fnExactRenameProgramCard

/-- THE TIED CARD OF 'laws.FnCalled'. -/
def fnCalledCard : Claim7 := { stood := { row := fnCalledRow, standIns := [], harness := (true, "6298dc8b7d06c8d96219082422c8ab380101c8fb656283aa2a0c74e55e498d83"), looks := false }, kinds := [], alts := [], laidByText := true, laidKinds := [.widerDeep, .mapped], laidTests := true, laidLooks := .later }
def FnCalledCardSaid : Prop := Claim7.holds Tryz.pinned (.plain (OpenSpec.ofChange fnCalledSpec)) fnCalledCard

/-- THE TIED CARD OF 'laws.FnNeeded'. -/
def fnNeededCard : Claim7 := { stood := { row := fnNeededRow, standIns := [], harness := (true, "6298dc8b7d06c8d96219082422c8ab380101c8fb656283aa2a0c74e55e498d83"), looks := false }, kinds := [], alts := [], laidByText := true, laidKinds := [.widerDeep, .mapped], laidTests := true, laidLooks := .later }
def FnNeededCardSaid : Prop := Claim7.holds Tryz.pinned (.plain (OpenSpec.ofChange fnNeededSpec)) fnNeededCard

/-- THE TIED CARD OF 'laws.FnExactCalledBy'. -/
def fnExactCalledByCard : Claim7 := { stood := { row := fnExactCalledByRow, standIns := [], harness := (true, "6298dc8b7d06c8d96219082422c8ab380101c8fb656283aa2a0c74e55e498d83"), looks := false }, kinds := [], alts := [], laidByText := true, laidKinds := [.widerDeep, .mapped], laidTests := true, laidLooks := .later }
def FnExactCalledByCardSaid : Prop := Claim7.holds Tryz.pinned (.plain (OpenSpec.ofChange fnExactCalledBySpec)) fnExactCalledByCard

/-- THE TIED CARD OF 'laws.FnExactNeededIn'. -/
def fnExactNeededInCard : Claim7 := { stood := { row := fnExactNeededInRow, standIns := [], harness := (true, "6298dc8b7d06c8d96219082422c8ab380101c8fb656283aa2a0c74e55e498d83"), looks := false }, kinds := [], alts := [], laidByText := true, laidKinds := [.widerDeep, .mapped], laidTests := true, laidLooks := .later }
def FnExactNeededInCardSaid : Prop := Claim7.holds Tryz.pinned (.plain (OpenSpec.ofChange fnExactNeededInSpec)) fnExactNeededInCard

/-- THE TIED CARD OF 'laws.FnRenamed'. -/
def fnRenamedCard : Claim7 := { stood := { row := fnRenamedRow, standIns := [], harness := (true, "6298dc8b7d06c8d96219082422c8ab380101c8fb656283aa2a0c74e55e498d83"), looks := false }, kinds := [], alts := [], laidByText := true, laidKinds := [.widerDeep, .mapped], laidTests := true, laidLooks := .later }
def FnRenamedCardSaid : Prop := Claim7.holds Tryz.pinned (.plain (OpenSpec.ofChange fnRenamedSpec)) fnRenamedCard

/-- THE SECOND FORM's CARD OF 'laws.FnExactInputsFor'. -/
def fnExactInputsForUptoCard : Claim7 := { stood := { row := fnExactInputsForUptoRow, standIns := [], harness := (true, "6298dc8b7d06c8d96219082422c8ab380101c8fb656283aa2a0c74e55e498d83"), looks := false }, kinds := [], alts := [], laidByText := true, laidKinds := [.widerDeep, .mapped, .data], laidTests := true, laidLooks := .later }
def FnExactInputsForUptoCardSaid : Prop := Claim7.holds Tryz.pinned (.plain (OpenSpec.upto fnExactInputsForSpec)) fnExactInputsForUptoCard

/-- THE SECOND FORM's CARD OF 'laws.FnExactIsRenamed'. -/
def fnExactIsRenamedUptoCard : Claim7 := { stood := { row := fnExactIsRenamedUptoRow, standIns := [], harness := (true, "6298dc8b7d06c8d96219082422c8ab380101c8fb656283aa2a0c74e55e498d83"), looks := false }, kinds := [], alts := [], laidByText := true, laidKinds := [.widerDeep, .mapped], laidTests := true, laidLooks := .later }
def FnExactIsRenamedUptoCardSaid : Prop := Claim7.holds Tryz.pinned (.plain (OpenSpec.upto fnExactIsRenamedSpec)) fnExactIsRenamedUptoCard

/-- THE SECOND FORM's CARD OF 'laws.FnIsRenamed'. -/
def fnIsRenamedUptoCard : Claim7 := { stood := { row := fnIsRenamedUptoRow, standIns := [], harness := (true, "6298dc8b7d06c8d96219082422c8ab380101c8fb656283aa2a0c74e55e498d83"), looks := false }, kinds := [], alts := [], laidByText := true, laidKinds := [.widerDeep, .mapped], laidTests := true, laidLooks := .later }
def FnIsRenamedUptoCardSaid : Prop := Claim7.holds Tryz.pinned (.plain (OpenSpec.upto fnIsRenamedSpec)) fnIsRenamedUptoCard

/-- THE SECOND FORM's CARD OF 'laws.FnExactRenameProgram'. -/
def fnExactRenameProgramUptoCard : Claim7 := { stood := { row := fnExactRenameProgramUptoRow, standIns := [], harness := (true, "6298dc8b7d06c8d96219082422c8ab380101c8fb656283aa2a0c74e55e498d83"), looks := false }, kinds := [], alts := [], laidByText := true, laidKinds := [.widerDeep, .mapped], laidTests := true, laidLooks := .later }
def FnExactRenameProgramUptoCardSaid : Prop := Claim7.holds Tryz.pinned (.plain (OpenSpec.upto fnExactRenameProgramSpec)) fnExactRenameProgramUptoCard

/-- THE SECOND FORM's CARD OF 'laws.FnCalled'. -/
def fnCalledUptoCard : Claim7 := { stood := { row := fnCalledUptoRow, standIns := [], harness := (true, "6298dc8b7d06c8d96219082422c8ab380101c8fb656283aa2a0c74e55e498d83"), looks := false }, kinds := [], alts := [], laidByText := true, laidKinds := [.widerDeep, .mapped], laidTests := true, laidLooks := .later }
def FnCalledUptoCardSaid : Prop := Claim7.holds Tryz.pinned (.plain (OpenSpec.upto fnCalledSpec)) fnCalledUptoCard

/-- THE SECOND FORM's CARD OF 'laws.FnNeeded'. -/
def fnNeededUptoCard : Claim7 := { stood := { row := fnNeededUptoRow, standIns := [], harness := (true, "6298dc8b7d06c8d96219082422c8ab380101c8fb656283aa2a0c74e55e498d83"), looks := false }, kinds := [], alts := [], laidByText := true, laidKinds := [.widerDeep, .mapped], laidTests := true, laidLooks := .later }
def FnNeededUptoCardSaid : Prop := Claim7.holds Tryz.pinned (.plain (OpenSpec.upto fnNeededSpec)) fnNeededUptoCard

/-- THE SECOND FORM's CARD OF 'laws.FnExactCalledBy'. -/
def fnExactCalledByUptoCard : Claim7 := { stood := { row := fnExactCalledByUptoRow, standIns := [], harness := (true, "6298dc8b7d06c8d96219082422c8ab380101c8fb656283aa2a0c74e55e498d83"), looks := false }, kinds := [], alts := [], laidByText := true, laidKinds := [.widerDeep, .mapped], laidTests := true, laidLooks := .later }
def FnExactCalledByUptoCardSaid : Prop := Claim7.holds Tryz.pinned (.plain (OpenSpec.upto fnExactCalledBySpec)) fnExactCalledByUptoCard

/-- THE SECOND FORM's CARD OF 'laws.FnExactNeededIn'. -/
def fnExactNeededInUptoCard : Claim7 := { stood := { row := fnExactNeededInUptoRow, standIns := [], harness := (true, "6298dc8b7d06c8d96219082422c8ab380101c8fb656283aa2a0c74e55e498d83"), looks := false }, kinds := [], alts := [], laidByText := true, laidKinds := [.widerDeep, .mapped], laidTests := true, laidLooks := .later }
def FnExactNeededInUptoCardSaid : Prop := Claim7.holds Tryz.pinned (.plain (OpenSpec.upto fnExactNeededInSpec)) fnExactNeededInUptoCard

/-- THE SECOND FORM's CARD OF 'laws.FnRenamed'. -/
def fnRenamedUptoCard : Claim7 := { stood := { row := fnRenamedUptoRow, standIns := [], harness := (true, "6298dc8b7d06c8d96219082422c8ab380101c8fb656283aa2a0c74e55e498d83"), looks := false }, kinds := [], alts := [], laidByText := true, laidKinds := [.widerDeep, .mapped], laidTests := true, laidLooks := .later }
def FnRenamedUptoCardSaid : Prop := Claim7.holds Tryz.pinned (.plain (OpenSpec.upto fnRenamedSpec)) fnRenamedUptoCard
end Rows
end Go.Proofs.YtnjbhgpbgmpkcaaGreatDoor
