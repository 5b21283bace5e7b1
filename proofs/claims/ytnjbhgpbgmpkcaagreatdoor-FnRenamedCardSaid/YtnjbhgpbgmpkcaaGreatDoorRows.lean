/-
  NARROWER THAN 'FOR EVERY INPUT', by the rows' own cells (each row's printed sentence says how): FnExactInputsFor: loops, maps, laid · FnExactIsRenamed: loops, maps, laid · FnIsRenamed: maps, laid · FnExactRenameProgram: loops, maps, laid · FnCalled: maps, laid · FnNeeded: maps, laid · FnExactCalledBy: loops, maps, laid · FnExactNeededIn: loops, maps, laid · FnRenamed: maps, laid.
  DERIVED. THE GIVEN ROWS OF THIS SEAT. 9 by the template 'for every input the law returns true; each argument reads behind the call as it read before'; 0 by the template 'total and deterministic' (their statements: YtnjbhgpbgmpkcaaGreatDoorTotals.lean).
  GIVEN WITH THE SEED: the statements are not yours to turn. If you find one false, say at which input.
  Laid BY PROGRAM, IN A SANDBOX (cutbox-rows.mjs): the forced cells as the released guide's own fill.sh prints them over the translation 9d52f617f4f0b376… (all of the seat's roots in one cut). By AI agents, Wed Nov 11 2026. No macro, syntax, notation, axiom, sorry.
-/
import Derived.Test.YtnjbhgpbgmpkcaaGreatDoorChecked
import GoSem.Claim
import GoSem.ClaimJoined
import GoSem.ClaimMapViews
import Derived.JoinedTies
import Derived.KernelRfl
namespace Go.Proofs.YtnjbhgpbgmpkcaaGreatDoor
/- THE CELL 'sum', in the pinned program and in every row, IS THE sha256 OF THE DUMP (.gsa) THAT YtnjbhgpbgmpkcaaGreatDoorProg.lean LOADS. Nothing in Lean hashes anything: it is a label: what it is worth is what the hold of that sum in a sandbox is worth. -/
noncomputable def Tryz.pinned : Pinned := { name := "ytnjbhgpbgmpkcaagreatdoor", sum := "9d52f617f4f0b376748d029c0a7a02c11fe7705c3b9d68166afd418d47ef1ee6", checked := Tryz.checked }
namespace Rows
def none {H : Type} : Left H := { results := [], args := [] }

/- WHAT THE LISTED PACKAGE-LEVEL VARIABLES READ AS WHEN THE CALL BEGINS. Each datum BY PROGRAM (the guide's laid-datum.mjs) off the statement by which the dump's own 'gosem.cut.vars' lays the variable. In a bare row this is a premise. The card (YtnjbhgpbgmpkcaaGreatDoorCards.lean) ties it to the program's text. -/
def laid_loop_example_wholeway_impl_keys {H : Type} : DataW H := .agg [.lit (.string [102, 110]), .lit (.string [108, 101, 116]), .lit (.string [115, 97, 121]), .lit (.string [112, 117, 116]), .lit (.string [105, 102]), .lit (.string [101, 108, 115, 101]), .lit (.string [108, 111, 111, 112]), .lit (.string [98, 97, 99, 107]), .lit (.string [100, 111])]
def laid_loop_example_wholeway_impl_opSign {H : Type} : DataW H := .map [(.int .i64 3, .agg [.lit (.string [43]), .lit (.int .i64 3)]), (.int .i64 4, .agg [.lit (.string [45]), .lit (.int .i64 3)]), (.int .i64 5, .agg [.lit (.string [42]), .lit (.int .i64 4)]), (.int .i64 6, .agg [.lit (.string [47]), .lit (.int .i64 4)]), (.int .i64 7, .agg [.lit (.string [37]), .lit (.int .i64 4)]), (.int .i64 8, .agg [.lit (.string [60]), .lit (.int .i64 2)]), (.int .i64 9, .agg [.lit (.string [61]), .lit (.int .i64 2)]), (.int .i64 10, .agg [.lit (.string [38]), .lit (.int .i64 1)])]
def laid_loop_example_wholeway_impl_tries {H : Type} : DataW H := .agg [.agg [.lit (.int .i64 0), .lit (.int .i64 0), .lit (.int .i64 0)], .agg [.lit (.int .i64 1), .lit (.int .i64 2), .lit (.int .i64 3)], .agg [.lit (.int .i64 255), .lit (.int .i64 16), .lit (.int .i64 7)]]

/-- 'laws.FnExactInputsFor': WHATEVER THE INPUT: true; the input reads as it did. -/
def fnExactInputsForSpec : ChangeSpec := { name := "fnExactInputsFor", vars := ["loop.example/wholeway/impl.keys", "loop.example/wholeway/impl.opSign", "loop.example/wholeway/impl.tries"], fn := fun _ => fun
  | [d, g1, g2, g3] => { results := [.lit (.bool true)], args := [d], vars := [g1, g2, g3] }
  | _ => none }
def fnExactInputsForRow : OpenClaim := { program := "ytnjbhgpbgmpkcaagreatdoor", sum := "9d52f617f4f0b376748d029c0a7a02c11fe7705c3b9d68166afd418d47ef1ee6", func := "loop.example/wholeway/laws.FnExactInputsFor", spec := "fnExactInputsFor", unfollowed := true, recurses := true, named := ["loop.example/wholeway/impl.keys", "loop.example/wholeway/impl.opSign", "loop.example/wholeway/impl.tries"], maps := true, loops := true, apart := false, laid := [("loop.example/wholeway/impl.keys", laid_loop_example_wholeway_impl_keys), ("loop.example/wholeway/impl.opSign", laid_loop_example_wholeway_impl_opSign), ("loop.example/wholeway/impl.tries", laid_loop_example_wholeway_impl_tries)] }
def FnExactInputsForSaid : Prop := fnExactInputsForRow.holds Tryz.pinned (OpenSpec.ofChange fnExactInputsForSpec)

/-- ITS FALSE NEIGHBOUR: 'it returns false'. Refute it at one input. -/
def fnExactInputsForWrong : ChangeSpec := { name := "fnExactInputsFor", vars := ["loop.example/wholeway/impl.keys", "loop.example/wholeway/impl.opSign", "loop.example/wholeway/impl.tries"], fn := fun _ => fun
  | [d, g1, g2, g3] => { results := [.lit (.bool false)], args := [d], vars := [g1, g2, g3] }
  | _ => none }
def FnExactInputsForWrongFalsely : Prop := fnExactInputsForRow.holds Tryz.pinned (OpenSpec.ofChange fnExactInputsForWrong)

/-- 'laws.FnExactIsRenamed': WHATEVER THE INPUT: true; the input reads as it did. -/
def fnExactIsRenamedSpec : ChangeSpec := { name := "fnExactIsRenamed", vars := ["loop.example/wholeway/impl.keys", "loop.example/wholeway/impl.opSign"], fn := fun _ => fun
  | [d, g1, g2] => { results := [.lit (.bool true)], args := [d], vars := [g1, g2] }
  | _ => none }
def fnExactIsRenamedRow : OpenClaim := { program := "ytnjbhgpbgmpkcaagreatdoor", sum := "9d52f617f4f0b376748d029c0a7a02c11fe7705c3b9d68166afd418d47ef1ee6", func := "loop.example/wholeway/laws.FnExactIsRenamed", spec := "fnExactIsRenamed", unfollowed := true, recurses := true, named := ["loop.example/wholeway/impl.keys", "loop.example/wholeway/impl.opSign"], maps := true, loops := true, apart := false, laid := [("loop.example/wholeway/impl.keys", laid_loop_example_wholeway_impl_keys), ("loop.example/wholeway/impl.opSign", laid_loop_example_wholeway_impl_opSign)] }
def FnExactIsRenamedSaid : Prop := fnExactIsRenamedRow.holds Tryz.pinned (OpenSpec.ofChange fnExactIsRenamedSpec)

/-- ITS FALSE NEIGHBOUR: 'it returns false'. Refute it at one input. -/
def fnExactIsRenamedWrong : ChangeSpec := { name := "fnExactIsRenamed", vars := ["loop.example/wholeway/impl.keys", "loop.example/wholeway/impl.opSign"], fn := fun _ => fun
  | [d, g1, g2] => { results := [.lit (.bool false)], args := [d], vars := [g1, g2] }
  | _ => none }
def FnExactIsRenamedWrongFalsely : Prop := fnExactIsRenamedRow.holds Tryz.pinned (OpenSpec.ofChange fnExactIsRenamedWrong)

/-- 'laws.FnIsRenamed': WHATEVER THE INPUT: true; the input reads as it did. -/
def fnIsRenamedSpec : ChangeSpec := { name := "fnIsRenamed", vars := ["loop.example/wholeway/impl.keys", "loop.example/wholeway/impl.opSign"], fn := fun _ => fun
  | [d, g1, g2] => { results := [.lit (.bool true)], args := [d], vars := [g1, g2] }
  | _ => none }
def fnIsRenamedRow : OpenClaim := { program := "ytnjbhgpbgmpkcaagreatdoor", sum := "9d52f617f4f0b376748d029c0a7a02c11fe7705c3b9d68166afd418d47ef1ee6", func := "loop.example/wholeway/laws.FnIsRenamed", spec := "fnIsRenamed", unfollowed := true, recurses := true, named := ["loop.example/wholeway/impl.keys", "loop.example/wholeway/impl.opSign"], maps := true, apart := false, laid := [("loop.example/wholeway/impl.keys", laid_loop_example_wholeway_impl_keys), ("loop.example/wholeway/impl.opSign", laid_loop_example_wholeway_impl_opSign)] }
def FnIsRenamedSaid : Prop := fnIsRenamedRow.holds Tryz.pinned (OpenSpec.ofChange fnIsRenamedSpec)

/-- ITS FALSE NEIGHBOUR: 'it returns false'. Refute it at one input. -/
def fnIsRenamedWrong : ChangeSpec := { name := "fnIsRenamed", vars := ["loop.example/wholeway/impl.keys", "loop.example/wholeway/impl.opSign"], fn := fun _ => fun
  | [d, g1, g2] => { results := [.lit (.bool false)], args := [d], vars := [g1, g2] }
  | _ => none }
def FnIsRenamedWrongFalsely : Prop := fnIsRenamedRow.holds Tryz.pinned (OpenSpec.ofChange fnIsRenamedWrong)

/-- 'laws.FnExactRenameProgram': WHATEVER THE INPUT: true; the input reads as it did. -/
def fnExactRenameProgramSpec : ChangeSpec := { name := "fnExactRenameProgram", vars := ["loop.example/wholeway/impl.keys", "loop.example/wholeway/impl.opSign"], fn := fun _ => fun
  | [d, g1, g2] => { results := [.lit (.bool true)], args := [d], vars := [g1, g2] }
  | _ => none }
def fnExactRenameProgramRow : OpenClaim := { program := "ytnjbhgpbgmpkcaagreatdoor", sum := "9d52f617f4f0b376748d029c0a7a02c11fe7705c3b9d68166afd418d47ef1ee6", func := "loop.example/wholeway/laws.FnExactRenameProgram", spec := "fnExactRenameProgram", unfollowed := true, recurses := true, named := ["loop.example/wholeway/impl.keys", "loop.example/wholeway/impl.opSign"], maps := true, loops := true, apart := false, laid := [("loop.example/wholeway/impl.keys", laid_loop_example_wholeway_impl_keys), ("loop.example/wholeway/impl.opSign", laid_loop_example_wholeway_impl_opSign)] }
def FnExactRenameProgramSaid : Prop := fnExactRenameProgramRow.holds Tryz.pinned (OpenSpec.ofChange fnExactRenameProgramSpec)

/-- ITS FALSE NEIGHBOUR: 'it returns false'. Refute it at one input. -/
def fnExactRenameProgramWrong : ChangeSpec := { name := "fnExactRenameProgram", vars := ["loop.example/wholeway/impl.keys", "loop.example/wholeway/impl.opSign"], fn := fun _ => fun
  | [d, g1, g2] => { results := [.lit (.bool false)], args := [d], vars := [g1, g2] }
  | _ => none }
def FnExactRenameProgramWrongFalsely : Prop := fnExactRenameProgramRow.holds Tryz.pinned (OpenSpec.ofChange fnExactRenameProgramWrong)

/-- 'laws.FnCalled': WHATEVER THE INPUT: true; the input reads as it did. -/
def fnCalledSpec : ChangeSpec := { name := "fnCalled", vars := ["loop.example/wholeway/impl.keys", "loop.example/wholeway/impl.opSign"], fn := fun _ => fun
  | [d, g1, g2] => { results := [.lit (.bool true)], args := [d], vars := [g1, g2] }
  | _ => none }
def fnCalledRow : OpenClaim := { program := "ytnjbhgpbgmpkcaagreatdoor", sum := "9d52f617f4f0b376748d029c0a7a02c11fe7705c3b9d68166afd418d47ef1ee6", func := "loop.example/wholeway/laws.FnCalled", spec := "fnCalled", unfollowed := true, recurses := true, named := ["loop.example/wholeway/impl.keys", "loop.example/wholeway/impl.opSign"], maps := true, apart := false, laid := [("loop.example/wholeway/impl.keys", laid_loop_example_wholeway_impl_keys), ("loop.example/wholeway/impl.opSign", laid_loop_example_wholeway_impl_opSign)] }
def FnCalledSaid : Prop := fnCalledRow.holds Tryz.pinned (OpenSpec.ofChange fnCalledSpec)

/-- ITS FALSE NEIGHBOUR: 'it returns false'. Refute it at one input. -/
def fnCalledWrong : ChangeSpec := { name := "fnCalled", vars := ["loop.example/wholeway/impl.keys", "loop.example/wholeway/impl.opSign"], fn := fun _ => fun
  | [d, g1, g2] => { results := [.lit (.bool false)], args := [d], vars := [g1, g2] }
  | _ => none }
def FnCalledWrongFalsely : Prop := fnCalledRow.holds Tryz.pinned (OpenSpec.ofChange fnCalledWrong)

/-- 'laws.FnNeeded': WHATEVER THE INPUT: true; the input reads as it did. -/
def fnNeededSpec : ChangeSpec := { name := "fnNeeded", vars := ["loop.example/wholeway/impl.keys", "loop.example/wholeway/impl.opSign"], fn := fun _ => fun
  | [d, g1, g2] => { results := [.lit (.bool true)], args := [d], vars := [g1, g2] }
  | _ => none }
def fnNeededRow : OpenClaim := { program := "ytnjbhgpbgmpkcaagreatdoor", sum := "9d52f617f4f0b376748d029c0a7a02c11fe7705c3b9d68166afd418d47ef1ee6", func := "loop.example/wholeway/laws.FnNeeded", spec := "fnNeeded", unfollowed := true, recurses := true, named := ["loop.example/wholeway/impl.keys", "loop.example/wholeway/impl.opSign"], maps := true, apart := false, laid := [("loop.example/wholeway/impl.keys", laid_loop_example_wholeway_impl_keys), ("loop.example/wholeway/impl.opSign", laid_loop_example_wholeway_impl_opSign)] }
def FnNeededSaid : Prop := fnNeededRow.holds Tryz.pinned (OpenSpec.ofChange fnNeededSpec)

/-- ITS FALSE NEIGHBOUR: 'it returns false'. Refute it at one input. -/
def fnNeededWrong : ChangeSpec := { name := "fnNeeded", vars := ["loop.example/wholeway/impl.keys", "loop.example/wholeway/impl.opSign"], fn := fun _ => fun
  | [d, g1, g2] => { results := [.lit (.bool false)], args := [d], vars := [g1, g2] }
  | _ => none }
def FnNeededWrongFalsely : Prop := fnNeededRow.holds Tryz.pinned (OpenSpec.ofChange fnNeededWrong)

/-- 'laws.FnExactCalledBy': WHATEVER THE INPUT: true; the input reads as it did. -/
def fnExactCalledBySpec : ChangeSpec := { name := "fnExactCalledBy", vars := ["loop.example/wholeway/impl.keys", "loop.example/wholeway/impl.opSign"], fn := fun _ => fun
  | [d1, d2, g1, g2] => { results := [.lit (.bool true)], args := [d1, d2], vars := [g1, g2] }
  | _ => none }
def fnExactCalledByRow : OpenClaim := { program := "ytnjbhgpbgmpkcaagreatdoor", sum := "9d52f617f4f0b376748d029c0a7a02c11fe7705c3b9d68166afd418d47ef1ee6", func := "loop.example/wholeway/laws.FnExactCalledBy", spec := "fnExactCalledBy", unfollowed := true, recurses := true, named := ["loop.example/wholeway/impl.keys", "loop.example/wholeway/impl.opSign"], maps := true, loops := true, apart := false, laid := [("loop.example/wholeway/impl.keys", laid_loop_example_wholeway_impl_keys), ("loop.example/wholeway/impl.opSign", laid_loop_example_wholeway_impl_opSign)] }
def FnExactCalledBySaid : Prop := fnExactCalledByRow.holds Tryz.pinned (OpenSpec.ofChange fnExactCalledBySpec)

/-- ITS FALSE NEIGHBOUR: 'it returns false'. Refute it at one input. -/
def fnExactCalledByWrong : ChangeSpec := { name := "fnExactCalledBy", vars := ["loop.example/wholeway/impl.keys", "loop.example/wholeway/impl.opSign"], fn := fun _ => fun
  | [d1, d2, g1, g2] => { results := [.lit (.bool false)], args := [d1, d2], vars := [g1, g2] }
  | _ => none }
def FnExactCalledByWrongFalsely : Prop := fnExactCalledByRow.holds Tryz.pinned (OpenSpec.ofChange fnExactCalledByWrong)

/-- 'laws.FnExactNeededIn': WHATEVER THE INPUT: true; the input reads as it did. -/
def fnExactNeededInSpec : ChangeSpec := { name := "fnExactNeededIn", vars := ["loop.example/wholeway/impl.keys", "loop.example/wholeway/impl.opSign"], fn := fun _ => fun
  | [d, g1, g2] => { results := [.lit (.bool true)], args := [d], vars := [g1, g2] }
  | _ => none }
def fnExactNeededInRow : OpenClaim := { program := "ytnjbhgpbgmpkcaagreatdoor", sum := "9d52f617f4f0b376748d029c0a7a02c11fe7705c3b9d68166afd418d47ef1ee6", func := "loop.example/wholeway/laws.FnExactNeededIn", spec := "fnExactNeededIn", unfollowed := true, recurses := true, named := ["loop.example/wholeway/impl.keys", "loop.example/wholeway/impl.opSign"], maps := true, loops := true, apart := false, laid := [("loop.example/wholeway/impl.keys", laid_loop_example_wholeway_impl_keys), ("loop.example/wholeway/impl.opSign", laid_loop_example_wholeway_impl_opSign)] }
def FnExactNeededInSaid : Prop := fnExactNeededInRow.holds Tryz.pinned (OpenSpec.ofChange fnExactNeededInSpec)

/-- ITS FALSE NEIGHBOUR: 'it returns false'. Refute it at one input. -/
def fnExactNeededInWrong : ChangeSpec := { name := "fnExactNeededIn", vars := ["loop.example/wholeway/impl.keys", "loop.example/wholeway/impl.opSign"], fn := fun _ => fun
  | [d, g1, g2] => { results := [.lit (.bool false)], args := [d], vars := [g1, g2] }
  | _ => none }
def FnExactNeededInWrongFalsely : Prop := fnExactNeededInRow.holds Tryz.pinned (OpenSpec.ofChange fnExactNeededInWrong)

/-- 'laws.FnRenamed': WHATEVER THE INPUT: true; the input reads as it did. -/
def fnRenamedSpec : ChangeSpec := { name := "fnRenamed", vars := ["loop.example/wholeway/impl.keys", "loop.example/wholeway/impl.opSign"], fn := fun _ => fun
  | [d, g1, g2] => { results := [.lit (.bool true)], args := [d], vars := [g1, g2] }
  | _ => none }
def fnRenamedRow : OpenClaim := { program := "ytnjbhgpbgmpkcaagreatdoor", sum := "9d52f617f4f0b376748d029c0a7a02c11fe7705c3b9d68166afd418d47ef1ee6", func := "loop.example/wholeway/laws.FnRenamed", spec := "fnRenamed", unfollowed := true, recurses := true, named := ["loop.example/wholeway/impl.keys", "loop.example/wholeway/impl.opSign"], maps := true, apart := false, laid := [("loop.example/wholeway/impl.keys", laid_loop_example_wholeway_impl_keys), ("loop.example/wholeway/impl.opSign", laid_loop_example_wholeway_impl_opSign)] }
def FnRenamedSaid : Prop := fnRenamedRow.holds Tryz.pinned (OpenSpec.ofChange fnRenamedSpec)

/-- ITS FALSE NEIGHBOUR: 'it returns false'. Refute it at one input. -/
def fnRenamedWrong : ChangeSpec := { name := "fnRenamed", vars := ["loop.example/wholeway/impl.keys", "loop.example/wholeway/impl.opSign"], fn := fun _ => fun
  | [d, g1, g2] => { results := [.lit (.bool false)], args := [d], vars := [g1, g2] }
  | _ => none }
def FnRenamedWrongFalsely : Prop := fnRenamedRow.holds Tryz.pinned (OpenSpec.ofChange fnRenamedWrong)

/- THE SECOND FORM. 'bulk': how many values and letters a reading holds, each counted each time it is reached (what is shared counts as often as it is met; a slice's spare places count too). A statement '..UptoSaid' is the law's where the arguments, and the package variables that the reading takes, are together of bulk at most 1048576: NARROWER than '..Said'. Prove '..Said' where nothing that the law and all that it calls make is longer than what came in: it says more and counts as full. Else prove '..UptoSaid'. A law counts once. -/
mutual
def uptoBulk {H : Type} : DataW H → Nat
  | .lit (.string bytes) => bytes.length + 1
  | .lit _ => 1
  | .nil => 1
  | .ptr d => uptoBulk d + 1
  | .slice elems spare => uptoBulkAll elems + uptoBulkAll spare + 1
  | .agg parts => uptoBulkAll parts + 1
  | .iface _ d => uptoBulk d + 1
  | .map entries => uptoBulkEntries entries + 1
  | .held _ => 1
def uptoBulkAll {H : Type} : List (DataW H) → Nat
  | [] => 0
  | d :: r => uptoBulk d + uptoBulkAll r
def uptoBulkEntries {H : Type} : List (Lit × DataW H) → Nat
  | [] => 0
  | x :: r => uptoBulkEntry x + uptoBulkEntries r
def uptoBulkEntry {H : Type} : Lit × DataW H → Nat
  | (.string bytes, d) => bytes.length + uptoBulk d + 1
  | (_, d) => uptoBulk d + 1
 end
def uptoSmall : (H : Type) → List (DataW H) → Bool := fun _ ds => decide (uptoBulkAll ds ≤ 1048576)
def OpenSpec.upto (s : _root_.Go.ChangeSpec) : _root_.Go.OpenSpec := { _root_.Go.OpenSpec.ofChange s with cond := some uptoSmall }

/-- 'laws.FnExactInputsFor', WHERE WHAT IT READS IS OF BULK AT MOST 1048576: true; the input reads as it did. -/
def fnExactInputsForUptoRow : OpenClaim := { program := "ytnjbhgpbgmpkcaagreatdoor", sum := "9d52f617f4f0b376748d029c0a7a02c11fe7705c3b9d68166afd418d47ef1ee6", func := "loop.example/wholeway/laws.FnExactInputsFor", spec := "fnExactInputsFor", unfollowed := true, recurses := true, named := ["loop.example/wholeway/impl.keys", "loop.example/wholeway/impl.opSign", "loop.example/wholeway/impl.tries"], maps := true, loops := true, apart := false, laid := [("loop.example/wholeway/impl.keys", laid_loop_example_wholeway_impl_keys), ("loop.example/wholeway/impl.opSign", laid_loop_example_wholeway_impl_opSign), ("loop.example/wholeway/impl.tries", laid_loop_example_wholeway_impl_tries)], narrowed := true }
def FnExactInputsForUptoSaid : Prop := fnExactInputsForUptoRow.holds Tryz.pinned (OpenSpec.upto fnExactInputsForSpec)

/-- 'laws.FnExactIsRenamed', WHERE WHAT IT READS IS OF BULK AT MOST 1048576: true; the input reads as it did. -/
def fnExactIsRenamedUptoRow : OpenClaim := { program := "ytnjbhgpbgmpkcaagreatdoor", sum := "9d52f617f4f0b376748d029c0a7a02c11fe7705c3b9d68166afd418d47ef1ee6", func := "loop.example/wholeway/laws.FnExactIsRenamed", spec := "fnExactIsRenamed", unfollowed := true, recurses := true, named := ["loop.example/wholeway/impl.keys", "loop.example/wholeway/impl.opSign"], maps := true, loops := true, apart := false, laid := [("loop.example/wholeway/impl.keys", laid_loop_example_wholeway_impl_keys), ("loop.example/wholeway/impl.opSign", laid_loop_example_wholeway_impl_opSign)], narrowed := true }
def FnExactIsRenamedUptoSaid : Prop := fnExactIsRenamedUptoRow.holds Tryz.pinned (OpenSpec.upto fnExactIsRenamedSpec)

/-- 'laws.FnIsRenamed', WHERE WHAT IT READS IS OF BULK AT MOST 1048576: true; the input reads as it did. -/
def fnIsRenamedUptoRow : OpenClaim := { program := "ytnjbhgpbgmpkcaagreatdoor", sum := "9d52f617f4f0b376748d029c0a7a02c11fe7705c3b9d68166afd418d47ef1ee6", func := "loop.example/wholeway/laws.FnIsRenamed", spec := "fnIsRenamed", unfollowed := true, recurses := true, named := ["loop.example/wholeway/impl.keys", "loop.example/wholeway/impl.opSign"], maps := true, apart := false, laid := [("loop.example/wholeway/impl.keys", laid_loop_example_wholeway_impl_keys), ("loop.example/wholeway/impl.opSign", laid_loop_example_wholeway_impl_opSign)], narrowed := true }
def FnIsRenamedUptoSaid : Prop := fnIsRenamedUptoRow.holds Tryz.pinned (OpenSpec.upto fnIsRenamedSpec)

/-- 'laws.FnExactRenameProgram', WHERE WHAT IT READS IS OF BULK AT MOST 1048576: true; the input reads as it did. -/
def fnExactRenameProgramUptoRow : OpenClaim := { program := "ytnjbhgpbgmpkcaagreatdoor", sum := "9d52f617f4f0b376748d029c0a7a02c11fe7705c3b9d68166afd418d47ef1ee6", func := "loop.example/wholeway/laws.FnExactRenameProgram", spec := "fnExactRenameProgram", unfollowed := true, recurses := true, named := ["loop.example/wholeway/impl.keys", "loop.example/wholeway/impl.opSign"], maps := true, loops := true, apart := false, laid := [("loop.example/wholeway/impl.keys", laid_loop_example_wholeway_impl_keys), ("loop.example/wholeway/impl.opSign", laid_loop_example_wholeway_impl_opSign)], narrowed := true }
def FnExactRenameProgramUptoSaid : Prop := fnExactRenameProgramUptoRow.holds Tryz.pinned (OpenSpec.upto fnExactRenameProgramSpec)

/-- 'laws.FnCalled', WHERE WHAT IT READS IS OF BULK AT MOST 1048576: true; the input reads as it did. -/
def fnCalledUptoRow : OpenClaim := { program := "ytnjbhgpbgmpkcaagreatdoor", sum := "9d52f617f4f0b376748d029c0a7a02c11fe7705c3b9d68166afd418d47ef1ee6", func := "loop.example/wholeway/laws.FnCalled", spec := "fnCalled", unfollowed := true, recurses := true, named := ["loop.example/wholeway/impl.keys", "loop.example/wholeway/impl.opSign"], maps := true, apart := false, laid := [("loop.example/wholeway/impl.keys", laid_loop_example_wholeway_impl_keys), ("loop.example/wholeway/impl.opSign", laid_loop_example_wholeway_impl_opSign)], narrowed := true }
def FnCalledUptoSaid : Prop := fnCalledUptoRow.holds Tryz.pinned (OpenSpec.upto fnCalledSpec)

/-- 'laws.FnNeeded', WHERE WHAT IT READS IS OF BULK AT MOST 1048576: true; the input reads as it did. -/
def fnNeededUptoRow : OpenClaim := { program := "ytnjbhgpbgmpkcaagreatdoor", sum := "9d52f617f4f0b376748d029c0a7a02c11fe7705c3b9d68166afd418d47ef1ee6", func := "loop.example/wholeway/laws.FnNeeded", spec := "fnNeeded", unfollowed := true, recurses := true, named := ["loop.example/wholeway/impl.keys", "loop.example/wholeway/impl.opSign"], maps := true, apart := false, laid := [("loop.example/wholeway/impl.keys", laid_loop_example_wholeway_impl_keys), ("loop.example/wholeway/impl.opSign", laid_loop_example_wholeway_impl_opSign)], narrowed := true }
def FnNeededUptoSaid : Prop := fnNeededUptoRow.holds Tryz.pinned (OpenSpec.upto fnNeededSpec)

/-- 'laws.FnExactCalledBy', WHERE WHAT IT READS IS OF BULK AT MOST 1048576: true; the input reads as it did. -/
def fnExactCalledByUptoRow : OpenClaim := { program := "ytnjbhgpbgmpkcaagreatdoor", sum := "9d52f617f4f0b376748d029c0a7a02c11fe7705c3b9d68166afd418d47ef1ee6", func := "loop.example/wholeway/laws.FnExactCalledBy", spec := "fnExactCalledBy", unfollowed := true, recurses := true, named := ["loop.example/wholeway/impl.keys", "loop.example/wholeway/impl.opSign"], maps := true, loops := true, apart := false, laid := [("loop.example/wholeway/impl.keys", laid_loop_example_wholeway_impl_keys), ("loop.example/wholeway/impl.opSign", laid_loop_example_wholeway_impl_opSign)], narrowed := true }
def FnExactCalledByUptoSaid : Prop := fnExactCalledByUptoRow.holds Tryz.pinned (OpenSpec.upto fnExactCalledBySpec)

/-- 'laws.FnExactNeededIn', WHERE WHAT IT READS IS OF BULK AT MOST 1048576: true; the input reads as it did. -/
def fnExactNeededInUptoRow : OpenClaim := { program := "ytnjbhgpbgmpkcaagreatdoor", sum := "9d52f617f4f0b376748d029c0a7a02c11fe7705c3b9d68166afd418d47ef1ee6", func := "loop.example/wholeway/laws.FnExactNeededIn", spec := "fnExactNeededIn", unfollowed := true, recurses := true, named := ["loop.example/wholeway/impl.keys", "loop.example/wholeway/impl.opSign"], maps := true, loops := true, apart := false, laid := [("loop.example/wholeway/impl.keys", laid_loop_example_wholeway_impl_keys), ("loop.example/wholeway/impl.opSign", laid_loop_example_wholeway_impl_opSign)], narrowed := true }
def FnExactNeededInUptoSaid : Prop := fnExactNeededInUptoRow.holds Tryz.pinned (OpenSpec.upto fnExactNeededInSpec)

/-- 'laws.FnRenamed', WHERE WHAT IT READS IS OF BULK AT MOST 1048576: true; the input reads as it did. -/
def fnRenamedUptoRow : OpenClaim := { program := "ytnjbhgpbgmpkcaagreatdoor", sum := "9d52f617f4f0b376748d029c0a7a02c11fe7705c3b9d68166afd418d47ef1ee6", func := "loop.example/wholeway/laws.FnRenamed", spec := "fnRenamed", unfollowed := true, recurses := true, named := ["loop.example/wholeway/impl.keys", "loop.example/wholeway/impl.opSign"], maps := true, apart := false, laid := [("loop.example/wholeway/impl.keys", laid_loop_example_wholeway_impl_keys), ("loop.example/wholeway/impl.opSign", laid_loop_example_wholeway_impl_opSign)], narrowed := true }
def FnRenamedUptoSaid : Prop := fnRenamedUptoRow.holds Tryz.pinned (OpenSpec.upto fnRenamedSpec)

end Rows
end Go.Proofs.YtnjbhgpbgmpkcaaGreatDoor
