/-
  NARROWER THAN 'FOR EVERY INPUT', by the rows' own cells (each row's printed sentence says how): FnExactFuelOf: loops, maps, laid · FnExactRunProgram: loops, maps, laid · FnFuel: maps, laid · FnMoreFuel: maps, laid · FnInputs: maps, laid · FnSayFirst: maps, laid · FnWrapped: maps, laid · FnRenameRuns: maps, laid · FnCutRuns: maps, laid · FnFoldRuns: maps, laid.
  DERIVED. THE GIVEN ROWS OF THIS SEAT. 10 by the template 'for every input the law returns true; each argument reads behind the call as it read before'; 0 by the template 'total and deterministic' (their statements: YtokiapglmedipaaGreatDoorTotals.lean).
  GIVEN WITH THE SEED: the statements are not yours to turn. If you find one false, say at which input.
  Laid BY PROGRAM, IN A SANDBOX (cutbox-rows.mjs): the forced cells as the released guide's own fill.sh prints them over the translation 3bd446986a506ea5… (all of the seat's roots in one cut). By AI agents, Wed Nov 11 2026. No macro, syntax, notation, axiom, sorry.
-/
import Derived.Test.YtokiapglmedipaaGreatDoorChecked
import GoSem.Claim
import GoSem.ClaimJoined
import GoSem.ClaimMapViews
import Derived.JoinedTies
import Derived.KernelRfl
namespace Go.Proofs.YtokiapglmedipaaGreatDoor
/- THE CELL 'sum', in the pinned program and in every row, IS THE sha256 OF THE DUMP (.gsa) THAT YtokiapglmedipaaGreatDoorProg.lean LOADS. Nothing in Lean hashes anything: it is a label: what it is worth is what the hold of that sum in a sandbox is worth. -/
noncomputable def Tryz.pinned : Pinned := { name := "ytokiapglmedipaagreatdoor", sum := "3bd446986a506ea50782cf801f8fbd31a1663889af9f8cda1159fdf04bc78922", checked := Tryz.checked }
namespace Rows
def none {H : Type} : Left H := { results := [], args := [] }

/- WHAT THE LISTED PACKAGE-LEVEL VARIABLES READ AS WHEN THE CALL BEGINS. Each datum BY PROGRAM (the guide's laid-datum.mjs) off the statement by which the dump's own 'gosem.cut.vars' lays the variable. In a bare row this is a premise. The card (YtokiapglmedipaaGreatDoorCards.lean) ties it to the program's text. -/
def laid_loop_example_wholeway_impl_keys {H : Type} : DataW H := .agg [.lit (.string [102, 110]), .lit (.string [108, 101, 116]), .lit (.string [115, 97, 121]), .lit (.string [112, 117, 116]), .lit (.string [105, 102]), .lit (.string [101, 108, 115, 101]), .lit (.string [108, 111, 111, 112]), .lit (.string [98, 97, 99, 107]), .lit (.string [100, 111])]
def laid_loop_example_wholeway_impl_opSign {H : Type} : DataW H := .map [(.int .i64 3, .agg [.lit (.string [43]), .lit (.int .i64 3)]), (.int .i64 4, .agg [.lit (.string [45]), .lit (.int .i64 3)]), (.int .i64 5, .agg [.lit (.string [42]), .lit (.int .i64 4)]), (.int .i64 6, .agg [.lit (.string [47]), .lit (.int .i64 4)]), (.int .i64 7, .agg [.lit (.string [37]), .lit (.int .i64 4)]), (.int .i64 8, .agg [.lit (.string [60]), .lit (.int .i64 2)]), (.int .i64 9, .agg [.lit (.string [61]), .lit (.int .i64 2)]), (.int .i64 10, .agg [.lit (.string [38]), .lit (.int .i64 1)])]
def laid_loop_example_wholeway_impl_tries {H : Type} : DataW H := .agg [.agg [.lit (.int .i64 0), .lit (.int .i64 0), .lit (.int .i64 0)], .agg [.lit (.int .i64 1), .lit (.int .i64 2), .lit (.int .i64 3)], .agg [.lit (.int .i64 255), .lit (.int .i64 16), .lit (.int .i64 7)]]

/-- 'laws.FnExactFuelOf': WHATEVER THE INPUT: true; the input reads as it did. -/
def fnExactFuelOfSpec : ChangeSpec := { name := "fnExactFuelOf", vars := ["loop.example/wholeway/impl.keys", "loop.example/wholeway/impl.opSign"], fn := fun _ => fun
  | [d1, d2, g1, g2] => { results := [.lit (.bool true)], args := [d1, d2], vars := [g1, g2] }
  | _ => none }
def fnExactFuelOfRow : OpenClaim := { program := "ytokiapglmedipaagreatdoor", sum := "3bd446986a506ea50782cf801f8fbd31a1663889af9f8cda1159fdf04bc78922", func := "loop.example/wholeway/laws.FnExactFuelOf", spec := "fnExactFuelOf", unfollowed := true, recurses := true, named := ["loop.example/wholeway/impl.keys", "loop.example/wholeway/impl.opSign"], maps := true, loops := true, apart := false, laid := [("loop.example/wholeway/impl.keys", laid_loop_example_wholeway_impl_keys), ("loop.example/wholeway/impl.opSign", laid_loop_example_wholeway_impl_opSign)] }
def FnExactFuelOfSaid : Prop := fnExactFuelOfRow.holds Tryz.pinned (OpenSpec.ofChange fnExactFuelOfSpec)

/-- ITS FALSE NEIGHBOUR: 'it returns false'. Refute it at one input. -/
def fnExactFuelOfWrong : ChangeSpec := { name := "fnExactFuelOf", vars := ["loop.example/wholeway/impl.keys", "loop.example/wholeway/impl.opSign"], fn := fun _ => fun
  | [d1, d2, g1, g2] => { results := [.lit (.bool false)], args := [d1, d2], vars := [g1, g2] }
  | _ => none }
def FnExactFuelOfWrongFalsely : Prop := fnExactFuelOfRow.holds Tryz.pinned (OpenSpec.ofChange fnExactFuelOfWrong)

/-- 'laws.FnExactRunProgram': WHATEVER THE INPUT: true; the input reads as it did. -/
def fnExactRunProgramSpec : ChangeSpec := { name := "fnExactRunProgram", vars := ["loop.example/wholeway/impl.keys", "loop.example/wholeway/impl.opSign"], fn := fun _ => fun
  | [d1, d2, d3, g1, g2] => { results := [.lit (.bool true)], args := [d1, d2, d3], vars := [g1, g2] }
  | _ => none }
def fnExactRunProgramRow : OpenClaim := { program := "ytokiapglmedipaagreatdoor", sum := "3bd446986a506ea50782cf801f8fbd31a1663889af9f8cda1159fdf04bc78922", func := "loop.example/wholeway/laws.FnExactRunProgram", spec := "fnExactRunProgram", unfollowed := true, recurses := true, named := ["loop.example/wholeway/impl.keys", "loop.example/wholeway/impl.opSign"], maps := true, loops := true, apart := false, laid := [("loop.example/wholeway/impl.keys", laid_loop_example_wholeway_impl_keys), ("loop.example/wholeway/impl.opSign", laid_loop_example_wholeway_impl_opSign)] }
def FnExactRunProgramSaid : Prop := fnExactRunProgramRow.holds Tryz.pinned (OpenSpec.ofChange fnExactRunProgramSpec)

/-- ITS FALSE NEIGHBOUR: 'it returns false'. Refute it at one input. -/
def fnExactRunProgramWrong : ChangeSpec := { name := "fnExactRunProgram", vars := ["loop.example/wholeway/impl.keys", "loop.example/wholeway/impl.opSign"], fn := fun _ => fun
  | [d1, d2, d3, g1, g2] => { results := [.lit (.bool false)], args := [d1, d2, d3], vars := [g1, g2] }
  | _ => none }
def FnExactRunProgramWrongFalsely : Prop := fnExactRunProgramRow.holds Tryz.pinned (OpenSpec.ofChange fnExactRunProgramWrong)

/-- 'laws.FnFuel': WHATEVER THE INPUT: true; the input reads as it did. -/
def fnFuelSpec : ChangeSpec := { name := "fnFuel", vars := ["loop.example/wholeway/impl.keys", "loop.example/wholeway/impl.opSign"], fn := fun _ => fun
  | [d, g1, g2] => { results := [.lit (.bool true)], args := [d], vars := [g1, g2] }
  | _ => none }
def fnFuelRow : OpenClaim := { program := "ytokiapglmedipaagreatdoor", sum := "3bd446986a506ea50782cf801f8fbd31a1663889af9f8cda1159fdf04bc78922", func := "loop.example/wholeway/laws.FnFuel", spec := "fnFuel", unfollowed := true, recurses := true, named := ["loop.example/wholeway/impl.keys", "loop.example/wholeway/impl.opSign"], maps := true, apart := false, laid := [("loop.example/wholeway/impl.keys", laid_loop_example_wholeway_impl_keys), ("loop.example/wholeway/impl.opSign", laid_loop_example_wholeway_impl_opSign)] }
def FnFuelSaid : Prop := fnFuelRow.holds Tryz.pinned (OpenSpec.ofChange fnFuelSpec)

/-- ITS FALSE NEIGHBOUR: 'it returns false'. Refute it at one input. -/
def fnFuelWrong : ChangeSpec := { name := "fnFuel", vars := ["loop.example/wholeway/impl.keys", "loop.example/wholeway/impl.opSign"], fn := fun _ => fun
  | [d, g1, g2] => { results := [.lit (.bool false)], args := [d], vars := [g1, g2] }
  | _ => none }
def FnFuelWrongFalsely : Prop := fnFuelRow.holds Tryz.pinned (OpenSpec.ofChange fnFuelWrong)

/-- 'laws.FnMoreFuel': WHATEVER THE INPUT: true; the input reads as it did. -/
def fnMoreFuelSpec : ChangeSpec := { name := "fnMoreFuel", vars := ["loop.example/wholeway/impl.keys", "loop.example/wholeway/impl.opSign"], fn := fun _ => fun
  | [d, g1, g2] => { results := [.lit (.bool true)], args := [d], vars := [g1, g2] }
  | _ => none }
def fnMoreFuelRow : OpenClaim := { program := "ytokiapglmedipaagreatdoor", sum := "3bd446986a506ea50782cf801f8fbd31a1663889af9f8cda1159fdf04bc78922", func := "loop.example/wholeway/laws.FnMoreFuel", spec := "fnMoreFuel", unfollowed := true, recurses := true, named := ["loop.example/wholeway/impl.keys", "loop.example/wholeway/impl.opSign"], maps := true, apart := false, laid := [("loop.example/wholeway/impl.keys", laid_loop_example_wholeway_impl_keys), ("loop.example/wholeway/impl.opSign", laid_loop_example_wholeway_impl_opSign)] }
def FnMoreFuelSaid : Prop := fnMoreFuelRow.holds Tryz.pinned (OpenSpec.ofChange fnMoreFuelSpec)

/-- ITS FALSE NEIGHBOUR: 'it returns false'. Refute it at one input. -/
def fnMoreFuelWrong : ChangeSpec := { name := "fnMoreFuel", vars := ["loop.example/wholeway/impl.keys", "loop.example/wholeway/impl.opSign"], fn := fun _ => fun
  | [d, g1, g2] => { results := [.lit (.bool false)], args := [d], vars := [g1, g2] }
  | _ => none }
def FnMoreFuelWrongFalsely : Prop := fnMoreFuelRow.holds Tryz.pinned (OpenSpec.ofChange fnMoreFuelWrong)

/-- 'laws.FnInputs': WHATEVER THE INPUT: true; the input reads as it did. -/
def fnInputsSpec : ChangeSpec := { name := "fnInputs", vars := ["loop.example/wholeway/impl.keys", "loop.example/wholeway/impl.opSign", "loop.example/wholeway/impl.tries"], fn := fun _ => fun
  | [d, g1, g2, g3] => { results := [.lit (.bool true)], args := [d], vars := [g1, g2, g3] }
  | _ => none }
def fnInputsRow : OpenClaim := { program := "ytokiapglmedipaagreatdoor", sum := "3bd446986a506ea50782cf801f8fbd31a1663889af9f8cda1159fdf04bc78922", func := "loop.example/wholeway/laws.FnInputs", spec := "fnInputs", unfollowed := true, recurses := true, named := ["loop.example/wholeway/impl.keys", "loop.example/wholeway/impl.opSign", "loop.example/wholeway/impl.tries"], maps := true, apart := false, laid := [("loop.example/wholeway/impl.keys", laid_loop_example_wholeway_impl_keys), ("loop.example/wholeway/impl.opSign", laid_loop_example_wholeway_impl_opSign), ("loop.example/wholeway/impl.tries", laid_loop_example_wholeway_impl_tries)] }
def FnInputsSaid : Prop := fnInputsRow.holds Tryz.pinned (OpenSpec.ofChange fnInputsSpec)

/-- ITS FALSE NEIGHBOUR: 'it returns false'. Refute it at one input. -/
def fnInputsWrong : ChangeSpec := { name := "fnInputs", vars := ["loop.example/wholeway/impl.keys", "loop.example/wholeway/impl.opSign", "loop.example/wholeway/impl.tries"], fn := fun _ => fun
  | [d, g1, g2, g3] => { results := [.lit (.bool false)], args := [d], vars := [g1, g2, g3] }
  | _ => none }
def FnInputsWrongFalsely : Prop := fnInputsRow.holds Tryz.pinned (OpenSpec.ofChange fnInputsWrong)

/-- 'laws.FnSayFirst': WHATEVER THE INPUT: true; the input reads as it did. -/
def fnSayFirstSpec : ChangeSpec := { name := "fnSayFirst", vars := ["loop.example/wholeway/impl.keys", "loop.example/wholeway/impl.opSign"], fn := fun _ => fun
  | [d, g1, g2] => { results := [.lit (.bool true)], args := [d], vars := [g1, g2] }
  | _ => none }
def fnSayFirstRow : OpenClaim := { program := "ytokiapglmedipaagreatdoor", sum := "3bd446986a506ea50782cf801f8fbd31a1663889af9f8cda1159fdf04bc78922", func := "loop.example/wholeway/laws.FnSayFirst", spec := "fnSayFirst", unfollowed := true, recurses := true, named := ["loop.example/wholeway/impl.keys", "loop.example/wholeway/impl.opSign"], maps := true, apart := false, laid := [("loop.example/wholeway/impl.keys", laid_loop_example_wholeway_impl_keys), ("loop.example/wholeway/impl.opSign", laid_loop_example_wholeway_impl_opSign)] }
def FnSayFirstSaid : Prop := fnSayFirstRow.holds Tryz.pinned (OpenSpec.ofChange fnSayFirstSpec)

/-- ITS FALSE NEIGHBOUR: 'it returns false'. Refute it at one input. -/
def fnSayFirstWrong : ChangeSpec := { name := "fnSayFirst", vars := ["loop.example/wholeway/impl.keys", "loop.example/wholeway/impl.opSign"], fn := fun _ => fun
  | [d, g1, g2] => { results := [.lit (.bool false)], args := [d], vars := [g1, g2] }
  | _ => none }
def FnSayFirstWrongFalsely : Prop := fnSayFirstRow.holds Tryz.pinned (OpenSpec.ofChange fnSayFirstWrong)

/-- 'laws.FnWrapped': WHATEVER THE INPUT: true; the input reads as it did. -/
def fnWrappedSpec : ChangeSpec := { name := "fnWrapped", vars := ["loop.example/wholeway/impl.keys", "loop.example/wholeway/impl.opSign"], fn := fun _ => fun
  | [d, g1, g2] => { results := [.lit (.bool true)], args := [d], vars := [g1, g2] }
  | _ => none }
def fnWrappedRow : OpenClaim := { program := "ytokiapglmedipaagreatdoor", sum := "3bd446986a506ea50782cf801f8fbd31a1663889af9f8cda1159fdf04bc78922", func := "loop.example/wholeway/laws.FnWrapped", spec := "fnWrapped", unfollowed := true, recurses := true, named := ["loop.example/wholeway/impl.keys", "loop.example/wholeway/impl.opSign"], maps := true, apart := false, laid := [("loop.example/wholeway/impl.keys", laid_loop_example_wholeway_impl_keys), ("loop.example/wholeway/impl.opSign", laid_loop_example_wholeway_impl_opSign)] }
def FnWrappedSaid : Prop := fnWrappedRow.holds Tryz.pinned (OpenSpec.ofChange fnWrappedSpec)

/-- ITS FALSE NEIGHBOUR: 'it returns false'. Refute it at one input. -/
def fnWrappedWrong : ChangeSpec := { name := "fnWrapped", vars := ["loop.example/wholeway/impl.keys", "loop.example/wholeway/impl.opSign"], fn := fun _ => fun
  | [d, g1, g2] => { results := [.lit (.bool false)], args := [d], vars := [g1, g2] }
  | _ => none }
def FnWrappedWrongFalsely : Prop := fnWrappedRow.holds Tryz.pinned (OpenSpec.ofChange fnWrappedWrong)

/-- 'laws.FnRenameRuns': WHATEVER THE INPUT: true; the input reads as it did. -/
def fnRenameRunsSpec : ChangeSpec := { name := "fnRenameRuns", vars := ["loop.example/wholeway/impl.keys", "loop.example/wholeway/impl.opSign"], fn := fun _ => fun
  | [d, g1, g2] => { results := [.lit (.bool true)], args := [d], vars := [g1, g2] }
  | _ => none }
def fnRenameRunsRow : OpenClaim := { program := "ytokiapglmedipaagreatdoor", sum := "3bd446986a506ea50782cf801f8fbd31a1663889af9f8cda1159fdf04bc78922", func := "loop.example/wholeway/laws.FnRenameRuns", spec := "fnRenameRuns", unfollowed := true, recurses := true, named := ["loop.example/wholeway/impl.keys", "loop.example/wholeway/impl.opSign"], maps := true, apart := false, laid := [("loop.example/wholeway/impl.keys", laid_loop_example_wholeway_impl_keys), ("loop.example/wholeway/impl.opSign", laid_loop_example_wholeway_impl_opSign)] }
def FnRenameRunsSaid : Prop := fnRenameRunsRow.holds Tryz.pinned (OpenSpec.ofChange fnRenameRunsSpec)

/-- ITS FALSE NEIGHBOUR: 'it returns false'. Refute it at one input. -/
def fnRenameRunsWrong : ChangeSpec := { name := "fnRenameRuns", vars := ["loop.example/wholeway/impl.keys", "loop.example/wholeway/impl.opSign"], fn := fun _ => fun
  | [d, g1, g2] => { results := [.lit (.bool false)], args := [d], vars := [g1, g2] }
  | _ => none }
def FnRenameRunsWrongFalsely : Prop := fnRenameRunsRow.holds Tryz.pinned (OpenSpec.ofChange fnRenameRunsWrong)

/-- 'laws.FnCutRuns': WHATEVER THE INPUT: true; the input reads as it did. -/
def fnCutRunsSpec : ChangeSpec := { name := "fnCutRuns", vars := ["loop.example/wholeway/impl.keys", "loop.example/wholeway/impl.opSign", "loop.example/wholeway/impl.tries"], fn := fun _ => fun
  | [d, g1, g2, g3] => { results := [.lit (.bool true)], args := [d], vars := [g1, g2, g3] }
  | _ => none }
def fnCutRunsRow : OpenClaim := { program := "ytokiapglmedipaagreatdoor", sum := "3bd446986a506ea50782cf801f8fbd31a1663889af9f8cda1159fdf04bc78922", func := "loop.example/wholeway/laws.FnCutRuns", spec := "fnCutRuns", unfollowed := true, recurses := true, named := ["loop.example/wholeway/impl.keys", "loop.example/wholeway/impl.opSign", "loop.example/wholeway/impl.tries"], maps := true, apart := false, laid := [("loop.example/wholeway/impl.keys", laid_loop_example_wholeway_impl_keys), ("loop.example/wholeway/impl.opSign", laid_loop_example_wholeway_impl_opSign), ("loop.example/wholeway/impl.tries", laid_loop_example_wholeway_impl_tries)] }
def FnCutRunsSaid : Prop := fnCutRunsRow.holds Tryz.pinned (OpenSpec.ofChange fnCutRunsSpec)

/-- ITS FALSE NEIGHBOUR: 'it returns false'. Refute it at one input. -/
def fnCutRunsWrong : ChangeSpec := { name := "fnCutRuns", vars := ["loop.example/wholeway/impl.keys", "loop.example/wholeway/impl.opSign", "loop.example/wholeway/impl.tries"], fn := fun _ => fun
  | [d, g1, g2, g3] => { results := [.lit (.bool false)], args := [d], vars := [g1, g2, g3] }
  | _ => none }
def FnCutRunsWrongFalsely : Prop := fnCutRunsRow.holds Tryz.pinned (OpenSpec.ofChange fnCutRunsWrong)

/-- 'laws.FnFoldRuns': WHATEVER THE INPUT: true; the input reads as it did. -/
def fnFoldRunsSpec : ChangeSpec := { name := "fnFoldRuns", vars := ["loop.example/wholeway/impl.keys", "loop.example/wholeway/impl.opSign", "loop.example/wholeway/impl.tries"], fn := fun _ => fun
  | [d, g1, g2, g3] => { results := [.lit (.bool true)], args := [d], vars := [g1, g2, g3] }
  | _ => none }
def fnFoldRunsRow : OpenClaim := { program := "ytokiapglmedipaagreatdoor", sum := "3bd446986a506ea50782cf801f8fbd31a1663889af9f8cda1159fdf04bc78922", func := "loop.example/wholeway/laws.FnFoldRuns", spec := "fnFoldRuns", unfollowed := true, recurses := true, named := ["loop.example/wholeway/impl.keys", "loop.example/wholeway/impl.opSign", "loop.example/wholeway/impl.tries"], maps := true, apart := false, laid := [("loop.example/wholeway/impl.keys", laid_loop_example_wholeway_impl_keys), ("loop.example/wholeway/impl.opSign", laid_loop_example_wholeway_impl_opSign), ("loop.example/wholeway/impl.tries", laid_loop_example_wholeway_impl_tries)] }
def FnFoldRunsSaid : Prop := fnFoldRunsRow.holds Tryz.pinned (OpenSpec.ofChange fnFoldRunsSpec)

/-- ITS FALSE NEIGHBOUR: 'it returns false'. Refute it at one input. -/
def fnFoldRunsWrong : ChangeSpec := { name := "fnFoldRuns", vars := ["loop.example/wholeway/impl.keys", "loop.example/wholeway/impl.opSign", "loop.example/wholeway/impl.tries"], fn := fun _ => fun
  | [d, g1, g2, g3] => { results := [.lit (.bool false)], args := [d], vars := [g1, g2, g3] }
  | _ => none }
def FnFoldRunsWrongFalsely : Prop := fnFoldRunsRow.holds Tryz.pinned (OpenSpec.ofChange fnFoldRunsWrong)

/- THE SECOND FORM. 'bulk': how many values and letters a reading holds, each counted each time it is reached (what is shared counts as often as it is met; a slice's spare places count too). A statement '..UptoSaid' is the law's where the arguments, and the package variables that the reading takes, are together of bulk at most 1048576: NARROWER than '..Said'. Prove '..Said' where nothing that the law and all that it calls make is longer than what came in: it says more and counts as full. Else prove '..UptoSaid'. A law counts once. -/
mutual
def uptoBulk {H : Type} : DataW H → Nat
  | .lit (.string bytes) => bytes.length + 1
  | .lit _ => 1
  | .nil => 1
  | .ptr d => uptoBulk d + 1
  | .slice elems spare => uptoBulkAll elems + uptoBulkAll spare + 1
  | .agg parts => uptoBulkAll parts + 1
  | .iface _ d => uptoBulk d + 1
  | .map entries => uptoBulkEntries entries + 1
  | .held _ => 1
def uptoBulkAll {H : Type} : List (DataW H) → Nat
  | [] => 0
  | d :: r => uptoBulk d + uptoBulkAll r
def uptoBulkEntries {H : Type} : List (Lit × DataW H) → Nat
  | [] => 0
  | x :: r => uptoBulkEntry x + uptoBulkEntries r
def uptoBulkEntry {H : Type} : Lit × DataW H → Nat
  | (.string bytes, d) => bytes.length + uptoBulk d + 1
  | (_, d) => uptoBulk d + 1
 end
def uptoSmall : (H : Type) → List (DataW H) → Bool := fun _ ds => decide (uptoBulkAll ds ≤ 1048576)
def OpenSpec.upto (s : _root_.Go.ChangeSpec) : _root_.Go.OpenSpec := { _root_.Go.OpenSpec.ofChange s with cond := some uptoSmall }

/-- 'laws.FnExactFuelOf', WHERE WHAT IT READS IS OF BULK AT MOST 1048576: true; the input reads as it did. -/
def fnExactFuelOfUptoRow : OpenClaim := { program := "ytokiapglmedipaagreatdoor", sum := "3bd446986a506ea50782cf801f8fbd31a1663889af9f8cda1159fdf04bc78922", func := "loop.example/wholeway/laws.FnExactFuelOf", spec := "fnExactFuelOf", unfollowed := true, recurses := true, named := ["loop.example/wholeway/impl.keys", "loop.example/wholeway/impl.opSign"], maps := true, loops := true, apart := false, laid := [("loop.example/wholeway/impl.keys", laid_loop_example_wholeway_impl_keys), ("loop.example/wholeway/impl.opSign", laid_loop_example_wholeway_impl_opSign)], narrowed := true }
def FnExactFuelOfUptoSaid : Prop := fnExactFuelOfUptoRow.holds Tryz.pinned (OpenSpec.upto fnExactFuelOfSpec)

/-- 'laws.FnExactRunProgram', WHERE WHAT IT READS IS OF BULK AT MOST 1048576: true; the input reads as it did. -/
def fnExactRunProgramUptoRow : OpenClaim := { program := "ytokiapglmedipaagreatdoor", sum := "3bd446986a506ea50782cf801f8fbd31a1663889af9f8cda1159fdf04bc78922", func := "loop.example/wholeway/laws.FnExactRunProgram", spec := "fnExactRunProgram", unfollowed := true, recurses := true, named := ["loop.example/wholeway/impl.keys", "loop.example/wholeway/impl.opSign"], maps := true, loops := true, apart := false, laid := [("loop.example/wholeway/impl.keys", laid_loop_example_wholeway_impl_keys), ("loop.example/wholeway/impl.opSign", laid_loop_example_wholeway_impl_opSign)], narrowed := true }
def FnExactRunProgramUptoSaid : Prop := fnExactRunProgramUptoRow.holds Tryz.pinned (OpenSpec.upto fnExactRunProgramSpec)

/-- 'laws.FnFuel', WHERE WHAT IT READS IS OF BULK AT MOST 1048576: true; the input reads as it did. -/
def fnFuelUptoRow : OpenClaim := { program := "ytokiapglmedipaagreatdoor", sum := "3bd446986a506ea50782cf801f8fbd31a1663889af9f8cda1159fdf04bc78922", func := "loop.example/wholeway/laws.FnFuel", spec := "fnFuel", unfollowed := true, recurses := true, named := ["loop.example/wholeway/impl.keys", "loop.example/wholeway/impl.opSign"], maps := true, apart := false, laid := [("loop.example/wholeway/impl.keys", laid_loop_example_wholeway_impl_keys), ("loop.example/wholeway/impl.opSign", laid_loop_example_wholeway_impl_opSign)], narrowed := true }
def FnFuelUptoSaid : Prop := fnFuelUptoRow.holds Tryz.pinned (OpenSpec.upto fnFuelSpec)

/-- 'laws.FnMoreFuel', WHERE WHAT IT READS IS OF BULK AT MOST 1048576: true; the input reads as it did. -/
def fnMoreFuelUptoRow : OpenClaim := { program := "ytokiapglmedipaagreatdoor", sum := "3bd446986a506ea50782cf801f8fbd31a1663889af9f8cda1159fdf04bc78922", func := "loop.example/wholeway/laws.FnMoreFuel", spec := "fnMoreFuel", unfollowed := true, recurses := true, named := ["loop.example/wholeway/impl.keys", "loop.example/wholeway/impl.opSign"], maps := true, apart := false, laid := [("loop.example/wholeway/impl.keys", laid_loop_example_wholeway_impl_keys), ("loop.example/wholeway/impl.opSign", laid_loop_example_wholeway_impl_opSign)], narrowed := true }
def FnMoreFuelUptoSaid : Prop := fnMoreFuelUptoRow.holds Tryz.pinned (OpenSpec.upto fnMoreFuelSpec)

/-- 'laws.FnInputs', WHERE WHAT IT READS IS OF BULK AT MOST 1048576: true; the input reads as it did. -/
def fnInputsUptoRow : OpenClaim := { program := "ytokiapglmedipaagreatdoor", sum := "3bd446986a506ea50782cf801f8fbd31a1663889af9f8cda1159fdf04bc78922", func := "loop.example/wholeway/laws.FnInputs", spec := "fnInputs", unfollowed := true, recurses := true, named := ["loop.example/wholeway/impl.keys", "loop.example/wholeway/impl.opSign", "loop.example/wholeway/impl.tries"], maps := true, apart := false, laid := [("loop.example/wholeway/impl.keys", laid_loop_example_wholeway_impl_keys), ("loop.example/wholeway/impl.opSign", laid_loop_example_wholeway_impl_opSign), ("loop.example/wholeway/impl.tries", laid_loop_example_wholeway_impl_tries)], narrowed := true }
def FnInputsUptoSaid : Prop := fnInputsUptoRow.holds Tryz.pinned (OpenSpec.upto fnInputsSpec)

/-- 'laws.FnSayFirst', WHERE WHAT IT READS IS OF BULK AT MOST 1048576: true; the input reads as it did. -/
def fnSayFirstUptoRow : OpenClaim := { program := "ytokiapglmedipaagreatdoor", sum := "3bd446986a506ea50782cf801f8fbd31a1663889af9f8cda1159fdf04bc78922", func := "loop.example/wholeway/laws.FnSayFirst", spec := "fnSayFirst", unfollowed := true, recurses := true, named := ["loop.example/wholeway/impl.keys", "loop.example/wholeway/impl.opSign"], maps := true, apart := false, laid := [("loop.example/wholeway/impl.keys", laid_loop_example_wholeway_impl_keys), ("loop.example/wholeway/impl.opSign", laid_loop_example_wholeway_impl_opSign)], narrowed := true }
def FnSayFirstUptoSaid : Prop := fnSayFirstUptoRow.holds Tryz.pinned (OpenSpec.upto fnSayFirstSpec)

/-- 'laws.FnWrapped', WHERE WHAT IT READS IS OF BULK AT MOST 1048576: true; the input reads as it did. -/
def fnWrappedUptoRow : OpenClaim := { program := "ytokiapglmedipaagreatdoor", sum := "3bd446986a506ea50782cf801f8fbd31a1663889af9f8cda1159fdf04bc78922", func := "loop.example/wholeway/laws.FnWrapped", spec := "fnWrapped", unfollowed := true, recurses := true, named := ["loop.example/wholeway/impl.keys", "loop.example/wholeway/impl.opSign"], maps := true, apart := false, laid := [("loop.example/wholeway/impl.keys", laid_loop_example_wholeway_impl_keys), ("loop.example/wholeway/impl.opSign", laid_loop_example_wholeway_impl_opSign)], narrowed := true }
def FnWrappedUptoSaid : Prop := fnWrappedUptoRow.holds Tryz.pinned (OpenSpec.upto fnWrappedSpec)

/-- 'laws.FnRenameRuns', WHERE WHAT IT READS IS OF BULK AT MOST 1048576: true; the input reads as it did. -/
def fnRenameRunsUptoRow : OpenClaim := { program := "ytokiapglmedipaagreatdoor", sum := "3bd446986a506ea50782cf801f8fbd31a1663889af9f8cda1159fdf04bc78922", func := "loop.example/wholeway/laws.FnRenameRuns", spec := "fnRenameRuns", unfollowed := true, recurses := true, named := ["loop.example/wholeway/impl.keys", "loop.example/wholeway/impl.opSign"], maps := true, apart := false, laid := [("loop.example/wholeway/impl.keys", laid_loop_example_wholeway_impl_keys), ("loop.example/wholeway/impl.opSign", laid_loop_example_wholeway_impl_opSign)], narrowed := true }
def FnRenameRunsUptoSaid : Prop := fnRenameRunsUptoRow.holds Tryz.pinned (OpenSpec.upto fnRenameRunsSpec)

/-- 'laws.FnCutRuns', WHERE WHAT IT READS IS OF BULK AT MOST 1048576: true; the input reads as it did. -/
def fnCutRunsUptoRow : OpenClaim := { program := "ytokiapglmedipaagreatdoor", sum := "3bd446986a506ea50782cf801f8fbd31a1663889af9f8cda1159fdf04bc78922", func := "loop.example/wholeway/laws.FnCutRuns", spec := "fnCutRuns", unfollowed := true, recurses := true, named := ["loop.example/wholeway/impl.keys", "loop.example/wholeway/impl.opSign", "loop.example/wholeway/impl.tries"], maps := true, apart := false, laid := [("loop.example/wholeway/impl.keys", laid_loop_example_wholeway_impl_keys), ("loop.example/wholeway/impl.opSign", laid_loop_example_wholeway_impl_opSign), ("loop.example/wholeway/impl.tries", laid_loop_example_wholeway_impl_tries)], narrowed := true }
def FnCutRunsUptoSaid : Prop := fnCutRunsUptoRow.holds Tryz.pinned (OpenSpec.upto fnCutRunsSpec)

/-- 'laws.FnFoldRuns', WHERE WHAT IT READS IS OF BULK AT MOST 1048576: true; the input reads as it did. -/
def fnFoldRunsUptoRow : OpenClaim := { program := "ytokiapglmedipaagreatdoor", sum := "3bd446986a506ea50782cf801f8fbd31a1663889af9f8cda1159fdf04bc78922", func := "loop.example/wholeway/laws.FnFoldRuns", spec := "fnFoldRuns", unfollowed := true, recurses := true, named := ["loop.example/wholeway/impl.keys", "loop.example/wholeway/impl.opSign", "loop.example/wholeway/impl.tries"], maps := true, apart := false, laid := [("loop.example/wholeway/impl.keys", laid_loop_example_wholeway_impl_keys), ("loop.example/wholeway/impl.opSign", laid_loop_example_wholeway_impl_opSign), ("loop.example/wholeway/impl.tries", laid_loop_example_wholeway_impl_tries)], narrowed := true }
def FnFoldRunsUptoSaid : Prop := fnFoldRunsUptoRow.holds Tryz.pinned (OpenSpec.upto fnFoldRunsSpec)

end Rows
end Go.Proofs.YtokiapglmedipaaGreatDoor
