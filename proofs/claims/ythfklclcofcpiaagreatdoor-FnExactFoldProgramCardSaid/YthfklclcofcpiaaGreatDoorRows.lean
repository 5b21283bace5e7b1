/-
  NARROWER THAN 'FOR EVERY INPUT', by the rows' own cells (each row's printed sentence says how): FnExactCutProgram: loops, maps, laid · FnExactFoldProgram: loops, maps, laid.
  DERIVED. THE GIVEN ROWS OF THIS SEAT. 2 by the template 'for every input the law returns true; each argument reads behind the call as it read before'; 0 by the template 'total and deterministic' (their statements: YthfklclcofcpiaaGreatDoorTotals.lean).
  GIVEN WITH THE SEED: the statements are not yours to turn. If you find one false, say at which input.
  Laid BY PROGRAM, IN A SANDBOX (cutbox-rows.mjs): the forced cells as the released guide's own fill.sh prints them over the translation fd95ddfa023d8e69… (all of the seat's roots in one cut). By AI agents, Wed Nov 11 2026. No macro, syntax, notation, axiom, sorry.
-/
import Derived.Test.YthfklclcofcpiaaGreatDoorChecked
import GoSem.Claim
import GoSem.ClaimJoined
import GoSem.ClaimMapViews
import Derived.JoinedTies
import Derived.KernelRfl
namespace Go.Proofs.YthfklclcofcpiaaGreatDoor
/- THE CELL 'sum', in the pinned program and in every row, IS THE sha256 OF THE DUMP (.gsa) THAT YthfklclcofcpiaaGreatDoorProg.lean LOADS. Nothing in Lean hashes anything: it is a label: what it is worth is what the hold of that sum in a sandbox is worth. -/
noncomputable def Tryz.pinned : Pinned := { name := "ythfklclcofcpiaagreatdoor", sum := "fd95ddfa023d8e6933833761409e1d22a38d2e0df515d7cc835b95e6d1741e36", checked := Tryz.checked }
namespace Rows
def none {H : Type} : Left H := { results := [], args := [] }

/- WHAT THE LISTED PACKAGE-LEVEL VARIABLES READ AS WHEN THE CALL BEGINS. Each datum BY PROGRAM (the guide's laid-datum.mjs) off the statement by which the dump's own 'gosem.cut.vars' lays the variable. In a bare row this is a premise. The card (YthfklclcofcpiaaGreatDoorCards.lean) ties it to the program's text. -/
def laid_loop_example_wholeway_impl_keys {H : Type} : DataW H := .agg [.lit (.string [102, 110]), .lit (.string [108, 101, 116]), .lit (.string [115, 97, 121]), .lit (.string [112, 117, 116]), .lit (.string [105, 102]), .lit (.string [101, 108, 115, 101]), .lit (.string [108, 111, 111, 112]), .lit (.string [98, 97, 99, 107]), .lit (.string [100, 111])]
def laid_loop_example_wholeway_impl_opSign {H : Type} : DataW H := .map [(.int .i64 3, .agg [.lit (.string [43]), .lit (.int .i64 3)]), (.int .i64 4, .agg [.lit (.string [45]), .lit (.int .i64 3)]), (.int .i64 5, .agg [.lit (.string [42]), .lit (.int .i64 4)]), (.int .i64 6, .agg [.lit (.string [47]), .lit (.int .i64 4)]), (.int .i64 7, .agg [.lit (.string [37]), .lit (.int .i64 4)]), (.int .i64 8, .agg [.lit (.string [60]), .lit (.int .i64 2)]), (.int .i64 9, .agg [.lit (.string [61]), .lit (.int .i64 2)]), (.int .i64 10, .agg [.lit (.string [38]), .lit (.int .i64 1)])]

/-- 'laws.FnExactCutProgram': WHATEVER THE INPUT: true; the input reads as it did. -/
def fnExactCutProgramSpec : ChangeSpec := { name := "fnExactCutProgram", vars := ["loop.example/wholeway/impl.keys", "loop.example/wholeway/impl.opSign"], fn := fun _ => fun
  | [d, g1, g2] => { results := [.lit (.bool true)], args := [d], vars := [g1, g2] }
  | _ => none }
def fnExactCutProgramRow : OpenClaim := { program := "ythfklclcofcpiaagreatdoor", sum := "fd95ddfa023d8e6933833761409e1d22a38d2e0df515d7cc835b95e6d1741e36", func := "loop.example/wholeway/laws.FnExactCutProgram", spec := "fnExactCutProgram", unfollowed := true, recurses := true, named := ["loop.example/wholeway/impl.keys", "loop.example/wholeway/impl.opSign"], maps := true, loops := true, apart := false, laid := [("loop.example/wholeway/impl.keys", laid_loop_example_wholeway_impl_keys), ("loop.example/wholeway/impl.opSign", laid_loop_example_wholeway_impl_opSign)] }
def FnExactCutProgramSaid : Prop := fnExactCutProgramRow.holds Tryz.pinned (OpenSpec.ofChange fnExactCutProgramSpec)

/-- ITS FALSE NEIGHBOUR: 'it returns false'. Refute it at one input. -/
def fnExactCutProgramWrong : ChangeSpec := { name := "fnExactCutProgram", vars := ["loop.example/wholeway/impl.keys", "loop.example/wholeway/impl.opSign"], fn := fun _ => fun
  | [d, g1, g2] => { results := [.lit (.bool false)], args := [d], vars := [g1, g2] }
  | _ => none }
def FnExactCutProgramWrongFalsely : Prop := fnExactCutProgramRow.holds Tryz.pinned (OpenSpec.ofChange fnExactCutProgramWrong)

/-- 'laws.FnExactFoldProgram': WHATEVER THE INPUT: true; the input reads as it did. -/
def fnExactFoldProgramSpec : ChangeSpec := { name := "fnExactFoldProgram", vars := ["loop.example/wholeway/impl.keys", "loop.example/wholeway/impl.opSign"], fn := fun _ => fun
  | [d, g1, g2] => { results := [.lit (.bool true)], args := [d], vars := [g1, g2] }
  | _ => none }
def fnExactFoldProgramRow : OpenClaim := { program := "ythfklclcofcpiaagreatdoor", sum := "fd95ddfa023d8e6933833761409e1d22a38d2e0df515d7cc835b95e6d1741e36", func := "loop.example/wholeway/laws.FnExactFoldProgram", spec := "fnExactFoldProgram", unfollowed := true, recurses := true, named := ["loop.example/wholeway/impl.keys", "loop.example/wholeway/impl.opSign"], maps := true, loops := true, apart := false, laid := [("loop.example/wholeway/impl.keys", laid_loop_example_wholeway_impl_keys), ("loop.example/wholeway/impl.opSign", laid_loop_example_wholeway_impl_opSign)] }
def FnExactFoldProgramSaid : Prop := fnExactFoldProgramRow.holds Tryz.pinned (OpenSpec.ofChange fnExactFoldProgramSpec)

/-- ITS FALSE NEIGHBOUR: 'it returns false'. Refute it at one input. -/
def fnExactFoldProgramWrong : ChangeSpec := { name := "fnExactFoldProgram", vars := ["loop.example/wholeway/impl.keys", "loop.example/wholeway/impl.opSign"], fn := fun _ => fun
  | [d, g1, g2] => { results := [.lit (.bool false)], args := [d], vars := [g1, g2] }
  | _ => none }
def FnExactFoldProgramWrongFalsely : Prop := fnExactFoldProgramRow.holds Tryz.pinned (OpenSpec.ofChange fnExactFoldProgramWrong)

/- THE SECOND FORM. 'bulk': how many values and letters a reading holds, each counted each time it is reached (what is shared counts as often as it is met; a slice's spare places count too). A statement '..UptoSaid' is the law's where the arguments, and the package variables that the reading takes, are together of bulk at most 1048576: NARROWER than '..Said'. Prove '..Said' where nothing that the law and all that it calls make is longer than what came in: it says more and counts as full. Else prove '..UptoSaid'. A law counts once. -/
mutual
def uptoBulk {H : Type} : DataW H → Nat
  | .lit (.string bytes) => bytes.length + 1
  | .lit _ => 1
  | .nil => 1
  | .ptr d => uptoBulk d + 1
  | .slice elems spare => uptoBulkAll elems + uptoBulkAll spare + 1
  | .agg parts => uptoBulkAll parts + 1
  | .iface _ d => uptoBulk d + 1
  | .map entries => uptoBulkEntries entries + 1
  | .held _ => 1
def uptoBulkAll {H : Type} : List (DataW H) → Nat
  | [] => 0
  | d :: r => uptoBulk d + uptoBulkAll r
def uptoBulkEntries {H : Type} : List (Lit × DataW H) → Nat
  | [] => 0
  | x :: r => uptoBulkEntry x + uptoBulkEntries r
def uptoBulkEntry {H : Type} : Lit × DataW H → Nat
  | (.string bytes, d) => bytes.length + uptoBulk d + 1
  | (_, d) => uptoBulk d + 1
 end
def uptoSmall : (H : Type) → List (DataW H) → Bool := fun _ ds => decide (uptoBulkAll ds ≤ 1048576)
def OpenSpec.upto (s : _root_.Go.ChangeSpec) : _root_.Go.OpenSpec := { _root_.Go.OpenSpec.ofChange s with cond := some uptoSmall }

/-- 'laws.FnExactCutProgram', WHERE WHAT IT READS IS OF BULK AT MOST 1048576: true; the input reads as it did. -/
def fnExactCutProgramUptoRow : OpenClaim := { program := "ythfklclcofcpiaagreatdoor", sum := "fd95ddfa023d8e6933833761409e1d22a38d2e0df515d7cc835b95e6d1741e36", func := "loop.example/wholeway/laws.FnExactCutProgram", spec := "fnExactCutProgram", unfollowed := true, recurses := true, named := ["loop.example/wholeway/impl.keys", "loop.example/wholeway/impl.opSign"], maps := true, loops := true, apart := false, laid := [("loop.example/wholeway/impl.keys", laid_loop_example_wholeway_impl_keys), ("loop.example/wholeway/impl.opSign", laid_loop_example_wholeway_impl_opSign)], narrowed := true }
def FnExactCutProgramUptoSaid : Prop := fnExactCutProgramUptoRow.holds Tryz.pinned (OpenSpec.upto fnExactCutProgramSpec)

/-- 'laws.FnExactFoldProgram', WHERE WHAT IT READS IS OF BULK AT MOST 1048576: true; the input reads as it did. -/
def fnExactFoldProgramUptoRow : OpenClaim := { program := "ythfklclcofcpiaagreatdoor", sum := "fd95ddfa023d8e6933833761409e1d22a38d2e0df515d7cc835b95e6d1741e36", func := "loop.example/wholeway/laws.FnExactFoldProgram", spec := "fnExactFoldProgram", unfollowed := true, recurses := true, named := ["loop.example/wholeway/impl.keys", "loop.example/wholeway/impl.opSign"], maps := true, loops := true, apart := false, laid := [("loop.example/wholeway/impl.keys", laid_loop_example_wholeway_impl_keys), ("loop.example/wholeway/impl.opSign", laid_loop_example_wholeway_impl_opSign)], narrowed := true }
def FnExactFoldProgramUptoSaid : Prop := fnExactFoldProgramUptoRow.holds Tryz.pinned (OpenSpec.upto fnExactFoldProgramSpec)

end Rows
end Go.Proofs.YthfklclcofcpiaaGreatDoor
