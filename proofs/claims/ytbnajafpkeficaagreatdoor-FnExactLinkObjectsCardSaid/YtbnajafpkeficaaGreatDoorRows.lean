/-
  NARROWER THAN 'FOR EVERY INPUT', by the rows' own cells (each row's printed sentence says how): FnExactLinkOrder: laid · FnExactLinkObjects: laid.
  DERIVED. THE GIVEN ROWS OF THIS SEAT. 2 by the template 'for every input the law returns true; each argument reads behind the call as it read before'; 0 by the template 'total and deterministic' (their statements: YtbnajafpkeficaaGreatDoorTotals.lean).
  GIVEN WITH THE SEED: the statements are not yours to turn. If you find one false, say at which input.
  Laid BY PROGRAM, IN A SANDBOX (cutbox-rows.mjs): the forced cells as the released guide's own fill.sh prints them over the translation d48d9637d0c4aae4… (all of the seat's roots in one cut). By AI agents, Wed Nov 11 2026. No macro, syntax, notation, axiom, sorry.
-/
import Derived.Test.YtbnajafpkeficaaGreatDoorChecked
import GoSem.Claim
import GoSem.ClaimJoined
import GoSem.ClaimMapViews
import Derived.JoinedTies
import Derived.KernelRfl
namespace Go.Proofs.YtbnajafpkeficaaGreatDoor
/- THE CELL 'sum', in the pinned program and in every row, IS THE sha256 OF THE DUMP (.gsa) THAT YtbnajafpkeficaaGreatDoorProg.lean LOADS. Nothing in Lean hashes anything: it is a label: what it is worth is what the hold of that sum in a sandbox is worth. -/
noncomputable def Tryz.pinned : Pinned := { name := "ytbnajafpkeficaagreatdoor", sum := "d48d9637d0c4aae43ee8a75c3e58482405992923c9ee239d3a15a36565bde60f", checked := Tryz.checked }
namespace Rows
def none {H : Type} : Left H := { results := [], args := [] }

/- WHAT THE LISTED PACKAGE-LEVEL VARIABLES READ AS WHEN THE CALL BEGINS. Each datum BY PROGRAM (the guide's laid-datum.mjs) off the statement by which the dump's own 'gosem.cut.vars' lays the variable. In a bare row this is a premise. The card (YtbnajafpkeficaaGreatDoorCards.lean) ties it to the program's text. -/
def laid_loop_example_wholeway_impl_keys {H : Type} : DataW H := .agg [.lit (.string [102, 110]), .lit (.string [108, 101, 116]), .lit (.string [115, 97, 121]), .lit (.string [112, 117, 116]), .lit (.string [105, 102]), .lit (.string [101, 108, 115, 101]), .lit (.string [108, 111, 111, 112]), .lit (.string [98, 97, 99, 107]), .lit (.string [100, 111])]
def laid_loop_example_wholeway_impl_forms {H : Type} : DataW H := .agg [.agg [.lit (.string []), .lit (.int .i64 0)], .agg [.lit (.string [115, 101, 116]), .lit (.int .i64 9)], .agg [.lit (.string [109, 111, 118, 101]), .lit (.int .i64 3)], .agg [.lit (.string [97, 100, 100]), .lit (.int .i64 7)], .agg [.lit (.string [115, 117, 98]), .lit (.int .i64 7)], .agg [.lit (.string [109, 117, 108]), .lit (.int .i64 7)], .agg [.lit (.string [100, 105, 118]), .lit (.int .i64 7)], .agg [.lit (.string [114, 101, 109]), .lit (.int .i64 7)], .agg [.lit (.string [108, 101, 115, 115]), .lit (.int .i64 7)], .agg [.lit (.string [115, 97, 109, 101]), .lit (.int .i64 7)], .agg [.lit (.string [110, 111, 116]), .lit (.int .i64 3)], .agg [.lit (.string [108, 111, 97, 100]), .lit (.int .i64 3)], .agg [.lit (.string [115, 116, 111, 114, 101]), .lit (.int .i64 3)], .agg [.lit (.string [115, 97, 121]), .lit (.int .i64 1)], .agg [.lit (.string [99, 97, 108, 108]), .lit (.int .i64 8)], .agg [.lit (.string [107, 101, 101, 112]), .lit (.int .i64 9)], .agg [.lit (.string [116, 97, 107, 101]), .lit (.int .i64 9)], .agg [.lit (.string [103, 105, 118, 101]), .lit (.int .i64 9)], .agg [.lit (.string [102, 101, 116, 99, 104]), .lit (.int .i64 9)], .agg [.lit (.string [114, 101, 115, 117, 108, 116]), .lit (.int .i64 1)], .agg [.lit (.string [106, 117, 109, 112]), .lit (.int .i64 8)], .agg [.lit (.string [98, 114, 97, 110, 99, 104]), .lit (.int .i64 9)], .agg [.lit (.string [98, 97, 99, 107]), .lit (.int .i64 1)]]

/-- 'laws.FnExactLinkOrder': WHATEVER THE INPUT: true; the input reads as it did. -/
def fnExactLinkOrderSpec : ChangeSpec := { name := "fnExactLinkOrder", vars := ["loop.example/wholeway/impl.keys", "loop.example/wholeway/impl.forms"], fn := fun _ => fun
  | [d1, d2, g1, g2] => { results := [.lit (.bool true)], args := [d1, d2], vars := [g1, g2] }
  | _ => none }
def fnExactLinkOrderRow : OpenClaim := { program := "ytbnajafpkeficaagreatdoor", sum := "d48d9637d0c4aae43ee8a75c3e58482405992923c9ee239d3a15a36565bde60f", func := "loop.example/wholeway/laws.FnExactLinkOrder", spec := "fnExactLinkOrder", unfollowed := true, recurses := true, named := ["loop.example/wholeway/impl.keys", "loop.example/wholeway/impl.forms"], apart := false, laid := [("loop.example/wholeway/impl.keys", laid_loop_example_wholeway_impl_keys), ("loop.example/wholeway/impl.forms", laid_loop_example_wholeway_impl_forms)] }
def FnExactLinkOrderSaid : Prop := fnExactLinkOrderRow.holds Tryz.pinned (OpenSpec.ofChange fnExactLinkOrderSpec)

/-- ITS FALSE NEIGHBOUR: 'it returns false'. Refute it at one input. -/
def fnExactLinkOrderWrong : ChangeSpec := { name := "fnExactLinkOrder", vars := ["loop.example/wholeway/impl.keys", "loop.example/wholeway/impl.forms"], fn := fun _ => fun
  | [d1, d2, g1, g2] => { results := [.lit (.bool false)], args := [d1, d2], vars := [g1, g2] }
  | _ => none }
def FnExactLinkOrderWrongFalsely : Prop := fnExactLinkOrderRow.holds Tryz.pinned (OpenSpec.ofChange fnExactLinkOrderWrong)

/-- 'laws.FnExactLinkObjects': WHATEVER THE INPUT: true; the input reads as it did. -/
def fnExactLinkObjectsSpec : ChangeSpec := { name := "fnExactLinkObjects", vars := ["loop.example/wholeway/impl.keys", "loop.example/wholeway/impl.forms"], fn := fun _ => fun
  | [d1, d2, g1, g2] => { results := [.lit (.bool true)], args := [d1, d2], vars := [g1, g2] }
  | _ => none }
def fnExactLinkObjectsRow : OpenClaim := { program := "ytbnajafpkeficaagreatdoor", sum := "d48d9637d0c4aae43ee8a75c3e58482405992923c9ee239d3a15a36565bde60f", func := "loop.example/wholeway/laws.FnExactLinkObjects", spec := "fnExactLinkObjects", unfollowed := true, recurses := true, named := ["loop.example/wholeway/impl.keys", "loop.example/wholeway/impl.forms"], apart := false, laid := [("loop.example/wholeway/impl.keys", laid_loop_example_wholeway_impl_keys), ("loop.example/wholeway/impl.forms", laid_loop_example_wholeway_impl_forms)] }
def FnExactLinkObjectsSaid : Prop := fnExactLinkObjectsRow.holds Tryz.pinned (OpenSpec.ofChange fnExactLinkObjectsSpec)

/-- ITS FALSE NEIGHBOUR: 'it returns false'. Refute it at one input. -/
def fnExactLinkObjectsWrong : ChangeSpec := { name := "fnExactLinkObjects", vars := ["loop.example/wholeway/impl.keys", "loop.example/wholeway/impl.forms"], fn := fun _ => fun
  | [d1, d2, g1, g2] => { results := [.lit (.bool false)], args := [d1, d2], vars := [g1, g2] }
  | _ => none }
def FnExactLinkObjectsWrongFalsely : Prop := fnExactLinkObjectsRow.holds Tryz.pinned (OpenSpec.ofChange fnExactLinkObjectsWrong)

/- THE SECOND FORM. 'bulk': how many values and letters a reading holds, each counted each time it is reached (what is shared counts as often as it is met; a slice's spare places count too). A statement '..UptoSaid' is the law's where the arguments, and the package variables that the reading takes, are together of bulk at most 1048576: NARROWER than '..Said'. Prove '..Said' where nothing that the law and all that it calls make is longer than what came in: it says more and counts as full. Else prove '..UptoSaid'. A law counts once. -/
mutual
def uptoBulk {H : Type} : DataW H → Nat
  | .lit (.string bytes) => bytes.length + 1
  | .lit _ => 1
  | .nil => 1
  | .ptr d => uptoBulk d + 1
  | .slice elems spare => uptoBulkAll elems + uptoBulkAll spare + 1
  | .agg parts => uptoBulkAll parts + 1
  | .iface _ d => uptoBulk d + 1
  | .map entries => uptoBulkEntries entries + 1
  | .held _ => 1
def uptoBulkAll {H : Type} : List (DataW H) → Nat
  | [] => 0
  | d :: r => uptoBulk d + uptoBulkAll r
def uptoBulkEntries {H : Type} : List (Lit × DataW H) → Nat
  | [] => 0
  | x :: r => uptoBulkEntry x + uptoBulkEntries r
def uptoBulkEntry {H : Type} : Lit × DataW H → Nat
  | (.string bytes, d) => bytes.length + uptoBulk d + 1
  | (_, d) => uptoBulk d + 1
 end
def uptoSmall : (H : Type) → List (DataW H) → Bool := fun _ ds => decide (uptoBulkAll ds ≤ 1048576)
def OpenSpec.upto (s : _root_.Go.ChangeSpec) : _root_.Go.OpenSpec := { _root_.Go.OpenSpec.ofChange s with cond := some uptoSmall }

/-- 'laws.FnExactLinkOrder', WHERE WHAT IT READS IS OF BULK AT MOST 1048576: true; the input reads as it did. -/
def fnExactLinkOrderUptoRow : OpenClaim := { program := "ytbnajafpkeficaagreatdoor", sum := "d48d9637d0c4aae43ee8a75c3e58482405992923c9ee239d3a15a36565bde60f", func := "loop.example/wholeway/laws.FnExactLinkOrder", spec := "fnExactLinkOrder", unfollowed := true, recurses := true, named := ["loop.example/wholeway/impl.keys", "loop.example/wholeway/impl.forms"], apart := false, laid := [("loop.example/wholeway/impl.keys", laid_loop_example_wholeway_impl_keys), ("loop.example/wholeway/impl.forms", laid_loop_example_wholeway_impl_forms)], narrowed := true }
def FnExactLinkOrderUptoSaid : Prop := fnExactLinkOrderUptoRow.holds Tryz.pinned (OpenSpec.upto fnExactLinkOrderSpec)

/-- 'laws.FnExactLinkObjects', WHERE WHAT IT READS IS OF BULK AT MOST 1048576: true; the input reads as it did. -/
def fnExactLinkObjectsUptoRow : OpenClaim := { program := "ytbnajafpkeficaagreatdoor", sum := "d48d9637d0c4aae43ee8a75c3e58482405992923c9ee239d3a15a36565bde60f", func := "loop.example/wholeway/laws.FnExactLinkObjects", spec := "fnExactLinkObjects", unfollowed := true, recurses := true, named := ["loop.example/wholeway/impl.keys", "loop.example/wholeway/impl.forms"], apart := false, laid := [("loop.example/wholeway/impl.keys", laid_loop_example_wholeway_impl_keys), ("loop.example/wholeway/impl.forms", laid_loop_example_wholeway_impl_forms)], narrowed := true }
def FnExactLinkObjectsUptoSaid : Prop := fnExactLinkObjectsUptoRow.holds Tryz.pinned (OpenSpec.upto fnExactLinkObjectsSpec)

end Rows
end Go.Proofs.YtbnajafpkeficaaGreatDoor
