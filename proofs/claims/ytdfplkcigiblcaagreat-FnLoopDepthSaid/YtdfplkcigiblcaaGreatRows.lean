/-
  No cell of these rows narrows 'for every input' (looked for: loops, veiled, ifaces, maps, wideKeys, modest, calm, conditions, laid).
  DERIVED. THE GIVEN ROWS OF THIS SEAT. 11 by the template 'for every input the law returns true; each argument reads behind the call as it read before'; 0 by the template 'total and deterministic' (their statements: YtdfplkcigiblcaaGreatTotals.lean).
  GIVEN WITH THE SEED: the statements are not yours to turn. If you find one false, say at which input.
  Laid BY PROGRAM, IN A SANDBOX (cutbox-rows.mjs): the forced cells as the released guide's own fill.sh prints them over the translation e3eaaa4ab2d38cdb… (all of the seat's roots in one cut). By AI agents, Wed Nov 11 2026. No macro, syntax, notation, axiom, sorry.
-/
import Derived.Test.YtdfplkcigiblcaaGreatChecked
import GoSem.Claim
import GoSem.ClaimJoined
import GoSem.ClaimMapViews
import Derived.JoinedTies
import Derived.KernelRfl
namespace Go.Proofs.YtdfplkcigiblcaaGreat
/- THE CELL 'sum', in the pinned program and in every row, IS THE sha256 OF THE DUMP (.gsa) THAT YtdfplkcigiblcaaGreatProg.lean LOADS. Nothing in Lean hashes anything: it is a label: what it is worth is what the hold of that sum in a sandbox is worth. -/
noncomputable def Tryz.pinned : Pinned := { name := "ytdfplkcigiblcaagreat", sum := "e3eaaa4ab2d38cdbdf0ba2b6e610f72d823ae66bd7022a04d852367774dc053b", checked := Tryz.checked }
namespace Rows
def none {H : Type} : Left H := { results := [], args := [] }

/-- 'laws.FnHasSharp': WHATEVER THE INPUT: true; the input reads as it did. -/
def fnHasSharpSpec : ChangeSpec := { name := "fnHasSharp", fn := fun _ => fun
  | [d] => { results := [.lit (.bool true)], args := [d] }
  | _ => none }
def fnHasSharpRow : OpenClaim := { program := "ytdfplkcigiblcaagreat", sum := "e3eaaa4ab2d38cdbdf0ba2b6e610f72d823ae66bd7022a04d852367774dc053b", func := "loop.example/wholeway/laws.FnHasSharp", spec := "fnHasSharp", unfollowed := true, recurses := true, apart := false }
def FnHasSharpSaid : Prop := fnHasSharpRow.holds Tryz.pinned (OpenSpec.ofChange fnHasSharpSpec)

/-- ITS FALSE NEIGHBOUR: 'it returns false'. Refute it at one input. -/
def fnHasSharpWrong : ChangeSpec := { name := "fnHasSharp", fn := fun _ => fun
  | [d] => { results := [.lit (.bool false)], args := [d] }
  | _ => none }
def FnHasSharpWrongFalsely : Prop := fnHasSharpRow.holds Tryz.pinned (OpenSpec.ofChange fnHasSharpWrong)

/-- 'laws.FnOrder': WHATEVER THE INPUT: true; the input reads as it did. -/
def fnOrderSpec : ChangeSpec := { name := "fnOrder", fn := fun _ => fun
  | [d] => { results := [.lit (.bool true)], args := [d] }
  | _ => none }
def fnOrderRow : OpenClaim := { program := "ytdfplkcigiblcaagreat", sum := "e3eaaa4ab2d38cdbdf0ba2b6e610f72d823ae66bd7022a04d852367774dc053b", func := "loop.example/wholeway/laws.FnOrder", spec := "fnOrder", unfollowed := true, recurses := true, apart := false }
def FnOrderSaid : Prop := fnOrderRow.holds Tryz.pinned (OpenSpec.ofChange fnOrderSpec)

/-- ITS FALSE NEIGHBOUR: 'it returns false'. Refute it at one input. -/
def fnOrderWrong : ChangeSpec := { name := "fnOrder", fn := fun _ => fun
  | [d] => { results := [.lit (.bool false)], args := [d] }
  | _ => none }
def FnOrderWrongFalsely : Prop := fnOrderRow.holds Tryz.pinned (OpenSpec.ofChange fnOrderWrong)

/-- 'laws.FnReached': WHATEVER THE INPUT: true; the input reads as it did. -/
def fnReachedSpec : ChangeSpec := { name := "fnReached", fn := fun _ => fun
  | [d] => { results := [.lit (.bool true)], args := [d] }
  | _ => none }
def fnReachedRow : OpenClaim := { program := "ytdfplkcigiblcaagreat", sum := "e3eaaa4ab2d38cdbdf0ba2b6e610f72d823ae66bd7022a04d852367774dc053b", func := "loop.example/wholeway/laws.FnReached", spec := "fnReached", unfollowed := true, recurses := true, apart := false }
def FnReachedSaid : Prop := fnReachedRow.holds Tryz.pinned (OpenSpec.ofChange fnReachedSpec)

/-- ITS FALSE NEIGHBOUR: 'it returns false'. Refute it at one input. -/
def fnReachedWrong : ChangeSpec := { name := "fnReached", fn := fun _ => fun
  | [d] => { results := [.lit (.bool false)], args := [d] }
  | _ => none }
def FnReachedWrongFalsely : Prop := fnReachedRow.holds Tryz.pinned (OpenSpec.ofChange fnReachedWrong)

/-- 'laws.FnDominates': WHATEVER THE INPUT: true; the input reads as it did. -/
def fnDominatesSpec : ChangeSpec := { name := "fnDominates", fn := fun _ => fun
  | [d] => { results := [.lit (.bool true)], args := [d] }
  | _ => none }
def fnDominatesRow : OpenClaim := { program := "ytdfplkcigiblcaagreat", sum := "e3eaaa4ab2d38cdbdf0ba2b6e610f72d823ae66bd7022a04d852367774dc053b", func := "loop.example/wholeway/laws.FnDominates", spec := "fnDominates", unfollowed := true, recurses := true, apart := false }
def FnDominatesSaid : Prop := fnDominatesRow.holds Tryz.pinned (OpenSpec.ofChange fnDominatesSpec)

/-- ITS FALSE NEIGHBOUR: 'it returns false'. Refute it at one input. -/
def fnDominatesWrong : ChangeSpec := { name := "fnDominates", fn := fun _ => fun
  | [d] => { results := [.lit (.bool false)], args := [d] }
  | _ => none }
def FnDominatesWrongFalsely : Prop := fnDominatesRow.holds Tryz.pinned (OpenSpec.ofChange fnDominatesWrong)

/-- 'laws.FnBackEdges': WHATEVER THE INPUT: true; the input reads as it did. -/
def fnBackEdgesSpec : ChangeSpec := { name := "fnBackEdges", fn := fun _ => fun
  | [d] => { results := [.lit (.bool true)], args := [d] }
  | _ => none }
def fnBackEdgesRow : OpenClaim := { program := "ytdfplkcigiblcaagreat", sum := "e3eaaa4ab2d38cdbdf0ba2b6e610f72d823ae66bd7022a04d852367774dc053b", func := "loop.example/wholeway/laws.FnBackEdges", spec := "fnBackEdges", unfollowed := true, recurses := true, apart := false }
def FnBackEdgesSaid : Prop := fnBackEdgesRow.holds Tryz.pinned (OpenSpec.ofChange fnBackEdgesSpec)

/-- ITS FALSE NEIGHBOUR: 'it returns false'. Refute it at one input. -/
def fnBackEdgesWrong : ChangeSpec := { name := "fnBackEdges", fn := fun _ => fun
  | [d] => { results := [.lit (.bool false)], args := [d] }
  | _ => none }
def FnBackEdgesWrongFalsely : Prop := fnBackEdgesRow.holds Tryz.pinned (OpenSpec.ofChange fnBackEdgesWrong)

/-- 'laws.FnIdoms': WHATEVER THE INPUT: true; the input reads as it did. -/
def fnIdomsSpec : ChangeSpec := { name := "fnIdoms", fn := fun _ => fun
  | [d] => { results := [.lit (.bool true)], args := [d] }
  | _ => none }
def fnIdomsRow : OpenClaim := { program := "ytdfplkcigiblcaagreat", sum := "e3eaaa4ab2d38cdbdf0ba2b6e610f72d823ae66bd7022a04d852367774dc053b", func := "loop.example/wholeway/laws.FnIdoms", spec := "fnIdoms", unfollowed := true, recurses := true, apart := false }
def FnIdomsSaid : Prop := fnIdomsRow.holds Tryz.pinned (OpenSpec.ofChange fnIdomsSpec)

/-- ITS FALSE NEIGHBOUR: 'it returns false'. Refute it at one input. -/
def fnIdomsWrong : ChangeSpec := { name := "fnIdoms", fn := fun _ => fun
  | [d] => { results := [.lit (.bool false)], args := [d] }
  | _ => none }
def FnIdomsWrongFalsely : Prop := fnIdomsRow.holds Tryz.pinned (OpenSpec.ofChange fnIdomsWrong)

/-- 'laws.FnDomDepth': WHATEVER THE INPUT: true; the input reads as it did. -/
def fnDomDepthSpec : ChangeSpec := { name := "fnDomDepth", fn := fun _ => fun
  | [d] => { results := [.lit (.bool true)], args := [d] }
  | _ => none }
def fnDomDepthRow : OpenClaim := { program := "ytdfplkcigiblcaagreat", sum := "e3eaaa4ab2d38cdbdf0ba2b6e610f72d823ae66bd7022a04d852367774dc053b", func := "loop.example/wholeway/laws.FnDomDepth", spec := "fnDomDepth", unfollowed := true, recurses := true, apart := false }
def FnDomDepthSaid : Prop := fnDomDepthRow.holds Tryz.pinned (OpenSpec.ofChange fnDomDepthSpec)

/-- ITS FALSE NEIGHBOUR: 'it returns false'. Refute it at one input. -/
def fnDomDepthWrong : ChangeSpec := { name := "fnDomDepth", fn := fun _ => fun
  | [d] => { results := [.lit (.bool false)], args := [d] }
  | _ => none }
def FnDomDepthWrongFalsely : Prop := fnDomDepthRow.holds Tryz.pinned (OpenSpec.ofChange fnDomDepthWrong)

/-- 'laws.FnDomKids': WHATEVER THE INPUT: true; the input reads as it did. -/
def fnDomKidsSpec : ChangeSpec := { name := "fnDomKids", fn := fun _ => fun
  | [d] => { results := [.lit (.bool true)], args := [d] }
  | _ => none }
def fnDomKidsRow : OpenClaim := { program := "ytdfplkcigiblcaagreat", sum := "e3eaaa4ab2d38cdbdf0ba2b6e610f72d823ae66bd7022a04d852367774dc053b", func := "loop.example/wholeway/laws.FnDomKids", spec := "fnDomKids", unfollowed := true, recurses := true, apart := false }
def FnDomKidsSaid : Prop := fnDomKidsRow.holds Tryz.pinned (OpenSpec.ofChange fnDomKidsSpec)

/-- ITS FALSE NEIGHBOUR: 'it returns false'. Refute it at one input. -/
def fnDomKidsWrong : ChangeSpec := { name := "fnDomKids", fn := fun _ => fun
  | [d] => { results := [.lit (.bool false)], args := [d] }
  | _ => none }
def FnDomKidsWrongFalsely : Prop := fnDomKidsRow.holds Tryz.pinned (OpenSpec.ofChange fnDomKidsWrong)

/-- 'laws.FnDomOrder': WHATEVER THE INPUT: true; the input reads as it did. -/
def fnDomOrderSpec : ChangeSpec := { name := "fnDomOrder", fn := fun _ => fun
  | [d] => { results := [.lit (.bool true)], args := [d] }
  | _ => none }
def fnDomOrderRow : OpenClaim := { program := "ytdfplkcigiblcaagreat", sum := "e3eaaa4ab2d38cdbdf0ba2b6e610f72d823ae66bd7022a04d852367774dc053b", func := "loop.example/wholeway/laws.FnDomOrder", spec := "fnDomOrder", unfollowed := true, recurses := true, apart := false }
def FnDomOrderSaid : Prop := fnDomOrderRow.holds Tryz.pinned (OpenSpec.ofChange fnDomOrderSpec)

/-- ITS FALSE NEIGHBOUR: 'it returns false'. Refute it at one input. -/
def fnDomOrderWrong : ChangeSpec := { name := "fnDomOrder", fn := fun _ => fun
  | [d] => { results := [.lit (.bool false)], args := [d] }
  | _ => none }
def FnDomOrderWrongFalsely : Prop := fnDomOrderRow.holds Tryz.pinned (OpenSpec.ofChange fnDomOrderWrong)

/-- 'laws.FnFrontierJoin': WHATEVER THE INPUT: true; the input reads as it did. -/
def fnFrontierJoinSpec : ChangeSpec := { name := "fnFrontierJoin", fn := fun _ => fun
  | [d] => { results := [.lit (.bool true)], args := [d] }
  | _ => none }
def fnFrontierJoinRow : OpenClaim := { program := "ytdfplkcigiblcaagreat", sum := "e3eaaa4ab2d38cdbdf0ba2b6e610f72d823ae66bd7022a04d852367774dc053b", func := "loop.example/wholeway/laws.FnFrontierJoin", spec := "fnFrontierJoin", unfollowed := true, recurses := true, apart := false }
def FnFrontierJoinSaid : Prop := fnFrontierJoinRow.holds Tryz.pinned (OpenSpec.ofChange fnFrontierJoinSpec)

/-- ITS FALSE NEIGHBOUR: 'it returns false'. Refute it at one input. -/
def fnFrontierJoinWrong : ChangeSpec := { name := "fnFrontierJoin", fn := fun _ => fun
  | [d] => { results := [.lit (.bool false)], args := [d] }
  | _ => none }
def FnFrontierJoinWrongFalsely : Prop := fnFrontierJoinRow.holds Tryz.pinned (OpenSpec.ofChange fnFrontierJoinWrong)

/-- 'laws.FnLoopDepth': WHATEVER THE INPUT: true; the input reads as it did. -/
def fnLoopDepthSpec : ChangeSpec := { name := "fnLoopDepth", fn := fun _ => fun
  | [d] => { results := [.lit (.bool true)], args := [d] }
  | _ => none }
def fnLoopDepthRow : OpenClaim := { program := "ytdfplkcigiblcaagreat", sum := "e3eaaa4ab2d38cdbdf0ba2b6e610f72d823ae66bd7022a04d852367774dc053b", func := "loop.example/wholeway/laws.FnLoopDepth", spec := "fnLoopDepth", unfollowed := true, recurses := true, apart := false }
def FnLoopDepthSaid : Prop := fnLoopDepthRow.holds Tryz.pinned (OpenSpec.ofChange fnLoopDepthSpec)

/-- ITS FALSE NEIGHBOUR: 'it returns false'. Refute it at one input. -/
def fnLoopDepthWrong : ChangeSpec := { name := "fnLoopDepth", fn := fun _ => fun
  | [d] => { results := [.lit (.bool false)], args := [d] }
  | _ => none }
def FnLoopDepthWrongFalsely : Prop := fnLoopDepthRow.holds Tryz.pinned (OpenSpec.ofChange fnLoopDepthWrong)

/- THE SECOND FORM. 'bulk': how many values and letters a reading holds, each counted each time it is reached (what is shared counts as often as it is met; a slice's spare places count too). A statement '..UptoSaid' is the law's where the arguments, and the package variables that the reading takes, are together of bulk at most 1048576: NARROWER than '..Said'. Prove '..Said' where nothing that the law and all that it calls make is longer than what came in: it says more and counts as full. Else prove '..UptoSaid'. A law counts once. -/
mutual
def uptoBulk {H : Type} : DataW H → Nat
  | .lit (.string bytes) => bytes.length + 1
  | .lit _ => 1
  | .nil => 1
  | .ptr d => uptoBulk d + 1
  | .slice elems spare => uptoBulkAll elems + uptoBulkAll spare + 1
  | .agg parts => uptoBulkAll parts + 1
  | .iface _ d => uptoBulk d + 1
  | .map entries => uptoBulkEntries entries + 1
  | .held _ => 1
def uptoBulkAll {H : Type} : List (DataW H) → Nat
  | [] => 0
  | d :: r => uptoBulk d + uptoBulkAll r
def uptoBulkEntries {H : Type} : List (Lit × DataW H) → Nat
  | [] => 0
  | x :: r => uptoBulkEntry x + uptoBulkEntries r
def uptoBulkEntry {H : Type} : Lit × DataW H → Nat
  | (.string bytes, d) => bytes.length + uptoBulk d + 1
  | (_, d) => uptoBulk d + 1
 end
def uptoSmall : (H : Type) → List (DataW H) → Bool := fun _ ds => decide (uptoBulkAll ds ≤ 1048576)
def OpenSpec.upto (s : _root_.Go.ChangeSpec) : _root_.Go.OpenSpec := { _root_.Go.OpenSpec.ofChange s with cond := some uptoSmall }

/-- 'laws.FnHasSharp', WHERE WHAT IT READS IS OF BULK AT MOST 1048576: true; the input reads as it did. -/
def fnHasSharpUptoRow : OpenClaim := { program := "ytdfplkcigiblcaagreat", sum := "e3eaaa4ab2d38cdbdf0ba2b6e610f72d823ae66bd7022a04d852367774dc053b", func := "loop.example/wholeway/laws.FnHasSharp", spec := "fnHasSharp", unfollowed := true, recurses := true, apart := false, narrowed := true }
def FnHasSharpUptoSaid : Prop := fnHasSharpUptoRow.holds Tryz.pinned (OpenSpec.upto fnHasSharpSpec)

/-- 'laws.FnOrder', WHERE WHAT IT READS IS OF BULK AT MOST 1048576: true; the input reads as it did. -/
def fnOrderUptoRow : OpenClaim := { program := "ytdfplkcigiblcaagreat", sum := "e3eaaa4ab2d38cdbdf0ba2b6e610f72d823ae66bd7022a04d852367774dc053b", func := "loop.example/wholeway/laws.FnOrder", spec := "fnOrder", unfollowed := true, recurses := true, apart := false, narrowed := true }
def FnOrderUptoSaid : Prop := fnOrderUptoRow.holds Tryz.pinned (OpenSpec.upto fnOrderSpec)

/-- 'laws.FnReached', WHERE WHAT IT READS IS OF BULK AT MOST 1048576: true; the input reads as it did. -/
def fnReachedUptoRow : OpenClaim := { program := "ytdfplkcigiblcaagreat", sum := "e3eaaa4ab2d38cdbdf0ba2b6e610f72d823ae66bd7022a04d852367774dc053b", func := "loop.example/wholeway/laws.FnReached", spec := "fnReached", unfollowed := true, recurses := true, apart := false, narrowed := true }
def FnReachedUptoSaid : Prop := fnReachedUptoRow.holds Tryz.pinned (OpenSpec.upto fnReachedSpec)

/-- 'laws.FnDominates', WHERE WHAT IT READS IS OF BULK AT MOST 1048576: true; the input reads as it did. -/
def fnDominatesUptoRow : OpenClaim := { program := "ytdfplkcigiblcaagreat", sum := "e3eaaa4ab2d38cdbdf0ba2b6e610f72d823ae66bd7022a04d852367774dc053b", func := "loop.example/wholeway/laws.FnDominates", spec := "fnDominates", unfollowed := true, recurses := true, apart := false, narrowed := true }
def FnDominatesUptoSaid : Prop := fnDominatesUptoRow.holds Tryz.pinned (OpenSpec.upto fnDominatesSpec)

/-- 'laws.FnBackEdges', WHERE WHAT IT READS IS OF BULK AT MOST 1048576: true; the input reads as it did. -/
def fnBackEdgesUptoRow : OpenClaim := { program := "ytdfplkcigiblcaagreat", sum := "e3eaaa4ab2d38cdbdf0ba2b6e610f72d823ae66bd7022a04d852367774dc053b", func := "loop.example/wholeway/laws.FnBackEdges", spec := "fnBackEdges", unfollowed := true, recurses := true, apart := false, narrowed := true }
def FnBackEdgesUptoSaid : Prop := fnBackEdgesUptoRow.holds Tryz.pinned (OpenSpec.upto fnBackEdgesSpec)

/-- 'laws.FnIdoms', WHERE WHAT IT READS IS OF BULK AT MOST 1048576: true; the input reads as it did. -/
def fnIdomsUptoRow : OpenClaim := { program := "ytdfplkcigiblcaagreat", sum := "e3eaaa4ab2d38cdbdf0ba2b6e610f72d823ae66bd7022a04d852367774dc053b", func := "loop.example/wholeway/laws.FnIdoms", spec := "fnIdoms", unfollowed := true, recurses := true, apart := false, narrowed := true }
def FnIdomsUptoSaid : Prop := fnIdomsUptoRow.holds Tryz.pinned (OpenSpec.upto fnIdomsSpec)

/-- 'laws.FnDomDepth', WHERE WHAT IT READS IS OF BULK AT MOST 1048576: true; the input reads as it did. -/
def fnDomDepthUptoRow : OpenClaim := { program := "ytdfplkcigiblcaagreat", sum := "e3eaaa4ab2d38cdbdf0ba2b6e610f72d823ae66bd7022a04d852367774dc053b", func := "loop.example/wholeway/laws.FnDomDepth", spec := "fnDomDepth", unfollowed := true, recurses := true, apart := false, narrowed := true }
def FnDomDepthUptoSaid : Prop := fnDomDepthUptoRow.holds Tryz.pinned (OpenSpec.upto fnDomDepthSpec)

/-- 'laws.FnDomKids', WHERE WHAT IT READS IS OF BULK AT MOST 1048576: true; the input reads as it did. -/
def fnDomKidsUptoRow : OpenClaim := { program := "ytdfplkcigiblcaagreat", sum := "e3eaaa4ab2d38cdbdf0ba2b6e610f72d823ae66bd7022a04d852367774dc053b", func := "loop.example/wholeway/laws.FnDomKids", spec := "fnDomKids", unfollowed := true, recurses := true, apart := false, narrowed := true }
def FnDomKidsUptoSaid : Prop := fnDomKidsUptoRow.holds Tryz.pinned (OpenSpec.upto fnDomKidsSpec)

/-- 'laws.FnDomOrder', WHERE WHAT IT READS IS OF BULK AT MOST 1048576: true; the input reads as it did. -/
def fnDomOrderUptoRow : OpenClaim := { program := "ytdfplkcigiblcaagreat", sum := "e3eaaa4ab2d38cdbdf0ba2b6e610f72d823ae66bd7022a04d852367774dc053b", func := "loop.example/wholeway/laws.FnDomOrder", spec := "fnDomOrder", unfollowed := true, recurses := true, apart := false, narrowed := true }
def FnDomOrderUptoSaid : Prop := fnDomOrderUptoRow.holds Tryz.pinned (OpenSpec.upto fnDomOrderSpec)

/-- 'laws.FnFrontierJoin', WHERE WHAT IT READS IS OF BULK AT MOST 1048576: true; the input reads as it did. -/
def fnFrontierJoinUptoRow : OpenClaim := { program := "ytdfplkcigiblcaagreat", sum := "e3eaaa4ab2d38cdbdf0ba2b6e610f72d823ae66bd7022a04d852367774dc053b", func := "loop.example/wholeway/laws.FnFrontierJoin", spec := "fnFrontierJoin", unfollowed := true, recurses := true, apart := false, narrowed := true }
def FnFrontierJoinUptoSaid : Prop := fnFrontierJoinUptoRow.holds Tryz.pinned (OpenSpec.upto fnFrontierJoinSpec)

/-- 'laws.FnLoopDepth', WHERE WHAT IT READS IS OF BULK AT MOST 1048576: true; the input reads as it did. -/
def fnLoopDepthUptoRow : OpenClaim := { program := "ytdfplkcigiblcaagreat", sum := "e3eaaa4ab2d38cdbdf0ba2b6e610f72d823ae66bd7022a04d852367774dc053b", func := "loop.example/wholeway/laws.FnLoopDepth", spec := "fnLoopDepth", unfollowed := true, recurses := true, apart := false, narrowed := true }
def FnLoopDepthUptoSaid : Prop := fnLoopDepthUptoRow.holds Tryz.pinned (OpenSpec.upto fnLoopDepthSpec)

end Rows
end Go.Proofs.YtdfplkcigiblcaaGreat
