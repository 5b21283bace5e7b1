/-
  NARROWER THAN 'FOR EVERY INPUT', by the rows' own cells (each row's printed sentence says how): FnExactImageOf: laid · FnExactReadImage: laid · FnObjectOf: laid · FnExactObjectValid: laid · FnExactObjectOf: laid · FnExactObjectCalls: laid.
  DERIVED. THE GIVEN ROWS OF THIS SEAT. 6 by the template 'for every input the law returns true; each argument reads behind the call as it read before'; 0 by the template 'total and deterministic' (their statements: YtbbobekgnclkfaaDoorTotals.lean).
  GIVEN WITH THE SEED: the statements are not yours to turn. If you find one false, say at which input.
  Laid BY PROGRAM, IN A SANDBOX (cutbox-rows.mjs): the forced cells as the released guide's own fill.sh prints them over the translation 106696089a866413… (all of the seat's roots in one cut). By AI agents, Wed Nov 11 2026. No macro, syntax, notation, axiom, sorry.
-/
import Derived.Test.YtbbobekgnclkfaaDoorChecked
import GoSem.Claim
import GoSem.ClaimJoined
import GoSem.ClaimMapViews
import Derived.JoinedTies
import Derived.KernelRfl
namespace Go.Proofs.YtbbobekgnclkfaaDoor
/- THE CELL 'sum', in the pinned program and in every row, IS THE sha256 OF THE DUMP (.gsa) THAT YtbbobekgnclkfaaDoorProg.lean LOADS. Nothing in Lean hashes anything: it is a label: what it is worth is what the hold of that sum in a sandbox is worth. -/
noncomputable def Tryd.pinned : Pinned := { name := "ytbbobekgnclkfaadoor", sum := "106696089a8664132863fb88a6a2629f30b7288d0db5bc3c7bd6e41cdb24f878", checked := Tryd.checked }
namespace Rows
def none {H : Type} : Left H := { results := [], args := [] }

/- WHAT THE LISTED PACKAGE-LEVEL VARIABLES READ AS WHEN THE CALL BEGINS. Each datum BY PROGRAM (the guide's laid-datum.mjs) off the statement by which the dump's own 'gosem.cut.vars' lays the variable. In a bare row this is a premise. The card (YtbbobekgnclkfaaDoorCards.lean) ties it to the program's text. -/
def laid_loop_example_wholeway_impl_forms {H : Type} : DataW H := .agg [.agg [.lit (.string []), .lit (.int .i64 0)], .agg [.lit (.string [115, 101, 116]), .lit (.int .i64 9)], .agg [.lit (.string [109, 111, 118, 101]), .lit (.int .i64 3)], .agg [.lit (.string [97, 100, 100]), .lit (.int .i64 7)], .agg [.lit (.string [115, 117, 98]), .lit (.int .i64 7)], .agg [.lit (.string [109, 117, 108]), .lit (.int .i64 7)], .agg [.lit (.string [100, 105, 118]), .lit (.int .i64 7)], .agg [.lit (.string [114, 101, 109]), .lit (.int .i64 7)], .agg [.lit (.string [108, 101, 115, 115]), .lit (.int .i64 7)], .agg [.lit (.string [115, 97, 109, 101]), .lit (.int .i64 7)], .agg [.lit (.string [110, 111, 116]), .lit (.int .i64 3)], .agg [.lit (.string [108, 111, 97, 100]), .lit (.int .i64 3)], .agg [.lit (.string [115, 116, 111, 114, 101]), .lit (.int .i64 3)], .agg [.lit (.string [115, 97, 121]), .lit (.int .i64 1)], .agg [.lit (.string [99, 97, 108, 108]), .lit (.int .i64 8)], .agg [.lit (.string [107, 101, 101, 112]), .lit (.int .i64 9)], .agg [.lit (.string [116, 97, 107, 101]), .lit (.int .i64 9)], .agg [.lit (.string [103, 105, 118, 101]), .lit (.int .i64 9)], .agg [.lit (.string [102, 101, 116, 99, 104]), .lit (.int .i64 9)], .agg [.lit (.string [114, 101, 115, 117, 108, 116]), .lit (.int .i64 1)], .agg [.lit (.string [106, 117, 109, 112]), .lit (.int .i64 8)], .agg [.lit (.string [98, 114, 97, 110, 99, 104]), .lit (.int .i64 9)], .agg [.lit (.string [98, 97, 99, 107]), .lit (.int .i64 1)]]
def laid_loop_example_wholeway_impl_magic {H : Type} : DataW H := .slice [.lit (.int .u8 87), .lit (.int .u8 119)] []
def laid_loop_example_wholeway_impl_keys {H : Type} : DataW H := .agg [.lit (.string [102, 110]), .lit (.string [108, 101, 116]), .lit (.string [115, 97, 121]), .lit (.string [112, 117, 116]), .lit (.string [105, 102]), .lit (.string [101, 108, 115, 101]), .lit (.string [108, 111, 111, 112]), .lit (.string [98, 97, 99, 107]), .lit (.string [100, 111])]

/-- 'laws.FnExactImageOf': WHATEVER THE INPUT: true; the input reads as it did. -/
def fnExactImageOfSpec : ChangeSpec := { name := "fnExactImageOf", vars := ["loop.example/wholeway/impl.magic", "loop.example/wholeway/impl.forms"], fn := fun _ => fun
  | [d, g1, g2] => { results := [.lit (.bool true)], args := [d], vars := [g1, g2] }
  | _ => none }
def fnExactImageOfRow : OpenClaim := { program := "ytbbobekgnclkfaadoor", sum := "106696089a8664132863fb88a6a2629f30b7288d0db5bc3c7bd6e41cdb24f878", func := "loop.example/wholeway/laws.FnExactImageOf", spec := "fnExactImageOf", unfollowed := true, recurses := true, named := ["loop.example/wholeway/impl.magic", "loop.example/wholeway/impl.forms"], apart := false, laid := [("loop.example/wholeway/impl.forms", laid_loop_example_wholeway_impl_forms), ("loop.example/wholeway/impl.magic", laid_loop_example_wholeway_impl_magic)] }
def FnExactImageOfSaid : Prop := fnExactImageOfRow.holds Tryd.pinned (OpenSpec.ofChange fnExactImageOfSpec)

/-- ITS FALSE NEIGHBOUR: 'it returns false'. Refute it at one input. -/
def fnExactImageOfWrong : ChangeSpec := { name := "fnExactImageOf", vars := ["loop.example/wholeway/impl.magic", "loop.example/wholeway/impl.forms"], fn := fun _ => fun
  | [d, g1, g2] => { results := [.lit (.bool false)], args := [d], vars := [g1, g2] }
  | _ => none }
def FnExactImageOfWrongFalsely : Prop := fnExactImageOfRow.holds Tryd.pinned (OpenSpec.ofChange fnExactImageOfWrong)

/-- 'laws.FnExactReadImage': WHATEVER THE INPUT: true; the input reads as it did. -/
def fnExactReadImageSpec : ChangeSpec := { name := "fnExactReadImage", vars := ["loop.example/wholeway/impl.magic", "loop.example/wholeway/impl.forms"], fn := fun _ => fun
  | [d, g1, g2] => { results := [.lit (.bool true)], args := [d], vars := [g1, g2] }
  | _ => none }
def fnExactReadImageRow : OpenClaim := { program := "ytbbobekgnclkfaadoor", sum := "106696089a8664132863fb88a6a2629f30b7288d0db5bc3c7bd6e41cdb24f878", func := "loop.example/wholeway/laws.FnExactReadImage", spec := "fnExactReadImage", unfollowed := true, recurses := true, named := ["loop.example/wholeway/impl.magic", "loop.example/wholeway/impl.forms"], apart := false, laid := [("loop.example/wholeway/impl.forms", laid_loop_example_wholeway_impl_forms), ("loop.example/wholeway/impl.magic", laid_loop_example_wholeway_impl_magic)] }
def FnExactReadImageSaid : Prop := fnExactReadImageRow.holds Tryd.pinned (OpenSpec.ofChange fnExactReadImageSpec)

/-- ITS FALSE NEIGHBOUR: 'it returns false'. Refute it at one input. -/
def fnExactReadImageWrong : ChangeSpec := { name := "fnExactReadImage", vars := ["loop.example/wholeway/impl.magic", "loop.example/wholeway/impl.forms"], fn := fun _ => fun
  | [d, g1, g2] => { results := [.lit (.bool false)], args := [d], vars := [g1, g2] }
  | _ => none }
def FnExactReadImageWrongFalsely : Prop := fnExactReadImageRow.holds Tryd.pinned (OpenSpec.ofChange fnExactReadImageWrong)

/-- 'laws.FnObjectOf': WHATEVER THE INPUT: true; the input reads as it did. -/
def fnObjectOfSpec : ChangeSpec := { name := "fnObjectOf", vars := ["loop.example/wholeway/impl.forms", "loop.example/wholeway/impl.keys"], fn := fun _ => fun
  | [d, g1, g2] => { results := [.lit (.bool true)], args := [d], vars := [g1, g2] }
  | _ => none }
def fnObjectOfRow : OpenClaim := { program := "ytbbobekgnclkfaadoor", sum := "106696089a8664132863fb88a6a2629f30b7288d0db5bc3c7bd6e41cdb24f878", func := "loop.example/wholeway/laws.FnObjectOf", spec := "fnObjectOf", unfollowed := true, recurses := true, named := ["loop.example/wholeway/impl.forms", "loop.example/wholeway/impl.keys"], apart := false, laid := [("loop.example/wholeway/impl.keys", laid_loop_example_wholeway_impl_keys), ("loop.example/wholeway/impl.forms", laid_loop_example_wholeway_impl_forms)] }
def FnObjectOfSaid : Prop := fnObjectOfRow.holds Tryd.pinned (OpenSpec.ofChange fnObjectOfSpec)

/-- ITS FALSE NEIGHBOUR: 'it returns false'. Refute it at one input. -/
def fnObjectOfWrong : ChangeSpec := { name := "fnObjectOf", vars := ["loop.example/wholeway/impl.forms", "loop.example/wholeway/impl.keys"], fn := fun _ => fun
  | [d, g1, g2] => { results := [.lit (.bool false)], args := [d], vars := [g1, g2] }
  | _ => none }
def FnObjectOfWrongFalsely : Prop := fnObjectOfRow.holds Tryd.pinned (OpenSpec.ofChange fnObjectOfWrong)

/-- 'laws.FnExactObjectValid': WHATEVER THE INPUT: true; the input reads as it did. -/
def fnExactObjectValidSpec : ChangeSpec := { name := "fnExactObjectValid", vars := ["loop.example/wholeway/impl.forms", "loop.example/wholeway/impl.keys"], fn := fun _ => fun
  | [d, g1, g2] => { results := [.lit (.bool true)], args := [d], vars := [g1, g2] }
  | _ => none }
def fnExactObjectValidRow : OpenClaim := { program := "ytbbobekgnclkfaadoor", sum := "106696089a8664132863fb88a6a2629f30b7288d0db5bc3c7bd6e41cdb24f878", func := "loop.example/wholeway/laws.FnExactObjectValid", spec := "fnExactObjectValid", unfollowed := true, recurses := true, named := ["loop.example/wholeway/impl.forms", "loop.example/wholeway/impl.keys"], apart := false, laid := [("loop.example/wholeway/impl.keys", laid_loop_example_wholeway_impl_keys), ("loop.example/wholeway/impl.forms", laid_loop_example_wholeway_impl_forms)] }
def FnExactObjectValidSaid : Prop := fnExactObjectValidRow.holds Tryd.pinned (OpenSpec.ofChange fnExactObjectValidSpec)

/-- ITS FALSE NEIGHBOUR: 'it returns false'. Refute it at one input. -/
def fnExactObjectValidWrong : ChangeSpec := { name := "fnExactObjectValid", vars := ["loop.example/wholeway/impl.forms", "loop.example/wholeway/impl.keys"], fn := fun _ => fun
  | [d, g1, g2] => { results := [.lit (.bool false)], args := [d], vars := [g1, g2] }
  | _ => none }
def FnExactObjectValidWrongFalsely : Prop := fnExactObjectValidRow.holds Tryd.pinned (OpenSpec.ofChange fnExactObjectValidWrong)

/-- 'laws.FnExactObjectOf': WHATEVER THE INPUT: true; the input reads as it did. -/
def fnExactObjectOfSpec : ChangeSpec := { name := "fnExactObjectOf", vars := ["loop.example/wholeway/impl.forms", "loop.example/wholeway/impl.keys"], fn := fun _ => fun
  | [d1, d2, d3, g1, g2] => { results := [.lit (.bool true)], args := [d1, d2, d3], vars := [g1, g2] }
  | _ => none }
def fnExactObjectOfRow : OpenClaim := { program := "ytbbobekgnclkfaadoor", sum := "106696089a8664132863fb88a6a2629f30b7288d0db5bc3c7bd6e41cdb24f878", func := "loop.example/wholeway/laws.FnExactObjectOf", spec := "fnExactObjectOf", unfollowed := true, recurses := true, named := ["loop.example/wholeway/impl.forms", "loop.example/wholeway/impl.keys"], apart := false, laid := [("loop.example/wholeway/impl.keys", laid_loop_example_wholeway_impl_keys), ("loop.example/wholeway/impl.forms", laid_loop_example_wholeway_impl_forms)] }
def FnExactObjectOfSaid : Prop := fnExactObjectOfRow.holds Tryd.pinned (OpenSpec.ofChange fnExactObjectOfSpec)

/-- ITS FALSE NEIGHBOUR: 'it returns false'. Refute it at one input. -/
def fnExactObjectOfWrong : ChangeSpec := { name := "fnExactObjectOf", vars := ["loop.example/wholeway/impl.forms", "loop.example/wholeway/impl.keys"], fn := fun _ => fun
  | [d1, d2, d3, g1, g2] => { results := [.lit (.bool false)], args := [d1, d2, d3], vars := [g1, g2] }
  | _ => none }
def FnExactObjectOfWrongFalsely : Prop := fnExactObjectOfRow.holds Tryd.pinned (OpenSpec.ofChange fnExactObjectOfWrong)

/-- 'laws.FnExactObjectCalls': WHATEVER THE INPUT: true; the input reads as it did. -/
def fnExactObjectCallsSpec : ChangeSpec := { name := "fnExactObjectCalls", vars := ["loop.example/wholeway/impl.forms", "loop.example/wholeway/impl.keys"], fn := fun _ => fun
  | [d, g1, g2] => { results := [.lit (.bool true)], args := [d], vars := [g1, g2] }
  | _ => none }
def fnExactObjectCallsRow : OpenClaim := { program := "ytbbobekgnclkfaadoor", sum := "106696089a8664132863fb88a6a2629f30b7288d0db5bc3c7bd6e41cdb24f878", func := "loop.example/wholeway/laws.FnExactObjectCalls", spec := "fnExactObjectCalls", unfollowed := true, recurses := true, named := ["loop.example/wholeway/impl.forms", "loop.example/wholeway/impl.keys"], apart := false, laid := [("loop.example/wholeway/impl.keys", laid_loop_example_wholeway_impl_keys), ("loop.example/wholeway/impl.forms", laid_loop_example_wholeway_impl_forms)] }
def FnExactObjectCallsSaid : Prop := fnExactObjectCallsRow.holds Tryd.pinned (OpenSpec.ofChange fnExactObjectCallsSpec)

/-- ITS FALSE NEIGHBOUR: 'it returns false'. Refute it at one input. -/
def fnExactObjectCallsWrong : ChangeSpec := { name := "fnExactObjectCalls", vars := ["loop.example/wholeway/impl.forms", "loop.example/wholeway/impl.keys"], fn := fun _ => fun
  | [d, g1, g2] => { results := [.lit (.bool false)], args := [d], vars := [g1, g2] }
  | _ => none }
def FnExactObjectCallsWrongFalsely : Prop := fnExactObjectCallsRow.holds Tryd.pinned (OpenSpec.ofChange fnExactObjectCallsWrong)

/- THE SECOND FORM. 'bulk': how many values and letters a reading holds, each counted each time it is reached (what is shared counts as often as it is met; a slice's spare places count too). A statement '..UptoSaid' is the law's where the arguments, and the package variables that the reading takes, are together of bulk at most 1048576: NARROWER than '..Said'. Prove '..Said' where nothing that the law and all that it calls make is longer than what came in: it says more and counts as full. Else prove '..UptoSaid'. A law counts once. -/
mutual
def uptoBulk {H : Type} : DataW H → Nat
  | .lit (.string bytes) => bytes.length + 1
  | .lit _ => 1
  | .nil => 1
  | .ptr d => uptoBulk d + 1
  | .slice elems spare => uptoBulkAll elems + uptoBulkAll spare + 1
  | .agg parts => uptoBulkAll parts + 1
  | .iface _ d => uptoBulk d + 1
  | .map entries => uptoBulkEntries entries + 1
  | .held _ => 1
def uptoBulkAll {H : Type} : List (DataW H) → Nat
  | [] => 0
  | d :: r => uptoBulk d + uptoBulkAll r
def uptoBulkEntries {H : Type} : List (Lit × DataW H) → Nat
  | [] => 0
  | x :: r => uptoBulkEntry x + uptoBulkEntries r
def uptoBulkEntry {H : Type} : Lit × DataW H → Nat
  | (.string bytes, d) => bytes.length + uptoBulk d + 1
  | (_, d) => uptoBulk d + 1
 end
def uptoSmall : (H : Type) → List (DataW H) → Bool := fun _ ds => decide (uptoBulkAll ds ≤ 1048576)
def OpenSpec.upto (s : _root_.Go.ChangeSpec) : _root_.Go.OpenSpec := { _root_.Go.OpenSpec.ofChange s with cond := some uptoSmall }

/-- 'laws.FnExactImageOf', WHERE WHAT IT READS IS OF BULK AT MOST 1048576: true; the input reads as it did. -/
def fnExactImageOfUptoRow : OpenClaim := { program := "ytbbobekgnclkfaadoor", sum := "106696089a8664132863fb88a6a2629f30b7288d0db5bc3c7bd6e41cdb24f878", func := "loop.example/wholeway/laws.FnExactImageOf", spec := "fnExactImageOf", unfollowed := true, recurses := true, named := ["loop.example/wholeway/impl.magic", "loop.example/wholeway/impl.forms"], apart := false, laid := [("loop.example/wholeway/impl.forms", laid_loop_example_wholeway_impl_forms), ("loop.example/wholeway/impl.magic", laid_loop_example_wholeway_impl_magic)], narrowed := true }
def FnExactImageOfUptoSaid : Prop := fnExactImageOfUptoRow.holds Tryd.pinned (OpenSpec.upto fnExactImageOfSpec)

/-- 'laws.FnExactReadImage', WHERE WHAT IT READS IS OF BULK AT MOST 1048576: true; the input reads as it did. -/
def fnExactReadImageUptoRow : OpenClaim := { program := "ytbbobekgnclkfaadoor", sum := "106696089a8664132863fb88a6a2629f30b7288d0db5bc3c7bd6e41cdb24f878", func := "loop.example/wholeway/laws.FnExactReadImage", spec := "fnExactReadImage", unfollowed := true, recurses := true, named := ["loop.example/wholeway/impl.magic", "loop.example/wholeway/impl.forms"], apart := false, laid := [("loop.example/wholeway/impl.forms", laid_loop_example_wholeway_impl_forms), ("loop.example/wholeway/impl.magic", laid_loop_example_wholeway_impl_magic)], narrowed := true }
def FnExactReadImageUptoSaid : Prop := fnExactReadImageUptoRow.holds Tryd.pinned (OpenSpec.upto fnExactReadImageSpec)

/-- 'laws.FnObjectOf', WHERE WHAT IT READS IS OF BULK AT MOST 1048576: true; the input reads as it did. -/
def fnObjectOfUptoRow : OpenClaim := { program := "ytbbobekgnclkfaadoor", sum := "106696089a8664132863fb88a6a2629f30b7288d0db5bc3c7bd6e41cdb24f878", func := "loop.example/wholeway/laws.FnObjectOf", spec := "fnObjectOf", unfollowed := true, recurses := true, named := ["loop.example/wholeway/impl.forms", "loop.example/wholeway/impl.keys"], apart := false, laid := [("loop.example/wholeway/impl.keys", laid_loop_example_wholeway_impl_keys), ("loop.example/wholeway/impl.forms", laid_loop_example_wholeway_impl_forms)], narrowed := true }
def FnObjectOfUptoSaid : Prop := fnObjectOfUptoRow.holds Tryd.pinned (OpenSpec.upto fnObjectOfSpec)

/-- 'laws.FnExactObjectValid', WHERE WHAT IT READS IS OF BULK AT MOST 1048576: true; the input reads as it did. -/
def fnExactObjectValidUptoRow : OpenClaim := { program := "ytbbobekgnclkfaadoor", sum := "106696089a8664132863fb88a6a2629f30b7288d0db5bc3c7bd6e41cdb24f878", func := "loop.example/wholeway/laws.FnExactObjectValid", spec := "fnExactObjectValid", unfollowed := true, recurses := true, named := ["loop.example/wholeway/impl.forms", "loop.example/wholeway/impl.keys"], apart := false, laid := [("loop.example/wholeway/impl.keys", laid_loop_example_wholeway_impl_keys), ("loop.example/wholeway/impl.forms", laid_loop_example_wholeway_impl_forms)], narrowed := true }
def FnExactObjectValidUptoSaid : Prop := fnExactObjectValidUptoRow.holds Tryd.pinned (OpenSpec.upto fnExactObjectValidSpec)

/-- 'laws.FnExactObjectOf', WHERE WHAT IT READS IS OF BULK AT MOST 1048576: true; the input reads as it did. -/
def fnExactObjectOfUptoRow : OpenClaim := { program := "ytbbobekgnclkfaadoor", sum := "106696089a8664132863fb88a6a2629f30b7288d0db5bc3c7bd6e41cdb24f878", func := "loop.example/wholeway/laws.FnExactObjectOf", spec := "fnExactObjectOf", unfollowed := true, recurses := true, named := ["loop.example/wholeway/impl.forms", "loop.example/wholeway/impl.keys"], apart := false, laid := [("loop.example/wholeway/impl.keys", laid_loop_example_wholeway_impl_keys), ("loop.example/wholeway/impl.forms", laid_loop_example_wholeway_impl_forms)], narrowed := true }
def FnExactObjectOfUptoSaid : Prop := fnExactObjectOfUptoRow.holds Tryd.pinned (OpenSpec.upto fnExactObjectOfSpec)

/-- 'laws.FnExactObjectCalls', WHERE WHAT IT READS IS OF BULK AT MOST 1048576: true; the input reads as it did. -/
def fnExactObjectCallsUptoRow : OpenClaim := { program := "ytbbobekgnclkfaadoor", sum := "106696089a8664132863fb88a6a2629f30b7288d0db5bc3c7bd6e41cdb24f878", func := "loop.example/wholeway/laws.FnExactObjectCalls", spec := "fnExactObjectCalls", unfollowed := true, recurses := true, named := ["loop.example/wholeway/impl.forms", "loop.example/wholeway/impl.keys"], apart := false, laid := [("loop.example/wholeway/impl.keys", laid_loop_example_wholeway_impl_keys), ("loop.example/wholeway/impl.forms", laid_loop_example_wholeway_impl_forms)], narrowed := true }
def FnExactObjectCallsUptoSaid : Prop := fnExactObjectCallsUptoRow.holds Tryd.pinned (OpenSpec.upto fnExactObjectCallsSpec)

end Rows
end Go.Proofs.YtbbobekgnclkfaaDoor
