/-
  The law of FnLoopHeads at drawn codes: a loop begins at a block that one can come back to and that rules the way, and at no other one; the program says so as the reference does. Conditions: none.
-/
import Derived.Test.YtdfplkcigiblcaaFl8
import Derived.Test.YtdfplkcigiblcaaRows
import Derived.WalkKit
import Derived.ProofKit
import Derived.LaidMore
import Derived.Deep.DeepWitnessRowRef
namespace Go.Proofs.Ytdfplkcigiblcaa
open Go Go.Aw Go.ChangeShapes Go.WideShapes Go.ChangeAt Go.RowKit
set_option maxRecDepth 100000
abbrev LAW:Nat:=5
theorem walk:∀vss,Confs Try.prog Try.f5.params.toList vss->VF Try.prog G0 LAW (iD Try.prog Try.f5.params.toList vss) (.p (.bool true)):=by
 intro vss h
 rw[Try.params5] at h⊢
 obtain⟨vs0,r0,rfl,h0,h0'⟩:=zM h
 cases BN h0'
 obtain⟨l0,rfl,hl0,ho0⟩:=Ao h0
 have e:iD Try.prog [22] [[oz l0]]=[.p (oz l0)]:=by
  have u0:Try.prog.underlying 22=some (.slice vj):=by kernel_rfl
  simp only[iD,List.zipWith,AH]
  rw[u0];rfl
 exact e▸pp G0 l0 ho0 hl0
theorem contract(H:Type)(enc:TypeId × Value->H)(W:World)(base:Nat)(args:Array Value)(ds gs:List (DataW H))(before:List MemPlace)
 (hval:∀(j:Nat) t v,Try.f5.params[j]?=some t->args[j]?=some v->Value.okWide Try.prog W .any base t v)
 (hW:DataW.Whole enc Try.prog Try.f5.params.toList Rows.fnLoopHeadsSpec.vars false W args.toList ds gs before):
 Calls Try.prog LAW args W λe W'=>∃v,e= .returned v/\Rows.fnLoopHeadsSpec.post enc Try.prog Try.f5 false true false false W args v W':=by
 obtain⟨l1,l2⟩:=BM hW
 have hspec:Rows.fnLoopHeadsSpec.fn H (ds++gs)={results:=[.lit (.bool true)],args:=ds,vars:=gs}:=by
  rw[Try.params5] at l1
  match ds,gs,l1,l2 with
  |[d0],[],_,_=>rfl
 refine BY (L:=AM) (ub:=Rows.uptoBulk) (T:=(· <Try.prog.types.size)) (tb:=4) (G:=G0) Iy Gt (by rw[Try.params5];decide) JI KI (zF (by kernel_rfl)) (Ch (by kernel_rfl)) (by kernel_rfl) Try.underlying4 hval hW hspec (λg cs h=>by cases h) ?_
 intro vss h1 _
 exact walk vss h1
abbrev wargs:Array Value:=#[.slice none 0 0]
theorem reads0(os:Os){H:Type}(enc:TypeId × Value->H):∃places,DataW.whole enc Try.prog ((World.doorLaid Try.prog 400 os).forCall (λ_ _=>0) ⟨#[],wargs,[]⟩).memory Try.f5.params.toList Rows.fnLoopHeadsSpec.vars false wargs.toList 8=some ([.nil],[],places):=by
 have h:(DataW.whole enc Try.prog ((World.doorLaid Try.prog 400 os).forCall (λ_ _=>0) ⟨#[],wargs,[]⟩).memory Try.f5.params.toList Rows.fnLoopHeadsSpec.vars false wargs.toList 8).map (λx=>(x.1,x.2.1))=some ([.nil],[]):=by kernel_rfl
 rw[Option.map_eq_some_iff] at h
 obtain⟨⟨x1,x2,x3⟩,e1,e2⟩:=h
 simp only[Prod.mk.injEq] at e2
 obtain⟨rfl,rfl⟩:=e2
 exact⟨x3,e1⟩
theorem laid_met(os:Os):laidMet Try.prog Rows.fnLoopHeadsRow.laid ((World.doorLaid Try.prog 400 os).forCall (λ_ _=>0) ⟨#[],wargs,[]⟩).memory:=
 laidMet_of_run' 8 (by kernel_rfl) (by kernel_rfl)
theorem lifted(os:Os)(started:os.Started)(H:Type)(enc:TypeId × Value->H)(F:Stop.Interp):
 ReturnsInHanded {} Try.checked os LAW .any ((OpenSpec.ofChange Rows.fnLoopHeadsSpec).preRow enc Try.prog Try.f5 Rows.fnLoopHeadsRow.domain false Rows.fnLoopHeadsRow.laid) (((OpenSpec.ofChange Rows.fnLoopHeadsSpec).at F).post enc Try.prog Try.f5 false true false false):=by
 obtain⟨places,hx⟩:=reads0 os enc
 refine returnsInHanded_of_row (C:=Try.checked) (s:=OpenSpec.ofChange Rows.fnLoopHeadsSpec) Mb started (by kernel_rfl) Try.func5
  (witness_row_atRef (enc:=enc) (C:=Try.checked) false (World.doorLaid Try.prog 400 os) wargs rfl (by kernel_rfl) (by kernel_rfl) (by kernel_rfl)
    (OpenSpec.preRow_of_cond 8 hx (by kernel_rfl) (λk hk=>by cases hk) (by kernel_rfl) (laid_met os))) ?_
 intro W base args ds gs before hval hW _ _ _ _ _ _
 exact contract H enc W base args ds gs before hval hW
theorem card:Rows.FnLoopHeadsSaid:=
 OpenClaim.holds_of_cond 5 Try.f5 rfl rfl rfl rfl rfl rfl rfl ⟨rfl,rfl,rfl,rfl,rfl⟩ rfl rfl rfl rfl rfl (by kernel_rfl) Try.func5 (by kernel_rfl)
  (of_decide_eq_true (by kernel_rfl)) (by unfold Func.isWrapper;first|(rw[if_pos (by decide+kernel)];kernel_rfl)|(rw[if_neg (by decide+kernel)];exact⟨rfl,rfl⟩))
  (λos started H enc _ F=>by rw[OpenClaim.pre_eq_preRow];exact lifted os started H enc F)
end Go.Proofs.Ytdfplkcigiblcaa
