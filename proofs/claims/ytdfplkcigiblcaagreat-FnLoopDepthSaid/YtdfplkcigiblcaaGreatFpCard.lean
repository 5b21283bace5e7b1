/-
  FnLoopDepth: whatever is read, the law answers true. Conditions: none.
-/
import Derived.Test.YtdfplkcigiblcaaGreatFp9
import Derived.Test.YtdfplkcigiblcaaGreatRows
import Derived.WalkKit
import Derived.ProofKit
import Derived.LaidMore
import Derived.Deep.DeepWitnessRowRef
namespace Go.Proofs.YtdfplkcigiblcaaGreat
open Go Go.Aw Go.ChangeShapes Go.WideShapes Go.ChangeAt Go.RowKit
set_option maxRecDepth 100000
abbrev LAW:Nat:=13
theorem walk:∀vss,Confs Tryz.prog Tryz.f13.params.toList vss->VF Tryz.prog G0 LAW (iU Tryz.prog Tryz.f13.params.toList vss) (.p (.bool true)):=by
 intro vss h
 rw[Tryz.params13] at h⊢
 obtain⟨vs0,r0,rfl,h0,h0'⟩:=BO h
 cases EF h0'
 obtain⟨l0,rfl,hl0,ho0⟩:=BF h0
 have e:iU Tryz.prog [22] [[mt l0]]=[.p (mt l0)]:=by
  have u0:Tryz.prog.underlying 22=some (.slice yX):=by kernel_rfl
  simp only[iU,List.zipWith,Di]
  rw[u0];rfl
 exact e▸rJ G0 l0 ho0 hl0
theorem contract(H:Type)(enc:TypeId × Value->H)(W:World)(base:Nat)(args:Array Value)(ds gs:List (DataW H))(before:List MemPlace)
 (hval:∀(j:Nat) t v,Tryz.f13.params[j]?=some t->args[j]?=some v->Value.okWide Tryz.prog W .any base t v)
 (hW:DataW.Whole enc Tryz.prog Tryz.f13.params.toList Rows.fnLoopDepthSpec.vars false W args.toList ds gs before):
 Calls Tryz.prog LAW args W λe W'=>∃v,e= .returned v/\Rows.fnLoopDepthSpec.post enc Tryz.prog Tryz.f13 false true false false W args v W':=by
 obtain⟨l1,l2⟩:=DR hW
 have hspec:Rows.fnLoopDepthSpec.fn H (ds++gs)={results:=[.lit (.bool true)],args:=ds,vars:=gs}:=by
  rw[Tryz.params13] at l1
  match ds,gs,l1,l2 with
  |[d0],[],_,_=>rfl
 refine ER (L:=CR) (ub:=Rows.uptoBulk) (T:=(· <Tryz.prog.types.size)) (tb:=4) (G:=G0) KL IU (by rw[Tryz.params13];decide) Mm Mg (BG (by kernel_rfl)) (EK (by kernel_rfl)) (by kernel_rfl) Tryz.underlying4 hval hW hspec (λg cs h=>by cases h) ?_
 intro vss h1 _
 exact walk vss h1
abbrev wargs:Array Value:=#[.slice none 0 0]
theorem reads0(os:Os){H:Type}(enc:TypeId × Value->H):∃places,DataW.whole enc Tryz.prog ((World.doorLaid Tryz.prog 400 os).forCall (λ_ _=>0) ⟨#[],wargs,[]⟩).memory Tryz.f13.params.toList Rows.fnLoopDepthSpec.vars false wargs.toList 8=some ([.nil],[],places):=by
 have h:(DataW.whole enc Tryz.prog ((World.doorLaid Tryz.prog 400 os).forCall (λ_ _=>0) ⟨#[],wargs,[]⟩).memory Tryz.f13.params.toList Rows.fnLoopDepthSpec.vars false wargs.toList 8).map (λx=>(x.1,x.2.1))=some ([.nil],[]):=by kernel_rfl
 rw[Option.map_eq_some_iff] at h
 obtain⟨⟨x1,x2,x3⟩,e1,e2⟩:=h
 simp only[Prod.mk.injEq] at e2
 obtain⟨rfl,rfl⟩:=e2
 exact⟨x3,e1⟩
theorem laid_met(os:Os):laidMet Tryz.prog Rows.fnLoopDepthRow.laid ((World.doorLaid Tryz.prog 400 os).forCall (λ_ _=>0) ⟨#[],wargs,[]⟩).memory:=
 laidMet_of_run' 8 (by kernel_rfl) (by kernel_rfl)
theorem lifted(os:Os)(started:os.Started)(H:Type)(enc:TypeId × Value->H)(F:Stop.Interp):
 ReturnsInHanded {} Tryz.checked os LAW .any ((OpenSpec.ofChange Rows.fnLoopDepthSpec).preRow enc Tryz.prog Tryz.f13 Rows.fnLoopDepthRow.domain false Rows.fnLoopDepthRow.laid) (((OpenSpec.ofChange Rows.fnLoopDepthSpec).at F).post enc Tryz.prog Tryz.f13 false true false false):=by
 obtain⟨places,hx⟩:=reads0 os enc
 refine returnsInHanded_of_row (C:=Tryz.checked) (s:=OpenSpec.ofChange Rows.fnLoopDepthSpec) Om started (by kernel_rfl) Tryz.func13
  (witness_row_atRef (enc:=enc) (C:=Tryz.checked) false (World.doorLaid Tryz.prog 400 os) wargs rfl (by kernel_rfl) (by kernel_rfl) (by kernel_rfl)
    (OpenSpec.preRow_of_cond 8 hx (by kernel_rfl) (λk hk=>by cases hk) (by kernel_rfl) (laid_met os))) ?_
 intro W base args ds gs before hval hW _ _ _ _ _ _
 exact contract H enc W base args ds gs before hval hW
theorem card:Rows.FnLoopDepthSaid:=
 OpenClaim.holds_of_cond 13 Tryz.f13 rfl rfl rfl rfl rfl rfl rfl ⟨rfl,rfl,rfl,rfl,rfl⟩ rfl rfl rfl rfl rfl (by kernel_rfl) Tryz.func13 (by kernel_rfl)
  (of_decide_eq_true (by kernel_rfl)) (by unfold Func.isWrapper;first|(rw[if_pos (by decide+kernel)];kernel_rfl)|(rw[if_neg (by decide+kernel)];exact⟨rfl,rfl⟩))
  (λos started H enc _ F=>by rw[OpenClaim.pre_eq_preRow];exact lifted os started H enc F)
end Go.Proofs.YtdfplkcigiblcaaGreat
