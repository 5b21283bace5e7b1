/-
  The law of FnFrontier at drawn codes: a rule ends at a block to which a ruled one leads and that is not ruled; the program says so as the reference does. Conditions: none.
-/
import Derived.Test.YtdfplkcigiblcaaFf8
import Derived.Test.YtdfplkcigiblcaaRows
import Derived.WalkKit
import Derived.ProofKit
import Derived.LaidMore
import Derived.Deep.DeepWitnessRowRef
namespace Go.Proofs.Ytdfplkcigiblcaa
open Go Go.Aw Go.ChangeShapes Go.WideShapes Go.ChangeAt Go.RowKit
set_option maxRecDepth 100000
abbrev LAW:Nat:=4
theorem walk:∀vss,Confs Try.prog Try.f4.params.toList vss->VF Try.prog G0 LAW (iL Try.prog Try.f4.params.toList vss) (.p (.bool true)):=by
 intro vss h
 rw[Try.params4] at h⊢
 obtain⟨vs0,r0,rfl,h0,h0'⟩:=zE h
 cases Cu h0'
 obtain⟨l0,rfl,hl0,ho0⟩:=zu h0
 have e:iL Try.prog [22] [[oh l0]]=[.p (oh l0)]:=by
  have u0:Try.prog.underlying 22=some (.slice vh):=by kernel_rfl
  simp only[iL,List.zipWith,AM]
  rw[u0];rfl
 exact e▸rd G0 l0 ho0 hl0
theorem contract(H:Type)(enc:TypeId × Value->H)(W:World)(base:Nat)(args:Array Value)(ds gs:List (DataW H))(before:List MemPlace)
 (hval:∀(j:Nat) t v,Try.f4.params[j]?=some t->args[j]?=some v->Value.okWide Try.prog W .any base t v)
 (hW:DataW.Whole enc Try.prog Try.f4.params.toList Rows.fnFrontierSpec.vars false W args.toList ds gs before):
 Calls Try.prog LAW args W λe W'=>∃v,e= .returned v/\Rows.fnFrontierSpec.post enc Try.prog Try.f4 false true false false W args v W':=by
 obtain⟨l1,l2⟩:=BH hW
 have hspec:Rows.fnFrontierSpec.fn H (ds++gs)={results:=[.lit (.bool true)],args:=ds,vars:=gs}:=by
  rw[Try.params4] at l1
  match ds,gs,l1,l2 with
  |[d0],[],_,_=>rfl
 refine BO (L:=Bo) (ub:=Rows.uptoBulk) (T:=(· <Try.prog.types.size)) (tb:=4) (G:=G0) Il FF (by rw[Try.params4];decide) JB JJ (zD (by kernel_rfl)) (BY (by kernel_rfl)) (by kernel_rfl) Try.underlying4 hval hW hspec (λg cs h=>by cases h) ?_
 intro vss h1 _
 exact walk vss h1
abbrev wargs:Array Value:=#[.slice none 0 0]
theorem reads0(os:Os){H:Type}(enc:TypeId × Value->H):∃places,DataW.whole enc Try.prog ((World.doorLaid Try.prog 400 os).forCall (λ_ _=>0) ⟨#[],wargs,[]⟩).memory Try.f4.params.toList Rows.fnFrontierSpec.vars false wargs.toList 8=some ([.nil],[],places):=by
 have h:(DataW.whole enc Try.prog ((World.doorLaid Try.prog 400 os).forCall (λ_ _=>0) ⟨#[],wargs,[]⟩).memory Try.f4.params.toList Rows.fnFrontierSpec.vars false wargs.toList 8).map (λx=>(x.1,x.2.1))=some ([.nil],[]):=by kernel_rfl
 rw[Option.map_eq_some_iff] at h
 obtain⟨⟨x1,x2,x3⟩,e1,e2⟩:=h
 simp only[Prod.mk.injEq] at e2
 obtain⟨rfl,rfl⟩:=e2
 exact⟨x3,e1⟩
theorem laid_met(os:Os):laidMet Try.prog Rows.fnFrontierRow.laid ((World.doorLaid Try.prog 400 os).forCall (λ_ _=>0) ⟨#[],wargs,[]⟩).memory:=
 laidMet_of_run' 8 (by kernel_rfl) (by kernel_rfl)
theorem lifted(os:Os)(started:os.Started)(H:Type)(enc:TypeId × Value->H)(F:Stop.Interp):
 ReturnsInHanded {} Try.checked os LAW .any ((OpenSpec.ofChange Rows.fnFrontierSpec).preRow enc Try.prog Try.f4 Rows.fnFrontierRow.domain false Rows.fnFrontierRow.laid) (((OpenSpec.ofChange Rows.fnFrontierSpec).at F).post enc Try.prog Try.f4 false true false false):=by
 obtain⟨places,hx⟩:=reads0 os enc
 refine returnsInHanded_of_row (C:=Try.checked) (s:=OpenSpec.ofChange Rows.fnFrontierSpec) Lm started (by kernel_rfl) Try.func4
  (witness_row_atRef (enc:=enc) (C:=Try.checked) false (World.doorLaid Try.prog 400 os) wargs rfl (by kernel_rfl) (by kernel_rfl) (by kernel_rfl)
    (OpenSpec.preRow_of_cond 8 hx (by kernel_rfl) (λk hk=>by cases hk) (by kernel_rfl) (laid_met os))) ?_
 intro W base args ds gs before hval hW _ _ _ _ _ _
 exact contract H enc W base args ds gs before hval hW
theorem card:Rows.FnFrontierSaid:=
 OpenClaim.holds_of_cond 4 Try.f4 rfl rfl rfl rfl rfl rfl rfl ⟨rfl,rfl,rfl,rfl,rfl⟩ rfl rfl rfl rfl rfl (by kernel_rfl) Try.func4 (by kernel_rfl)
  (of_decide_eq_true (by kernel_rfl)) (by unfold Func.isWrapper;first|(rw[if_pos (by decide+kernel)];kernel_rfl)|(rw[if_neg (by decide+kernel)];exact⟨rfl,rfl⟩))
  (λos started H enc _ F=>by rw[OpenClaim.pre_eq_preRow];exact lifted os started H enc F)
end Go.Proofs.Ytdfplkcigiblcaa
