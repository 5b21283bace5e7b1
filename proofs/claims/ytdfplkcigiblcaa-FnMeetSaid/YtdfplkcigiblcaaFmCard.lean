/-
  The law of FnMeet at drawn codes: two blocks meet at a block that dominates both, and all others that do so dominate that; the program says so as the reference does. Conditions: none.
-/
import Derived.Test.YtdfplkcigiblcaaFm8
import Derived.Test.YtdfplkcigiblcaaRows
import Derived.WalkKit
import Derived.ProofKit
import Derived.LaidMore
import Derived.Deep.DeepWitnessRowRef
namespace Go.Proofs.Ytdfplkcigiblcaa
open Go Go.Aw Go.ChangeShapes Go.WideShapes Go.ChangeAt Go.RowKit
set_option maxRecDepth 100000
abbrev LAW:Nat:=3
theorem walk:∀vss,Confs Try.prog Try.f3.params.toList vss->VF Try.prog G0 LAW (il Try.prog Try.f3.params.toList vss) (.p (.bool true)):=by
 intro vss h
 rw[Try.params3] at h⊢
 obtain⟨vs0,r0,rfl,h0,h0'⟩:=zM h
 cases Bf h0'
 obtain⟨l0,rfl,hl0,ho0⟩:=zF h0
 have e:il Try.prog [22] [[me l0]]=[.p (me l0)]:=by
  have u0:Try.prog.underlying 22=some (.slice tI):=by kernel_rfl
  simp only[il,List.zipWith,Af]
  rw[u0];rfl
 exact e▸zC G0 l0 ho0 hl0
theorem contract(H:Type)(enc:TypeId × Value->H)(W:World)(base:Nat)(args:Array Value)(ds gs:List (DataW H))(before:List MemPlace)
 (hval:∀(j:Nat) t v,Try.f3.params[j]?=some t->args[j]?=some v->Value.okWide Try.prog W .any base t v)
 (hW:DataW.Whole enc Try.prog Try.f3.params.toList Rows.fnMeetSpec.vars false W args.toList ds gs before):
 Calls Try.prog LAW args W λe W'=>∃v,e= .returned v/\Rows.fnMeetSpec.post enc Try.prog Try.f3 false true false false W args v W':=by
 obtain⟨l1,l2⟩:=BS hW
 have hspec:Rows.fnMeetSpec.fn H (ds++gs)={results:=[.lit (.bool true)],args:=ds,vars:=gs}:=by
  rw[Try.params3] at l1
  match ds,gs,l1,l2 with
  |[d0],[],_,_=>rfl
 refine BF (L:=Ac) (ub:=Rows.uptoBulk) (T:=(· <Try.prog.types.size)) (tb:=4) (G:=G0) GN Fw (by rw[Try.params3];decide) IY IM (zl (by kernel_rfl)) (BY (by kernel_rfl)) (by kernel_rfl) Try.underlying4 hval hW hspec (λg cs h=>by cases h) ?_
 intro vss h1 _
 exact walk vss h1
abbrev wargs:Array Value:=#[.slice none 0 0]
theorem reads0(os:Os){H:Type}(enc:TypeId × Value->H):∃places,DataW.whole enc Try.prog ((World.doorLaid Try.prog 400 os).forCall (λ_ _=>0) ⟨#[],wargs,[]⟩).memory Try.f3.params.toList Rows.fnMeetSpec.vars false wargs.toList 8=some ([.nil],[],places):=by
 have h:(DataW.whole enc Try.prog ((World.doorLaid Try.prog 400 os).forCall (λ_ _=>0) ⟨#[],wargs,[]⟩).memory Try.f3.params.toList Rows.fnMeetSpec.vars false wargs.toList 8).map (λx=>(x.1,x.2.1))=some ([.nil],[]):=by kernel_rfl
 rw[Option.map_eq_some_iff] at h
 obtain⟨⟨x1,x2,x3⟩,e1,e2⟩:=h
 simp only[Prod.mk.injEq] at e2
 obtain⟨rfl,rfl⟩:=e2
 exact⟨x3,e1⟩
theorem laid_met(os:Os):laidMet Try.prog Rows.fnMeetRow.laid ((World.doorLaid Try.prog 400 os).forCall (λ_ _=>0) ⟨#[],wargs,[]⟩).memory:=
 laidMet_of_run' 8 (by kernel_rfl) (by kernel_rfl)
theorem lifted(os:Os)(started:os.Started)(H:Type)(enc:TypeId × Value->H)(F:Stop.Interp):
 ReturnsInHanded {} Try.checked os LAW .any ((OpenSpec.ofChange Rows.fnMeetSpec).preRow enc Try.prog Try.f3 Rows.fnMeetRow.domain false Rows.fnMeetRow.laid) (((OpenSpec.ofChange Rows.fnMeetSpec).at F).post enc Try.prog Try.f3 false true false false):=by
 obtain⟨places,hx⟩:=reads0 os enc
 refine returnsInHanded_of_row (C:=Try.checked) (s:=OpenSpec.ofChange Rows.fnMeetSpec) KO started (by kernel_rfl) Try.func3
  (witness_row_atRef (enc:=enc) (C:=Try.checked) false (World.doorLaid Try.prog 400 os) wargs rfl (by kernel_rfl) (by kernel_rfl) (by kernel_rfl)
    (OpenSpec.preRow_of_cond 8 hx (by kernel_rfl) (λk hk=>by cases hk) (by kernel_rfl) (laid_met os))) ?_
 intro W base args ds gs before hval hW _ _ _ _ _ _
 exact contract H enc W base args ds gs before hval hW
theorem card:Rows.FnMeetSaid:=
 OpenClaim.holds_of_cond 3 Try.f3 rfl rfl rfl rfl rfl rfl rfl ⟨rfl,rfl,rfl,rfl,rfl⟩ rfl rfl rfl rfl rfl (by kernel_rfl) Try.func3 (by kernel_rfl)
  (of_decide_eq_true (by kernel_rfl)) (by unfold Func.isWrapper;first|(rw[if_pos (by decide+kernel)];kernel_rfl)|(rw[if_neg (by decide+kernel)];exact⟨rfl,rfl⟩))
  (λos started H enc _ F=>by rw[OpenClaim.pre_eq_preRow];exact lifted os started H enc F)
end Go.Proofs.Ytdfplkcigiblcaa
