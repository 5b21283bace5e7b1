/-
  The program's KnownUnit answers as the reference does, for all units. Conditions: none.
-/
import Derived.Test.YtigmcjbgnmpbeaaGreatKv11
import Derived.Test.YtigmcjbgnmpbeaaGreatRows
import Derived.WalkKit
import Derived.ProofKit
import Derived.LaidMore
import Derived.Deep.DeepWitnessRowRef
namespace Go.Proofs.YtigmcjbgnmpbeaaGreat
open Go Go.Aw Go.ChangeShapes Go.WideShapes Go.ChangeAt Go.RowKit
set_option maxRecDepth 100000
abbrev LAW:Nat:=3
theorem walk:∀vss,Confs Tryz.prog Tryz.f3.params.toList vss->VF Tryz.prog G0 LAW (lO Tryz.prog Tryz.f3.params.toList vss) (.p (.bool true)):=by
 intro vss h
 rw[Tryz.params3] at h⊢
 obtain⟨vs0,r0,rfl,h0,h0'⟩:=Ij h
 cases LS h0'
 obtain⟨l0,rfl,ho0⟩:=Mp h0
 have e:lO Tryz.prog [24] [[cdL l0]]=[.agg [.p (cdL l0)]]:=by
  have u0:Tryz.prog.underlying 24=some (.struct ((match Tryz.prog.underlying 24 with|some (.struct fs)=>fs|_=>#[]))):=by kernel_rfl
  simp only[lO,List.zipWith,JC]
  rw[u0];rfl
 exact e▸Dh G0 l0 ho0
theorem contract(H:Type)(enc:TypeId × Value->H)(W:World)(base:Nat)(args:Array Value)(ds gs:List (DataW H))(before:List MemPlace)
 (hval:∀(j:Nat) t v,Tryz.f3.params[j]?=some t->args[j]?=some v->Value.okWide Tryz.prog W .any base t v)
 (hW:DataW.Whole enc Tryz.prog Tryz.f3.params.toList Rows.fnExactKnownUnitSpec.vars false W args.toList ds gs before):
 Calls Tryz.prog LAW args W λe W'=>∃v,e= .returned v/\Rows.fnExactKnownUnitSpec.post enc Tryz.prog Tryz.f3 false true false false W args v W':=by
 obtain⟨l1,l2⟩:=LB hW
 have hspec:Rows.fnExactKnownUnitSpec.fn H (ds++gs)={results:=[.lit (.bool true)],args:=ds,vars:=gs}:=by
  rw[Tryz.params3] at l1
  match ds,gs,l1,l2 with
  |[d0],[],_,_=>rfl
 refine Lr (L:=KC) (ub:=Rows.uptoBulk) (T:=(· <Tryz.prog.types.size)) (tb:=4) (G:=G0) Sq QA (by rw[Tryz.params3];decide) Ts Uf (It (by kernel_rfl)) (Ln (by kernel_rfl)) (by kernel_rfl) Tryz.underlying4 hval hW hspec (λg cs h=>by cases h) ?_
 intro vss h1 _
 exact walk vss h1
abbrev wargs:Array Value:=#[.agg #[.slice none 0 0]]
theorem reads0(os:Os){H:Type}(enc:TypeId × Value->H):∃places,DataW.whole enc Tryz.prog ((World.doorLaid Tryz.prog 400 os).forCall (λ_ _=>0) ⟨#[],wargs,[]⟩).memory Tryz.f3.params.toList Rows.fnExactKnownUnitSpec.vars false wargs.toList 8=some ([.agg [.nil]],[],places):=by
 have h:(DataW.whole enc Tryz.prog ((World.doorLaid Tryz.prog 400 os).forCall (λ_ _=>0) ⟨#[],wargs,[]⟩).memory Tryz.f3.params.toList Rows.fnExactKnownUnitSpec.vars false wargs.toList 8).map (λx=>(x.1,x.2.1))=some ([.agg [.nil]],[]):=by kernel_rfl
 rw[Wf] at h
 obtain⟨⟨x1,x2,x3⟩,e1,e2⟩:=h
 simp only[Xc] at e2
 obtain⟨rfl,rfl⟩:=e2
 exact⟨x3,e1⟩
theorem laid_met(os:Os):laidMet Tryz.prog Rows.fnExactKnownUnitRow.laid ((World.doorLaid Tryz.prog 400 os).forCall (λ_ _=>0) ⟨#[],wargs,[]⟩).memory:=
 laidMet_of_run' 8 (by kernel_rfl) (by kernel_rfl)
theorem lifted(os:Os)(started:os.Started)(H:Type)(enc:TypeId × Value->H)(F:Stop.Interp):
 ReturnsInHanded {} Tryz.checked os LAW .any ((OpenSpec.ofChange Rows.fnExactKnownUnitSpec).preRow enc Tryz.prog Tryz.f3 Rows.fnExactKnownUnitRow.domain false Rows.fnExactKnownUnitRow.laid) (((OpenSpec.ofChange Rows.fnExactKnownUnitSpec).at F).post enc Tryz.prog Tryz.f3 false true false false):=by
 obtain⟨places,hx⟩:=reads0 os enc
 refine returnsInHanded_of_row (C:=Tryz.checked) (s:=OpenSpec.ofChange Rows.fnExactKnownUnitSpec) Vz started (by kernel_rfl) Tryz.func3
  (witness_row_atRef (enc:=enc) (C:=Tryz.checked) false (World.doorLaid Tryz.prog 400 os) wargs rfl (by kernel_rfl) (by kernel_rfl) (by kernel_rfl)
    (OpenSpec.preRow_of_cond 8 hx (by kernel_rfl) (λk hk=>by cases hk) (by kernel_rfl) (laid_met os))) ?_
 intro W base args ds gs before hval hW _ _ _ _ _ _
 exact contract H enc W base args ds gs before hval hW
theorem card:Rows.FnExactKnownUnitSaid:=
 OpenClaim.holds_of_cond 3 Tryz.f3 rfl rfl rfl rfl rfl rfl rfl ⟨rfl,rfl,rfl,rfl,rfl⟩ rfl rfl rfl rfl rfl (by kernel_rfl) Tryz.func3 (by kernel_rfl)
  (of_decide_eq_true (by kernel_rfl)) (by unfold Func.isWrapper;first|(rw[Wz (by decide+kernel)];kernel_rfl)|(rw[WB (by decide+kernel)];exact⟨rfl,rfl⟩))
  (λos started H enc _ F=>by rw[OpenClaim.pre_eq_preRow];exact lifted os started H enc F)
end Go.Proofs.YtigmcjbgnmpbeaaGreat
