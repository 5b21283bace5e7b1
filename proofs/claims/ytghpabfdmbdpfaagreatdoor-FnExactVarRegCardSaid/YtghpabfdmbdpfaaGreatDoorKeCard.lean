/-
  The law of FnExactVarReg: the program says which register a variable has as the reference says, for all programs, numbers and names. Conditions: the two listed variables hold what the program's text lays.
-/
import Derived.Test.YtghpabfdmbdpfaaGreatDoorKe8
import Derived.Test.YtghpabfdmbdpfaaGreatDoorCards
import Derived.Test.YtghpabfdmbdpfaaGreatDoorTie
import Derived.WalkKit
import Derived.ProofKit
import Derived.LaidMore
import Derived.Deep.DeepWitnessRowRef
namespace Go.Proofs.YtghpabfdmbdpfaaGreatDoor
open Go Go.Aw Go.ChangeShapes Go.WideShapes Go.ChangeAt Go.RowKit
set_option maxRecDepth 100000
abbrev LAW:Nat:=7
theorem walk:∀vss,Confs Tryz.prog Tryz.f7.params.toList vss->VF Tryz.prog G0 LAW (ln Tryz.prog Tryz.f7.params.toList vss) (.p (.bool true)):=by
 intro vss h
 rw[Tryz.params7] at h⊢
 obtain⟨vs0,r0,rfl,h0,h0'⟩:=rE h
 obtain⟨vs1,r1,rfl,h1,h1'⟩:=rE h0'
 obtain⟨vs2,r2,rfl,h2,h2'⟩:=rE h1'
 cases Hr h2'
 obtain⟨l0,rfl,ho0⟩:=Ix h0
 obtain⟨n1,rfl,_⟩:=sv h1 (k:= .i64) (by kernel_rfl)
 obtain⟨s2,rfl,_⟩:=nW h2 (by kernel_rfl)
 have e:ln Tryz.prog [37,3,9] [[fdL l0],[.int .i64 n1],[.str s2]]=[.agg [.p (fdL l0)],.p (.int .i64 n1),.p (.str s2)]:=by
  have u0:Tryz.prog.underlying 37=some (.struct ((match Tryz.prog.underlying 37 with|some (.struct fs)=>fs|_=>#[]))):=by kernel_rfl
  have u1:Tryz.prog.underlying 3=some (.int .i64):=by kernel_rfl
  have u2:Tryz.prog.underlying 9=some .string:=by kernel_rfl
  simp only[ln,List.zipWith,Gl]
  rw[u0,u1,u2];rfl
 exact e▸uR G0 rfl rfl l0 ho0 n1 s2
theorem contract(H:Type)(enc:TypeId × Value->H)(W:World)(base:Nat)(args:Array Value)(ds gs:List (DataW H))(before:List MemPlace)
 (hval:∀(j:Nat) t v,Tryz.f7.params[j]?=some t->args[j]?=some v->Value.okWide Tryz.prog W .any base t v)
 (hW:DataW.Whole enc Tryz.prog Tryz.f7.params.toList Rows.fnExactVarRegSpec.vars false W args.toList ds gs before)(hL:laidMetH Tryz.prog Rows.fnExactVarRegRow.laid W):
 Calls Tryz.prog LAW args W λe W'=>∃v,e= .returned v/\Rows.fnExactVarRegSpec.post enc Tryz.prog Tryz.f7 false true false false W args v W':=by
 obtain⟨l1,l2⟩:=Hv hW
 have hspec:Rows.fnExactVarRegSpec.fn H (ds++gs)={results:=[.lit (.bool true)],args:=ds,vars:=gs}:=by
  rw[Tryz.params7] at l1
  match ds,gs,l1,l2 with
  |[d0,d1,d2],[g0,g1],_,_=>rfl
 have hL':laidMet Tryz.prog Rows.fnExactVarRegRow.laid W:=hL
 refine Il (L:=Ly) (ub:=Rows.uptoBulk) (T:=(· <Tryz.prog.types.size)) (tb:=4) (G:=G0) FX Nj (by rw[Tryz.params7];decide) QC QF (Fc (by kernel_rfl)) (Iw (by kernel_rfl)) (by kernel_rfl) Tryz.underlying4 hval hW hspec (Ss hL' (by simp[Rows.fnExactVarRegRow]) (by simp[Rows.fnExactVarRegRow])) ?_
 intro vss h1 _
 exact walk vss h1
abbrev wargs:Array Value:=#[.agg #[.slice none 0 0],.int .i64 0,.string ⟨#[]⟩]
theorem laid_met(os:Os):laidMet Tryz.prog Rows.fnExactVarRegRow.laid ((World.doorLaid Tryz.prog 400 os).forCall (λ_ _=>0) ⟨#[],wargs,[]⟩).memory:=
 laidMet_of_run' 8 (by kernel_rfl) (by kernel_rfl)
theorem reads0(os:Os){H:Type}(enc:TypeId × Value->H):∃places,DataW.whole enc Tryz.prog ((World.doorLaid Tryz.prog 400 os).forCall (λ_ _=>0) ⟨#[],wargs,[]⟩).memory Tryz.f7.params.toList Rows.fnExactVarRegSpec.vars false wargs.toList 8=some ([.agg [.nil],.lit (.int .i64 0),.lit (.string [])],[Rows.laid_loop_example_wholeway_impl_keys,Rows.laid_loop_example_wholeway_impl_opSign],places):=by
 have h:(DataW.whole enc Tryz.prog ((World.doorLaid Tryz.prog 400 os).forCall (λ_ _=>0) ⟨#[],wargs,[]⟩).memory Tryz.f7.params.toList Rows.fnExactVarRegSpec.vars false wargs.toList 8).map (λx=>(x.1,x.2.1))=some ([.agg [.nil],.lit (.int .i64 0),.lit (.string [])],[Rows.laid_loop_example_wholeway_impl_keys,Rows.laid_loop_example_wholeway_impl_opSign]):=by kernel_rfl
 rw[Td] at h
 obtain⟨⟨x1,x2,x3⟩,e1,e2⟩:=h
 simp only[Prod.mk.injEq] at e2
 obtain⟨rfl,rfl⟩:=e2
 exact⟨x3,e1⟩
theorem lifted(os:Os)(started:os.Started)(H:Type)(enc:TypeId × Value->H)(F:Stop.Interp):
 ReturnsInHanded {} Tryz.checked os LAW .any ((OpenSpec.ofChange Rows.fnExactVarRegSpec).preRow enc Tryz.prog Tryz.f7 Rows.fnExactVarRegRow.domain false Rows.fnExactVarRegRow.laid) (((OpenSpec.ofChange Rows.fnExactVarRegSpec).at F).post enc Tryz.prog Tryz.f7 false true false false):=by
 obtain⟨places,hx⟩:=reads0 os enc
 refine returnsInHanded_of_row (C:=Tryz.checked) (s:=OpenSpec.ofChange Rows.fnExactVarRegSpec) RZ started (by kernel_rfl) Tryz.func7
  (witness_row_atRef (enc:=enc) (C:=Tryz.checked) false (World.doorLaid Tryz.prog 400 os) wargs rfl (by kernel_rfl) (by kernel_rfl) (by kernel_rfl)
    (OpenSpec.preRow_of_cond 8 hx (by kernel_rfl) (λk hk=>by cases hk) (by kernel_rfl) (laid_met os))) ?_
 intro W base args ds gs before hval hW _ _ _ hL _ _
 exact contract H enc W base args ds gs before hval hW hL
theorem said:Rows.FnExactVarRegSaid:=
 OpenClaim.holds_of_cond 7 Tryz.f7 rfl rfl rfl rfl rfl rfl rfl ⟨rfl,rfl,rfl,rfl,rfl⟩ rfl rfl rfl rfl rfl (by kernel_rfl) Tryz.func7 (by kernel_rfl)
  (of_decide_eq_true (by kernel_rfl)) (by unfold Func.isWrapper;first|(rw[if_pos (by decide+kernel)];kernel_rfl)|(rw[if_neg (by decide+kernel)];exact⟨rfl,rfl⟩))
  (λos started H enc _ F=>by rw[OpenClaim.pre_eq_preRow];exact lifted os started H enc F)
theorem plainSeat(f:FuncId)(fn:Func)(hf:Tryz.pinned.checked.prog.funcNamed "loop.example/wholeway/laws.FnExactVarReg" =some f)(hfn:Tryz.pinned.checked.prog.funcs[f]?=some fn):
 false=Tryz.pinned.checked.prog.looks []/\∀(j:Nat) t,fn.params[j]?=some t->Tryz.pinned.checked.prog.wantsStandIn t=false:=by
 obtain rfl:f=7:=Option.some.inj ((show Tryz.prog.funcNamed "loop.example/wholeway/laws.FnExactVarReg" =some 7 by kernel_rfl).symm.trans hf)|>.symm
 obtain rfl:fn=Tryz.f7:=(Option.some.inj (Tryz.func7.symm.trans hfn)).symm
 refine⟨by kernel_rfl,λj t ht=>?_⟩
 rw[Tryz.params7] at ht
 have hm:=Array.mem_of_getElem? ht
 simp only[List.mem_toArray,Tf,Uk,or_false] at hm
 rcases hm with rfl|rfl|rfl
 ·exact(show Tryz.prog.wantsStandIn 37=false by kernel_rfl)
 ·exact(show Tryz.prog.wantsStandIn 3=false by kernel_rfl)
 ·exact(show Tryz.prog.wantsStandIn 9=false by kernel_rfl)
theorem card:Rows.FnExactVarRegCardSaid:=
 Claim7.holds_tied_plain_at .later [] _ _ _ _ said (λ_ h=>by cases h) (by kernel_rfl) (λ_ h=>by cases h) fnExactVarReg_row_tie rfl ⟨rfl,rfl⟩ (by kernel_rfl) rfl plainSeat (by kernel_rfl)
end Go.Proofs.YtghpabfdmbdpfaaGreatDoor
