/-
  The law of FnVarReg at drawn programs: the program says which register a variable has as the reference says; the parameters have the first ones, and behind these the others are. Conditions: the two listed variables hold what the program's text lays.
-/
import Derived.Test.YtghpabfdmbdpfaaGreatDoorKf9
import Derived.Test.YtghpabfdmbdpfaaGreatDoorCards
import Derived.Test.YtghpabfdmbdpfaaGreatDoorTie
import Derived.WalkKit
import Derived.ProofKit
import Derived.LaidMore
import Derived.Deep.DeepWitnessRowRef
namespace Go.Proofs.YtghpabfdmbdpfaaGreatDoor
open Go Go.Aw Go.ChangeShapes Go.WideShapes Go.ChangeAt Go.RowKit
set_option maxRecDepth 100000
abbrev LAW:Nat:=8
theorem walk:∀vss,Confs Tryz.prog Tryz.f8.params.toList vss->VF Tryz.prog G0 LAW (mD Tryz.prog Tryz.f8.params.toList vss) (.p (.bool true)):=by
 intro vss h
 rw[Tryz.params8] at h⊢
 obtain⟨vs0,r0,rfl,h0,h0'⟩:=Hq h
 cases Lc h0'
 obtain⟨l0,rfl,hl0,ho0⟩:=HZ h0
 have e:mD Tryz.prog [22] [[vH l0]]=[.p (vH l0)]:=by
  have u0:Tryz.prog.underlying 22=some (.slice DV):=by kernel_rfl
  simp only[mD,List.zipWith,Jc]
  rw[u0];rfl
 exact e▸In G0 rfl rfl l0 ho0 hl0
theorem contract(H:Type)(enc:TypeId × Value->H)(W:World)(base:Nat)(args:Array Value)(ds gs:List (DataW H))(before:List MemPlace)
 (hval:∀(j:Nat) t v,Tryz.f8.params[j]?=some t->args[j]?=some v->Value.okWide Tryz.prog W .any base t v)
 (hW:DataW.Whole enc Tryz.prog Tryz.f8.params.toList Rows.fnVarRegSpec.vars false W args.toList ds gs before)(hL:laidMetH Tryz.prog Rows.fnVarRegRow.laid W):
 Calls Tryz.prog LAW args W λe W'=>∃v,e= .returned v/\Rows.fnVarRegSpec.post enc Tryz.prog Tryz.f8 false true false false W args v W':=by
 obtain⟨l1,l2⟩:=Lj hW
 have hspec:Rows.fnVarRegSpec.fn H (ds++gs)={results:=[.lit (.bool true)],args:=ds,vars:=gs}:=by
  rw[Tryz.params8] at l1
  match ds,gs,l1,l2 with
  |[d0],[g0,g1],_,_=>rfl
 have hL':laidMet Tryz.prog Rows.fnVarRegRow.laid W:=hL
 refine LB (L:=JO) (ub:=Rows.uptoBulk) (T:=(· <Tryz.prog.types.size)) (tb:=4) (G:=G0) RW QG (by rw[Tryz.params8];decide) Uz TY (IG (by kernel_rfl)) (KE (by kernel_rfl)) (by kernel_rfl) Tryz.underlying4 hval hW hspec (Vy hL' (by simp[Rows.fnVarRegRow]) (by simp[Rows.fnVarRegRow])) ?_
 intro vss h1 _
 exact walk vss h1
abbrev wargs:Array Value:=#[.slice none 0 0]
theorem laid_met(os:Os):laidMet Tryz.prog Rows.fnVarRegRow.laid ((World.doorLaid Tryz.prog 400 os).forCall (λ_ _=>0) ⟨#[],wargs,[]⟩).memory:=
 laidMet_of_run' 8 (by kernel_rfl) (by kernel_rfl)
theorem reads0(os:Os){H:Type}(enc:TypeId × Value->H):∃places,DataW.whole enc Tryz.prog ((World.doorLaid Tryz.prog 400 os).forCall (λ_ _=>0) ⟨#[],wargs,[]⟩).memory Tryz.f8.params.toList Rows.fnVarRegSpec.vars false wargs.toList 8=some ([.nil],[Rows.laid_loop_example_wholeway_impl_keys,Rows.laid_loop_example_wholeway_impl_opSign],places):=by
 have h:(DataW.whole enc Tryz.prog ((World.doorLaid Tryz.prog 400 os).forCall (λ_ _=>0) ⟨#[],wargs,[]⟩).memory Tryz.f8.params.toList Rows.fnVarRegSpec.vars false wargs.toList 8).map (λx=>(x.1,x.2.1))=some ([.nil],[Rows.laid_loop_example_wholeway_impl_keys,Rows.laid_loop_example_wholeway_impl_opSign]):=by kernel_rfl
 rw[WA] at h
 obtain⟨⟨x1,x2,x3⟩,e1,e2⟩:=h
 simp only[Prod.mk.injEq] at e2
 obtain⟨rfl,rfl⟩:=e2
 exact⟨x3,e1⟩
theorem lifted(os:Os)(started:os.Started)(H:Type)(enc:TypeId × Value->H)(F:Stop.Interp):
 ReturnsInHanded {} Tryz.checked os LAW .any ((OpenSpec.ofChange Rows.fnVarRegSpec).preRow enc Tryz.prog Tryz.f8 Rows.fnVarRegRow.domain false Rows.fnVarRegRow.laid) (((OpenSpec.ofChange Rows.fnVarRegSpec).at F).post enc Tryz.prog Tryz.f8 false true false false):=by
 obtain⟨places,hx⟩:=reads0 os enc
 refine returnsInHanded_of_row (C:=Tryz.checked) (s:=OpenSpec.ofChange Rows.fnVarRegSpec) We started (by kernel_rfl) Tryz.func8
  (witness_row_atRef (enc:=enc) (C:=Tryz.checked) false (World.doorLaid Tryz.prog 400 os) wargs rfl (by kernel_rfl) (by kernel_rfl) (by kernel_rfl)
    (OpenSpec.preRow_of_cond 8 hx (by kernel_rfl) (λk hk=>by cases hk) (by kernel_rfl) (laid_met os))) ?_
 intro W base args ds gs before hval hW _ _ _ hL _ _
 exact contract H enc W base args ds gs before hval hW hL
theorem said:Rows.FnVarRegSaid:=
 OpenClaim.holds_of_cond 8 Tryz.f8 rfl rfl rfl rfl rfl rfl rfl ⟨rfl,rfl,rfl,rfl,rfl⟩ rfl rfl rfl rfl rfl (by kernel_rfl) Tryz.func8 (by kernel_rfl)
  (of_decide_eq_true (by kernel_rfl)) (by unfold Func.isWrapper;first|(rw[if_pos (by decide+kernel)];kernel_rfl)|(rw[if_neg (by decide+kernel)];exact⟨rfl,rfl⟩))
  (λos started H enc _ F=>by rw[OpenClaim.pre_eq_preRow];exact lifted os started H enc F)
theorem plainSeat(f:FuncId)(fn:Func)(hf:Tryz.pinned.checked.prog.funcNamed "loop.example/wholeway/laws.FnVarReg" =some f)(hfn:Tryz.pinned.checked.prog.funcs[f]?=some fn):
 false=Tryz.pinned.checked.prog.looks []/\∀(j:Nat) t,fn.params[j]?=some t->Tryz.pinned.checked.prog.wantsStandIn t=false:=by
 obtain rfl:f=8:=Option.some.inj ((show Tryz.prog.funcNamed "loop.example/wholeway/laws.FnVarReg" =some 8 by kernel_rfl).symm.trans hf)|>.symm
 obtain rfl:fn=Tryz.f8:=(Option.some.inj (Tryz.func8.symm.trans hfn)).symm
 refine⟨by kernel_rfl,λj t ht=>?_⟩
 rw[Tryz.params8] at ht
 have hm:=Array.mem_of_getElem? ht
 obtain rfl:t=22:=by simpa using hm
 exact(show Tryz.prog.wantsStandIn 22=false by kernel_rfl)
theorem card:Rows.FnVarRegCardSaid:=
 Claim7.holds_tied_plain_at .later [] _ _ _ _ said (λ_ h=>by cases h) (by kernel_rfl) (λ_ h=>by cases h) fnVarReg_row_tie rfl ⟨rfl,rfl⟩ (by kernel_rfl) rfl plainSeat (by kernel_rfl)
end Go.Proofs.YtghpabfdmbdpfaaGreatDoor
