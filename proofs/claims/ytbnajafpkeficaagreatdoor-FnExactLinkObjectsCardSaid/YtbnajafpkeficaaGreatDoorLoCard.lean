/-
  The law of LinkObjects: the program links objects to the program to which the reference links them, or refuses them alike; its memory is the caller's own. Conditions: the two listed variables hold what the program's text lays.
-/
import Derived.Test.YtbnajafpkeficaaGreatDoorLo8
import Derived.Test.YtbnajafpkeficaaGreatDoorCards
import Derived.Test.YtbnajafpkeficaaGreatDoorTie
import Derived.WalkKit
import Derived.ProofKit
import Derived.LaidMore
import Derived.Deep.DeepWitnessRowRef
namespace Go.Proofs.YtbnajafpkeficaaGreatDoor
open Go Go.Aw Go.ChangeShapes Go.WideShapes Go.ChangeAt Go.RowKit
set_option maxRecDepth 100000
abbrev LAW:Nat:=4
theorem walk:∀vss,Confs Tryz.prog Tryz.f4.params.toList vss->VF Tryz.prog G0 LAW (jU Tryz.prog Tryz.f4.params.toList vss) (.p (.bool true)):=by
 intro vss h
 rw[Tryz.params4] at h⊢
 obtain⟨vs0,r0,rfl,h0,h0'⟩:=vr h
 obtain⟨vs1,r1,rfl,h1,h1'⟩:=vr h0'
 cases Fc h1'
 obtain⟨l0,rfl,hl0,ho0⟩:=Gx h0
 obtain⟨s1,rfl,hs1⟩:=vh h1 (by kernel_rfl)
 have e:jU Tryz.prog [22,9] [[obL l0],[.str s1]]=[.p (obL l0),.p (.str s1)]:=by
  have u0:Tryz.prog.underlying 22=some (.slice BG):=by kernel_rfl
  have u1:Tryz.prog.underlying 9=some .string:=by kernel_rfl
  simp only[jU,List.zipWith,Ei]
  rw[u0,u1];rfl
 exact e▸tr G0 rfl rfl l0 hl0 ho0 s1 hs1
theorem contract(H:Type)(enc:TypeId × Value->H)(W:World)(base:Nat)(args:Array Value)(ds gs:List (DataW H))(before:List MemPlace)
 (hval:∀(j:Nat) t v,Tryz.f4.params[j]?=some t->args[j]?=some v->Value.okWide Tryz.prog W .any base t v)
 (hW:DataW.Whole enc Tryz.prog Tryz.f4.params.toList Rows.fnExactLinkObjectsSpec.vars false W args.toList ds gs before)(hL:laidMetH Tryz.prog Rows.fnExactLinkObjectsRow.laid W):
 Calls Tryz.prog LAW args W λe W'=>∃v,e= .returned v/\Rows.fnExactLinkObjectsSpec.post enc Tryz.prog Tryz.f4 false true false false W args v W':=by
 obtain⟨l1,l2⟩:=Fr hW
 have hspec:Rows.fnExactLinkObjectsSpec.fn H (ds++gs)={results:=[.lit (.bool true)],args:=ds,vars:=gs}:=by
  rw[Tryz.params4] at l1
  match ds,gs,l1,l2 with
  |[d0,d1],[g0,g1],_,_=>rfl
 have hL':laidMet Tryz.prog Rows.fnExactLinkObjectsRow.laid W:=hL
 refine Es (L:=GN) (ub:=Rows.uptoBulk) (T:=(· <Tryz.prog.types.size)) (tb:=4) (G:=G0) Dz Jp (by rw[Tryz.params4];decide) Lz My (CV (by kernel_rfl)) (Fp (by kernel_rfl)) (by kernel_rfl) Tryz.underlying4 hval hW hspec (NJ hL' (by simp[Rows.fnExactLinkObjectsRow]) (by simp[Rows.fnExactLinkObjectsRow])) ?_
 intro vss h1 _
 exact walk vss h1
abbrev wargs:Array Value:=#[.slice none 0 0,.string ⟨⟨[]⟩⟩]
theorem laid_met(os:Os):laidMet Tryz.prog Rows.fnExactLinkObjectsRow.laid ((World.doorLaid Tryz.prog 400 os).forCall (λ_ _=>0) ⟨#[],wargs,[]⟩).memory:=
 laidMet_of_run' 8 (by kernel_rfl) (by kernel_rfl)
theorem reads0(os:Os){H:Type}(enc:TypeId × Value->H):∃places,DataW.whole enc Tryz.prog ((World.doorLaid Tryz.prog 400 os).forCall (λ_ _=>0) ⟨#[],wargs,[]⟩).memory Tryz.f4.params.toList Rows.fnExactLinkObjectsSpec.vars false wargs.toList 8=some ([.nil,.lit (.string [])],[Rows.laid_loop_example_wholeway_impl_keys,Rows.laid_loop_example_wholeway_impl_forms],places):=by
 have h:(DataW.whole enc Tryz.prog ((World.doorLaid Tryz.prog 400 os).forCall (λ_ _=>0) ⟨#[],wargs,[]⟩).memory Tryz.f4.params.toList Rows.fnExactLinkObjectsSpec.vars false wargs.toList 8).map (λx=>(x.1,x.2.1))=some ([.nil,.lit (.string [])],[Rows.laid_loop_example_wholeway_impl_keys,Rows.laid_loop_example_wholeway_impl_forms]):=by kernel_rfl
 rw[Option.map_eq_some_iff] at h
 obtain⟨⟨x1,x2,x3⟩,e1,e2⟩:=h
 simp only[Prod.mk.injEq] at e2
 obtain⟨rfl,rfl⟩:=e2
 exact⟨x3,e1⟩
theorem lifted(os:Os)(started:os.Started)(H:Type)(enc:TypeId × Value->H)(F:Stop.Interp):
 ReturnsInHanded {} Tryz.checked os LAW .any ((OpenSpec.ofChange Rows.fnExactLinkObjectsSpec).preRow enc Tryz.prog Tryz.f4 Rows.fnExactLinkObjectsRow.domain false Rows.fnExactLinkObjectsRow.laid) (((OpenSpec.ofChange Rows.fnExactLinkObjectsSpec).at F).post enc Tryz.prog Tryz.f4 false true false false):=by
 obtain⟨places,hx⟩:=reads0 os enc
 refine returnsInHanded_of_row (C:=Tryz.checked) (s:=OpenSpec.ofChange Rows.fnExactLinkObjectsSpec) Oc started (by kernel_rfl) Tryz.func4
  (witness_row_atRef (enc:=enc) (C:=Tryz.checked) false (World.doorLaid Tryz.prog 400 os) wargs rfl (by kernel_rfl) (by kernel_rfl) (by kernel_rfl)
    (OpenSpec.preRow_of_cond 8 hx (by kernel_rfl) (λk hk=>by cases hk) (by kernel_rfl) (laid_met os))) ?_
 intro W base args ds gs before hval hW _ _ _ hL _ _
 exact contract H enc W base args ds gs before hval hW hL
theorem said:Rows.FnExactLinkObjectsSaid:=
 OpenClaim.holds_of_cond 4 Tryz.f4 rfl rfl rfl rfl rfl rfl rfl ⟨rfl,rfl,rfl,rfl,rfl⟩ rfl rfl rfl rfl rfl (by kernel_rfl) Tryz.func4 (by kernel_rfl)
  (of_decide_eq_true (by kernel_rfl)) (by unfold Func.isWrapper;first|(rw[if_pos (by decide+kernel)];kernel_rfl)|(rw[if_neg (by decide+kernel)];exact⟨rfl,rfl⟩))
  (λos started H enc _ F=>by rw[OpenClaim.pre_eq_preRow];exact lifted os started H enc F)
theorem plainSeat(f:FuncId)(fn:Func)(hf:Tryz.pinned.checked.prog.funcNamed "loop.example/wholeway/laws.FnExactLinkObjects" =some f)(hfn:Tryz.pinned.checked.prog.funcs[f]?=some fn):
 false=Tryz.pinned.checked.prog.looks []/\∀(j:Nat) t,fn.params[j]?=some t->Tryz.pinned.checked.prog.wantsStandIn t=false:=by
 obtain rfl:f=4:=Option.some.inj ((show Tryz.prog.funcNamed "loop.example/wholeway/laws.FnExactLinkObjects" =some 4 by kernel_rfl).symm.trans hf)|>.symm
 obtain rfl:fn=Tryz.f4:=(Option.some.inj (Tryz.func4.symm.trans hfn)).symm
 refine⟨by kernel_rfl,λj t ht=>?_⟩
 rw[Tryz.params4] at ht
 have hm:=Array.mem_of_getElem? ht
 simp only[List.mem_toArray,List.mem_cons,List.not_mem_nil,or_false] at hm
 rcases hm with rfl|rfl
 ·exact(show Tryz.prog.wantsStandIn 22=false by kernel_rfl)
 ·exact(show Tryz.prog.wantsStandIn 9=false by kernel_rfl)
theorem card:Rows.FnExactLinkObjectsCardSaid:=
 Claim7.holds_tied_plain_at .later [] _ _ _ _ said (λ_ h=>by cases h) (by kernel_rfl) (λ_ h=>by cases h) fnExactLinkObjects_row_tie rfl ⟨rfl,rfl⟩ (by kernel_rfl) rfl plainSeat (by kernel_rfl)
end Go.Proofs.YtbnajafpkeficaaGreatDoor
