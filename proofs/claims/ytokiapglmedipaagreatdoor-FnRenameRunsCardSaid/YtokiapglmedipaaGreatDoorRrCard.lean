/-
  The law of runs of renamed programs: the card.
-/
import Derived.Test.YtokiapglmedipaaGreatDoorRr9
import Derived.Test.YtokiapglmedipaaGreatDoorCards
import Derived.Test.YtokiapglmedipaaGreatDoorTie
import Derived.WalkKit
import Derived.ProofKit
import Derived.LaidMore
import Derived.Deep.DeepWitnessRowRef
namespace Go.Proofs.YtokiapglmedipaaGreatDoor
open Go Go.Aw Go.ChangeShapes Go.WideShapes Go.ChangeAt Go.RowKit
set_option maxRecDepth 100000
abbrev LAW:Nat:=10
theorem walk:∀vss,Confs Tryz.prog Tryz.f10.params.toList vss->VF Tryz.prog G0 LAW (nY Tryz.prog Tryz.f10.params.toList vss) (.p (.bool true)):=by
 intro vss h
 rw[Tryz.params10] at h⊢
 obtain⟨vs0,r0,rfl,h0,h0'⟩:=Jb h
 cases MD h0'
 obtain⟨l0,rfl,hl0,ho0⟩:=Jp h0
 have e:nY Tryz.prog [45] [[zT l0]]=[.p (zT l0)]:=by
  have u0:Tryz.prog.underlying 45=some (.slice FE):=by kernel_rfl
  simp only[nY,List.zipWith,Kv]
  rw[u0];rfl
 exact e▸zy G0 rfl rfl l0 ho0 hl0
theorem contract(H:Type)(enc:TypeId × Value->H)(W:World)(base:Nat)(args:Array Value)(ds gs:List (DataW H))(before:List MemPlace)
 (hval:∀(j:Nat) t v,Tryz.f10.params[j]?=some t->args[j]?=some v->Value.okWide Tryz.prog W .any base t v)
 (hW:DataW.Whole enc Tryz.prog Tryz.f10.params.toList Rows.fnRenameRunsSpec.vars false W args.toList ds gs before)(hL:laidMetH Tryz.prog Rows.fnRenameRunsRow.laid W):
 Calls Tryz.prog LAW args W λe W'=>∃v,e= .returned v/\Rows.fnRenameRunsSpec.post enc Tryz.prog Tryz.f10 false true false false W args v W':=by
 obtain⟨l1,l2⟩:=ME hW
 have hspec:Rows.fnRenameRunsSpec.fn H (ds++gs)={results:=[.lit (.bool true)],args:=ds,vars:=gs}:=by
  rw[Tryz.params10] at l1
  match ds,gs,l1,l2 with
  |[d0],[g0,g1],_,_=>rfl
 have hL':laidMet Tryz.prog Rows.fnRenameRunsRow.laid W:=hL
 refine Mn (L:=Lj) (ub:=Rows.uptoBulk) (T:=(· <Tryz.prog.types.size)) (tb:=4) (G:=G0) Tn RL (by rw[Tryz.params10];decide) Wu WI (Kb (by kernel_rfl)) (Ly (by kernel_rfl)) (by kernel_rfl) Tryz.underlying4 hval hW hspec (XX hL' (by simp[Rows.fnRenameRunsRow]) (by simp[Rows.fnRenameRunsRow])) ?_
 intro vss h1 _
 exact walk vss h1
abbrev wargs:Array Value:=#[.slice none 0 0]
theorem laid_met(os:Os):laidMet Tryz.prog Rows.fnRenameRunsRow.laid ((World.doorLaid Tryz.prog 400 os).forCall (λ_ _=>0) ⟨#[],wargs,[]⟩).memory:=
 laidMet_of_run' 8 (by kernel_rfl) (by kernel_rfl)
theorem reads0(os:Os){H:Type}(enc:TypeId × Value->H):∃places,DataW.whole enc Tryz.prog ((World.doorLaid Tryz.prog 400 os).forCall (λ_ _=>0) ⟨#[],wargs,[]⟩).memory Tryz.f10.params.toList Rows.fnRenameRunsSpec.vars false wargs.toList 8=some ([.nil],[Rows.laid_loop_example_wholeway_impl_keys,Rows.laid_loop_example_wholeway_impl_opSign],places):=by
 have h:(DataW.whole enc Tryz.prog ((World.doorLaid Tryz.prog 400 os).forCall (λ_ _=>0) ⟨#[],wargs,[]⟩).memory Tryz.f10.params.toList Rows.fnRenameRunsSpec.vars false wargs.toList 8).map (λx=>(x.1,x.2.1))=some ([.nil],[Rows.laid_loop_example_wholeway_impl_keys,Rows.laid_loop_example_wholeway_impl_opSign]):=by kernel_rfl
 rw[YP] at h
 obtain⟨⟨x1,x2,x3⟩,e1,e2⟩:=h
 simp only[Prod.mk.injEq] at e2
 obtain⟨rfl,rfl⟩:=e2
 exact⟨x3,e1⟩
theorem lifted(os:Os)(started:os.Started)(H:Type)(enc:TypeId × Value->H)(F:Stop.Interp):
 ReturnsInHanded {} Tryz.checked os LAW .any ((OpenSpec.ofChange Rows.fnRenameRunsSpec).preRow enc Tryz.prog Tryz.f10 Rows.fnRenameRunsRow.domain false Rows.fnRenameRunsRow.laid) (((OpenSpec.ofChange Rows.fnRenameRunsSpec).at F).post enc Tryz.prog Tryz.f10 false true false false):=by
 obtain⟨places,hx⟩:=reads0 os enc
 refine returnsInHanded_of_row (C:=Tryz.checked) (s:=OpenSpec.ofChange Rows.fnRenameRunsSpec) XT started (by kernel_rfl) Tryz.func10
  (witness_row_atRef (enc:=enc) (C:=Tryz.checked) false (World.doorLaid Tryz.prog 400 os) wargs rfl (by kernel_rfl) (by kernel_rfl) (by kernel_rfl)
    (OpenSpec.preRow_of_cond 8 hx (by kernel_rfl) (λk hk=>by cases hk) (by kernel_rfl) (laid_met os))) ?_
 intro W base args ds gs before hval hW _ _ _ hL _ _
 exact contract H enc W base args ds gs before hval hW hL
theorem said:Rows.FnRenameRunsSaid:=
 OpenClaim.holds_of_cond 10 Tryz.f10 rfl rfl rfl rfl rfl rfl rfl ⟨rfl,rfl,rfl,rfl,rfl⟩ rfl rfl rfl rfl rfl (by kernel_rfl) Tryz.func10 (by kernel_rfl)
  (of_decide_eq_true (by kernel_rfl)) (by unfold Func.isWrapper;first|(rw[if_pos (by decide+kernel)];kernel_rfl)|(rw[if_neg (by decide+kernel)];exact⟨rfl,rfl⟩))
  (λos started H enc _ F=>by rw[OpenClaim.pre_eq_preRow];exact lifted os started H enc F)
theorem plainSeat(f:FuncId)(fn:Func)(hf:Tryz.pinned.checked.prog.funcNamed "loop.example/wholeway/laws.FnRenameRuns" =some f)(hfn:Tryz.pinned.checked.prog.funcs[f]?=some fn):
 true=Tryz.pinned.checked.prog.looks []/\∀(j:Nat) t,fn.params[j]?=some t->Tryz.pinned.checked.prog.wantsStandIn t=false:=by
 obtain rfl:f=10:=Option.some.inj ((show Tryz.prog.funcNamed "loop.example/wholeway/laws.FnRenameRuns" =some 10 by kernel_rfl).symm.trans hf)|>.symm
 obtain rfl:fn=Tryz.f10:=(Option.some.inj (Tryz.func10.symm.trans hfn)).symm
 refine⟨by kernel_rfl,λj t ht=>?_⟩
 rw[Tryz.params10] at ht
 have hm:=Array.mem_of_getElem? ht
 obtain rfl:t=45:=by simpa using hm
 exact(show Tryz.prog.wantsStandIn 45=false by kernel_rfl)
theorem card:Rows.FnRenameRunsCardSaid:=
 Claim7.holds_tied_plain_at .later [] _ _ _ _ said (λ_ h=>by cases h) (by kernel_rfl) (λ_ h=>by cases h) fnRenameRuns_row_tie rfl ⟨rfl,rfl⟩ (by kernel_rfl) rfl plainSeat (by kernel_rfl)
end Go.Proofs.YtokiapglmedipaaGreatDoor
