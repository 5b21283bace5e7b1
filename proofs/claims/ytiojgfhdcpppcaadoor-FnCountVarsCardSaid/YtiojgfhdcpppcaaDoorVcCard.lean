/-
  The law of CountVars at drawn arguments: the program counts the variables that the reference counts; one more statement that makes a variable makes one more, where the names stay right. Conditions: the two listed variables hold what the program's text lays.
-/
import Derived.Test.YtiojgfhdcpppcaaDoorVc7
import Derived.Test.YtiojgfhdcpppcaaDoorCards
import Derived.Test.YtiojgfhdcpppcaaDoorTie
import Derived.WalkKit
import Derived.ProofKit
import Derived.LaidMore
import Derived.Deep.DeepWitnessRowRef
namespace Go.Proofs.YtiojgfhdcpppcaaDoor
open Go Go.Aw Go.ChangeShapes Go.WideShapes Go.ChangeAt Go.RowKit
set_option maxRecDepth 100000
def plains2:List TypeId:=33::5::Bw
theorem plain2:Plain Tryd.prog plains2=true:=by kernel_rfl
abbrev LAW:Nat:=6
theorem conf_bytes{vs:List PV}(h:Conf Tryd.prog 33 vs):∃l:List Int,vs=[mT l]∧l.length≤9223372036854775807∧Byt l:=by
 obtain⟨es,rfl,hl,h4⟩:=Ak h (e:=5) (by kernel_rfl)
 have hk:∀x∈es,∃n:Int,x=[PV.int .u8 n]∧(Lit.int .u8 n).wf=true:=fun x hx=>zy (h4 x hx) (by kernel_rfl)
 obtain⟨l,rfl⟩:=wW (fun n:Int=>[PV.int .u8 n]) (fun x hx=>by obtain⟨n,e,_⟩:=hk x hx;exact⟨n,e⟩)
 rw[show Tryd.prog.cellsOf 5=1 by kernel_rfl]
 refine⟨l,rfl,by rwa[List.length_map] at hl,fun n hn=>?_⟩
 obtain⟨m,e,hw⟩:=hk [PV.int .u8 n] (List.mem_map.2 ⟨n,hn,rfl⟩)
 cases e
 simp[Lit.wf,IntKind.min,IntKind.max,IntKind.bits,IntKind.signed] at hw
 omega
theorem walk:∀vss,Confs Tryd.prog Tryd.f6.params.toList vss→VF Tryd.prog G0 LAW (ja Tryd.prog Tryd.f6.params.toList vss) (.p (.bool true)):=by
 intro vss h
 rw[Tryd.params6] at h⊢
 obtain⟨vs,r,rfl,h1,h2⟩:=vU h
 cases yg h2
 obtain⟨l,rfl,hl,ho⟩:=conf_bytes h1
 have e:ja Tryd.prog [33] [[mT l]]=[.p (mT l)]:=by
  have:Tryd.prog.underlying 33=some (.slice 5):=by kernel_rfl
  simp only[ja,List.zipWith,xp]
  rw[this];rfl
 exact e▸px G0 rfl rfl l ho hl
theorem contract(H:Type)(enc:TypeId × Value→H)(W:World)(base:Nat)(args:Array Value)(ds gs:List (DataW H))(before:List MemPlace)
 (hval:∀(j:Nat) t v,Tryd.f6.params[j]?=some t→args[j]?=some v→Value.okWide Tryd.prog W .any base t v)
 (hW:DataW.Whole enc Tryd.prog Tryd.f6.params.toList Rows.fnCountVarsSpec.vars false W args.toList ds gs before)(hL:laidMetH Tryd.prog Rows.fnCountVarsRow.laid W):
 Calls Tryd.prog LAW args W fun e W'=>∃v,e= .returned v∧Rows.fnCountVarsSpec.post enc Tryd.prog Tryd.f6 false true false false W args v W':=by
 obtain⟨l1,l2⟩:=yH hW
 have hspec:Rows.fnCountVarsSpec.fn H (ds++gs)={results:=[.lit (.bool true)],args:=ds,vars:=gs}:=by
  rw[Tryd.params6] at l1
  match ds,gs,l1,l2 with
  |[d],[g1,g2],_,_=>rfl
 have hL':laidMet Tryd.prog Rows.fnCountVarsRow.laid W:=hL
 refine yy (L:=plains2) (ub:=Rows.uptoBulk) (T:=(· <Tryd.prog.types.size)) (tb:=4) (G:=G0) plain2 BL (by rw[Tryd.params6];decide) Fp FX (wc (by kernel_rfl)) (xW (by kernel_rfl)) (by kernel_rfl) Tryd.underlying4 hval hW hspec (Hh hL' (by simp[Rows.fnCountVarsRow]) (by simp[Rows.fnCountVarsRow])) ?_
 intro vss h1 _
 exact walk vss h1
abbrev wargs:Array Value:=#[.slice none 0 0]
theorem laid_met(os:Os):laidMet Tryd.prog Rows.fnCountVarsRow.laid ((World.doorLaid Tryd.prog 400 os).forCall (fun _ _=>0) ⟨#[],wargs,[]⟩).memory:=
 laidMet_of_run' 8 (by kernel_rfl) (by kernel_rfl)
theorem reads0(os:Os){H:Type}(enc:TypeId × Value→H):∃places,DataW.whole enc Tryd.prog ((World.doorLaid Tryd.prog 400 os).forCall (fun _ _=>0) ⟨#[],wargs,[]⟩).memory Tryd.f6.params.toList Rows.fnCountVarsSpec.vars false wargs.toList 8=some ([.nil],[Rows.laid_loop_example_wholeway_impl_keys,Rows.laid_loop_example_wholeway_impl_opSign],places):=by
 have h:(DataW.whole enc Tryd.prog ((World.doorLaid Tryd.prog 400 os).forCall (fun _ _=>0) ⟨#[],wargs,[]⟩).memory Tryd.f6.params.toList Rows.fnCountVarsSpec.vars false wargs.toList 8).map (fun x=>(x.1,x.2.1))=some ([.nil],[Rows.laid_loop_example_wholeway_impl_keys,Rows.laid_loop_example_wholeway_impl_opSign]):=by kernel_rfl
 rw[Option.map_eq_some_iff] at h
 obtain⟨⟨x1,x2,x3⟩,e1,e2⟩:=h
 simp only[Prod.mk.injEq] at e2
 obtain⟨rfl,rfl⟩:=e2
 exact⟨x3,e1⟩
theorem lifted(os:Os)(started:os.Started)(H:Type)(enc:TypeId × Value→H)(F:Stop.Interp):
 ReturnsInHanded {} Tryd.checked os LAW .any ((OpenSpec.ofChange Rows.fnCountVarsSpec).preRow enc Tryd.prog Tryd.f6 Rows.fnCountVarsRow.domain false Rows.fnCountVarsRow.laid) (((OpenSpec.ofChange Rows.fnCountVarsSpec).at F).post enc Tryd.prog Tryd.f6 false true false false):=by
 obtain⟨places,hx⟩:=reads0 os enc
 refine returnsInHanded_of_row (C:=Tryd.checked) (s:=OpenSpec.ofChange Rows.fnCountVarsSpec) Hb started (by kernel_rfl) Tryd.func6
  (witness_row_atRef (enc:=enc) (C:=Tryd.checked) false (World.doorLaid Tryd.prog 400 os) wargs rfl (by kernel_rfl) (by kernel_rfl) (by kernel_rfl)
    (OpenSpec.preRow_of_cond 8 hx (by kernel_rfl) (fun k hk=>by cases hk) (by kernel_rfl) (laid_met os))) ?_
 intro W base args ds gs before hval hW _ _ _ hL _ _
 exact contract H enc W base args ds gs before hval hW hL
theorem said:Rows.FnCountVarsSaid:=
 OpenClaim.holds_of_cond 6 Tryd.f6 rfl rfl rfl rfl rfl rfl rfl ⟨rfl,rfl,rfl,rfl,rfl⟩ rfl rfl rfl rfl rfl (by kernel_rfl) Tryd.func6 (by kernel_rfl)
  (of_decide_eq_true (by kernel_rfl)) (by unfold Func.isWrapper;first|(rw[if_pos (by decide+kernel)];kernel_rfl)|(rw[if_neg (by decide+kernel)];exact⟨rfl,rfl⟩))
  (fun os started H enc _ F=>by rw[OpenClaim.pre_eq_preRow];exact lifted os started H enc F)
theorem plainSeat(f:FuncId)(fn:Func)(hf:Tryd.pinned.checked.prog.funcNamed "loop.example/wholeway/laws.FnCountVars" =some f)(hfn:Tryd.pinned.checked.prog.funcs[f]?=some fn):
 false=Tryd.pinned.checked.prog.looks []∧∀(j:Nat) t,fn.params[j]?=some t→Tryd.pinned.checked.prog.wantsStandIn t=false:=by
 obtain rfl:f=6:=Option.some.inj ((show Tryd.prog.funcNamed "loop.example/wholeway/laws.FnCountVars" =some 6 by kernel_rfl).symm.trans hf)|>.symm
 obtain rfl:fn=Tryd.f6:=(Option.some.inj (Tryd.func6.symm.trans hfn)).symm
 refine⟨by kernel_rfl,fun j t ht=>?_⟩
 rw[Tryd.params6] at ht
 obtain rfl:t=33:=by simpa using Array.mem_of_getElem? ht
 exact(show Tryd.prog.wantsStandIn 33=false by kernel_rfl)
theorem card:Rows.FnCountVarsCardSaid:=
 Claim7.holds_tied_plain_at .later [] _ _ _ _ said (fun _ h=>by cases h) (by kernel_rfl) (fun _ h=>by cases h) fnCountVars_row_tie rfl ⟨rfl,rfl⟩ (by kernel_rfl) rfl plainSeat (by kernel_rfl)
end Go.Proofs.YtiojgfhdcpppcaaDoor
