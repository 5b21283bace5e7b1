/-
  Contracts and lemmas that the card needs, part 7.
-/
import Derived.Test.YtokiapglmedipaaGreatDoorWr6
import Derived.Tactics
import Derived.Tactics2
namespace Go.Proofs.YtokiapglmedipaaGreatDoor
open Go Go.Aw
set_option maxRecDepth 100000
set_option maxHeartbeats 4000000
section
abbrev bH:TypeId:=179
variable (G:al)
theorem eL{a:Act}{d d':Nat}{v:Value}(h:d≠d'):(a.put (some d) v).eval (.tmp d')=a.eval (.tmp d'):=by simp[Act.eval,Act.put,h]
theorem eF{a:Act}{d:Option Nat}{v:Value}:(a.put d v).tmps.size=a.tmps.size:=by cases d<;>simp[Act.put]
theorem AB{a:Act}{d:Option Nat}{v:Value}:(a.put d v).defers=a.defers:=by cases d<;>rfl
theorem AF{P:Program}{code:Code}{Q:Exit->Act->World->Prop}{a:Act}{w:World}(T:Act->Prop)(ha:T a)(h:∀a,T a->Code.wp P code Q a w):Code.wp P code Q a w:=h a ha
theorem Rg(v:Value)(w:World):(Instr.typeAssert (.iface bH v) 20 bH true).run Tryz.prog w= .ok (.tuple #[v,.bool true]) w:=by
 have:Tryz.prog.underlying bH=some (.int .i64):=by kernel_rfl
 simp[Instr.typeAssert,run_underlying this]
theorem GG(c:Int)(h:List AO):AC Tryz.prog G mf [.p (.int .i64 c)] h λx h'=>x= .pan bH (.int .i64 c)/\h'=h:=by
 refine AC.enterC Tryz.func212 rfl (rs:=[]) (by kernel_rfl) (by kernel_rfl) λW S φ a hH s0=>?_
 have h0:a.eval (.tmp 0)= .int .i64 c:=by
  have:=s0.trel.get 0 (.p (.int .i64 c)) rfl
  exact bA this
 have hsz:a.tmps.size=4:=s0.trel.size
 refine wp_region_list (db (v:= .int .i64 c) (w':=W) rfl ?_ (db (v:= .iface bH (.int .i64 c)) (w':=W) rfl ?_ (Mo (v:= .iface bH (.int .i64 c)) (w':=W) rfl ?_ ?_)))
 ·simp[execOp,h0]
 ·have:((a.put (some 2) (.int .i64 c))).eval (.tmp 2)= .int .i64 c:=cL (by omega)
  simp[execOp,this,Instr.makeInterface]
 ·have:(((a.put (some 2) (.int .i64 c)).put (some 3) (.iface bH (.int .i64 c)))).eval (.tmp 3)= .iface bH (.int .i64 c):=cL (by simp[Act.put];omega)
  simp[execOp,this,Instr.panic]
 ·exact⟨.pan bH (.int .i64 c),_,h,S,φ,⟨rfl,rfl⟩,.pan _ _ _ (.int _ _),(s0.put (some 2) (.p _ _ (.int _ _)) s0.hrel (Keep.refl s0.hrel)).put (some 3) (.any _) s0.hrel (Keep.refl s0.hrel)⟩
theorem Qz(p:Addr)(w:World):
 CallsD Tryz.prog bq #[.pointer (some p)] .returning w λe u' w'=>e= .returned (.tuple #[])/\u'= .returning/\w'=w:=by
 refine callsD_of_wpS Tryz.func157 rfl λc₀ cs hu=>?_
 have hr0:Tryz.f157.results=#[]:=by kernel_rfl
 have hres:∀t,(results Tryz.f157 t).run Tryz.prog w= .ok (.tuple #[]) w:=λt=>by simp[results,hr0]
 apply wpS_seq
 apply wpS_region
 simp[wpOpsS,go_sem,recoverD,hu,Exit.thenS]
 apply wpS_seq
 apply wpS_region
 simp[wpOpsS,go_sem,recoverD,Exit.thenS]
 refine wpS_cond (t:=false) (by simp[Act.eval,Array.replicate]) ?_
 simp only[Bool.false_eq_true,if_false]
 refine wpS_of_wp (wp_skip ?_)
 refine⟨rfl,.returning,?_,_,hres _,rfl,rfl,rfl⟩
 cases c₀
 simp only at hu
 rw[hu]
theorem Qc(p:Addr)(x c:Int)(w:World)(hc:w.cell? p=some (.int .i64 x))(hz:w.frozen? p=false):
 CallsD Tryz.prog bq #[.pointer (some p)] (.panicking [{v:= .iface bH (.int .i64 c),recovered:=false}]) w λe u' w'=>
  e= .returned (.tuple #[])/\u'= .panicking [{v:= .iface bH (.int .i64 c),recovered:=true}]/\w'=w.setCell p (.int .i64 c):=by
 refine callsD_of_wpS Tryz.func157 rfl λc₀ cs hu=>?_
 have hr0:Tryz.f157.results=#[]:=by kernel_rfl
 have hres:∀t w,(results Tryz.f157 t).run Tryz.prog w= .ok (.tuple #[]) w:=λt w=>by simp[results,hr0]
 apply wpS_seq
 apply wpS_region
 simp[wpOpsS,go_sem,recoverD,hu,Exit.thenS]
 apply wpS_seq
 apply wpS_region
 simp[wpOpsS,go_sem,recoverD,Exit.thenS]
 refine wpS_cond (t:=true) (by simp[Act.eval,Array.replicate]) ?_
 simp only[if_true]
 refine wpS_of_wp ?_
 refine AF (λa=>a.eval (.tmp 0)= .pointer (some p)/\a.eval (.tmp 1)= .iface bH (.int .i64 c)/\a.tmps.size=16/\a.defers=[]) ⟨by simp[Act.eval],by simp[Act.eval],by simp,rfl⟩ λa ⟨h0,h1,hs,hd⟩=>?_
 apply wp_seq
 refine wp_region_list ?_
 refine db (v:= .iface bH (.int .i64 c)) (w':=w) rfl (by simp[execOp,h1]) ?_
 refine db (v:= .tuple #[.int .i64 c,.bool true]) (w':=w) rfl (by simp[execOp,cL,hs,Rg]) ?_
 refine db (v:= .tuple #[.int .i64 c,.bool true]) (w':=w) rfl (by simp[execOp,cL,eF,hs]) ?_
 refine db (v:= .int .i64 c) (w':=w) rfl (by simp[execOp,cL,eF,hs,Instr.extract]) ?_
 refine db (v:= .bool true) (w':=w) rfl (by simp[execOp,eL,cL,eF,hs,Instr.extract]) ?_
 refine db (v:= .int .i64 c) (w':=w) rfl (by simp[execOp,eL,cL,eF,hs]) ?_
 refine db (v:= .bool true) (w':=w) rfl (by simp[execOp,eL,cL,eF,hs]) ?_
 refine AF (λa=>a.eval (.tmp 0)= .pointer (some p)/\a.eval (.tmp 3)= .bool true/\a.eval (.tmp 2)= .int .i64 c/\a.tmps.size=16/\a.defers=[]) ⟨by simp[eL,h0],by simp[cL,eF,hs],by simp[eL,cL,eF,hs],by simp[eF,hs],by simp only[AB,hd]⟩ λa ⟨h0,h3,h2,hs,hd⟩=>?_
 have h0':a.tmps[0]= .pointer (some p):=by simpa[Act.eval,hs] using h0
 apply wp_seq
 apply wp_seq
 refine wp_region_list ?_
 refine db (v:= .bool true) (w':=w) rfl (by simp[execOp,h3]) ?_
 refine db (v:= .bool false) (w':=w) rfl (by simp[execOp,cL,hs,go_sem]) ?_
 refine wp_cond (t:=false) (by simp[cL,eF,hs]) (wp_skip ?_)
 refine wp_region_list ?_
 refine db (v:= .int .i64 c) (w':=w) rfl (by simp[execOp,eL,h2]) ?_
 refine HD (w':=w.setCell p (.int .i64 c)) rfl (by simp[execOp,eL,cL,eF,h0',hs,go_sem,hc,hz]) ?_
 refine⟨by simp only[AB,hd],_,rfl,_,hres _ _,rfl,rfl,rfl⟩
theorem Oe{p:Addr}{c:Int}{w:World}(hc:w.cell? p=some (.int .i64 c)){t:Array Value}(ht:t.getD 2 undef= .pointer (some p)):(results Tryz.f105 t).run Tryz.prog w= .ok (.int .i64 c) w:=by
 have hr0:Tryz.f105.results=#[.cell 2 3]:=by kernel_rfl
 have hi:Tryz.prog.underlying 3=some (.int .i64):=by kernel_rfl
 rw[Wj] at ht
 simp[results,hr0,ht,loadVar,asAddr,isAgg,run_underlying hi,go_sem,hc]
def UO(id:Nat)(R:ARes->List AO->Prop)(x:ARes)(h':List AO):Prop:=
 ∃c:Int,(x= .ret (.tup [])/\c=0\/x= .pan bH (.int .i64 c))/\h'[id]?=some (.row 1 [[.p (.int .i64 0)]])/\R (.ret (.p (.int .i64 c))) (h'.set id (.row 1 [[.p (.int .i64 c)]]))
theorem Mm(F:FuncId)(caps:List AV)(h:List AO)(R:ARes->List AO->Prop)(HF:AC Tryz.prog G F caps (h++[.row 1 [[.p (.int .i64 0)]]]) (UO h.length R)):
 AC Tryz.prog G rH [.fn (.func F) caps] h R:=by
 refine⟨by kernel_rfl,λW S φ vs hH hA=>calls_of_wp_defers Tryz.func105 rfl ?_⟩
 have s:St G W S φ h W S φ {tmps:=vs++Array.replicate (6-vs.size) undef,defers:=[]} [.fn (.func F) caps,.any,.any,.any,.any,.any] h:=by
  refine⟨hH,⟨by simp[hA.1],λi v hi=>?_⟩,rfl,Keep.refl hH⟩
  match i,hi with
  |0,hi=>
   cases hi
   have hl:0<vs.size:=by rw[hA.1];simp
   have:(vs++Array.replicate (6-vs.size) undef).getD 0 undef=vs[0]:=by
    rw[Wj,Array.getElem?_append_left hl,Wc hl];rfl
   rw[this]
   exact hA.2 0 _ _ rfl (Wc hl)
  |1,hi=>cases hi;exact .any _
  |2,hi=>cases hi;exact .any _
  |3,hi=>cases hi;exact .any _
  |4,hi=>cases hi;exact .any _
  |5,hi=>cases hi;exact .any _
 refine AF (λa=>St G W S φ h W S φ a [.fn (.func F) caps,.any,.any,.any,.any,.any] h) s λa s=>?_
 refine wp_seq (Ti (k:= .reg [⟨some 2,none,.alloc [.p (.int .i64 0)]⟩]) (by kernel_rfl) s (Q:=λx ts' h'=>x= .normal/\ts'=[.fn (.func F) caps,.any,.ptr h.length 1 0 0,.any,.any,.any]/\h'=h++[.row 1 [[.p (.int .i64 0)]]]) (by simp) ?_)
 rintro x ts' h1 S1 φ1 e a1 W1 ⟨rfl,rfl,rfl⟩ hx s1 K1
 cases hx
 have hsz:a1.tmps.size=6:=s1.trel.size
 have hp2:a1.tmps.getD 2 undef= .pointer (some ⟨(φ1 h.length).1,(φ1 h.length).2,none⟩):=by
  have:=s1.trel.get 2 _ rfl
  generalize a1.tmps.getD 2 undef=x at this
  cases this with
  |ptr _ _ _ _ _=>simp
 obtain⟨cv,hp0,hcv⟩:∃cv:Array Value,a1.tmps.getD 0 undef= .func (.func F) #[] cv/\mh W1 S1 φ1 (h++[.row 1 [[.p (.int .i64 0)]]]:List AO).length caps cv:=by
  have:=s1.trel.get 0 _ rfl
  generalize a1.tmps.getD 0 undef=x at this
  cases this with
  |fn _ _ cv h1 h2=>exact⟨cv,rfl,h1,h2⟩
 have hd:=s1.defers
 generalize hp:(⟨(φ1 h.length).1,(φ1 h.length).2,none⟩:Addr)=p at hp2
 refine wp_seq (wp_region_list ?_)
 refine db (v:= .func (.func bq) #[] #[.pointer (some p)]) (w':=W1) rfl ?_ ?_
 ·have:a1.eval (.tmp 2)= .pointer (some p):=hp2
  simp[execOp,this,Instr.makeFunc]
 refine LP (d:={target:= .fn (.func bq) #[.pointer (some p)],args:=#[]}) (w':=W1) rfl ?_ ?_
 ·have:(a1.put (some 3) (.func (.func bq) #[] #[.pointer (some p)])).eval (.tmp 3)= .func (.func bq) #[] #[.pointer (some p)]:=cL (by rw[hsz];decide)
  simp[execOp,this,resolve,Deferred.ofValue]
 generalize hP:(λ(e:Ending) (W':World)=>∃r S' φ' h',R r h'/\HRel G W' S' φ' h'/\ERel W' S' φ' h'.length r e/\Keep W S φ h W' S' φ' h')=RR
 have fin:∀(W2 W3:World) (S2:Nat->Prop) (φ2:Aw.Place) (h2:List AO) (c:Int),HRel G W2 S2 φ2 h2->Keep W1 S1 φ1 (h++[.row 1 [[.p (.int .i64 0)]]]) W2 S2 φ2 h2->h2[h.length]?=some (.row 1 [[.p (.int .i64 0)]])->
  R (.ret (.p (.int .i64 c))) (h2.set h.length (.row 1 [[.p (.int .i64 c)]]))->W3=W2.setCell p (.int .i64 c)->∀t:Array Value,t.getD 2 undef= .pointer (some p)->Leaves Tryz.prog Tryz.f105 t RR [] .returning W3:=λW2 W3 S2 φ2 h2 c H2 K2 hb hR hw t ht=>by
  subst hw
  have hφ:(⟨(φ2 h.length).1,(φ2 h.length).2,none⟩:Addr)=p:=by rw[K2.same h.length (by simp)];exact hp
  obtain⟨b1,b2,b3⟩:=H2.box_at hb
  obtain⟨b4,b5⟩:=b3 c
  rw[hφ] at b4 b5
  obtain⟨c1,_,_⟩:=b4.box_at (id:=h.length) (x:=c) (by rw[VC (Vx.1 hb).1])
  rw[hφ] at c1
  refine⟨_,Oe c1 ht,?_⟩
  rw[←hP]
  exact⟨_,_,_,_,hR,b4,.ret _ _ (.p _ _ (.int _ _)),s1.keep.trans (K2.trans b5)⟩
 refine AF (λa=>a.tmps.size=6/\a.tmps.getD 2 undef= .pointer (some p)/\a.tmps.getD 0 undef= .func (.func F) #[] cv/\a.defers=[{target:= .fn (.func bq) #[.pointer (some p)],args:=#[]}]) ⟨by simp[Act.put,hsz],?_,?_,by simp[Act.put,hd]⟩ λa2 ⟨hz2,hq2,hq0,hdf⟩=>?_
 ·refine Eq.trans ?_ hp2
  simp[Act.put]
 ·refine Eq.trans ?_ hp0
  simp[Act.put]
 refine wp_seq (wp_region_list ?_)
 refine db (v:= .func (.func F) #[] cv) (w':=W1) rfl ?_ ?_
 ·have:a2.eval (.tmp 0)= .func (.func F) #[] cv:=hq0
  simp[execOp,this]
 refine KU (vs:=#[]++cv) (w':=W1) rfl ?_ (HF.2 W1 S1 φ1 _ s1.hrel (by simpa using hcv)) (λv w2 ⟨r,S2,φ2,h2,⟨c,k1,k2,k3⟩,H2,E2,K2⟩=>?_) (λchain w2 ⟨r,S2,φ2,h2,⟨c,k1,k2,k3⟩,H2,E2,K2⟩=>?_) (λw2 ⟨r,S2,φ2,h2,⟨c,k1,k2,k3⟩,H2,E2,K2⟩=>by cases E2)
 ·have:(a2.put (some 4) (.func (.func F) #[] cv)).eval (.tmp 4)= .func (.func F) #[] cv:=cL (by rw[hz2];decide)
  simp[execOp,this,resolve,Deferred.ofValue,sQ HF.1]
 ·have hb:=H2.box_at k2
  have hφ:(⟨(φ2 h.length).1,(φ2 h.length).2,none⟩:Addr)=p:=by rw[K2.same h.length (by simp)];exact hp
  rw[hφ] at hb
  obtain⟨b1,b2,b3⟩:=hb
  have hv:r= .ret (.tup [])/\c=0:=by
   rcases k1 with h|h
   ·exact h
   ·subst h;cases E2
  obtain⟨_,rfl⟩:=hv
  refine AF (λa=>a.tmps.size=6/\a.tmps.getD 2 undef= .pointer (some p)/\a.defers=[{target:= .fn (.func bq) #[.pointer (some p)],args:=#[]}]) ⟨by simp[Act.put,hz2],?_,by simp[Act.put,hdf]⟩ λa3 ⟨hz3,hr2,hdf3⟩=>?_
  ·refine Eq.trans ?_ hq2
   simp[Act.put]
  refine wp_seq (wp_region_list ?_)
  have hr2':a3.tmps[2]= .pointer (some p):=by simpa[hz3] using hr2
  refine HD (w':=w2.setCell p (.int .i64 0)) rfl (by simp[execOp,Act.eval,hr2',hz3,go_sem,b1,b2]) ?_
  refine wp_ret ?_
  show Leaves _ _ _ _ _ _ _
  have ht:(a3.put none undef).tmps.getD 2 undef= .pointer (some p):=hr2
  have e1:(a3.put none undef).defers=[{target:= .fn (.func bq) #[.pointer (some p)],args:=#[]}]:=hdf3
  rw[e1]
  refine leaves_cons (by simp) (sQ (by kernel_rfl) _ _ _) ((Qz p _).mono λe u' w' hh=>?_)
  obtain⟨rfl,rfl,rfl⟩:=hh
  exact fin w2 _ S2 φ2 h2 0 H2 K2 k2 k3 rfl _ ht
 ·have hb:=H2.box_at k2
  have hφ:(⟨(φ2 h.length).1,(φ2 h.length).2,none⟩:Addr)=p:=by rw[K2.same h.length (by simp)];exact hp
  rw[hφ] at hb
  obtain⟨b1,b2,b3⟩:=hb
  have hv:r= .pan bH (.int .i64 c):=by
   rcases k1 with h|h
   ·obtain⟨h,_⟩:=h;subst h;cases E2
   ·exact h
  subst hv
  have hch:chain=[{v:= .iface bH (.int .i64 c),recovered:=false}]:=by
   cases E2 with
   |pan _ _ x hx=>rw[bA (φ:=φ2) (hp:=0) (.p _ _ hx)]
  subst hch
  show Leaves _ _ _ _ _ _ _
  have ht:(a2.put (some 4) (.func (.func F) #[] cv)).tmps.getD 2 undef= .pointer (some p):=by
   refine Eq.trans ?_ hq2
   simp[Act.put]
  have e1:(a2.put (some 4) (.func (.func F) #[] cv)).defers=[{target:= .fn (.func bq) #[.pointer (some p)],args:=#[]}]:=hdf
  rw[e1]
  refine leaves_cons (by simp) (sQ (by kernel_rfl) _ _ _) ((Qc p 0 c _ b1 b2).mono λe u' w' hh=>?_)
  obtain⟨rfl,rfl,rfl⟩:=hh
  exact fin w2 _ S2 φ2 h2 c H2 K2 k2 k3 rfl _ ht
end
section
def M5(s:S5):Nat:=s.said.length+s.left
def Gs:J5->Prop
 | .ex _ _ s _ s' _=>M5 s'<=M5 s/\s'.left<=s.left
 | .exs _ _ s _ s' _=>M5 s'<=M5 s/\s'.left<=s.left
 | .cal _ _ s s' _=>M5 s'<=M5 s/\s'.left<=s.left
 | .stm _ v s _ v' s' _=>M5 s'<=M5 s+1/\s'.left<=s.left/\(ay v').length+s'.left<=(ay v).length+s.left+1
 | .blk _ v s _ v' s' _=>M5 s'<=M5 s/\s'.left<=s.left/\(ay v').length+s'.left<=(ay v).length+s.left
 | .lp _ v s _ v' s' _=>M5 s'<=M5 s/\s'.left<=s.left/\(ay v').length+s'.left<=(ay v).length+s.left
theorem to(m:Sc5)(v:List Sc5):(ay v).length<=(ay (m::v)).length:=by simp[ay]
theorem mj(v:List Sc5):(ay ([]::v)).length=(ay v).length:=by simp[ay]
theorem HC{s:S5}{F:Nat}(h:s.left=F+1):M5 (s.at_ F)+1=M5 s/\(s.at_ F).left+1=s.left:=by
 simp only[M5,S5.at_]
 omega
theorem IM(s:List UInt8)(n:Int)(v:List Sc5):(ay (gq v s n)).length=(ay v).length:=hZ (yX s n v)
theorem mL{l:List Fd}{j:J5}(h:Ev l j):Gs j:=by
 induction h with
 |num _ _=>exact⟨VM _,VM _⟩
 |var _ _=>exact⟨VM _,VM _⟩
 |call _ _ _ _ _ i1 i2=>exact⟨VR i2.1 i1.1,VR i2.2 i1.2⟩
 |callS _ _ i1=>exact i1
 |firstS _ _ _ _ i1=>exact i1
 |and0 _ _ _ i1=>exact i1
 |and1 _ _ _ _ _ i1 i2=>exact⟨VR i2.1 i1.1,VR i2.2 i1.2⟩
 |andS _ _ _ _ _ i1 i2=>exact⟨VR i2.1 i1.1,VR i2.2 i1.2⟩
 |not _ _ _ i1=>exact i1
 |at_ _ _ _ _ _ i1=>exact i1
 |atS _ _ _ _ i1=>exact i1
 |bin _ _ _ _ _ _ i1 i2=>exact⟨VR i2.1 i1.1,VR i2.2 i1.2⟩
 |binS _ _ _ _ _ i1 i2=>exact⟨VR i2.1 i1.1,VR i2.2 i1.2⟩
 |binD _ _ _ _ _ _ i1 i2=>exact⟨VR i2.1 i1.1,VR i2.2 i1.2⟩
 |nil=>exact⟨VM _,VM _⟩
 |cons _ _ i1 i2=>exact⟨VR i2.1 i1.1,VR i2.2 i1.2⟩
 |consS _ i1=>exact i1
 |consT _ _ i1 i2=>exact⟨VR i2.1 i1.1,VR i2.2 i1.2⟩
 |cal _ _ _ i1=>exact⟨i1.1,i1.2.1⟩
 |bnil=>exact⟨VM _,VM _,VM _⟩
 |bfuel _=>exact⟨VM _,VM _,VM _⟩
 |bgo hl _ _ i1 i2=>
  obtain⟨a,b⟩:=HC hl
  obtain⟨c1,c2,c3⟩:=i1
  obtain⟨d1,d2,d3⟩:=i2
  exact⟨by omega,by omega,by omega⟩
 |bend hl _ _ i1=>
  obtain⟨a,b⟩:=HC hl
  obtain⟨c1,c2,c3⟩:=i1
  exact⟨by omega,by omega,by omega⟩
 |argS _ _ _ i1=>exact⟨by have:=i1.1;omega,i1.2,by have:=i1.2;omega⟩
 |slet _ _ _ hv _ i1=>
  subst hv
  refine⟨by have:=i1.1;omega,i1.2,?_⟩
  have:=i1.2
  simp only[ay,VO,VV,List.length_nil]
  omega
 |sset _ _ _ _ i1=>exact⟨by have:=i1.1;omega,i1.2,by rw[IM];have:=i1.2;omega⟩
 |ssay _ _ _ i1=>
  obtain⟨a,b⟩:=i1
  refine⟨?_,b,?_⟩
  ·simp only[M5,S5.say,VO,VV,List.length_nil] at a⊢;omega
  ·simp only[S5.say];omega
 |sput _ _ _ _ _ i1 i2=>
  obtain⟨a,b⟩:=i1
  obtain⟨c,d⟩:=i2
  refine⟨?_,?_,?_⟩
  ·simp only[M5,S5.put] at a c⊢;omega
  ·simp only[S5.put];omega
  ·simp only[S5.put];omega
 |sputC _ _ _ _ _ i1 i2=>exact⟨by have:=i1.1;have:=i2.1;omega,by have:=i1.2;have:=i2.2;omega,by have:=i1.2;have:=i2.2;omega⟩
 |sputS _ _ _ _ i1 i2=>exact⟨by have:=i1.1;have:=i2.1;omega,by have:=i1.2;have:=i2.2;omega,by have:=i1.2;have:=i2.2;omega⟩
 | @sif k v s x a s1 n m v' s2 q _ _ _ _ i1 i2=>
   obtain⟨a,b⟩:=i1
   obtain⟨c1,c2,c3⟩:=i2
   have:=to m v'
   rw[mj] at c3
   exact⟨by omega,by omega,by omega⟩
 |sloop _ _ i1=>exact⟨by have:=i1.1;omega,i1.2.1,by have:=i1.2.2;omega⟩
 |sback _ _ _ i1=>exact⟨by have:=i1.1;omega,i1.2,by have:=i1.2;omega⟩
 |sdo _ _ _ i1=>exact⟨by have:=i1.1;omega,i1.2,by have:=i1.2;omega⟩
 |lpS _ _ i1=>exact⟨i1.1,i1.2,by have:=i1.2;omega⟩
 |lp0 _ _ i1=>exact⟨i1.1,i1.2,by have:=i1.2;omega⟩
 | @lpEnd k v s x a s1 n m v' s2 q _ _ _ _ _ i1 i2=>
   obtain⟨a,b⟩:=i1
   obtain⟨c1,c2,c3⟩:=i2
   have:=to m v'
   rw[mj] at c3
   exact⟨by omega,by omega,by omega⟩
 | @lpFuel k v s x a s1 n m v' s2 _ _ _ _ _ i1 i2=>
   obtain⟨a,b⟩:=i1
   obtain⟨c1,c2,c3⟩:=i2
   have:=to m v'
   rw[mj] at c3
   exact⟨by omega,by omega,by omega⟩
 | @lpGo k v s x a s1 n m v' s2 F v'' s3 q _ _ _ _ hl _ i1 i2 i3=>
   obtain⟨a,b⟩:=i1
   obtain⟨c1,c2,c3⟩:=i2
   obtain⟨e1,e2⟩:=HC hl
   obtain⟨d1,d2,d3⟩:=i3
   have:=to m v'
   rw[mj] at c3
   exact⟨by omega,by omega,by omega⟩
end
section
section
variable {M:Nat} {l:List Fd} {fuel:Nat} {sv:AV} {sid:Nat} {s s2:S5} {h h':List AO}
theorem MI.neS(H:MI M l fuel sv sid s h)(hs:sv≠ .nils):M≠sid:=by
 intro e
 have h1:=H.men
 have h2:=H.said
 generalize s.said=xs at h2
 cases h2 with
 |nn _ _=>exact hs rfl
 |ss _ _ h2=>rw[e,h2] at h1;simp[jv,bs] at h1
theorem MI.upd(H:MI M l fuel sv sid s h)(h1:s2.said=s.said)(h2:s2.left<=s.left)(h3:s2.cells.length=16):MI M l fuel sv sid s2 (h.set M (jv l fuel sv s2)):=
 ⟨VC H.lt,by rw[h1];exact H.said.frame (by rw[We];exact VM _) λhs=>Vy (H.neS hs),VR h2 H.le,H.fu,h3⟩
end
def WhR(h:List AO)(u:AV)(v:List Sc5)(I:List Nat)(s:List UInt8)(n:Int)(e:Nat):Prop:=
 ∃(m:Nat) (c:Sc5) (w:AV),h[e]?=some (.row 2 [[.mp m,w]])/\h[m]?=some (.mp (mpV c))/\bO c s=some n/\m∈I/\(∀k,Chn (h.set m (.mp (mpV (sset c s k)))) u (gq v s k) I)
theorem pL{m:Sc5}{s:List UInt8}{n:Int}(h:bO m s=some n):(bO m s).isSome=true:=by rw[h];rfl
theorem OD{h:List AO}{e:Nat}{v:List Sc5}{I:List Nat}{s:List UInt8}{n:Int}(H:Chn h (.ptr e 2 0 0) v I)(nd:I.Nodup)(hv:fQ v s=some n):
 ∃(m:Nat) (c:Sc5) (r:List Sc5) (w:AV),v=c::r/\h[e]?=some (.row 2 [[.mp m,w]])/\h[m]?=some (.mp (mpV c))/\
  (∀k,bO c s=some k->WhR h (.ptr e 2 0 0) v I s n e)/\((w= .nilp/\(bO c s).isSome=true)\/∃e2 I2,w= .ptr e2 2 0 0/\Chn h w r I2/\I2.Nodup/\(bO c s=none->fQ r s=some n/\∀e3,WhR h w r I2 s n e3->WhR h (.ptr e 2 0 0) v I s n e3)):=by
 cases H with
 |last _ m c h1 h2=>
  have hm:=(Vx.1 h2).1
  have hne:m≠e:=λq=>by subst q;rw[h1] at h2;cases h2
  have hs:bO c s=some n:=by
   rw[fQ] at hv
   cases hq:bO c s with
   |none=>rw[hq] at hv;cases hv
   |some k=>rw[hq] at hv;exact hv
  refine⟨m,c,[],.nilp,rfl,h1,h2,λk hk=>⟨m,c,.nilp,h1,h2,hs,by simp,λq=>?_⟩,.inl ⟨rfl,pL hs⟩⟩
  rw[gq,if_pos (pL hs)]
  exact .last e m _ (by rw[Vy hne];exact h1) (VC hm)
 |cons _ m c u r I h1 h2 H=>
  have hm:=(Vx.1 h2).1
  have hne:m≠e:=λq=>by subst q;rw[h1] at h2;cases h2
  simp only[Wy,VL,not_or] at nd
  obtain⟨e2,rfl,_,_⟩:=H.is
  refine⟨m,c,r,_,rfl,h1,h2,λk hk=>⟨m,c,_,h1,h2,?_,by simp,λq=>?_⟩,.inr ⟨e2,I,rfl,H,nd.2.2,λhn=>?_⟩⟩
  ·rw[fQ,hk] at hv;rw[hk];exact hv
  ·rw[gq,if_pos (pL hk)]
   exact .cons e m _ _ r I (by rw[Vy hne];exact h1) (VC hm) (H.frame λi hi=>Vy (show m≠i from λq=>nd.2.1 (q▸hi)))
  ·rw[fQ,hn] at hv
   refine⟨hv,λe3 ⟨m',c',w,g1,g2,g3,g4,g5⟩=>⟨m',c',w,g1,g2,g3,by simp[g4],λq=>?_⟩⟩
   have n1:m'≠e:=λq=>nd.1.2 (q▸g4)
   have n2:m'≠m:=λq=>nd.2.1 (q▸g4)
   rw[gq,hn,if_neg (by simp)]
   exact .cons e m c _ _ I (by rw[Vy n1];exact h1) (by rw[Vy n2];exact h2) (g5 q)
variable (G:al)
theorem Md{M:Nat}{l:List Fd}{fuel:Nat}{sv:AV}{sid:Nat}{s:S5}{h:List AO}(H:MI M l fuel sv sid s h):
 AC Tryz.prog G dx [.ptr M 20 0 0] h λx h'=>if s.left=0 then x= .pan bH (.int .i64 3)/\h'=h else x= .ret (.tup [])/\h'=h.set M (jv l fuel sv (s.at_ (s.left-1))):=by
 have hm:=H.men
 have hle:=H.le
 have hfu:=H.fu
 simp only[jv] at hm
 refine AC.go rc ?_
 by_cases h0:s.left=0
 ·simp-implicitDefEqProofs[fC,hm,h0]
  refine(GG G 3 h).mono ?_
  rintro r h1 ⟨rfl,rfl⟩
  simp-implicitDefEqProofs[]
 ·have h1:¬((fuel-s.left:Nat):Int)=(fuel:Int):=by omega
  have h2:IntKind.i64.wrap (((fuel-s.left:Nat):Int)+1)=((fuel-(s.left-1):Nat):Int):=by rw[ab (by omega) (by omega)];omega
  simp-implicitDefEqProofs[fC,hm,h0,h1,h2,jv,S5.at_]
theorem CL{u:AV}{v:List Sc5}{I:List Nat}{h:List AO}(C:Chn h u v I):
 AC Tryz.prog G gM [u] h λx h'=>x= .ret (.ptr (h.length+1) 2 0 0)/\h'=h++[.mp [],.row 2 [[.mp h.length,u]]]:=by
 obtain⟨e,rfl,_,_⟩:=C.is
 refine AC.go Cv ?_
 simp-implicitDefEqProofs[uB]
theorem FU{M:Nat}{l:List Fd}{fuel:Nat}{sv:AV}{sid:Nat}{s:S5}{h:List AO}(H:MI M l fuel sv sid s h)(n:Nat)(hn:n<=255):
 AC Tryz.prog G dz [.ptr M 20 0 0,.p (.int .i64 n)] h λx h'=>if 16<=n then x= .pan bH (.int .i64 2)/\h'=h else x= .ret (.ptr M 20 0 (4+n))/\h'=h:=by
 have hm:=H.men
 simp only[jv] at hm
 refine AC.go ri ?_
 by_cases h0:16<=n
 ·have h1:(16:Int)<=n:=by omega
  simp-implicitDefEqProofs[fw,hm,h0,h1]
  refine(GG G 2 h).mono ?_
  rintro r h1 ⟨rfl,rfl⟩
  simp-implicitDefEqProofs[]
 ·have h1:¬(16:Int)<=n:=by omega
  simp-implicitDefEqProofs[fw,hm,h0,h1]
  omega
structure WhS where (e:Nat) (v:List Sc5) (I:List Nat)
structure WhI (h:List AO) (u:AV) (v:List Sc5) (I:List Nat) (s:List UInt8) (n:Int) (a:WhS):Prop where
 chn:Chn h (.ptr a.e 2 0 0) a.v a.I
 nd:a.I.Nodup
 has:fQ a.v s=some n
 up:∀e,WhR h (.ptr a.e 2 0 0) a.v a.I s n e->WhR h u v I s n e
theorem HZ{u:AV}{v:List Sc5}{I:List Nat}{h:List AO}(C:Chn h u v I)(nd:I.Nodup){s:List UInt8}{n:Int}(hv:fQ v s=some n):
 AC Tryz.prog G fa [u,.p (.str s)] h λx h'=>h'=h/\∃e,x= .ret (.ptr e 2 0 0)/\WhR h u v I s n e:=by
 obtain⟨e0,rfl,_,he0⟩:=C.is
 refine AC.go vC ?_
 simp-implicitDefEqProofs[mZ]
 refine aN (λa:WhS=>ah 28 [(4,.nilp),(0,.ptr a.e 2 0 0),(1,.p (.str s))]) (λ_=>h) (WhI h (.ptr e0 2 0 0) v I s n) (λa=>a.v.length) ⟨e0,v,I⟩ ⟨C,nd,hv,λ_ q=>q⟩ ?_ ?_
 ·exact aY (VM _) (by simp[below];exact he0)
 rintro⟨e,v1,I1⟩ ⟨C1,nd1,hv1,hup⟩
 simp only at C1 nd1 hv1 hup
 obtain⟨m,c,r,w,rfl,g1,g2,g3,g4⟩:=OD C1 nd1 hv1
 rcases g4 with⟨rfl,hs⟩|⟨e2,I2,rfl,C2,nd2,hn⟩
 ·obtain⟨k,hk⟩:=Option.isSome_iff_exists.1 hs
  simp-implicitDefEqProofs[g1]
  exact hup _ (g3 k hk)
 ·have hq:=zm s c
  cases hk:bO c s with
  |some k=>
   rw[hk] at hq
   simp-implicitDefEqProofs[g1,g2,hq]
   exact hup _ (g3 k hk)
  |none=>
   rw[hk] at hq
   obtain⟨k1,k2⟩:=hn hk
   simp-implicitDefEqProofs[g1,g2,hq]
   refine⟨⟨e2,r,I2⟩,⟨C2,nd2,k1,λe q=>hup e (k2 e q)⟩,by simp,aY (VM _) ?_⟩
   obtain⟨_,q,_,q2⟩:=C2.is
   cases q
   simp[below]
   exact q2
end
section
def ar5(o a b:Int):Option Int:=if o=10 then some (tr5 (decide (a≠0/\b≠0))) else Dr o a b
def NK(n:Int):Ex:= .mk 1 n [] []
def isN(e:Ex)(n:Int):Bool:=decide (e.op=1)&&decide (e.n=n)
mutual
def KX:Ex->Bool
 | .mk o _ _ ks=> !decide (o=12)&& !decide (o=13)&&(!(decide (o=6)||decide (o=7))||(match ks with|[_,b]=>decide (b.op=1)&& !decide (b.n=0)|_=>false))&&KH ks
def KH:List Ex->Bool
 |[]=>true
 |e::r=>KX e&&KH r
end
def Sb(o n:Int)(s:List UInt8)(a:Ex):Ex:=
 if a.op=1 then NK (tr5 (decide (a.n=0))) else match a.kids with|[c]=>if a.op=11/\c.op=11 then c else .mk o n s [a]|_=> .mk o n s [a]
def Sg(o n:Int)(s:List UInt8)(a b:Ex):Ex:=
 match(if a.op=1/\b.op=1 then ar5 o a.n b.n else none) with
 |some q=>NK q
 |none=>
  if o=10/\isN a 0=true then NK 0 else if(o=3\/o=4)/\isN b 0=true\/(o=5\/o=6)/\isN b 1=true then a else if o=3/\isN a 0=true\/o=5/\isN a 1=true then b
  else if o=5/\(isN b 0=true/\KX a=true\/isN a 0=true/\KX b=true) then NK 0 else .mk o n s [a,b]
def Sp(o n:Int)(s:List UInt8)(ks:List Ex):Ex:=
 if o=12\/o=13 then .mk o n s ks else match ks with|[a]=>Sb o n s a|[a,b]=>Sg o n s a b|ks=> .mk o n s ks
mutual
def Px:Ex->Ex
 | .mk o n s ks=>Sp o n s (Dd ks)
def Dd:List Ex->List Ex
 |[]=>[]
 |e::r=>Px e::Dd r
end
section
variable {l:List Fd}
end
end
section
theorem Iy:∀l:List Ex,Dd l=l.map Px
 |[]=>rfl
 |e::r=>by rw[Dd,Iy r];rfl
theorem IZ{d:Nat}{e a:Ex}(h:bU (d+1) e=true)(ha:a∈e.kids):bU d a=true:=by
 rw[bU,VS] at h
 exact VH.1 h.2 a ha
theorem GZ{d:Nat}{e:Ex}(h:bU d e=true):lA e=true:=by
 cases d with
 |zero=>cases h
 |succ d=>rw[bU,VS] at h;exact h.1
theorem chkEs_all{fns:List Fd}{k:Nat}{vs:List LV}:∀{l:List Ex},bc fns k vs l 0=0↔∀e∈l,jy fns k vs e 0=0
 |[]=>by simp[bc]
 |e::r=>by
  rw[bc]
  constructor
  ·intro h
   have h0:=ck h
   rw[h0] at h
   intro x hx
   rcases VL.1 hx with rfl|hx
   ·exact h0
   ·exact chkEs_all.1 h x hx
  ·intro h
   rw[h e (by simp)]
   exact chkEs_all.2 λx hx=>h x (by simp[hx])
theorem chkE_iff{fns:List Fd}{k:Nat}{vs:List LV}{o n:Int}{s:List UInt8}{ks:List Ex}:jy fns k vs (.mk o n s ks) 0=0↔fg fns k vs o s ks.length 0=0/\∀a∈ks,jy fns k vs a 0=0:=by
 rw[jy]
 constructor
 ·intro h
  have h0:=ck h
  rw[h0] at h
  exact⟨h0,chkEs_all.1 h⟩
 ·rintro⟨h1,h2⟩
  rw[h1]
  exact chkEs_all.2 h2
section
variable {fns fns':List Fd} (hL:Like fns fns')
include hL
end
end
section
theorem Jl{d:Nat}{e:Ex}(h:bU d e=true):∃c,d=c+1:=by
 cases d with
 |zero=>cases h
 |succ d=>exact⟨d,rfl⟩
theorem Cs{d:Nat}{e:Ex}(h:bU d e=true):loK e.op<=e.kids.length/\e.kids.length<=hiK e.op/\1<=e.op/\e.op<=13:=by
 have h:=GZ h
 simp only[lA,VS,inR,decide_eq_true_eq] at h
 obtain⟨⟨⟨⟨⟨h1,h2⟩,_⟩,_⟩,_⟩,_⟩:=h
 exact⟨by omega,by omega,h1.1,h1.2⟩
section
variable {l:List Fd} {k:Nat} {v:List Sc5} {s s':S5} {r:O5 Int}
end
end
section
def PR(x:Sm)(n:Int):Bool:=match x.args with|a::_=>isN a n|[]=>false
def UB(x:Sm):Bool:=match x.args with|a::_=>decide (a.op=1)|[]=>false
def SO(x:Sm):Bool:=decide (x.op=6)&&PR x 0
mutual
def KW:Sm->Sm
 | .mk o s a bd el=> .mk o s a
   (if o=5/\PR (.mk o s a bd el) 0=true then[] else HO bd)
   (if o=5/\PR (.mk o s a bd el) 0=false/\UB (.mk o s a bd el)=true then[] else HO el)
def HO:List Sm->List Sm
 |[]=>[]
 |s::r=>if SO s=true then HO r else KW s::(if s.op=7 then[] else HO r)
end
section
variable {l:List Fd} {k:Nat} {v v':List Sc5} {s s':S5} {x:Sm} {r:O5 (Option Int)}
end
end
section
variable (G:al)
theorem iK(b:Bool):VF Tryz.prog G dD [.p (.bool b)] (.p (.int .i64 (tr5 b))):=by
 refine AC.go zR ?_
 cases b<;>simp-implicitDefEqProofs[oQ,tr5]
def Dv:Option Int->AV
 |some q=> .tup [.p (.int .i64 q),.p (.int .i64 0)]
 |none=> .tup [.p (.int .i64 0),.p (.int .i64 1)]
theorem HE(o a b:Int)(ho:3<=o)(h9:o<=9)(ha:V5 a)(hb:V5 b):VF Tryz.prog G nG [.p (.int .i64 o),.p (.int .i64 a),.p (.int .i64 b)] (Dv (Dr o a b)):=by
 obtain⟨a0,a1⟩:=ha
 obtain⟨b0,b1⟩:=hb
 refine AC.go DF ?_
 have hm:a*b<=65025:=by
  have h1:=Int.mul_le_mul_of_nonneg_right a1 b0
  omega
 have hm0:0<=a*b:=Int.mul_nonneg a0 b0
 have ho':o=3\/o=4\/o=5\/o=6\/o=7\/o=8\/o=9:=by omega
 rcases ho' with rfl|rfl|rfl|rfl|rfl|rfl|rfl
 all_goals simp-implicitDefEqProofs[ug,Dr]
 ·rw[ab (by omega) (by omega),Int.tmod_eq_emod_of_nonneg (by omega)];rfl
 ·have hw:IntKind.i64.wrap (a-b)=a-b:=ab (by omega) (by omega)
  rw[hw,ab (by omega) (by omega),Int.tmod_eq_emod_of_nonneg (by omega)]
  have:(a-b+256)%256=(a-b)%256:=by omega
  rw[this];rfl
 ·rw[ab (by omega) (by omega),Int.tmod_eq_emod_of_nonneg (by omega)];rfl
 ·refine bh (λh=>?_) (λh=>?_)
  ·simp at h
   simp-implicitDefEqProofs[h,Dv]
  ·simp at h
   simp-implicitDefEqProofs[h,Dv]
   rw[Int.tdiv_eq_ediv_of_nonneg (by omega)]
   have h1:a/b<=a:=Int.ediv_le_self b a0
   have h2:0<=a/b:=Int.ediv_nonneg a0 b0
   exact ab (by omega) (by omega)
 ·refine bh (λh=>?_) (λh=>?_)
  ·simp at h
   simp-implicitDefEqProofs[h,Dv]
  ·simp at h
   simp-implicitDefEqProofs[h,Dv]
   rw[Int.tmod_eq_emod_of_nonneg (by omega)]
 ·refine(iK G _).use ?_
  simp-implicitDefEqProofs[Dv]
 ·refine(iK G _).use ?_
  simp-implicitDefEqProofs[Dv]
end
section
def Byt(l:List Int):Prop:=∀n∈l,0<=n/\n<=255
def rdO(b:List Int)(p:Nat):AO:= .row 2 [[.p (sZ b),.p (.int .i64 p)]]
theorem JI{a b:Int}(ha:0<=a)(ha2:a<4611686018427387904)(hb:0<=b)(hb2:b<4611686018427387904):∃n:Nat,IntKind.i64.wrap ((BitVec.ofInt IntKind.i64.bits a^^^BitVec.ofInt IntKind.i64.bits b).toNat:Int)=n:=by
 refine⟨(BitVec.ofInt IntKind.i64.bits a^^^BitVec.ofInt IntKind.i64.bits b).toNat,?_⟩
 obtain⟨x,rfl⟩:∃x:Nat,a=x:=⟨a.toNat,by omega⟩
 obtain⟨y,rfl⟩:∃y:Nat,b=y:=⟨b.toNat,by omega⟩
 have h1:(BitVec.ofInt 64 (x:Int)).toNat=x:=by simp;omega
 have h2:(BitVec.ofInt 64 (y:Int)).toNat=y:=by simp;omega
 have h3:(BitVec.ofInt 64 (x:Int)^^^BitVec.ofInt 64 (y:Int)).toNat<2^63:=by
  rw[BitVec.toNat_xor,h1,h2]
  exact Nat.xor_lt_two_pow (by omega) (by omega)
 have h4:(BitVec.ofInt IntKind.i64.bits (x:Int)^^^BitVec.ofInt IntKind.i64.bits (y:Int)).toNat<2^63:=h3
 exact ab (by omega) (by omega)
theorem Hc{a:Nat}{n:Int}(hn:1<=n):∃k:Nat,((a:Int).tmod n)=k/\(k:Int)<n:=by
 obtain⟨m,rfl⟩:∃m:Nat,n=m:=⟨n.toNat,by omega⟩
 refine⟨a%m,?_,?_⟩
 ·rfl
 ·have:a%m<m:=Nat.mod_lt _ (by omega)
  omega
variable (G:al)
theorem Rb(l:List Int):AC Tryz.prog G kO [.p (sZ l)] [] λx h=>x= .ret (.ptr 0 2 0 0)/\h=[rdO (l.take 2000) 0]:=by
 refine AC.go Be ?_
 have hbl:sZ l= .lst 1 (l.map λn=>[.int .u8 n]):=rfl
 simp-implicitDefEqProofs[oV,hbl]
 refine bh (λh=>?_) (λh=>?_)
 ·simp at h
  have:2000<=l.length:=by omega
  simp-implicitDefEqProofs[this,rdO,sZ,List.map_take]
 ·simp at h
  have:l.take 2000=l:=VE (by omega)
  simp-implicitDefEqProofs[rdO,this,sZ]
theorem Mw(b:List Int)(hb:Byt b)(hl:b.length<=2000)(p:Nat)(hp:p<=1099511627776)(n:Int):AC Tryz.prog G aT [.ptr 0 2 0 0,.p (.int .i64 n)] [rdO b p] λx h=>∃k:Nat,x= .ret (.p (.int .i64 k))/\h=[rdO b (p+1)]/\((k:Int)<n\/k=0):=by
 refine AC.go uu ?_
 have hbl:sZ b= .lst 1 (b.map λn=>[.int .u8 n]):=rfl
 have hw:IntKind.i64.wrap ((p:Int)+1)=((p+1:Nat):Int):=w1 (by omega)
 by_cases hn:n<1
 ·simp-implicitDefEqProofs[eA,rdO,hbl,hw,hn]
  exact⟨0,rfl,.inr rfl⟩
 by_cases hbn:b=[]
 ·subst hbn
  have hb0:sZ []= .lst 1 []:=rfl
  simp-implicitDefEqProofs[eA,rdO,hb0,hw,hn]
  exact⟨0,rfl,.inr rfl⟩
 have hpos:0<b.length:=List.length_pos_iff.2 hbn
 have hlb:¬b.length=0:=by omega
 have hn0:¬n=0:=by omega
 have hw2:IntKind.i64.wrap (p:Int)=(p:Int):=ab (by omega) (by omega)
 have at_:∀q:Nat,∃c:Int,b[q%b.length]?=some c/\0<=c/\c<=255:=λq=>by
  have h:=Nat.mod_lt q hpos
  exact⟨_,VA h,hb _ (VT h)⟩
 simp-implicitDefEqProofs[eA,rdO,hbl,hw,hn,hbn,hw2]
 refine bh (λh1=>?_) (λh1=>?_)
 ·simp at h1
  obtain⟨c,e1,e2,e3⟩:=at_ p
  rw[Nat.mod_eq_of_lt h1] at e1
  obtain⟨d,rfl⟩:∃d:Nat,c=d:=⟨c.toNat,by omega⟩
  obtain⟨k,q1,q2⟩:=Hc (a:=d) (n:=n) (by omega)
  have hw3:IntKind.i64.wrap (d:Int)=d:=ab (by omega) (by omega)
  simp-implicitDefEqProofs[e1,hw3,hn0,q1]
  exact⟨k,rfl,.inl q2⟩
 ·simp at h1
  obtain⟨c1,e1,e2,e3⟩:=at_ p
  obtain⟨c2,f1,f2,f3⟩:=at_ (p*7+3)
  have hq:p/b.length<=p:=Nat.div_le_self _ _
  have ht1:(p:Int).tmod (b.length:Int)=((p%b.length:Nat):Int):=rfl
  have ht2:((p:Int)*7+3).tmod (b.length:Int)=(((p*7+3)%b.length:Nat):Int):=rfl
  have ht3:(p:Int).tdiv (b.length:Int)=((p/b.length:Nat):Int):=rfl
  generalize p/b.length=q at hq ht3
  generalize p%b.length=r1 at e1 ht1
  generalize (p*7+3)%b.length=r2 at f1 ht2
  obtain⟨x1,rfl⟩:∃d:Nat,c1=d:=⟨c1.toNat,by omega⟩
  obtain⟨x2,rfl⟩:∃d:Nat,c2=d:=⟨c2.toNat,by omega⟩
  obtain⟨m,hx⟩:=JI (a:=x1*131+x2*1117+p*29+q*53) (b:=(x1*131+x2*1117+p*29+q*53)/64) (by omega) (by omega) (by omega) (by omega)
  obtain⟨k,q1,q2⟩:=Hc (a:=m) (n:=n) (by omega)
  have ht4:((x1:Int)*131+x2*1117+p*29+q*53).tdiv 64=((x1:Int)*131+x2*1117+p*29+q*53)/64:=Int.tdiv_eq_ediv_of_nonneg (by omega)
  have w1:IntKind.i64.wrap ((p:Int)*7)=(p:Int)*7:=ab (by omega) (by omega)
  have w2:IntKind.i64.wrap ((p:Int)*7+3)=(p:Int)*7+3:=ab (by omega) (by omega)
  have w3:IntKind.i64.wrap ((p:Int)*29)=(p:Int)*29:=ab (by omega) (by omega)
  have w4:IntKind.i64.wrap (x1:Int)=x1:=ab (by omega) (by omega)
  have w5:IntKind.i64.wrap (x2:Int)=x2:=ab (by omega) (by omega)
  have w6:IntKind.i64.wrap ((x1:Int)*131)=(x1:Int)*131:=ab (by omega) (by omega)
  have w7:IntKind.i64.wrap ((x2:Int)*1117)=(x2:Int)*1117:=ab (by omega) (by omega)
  have w8:IntKind.i64.wrap ((x1:Int)*131+x2*1117)=(x1:Int)*131+x2*1117:=ab (by omega) (by omega)
  have w9:IntKind.i64.wrap ((x1:Int)*131+x2*1117+p*29)=(x1:Int)*131+x2*1117+p*29:=ab (by omega) (by omega)
  have w10:IntKind.i64.wrap (q:Int)=q:=ab (by omega) (by omega)
  have w11:IntKind.i64.wrap ((q:Int)*53)=(q:Int)*53:=ab (by omega) (by omega)
  have w12:IntKind.i64.wrap ((x1:Int)*131+x2*1117+p*29+q*53)=(x1:Int)*131+x2*1117+p*29+q*53:=ab (by omega) (by omega)
  have w13:IntKind.i64.wrap (((x1:Int)*131+x2*1117+p*29+q*53)/64)=((x1:Int)*131+x2*1117+p*29+q*53)/64:=ab (by omega) (by omega)
  simp-implicitDefEqProofs[hlb,ht1,ht2,ht3,e1,f1,w1,w2,w3,w4,w5,w6,w7,w8,w9,w10,w11,w12,w13,ht4,hx,hn0,q1]
  simp-implicitDefEqProofs[] at hx
  rw[hx]
  exact⟨k,q1,.inl q2⟩
theorem aW(b:List Int)(p n:Nat):okO n (rdO b p):=by simp[okO,rdO]
theorem aP(b:List Int)(hb:Byt b)(hl:b.length<=2000)(p:Nat)(hp:p<=1099511627776)(n:Int)(rest:List AO):AC Tryz.prog G aT [.ptr 0 2 0 0,.p (.int .i64 n)] (rdO b p::rest) λx h=>∃k:Nat,x= .ret (.p (.int .i64 k))/\h=rdO b (p+1)::rest/\((k:Int)<n\/k=0):=by
 refine((Mw G b hb hl p hp n).pre rest (by simp[below]) (λo ho=>by rw[VK.1 ho];exact aW _ _ _) ?_).mono ?_
 ·rintro x h ⟨k,_,rfl,_⟩;rfl
 ·rintro x h ⟨h1,⟨k,e1,rfl,e3⟩,rfl⟩
  exact⟨k,e1,rfl,e3⟩
theorem Ps{f:FuncId}{args:List AV}{b:List Int}{p:Nat}{o:AO}{R:AV->Nat->Prop}(H:AC Tryz.prog G f (.ptr 0 2 0 0::args) [rdO b p,o] λx h=>∃v q,x= .ret (.p v)/\h=[rdO b q,o]/\R (.p v) q)(ho:okO 0 o)
 {h:List AO}{k:Nat}{args':List AV}(hk:k≠0)(h0:h[0]?=some (rdO b p))(h1:h[k]?=some o)(hT:TW [0,k] args' args):AC Tryz.prog G f (.ptr 0 2 0 0::args') h λx h'=>∃v q,x= .ret (.p v)/\h'=h.set 0 (rdO b q)/\R (.p v) q:=by
 have nd:[0,k].Nodup:=by simp;omega
 refine(H.frame (args:= .ptr 0 2 0 0::args') [0,k] nd (by rw[zg];exact⟨.inr ⟨by simp[below],rfl⟩,hT⟩) (bJ h0 (aW _ _ _) (bJ h1 ho bL))).mono ?_
 rintro x h' ⟨x0,h2,⟨v,q,rfl,rfl,r⟩,_,rfl,rfl⟩
 refine⟨v,q,by simp[BA,ren],?_,r⟩
 have e1:∀σ,ib σ (rdO b q)=rdO b q:=λσ=>tY (n:=0) (λi hi=>by omega) _ (aW _ _ _)
 have e2:∀σ,ib σ o=o:=λσ=>tY (n:=0) (λi hi=>by omega) _ ho
 simp only[List.take,VV,List.length_nil,VY,List.map_nil,e1,e2,mrg,List.drop,Ws]
 refine List.ext_getElem? λi=>?_
 rw[List.getElem?_set]
 split
 ·rename_i e;subst e
  rw[Vy (Ne.symm hk)]
  split
  ·exact h1.symm
  ·rename_i hl
   have:=(Vx.1 h1).1
   simp at hl;omega
 ·rfl
theorem Qy(b:List Int)(hb:Byt b)(hl:b.length<=2000)(p:Nat)(hp:p<=1099511627776)(l:List Int)(hne:l≠[])(hll:l.length<=1099511627776):AC Tryz.prog G cG [.ptr 0 2 0 0,.sl 1 1 0 l.length] [rdO b p,gE l] λx h=>∃v q,x= .ret (.p v)/\h=[rdO b q,gE l]/\(∃n,v= .int .i64 n/\n∈l)/\q=p+1:=by
 refine AC.go ni ?_
 have hpos:0<l.length:=List.length_pos_iff.2 hne
 simp-implicitDefEqProofs[iZ]
 refine(aP G b hb hl p hp l.length [gE l]).mono ?_
 rintro r h ⟨k,rfl,rfl,hk⟩
 have hkl:k<l.length:=by omega
 have hg:=VA hkl
 have hn:gE l= .row 1 (l.map λn=>[.p (.int .i64 n)]):=rfl
 simp-implicitDefEqProofs[aa,hkl,hn,hg]
theorem jY{b:List Int}(hb:Byt b)(hl:b.length<=2000){p:Nat}(hp:p<=1099511627776)(l:List Int){h:List AO}{k:Nat}(hne:l≠[])(hll:l.length<=1099511627776)(hk:k≠0)(h0:h[0]?=some (rdO b p))(h1:h[k]?=some (gE l)):
 AC Tryz.prog G cG [.ptr 0 2 0 0,.sl k 1 0 l.length] h λx h'=>∃n,n∈l/\x= .ret (.p (.int .i64 n))/\h'=h.set 0 (rdO b (p+1)):=by
 refine(Ps G (args:=[.sl 1 1 0 l.length]) (R:=λv q=>(∃n,v= .p (.int .i64 n)/\n∈l)/\q=p+1) ((Qy G b hb hl p hp l hne hll).mono ?_) (by simp[okO,gE]) (args':=[.sl k 1 0 l.length]) hk h0 h1 (by simp[below,ren])).mono ?_
 ·rintro x h ⟨v,q,e1,e2,⟨n,rfl,e3⟩,e4⟩
  exact⟨_,q,e1,e2,⟨n,rfl,e3⟩,e4⟩
 ·rintro x h' ⟨v,q,e1,e2,⟨n,e3,e4⟩,e5⟩
  cases e3;subst e5
  exact⟨n,e4,e1,e2⟩
theorem Si(b:List Int)(hb:Byt b)(hl:b.length<=2000)(p:Nat)(hp:p<=1099511627776)(l:List (List UInt8))(hne:l≠[])(hll:l.length<=1099511627776):AC Tryz.prog G cX [.ptr 0 2 0 0,.sl 1 1 0 l.length] [rdO b p,cJ l] λx h=>∃v q,x= .ret (.p v)/\h=[rdO b q,cJ l]/\(∃s,v= .str s/\s∈l)/\q=p+1:=by
 refine AC.go nT ?_
 have hpos:0<l.length:=List.length_pos_iff.2 hne
 simp-implicitDefEqProofs[jE]
 refine(aP G b hb hl p hp l.length [cJ l]).mono ?_
 rintro r h ⟨k,rfl,rfl,hk⟩
 have hkl:k<l.length:=by omega
 have hg:=VA hkl
 have hn:cJ l= .row 1 (l.map λn=>[.p (.str n)]):=rfl
 simp-implicitDefEqProofs[aa,hkl,hn,hg]
theorem En{b:List Int}(hb:Byt b)(hl:b.length<=2000){p:Nat}(hp:p<=1099511627776)(l:List (List UInt8)){h:List AO}{k:Nat}(hne:l≠[])(hll:l.length<=1099511627776)(hk:k≠0)(h0:h[0]?=some (rdO b p))(h1:h[k]?=some (cJ l)):
 AC Tryz.prog G cX [.ptr 0 2 0 0,.sl k 1 0 l.length] h λx h'=>∃s,s∈l/\x= .ret (.p (.str s))/\h'=h.set 0 (rdO b (p+1)):=by
 refine(Ps G (args:=[.sl 1 1 0 l.length]) (R:=λv q=>(∃n,v= .p (.str n)/\n∈l)/\q=p+1) ((Si G b hb hl p hp l hne hll).mono ?_) (by simp[okO,cJ]) (args':=[.sl k 1 0 l.length]) hk h0 h1 (by simp[below,ren])).mono ?_
 ·rintro x h ⟨v,q,e1,e2,⟨n,rfl,e3⟩,e4⟩
  exact⟨_,q,e1,e2,⟨n,rfl,e3⟩,e4⟩
 ·rintro x h' ⟨v,q,e1,e2,⟨n,e3,e4⟩,e5⟩
  cases e3;subst e5
  exact⟨n,e4,e1,e2⟩
theorem Hk{b:List Int}(hb:Byt b)(hl:b.length<=2000){p:Nat}(hp:p<=1099511627776)(l:List (List UInt8))(hne:l≠[])(hll:l.length<=1099511627776)(rest:List AO):AC Tryz.prog G cX [.ptr 0 2 0 0,.p (am l)] (rdO b p::rest) λx h=>∃s,s∈l/\x= .ret (.p (.str s))/\h=rdO b (p+1)::rest:=by
 have key:AC Tryz.prog G cX [.ptr 0 2 0 0,.p (am l)] [rdO b p] λx h=>∃s,s∈l/\x= .ret (.p (.str s))/\h=[rdO b (p+1)]:=by
  refine AC.go nT ?_
  have hpos:0<l.length:=List.length_pos_iff.2 hne
  have hsl:am l= .lst 1 (l.map λw=>[.str w]):=rfl
  simp-implicitDefEqProofs[jE,hsl]
  refine(aP G b hb hl p hp l.length []).mono ?_
  rintro r h ⟨k,rfl,rfl,hk⟩
  have hkl:k<l.length:=by omega
  have hg:=VA hkl
  simp-implicitDefEqProofs[aa,hg]
 refine(key.pre rest (by simp[below]) (λo ho=>by rw[VK.1 ho];exact aW _ _ _) ?_).mono ?_
 ·rintro x h ⟨k,_,_,rfl⟩;rfl
 ·rintro x h ⟨h1,⟨s,e1,e2,rfl⟩,rfl⟩
  exact⟨s,e1,e2,rfl⟩
def DP(b:List Int)(Q:AV->Nat->Prop)(x:ARes)(h:List AO):Prop:=∃v rest q v1,x= .ret v/\h=rdO b q::rest/\Fzs (.dead::rest) 1 [v] [v1]/\Q v1 q
theorem lM{f:FuncId}{args:List AV}{b:List Int}{p:Nat}{Q:AV->Nat->Prop}(H:AC Tryz.prog G f args [rdO b p] (DP b Q)):AC Tryz.prog G f args [rdO b p] λx h=>∃v q,x= .ret v/\h=[rdO b q]/\Q v q:=by
 refine H.frz 1 (VM _) (λt v h ⟨_,_,_,_,e,_⟩=>by cases e) ?_
 rintro v h ⟨v0,rest,q,v1,e,rfl,hf,r⟩
 cases e
 exact⟨v1,[rdO b q],by simp,rfl,hf,.same (aW _ _ _) (.nil _),v1,q,rfl,rfl,r⟩
theorem jL{f:FuncId}{args:List AV}{b:List Int}{p:Nat}{Q:AV->Nat->Prop}(H:AC Tryz.prog G f args [rdO b p] λx h=>∃v q,x= .ret v/\h=[rdO b q]/\Q v q)(rest:List AO)(ha:af 1 args):AC Tryz.prog G f args (rdO b p::rest) λx h=>∃v q,x= .ret v/\h=rdO b q::rest/\Q v q:=by
 refine(H.pre rest ha (λo ho=>by rw[VK.1 ho];exact aW _ _ _) ?_).mono ?_
 ·rintro x h ⟨k,_,_,rfl,_⟩;rfl
 ·rintro x h ⟨h1,⟨s,q,e1,rfl,e2⟩,rfl⟩
  exact⟨s,q,e1,rfl,e2⟩
end
section
def uX(l:List (List UInt8)):Prop:=l.length<=1000000/\∀s∈l,s.length<=8
theorem dW{h:List AO}{id:Nat}{l:List Ex}(e:h[id]?=some (.row 4 (l.map λx=>x.cs.map .p))):View h (.sl id 4 0 l.length) (exL l):=by
 have:=jw (h:=h) (id:=id) (sz:=4) (n:=l.length) (ls:=l.map Ex.cs) (by rw[e];simp) (by simp) (λx hx=>by obtain⟨b,_,rfl⟩:=VW.1 hx;exact b.cs_len)
 exact this
variable (G:al)
def ExQ(p n m:Nat)(v:AV)(q:Nat):Prop:=(∃e:Ex,v= .agg (e.cs.map .p)/\e.sz<=n)/\p<=q/\q<=p+m
theorem zP{b:List Int}(hb:Byt b)(hl:b.length<=2000){p:Nat}(hp:p<=1000000000000)(names:List (List UInt8))(hn:uX names):AC Tryz.prog G dp [.ptr 0 2 0 0,.p (am names)] [rdO b p] λx h=>∃v q,x= .ret v/\h=[rdO b q]/\ExQ p 9 2 v q:=by
 refine lM G (AC.go rU ?_)
 have hsl:am names= .lst 1 (names.map λw=>[.str w]):=rfl
 have fin1:∀(o n:Int) (s:List UInt8) (q:Nat) (rest:List AO),p<=q->q<=p+2->s.length<=8->DP b (ExQ p 9 2) (.ret (.agg [.p (.int .i64 o),.p (.int .i64 n),.p (.str s),.nils])) (rdO b q::rest):=λo n s q rest h1 h2 hs=>
  ⟨_,rest,q,.agg ((Ex.mk o n s []).cs.map .p),rfl,rfl,.agg (.keep (by simp) (.keep (by simp) (.keep (by simp) (.one (View.nils 4) .nil)))) .nil,⟨_,rfl,by simp[Ex.sz,aX];omega⟩,h1,h2⟩
 have num:∀(q:Nat) (h:List AO),q<=1000000000001->h[0]?=some (rdO b q)->h[2]?=some (gE [0,1,2,3,5,7,15,16,100,255])->_:=λq h hq h0 h1=>jY G hb hl (p:=q) (by omega) [0,1,2,3,5,7,15,16,100,255] (h:=h) (k:=2) (by simp) (by simp) (by omega) h0 h1
 by_cases hne:names=[]
 ·subst hne
  have hs0:am []= .lst 1 []:=rfl
  simp-implicitDefEqProofs[fS,hs0]
  refine(num p _ (by omega) rfl rfl).mono ?_
  rintro r h ⟨n,_,rfl,rfl⟩
  simp-implicitDefEqProofs[aa]
  exact fin1 _ _ _ _ _ (by omega) (by omega) (by simp)
 ·have hlen:¬names.length=0:=λh=>hne (Wp h)
  simp-implicitDefEqProofs[fS,hsl,hne]
  refine(aP G b hb hl p (by omega) 3 _).mono ?_
  rintro r h ⟨k,rfl,rfl,_⟩
  simp-implicitDefEqProofs[aa]
  refine bh (λhc=>?_) (λhc=>?_)
  ·simp-implicitDefEqProofs[]
   refine(num (p+1) _ (by omega) rfl rfl).mono ?_
   rintro r h ⟨n,_,rfl,rfl⟩
   simp-implicitDefEqProofs[aa]
   exact fin1 _ _ _ _ _ (by omega) (by omega) (by simp)
  ·simp-implicitDefEqProofs[]
   rw[←hsl]
   refine(Hk G hb hl (by omega) names hne (by have:=hn.1;omega) _).mono ?_
   rintro r h ⟨s,hs,rfl,rfl⟩
   have:=hn.2 s hs
   simp-implicitDefEqProofs[aa]
   exact fin1 _ _ _ _ _ (by omega) (by omega) this
theorem zK{b:List Int}(hb:Byt b)(hl:b.length<=2000)(names:List (List UInt8))(hn:uX names):∀(d:Nat),d<=20->∀{p:Nat},p+6*3^d<=1000000000000->AC Tryz.prog G aU [.ptr 0 2 0 0,.p (am names),.p (.int .i64 d)] [rdO b p] λx h=>∃v q,x= .ret v/\h=[rdO b q]/\ExQ p (10*3^d) (6*3^d) v q:=by
 intro d
 induction d with
 |zero=>
  intro _ p hp
  refine lM G (AC.go mz ?_)
  simp-implicitDefEqProofs[ee]
  refine(jL G (zP G hb hl (by omega) names hn) _ (by simp[below])).mono ?_
  rintro r h ⟨v,q,rfl,rfl,⟨e,rfl,he⟩,h1,h2⟩
  have hec:=e.cs_eq
  simp-implicitDefEqProofs[aa,hec]
  exact⟨_,_,q,.agg (e.cs.map .p),rfl,rfl,.agg (by rw[hec];exact gQ (by simp)) .nil,⟨e,rfl,by omega⟩,h1,by omega⟩
 |succ d ih=>
  intro hd p hp
  have hpow:3^(d+1)=3*3^d:=by rw[Nat.pow_succ];omega
  have h1p:1<=3^d:=Nat.one_le_pow _ _ (by omega)
  have ih:=λ{p:Nat} (hp:p+6*3^d<=1000000000000)=>ih (by omega) (p:=p) hp
  rw[hpow] at hp⊢
  generalize 3^d=t at*
  have hw:IntKind.i64.wrap (d:Int)=(d:Int):=ab (by omega) (by omega)
  have leaf:∀(q:Nat) (rest:List AO),p<=q->q<=p+3->AC Tryz.prog G dp [.ptr 0 2 0 0,.p (am names)] (rdO b q::rest) λx h=>∃v q',x= .ret v/\h=rdO b q'::rest/\ExQ q 9 2 v q':=λq rest _ _=>jL G (zP G hb hl (by omega) names hn) rest (by simp[below])
  have sub:∀(q:Nat) (rest:List AO),p<=q->q<=p+6+6*t->AC Tryz.prog G aU [.ptr 0 2 0 0,.p (am names),.p (.int .i64 d)] (rdO b q::rest) λx h=>∃v q',x= .ret v/\h=rdO b q'::rest/\ExQ q (10*t) (6*t) v q':=λq rest _ _=>jL G (ih (by omega)) rest (by simp[below])
  refine lM G (AC.go mz ?_)
  have leafCase:∀(e:Ex) (q:Nat) (rest:List AO),e.sz<=9->p<=q->q<=p+5->DP b (ExQ p (10*(3*t)) (6*(3*t))) (.ret (.agg (e.cs.map .p))) (rdO b q::rest):=λe q rest h1 h2 h3=>
   ⟨_,_,q,.agg (e.cs.map .p),rfl,rfl,.agg (by rw[e.cs_eq];exact gQ (by simp)) .nil,⟨e,rfl,by omega⟩,h2,by omega⟩
  have bin:∀(o:Int) (e1 e2:Ex) (q:Nat) (rest:List AO) (k:Nat),(rdO b q::rest)[k+1]?=some (.row 4 [e1.cs.map .p,e2.cs.map .p])->e1.sz<=10*t->e2.sz<=10*t->p<=q->q<=p+6*(3*t)->DP b (ExQ p (10*(3*t)) (6*(3*t))) (.ret (.agg [.p (.int .i64 o),.p (.int .i64 0),.p (.str []),.sl (k+1) 4 0 2])) (rdO b q::rest):=λo e1 e2 q rest k hk h1 h2 h3 h4=>
   ⟨_,rest,q,.agg ((Ex.mk o 0 [] [e1,e2]).cs.map .p),rfl,rfl,.agg (.keep (by simp) (.keep (by simp) (.keep (by simp) (.one (dW (l:=[e1,e2]) (by simpa using hk)) .nil)))) .nil,⟨_,rfl,by simp[Ex.sz,aX];omega⟩,h3,h4⟩
  have una:∀(o:Int) (e1:Ex) (q:Nat) (rest:List AO) (k:Nat),(rdO b q::rest)[k+1]?=some (.row 4 [e1.cs.map .p])->e1.sz<=10*t->p<=q->q<=p+6*(3*t)->DP b (ExQ p (10*(3*t)) (6*(3*t))) (.ret (.agg [.p (.int .i64 o),.p (.int .i64 0),.p (.str []),.sl (k+1) 4 0 1])) (rdO b q::rest):=λo e1 q rest k hk h1 h3 h4=>
   ⟨_,rest,q,.agg ((Ex.mk o 0 [] [e1]).cs.map .p),rfl,rfl,.agg (.keep (by simp) (.keep (by simp) (.keep (by simp) (.one (dW (l:=[e1]) (by simpa using hk)) .nil)))) .nil,⟨_,rfl,by simp[Ex.sz,aX];omega⟩,h3,h4⟩
  by_cases hd0:d=0
  ·subst hd0
   simp-implicitDefEqProofs[ee]
   refine(leaf p _ (by omega) (by omega)).mono ?_
   rintro r h ⟨v,q,rfl,rfl,⟨e,rfl,he⟩,h1,h2⟩
   have hec:=e.cs_eq
   simp-implicitDefEqProofs[aa,hec]
   have:=leafCase e q [.row 4 [e.cs.map .p]] he h1 (by omega)
   rw[hec] at this
   exact this
  have hd2:¬(d:Int)+1<2:=by omega
  simp-implicitDefEqProofs[ee,hd2]
  refine(aP G b hb hl p (by omega) 4 _).mono ?_
  rintro r h ⟨k1,rfl,rfl,_⟩
  simp-implicitDefEqProofs[aa]
  refine bh (λhc=>?_) (λhc=>?_)
  ·simp-implicitDefEqProofs[]
   refine(leaf (p+1) _ (by omega) (by omega)).mono ?_
   rintro r h ⟨v,q,rfl,rfl,⟨e,rfl,he⟩,h1,h2⟩
   have hec:=e.cs_eq
   simp-implicitDefEqProofs[aa,hec]
   have:=leafCase e q [.row 4 [e.cs.map .p]] he (by omega) (by omega)
   rw[hec] at this
   exact this
  simp-implicitDefEqProofs[]
  refine(aP G b hb hl (p+1) (by omega) 7 _).mono ?_
  rintro r h ⟨k2,rfl,rfl,_⟩
  simp-implicitDefEqProofs[aa]
  refine bh (λhc=>?_) (λhc=>?_)
  ·simp-implicitDefEqProofs[]
   refine(jY G hb hl (p:=p+2) (by omega) [11,12,11] (k:=2) (by simp) (by simp) (by omega) rfl rfl).mono ?_
   rintro r h ⟨n,_,rfl,rfl⟩
   simp-implicitDefEqProofs[aa,hw]
   refine(sub (p+3) _ (by omega) (by omega)).mono ?_
   rintro r h ⟨v,q,rfl,rfl,⟨e,rfl,he⟩,h1,h2⟩
   have hec:=e.cs_eq
   simp-implicitDefEqProofs[aa,hec]
   exact una n e q _ 2 (by rw[hec];rfl) he (by omega) (by omega)
  ·simp-implicitDefEqProofs[]
   refine(jY G hb hl (p:=p+2) (by omega) [3,3,4,5,6,7,8,9,10] (k:=2) (by simp) (by simp) (by omega) rfl rfl).mono ?_
   rintro r h ⟨n,_,rfl,rfl⟩
   simp-implicitDefEqProofs[aa,hw]
   refine(sub (p+3) _ (by omega) (by omega)).mono ?_
   rintro r h ⟨v,q,rfl,rfl,⟨e,rfl,he⟩,h1,h2⟩
   have hec:=e.cs_eq
   simp-implicitDefEqProofs[aa,hec,hw]
   refine(sub q _ (by omega) (by omega)).mono ?_
   rintro r h ⟨v,q2,rfl,rfl,⟨e2,rfl,he2⟩,h3,h4⟩
   have hec2:=e2.cs_eq
   simp-implicitDefEqProofs[aa,hec2]
   exact bin n e e2 q2 _ 2 (by rw[hec,hec2];rfl) he he2 (by omega) (by omega)
end
section
def cx(fns:List Fd)(vs:List (List UInt8))(next left:Int):List AV:=[.ptr 0 2 0 0,slE 2 3 (aQ fns),.p (am vs),.p (.int .i64 next),.p (.int .i64 left)]
def HG(b:List Int)(p:Nat)(fns:List Fd)(vs:List (List UInt8))(next left:Int):List AO:=[rdO b p,.row 5 [cx fns vs next left],bR 3 (aQ fns)]
def DG(b:List Int)(fns:List Fd)(Q:AV->Nat->List (List UInt8)->Int->Int->Prop)(x:ARes)(h:List AO):Prop:=
 ∃v rest q vc v1 vs next left,x= .ret v/\h=rdO b q:: .row 5 [[.ptr 0 2 0 0,slE 2 3 (aQ fns),vc,.p (.int .i64 next),.p (.int .i64 left)]]::bR 3 (aQ fns)::rest/\
  Fzs (.dead:: .dead:: .dead::rest) 3 [vc] [.p (am vs)]/\Fzs (.dead:: .dead:: .dead::rest) 3 [v] [v1]/\Q v1 q vs next left
def PG(b:List Int)(fns:List Fd)(Q:AV->Nat->List (List UInt8)->Int->Int->Prop)(rest:List AO)(x:ARes)(h:List AO):Prop:=
 ∃v q vs next left,x= .ret v/\h=rdO b q:: .row 5 [cx fns vs next left]::bR 3 (aQ fns)::rest/\Q v q vs next left
variable (G:al)
theorem ml{f:FuncId}{args:List AV}{b:List Int}{p:Nat}{fns:List Fd}{vs:List (List UInt8)}{next left:Int}{Q:AV->Nat->List (List UInt8)->Int->Int->Prop}(H:AC Tryz.prog G f args (HG b p fns vs next left) (DG b fns Q)):
 AC Tryz.prog G f args (HG b p fns vs next left) (PG b fns Q []):=by
 refine H.frz 3 (by simp[HG]) (λt v h ⟨_,_,_,_,_,_,_,_,e,_⟩=>by cases e) ?_
 rintro v h ⟨v0,rest,q,vc,v1,vs',n',l',e,rfl,hc,hf,r⟩
 cases e
 refine⟨v1,HG b q fns vs' n' l',by simp,rfl,hf,.same (aW _ _ _) (.one ?_ (.same (lY _ _) (.nil _))),v1,q,vs',n',l',rfl,rfl,r⟩
 exact .keep (by simp[below]) (.keep (pz (by omega)) (hc.append (.keep (by simp) (.keep (by simp) .nil))))
theorem Mx(b:List Int)(p:Nat)(fns:List Fd)(vs:List (List UInt8))(next left:Int):∀o∈HG b p fns vs next left,okO 3 o:=by
 intro o ho
 simp only[HG,VL,Wa,or_false] at ho
 rcases ho with rfl|rfl|rfl
 ·exact aW _ _ _
 ·intro e he
  rw[VK.1 he]
  exact⟨by simp[below],pz (by omega),by simp,by simp,by simp,trivial⟩
 ·exact lY _ _
theorem cU{f:FuncId}{args:List AV}{b:List Int}{p:Nat}{fns:List Fd}{vs:List (List UInt8)}{next left:Int}{Q:AV->Nat->List (List UInt8)->Int->Int->Prop}(H:AC Tryz.prog G f args (HG b p fns vs next left) (PG b fns Q []))(rest:List AO)(ha:af 3 args):
 AC Tryz.prog G f args (rdO b p:: .row 5 [cx fns vs next left]::bR 3 (aQ fns)::rest) (PG b fns Q rest):=by
 refine(AC.pre H rest ha (Mx _ _ _ _ _ _) ?_).mono ?_
 ·rintro x h ⟨v,q,vs',n',l',_,rfl,_⟩;rfl
 ·rintro x h ⟨h1,⟨v,q,vs',n',l',e1,rfl,e2⟩,rfl⟩
  exact⟨v,q,vs',n',l',e1,rfl,e2⟩
def Ss(p:Nat)(vs:List (List UInt8))(next left:Int)(v:AV)(q:Nat)(vs':List (List UInt8))(next' left':Int):Prop:=(∃s:List UInt8,v= .p (.str s)/\s.length<=8)/\p<=q/\q<=p+2/\vs'=vs/\next'=next+1/\left'=left
theorem Ig{b:List Int}(hb:Byt b)(hl:b.length<=2000){p:Nat}(hp:p+2<=1000000000000)(fns:List Fd)(vs:List (List UInt8))(hv:uX vs){next:Int}(hn: -1<=next)(hn2:next<=1000000000000)(left:Int):
 AC Tryz.prog G gr [.ptr 1 5 0 0] (HG b p fns vs next left) (PG b fns (Ss p vs next left) []):=by
 refine ml G (AC.go sL ?_)
 have hw:IntKind.i64.wrap (next+1)=next+1:=ab (by omega) (by omega)
 have hsl:am vs= .lst 1 (vs.map λw=>[.str w]):=rfl
 simp-implicitDefEqProofs[kI,HG,cx,hw]
 refine(aP G b hb hl p (by omega) 9 _).mono ?_
 rintro r h ⟨k,rfl,rfl,_⟩
 have fin:∀(s:List UInt8) (q:Nat),s.length<=8->p<=q->q<=p+2->DG b fns (Ss p vs next left) (.ret (.p (.str s))) [rdO b q,.row 5 [[.ptr 0 2 0 0,slE 2 3 (aQ fns),.p (am vs),.p (.int .i64 (next+1)),.p (.int .i64 left)]],bR 3 (aQ fns)]:=λs q h1 h2 h3=>
  ⟨_,[],q,_,_,vs,next+1,left,rfl,rfl,.keep (by simp) .nil,.keep (by simp) .nil,⟨s,rfl,h1⟩,h2,h3,rfl,rfl,rfl⟩
 obtain⟨N,hN⟩:∃N:Nat,next+1=N:=⟨(next+1).toNat,by omega⟩
 have hm:N%24<24:=Nat.mod_lt _ (by omega)
 have ht:(N:Int).tmod 24=((N%24:Nat):Int):=rfl
 have hw2:IntKind.i64.wrap (((N%24:Nat):Int)+1)=((N%24+1:Nat):Int):=w1 (by omega)
 rw[hN] at fin⊢
 generalize N%24=m at hm ht hw2
 have hm1:m+1<=24:=by omega
 have h0m:(0:Int)<=(m:Int)+1:=by omega
 by_cases hc:k=0/\vs≠[]
 ·obtain⟨rfl,hne⟩:=hc
  have hpos:0<vs.length:=List.length_pos_iff.2 hne
  simp-implicitDefEqProofs[aa,hsl,hpos]
  rw[←hsl]
  refine(Hk G hb hl (by omega) vs hne (by have:=hv.1;omega) _).mono ?_
  rintro r h ⟨s,hs,rfl,rfl⟩
  simp-implicitDefEqProofs[aa]
  exact fin s _ (hv.2 s hs) (by omega) (by omega)
 ·have hcc:(k=0/\0<vs.length)=False:=by
   simp only[eq_iff_iff,iff_false]
   exact λ⟨a,c⟩=>hc ⟨a,List.length_pos_iff.1 c⟩
  by_cases hk:k=0
  ·have hv0:vs=[]:=by
    by_cases e:vs=[]
    ·exact e
    ·exact absurd ⟨hk,e⟩ hc
   subst hv0
   have hs0:am []= .lst 1 []:=rfl
   simp-implicitDefEqProofs[aa,hs0,hk,ht,hw2,hm1,h0m]
   rw[←hs0]
   refine fin _ (p+1) ?_ (by omega) (by omega)
   simp
   omega
  ·simp-implicitDefEqProofs[aa,hk,ht,hw2,hm1,h0m]
   refine fin _ (p+1) ?_ (by omega) (by omega)
   simp
   omega
def Ak(fns:List Fd):Prop:=fns.length<=1000/\∀f∈fns,f.name.length<=8/\f.params.length<=3
def Tg(p:Nat)(vs:List (List UInt8))(next left:Int)(v:AV)(q:Nat)(vs':List (List UInt8))(next' left':Int):Prop:=(∃e:Ex,v= .agg (e.cs.map .p)/\e.sz<=400)/\p<=q/\q<=p+400/\vs'=vs/\next'=next/\left'=left
theorem CW{b:List Int}(hb:Byt b)(hl:b.length<=2000){p:Nat}(hp:p<=1000000000000)(l:List Int)(hne:l≠[])(hll:l.length<=1000000000000)(rest:List AO):
 AC Tryz.prog G cG [.ptr 0 2 0 0,.p (bu l)] (rdO b p::rest) λx h=>∃n,n∈l/\x= .ret (.p (.int .i64 n))/\h=rdO b (p+1)::rest:=by
 have key:AC Tryz.prog G cG [.ptr 0 2 0 0,.p (bu l)] [rdO b p] λx h=>∃n,n∈l/\x= .ret (.p (.int .i64 n))/\h=[rdO b (p+1)]:=by
  refine AC.go ni ?_
  have hpos:0<l.length:=List.length_pos_iff.2 hne
  have hnl:bu l= .lst 1 (l.map λn=>[.int .i64 n]):=rfl
  simp-implicitDefEqProofs[iZ,hnl]
  refine(aP G b hb hl p (by omega) l.length []).mono ?_
  rintro r h ⟨m,rfl,rfl,hm⟩
  have hml:m<l.length:=by omega
  have hg:=VA hml
  simp-implicitDefEqProofs[aa,hg]
 refine(key.pre rest (by simp[below]) (λo ho=>by rw[VK.1 ho];exact aW _ _ _) ?_).mono ?_
 ·rintro x h ⟨n,_,_,rfl⟩;rfl
 ·rintro x h ⟨h1,⟨n,e1,e2,rfl⟩,rfl⟩
  exact⟨n,e1,e2,rfl⟩
structure ExS where (es:List Ex) (q:Nat)
theorem mv{b:List Int}(hb:Byt b)(hl:b.length<=2000){p:Nat}(hp:p+1000<=1000000000000)(fns:List Fd)(hf:Ak fns)(vs:List (List UInt8))(hv:uX vs)(next left:Int){d:Nat}(hd:d<=3):
 AC Tryz.prog G gO [.ptr 1 5 0 0,.p (.int .i64 d)] (HG b p fns vs next left) (PG b fns (Tg p vs next left) []):=by
 refine ml G (AC.go tW ?_)
 have hpow:3^d<=27:=by
  have:3^d<=3^3:=Nat.pow_le_pow_right (by omega) hd
  omega
 have sub:∀(k:Nat),k<=3->∀(q:Nat) (rest:List AO),p<=q->q<=p+700->AC Tryz.prog G aU [.ptr 0 2 0 0,.p (am vs),.p (.int .i64 k)] (rdO b q::rest) λx h=>∃v q',x= .ret v/\h=rdO b q'::rest/\ExQ q (10*3^k) (6*3^k) v q':=λk hk q rest _ _=>by
  have:3^k<=3^3:=Nat.pow_le_pow_right (by omega) hk
  exact jL G (zK G hb hl vs hv k (by omega) (by omega)) rest (by simp[below])
 simp-implicitDefEqProofs[mt,HG,cx]
 refine(sub d hd p _ (by omega) (by omega)).mono ?_
 rintro r h ⟨v,q0,rfl,rfl,⟨e0,rfl,he0⟩,hq1,hq2⟩
 have hec:=e0.cs_eq
 simp-implicitDefEqProofs[aa,hec]
 have finE:∀(e:Ex) (q:Nat) (rest:List AO) (v:AV),Fzs (.dead:: .dead:: .dead::rest) 3 [v] [.agg (e.cs.map .p)]->e.sz<=400->p<=q->q<=p+400->DG b fns (Tg p vs next left) (.ret v) (rdO b q:: .row 5 [[.ptr 0 2 0 0,slE 2 3 (aQ fns),.p (am vs),.p (.int .i64 next),.p (.int .i64 left)]]::bR 3 (aQ fns)::rest):=λe q rest v hz h1 h2 h3=>
  ⟨_,rest,q,_,_,vs,next,left,rfl,rfl,.keep (by simp) .nil,hz,⟨e,rfl,h1⟩,h2,h3,rfl,rfl,rfl⟩
 have fz0:∀rest,Fzs (.dead:: .dead:: .dead::rest) 3 [.agg [.p (.int .i64 e0.op),.p (.int .i64 e0.n),.p (.str e0.name),.p (exL e0.kids)]] [.agg (e0.cs.map .p)]:=λrest=> .agg (by rw[hec];exact gQ (by simp)) .nil
 by_cases hfe:fns=[]
 ·have h0:aQ fns=[]:=by rw[hfe];rfl
  simp-implicitDefEqProofs[h0]
  rw[←h0]
  have:=finE e0 q0 [.row 4 [[.p (.int .i64 e0.op),.p (.int .i64 e0.n),.p (.str e0.name),.p (exL e0.kids)]],.row 4 [[.p (.int .i64 e0.op),.p (.int .i64 e0.n),.p (.str e0.name),.p (exL e0.kids)]]] _ (fz0 _) (by omega) (by omega) (by omega)
  rw[h0] at this⊢
  exact this
 have hfr:¬aQ fns=[]:=λh=>hfe (List.map_eq_nil_iff.1 h)
 have hfl:(aQ fns).length=fns.length:=by simp[aQ]
 have hfp:0<fns.length:=List.length_pos_iff.2 hfe
 simp only[ew hfr,dh hfr,hfl] at finE
 rw[show bR 3 (aQ fns)= .row 3 (aQ fns) from ew hfr,show slE 2 3 (aQ fns)= .sl 2 3 0 (aQ fns).length from dh hfr,hfl]
 generalize hR:aQ fns=R at*
 simp-implicitDefEqProofs[hfr]
 refine(aP G b hb hl q0 (by omega) 4 _).mono ?_
 rintro r h ⟨k1,rfl,rfl,_⟩
 simp-implicitDefEqProofs[aa]
 refine bh (λhc=>?_) (λhc=>?_)
 ·simp-implicitDefEqProofs[]
  exact finE e0 _ _ _ (fz0 _) (by omega) (by omega) (by omega)
 simp-implicitDefEqProofs[hfl]
 refine(aP G b hb hl (q0+1) (by omega) fns.length _).mono ?_
 rintro r h ⟨k2,rfl,rfl,hk2⟩
 have hk:k2<fns.length:=by omega
 have hg:=VA hk
 have hgr:R[k2]?=some (fns[k2].cs.map .p):=by rw[←hR,aQ,VN,hg];rfl
 have hfo:=hf.2 _ (VT hk)
 generalize fns[k2]=fd at hg hgr hfo
 have hfc:fd.cs=[.str fd.name,am fd.params,smL fd.body]:=rfl
 have hsp:am fd.params= .lst 1 (fd.params.map λw=>[.str w]):=rfl
 clear hfl hg
 simp-implicitDefEqProofs[aa,hgr,hk,hfc]
 have hexn:∀(es:List Ex) (e:Ex),exR (es++[e])=exR es++[e.cs.map .p]:=λes e=>by simp[exR]
 have hRp:∀x∈R,af 0 x:=by rw[←hR];exact pG fns
 refine aN (λs:ExS=>ah 99 [(8,.p (.int .i64 s.es.length)),(7,.ptr 6 4 0 0),(6,.ptr 5 3 0 0),(4,.ptr 3 4 0 0),(0,.ptr 1 5 0 0)])
  (λs=>[rdO b s.q,.row 5 [[.ptr 0 2 0 0,.sl 2 3 0 fns.length,.p (am vs),.p (.int .i64 next),.p (.int .i64 left)]],.row 3 R,.row 4 [[.p (.int .i64 0),.p (.int .i64 0),.p (.str []),.nils]],
    .row 4 [[.p (.int .i64 e0.op),.p (.int .i64 e0.n),.p (.str e0.name),.p (exL e0.kids)]],.row 3 [[.p (.str fd.name),.p (am fd.params),.p (smL fd.body)]],.row 4 [[.p (.int .i64 13),.p (.int .i64 0),.p (.str fd.name),slE 7 4 (exR s.es)]],bR 4 (exR s.es)])
  (λs=>s.es.length<=fd.params.length/\aX s.es<=90*s.es.length/\q0<=s.q/\s.q<=q0+2+54*s.es.length) (λs=>fd.params.length-s.es.length) ⟨[],q0+1+1⟩ ⟨by simp,by simp[aX],by simp only;omega,by simp⟩
  (oo (by simp) (by simp) (by
    intro o h
    simp only[VL,Wa,or_false] at h
    rcases h with rfl|rfl|rfl|rfl|rfl|rfl|rfl
    ·exact aW _ _ _
    ·simp[okO,below]
    ·exact eq (λe he=>hRp e he)
    ·simp[okO,below]
    ·simp[okO,below]
    ·simp[okO,below]
    ·simp[okO,below]) (by simp[below])) ?_
 rintro⟨es,q⟩ ⟨h1,h2,h3,h4⟩
 simp only at h1 h2 h3 h4
 simp-implicitDefEqProofs[hsp]
 refine bh (λhc=>?_) (λhc=>?_)
 ·simp at hc
  have hp3:=hfo.2
  simp-implicitDefEqProofs[]
  refine(sub 2 (by omega) q _ (by omega) (by omega)).mono ?_
  rintro r h ⟨v,q2,rfl,rfl,⟨e,rfl,he⟩,hq3,hq4⟩
  have hec:=e.cs_eq
  simp-implicitDefEqProofs[aa,hec]
  have hxl:(exR es).length=es.length:=by simp[exR]
  refine⟨by rw[hxl];omega,⟨es++[e],q2⟩,⟨by simp;omega,by rw[eM];simp[aX];omega,by simp only;omega,by simp;omega⟩,by simp;omega,?_⟩
  rw[hexn,CJ _ (by simp),zE _ (by simp),hec]
  refine cZ [0,1,2,3,4,5,6,8] (by simp) (by decide) (by decide) (bJ rfl (aW _ _ _) (bW (by simp[below]) (by simp[ren,bg]) (bf rfl hRp (bf rfl (by simp[below]) (bf rfl (by simp[below]) (bf rfl (by simp[below]) (bW (by simp[below]) (by simp[ren,bg]) (bf rfl (λx hx=>by
   rcases VJ.1 hx with h|h
   ·exact dU _ x h
   ·rw[VK.1 h];simp) bL)))))))) ?_
  simp[below,ren,w1 (i:=es.length) (by omega)]
 ·simp at hc
  have hp3:=hfo.2
  have hlen:es.length=fd.params.length:=by omega
  have hxl:(exR es).length=es.length:=by simp[exR]
  have hkids:∀(h:List AO),h[7]?=some (bR 4 (exR es))->View h (slE 7 4 (exR es)) (exL es):=λh hh=>gH hh
  simp-implicitDefEqProofs[]
  refine(aP G b hb hl q (by omega) 2 _).mono ?_
  rintro r h ⟨k3,rfl,rfl,_⟩
  simp-implicitDefEqProofs[aa]
  refine bh (λhc2=>?_) (λhc2=>?_)
  ·simp-implicitDefEqProofs[]
   have hcc:(Ex.mk 13 0 fd.name es).cs=[.int .i64 13,.int .i64 0,.str fd.name,exL es]:=Ex.cs_eq _
   exact finE ⟨13,0,fd.name,es⟩ (q+1) _ _ (.agg (by rw[hcc];exact .keep (by simp) (.keep (by simp) (.keep (by simp) (.one (hkids _ rfl) .nil)))) .nil) (by simp[Ex.sz];omega) (by omega) (by omega)
  ·simp-implicitDefEqProofs[]
   refine(CW G hb hl (p:=q+1) (by omega) [3,4,8,10] (by simp) (by simp) _).mono ?_
   rintro r h ⟨n,_,rfl,rfl⟩
   simp-implicitDefEqProofs[aa]
   refine(sub 2 (by omega) (q+1+1) _ (by omega) (by omega)).mono ?_
   rintro r h ⟨v,q2,rfl,rfl,⟨e,rfl,he⟩,hq3,hq4⟩
   have hec:=e.cs_eq
   simp-implicitDefEqProofs[aa,hec]
   have hcc:(Ex.mk 13 0 fd.name es).cs=[.int .i64 13,.int .i64 0,.str fd.name,exL es]:=Ex.cs_eq _
   exact finE ⟨n,0,[],[⟨13,0,fd.name,es⟩,e]⟩ q2 _ _ (.agg (.keep (by simp) (.keep (by simp) (.keep (by simp) (.one (tg (p0:=(Ex.mk 13 0 fd.name es).cs) (p1:=e.cs) rfl (Ex.cs_len _) (Ex.cs_len _) (λj q a e1 e2=>by
    rw[hcc] at e1
    match j,e1,e2 with
    |0,e1,e2=>cases e1;cases e2;exact .p _
    |1,e1,e2=>cases e1;cases e2;exact .p _
    |2,e1,e2=>cases e1;cases e2;exact .p _
    |3,e1,e2=>cases e1;cases e2;exact hkids _ rfl
    |j+4,e1,e2=>simp at e1) (λj q a e1 e2=>by
    rw[hec] at e1
    match j,e1,e2 with
    |0,e1,e2=>cases e1;cases e2;exact .p _
    |1,e1,e2=>cases e1;cases e2;exact .p _
    |2,e1,e2=>cases e1;cases e2;exact .p _
    |3,e1,e2=>cases e1;cases e2;exact .p _
    |j+4,e1,e2=>simp at e1)) .nil)))) .nil) (by simp[Ex.sz,aX];omega) (by omega) (by omega)
end
section
variable (G:al)
def Vf(p:Nat)(vs:List (List UInt8))(next left:Int)(v:AV)(q:Nat)(vs':List (List UInt8))(next' left':Int):Prop:=(∃e:Ex,v= .agg (e.cs.map .p)/\e.sz<=410)/\p<=q/\q<=p+401/\vs'=vs/\next'=next/\left'=left
theorem Kd{b:List Int}(hb:Byt b)(hl:b.length<=2000){p:Nat}(hp:p+2000<=1000000000000)(fns:List Fd)(hf:Ak fns)(vs:List (List UInt8))(hv:uX vs)(next left:Int):
 AC Tryz.prog G eE [.ptr 1 5 0 0] (HG b p fns vs next left) (PG b fns (Vf p vs next left) []):=by
 refine ml G (AC.go tn ?_)
 simp-implicitDefEqProofs[lT,HG,cx]
 refine(cU G (mv G hb hl (p:=p) (by omega) fns hf vs hv next left (d:=2) (by omega)) _ (by simp[below])).mono ?_
 rintro r h ⟨v,q,vs',n',l',rfl,rfl,⟨e,rfl,he⟩,h1,h2,rfl,rfl,rfl⟩
 have hec:=e.cs_eq
 simp-implicitDefEqProofs[aa,cx,hec]
 refine(CW G hb hl (p:=q) (by omega) [16,16,16,8,17,0] (by simp) (by simp) _).mono ?_
 rintro r h ⟨n,_,rfl,rfl⟩
 simp-implicitDefEqProofs[aa]
 have hn:(Ex.mk 1 n [] []).cs=[.int .i64 1,.int .i64 n,.str [],.lst 4 []]:=Ex.cs_eq _
 refine⟨_,[_,_],q+1,_,.agg ((Ex.mk 7 0 [] [e,⟨1,n,[],[]⟩]).cs.map .p),vs',n',l',rfl,rfl,.keep (by simp) .nil,.agg (.keep (by simp) (.keep (by simp) (.keep (by simp) (.one (tg (p0:=e.cs) (p1:=(Ex.mk 1 n [] []).cs) rfl (Ex.cs_len _) (Ex.cs_len _) (λj q a e1 e2=>?_) (λj q a e1 e2=>?_)) .nil)))) .nil,⟨_,rfl,by simp[Ex.sz,aX];omega⟩,by omega,by omega,rfl,rfl,rfl⟩
 ·rw[hec] at e1
  match j,e1,e2 with
  |0,e1,e2=>cases e1;cases e2;exact .p _
  |1,e1,e2=>cases e1;cases e2;exact .p _
  |2,e1,e2=>cases e1;cases e2;exact .p _
  |3,e1,e2=>cases e1;cases e2;exact .p _
  |j+4,e1,e2=>simp at e1
 ·rw[hn] at e1
  match j,e1,e2 with
  |0,e1,e2=>cases e1;cases e2;exact .p _
  |1,e1,e2=>cases e1;cases e2;exact .p _
  |2,e1,e2=>cases e1;cases e2;exact .p _
  |3,e1,e2=>cases e1;cases e2;exact View.nils 4
  |j+4,e1,e2=>simp at e1
def So(p:Nat)(e:Ex)(vs:List (List UInt8))(next left:Int)(v:AV)(q:Nat)(vs':List (List UInt8))(next' left':Int):Prop:=
 ∃s:List UInt8,s.length<=8/\v= .agg ((Sm.mk 1 s [e] [] []).cs.map .p)/\p<=q/\q<=p+2/\vs'=vs++[s]/\next'=next+1/\left'=left
theorem Po{b:List Int}(hb:Byt b)(hl:b.length<=2000){p:Nat}(hp:p+2<=1000000000000)(fns:List Fd)(vs:List (List UInt8))(hv:uX vs){next:Int}(hn: -1<=next)(hn2:next<=1000000000000)(left:Int)(e:Ex):
 AC Tryz.prog G dH [.ptr 1 5 0 0,.agg (e.cs.map .p)] (HG b p fns vs next left) (PG b fns (So p e vs next left) []):=by
 refine ml G (AC.go mV ?_)
 have hec:=e.cs_eq
 simp-implicitDefEqProofs[iO,HG,cx,hec]
 refine(cU G (Ig G hb hl hp fns vs hv hn hn2 left) _ (by simp[below])).mono ?_
 rintro r h ⟨v,q,vs',n',l',rfl,rfl,⟨s,rfl,hs⟩,h1,h2,rfl,rfl,rfl⟩
 have hsl:am vs'= .lst 1 (vs'.map λw=>[.str w]):=rfl
 simp-implicitDefEqProofs[aa,cx,hsl]
 have hv1:=hv.1
 have hrow:List.take vs'.length (List.map ((λx=>List.map AV.p x)∘λw=>[PV.str w]) vs')++[[AV.p (PV.str s)]]=(vs'++[s]).map λw=>[AV.p (.str w)]:=by
  rw[VE (by simp)];simp[Function.comp_def]
 have hlen:vs'.length+1=(vs'++[s]).length:=by simp
 refine⟨by omega,by omega,?_⟩
 rw[hrow,hlen]
 have hsm:(Sm.mk 1 s [e] [] []).cs=[.int .i64 1,.str s,exL [e],smL [],smL []]:=Sm.cs_eq _
 refine⟨_,_,q,_,.agg ((Sm.mk 1 s [e] [] []).cs.map .p),vs'++[s],next+1,l',rfl,rfl,.one (gB rfl) .nil,.agg ?_ .nil,⟨s,hs,rfl,h1,h2,rfl,rfl,rfl⟩⟩
 rw[hsm]
 refine .keep (by simp) (.keep (by simp) (.one ?_ (.one (View.nils 5) (.one (View.nils 5) .nil))))
 exact dW (l:=[e]) (by rw[WE,hec];rfl)
theorem PU{b:List Int}(hb:Byt b)(hl:b.length<=2000){p:Nat}(hp:p+2<=1000000000000)(fns:List Fd)(vs:List (List UInt8))(hv:uX vs){next:Int}(hn: -1<=next)(hn2:next<=1000000000000)(left:Int)(N:Int):
 AC Tryz.prog G dH [.ptr 1 5 0 0,.agg [.p (.int .i64 1),.p (.int .i64 N),.p (.str []),.nils]] (HG b p fns vs next left) (PG b fns (So p ⟨1,N,[],[]⟩ vs next left) []):=by
 refine ml G (AC.go mV ?_)
 simp-implicitDefEqProofs[iO,HG,cx]
 refine(cU G (Ig G hb hl hp fns vs hv hn hn2 left) _ (by simp[below])).mono ?_
 rintro r h ⟨v,q,vs',n',l',rfl,rfl,⟨s,rfl,hs⟩,h1,h2,rfl,rfl,rfl⟩
 have hsl:am vs'= .lst 1 (vs'.map λw=>[.str w]):=rfl
 simp-implicitDefEqProofs[aa,cx,hsl]
 have hv1:=hv.1
 have hrow:List.take vs'.length (List.map ((λx=>List.map AV.p x)∘λw=>[PV.str w]) vs')++[[AV.p (PV.str s)]]=(vs'++[s]).map λw=>[AV.p (.str w)]:=by
  rw[VE (by simp)];simp[Function.comp_def]
 have hlen:vs'.length+1=(vs'++[s]).length:=by simp
 refine⟨by omega,by omega,?_⟩
 rw[hrow,hlen]
 have hsm:(Sm.mk 1 s [⟨1,N,[],[]⟩] [] []).cs=[.int .i64 1,.str s,exL [⟨1,N,[],[]⟩],smL [],smL []]:=Sm.cs_eq _
 refine⟨_,_,q,_,.agg ((Sm.mk 1 s [⟨1,N,[],[]⟩] [] []).cs.map .p),vs'++[s],next+1,l',rfl,rfl,.one (gB rfl) .nil,.agg ?_ .nil,⟨s,hs,rfl,h1,h2,rfl,rfl,rfl⟩⟩
 rw[hsm]
 refine .keep (by simp) (.keep (by simp) (.one ?_ (.one (View.nils 5) (.one (View.nils 5) .nil))))
 refine View.sl _ _ _ _ [(Ex.mk 1 N [] []).cs] rfl (by simp) (by simp) λi j e q e' a a1 a2 a3 a4=>?_
 rw[WC] at a3
 match i,a1,a3 with
 |0,a1,a3=>
  cases a1;cases a3
  have hn:(Ex.mk 1 N [] []).cs=[.int .i64 1,.int .i64 N,.str [],.lst 4 []]:=Ex.cs_eq _
  rw[hn] at a2
  match j,a2,a4 with
  |0,e1,e2=>cases e1;cases e2;exact .p _
  |1,e1,e2=>cases e1;cases e2;exact .p _
  |2,e1,e2=>cases e1;cases e2;exact .p _
  |3,e1,e2=>cases e1;cases e2;exact View.nils 4
  |j+4,e1,e2=>simp at e1
 |i+1,a1,a3=>simp at a1
end
section
def Pd(d:Nat):Nat:=5000*20^d
structure Bd (n:Nat) (p:Nat) (vs:List (List UInt8)) (next left:Int):Prop where
 p:p+n<=100000000000
 v:vs.length+n/50<=900000
 w:∀s∈vs,s.length<=8
 n0: -1<=next
 n1:next+n<=100000000000
 l0: -100000000000<=left-n
 l1:left<=100000000000
theorem Bd.shrt{n p:Nat}{vs:List (List UInt8)}{next left:Int}(h:Bd n p vs next left):uX vs:=⟨by have:=h.v;omega,h.w⟩
def Mv(n p q:Nat)(next next' left left':Int):Prop:=p<=q/\q<=p+n/\next<=next'/\next'<=next+n/\left-n<=left'/\left'<=left
def Ov(b:List Int)(fns:List Fd)(vs:List (List UInt8))(p n:Nat)(next left:Int)(rest:List AO)(x:ARes)(h:List AO):Prop:=
 ∃(out:List Sm) (q:Nat) (next' left':Int),x= .ret (.sl (3+rest.length) 5 0 out.length)/\h=rdO b q:: .row 5 [cx fns vs next' left']::bR 3 (aQ fns)::rest++[.row 5 (smR out)]/\aC out<=n/\out.length<=100/\Mv n p q next next' left left'
def Je(G:al)(b:List Int)(fns:List Fd)(d:Nat):Prop:=∀{p:Nat} {vs:List (List UInt8)} {next left:Int},Bd (Pd d) p vs next left->AC Tryz.prog G aZ [.ptr 1 5 0 0,.p (.int .i64 d)] (HG b p fns vs next left) (Ov b fns vs p (Pd d) next left [])
variable (G:al)
theorem tV{b:List Int}{fns:List Fd}{d p:Nat}{vs:List (List UInt8)}{next left:Int}(H:AC Tryz.prog G aZ [.ptr 1 5 0 0,.p (.int .i64 d)] (HG b p fns vs next left) (Ov b fns vs p (Pd d) next left []))(rest:List AO):
 AC Tryz.prog G aZ [.ptr 1 5 0 0,.p (.int .i64 d)] (rdO b p:: .row 5 [cx fns vs next left]::bR 3 (aQ fns)::rest) (Ov b fns vs p (Pd d) next left rest):=by
 have H2:AC Tryz.prog G aZ [.ptr 1 5 0 0,.p (.int .i64 d)] (HG b p fns vs next left) λx h'=>∃h1 es,h'=h1++[.row 5 es]/\h1.length=(HG b p fns vs next left).length/\x= .ret (.sl (HG b p fns vs next left).length 5 0 es.length)/\(∀e∈es,af 0 e)/\
  (∃(out:List Sm) (q:Nat) (next' left':Int),es=smR out/\h1=HG b q fns vs next' left'/\aC out<=Pd d/\out.length<=100/\Mv (Pd d) p q next next' left left'):=by
  refine H.mono ?_
  rintro x h ⟨out,q,n',l',rfl,rfl,h1,h2,h3⟩
  exact⟨HG b q fns vs n' l',smR out,rfl,rfl,by simp[HG,fY],dX out,out,q,n',l',rfl,rfl,h1,h2,h3⟩
 refine(AC.pre1 (R:=λh1 es=>∃(out:List Sm) (q:Nat) (next' left':Int),es=smR out/\h1=HG b q fns vs next' left'/\aC out<=Pd d/\out.length<=100/\Mv (Pd d) p q next next' left left') H2 rest (by simp[below,HG]) (Mx _ _ _ _ _ _) ?_).mono ?_
 ·rintro h1 es ⟨out,q,n',l',rfl,rfl,_⟩
  exact Mx _ _ _ _ _ _
 ·rintro x h ⟨h1,es,rfl,_,rfl,_,out,q,n',l',rfl,rfl,r⟩
  exact⟨out,q,n',l',by simp[HG,fY],rfl,r⟩
theorem tj:AK.whole gY=FK.ak gR:=rfl
def Ut(n p:Nat)(vs:List (List UInt8))(next left:Int)(v:AV)(q:Nat)(vs':List (List UInt8))(next' left':Int):Prop:=
 ∃(out:List Sm) (s:List UInt8),v= .p (smL out)/\aC out<=n/\1<=out.length/\out.length<=2/\s.length<=8/\vs'=vs++[s]/\Mv n p q next next' left left'
theorem Mj{b:List Int}(hb:Byt b)(hl:b.length<=2000)(fns:List Fd){d:Nat}(hd:d<=10)(hblk:Je G b fns d){p:Nat}{vs:List (List UInt8)}{next left:Int}(hB:Bd (Pd d+60) p vs next left):
 AC Tryz.prog G gW [.ptr 1 5 0 0,.p (.int .i64 ((d:Int)+1))] (HG b p fns vs next left) (PG b fns (Ut (Pd d+60) p vs next left) []):=by
 have hp:=hB.p
 have hv:=hB.v
 have hn0:=hB.n0
 have hn1:=hB.n1
 have hl0:=hB.l0
 have hl1:=hB.l1
 refine ml G (AC.goK uo tj ?_)
 simp-implicitDefEqProofs[gY,gR,HG,cx]
 refine(jY G hb hl (p:=p) (by omega) [2,3,1,0,5] (k:=3) (by simp) (by simp) (by omega) rfl rfl).mono ?_
 rintro r h ⟨N,hN,rfl,rfl⟩
 have hN5:0<=N/\N<=5:=by simp at hN;omega
 simp-implicitDefEqProofs[aa]
 refine(cU G (PU G hb hl (p:=p+1) (by omega) fns vs hB.shrt hn0 (by omega) left N) _ (by simp[below])).mono ?_
 rintro r h ⟨v,q,vs',n',l',rfl,rfl,s,hs,rfl,h1,h2,rfl,rfl,rfl⟩
 have hsm:(Sm.mk 1 s [⟨1,N,[],[]⟩] [] []).cs=[.int .i64 1,.str s,exL [⟨1,N,[],[]⟩],smL [],smL []]:=Sm.cs_eq _
 have hwd:IntKind.i64.wrap ((d:Int)+1-1)=d:=by rw[ab (by omega) (by omega)];omega
 have hw2:IntKind.i64.wrap (d:Int)=d:=ab (by omega) (by omega)
 simp-implicitDefEqProofs[aa,cx,hsm,hw2]
 have hB2:Bd (Pd d) q (vs++[s]) (next+1) l':=⟨by omega,by simp;omega,λw hw=>by
  rcases VJ.1 hw with h|h
  ·exact hB.w w h
  ·rw[VK.1 h];exact hs,by omega,by omega,by omega,by omega⟩
 refine(tV G (hblk hB2) _).mono ?_
 rintro r h ⟨out,q2,n2,l2,rfl,rfl,z1,z2,m1,m2,m3,m4,m5,m6⟩
 have hwl:IntKind.i64.wrap (l2-2)=l2-2:=ab (by omega) (by omega)
 simp-implicitDefEqProofs[aa,cx,hwl]
 have hHb:∀(l:Int),okO 7 (.row 5 [[.ptr 0 2 0 0,slE 2 3 (aQ fns),.p (am (vs++[s])),.p (.int .i64 n2),.p (.int .i64 l)]]):=λl e he=>by
  rw[VK.1 he];exact⟨by simp[below],pz (by omega),by simp,by simp,by simp,trivial⟩
 refine lI (ah 50 [(0,.ptr 1 5 0 0),(5,.ptr 3 5 0 0),(6,.ptr 4 4 0 0),(7,.sl 5 5 0 out.length),(8,.ptr 6 5 0 0)])
  [rdO b q2,.row 5 [[.ptr 0 2 0 0,slE 2 3 (aQ fns),.p (am (vs++[s])),.p (.int .i64 n2),.p (.int .i64 (l2-2))]],bR 3 (aQ fns),
   .row 5 [[.p (.int .i64 1),.p (.str s),.p (exL [Ex.mk 1 N [] []]),.p (smL []),.p (smL [])]],.row 4 [[.p (.int .i64 2),.p (.int .i64 0),.p (.str s),.p (exL [])]],.row 5 (smR out),
   .row 5 [[.p (.int .i64 2),.p (.str s),.p (exL [Ex.mk 4 0 [] [⟨2,0,s,[]⟩,⟨1,1,[],[]⟩]]),.p (smL []),.p (smL [])]]] ?_ ?_
 ·simp-implicitDefEqProofs[hwl]
  refine Wk.trans (cZ (l1:=[(0,.ptr 1 5 0 0),(5,.ptr 3 5 0 0),(6,.ptr 4 4 0 0),(7,.sl 5 5 0 out.length),(8,.ptr 6 5 0 0)])
   (h1:=[rdO b q2,.row 5 [[.ptr 0 2 0 0,slE 2 3 (aQ fns),.p (am (vs++[s])),.p (.int .i64 n2),.p (.int .i64 (l2-2))]],bR 3 (aQ fns),
   .row 5 [[.p (.int .i64 1),.p (.str s),.p (exL [Ex.mk 1 N [] []]),.p (smL []),.p (smL [])]],.row 4 [[.p (.int .i64 2),.p (.int .i64 0),.p (.str s),.nils]],.row 5 (smR out),
   .row 5 [[.p (.int .i64 2),.p (.str s),.sl 8 4 0 1,.nils,.nils]],.row 4 [[.p (.int .i64 2),.p (.int .i64 0),.p (.str s),.nils],[.p (.int .i64 1),.p (.int .i64 1),.p (.str []),.nils]],.row 4 [[.p (.int .i64 4),.p (.int .i64 0),.p (.str []),.sl 7 4 0 2]]])
   [0,1,2,4,5,6,9,7,8] (by simp) (by decide) (by decide) (bJ rfl (aW _ _ _) (bW (by simp[below]) (by simp[ren,bg]) (bJ rfl (lY _ _) (bf rfl (by simp[below]) (bf rfl (by simp[below]) (bf rfl (dX out) (bW (by simp[below]) (by simp[ren,bg]) (bf rfl (by simp[below]) (bW (by simp[below]) (by simp[ren,bg]) bL))))))))) (by simp[below,ren]))
   (jj 7 (by omega) (by simp) rfl (.same (aW _ _ _) (.same (hHb _) (.same (lY _ _) (.same (by simp[okO,below]) (.one (.keep (by simp) (.keep (by simp) (.keep (by simp) (.one (View.nils 4) .nil)))) (.same (eq (dX out)) (.one (.keep (by simp) (.keep (by simp) (.one ?_ (.one (View.nils 5) (.one (View.nils 5) .nil))))) (.nil _)))))))) ?_)
  ·exact bm (p0:=(Ex.mk 4 0 [] [⟨2,0,s,[]⟩,⟨1,1,[],[]⟩]).cs) rfl (Ex.cs_len _) (fW (tg (p0:=(Ex.mk 2 0 s []).cs) (p1:=(Ex.mk 1 1 [] []).cs) rfl (Ex.cs_len _) (Ex.cs_len _) (fW (View.nils 4)) (fW (View.nils 4))))
  ·exact⟨.keep (by simp[below]) .nil,.keep (by simp[below]) .nil,.keep (by simp[below]) .nil,.keep (by simp[below]) .nil,.keep (by simp[below]) .nil,trivial⟩
 ·simp-implicitDefEqProofs[]
  have hless:(Sm.mk 2 s [Ex.mk 4 0 [] [⟨2,0,s,[]⟩,⟨1,1,[],[]⟩]] [] []).cs=[.int .i64 2,.str s,exL [Ex.mk 4 0 [] [⟨2,0,s,[]⟩,⟨1,1,[],[]⟩]],smL [],smL []]:=Sm.cs_eq _
  have hrow:List.take out.length (smR out)++[[AV.p (.int .i64 2),.p (.str s),.p (exL [Ex.mk 4 0 [] [⟨2,0,s,[]⟩,⟨1,1,[],[]⟩]]),.p (smL []),.p (smL [])]]=smR (out++[Sm.mk 2 s [Ex.mk 4 0 [] [⟨2,0,s,[]⟩,⟨1,1,[],[]⟩]] [] []]):=by
   rw[VE (by rw[fY];exact VM _),Db];exact congrArg (smR out++ ·) (by rw[smR,WE,hless];rfl)
  have hlen:out.length+1=(out++[Sm.mk 2 s [Ex.mk 4 0 [] [⟨2,0,s,[]⟩,⟨1,1,[],[]⟩]] [] []]).length:=by simp
  refine⟨⟨by rw[fY];exact VM _,by omega,by omega⟩,?_⟩
  rw[hrow,hlen]
  refine⟨_,_,q2,_,.p (smL [Sm.mk 1 s [⟨1,N,[],[]⟩] [] [],Sm.mk 6 [] [⟨2,0,s,[]⟩] (out++[Sm.mk 2 s [Ex.mk 4 0 [] [⟨2,0,s,[]⟩,⟨1,1,[],[]⟩]] [] []]) []]),vs++[s],n2,l2-2,rfl,rfl,.keep (by simp) .nil,
   .one (tg (p0:=(Sm.mk 1 s [⟨1,N,[],[]⟩] [] []).cs) (p1:=(Sm.mk 6 [] [⟨2,0,s,[]⟩] (out++[Sm.mk 2 s [Ex.mk 4 0 [] [⟨2,0,s,[]⟩,⟨1,1,[],[]⟩]] [] []]) []).cs) rfl (Sm.cs_len _) (Sm.cs_len _)
    (bT (.p _) (.p _) (.p _)) (bT ?_ (lb rfl) (View.nils 5))) .nil,_,s,rfl,?_,by simp,by simp,hs,rfl,?_⟩
  ·have h2:(Ex.mk 2 0 s []).cs=[.int .i64 2,.int .i64 0,.str s,exL []]:=Ex.cs_eq _
   have he:exL [Ex.mk 2 0 s []]= .lst 4 [[.int .i64 2,.int .i64 0,.str s,exL []]]:=by rw[exL,WE,h2]
   rw[he]
   exact .p _
  ·simp[aC,bC,Sm.sz,Ex.sz,aX]
   omega
  ·exact⟨by omega,by omega,by omega,by omega,by omega,by omega⟩
end
section
variable (G:al)
def SN(n p:Nat)(vs:List (List UInt8))(next left:Int)(v:AV)(q:Nat)(vs':List (List UInt8))(next' left':Int):Prop:=
 ∃out:List Sm,v= .p (smL out)/\aC out<=n/\1<=out.length/\out.length<=2/\(vs'=vs\/∃s:List UInt8,s.length<=8/\vs'=vs++[s])/\Mv n p q next next' left left'
theorem Qv{b:List Int}(hb:Byt b)(hl:b.length<=2000)(fns:List Fd)(hf:Ak fns){d:Nat}(hd:d<=10)(hblk:1<=d->Je G b fns d){p:Nat}{vs:List (List UInt8)}{next left:Int}(hB:Bd (2*Pd d+3000) p vs next left):
 AC Tryz.prog G io [.ptr 1 5 0 0,.p (.int .i64 ((d:Int)+1))] (HG b p fns vs next left) (PG b fns (SN (2*Pd d+3000) p vs next left) []):=by
 have hp:=hB.p
 have hv:=hB.v
 have hn0:=hB.n0
 have hn1:=hB.n1
 have hl0:=hB.l0
 have hl1:=hB.l1
 refine ml G (AC.go tI ?_)
 have hwl:IntKind.i64.wrap (left-1)=left-1:=ab (by omega) (by omega)
 have hsl:am vs= .lst 1 (vs.map λw=>[.str w]):=rfl
 simp-implicitDefEqProofs[lP,HG,cx,hwl]
 refine(aP G b hb hl p (by omega) 13 _).mono ?_
 rintro r h ⟨k,rfl,rfl,hk⟩
 have dL:∀(m:Sm) (q:Nat) (rest:List AO) (v:AV) (vc:AV) (vs':List (List UInt8)) (next' left':Int),Fzs (.dead:: .dead:: .dead::rest) 3 [vc] [.p (am vs')]->Fzs (.dead:: .dead:: .dead::rest) 3 [v] [.p (smL [m])]->m.sz<=2*Pd d+3000->(vs'=vs\/∃s:List UInt8,s.length<=8/\vs'=vs++[s])->Mv (2*Pd d+3000) p q next next' left left'->
  DG b fns (SN (2*Pd d+3000) p vs next left) (.ret v) (rdO b q:: .row 5 [[.ptr 0 2 0 0,slE 2 3 (aQ fns),vc,.p (.int .i64 next'),.p (.int .i64 left')]]::bR 3 (aQ fns)::rest):=λm q rest v vc vs' next' left' h1 h2 h3 h4 h5=>
  ⟨_,rest,q,_,_,vs',next',left',rfl,rfl,h1,h2,[m],rfl,by simp[aC];omega,by simp,by simp,h4,h5⟩
 by_cases hc:k<3/\vs≠[]
 ·obtain⟨hc1,hne⟩:=hc
  have hpos:0<vs.length:=List.length_pos_iff.2 hne
  have hc1':(k:Int)<3:=by omega
  have hv1:=hB.v
  simp-implicitDefEqProofs[aa,hsl,hc1,hc1',hpos]
  rw[←hsl]
  refine(Hk G hb hl (p:=p+1) (by omega) vs hne (by omega) _).mono ?_
  rintro r h ⟨w,hw,rfl,rfl⟩
  have hw8:=hB.w w hw
  simp-implicitDefEqProofs[aa]
  refine(cU G (mv G hb hl (p:=p+1+1) (by omega) fns hf vs hB.shrt next (left-1) (d:=3) (by omega)) _ (by simp[below])).mono ?_
  rintro r h ⟨v,q,vs',n',l',rfl,rfl,⟨e,rfl,he⟩,h1,h2,rfl,rfl,rfl⟩
  have hec:=e.cs_eq
  simp-implicitDefEqProofs[aa,cx,hec]
  exact dL ⟨2,w,[e],[],[]⟩ q _ _ _ vs' n' (left-1) (.keep (by simp) .nil) (.one (bm (p0:=(Sm.mk 2 w [e] [] []).cs) rfl (Sm.cs_len _) (bT (dW (l:=[e]) (by rw[WE,hec];rfl)) (View.nils 5) (View.nils 5))) .nil) (by simp[Sm.sz,aX,aC];omega) (.inl rfl) ⟨by omega,by omega,by omega,by omega,by omega,by omega⟩
 have hcc:(k<3/\0<vs.length)=False:=by
  simp only[eq_iff_iff,iff_false]
  exact λ⟨a,c⟩=>hc ⟨a,List.length_pos_iff.1 c⟩
 have hvz:(k:Int)<3->vs.length=0:=λh=>by
  by_cases e:vs=[]
  ·rw[e];rfl
  ·exact absurd ⟨by omega,e⟩ hc
 have hvx:=hB.shrt
 have hvv:=hB.v
 by_cases k5:(k:Int)<5
 ·by_cases k3:(k:Int)<3
  ·have hv0:=hvz k3
   simp-implicitDefEqProofs[aa,hsl,k3,hv0,k5]
   rw[←hsl]
   refine(cU G (mv G hb hl (p:=p+1) (by omega) fns hf vs hvx next (left-1) (d:=3) (by omega)) _ (by simp[below])).mono ?_
   rintro r h ⟨v,q,vs',n',l',rfl,rfl,⟨e,rfl,he⟩,h1,h2,rfl,rfl,rfl⟩
   have hec:=e.cs_eq
   have hL:=Po G hb hl (p:=q) (by omega) fns vs' hvx hn0 (by omega) (left-1) e
   rw[hec] at hL
   simp-implicitDefEqProofs[aa,cx,hec]
   refine(cU G hL _ (by simp[below])).mono ?_
   rintro r h ⟨v,q2,vs2,n2,l2,rfl,rfl,s,hs,rfl,h3,h4,rfl,rfl,rfl⟩
   have hsm:(Sm.mk 1 s [e] [] []).cs=[.int .i64 1,.str s,exL [e],smL [],smL []]:=Sm.cs_eq _
   simp-implicitDefEqProofs[aa,cx,hsm]
   exact dL ⟨1,s,[e],[],[]⟩ q2 _ _ _ (vs'++[s]) (n'+1) (left-1) (.keep (by simp) .nil) (.one (bm (p0:=(Sm.mk 1 s [e] [] []).cs) rfl (Sm.cs_len _) (bT (.p _) (.p _) (.p _))) .nil) (by simp[Sm.sz,aX,aC];omega) (.inr ⟨s,hs,rfl⟩) ⟨by omega,by omega,by omega,by omega,by omega,by omega⟩
  ·simp-implicitDefEqProofs[aa,hsl,k3,k5]
   rw[←hsl]
   refine(cU G (mv G hb hl (p:=p+1) (by omega) fns hf vs hvx next (left-1) (d:=3) (by omega)) _ (by simp[below])).mono ?_
   rintro r h ⟨v,q,vs',n',l',rfl,rfl,⟨e,rfl,he⟩,h1,h2,rfl,rfl,rfl⟩
   have hec:=e.cs_eq
   have hL:=Po G hb hl (p:=q) (by omega) fns vs' hvx hn0 (by omega) (left-1) e
   rw[hec] at hL
   simp-implicitDefEqProofs[aa,cx,hec]
   refine(cU G hL _ (by simp[below])).mono ?_
   rintro r h ⟨v,q2,vs2,n2,l2,rfl,rfl,s,hs,rfl,h3,h4,rfl,rfl,rfl⟩
   have hsm:(Sm.mk 1 s [e] [] []).cs=[.int .i64 1,.str s,exL [e],smL [],smL []]:=Sm.cs_eq _
   simp-implicitDefEqProofs[aa,cx,hsm]
   exact dL ⟨1,s,[e],[],[]⟩ q2 _ _ _ (vs'++[s]) (n'+1) (left-1) (.keep (by simp) .nil) (.one (bm (p0:=(Sm.mk 1 s [e] [] []).cs) rfl (Sm.cs_len _) (bT (.p _) (.p _) (.p _))) .nil) (by simp[Sm.sz,aX,aC];omega) (.inr ⟨s,hs,rfl⟩) ⟨by omega,by omega,by omega,by omega,by omega,by omega⟩
 have k3:¬(k:Int)<3:=by omega
 by_cases k7:(k:Int)<7\/d=0
 ·by_cases k7':(k:Int)<7
  ·simp-implicitDefEqProofs[aa,k3,k5,k7']
   refine(cU G (mv G hb hl (p:=p+1) (by omega) fns hf vs hvx next (left-1) (d:=3) (by omega)) _ (by simp[below])).mono ?_
   rintro r h ⟨v,q,vs',n',l',rfl,rfl,⟨e,rfl,he⟩,h1,h2,rfl,rfl,rfl⟩
   have hec:=e.cs_eq
   simp-implicitDefEqProofs[aa,cx,hec]
   exact dL ⟨3,[],[e],[],[]⟩ q _ _ _ vs' n' (left-1) (.keep (by simp) .nil) (.one (bm (p0:=(Sm.mk 3 [] [e] [] []).cs) rfl (Sm.cs_len _) (bT (dW (l:=[e]) (by rw[WE,hec];rfl)) (View.nils 5) (View.nils 5))) .nil) (by simp[Sm.sz,aX,aC];omega) (.inl rfl) ⟨by omega,by omega,by omega,by omega,by omega,by omega⟩
  ·have hdl:(d:Int)+1<2:=by omega
   simp-implicitDefEqProofs[aa,k3,k5,k7',hdl]
   refine(cU G (mv G hb hl (p:=p+1) (by omega) fns hf vs hvx next (left-1) (d:=3) (by omega)) _ (by simp[below])).mono ?_
   rintro r h ⟨v,q,vs',n',l',rfl,rfl,⟨e,rfl,he⟩,h1,h2,rfl,rfl,rfl⟩
   have hec:=e.cs_eq
   simp-implicitDefEqProofs[aa,cx,hec]
   exact dL ⟨3,[],[e],[],[]⟩ q _ _ _ vs' n' (left-1) (.keep (by simp) .nil) (.one (bm (p0:=(Sm.mk 3 [] [e] [] []).cs) rfl (Sm.cs_len _) (bT (dW (l:=[e]) (by rw[WE,hec];rfl)) (View.nils 5) (View.nils 5))) .nil) (by simp[Sm.sz,aX,aC];omega) (.inl rfl) ⟨by omega,by omega,by omega,by omega,by omega,by omega⟩
 have k7':¬(k:Int)<7:=λh=>k7 (.inl h)
 have hd1:1<=d:=by omega
 have hd2:¬((d:Int)+1)<2:=by omega
 have hblk2:Je G b fns d:= @hblk hd1
 by_cases e7:(k:Int)=7
 ·simp-implicitDefEqProofs[aa,k3,k5,k7',hd2,e7]
  refine(cU G (Kd G hb hl (p:=p+1) (by omega) fns hf vs hvx next (left-1)) _ (by simp[below])).mono ?_
  rintro r h ⟨v,q,vs',n',l',rfl,rfl,⟨e,rfl,he⟩,h1,h2,rfl,rfl,rfl⟩
  have hec:=e.cs_eq
  simp-implicitDefEqProofs[aa,cx,hec]
  refine(cU G (mv G hb hl (p:=q) (by omega) fns hf vs' hvx n' (left-1) (d:=2) (by omega)) _ (by simp[below])).mono ?_
  rintro r h ⟨v,q2,vs2,n2,l2,rfl,rfl,⟨e2,rfl,he2⟩,h3,h4,rfl,rfl,rfl⟩
  have hec2:=e2.cs_eq
  simp-implicitDefEqProofs[aa,cx,hec2]
  exact dL ⟨4,[],[e,e2],[],[]⟩ q2 _ _ _ vs2 n2 (left-1) (.keep (by simp) .nil) (.one (bm (p0:=(Sm.mk 4 [] [e,e2] [] []).cs) rfl (Sm.cs_len _) (bT (dW (l:=[e,e2]) (by rw[VY,WE,hec,hec2];rfl)) (View.nils 5) (View.nils 5))) .nil) (by simp[Sm.sz,aX,aC];omega) (.inl rfl) ⟨by omega,by omega,by omega,by omega,by omega,by omega⟩
 by_cases e8:(k:Int)=8
 ·simp-implicitDefEqProofs[aa,k3,k5,k7',hd2,e7,e8]
  refine(cU G (Kd G hb hl (p:=p+1) (by omega) fns hf vs hvx next (left-1)) _ (by simp[below])).mono ?_
  rintro r h ⟨v,q,vs',n',l',rfl,rfl,⟨e,rfl,he⟩,h1,h2,rfl,rfl,rfl⟩
  have hec:=e.cs_eq
  simp-implicitDefEqProofs[aa,cx,hec]
  exact dL ⟨3,[],[⟨12,0,[],[e]⟩],[],[]⟩ q _ _ _ vs' n' (left-1) (.keep (by simp) .nil) (.one (bm (p0:=(Sm.mk 3 [] [⟨12,0,[],[e]⟩] [] []).cs) rfl (Sm.cs_len _) (bT (bm (p0:=(Ex.mk 12 0 [] [e]).cs) rfl (Ex.cs_len _) (fW (dW (l:=[e]) (by rw[WE,hec];rfl)))) (View.nils 5) (View.nils 5))) .nil) (by simp[Sm.sz,Ex.sz,aX,aC];omega) (.inl rfl) ⟨by omega,by omega,by omega,by omega,by omega,by omega⟩
 have hwd:IntKind.i64.wrap ((d:Int)+1-1)=d:=by rw[ab (by omega) (by omega)];omega
 have hwd2:IntKind.i64.wrap (d:Int)=d:=ab (by omega) (by omega)
 by_cases k11:(k:Int)<11
 ·simp-implicitDefEqProofs[aa,k3,k5,k7',hd2,e7,e8,k11]
  refine(cU G (mv G hb hl (p:=p+1) (by omega) fns hf vs hvx next (left-1) (d:=3) (by omega)) _ (by simp[below])).mono ?_
  rintro r h ⟨v,q,vs',n',l',rfl,rfl,⟨e,rfl,he⟩,h1,h2,rfl,rfl,rfl⟩
  have hec:=e.cs_eq
  simp-implicitDefEqProofs[aa,cx,hec,hwd2]
  have hB2:Bd (Pd d) q vs' n' (left-1):=⟨by omega,by omega,hB.w,by omega,by omega,by omega,by omega⟩
  refine(tV G (hblk2 hB2) _).mono ?_
  rintro r h ⟨out,q2,n2,l2,rfl,rfl,z1,z2,m1,m2,m3,m4,m5,m6⟩
  simp-implicitDefEqProofs[aa,cx]
  refine(aP G b hb hl q2 (by omega) 2 _).mono ?_
  rintro r h ⟨k2,rfl,rfl,_⟩
  simp-implicitDefEqProofs[aa]
  refine bh (λhq=>?_) (λhq=>?_)
  ·simp-implicitDefEqProofs[hwd2]
   have hB3:Bd (Pd d) (q2+1) vs' n2 l2:=⟨by omega,by omega,hB.w,by omega,by omega,by omega,by omega⟩
   refine(tV G (hblk2 hB3) _).mono ?_
   rintro r h ⟨out2,q3,n3,l3,rfl,rfl,y1,y2,w1,w2,w3,w4,w5,w6⟩
   simp-implicitDefEqProofs[aa,cx]
   exact dL ⟨5,[],[e],out,out2⟩ q3 _ _ _ vs' n3 l3 (.keep (by simp) .nil) (.one (bm (p0:=(Sm.mk 5 [] [e] out out2).cs) rfl (Sm.cs_len _) (bT (dW (l:=[e]) (by rw[WE,hec];rfl)) (lb rfl) (lb rfl))) .nil) (by simp[Sm.sz,aX];omega) (.inl rfl) ⟨by omega,by omega,by omega,by omega,by omega,by omega⟩
  ·simp-implicitDefEqProofs[]
   exact dL ⟨5,[],[e],out,[]⟩ (q2+1) _ _ _ vs' n2 l2 (.keep (by simp) .nil) (.one (bm (p0:=(Sm.mk 5 [] [e] out []).cs) rfl (Sm.cs_len _) (bT (dW (l:=[e]) (by rw[WE,hec];rfl)) (lb rfl) (View.nils 5))) .nil) (by simp[Sm.sz,aX,aC];omega) (.inl rfl) ⟨by omega,by omega,by omega,by omega,by omega,by omega⟩
 by_cases e11:(k:Int)=11
 ·simp-implicitDefEqProofs[aa,k3,k5,k7',hd2,e7,e8,k11,e11]
  refine(aP G b hb hl (p+1) (by omega) 3 _).mono ?_
  rintro r h ⟨k2,rfl,rfl,_⟩
  simp-implicitDefEqProofs[aa]
  refine bh (λhq=>?_) (λhq=>?_)
  ·simp-implicitDefEqProofs[]
   refine(cU G (mv G hb hl (p:=p+1+1) (by omega) fns hf vs hvx next (left-1) (d:=2) (by omega)) _ (by simp[below])).mono ?_
   rintro r h ⟨v,q,vs',n',l',rfl,rfl,⟨e,rfl,he⟩,h1,h2,rfl,rfl,rfl⟩
   have hec:=e.cs_eq
   simp-implicitDefEqProofs[aa,cx,hec]
   exact dL ⟨7,[],[e],[],[]⟩ q _ _ _ vs' n' (left-1) (.keep (by simp) .nil) (.one (bm (p0:=(Sm.mk 7 [] [e] [] []).cs) rfl (Sm.cs_len _) (bT (dW (l:=[e]) (by rw[WE,hec];rfl)) (View.nils 5) (View.nils 5))) .nil) (by simp[Sm.sz,aX,aC];omega) (.inl rfl) ⟨by omega,by omega,by omega,by omega,by omega,by omega⟩
  ·simp-implicitDefEqProofs[]
   have hBL:Bd (Pd d+60) (p+1+1) vs next (left-1):=⟨by omega,by omega,hB.w,hn0,by omega,by omega,by omega⟩
   refine(cU G (Mj G hb hl fns hd hblk2 hBL) _ (by simp[below])).mono ?_
   rintro r h ⟨v,q,vs2,n2,l2,rfl,rfl,out,s,rfl,z1,z2,z3,hs,rfl,m1,m2,m3,m4,m5,m6⟩
   simp-implicitDefEqProofs[aa,cx]
   exact⟨_,_,q,_,_,vs++[s],n2,l2,rfl,rfl,.keep (by simp) .nil,.keep (by simp) .nil,out,rfl,by omega,z2,z3,.inr ⟨s,hs,rfl⟩,by omega,by omega,by omega,by omega,by omega,by omega⟩
 ·simp-implicitDefEqProofs[aa,k3,k5,k7',hd2,e7,e8,k11,e11]
  have hBL:Bd (Pd d+60) (p+1) vs next (left-1):=⟨by omega,by omega,hB.w,hn0,by omega,by omega,by omega⟩
  refine(cU G (Mj G hb hl fns hd hblk2 hBL) _ (by simp[below])).mono ?_
  rintro r h ⟨v,q,vs2,n2,l2,rfl,rfl,out,s,rfl,z1,z2,z3,hs,rfl,m1,m2,m3,m4,m5,m6⟩
  simp-implicitDefEqProofs[aa,cx]
  exact⟨_,_,q,_,_,vs++[s],n2,l2,rfl,rfl,.keep (by simp) .nil,.keep (by simp) .nil,out,rfl,by omega,z2,z3,.inr ⟨s,hs,rfl⟩,by omega,by omega,by omega,by omega,by omega,by omega⟩
end
section
variable (G:al)
structure BkS where (j m:Nat) (out:List Sm) (q:Nat) (vs:List (List UInt8)) (next left:Int)
theorem Tr(d:Nat):5000<=Pd d:=by
 have:1<=20^d:=Nat.one_le_pow _ _ (by omega)
 simp only[Pd];omega
theorem NM(d:Nat):Pd (d+1)=20*Pd d:=by simp only[Pd,Nat.pow_succ];omega
theorem Dg{b:List Int}(hb:Byt b)(hl:b.length<=2000)(fns:List Fd)(hf:Ak fns){d:Nat}(hd:d<=10)(hblk:1<=d->Je G b fns d):Je G b fns (d+1):=by
 intro p vs next left hB
 have hp:=hB.p
 have hv:=hB.v
 have hn0:=hB.n0
 have hn1:=hB.n1
 have hl0:=hB.l0
 have hl1:=hB.l1
 have hP:=Tr d
 have hPs:=NM d
 generalize hN:Pd d=N at*
 rw[hPs] at hp hv hn1 hl0⊢
 have hGok:∀(vs:List (List UInt8)) (nx lf:Int),okO 4 (.row 5 [cx fns vs nx lf]):=λvs nx lf e he=>by
  rw[VK.1 he];exact⟨by simp[below],pz (by omega),by simp,by simp,by simp,trivial⟩
 refine AC.go sU ?_
 simp-implicitDefEqProofs[lz,HG,cx]
 refine(jY G hb hl (p:=p) (by omega) [2,3,1,4] (k:=4) (by simp) (by simp) (by omega) rfl rfl).mono ?_
 rintro r h ⟨I,hI,rfl,rfl⟩
 obtain⟨J,rfl,hJ⟩:∃J:Nat,I=J/\J<=4:=⟨I.toNat,by simp at hI;omega,by simp at hI;omega⟩
 simp-implicitDefEqProofs[aa]
 refine aN (λs:BkS=>ah 40 [(0,.ptr 1 5 0 0),(1,.p (.int .i64 ((d:Int)+1))),(5,.p (am vs)),(6,.sl 3 5 0 s.out.length),(7,.p (.int .i64 s.j))])
  (λs=>[rdO b s.q,.row 5 [cx fns s.vs s.next s.left],bR 3 (aQ fns),.row 5 (smR s.out)])
  (λs=>s.j+s.m<=4/\aC s.out<=s.m*(2*N+3000)/\s.out.length<=2*s.m/\p<=s.q/\s.q<=p+1+s.m*(2*N+3000)/\s.vs.length<=vs.length+s.m/\(∀w∈s.vs,w.length<=8)/\next<=s.next/\s.next<=next+((s.m*(2*N+3000):Nat):Int)/\left-((s.m*(2*N+3000):Nat):Int)<=s.left/\s.left<=left)
  (λs=>s.j) ⟨J,0,[],p+1,vs,next,left⟩ ⟨by simp only;omega,by simp[aC],by simp,by simp,by simp,by simp,hB.w,by simp,by simp,by simp,by simp⟩ ?_ ?_
 ·refine ij (m:=4) (by omega) (dE (h1:=[rdO b (p+1),.row 5 [cx fns vs next left],bR 3 (aQ fns),.row 5 (smR [])]) rfl rfl (aj (aW _ _ _) (aj (hGok _ _ _) (aj (lY _ _) (aj (eq (dX [])) gf))))) (by simp[below])
 rintro⟨j,m,out,q,vs',nx,lf⟩ ⟨i1,i2,i3,i4,i5,i6,i7,i8,i9,i10,i11⟩
 simp only at i1 i2 i3 i4 i5 i6 i7 i8 i9 i10 i11
 simp-implicitDefEqProofs[cx]
 have hm4:m*(2*N+3000)<=4*(2*N+3000):=WG _ (by omega)
 by_cases hc:0<j/\0<lf
 ·obtain⟨c1,c2⟩:=hc
  have hm3:m*(2*N+3000)<=3*(2*N+3000):=WG _ (by omega)
  have hms:(m+1)*(2*N+3000)=m*(2*N+3000)+(2*N+3000):=by rw[WF,Nat.one_mul]
  have hmsI:((m+1:Nat):Int)*(2*(N:Int)+3000)=((m*(2*N+3000)+(2*N+3000):Nat):Int):=by rw[←hms];simp
  generalize m*(2*N+3000)=M at*
  have hB2:Bd (2*Pd d+3000) q vs' nx lf:=by
   rw[hN];exact⟨by omega,by omega,i7,by omega,by omega,by omega,by omega⟩
  have hS:=Qv G hb hl fns hf hd hblk hB2
  rw[hN] at hS
  simp-implicitDefEqProofs[c1,c2]
  refine(cU G hS _ (by simp[below])).mono ?_
  rintro r h ⟨v,q2,vs2,n2,l2,rfl,rfl,out2,rfl,z1,z2,z3,hvs,m1,m2,m3,m4,m5,m6⟩
  have hsl:smL out2= .lst 5 (out2.map Sm.cs):=rfl
  simp-implicitDefEqProofs[aa,cx,hsl]
  have hol:(smR out).length=out.length:=fY out
  have hwj:IntKind.i64.wrap ((j:Int)-1)=((j-1:Nat):Int):=by rw[ab (by omega) (by omega)];omega
  have hrow:List.take out.length (smR out)++List.map ((λx=>List.map AV.p x)∘Sm.cs) out2=smR (out++out2):=by
   rw[VE (by omega),Db];rfl
  refine⟨⟨by omega,by omega,by omega⟩,⟨j-1,m+1,out++out2,q2,vs2,n2,l2⟩,⟨by simp only;omega,by simp only;rw[bC,hms];omega,by simp only;rw[VO];omega,by simp only;omega,by simp only;rw[hms];omega,?_,?_,by simp only;omega,by simp only;rw[hmsI];omega,by simp only;rw[hmsI];omega,by simp only;omega⟩,by simp only;omega,?_⟩
  ·simp only
   rcases hvs with rfl|⟨s,_,rfl⟩
   ·omega
   ·rw[VO,List.length_singleton];omega
  ·simp only
   rcases hvs with rfl|⟨s,hs,rfl⟩
   ·exact i7
   ·intro w hw
    rcases VJ.1 hw with h|h
    ·exact i7 w h
    ·rw[VK.1 h];exact hs
  ·rw[hrow]
   refine cZ [0,1,2,4] (by simp) (by decide) (by decide) (bJ rfl (aW _ _ _) (bW ?_ ?_ (bJ rfl (lY _ _) (bf rfl (dX _) bL)))) (by simp[below,ren,hwj])
   ·intro x hx
    rw[VK.1 hx];exact⟨by simp[below],pz (by simp),by simp,by simp,by simp,trivial⟩
   ·simp[cx,ren,bg]
 ·have hce:(decide (0<j)&&decide (0<lf))=false:=by
   by_cases h1:0<j
   ·have h2:¬0<lf:=λh=>hc ⟨h1,h⟩
    simp[h2]
   ·simp[h1]
  have fin:Ov b fns vs p (20*N) next left [] (.ret (.sl 3 5 0 out.length)) [rdO b q,.row 5 [[.ptr 0 2 0 0,slE 2 3 (aQ fns),.p (am vs),.p (.int .i64 nx),.p (.int .i64 lf)]],bR 3 (aQ fns),.row 5 (smR out)]:=
   ⟨out,q,nx,lf,rfl,rfl,by omega,by omega,by omega,by omega,by omega,by omega,by omega,by omega⟩
  by_cases h1:0<j
  ·have h2:¬0<lf:=λh=>hc ⟨h1,h⟩
   simp-implicitDefEqProofs[h1,h2]
   exact fin
  ·simp-implicitDefEqProofs[h1]
   exact fin
end
section
theorem yJ:AK.whole jX=FK.ak jO:=rfl
theorem CX{h:List AO}{id:Nat}{out:List Sm}{m:Sm}{c:List AV}(e:h[id]?=some (.row 5 (smR out++[c])))(hc:∀(j:Nat) (q:PV) (a:AV),m.cs[j]?=some q->c[j]?=some a->View h a q):View h (.sl id 5 0 (out.length+1)) (smL (out++[m])):=by
 have hl:((out++[m]).map Sm.cs).length=out.length+1:=by simp
 have:=View.sl (h:=h) id 5 0 _ ((out++[m]).map Sm.cs) e (by rw[hl];simp[fY]) (λx hx=>by obtain⟨b,_,rfl⟩:=VW.1 hx;exact b.cs_len) (λi j e q e' a a1 a2 a3 a4=>?_)
 ·rwa[hl] at this
 rw[WC] at a3
 rw[List.map_append] at a1
 rcases Wo i out.length with hi|hi
 ·rw[Vz (by simpa using hi),VN,VA hi] at a1
  rw[Vz (by simpa[fY] using hi),smR,VN,VA hi] at a3
  cases a1;cases a3
  rw[VN,a2] at a4
  cases a4
  exact .p _
 ·rw[VG (by simpa using hi)] at a1
  rw[VG (by simpa[fY] using hi),fY] at a3
  rw[Wl] at a1
  cases hd:i-out.length with
  |zero=>
   rw[hd] at a1 a3
   cases a1;cases a3
   exact hc j q a a2 a4
  |succ n=>rw[hd] at a3;simp at a3
variable (G:al)
theorem Lw{b:List Int}(hb:Byt b)(hl:b.length<=2000)(fns:List Fd)(hf:Ak fns):Je G b fns 3:=
 Dg G hb hl fns hf (d:=2) (by omega) λ_=>Dg G hb hl fns hf (d:=1) (by omega) λ_=>Dg G hb hl fns hf (d:=0) (by omega) λh=>absurd h (by omega)
def abcW:List (List UInt8):=[[97],[98],[99]]
def fnQ(p:Nat)(name:List UInt8)(np:Nat)(left:Int)(v:AV)(q:Nat)(vs':List (List UInt8))(next' left':Int):Prop:=
 ∃f:Fd,v= .agg (f.cs.map .p)/\f.name=name/\f.params=abcW.take np/\aC f.body<=40000500/\p<=q/\q<=p+40000500/\left-40000500<=left'/\left'<=left
theorem Sy{b:List Int}(hb:Byt b)(hl:b.length<=2000){p:Nat}(hp:p<=90000000000)(fns:List Fd)(hf:Ak fns)(vs:List (List UInt8))(next left:Int)(hl0: -1000000000<=left)(hl1:left<=1000000000)(name:List UInt8)(np:Nat)(hnp:np<=3):
 AC Tryz.prog G gb [.ptr 1 5 0 0,.p (.str name),.p (.int .i64 np)] (HG b p fns vs next left) (PG b fns (fnQ p name np left) []):=by
 refine ml G (AC.goK yL yJ ?_)
 have hwn:IntKind.i64.wrap ((np:Int)-1)=(np:Int)-1:=ab (by omega) (by omega)
 have h3:(np:Int)<=3:=by omega
 simp-implicitDefEqProofs[jX,jO,HG,cx,hwn,h3,hnp]
 refine lI (ah 61 [(0,.ptr 1 5 0 0),(6,.ptr 3 3 0 0),(7,.ptr 4 3 0 0)]) [rdO b p,.row 5 [cx fns (abcW.take np) ((np:Int)-1) left],bR 3 (aQ fns),.row 3 [[.p (.str []),.nils,.nils]],.row 3 [[.p (.str name),.p (am (abcW.take np)),.nils]]] ?_ ?_
 ·have hlen:(abcW.take np).length=np:=by simp[abcW];omega
  simp-implicitDefEqProofs[hnp,hlen]
  refine⟨⟨by omega,by omega⟩,?_⟩
  have hcutR:cJ (abcW.take np)= .row 1 (List.take np [[AV.p (PV.str [97])],[AV.p (PV.str [98])],[AV.p (PV.str [99])]]):=by
   simp only[cJ,List.map_take];rfl
  rw[←hcutR]
  refine Wk.trans (Hx (h1:=[rdO b p,.row 5 [[.ptr 0 2 0 0,slE 2 3 (aQ fns),.sl 4 1 0 np,.p (.int .i64 ((np:Int)-1)),.p (.int .i64 left)]],bR 3 (aQ fns),.row 3 [[.p (.str []),.nils,.nils]],cJ (abcW.take np),.dead,cJ (abcW.take np),.row 3 [[.p (.str name),.sl 6 1 0 np,.nils]]])
   ⟨.inl rfl,.inl rfl,.inl rfl,.inl rfl,.inr ⟨1,_,np,rfl,hcutR⟩,.inl rfl,.inl rfl,.inl rfl,trivial⟩) ?_
  refine Wk.trans (cZ (l1:=[(0,.ptr 1 5 0 0),(6,.ptr 3 3 0 0),(7,.ptr 4 3 0 0)])
   (h1:=[rdO b p,.row 5 [[.ptr 0 2 0 0,slE 2 3 (aQ fns),.sl 5 1 0 np,.p (.int .i64 ((np:Int)-1)),.p (.int .i64 left)]],bR 3 (aQ fns),.row 3 [[.p (.str []),.nils,.nils]],.row 3 [[.p (.str name),.sl 6 1 0 np,.nils]],cJ (abcW.take np),cJ (abcW.take np)])
   [0,1,2,3,7,4,6] (by simp) (by decide) (by decide) (bJ rfl (aW _ _ _) (bW (by simp[below]) (by simp[ren,bg]) (bJ rfl (lY _ _) (bf rfl (by simp[below]) (bW (by simp[below]) (by simp[ren,bg]) (bJ rfl (pY _) (bJ rfl (pY _) bL))))))) (by simp[below,ren]))
   (jj 5 (by omega) (by simp) rfl (.same (aW _ _ _) (.one (.keep (by simp[below]) (.keep (pz (by omega)) (.one ?_ (.keep (by simp) (.keep (by simp) .nil))))) (.same (lY _ _) (.same (by simp[okO,below]) (.one (.keep (by simp) (.one ?_ (.keep (by simp[below]) .nil))) (.nil _)))))) ?_)
  ·have:=gB (l:=abcW.take np) (id:=5) (h:=tail 5 [rdO b p,.row 5 [[.ptr 0 2 0 0,slE 2 3 (aQ fns),.sl 5 1 0 np,.p (.int .i64 ((np:Int)-1)),.p (.int .i64 left)]],bR 3 (aQ fns),.row 3 [[.p (.str []),.nils,.nils]],.row 3 [[.p (.str name),.sl 6 1 0 np,.nils]],cJ (abcW.take np),cJ (abcW.take np)]) rfl
   rwa[hlen] at this
  ·have:=gB (l:=abcW.take np) (id:=6) (h:=tail 5 [rdO b p,.row 5 [[.ptr 0 2 0 0,slE 2 3 (aQ fns),.sl 5 1 0 np,.p (.int .i64 ((np:Int)-1)),.p (.int .i64 left)]],bR 3 (aQ fns),.row 3 [[.p (.str []),.nils,.nils]],.row 3 [[.p (.str name),.sl 6 1 0 np,.nils]],cJ (abcW.take np),cJ (abcW.take np)]) rfl
   rwa[hlen] at this
  ·exact⟨.keep (by simp[below]) .nil,.keep (by simp[below]) .nil,.keep (by simp[below]) .nil,trivial⟩
 have hlen:(abcW.take np).length<=3:=by simp[abcW];omega
 have hw8:∀s∈abcW.take np,s.length<=8:=by
  intro s hs
  have:=Wr hs
  simp only[abcW,VL,Wa,or_false] at this
  rcases this with rfl|rfl|rfl<;>simp
 have hPd:Pd 3=40000000:=rfl
 have hB:Bd (Pd 3) p (abcW.take np) ((np:Int)-1) left:=by rw[hPd];exact⟨by omega,by omega,hw8,by omega,by omega,by omega,by omega⟩
 simp-implicitDefEqProofs[cx]
 refine(tV G (Lw G hb hl fns hf hB) _).mono ?_
 rintro r h ⟨out,q,n2,l2,rfl,rfl,z1,z2,m1,m2,m3,m4,m5,m6⟩
 rw[hPd] at z1 m2 m4 m5
 simp-implicitDefEqProofs[aa,cx]
 have fin:∀(out:List Sm) (q:Nat) (l2:Int) (rest:List AO) (v:AV) (vc:AV) (vs':List (List UInt8)) (n2:Int),Fzs (.dead:: .dead:: .dead::rest) 3 [vc] [.p (am vs')]->Fzs (.dead:: .dead:: .dead::rest) 3 [v] [.agg ((Fd.mk name (abcW.take np) out).cs.map .p)]->aC out<=40000500->p<=q->q<=p+40000500->left-40000500<=l2->l2<=left->
  DG b fns (fnQ p name np left) (.ret v) (rdO b q:: .row 5 [[.ptr 0 2 0 0,slE 2 3 (aQ fns),vc,.p (.int .i64 n2),.p (.int .i64 l2)]]::bR 3 (aQ fns)::rest):=λout q l2 rest v vc vs' n2 h1 h2 h3 h4 h5 h6 h7=>
  ⟨_,rest,q,_,_,vs',n2,l2,rfl,rfl,h1,h2,⟨name,abcW.take np,out⟩,rfl,rfl,rfl,h3,h4,h5,h6,h7⟩
 by_cases hl2:0<l2
 ·simp-implicitDefEqProofs[hl2]
  refine(aP G b hb hl q (by omega) 4 _).mono ?_
  rintro r h ⟨k,rfl,rfl,_⟩
  simp-implicitDefEqProofs[aa]
  refine bh (λhc=>?_) (λhc=>?_)
  ·have hwl:IntKind.i64.wrap (l2-1)=l2-1:=ab (by omega) (by omega)
   simp-implicitDefEqProofs[hwl]
   have hShrt:uX (abcW.take np):=⟨by omega,hw8⟩
   refine(cU G (mv G hb hl (p:=q+1) (by omega) fns hf (abcW.take np) hShrt n2 (l2-1) (d:=2) (by omega)) _ (by simp[below])).mono ?_
   rintro r h ⟨v,q2,vs2,n3,l3,rfl,rfl,⟨e,rfl,he⟩,h1,h2,hvs,rfl,rfl⟩
   subst hvs
   have hec:=e.cs_eq
   have hol:(smR out).length=out.length:=fY out
   simp-implicitDefEqProofs[aa,cx,hec,hol]
   refine⟨⟨by omega,by omega⟩,?_⟩
   have htk:List.take out.length (smR out)=smR out:=VE (by omega)
   rw[htk]
   have hm:(Sm.mk 7 [] [e] [] []).cs=[.int .i64 7,.str [],.lst 4 [[.int .i64 e.op,.int .i64 e.n,.str e.name,exL e.kids]],.lst 5 [],.lst 5 []]:=by
    rw[Sm.cs_eq,←hec];rfl
   refine fin (out++[⟨7,[],[e],[],[]⟩]) q2 (l2-1) _ _ _ (abcW.take np) n3 (.keep (by simp) .nil) (.agg (.keep (by simp) (.keep (by simp) (.one (CX rfl ?_) .nil))) .nil) (by simp[bC,aC,Sm.sz,aX];omega) (by omega) (by omega) (by omega) (by omega)
   intro j q a a1 a2
   rw[hm] at a1
   match j,a1,a2 with
   |0,a1,a2=>cases a1;cases a2;exact .p _
   |1,a1,a2=>cases a1;cases a2;exact .p _
   |2,a1,a2=>cases a1;cases a2;exact .p _
   |3,a1,a2=>cases a1;cases a2;exact View.e 0 5
   |4,a1,a2=>cases a1;cases a2;exact View.e 0 5
   |j+5,a1,a2=>simp at a1
  ·simp-implicitDefEqProofs[]
   exact fin out (q+1) l2 _ _ _ (abcW.take np) n2 (.keep (by simp) .nil) (.agg (.keep (by simp) (.keep (by simp) (.one (lb rfl) .nil))) .nil) (by omega) (by omega) (by omega) (by omega) (by omega)
 ·simp-implicitDefEqProofs[hl2]
  exact fin out q l2 _ _ _ (abcW.take np) n2 (.keep (by simp) .nil) (.agg (.keep (by simp) (.keep (by simp) (.one (lb rfl) .nil))) .nil) (by omega) (by omega) (by omega) (by omega) (by omega)
end
section
theorem As{h:List AO}{s:List UInt8}{ps:List (List UInt8)}{bd:List Sm}{P B:AV}(hP:View h P (am ps))(hB:View h B (smL bd)):∀(j:Nat) (q:PV) (x:AV),(Fd.mk s ps bd).cs[j]?=some q->[AV.p (.str s),P,B][j]?=some x->View h x q:=by
 intro j q x e1 e2
 match j,e1,e2 with
 |0,e1,e2=>cases e1;cases e2;exact .p _
 |1,e1,e2=>cases e1;cases e2;exact hP
 |2,e1,e2=>cases e1;cases e2;exact hB
 |j+3,e1,e2=>simp[Fd.cs] at e1
theorem pB{h:List AO}{id:Nat}{l:List Fd}(e:h[id]?=some (.row 3 (aQ l))):View h (.sl id 3 0 l.length) (fdL l):=by
 have:=jw (h:=h) (id:=id) (sz:=3) (n:=l.length) (ls:=l.map Fd.cs) (by rw[e,aQ];simp) (by simp) (λx hx=>by obtain⟨b,_,rfl⟩:=VW.1 hx;exact b.cs_len)
 exact this
theorem Eu(a b:List Fd):aQ (a++b)=aQ a++aQ b:=by simp[aQ]
theorem AS(a:List Fd):(aQ a).length=a.length:=by simp[aQ]
theorem lC(a b:List Fd):aH (a++b)=aH a+aH b:=by simp[aH]
def Rm:List Fd:=[⟨[109],[],[⟨3,[],[⟨1,1,[],[]⟩],[],[]⟩]⟩]
theorem Hw:bl Rm=true:=by decide
theorem Hh(k:Nat)(hk:k<=3):(abcW.take k).length+((abcW.take k).map List.length).sum<=6:=by
 have h:k=0\/k=1\/k=2\/k=3:=by omega
 rcases h with rfl|rfl|rfl|rfl<;>decide
variable (G:al)
structure PgS where (j:Nat) (fns:List Fd) (q:Nat) (vs:List (List UInt8)) (next left:Int)
def Vj(b:List Int)(p n:Nat)(x:ARes)(h:List AO):Prop:=∃(l:List Fd) (q:Nat),x= .ret (.agg [.p (fdL l)])/\h=[rdO b q]/\bl l=true/\aH l<=200000000/\p<=q/\q<=p+n
def UF(b:List Int)(p n:Nat)(x:ARes)(h:List AO):Prop:=∃(l:List Fd) (q:Nat) (v:AV) (rest:List AO),x= .ret (.agg [v])/\h=rdO b q::rest/\View (tail 1 h) v (fdL l)/\bl l=true/\aH l<=200000000/\p<=q/\q<=p+n
theorem GA{b:List Int}(hb:Byt b)(hl:b.length<=2000){p:Nat}(hp:p<=10000000000):AC Tryz.prog G dm [.ptr 0 2 0 0] [rdO b p] (Vj b p 200000000):=by
 refine AC.frz (R:=UF b p 200000000) ?_ 1 (by simp) (λt v h ⟨_,_,_,_,e,_⟩=>by cases e) ?_
 ·refine AC.go Bz ?_
  simp-implicitDefEqProofs[rE]
  refine(jY G hb hl (p:=p) (by omega) [14,20,8,26] (k:=2) (by simp) (by simp) (by omega) rfl rfl).mono ?_
  rintro r h ⟨L0,hL0,rfl,rfl⟩
  have hL:0<=L0/\L0<=26:=by simp at hL0;omega
  simp-implicitDefEqProofs[aa]
  refine(jY G hb hl (p:=p+1) (by omega) [0,1,1,2] (k:=4) (by simp) (by simp) (by omega) rfl rfl).mono ?_
  rintro r h ⟨J0,hJ0,rfl,rfl⟩
  obtain⟨J,rfl,hJ⟩:∃J:Nat,J0=J/\J<=2:=⟨J0.toNat,by simp at hJ0;omega,by simp at hJ0;omega⟩
  simp-implicitDefEqProofs[aa]
  refine aN (λs:PgS=>ah 69 [(0,.ptr 0 2 0 0),(2,.ptr 3 1 0 0),(3,.ptr 1 5 0 0),(4,.p (.int .i64 s.j))])
   (λs=>[rdO b s.q,.row 5 [cx s.fns s.vs s.next s.left],bR 3 (aQ s.fns),.row 1 [[.nils]]])
   (λs=>s.j+s.fns.length<=2/\Ak s.fns/\aH s.fns<=s.fns.length*40000600/\p<=s.q/\s.q<=p+2+s.fns.length*40000600/\L0-s.fns.length*40000600<=s.left/\s.left<=L0)
   (λs=>s.j) ⟨J,[],p+1+1,[],0,L0⟩ ⟨by simp only[List.length_nil];omega,⟨by simp,by simp⟩,by simp[aH],by simp only;omega,by simp,by simp,by simp⟩ ?_ ?_
  ·refine Wk.trans (cZ (l1:=[(0,.ptr 0 2 0 0),(2,.ptr 3 1 0 0),(3,.ptr 1 5 0 0),(4,.p (.int .i64 J))])
    (h1:=[rdO b (p+1+1),.row 5 [[.ptr 0 2 0 0,.nils,.nils,.p (.int .i64 0),.p (.int .i64 L0)]],.dead,.row 1 [[.nils]]])
    [0,3,2,1] (by simp) (by decide) (by decide) (bJ rfl (aW _ _ _) (bW (by simp[below]) (by simp[ren,bg]) (fb (by simp) (bf rfl (by simp[below]) bL)))) (by simp[below,ren]))
    (jj 4 (by omega) (by simp) rfl (.same (aW _ _ _) (.one (.keep (by simp[below]) (.keep (by simp[below,aQ,slE]) (.one (View.nils 1) (.keep (by simp) (.keep (by simp) .nil))))) (.dead (.same (by simp[okO,below]) (.nil _))))) ?_)
   exact⟨.keep (by simp[below]) .nil,.keep (by simp[below]) .nil,.keep (by simp[below]) .nil,.keep (by simp[below]) .nil,trivial⟩
  rintro⟨j,fns,q,vs,nx,lf⟩ ⟨i1,i2,i3,i4,i5,i6,i7⟩
  simp only at i1 i2 i3 i4 i5 i6 i7
  simp-implicitDefEqProofs[cx]
  by_cases hj:0<j
  ·have hfl:fns.length<3:=by omega
   have hcl:(aQ fns).length=fns.length:=AS fns
   obtain⟨nm,hget,hnm⟩:∃nm:List UInt8,([[PV.str [102]],[PV.str [103]],[PV.str [104]]]:List (List PV))[fns.length]?=some [.str nm]/\nm.length<=8:=by
    have h3:fns.length=0\/fns.length=1\/fns.length=2:=by omega
    rcases h3 with h|h|h<;>rw[h]
    ·exact⟨[102],rfl,by simp⟩
    ·exact⟨[103],rfl,by simp⟩
    ·exact⟨[104],rfl,by simp⟩
   simp-implicitDefEqProofs[hj,hcl,hget]
   refine(aP G b hb hl q (by omega) 3 _).mono ?_
   rintro r h ⟨k,rfl,rfl,hk⟩
   have hk3:k<=3:=by omega
   simp-implicitDefEqProofs[aa,hcl,hget]
   refine(cU G (Sy G hb hl (p:=q+1) (by omega) fns i2 vs nx lf (by omega) (by omega) nm k hk3) _ (by simp[below])).mono ?_
   rintro r h ⟨v,q2,vs2,n2,l2,rfl,rfl,f,rfl,hf1,hf2,z1,z2,z3,z4,z5⟩
   have hcs:=f.cs_len
   have hcf:f.cs=[.str f.name,am f.params,smL f.body]:=rfl
   simp-implicitDefEqProofs[aa,cx,hcf]
   have hfs:f.sz<=40000600:=by
    have h1:f.sz=1+f.name.length+(f.params.length+(f.params.map List.length).sum)+aC f.body:=rfl
    have h2:=Hh k hk3
    rw[←hf2] at h2
    rw[hf1] at h1
    omega
   have hwj:IntKind.i64.wrap ((j:Int)-1)=((j-1:Nat):Int):=by rw[ab (by omega) (by omega)];omega
   have hfp:f.params.length<=3:=by rw[hf2];simp[abcW];omega
   have hrow:aQ fns++[[AV.p (.str f.name),.p (am f.params),.p (smL f.body)]]=aQ (fns++[f]):=by rw[Eu];rfl
   have hne:aQ (fns++[f])≠[]:=by simp[aQ]
   have hll:(aQ fns).length+1=(aQ (fns++[f])).length:=by simp[aQ]
   rw[hrow,hll]
   refine⟨⟨by rw[←hll,hcl];omega,by omega⟩,⟨j-1,fns++[f],q2,vs2,n2,l2⟩,⟨by simp;omega,⟨by simp;omega,?_⟩,by simp only[lC,VO];simp[aH] at*;omega,by simp only;omega,by simp;omega,by simp;omega,by simp only;omega⟩,by simp only;omega,?_⟩
   ·intro x hx
    rcases VJ.1 hx with h|h
    ·exact i2.2 x h
    ·rw[VK.1 h,hf1];exact⟨hnm,hfp⟩
   ·rw[dh hne,ew hne]
    refine cZ [0,1,5,3] (by simp) (by decide) (by decide) (bJ rfl (aW _ _ _) (bW (by simp[below]) (by simp[ren,bg]) (bf rfl (pG _) (bf rfl (by simp[below]) bL)))) (by simp[below,ren,hwj])
  ·simp-implicitDefEqProofs[hj]
   refine(jY G hb hl (p:=q) (by omega) [0,1,2,1] (k:=4) (by simp) (by simp) (by omega) rfl rfl).mono ?_
   rintro r h ⟨N0,hN0,rfl,rfl⟩
   obtain⟨np,rfl,hnp⟩:∃J:Nat,N0=J/\J<=2:=⟨N0.toNat,by simp at hN0;omega,by simp at hN0;omega⟩
   simp-implicitDefEqProofs[aa]
   refine(cU G (Sy G hb hl (p:=q+1) (by omega) fns i2 vs nx lf (by omega) (by omega) [109] np (by omega)) _ (by simp[below])).mono ?_
   rintro r h ⟨v,q2,vs2,n2,l2,rfl,rfl,f,rfl,hf1,hf2,z1,z2,z3,z4,z5⟩
   have hcf:f.cs=[.str f.name,am f.params,smL f.body]:=rfl
   have hcl:(aQ fns).length=fns.length:=AS fns
   have hfs:f.sz<=40000600:=by
    have h1:f.sz=1+f.name.length+(f.params.length+(f.params.map List.length).sum)+aC f.body:=rfl
    have h2:=Hh np (by omega)
    rw[←hf2] at h2
    rw[hf1] at h1
    simp at h1
    omega
   by_cases hfe:fns=[]
   ·subst hfe
    have h0:aQ []=[]:=rfl
    rw[h0]
    simp-implicitDefEqProofs[aa,cx,hcf,h0,Dj,zG]
    have hrow:[[AV.p (.str f.name),.p (am f.params),.p (smL f.body)]]=aQ [f]:=rfl
    rw[hrow]
    have vw:∀h:List AO,h[8]?=some (.row 3 (aQ [f]))->View h (.sl 8 3 0 1) (fdL [f]):=λh e=>pB (l:=[f]) e
    refine((kX G [f] (by simp only[aH,VY,List.map_nil,List.sum_cons,List.sum_nil] at*;omega)).lend (.agg (.one (vw _ rfl) .nil) .nil) rfl).mono ?_
    rintro r h ⟨rfl,rfl⟩
    simp-implicitDefEqProofs[aa]
    by_cases hok:bl [f]=true
    ·simp-implicitDefEqProofs[hok]
     exact⟨[f],q2,_,_,rfl,rfl,vw _ rfl,hok,by simp only[aH,VY,List.map_nil,List.sum_cons,List.sum_nil] at*;omega,by omega,by omega⟩
    ·have hok':bl [f]=false:=by simpa using hok
     simp-implicitDefEqProofs[hok']
     exact⟨Rm,q2,_,_,rfl,rfl,bm (p0:=(Fd.mk [109] [] [⟨3,[],[⟨1,1,[],[]⟩],[],[]⟩]).cs) rfl rfl (As (View.nils 1) (bm (p0:=(Sm.mk 3 [] [⟨1,1,[],[]⟩] [] []).cs) rfl (Sm.cs_len _) (bT (bm (p0:=(Ex.mk 1 1 [] []).cs) rfl (Ex.cs_len _) (fW (View.nils 4))) (View.nils 5) (View.nils 5)))),Hw,by decide,by omega,by omega⟩
   ·have h0:aQ fns≠[]:=λh=>hfe (List.map_eq_nil_iff.1 h)
    simp only[cx,ew h0,dh h0]
    simp-implicitDefEqProofs[aa,hcf,hcl]
    refine⟨⟨by omega,by omega⟩,⟨by omega,by omega⟩,?_⟩
    have hrow:List.take fns.length (List.take fns.length (aQ fns))++[[AV.p (.str f.name),.p (am f.params),.p (smL f.body)]]=aQ (fns++[f]):=by
     rw[VE (by rw[Wb];omega),VE (by omega),Eu];rfl
    rw[hrow]
    have vw:∀h:List AO,h[8]?=some (.row 3 (aQ (fns++[f])))->View h (.sl 8 3 0 (fns.length+1)) (fdL (fns++[f])):=λh e=>by
     have:=pB e
     rwa[VO,List.length_singleton] at this
    refine((kX G (fns++[f]) (by rw[lC];simp only[aH,VY,List.map_nil,List.sum_cons,List.sum_nil] at*;omega)).lend (.agg (.one (vw _ rfl) .nil) .nil) rfl).mono ?_
    rintro r h ⟨rfl,rfl⟩
    simp-implicitDefEqProofs[aa]
    by_cases hok:bl (fns++[f])=true
    ·simp-implicitDefEqProofs[hok]
     exact⟨fns++[f],q2,_,_,rfl,rfl,vw _ rfl,hok,by rw[lC];simp only[aH,VY,List.map_nil,List.sum_cons,List.sum_nil] at*;omega,by omega,by omega⟩
    ·have hok':bl (fns++[f])=false:=by simpa using hok
     simp-implicitDefEqProofs[hok']
     exact⟨Rm,q2,_,_,rfl,rfl,bm (p0:=(Fd.mk [109] [] [⟨3,[],[⟨1,1,[],[]⟩],[],[]⟩]).cs) rfl rfl (As (View.nils 1) (bm (p0:=(Sm.mk 3 [] [⟨1,1,[],[]⟩] [] []).cs) rfl (Sm.cs_len _) (bT (bm (p0:=(Ex.mk 1 1 [] []).cs) rfl (Ex.cs_len _) (fW (View.nils 4))) (View.nils 5) (View.nils 5)))),Hw,by decide,by omega,by omega⟩
 ·rintro v h ⟨l,q,v0,rest,e,rfl,hv,h1,h2,h3,h4⟩
  cases e
  exact⟨_,[rdO b q],by simp,rfl,.agg (.one hv .nil) .nil,.same (aW _ _ _) (.nil _),l,q,rfl,rfl,h1,h2,h3,h4⟩
end
section
variable (G:al)
theorem Ca{hF:List AO}{n:Nat}{o k:Int}{w:List UInt8}{ks:List Ex}{K:AV}(hk:View hF K (exL ks)):Fzs hF n [.agg [.p (.int .i64 o),.p (.int .i64 k),.p (.str w),K]] [.agg ((Ex.mk o k w ks).cs.map .p)]:=by
 rw[Ex.cs_eq]
 exact .agg (.keep (by simp) (.keep (by simp) (.keep (by simp) (.one hk .nil)))) .nil
def Ow(h:List AO)(kids:List Ex)(K:AV):Prop:=(K= .nils/\kids=[])\/∃id rows hX,K= .sl (id+1) 4 0 kids.length/\kids≠[]/\h[id+1]?=some (.row 4 rows)/\hX.length=h.length/\(∀(i:Nat) o,hX[i]?=some o->o.live->h[i]?=some o)/\¬Live hX 0/\¬Live hX (id+1)/\
 rows.length=kids.length/\∀(j:Nat) (e e1:List AV),rows[j]?=some e->(exR kids)[j]?=some e1->Fzs hX h.length e e1
def DT(b:List Int)(Q:Ex->Nat->Prop)(x:ARes)(h:List AO):Prop:=∃(e:Ex) (q:Nat) (rest:List AO) (K:AV),x= .ret (.agg [.p (.int .i64 e.op),.p (.int .i64 e.n),.p (.str e.name),K])/\h=rdO b q::rest/\Ow h e.kids K/\Q e q
def EN(b:List Int)(Q:Ex->Nat->Prop)(x:ARes)(h:List AO):Prop:=∃(e:Ex) (q:Nat),x= .ret (.agg [.p (.int .i64 e.op),.p (.int .i64 e.n),.p (.str e.name),slE 1 4 (exR e.kids)])/\h=[rdO b q,bR 4 (exR e.kids)]/\Q e q
def EoQ(p n m:Nat)(e:Ex)(q:Nat):Prop:=e.sz<=n/\p<=q/\q<=p+m
theorem Ek{hF:List AO}{n:Nat}:∀h:List AO,FzO hF n h (List.replicate h.length .dead)
 |[]=> .nil _
 |o::r=>by rw[VV,List.replicate_succ];exact .dead (Ek r)
theorem Fo{hF:List AO}{n sz:Nat}{es es1:List (List AV)}(hl:es.length=es1.length)(hv:∀(j:Nat) (e e1:List AV),es[j]?=some e->es1[j]?=some e1->Fzs hF n e e1):∀(h:List AO) (id:Nat),h[id]?=some (.row sz es)->FzO hF n h ((List.replicate h.length .dead).set id (.row sz es1))
 |[],id,e=>by simp at e
 |o::r,0,e=>by
  cases e
  rw[VV,List.replicate_succ,List.set_cons_zero]
  exact .rows hl hv (Ek r)
 |o::r,id+1,e=>by
  rw[VV,List.replicate_succ,List.set_cons_succ]
  exact .dead (Fo hl hv r id (by simpa using e))
theorem Fc{f:FuncId}{args:List AV}{b:List Int}{p:Nat}{Q:Ex->Nat->Prop}(H:AC Tryz.prog G f args [rdO b p] (DT b Q)):AC Tryz.prog G f args [rdO b p] (EN b Q):=by
 refine H.wk (λt v h ⟨_,_,_,_,e,_⟩=>by cases e) ?_
 rintro v h ⟨e,q,rest,K,ev,rfl,hk,hq⟩
 cases ev
 rcases hk with⟨rfl,hk⟩|⟨id,rows,hX,rfl,hne,he,x1,x2,x3,x4,x5,x6⟩
 ·refine⟨_,_,?_,e,q,rfl,rfl,hq⟩
  have h0:exR e.kids=[]:=by rw[hk];rfl
  rw[h0,Dj,zG]
  exact Wk.ofL [0,0] (by simp) (by simp) (by simp[rdO,ju]) (by simp[below,af,ren,bg]) (bJ rfl (aW _ _ _) (fb (by simp) bL))
 ·have hr:exR e.kids≠[]:=λh=>hne (List.map_eq_nil_iff.1 h)
  have hrl:(exR e.kids).length=e.kids.length:=by simp[exR]
  rw[VQ] at he
  have hid:id<rest.length:=(Vx.1 he).1
  refine⟨.agg [.p (.int .i64 e.op),.p (.int .i64 e.n),.p (.str e.name),slE 1 4 (exR e.kids)],[rdO b q,bR 4 (exR e.kids)],?_,e,q,rfl,rfl,hq⟩
  rw[dh hr,ew hr,hrl]
  refine Wk.trans (ts1:=[.agg [.p (.int .i64 e.op),.p (.int .i64 e.n),.p (.str e.name),.sl (id+1) 4 0 e.kids.length]]) (h1:=rdO b q::(List.replicate rest.length .dead).set id (.row 4 (exR e.kids))) (Hg (hX:=hX) (by simp) x1 x2 (λi ⟨o,e1,l1⟩ ⟨o2,e2,l2⟩=>?_) (by simp) rfl (λi u hi=>?_) (.same (aW _ _ _) (Fo (by rw[hrl];exact x5) x6 rest id he))) ?_
  ·cases i with
   |zero=>exact x3 ⟨o,e1,l1⟩
   |succ i=>
    by_cases hi:i=id
    ·subst hi;exact x4 ⟨o,e1,l1⟩
    ·rw[VQ,Vy (Ne.symm hi),List.getElem?_replicate] at e2
     split at e2
     ·cases e2;exact l2
     ·cases e2
  ·cases i with
   |zero=>cases hi;exact .inr ⟨_,rfl,gQ (by simp[below,af];exact hid)⟩
   |succ i=>simp at hi
  ·refine Wk.of [0,id+1] (by simp) (by simp) (by simp) (by simp[below,af,ren,bg]) (bJ rfl (aW _ _ _) (bf ?_ (dU _) bL))
   rw[VQ,VC (by simpa using hid)]
theorem zf{f:FuncId}{args:List AV}{b:List Int}{p:Nat}{Q:Ex->Nat->Prop}(H:AC Tryz.prog G f args [rdO b p] (EN b Q))(rest:List AO)(ha:af 1 args):
 AC Tryz.prog G f args (rdO b p::rest) λx h=>∃(e:Ex) (q:Nat),x= .ret (.agg [.p (.int .i64 e.op),.p (.int .i64 e.n),.p (.str e.name),slE (rest.length+1) 4 (exR e.kids)])/\h=rdO b q::(rest++[bR 4 (exR e.kids)])/\Q e q:=by
 refine(H.frame (h:=rdO b p::rest) [0] (by simp) (Ez (n:=1) ha) (bJ rfl (aW _ _ _) bL)).mono ?_
 rintro x h ⟨x0,h0,⟨e,q,rfl,rfl,hq⟩,hl,rfl,rfl⟩
 have hp:∀σ,ib σ (bR 4 (exR e.kids))=bR 4 (exR e.kids):=λσ=>by
  unfold bR
  split
  ·rfl
  ·simp only[ib]
   rw[Wd (g:=id) λx hx=>dY _ x (dU _ x hx)];simp
 have hp2:∀σ,ib σ (rdO b q)=rdO b q:=λσ=>by simp[rdO,ib,bg,ren]
 refine⟨e,q,?_,?_,hq⟩
 ·simp[BA,ren,bg]
 ·have hl2:([rdO b q,bR 4 (exR e.kids)]:List AO).length-[rdO b p].length=1:=rfl
  rw[hl2]
  simp only[VV,List.length_nil,WC,List.take_succ_cons,List.take_zero,VY,List.map_nil,hp2,List.drop_succ_cons,List.drop_zero,mrg,List.set_cons_zero,Wn,hp]
def LfQ(p:Nat)(v:AV)(q:Nat):Prop:=(∃(o n:Int) (s:List UInt8),v= .agg [.p (.int .i64 o),.p (.int .i64 n),.p (.str s),.nils]/\s.length<=8)/\p<=q/\q<=p+2
theorem IR{b:List Int}(hb:Byt b)(hl:b.length<=2000){p:Nat}(hp:p<=1000000000000)(names:List (List UInt8))(hn:uX names):AC Tryz.prog G dp [.ptr 0 2 0 0,.p (am names)] [rdO b p] λx h=>∃v q,x= .ret v/\h=[rdO b q]/\LfQ p v q:=by
 refine lM G (AC.go rU ?_)
 have hsl:am names= .lst 1 (names.map λw=>[.str w]):=rfl
 have fin1:∀(o n:Int) (s:List UInt8) (q:Nat) (rest:List AO),p<=q->q<=p+2->s.length<=8->DP b (LfQ p) (.ret (.agg [.p (.int .i64 o),.p (.int .i64 n),.p (.str s),.nils])) (rdO b q::rest):=λo n s q rest h1 h2 hs=>
  ⟨_,rest,q,_,rfl,rfl,gQ (by simp),⟨o,n,s,rfl,hs⟩,h1,h2⟩
 have num:∀(q:Nat) (h:List AO),q<=1000000000001->h[0]?=some (rdO b q)->h[2]?=some (gE [0,1,2,3,5,7,15,16,100,255])->_:=λq h hq h0 h1=>jY G hb hl (p:=q) (by omega) [0,1,2,3,5,7,15,16,100,255] (h:=h) (k:=2) (by simp) (by simp) (by omega) h0 h1
 by_cases hne:names=[]
 ·subst hne
  have hs0:am []= .lst 1 []:=rfl
  simp-implicitDefEqProofs[fS,hs0]
  refine(num p _ (by omega) rfl rfl).mono ?_
  rintro r h ⟨n,_,rfl,rfl⟩
  simp-implicitDefEqProofs[aa]
  exact fin1 _ _ _ _ _ (by omega) (by omega) (by simp)
 ·have hlen:¬names.length=0:=λh=>hne (Wp h)
  simp-implicitDefEqProofs[fS,hsl,hne]
  refine(aP G b hb hl p (by omega) 3 _).mono ?_
  rintro r h ⟨k,rfl,rfl,_⟩
  simp-implicitDefEqProofs[aa]
  refine bh (λhc=>?_) (λhc=>?_)
  ·simp-implicitDefEqProofs[]
   refine(num (p+1) _ (by omega) rfl rfl).mono ?_
   rintro r h ⟨n,_,rfl,rfl⟩
   simp-implicitDefEqProofs[aa]
   exact fin1 _ _ _ _ _ (by omega) (by omega) (by simp)
  ·simp-implicitDefEqProofs[]
   rw[←hsl]
   refine(Hk G hb hl (by omega) names hne (by have:=hn.1;omega) _).mono ?_
   rintro r h ⟨s,hs,rfl,rfl⟩
   have:=hn.2 s hs
   simp-implicitDefEqProofs[aa]
   exact fin1 _ _ _ _ _ (by omega) (by omega) this
theorem Jc{b:List Int}(hb:Byt b)(hl:b.length<=2000)(names:List (List UInt8))(hn:uX names)(d:Nat)(hd:d+1<=20){p:Nat}(hp:p+6*3^(d+1)<=1000000000000):AC Tryz.prog G aU [.ptr 0 2 0 0,.p (am names),.p (.int .i64 ((d+1:Nat):Int))] [rdO b p] (EN b (EoQ p (10*3^(d+1)) (6*3^(d+1)))):=by
 have hpow:3^(d+1)=3*3^d:=by rw[Nat.pow_succ];omega
 have h1p:1<=3^d:=Nat.one_le_pow _ _ (by omega)
 have ih:=λ{p:Nat} (hp:p+6*3^d<=1000000000000)=>zK G hb hl names hn d (by omega) (p:=p) hp
 rw[hpow] at hp⊢
 generalize 3^d=t at*
 have hw:IntKind.i64.wrap (d:Int)=(d:Int):=ab (by omega) (by omega)
 have leaf:∀(q:Nat) (rest:List AO),p<=q->q<=p+3->AC Tryz.prog G dp [.ptr 0 2 0 0,.p (am names)] (rdO b q::rest) λx h=>∃v q',x= .ret v/\h=rdO b q'::rest/\LfQ q v q':=λq rest _ _=>jL G (IR G hb hl (by omega) names hn) rest (by simp[below])
 have sub:∀(q:Nat) (rest:List AO),p<=q->q<=p+6+6*t->AC Tryz.prog G aU [.ptr 0 2 0 0,.p (am names),.p (.int .i64 d)] (rdO b q::rest) λx h=>∃v q',x= .ret v/\h=rdO b q'::rest/\ExQ q (10*t) (6*t) v q':=λq rest _ _=>jL G (ih (by omega)) rest (by simp[below])
 refine Fc G (AC.go mz ?_)
 have leafCase:∀(o n:Int) (s:List UInt8) (q:Nat) (rest:List AO),s.length<=8->p<=q->q<=p+5->DT b (EoQ p (10*(3*t)) (6*(3*t))) (.ret (.agg [.p (.int .i64 o),.p (.int .i64 n),.p (.str s),.nils])) (rdO b q::rest):=λo n s q rest h1 h2 h3=>
  ⟨⟨o,n,s,[]⟩,q,rest,_,rfl,rfl,.inl ⟨rfl,rfl⟩,by simp[Ex.sz,aX];omega,h2,by omega⟩
 have top:∀(kids:List Ex) (h:List AO) (k:Nat),h[k+1]?=some (.row 4 (exR kids))->kids≠[]->Ow h kids (.sl (k+1) 4 0 kids.length):=λkids h k hk hne=>
  .inr ⟨k,exR kids,List.replicate h.length .dead,rfl,hne,hk,by simp,λi o e l=>(by rw[List.getElem?_replicate] at e;split at e<;>cases e;exact l.elim),λ⟨o,e,l⟩=>(by rw[List.getElem?_replicate] at e;split at e<;>cases e;exact l.elim),λ⟨o,e,l⟩=>(by rw[List.getElem?_replicate] at e;split at e<;>cases e;exact l.elim),by simp[exR],λj e e1 h1 h2=>(by rw[h1] at h2;cases h2;exact gQ (bj (WA _) _ (dU _ e (VD h1))))⟩
 have bin:∀(o:Int) (e1 e2:Ex) (q:Nat) (rest:List AO) (k:Nat),(rdO b q::rest)[k+1]?=some (.row 4 [e1.cs.map .p,e2.cs.map .p])->e1.sz<=10*t->e2.sz<=10*t->p<=q->q<=p+6*(3*t)->DT b (EoQ p (10*(3*t)) (6*(3*t))) (.ret (.agg [.p (.int .i64 o),.p (.int .i64 0),.p (.str []),.sl (k+1) 4 0 2])) (rdO b q::rest):=λo e1 e2 q rest k hk h1 h2 h3 h4=>
  ⟨⟨o,0,[],[e1,e2]⟩,q,rest,_,rfl,rfl,top [e1,e2] _ k hk (by simp),by simp[Ex.sz,aX];omega,h3,h4⟩
 have una:∀(o:Int) (e1:Ex) (q:Nat) (rest:List AO) (k:Nat),(rdO b q::rest)[k+1]?=some (.row 4 [e1.cs.map .p])->e1.sz<=10*t->p<=q->q<=p+6*(3*t)->DT b (EoQ p (10*(3*t)) (6*(3*t))) (.ret (.agg [.p (.int .i64 o),.p (.int .i64 0),.p (.str []),.sl (k+1) 4 0 1])) (rdO b q::rest):=λo e1 q rest k hk h1 h3 h4=>
  ⟨⟨o,0,[],[e1]⟩,q,rest,_,rfl,rfl,top [e1] _ k hk (by simp),by simp[Ex.sz,aX];omega,h3,h4⟩
 by_cases hd0:d=0
 ·subst hd0
  simp-implicitDefEqProofs[ee]
  refine(leaf p _ (by omega) (by omega)).mono ?_
  rintro r h ⟨v,q,rfl,rfl,⟨o,n,s,rfl,he⟩,h1,h2⟩
  simp-implicitDefEqProofs[aa]
  exact leafCase o n s q _ he (by omega) (by omega)
 have hd2:¬(d:Int)+1<2:=by omega
 simp-implicitDefEqProofs[ee,hd2]
 refine(aP G b hb hl p (by omega) 4 _).mono ?_
 rintro r h ⟨k1,rfl,rfl,_⟩
 simp-implicitDefEqProofs[aa]
 refine bh (λhc=>?_) (λhc=>?_)
 ·simp-implicitDefEqProofs[]
  refine(leaf (p+1) _ (by omega) (by omega)).mono ?_
  rintro r h ⟨v,q,rfl,rfl,⟨o,n,s,rfl,he⟩,h1,h2⟩
  simp-implicitDefEqProofs[aa]
  exact leafCase o n s q _ he (by omega) (by omega)
 simp-implicitDefEqProofs[]
 refine(aP G b hb hl (p+1) (by omega) 7 _).mono ?_
 rintro r h ⟨k2,rfl,rfl,_⟩
 simp-implicitDefEqProofs[aa]
 refine bh (λhc=>?_) (λhc=>?_)
 ·simp-implicitDefEqProofs[]
  refine(jY G hb hl (p:=p+2) (by omega) [11,12,11] (k:=2) (by simp) (by simp) (by omega) rfl rfl).mono ?_
  rintro r h ⟨n,_,rfl,rfl⟩
  simp-implicitDefEqProofs[aa,hw]
  refine(sub (p+3) _ (by omega) (by omega)).mono ?_
  rintro r h ⟨v,q,rfl,rfl,⟨e,rfl,he⟩,h1,h2⟩
  have hec:=e.cs_eq
  simp-implicitDefEqProofs[aa,hec]
  exact una n e q _ 2 (by rw[hec];rfl) he (by omega) (by omega)
 ·simp-implicitDefEqProofs[]
  refine(jY G hb hl (p:=p+2) (by omega) [3,3,4,5,6,7,8,9,10] (k:=2) (by simp) (by simp) (by omega) rfl rfl).mono ?_
  rintro r h ⟨n,_,rfl,rfl⟩
  simp-implicitDefEqProofs[aa,hw]
  refine(sub (p+3) _ (by omega) (by omega)).mono ?_
  rintro r h ⟨v,q,rfl,rfl,⟨e,rfl,he⟩,h1,h2⟩
  have hec:=e.cs_eq
  simp-implicitDefEqProofs[aa,hec,hw]
  refine(sub q _ (by omega) (by omega)).mono ?_
  rintro r h ⟨v,q2,rfl,rfl,⟨e2,rfl,he2⟩,h3,h4⟩
  have hec2:=e2.cs_eq
  simp-implicitDefEqProofs[aa,hec2]
  exact bin n e e2 q2 _ 2 (by rw[hec,hec2];rfl) he he2 (by omega) (by omega)
end
section
variable (G:al)
theorem Td{h:List AO}{kids:List Ex}{id:Nat}(he:h[id+1]?=some (bR 4 (exR kids))):Ow h kids (slE (id+1) 4 (exR kids)):=by
 by_cases hk:kids=[]
 ·subst hk;exact .inl ⟨rfl,rfl⟩
 ·have hr:exR kids≠[]:=λh=>hk (List.map_eq_nil_iff.1 h)
  rw[ew hr] at he
  rw[dh hr]
  have hrl:(exR kids).length=kids.length:=by simp[exR]
  rw[hrl]
  exact .inr ⟨id,exR kids,List.replicate h.length .dead,rfl,hk,he,by simp,λi o e l=>(by rw[List.getElem?_replicate] at e;split at e<;>cases e;exact l.elim),λ⟨o,e,l⟩=>(by rw[List.getElem?_replicate] at e;split at e<;>cases e;exact l.elim),λ⟨o,e,l⟩=>(by rw[List.getElem?_replicate] at e;split at e<;>cases e;exact l.elim),by simp[exR],λj e e1 h1 h2=>(by rw[h1] at h2;cases h2;exact gQ (bj (WA _) _ (dU _ e (VD h1))))⟩
theorem Qm(l:List Ex)(n:Nat):okO n (bR 4 (exR l)):=eq (Nc (dU l))
theorem KD{hF:List AO}{n id:Nat}{e:Ex}(he:hF[id]?=some (bR 4 (exR e.kids))):Fzs hF n [.p (.int .i64 e.op),.p (.int .i64 e.n),.p (.str e.name),slE id 4 (exR e.kids)] (e.cs.map .p):=by
 rw[e.cs_eq]
 exact .keep (by simp) (.keep (by simp) (.keep (by simp) (.one (gH he) .nil)))
structure KdS where (k:Nat) (es:List Ex) (q:Nat)
theorem CZ{b:List Int}(hb:Byt b)(hl:b.length<=2000){d:Nat}(hd:d+1<=7){p:Nat}(hp:p+20000<=1000000000000):AC Tryz.prog G gL [.ptr 0 2 0 0,.p (.int .i64 ((d+1:Nat):Int))] [rdO b p] (EN b (EoQ p 30000 20000)):=by
 refine Fc G (AC.go Dp ?_)
 have h3:3^(d+1)<=2187:=by
  have:3^(d+1)<=3^7:=Nat.pow_le_pow_right (by omega) hd
  omega
 have fin:∀(e:Ex) (q:Nat) (rest:List AO) (K:AV),Ow (rdO b q::rest) e.kids K->e.sz<=30000->p<=q->q<=p+20000->DT b (EoQ p 30000 20000) (.ret (.agg [.p (.int .i64 e.op),.p (.int .i64 e.n),.p (.str e.name),K])) (rdO b q::rest):=λe q rest K hk h1 h2 h3=>
  ⟨e,q,rest,K,rfl,rfl,hk,h1,h2,h3⟩
 have hn4:uX [[97],[98],[120],[103,111]]:=⟨by simp,by simp⟩
 have hn2:uX [[97],[98]]:=⟨by simp,by simp⟩
 simp-implicitDefEqProofs[tT]
 refine(AC.give (hX:=[.dead,.dead,cJ [[97],[98],[120],[103,111]]]) (hR:=[rdO b p,.row 4 [[.p (.int .i64 0),.p (.int .i64 0),.p (.str []),.nils]],.dead]) (pargs:=[.ptr 0 2 0 0,.p (am [[97],[98],[120],[103,111]]),.p (.int .i64 ((d+1:Nat):Int))]) (.keep _ (.keep _ (.give _ .nil))) (.keep (by simp[below]) (.one (gB (l:=[[97],[98],[120],[103,111]]) rfl) (.keep (by simp) .nil))) (zf G (Jc G hb hl _ hn4 d (by omega) (by omega)) _ (by simp[below]))).mono ?_
 rintro r h ⟨e0,q,rfl,rfl,he0,h1,h2⟩
 simp-implicitDefEqProofs[aa]
 refine(aP G b hb hl q (by omega) 3 _).mono ?_
 rintro r h ⟨k1,rfl,rfl,_⟩
 simp-implicitDefEqProofs[aa]
 refine bh (λhc=>?_) (λhc=>?_)
 ·simp-implicitDefEqProofs[]
  exact fin e0 _ _ _ (Td rfl) (by omega) (by omega) (by omega)
 simp-implicitDefEqProofs[]
 refine(En G hb hl (p:=q+1) (by omega) [[102],[103],[97]] (k:=5) (by simp) (by simp) (by omega) rfl rfl).mono ?_
 rintro r h ⟨s,hs,rfl,rfl⟩
 have hsl:s.length<=8:=by simp at hs;rcases hs with rfl|rfl|rfl<;>simp
 simp-implicitDefEqProofs[aa]
 refine(aP G b hb hl (q+1+1) (by omega) 4 _).mono ?_
 rintro r h ⟨k2,rfl,rfl,hk2⟩
 simp-implicitDefEqProofs[aa]
 have hexn:∀(es:List Ex) (e:Ex),exR (es++[e])=exR es++[e.cs.map .p]:=λes e=>by simp[exR]
 refine aN (λs:KdS=>ah 42 [(7,.p (.int .i64 s.k)),(6,.ptr 6 4 0 0),(5,.ptr 4 4 0 0),(4,.ptr 1 4 0 0),(0,.ptr 0 2 0 0)])
  (λa=>[rdO b a.q,.row 4 [[.p (.int .i64 0),.p (.int .i64 0),.p (.str []),.nils]],.dead,bR 4 (exR e0.kids),.row 4 [[.p (.int .i64 e0.op),.p (.int .i64 e0.n),.p (.str e0.name),slE 3 4 (exR e0.kids)]],.row 1 [[.p (.str [102])],[.p (.str [103])],[.p (.str [97])]],
    .row 4 [[.p (.int .i64 13),.p (.int .i64 0),.p (.str s),slE 7 4 (exR a.es)]],bR 4 (exR a.es)])
  (λa=>a.k+a.es.length<=3/\aX a.es<=90*a.es.length/\q<=a.q/\a.q<=q+3+54*a.es.length) (λa=>a.k) ⟨k2,[],q+1+1+1⟩ ⟨by simp only[List.length_nil];omega,by simp[aX],by simp only;omega,by simp⟩
  (oo (by simp) (by simp) (by
    intro o h
    simp only[VL,Wa,or_false] at h
    rcases h with rfl|rfl|rfl|rfl|rfl|rfl|rfl
    ·exact aW _ _ _
    ·simp[okO,below]
    ·simp[okO]
    ·exact Qm _ _
    ·simp[okO,below]
    ·simp[okO,below]
    ·simp[okO,below]) (by simp[below])) ?_
 rintro⟨k,es,q1⟩ ⟨i1,i2,i3,i4⟩
 simp only at i1 i2 i3 i4
 have hxl:(exR es).length=es.length:=by simp[exR]
 simp-implicitDefEqProofs[]
 refine bh (λhc=>?_) (λhc=>?_)
 ·simp at hc
  simp-implicitDefEqProofs[]
  have hE:=jL G (zK G hb hl _ hn2 2 (by omega) (p:=q1) (by omega)) ([.row 4 [[.p (.int .i64 0),.p (.int .i64 0),.p (.str []),.nils]],.dead,bR 4 (exR e0.kids),.row 4 [[.p (.int .i64 e0.op),.p (.int .i64 e0.n),.p (.str e0.name),slE 3 4 (exR e0.kids)]],.row 1 [[.p (.str [102])],[.p (.str [103])],[.p (.str [97])]],
   .row 4 [[.p (.int .i64 13),.p (.int .i64 0),.p (.str s),slE 7 4 (exR es)]],bR 4 (exR es)]) (by simp[below])
  refine hE.mono ?_
  rintro r h ⟨v,q2,rfl,rfl,⟨e,rfl,he⟩,hq1,hq2⟩
  have hec':=e.cs_eq
  simp-implicitDefEqProofs[aa,hec']
  refine⟨by rw[hxl];omega,⟨k-1,es++[e],q2⟩,⟨by simp;omega,by rw[eM];simp[aX];omega,by simp only;omega,by simp;omega⟩,by simp;omega,?_⟩
  have hwk:IntKind.i64.wrap ((k:Int)-1)=((k-1:Nat):Int):=by rw[ab (by omega) (by omega)];omega
  rw[hexn,CJ _ (by simp),zE _ (by simp),hec']
  refine cZ [0,1,2,3,4,5,6,8] (by simp) (by decide) (by decide) (bJ rfl (aW _ _ _) (bW (by simp[below]) (by simp[ren,bg]) (fb (by simp) (OP rfl (dU _) (bW (by simp[below]) (by simp[ren,bg]) (bf rfl (by simp[below]) (bW (by simp[below]) (by simp[ren,bg]) (bf rfl (λx hx=>by
   rcases VJ.1 hx with h|h
   ·exact dU _ x h
   ·rw[VK.1 h];simp) bL)))))))) ?_
  simp[below,ren,hwk]
 ·simp at hc
  simp-implicitDefEqProofs[]
  refine(aP G b hb hl q1 (by omega) 2 _).mono ?_
  rintro r h ⟨k3,rfl,rfl,_⟩
  simp-implicitDefEqProofs[aa]
  refine bh (λhc2=>?_) (λhc2=>?_)
  ·simp-implicitDefEqProofs[]
   exact fin ⟨13,0,s,es⟩ (q1+1) _ _ (Td rfl) (by simp[Ex.sz];omega) (by omega) (by omega)
  ·simp-implicitDefEqProofs[]
   have hv:∀hF:List AO,hF[3]?=some (bR 4 (exR e0.kids))->hF[7]?=some (bR 4 (exR es))->∀(n j:Nat) (x x1:List AV),[[AV.p (.int .i64 e0.op),.p (.int .i64 e0.n),.p (.str e0.name),slE 3 4 (exR e0.kids)],[.p (.int .i64 13),.p (.int .i64 0),.p (.str s),slE 7 4 (exR es)]][j]?=some x->(exR [e0,⟨13,0,s,es⟩])[j]?=some x1->Fzs hF n x x1:=by
    intro hF h3 h7 n j x x1 a1 a2
    match j,a1,a2 with
    |0,a1,a2=>cases a1;cases a2;exact KD h3
    |1,a1,a2=>cases a1;cases a2;exact KD (e:=⟨13,0,s,es⟩) h7
    |j+2,a1,a2=>simp at a1
   refine fin ⟨3,0,[],[e0,⟨13,0,s,es⟩]⟩ (q1+1) _ _ (.inr ⟨7,_,[.dead,.dead,.dead,bR 4 (exR e0.kids),.dead,.dead,.dead,bR 4 (exR es),.dead],rfl,by simp[Ex.kids],rfl,rfl,λi o e l=>?_,λ⟨o,e,l⟩=>?_,λ⟨o,e,l⟩=>?_,rfl,hv _ rfl rfl _⟩) (by simp[Ex.sz,aX];omega) (by omega) (by omega)
   ·match i,e with
    |0,e=>cases e;exact l.elim
    |1,e=>cases e;exact l.elim
    |2,e=>cases e;exact l.elim
    |3,e=>exact e
    |4,e=>cases e;exact l.elim
    |5,e=>cases e;exact l.elim
    |6,e=>cases e;exact l.elim
    |7,e=>exact e
    |8,e=>cases e;exact l.elim
    |i+9,e=>simp at e
   ·cases e;exact l
   ·cases e;exact l
theorem Ls{b:List Int}(hb:Byt b)(hl:b.length<=2000){p:Nat}(hp:p+50000<=1000000000000):AC Tryz.prog G mH [.ptr 0 2 0 0] [rdO b p] λx h=>∃v q,x= .ret v/\h=[rdO b q]/\ExQ p 60000 50000 v q:=by
 refine lM G (AC.go BK ?_)
 have fin:∀(e:Ex) (q:Nat) (rest:List AO) (v:AV),Fzs (.dead::rest) 1 [v] [.agg (e.cs.map .p)]->e.sz<=60000->p<=q->q<=p+50000->DP b (ExQ p 60000 50000) (.ret v) (rdO b q::rest):=λe q rest v hz h1 h2 h3=>
  ⟨_,rest,q,.agg (e.cs.map .p),rfl,rfl,hz,⟨e,rfl,h1⟩,h2,h3⟩
 simp-implicitDefEqProofs[sk]
 refine(zf G (CZ G hb hl (d:=3) (by omega) (by omega)) _ (by simp[below])).mono ?_
 rintro r h ⟨e0,q,rfl,rfl,he0,h1,h2⟩
 have hsz:=e0.sz_eq
 have hkl:=bG e0.kids
 have hrl:(exR e0.kids).length=e0.kids.length:=by simp[exR]
 simp-implicitDefEqProofs[aa]
 refine(aP G b hb hl q (by omega) 20 _).mono ?_
 rintro r h ⟨k1,rfl,rfl,_⟩
 by_cases k10:k1=0
 ·subst k10
  simp-implicitDefEqProofs[aa]
  refine(jY G hb hl (p:=q+1) (by omega) [-1,256,3] (k:=4) (by simp) (by simp) (by omega) rfl rfl).mono ?_
  rintro r h ⟨n,_,rfl,rfl⟩
  simp-implicitDefEqProofs[aa]
  exact fin ⟨e0.op,n,e0.name,e0.kids⟩ _ _ _ (Ca (gH rfl)) (by simp[Ex.sz];omega) (by omega) (by omega)
 by_cases k11:k1=1
 ·subst k11
  simp-implicitDefEqProofs[aa]
  refine(En G hb hl (p:=q+1) (by omega) [[],[100,111],[65],[97,98,99,100,101],[113]] (k:=4) (by simp) (by simp) (by omega) rfl rfl).mono ?_
  rintro r h ⟨s,hs,rfl,rfl⟩
  have hsl:s.length<=8:=by simp at hs;rcases hs with rfl|rfl|rfl|rfl|rfl<;>simp
  simp-implicitDefEqProofs[aa]
  exact fin ⟨e0.op,e0.n,s,e0.kids⟩ _ _ _ (Ca (gH rfl)) (by simp[Ex.sz];omega) (by omega) (by omega)
 by_cases k12:k1=2
 ·subst k12
  simp-implicitDefEqProofs[aa]
  refine(jY G hb hl (p:=q+1) (by omega) [0,14,-1,5,11] (k:=4) (by simp) (by simp) (by omega) rfl rfl).mono ?_
  rintro r h ⟨n,_,rfl,rfl⟩
  simp-implicitDefEqProofs[aa]
  exact fin ⟨n,e0.n,e0.name,e0.kids⟩ _ _ _ (Ca (gH rfl)) (by simp[Ex.sz];omega) (by omega) (by omega)
 by_cases k13:k1=3
 ·subst k13
  simp-implicitDefEqProofs[aa]
  refine(AC.give (pargs:=[.ptr 0 2 0 0,.p (am [])]) (Spl.rest _) (.keep (by simp[below]) (.one (View.nils 1) .nil)) (jL G (zP G hb hl (p:=q+1) (by omega) [] ⟨by simp,by simp⟩) _ (by simp[below]))).mono ?_
  rintro r h ⟨v,q2,rfl,rfl,⟨e1,rfl,he1⟩,h3,h4⟩
  have hec1:=e1.cs_eq
  have hx:exR (e0.kids++[e1])=exR e0.kids++[[.p (.int .i64 e1.op),.p (.int .i64 e1.n),.p (.str e1.name),.p (exL e1.kids)]]:=by simp[exR,hec1]
  have hne:exR (e0.kids++[e1])≠[]:=by simp[exR]
  simp-implicitDefEqProofs[aa,hec1]
  refine⟨by omega,?_⟩
  rw[←hx]
  have hl2:(exR e0.kids).length+1=(exR (e0.kids++[e1])).length:=by simp[exR]
  have hv:∀h:List AO,h[4]?=some (.row 4 (exR (e0.kids++[e1])))->View h (.sl 4 4 0 ((exR e0.kids).length+1)) (exL (e0.kids++[e1])):=λh e=>by
   have:=gH (h:=h) (id:=4) (l:=e0.kids++[e1]) (by rw[ew hne];exact e)
   rwa[dh hne,←hl2] at this
  exact fin ⟨e0.op,e0.n,e0.name,e0.kids++[e1]⟩ q2 _ _ (Ca (hv _ rfl)) (by simp[Ex.sz,eM,aX];omega) (by omega) (by omega)
 by_cases k14:k1=4
 ·subst k14
  simp-implicitDefEqProofs[aa]
  refine(zf G (CZ G hb hl (d:=6) (by omega) (by omega)) _ (by simp[below])).mono ?_
  rintro r h ⟨e1,q2,rfl,rfl,he1,h3,h4⟩
  simp-implicitDefEqProofs[aa]
  have hs1:=e1.sz_eq
  exact fin ⟨e1.op,e1.n,e1.name,e1.kids⟩ _ _ _ (Ca (gH rfl)) (by simp[Ex.sz];omega) (by omega) (by omega)
 have c1:¬(k1:Int)=1:=by omega
 have c2:¬(k1:Int)=2:=by omega
 have c3:¬(k1:Int)=3:=by omega
 have c4:¬(k1:Int)=4:=by omega
 simp-implicitDefEqProofs[aa,k10,c1,c2,c3,c4]
 exact fin ⟨e0.op,e0.n,e0.name,e0.kids⟩ _ _ _ (Ca (gH rfl)) (by simp[Ex.sz];omega) (by omega) (by omega)
end
section
variable (G:al)
def PgQ(p n m:Nat)(v:AV)(q:Nat):Prop:=(∃l:List Fd,v= .agg [.p (fdL l)]/\aH l<=n)/\p<=q/\q<=p+m
theorem uK{h:List AO}{id sz:Nat}{rows:List (List AV)}{es:List (List PV)}(he:h[id]?=some (.row sz rows))(hl:rows.length=es.length)(hs:∀e∈es,e.length=sz)(hv:∀(i j:Nat) (e:List PV) (q:PV) (e':List AV) (a:AV),es[i]?=some e->e[j]?=some q->rows[i]?=some e'->e'[j]?=some a->View h a q){n:Nat}(hn:n=es.length):View h (.sl id sz 0 n) (.lst sz es):=by
 subst hn
 exact .sl id sz 0 rows es he (by omega) hs λi j e q e' a a1 a2 a3 a4=>hv i j e q e' a a1 a2 (by rwa[WC] at a3) a4
theorem ny{h:List AO}{e:List PV}{j:Nat}{q:PV}{a:AV}(h1:e[j]?=some q)(h2:(e.map AV.p)[j]?=some a):View h a q:=by
 rw[VN,h1] at h2;cases h2;exact .p _
theorem JE{h:List AO}{id k:Nat}{l:List Fd}{f:Fd}{P B:AV}(he:h[id]?=some (.row 3 ((aQ l).set k [.p (.str f.name),P,B])))(hk:k<l.length)(hP:View h P (am f.params))(hB:View h B (smL f.body)){n:Nat}(hn:n=l.length):View h (.sl id 3 0 n) (fdL (l.set k f)):=by
 refine uK (es:=(l.set k f).map Fd.cs) he (by simp[aQ]) (λe he=>by obtain⟨x,_,rfl⟩:=VW.1 he;simp) (λi j e q e' a a1 a2 a3 a4=>?_) (by simpa using hn)
 rw[VN] at a1
 by_cases hik:k=i
 ·subst hik
  rw[VC hk] at a1
  rw[VC (by simpa[aQ] using hk)] at a3
  cases a1;cases a3
  exact As (s:=f.name) (ps:=f.params) (bd:=f.body) hP hB j q a a2 a4
 ·rw[Vy hik] at a1 a3
  obtain⟨g,g1,g2⟩:=VB.1 a1
  subst g2
  rw[aQ,VN,g1] at a3
  cases a3
  exact ny a2 a4
theorem Jp{h:List AO}{id:Nat}{l:List (List UInt8)}{s:List UInt8}(he:h[id]?=some (.row 1 (List.take l.length (l.map λw=>[AV.p (.str w)])++[[.p (.str s)]]))):View h (.sl id 1 0 (l.length+1)) (am (l++[s])):=by
 have e:h[id]?=some (cJ (l++[s])):=by rw[he,VE (by simp)];simp[cJ]
 have:=gB e
 rwa[VO,List.length_singleton] at this
theorem tQ{h:List AO}{id:Nat}{l:List Sm}{s:Sm}{r:List AV}(he:h[id]?=some (.row 5 (List.take l.length (smR l)++[r])))(hr:∀(j:Nat) (q:PV) (a:AV),s.cs[j]?=some q->r[j]?=some a->View h a q):View h (.sl id 5 0 (l.length+1)) (smL (l++[s])):=by
 have hl:=fY l
 refine uK (es:=(l++[s]).map Sm.cs) he (by simp[hl]) (λe he=>by obtain⟨x,_,rfl⟩:=VW.1 he;simp) (λi j e q e' a a1 a2 a3 a4=>?_) (by simp)
 rw[VE (by omega)] at a3
 rw[List.map_append] at a1
 rcases Wo i l.length with hi|hi
 ·rw[Vz (by simpa using hi)] at a1
  rw[Vz (by omega)] at a3
  rw[VN] at a1
  obtain⟨g,g1,g2⟩:=VB.1 a1
  subst g2
  rw[smR,VN,g1] at a3
  cases a3
  exact ny a2 a4
 ·rw[VG (by simpa using hi)] at a1
  rw[VG (by omega),hl] at a3
  simp only[Wl] at a1
  generalize i-l.length=k at a1 a3
  cases k with
  |zero=>cases a1;cases a3;exact hr j q a a2 a4
  |succ k=>simp at a1
theorem JY{h:List AO}{id:Nat}{l:List Fd}{f:Fd}(he:h[id]?=some (.row 3 (List.take l.length (aQ l)++[f.cs.map .p]))):View h (.sl id 3 0 (l.length+1)) (fdL (l++[f])):=by
 have hl:=AS l
 have:=pB (h:=h) (id:=id) (l:=l++[f]) (by rw[he,VE (by omega)];simp[aQ])
 rwa[VO,List.length_singleton] at this
theorem EQ(l:List Fd)(k:Nat)(f:Fd):aH (l.set k f)<=aH l+f.sz:=by
 by_cases hk:k<l.length
 ·rw[fM f hk]
  have e:l=l.take k++l.drop k:=(Wu _ _).symm
  have e2:l.drop k=l[k]::l.drop (k+1):=Wz hk
  have h1:aH l=aH (l.take k)+aH (l.drop k):=by rw[←lC,←e]
  rw[lC]
  have h3:aH (f::l.drop (k+1))=f.sz+aH (l.drop (k+1)):=by simp[aH]
  have h4:aH (l.drop k)=l[k].sz+aH (l.drop (k+1)):=by rw[e2];unfold aH;rw[VY,List.sum_cons]
  omega
 ·rw[List.set_eq_of_length_le (by omega)];omega
theorem Cr{l:List Fd}{f:Fd}(h:f∈l):f.sz<=aH l:=by
 induction l with
 |nil=>cases h
 |cons x r ih=>
  have e:aH (x::r)=x.sz+aH r:=by simp[aH]
  rcases VL.1 h with rfl|h
  ·omega
  ·have:=ih h;omega
theorem Bp:AK.whole my=FK.ak mw:=rfl
structure NsS where (i:Nat) (o:Int) (w:List UInt8) (A B C:PV) (q:Nat)
structure BdS where (i:Nat) (bd:List Sm)
structure CfS where (f:Fd) (q:Nat)
theorem Lu{b:List Int}(hb:Byt b)(hl:b.length<=2000){p:Nat}(hp:p<=10000000000):AC Tryz.prog G mD [.ptr 0 2 0 0] [rdO b p] λx h=>∃v q,x= .ret v/\h=[rdO b q]/\PgQ p 500000000 200200000 v q:=by
 refine lM G (AC.goK BB Bp ?_)
 have hprog:AC Tryz.prog G dm [.ptr 0 2 0 0] [rdO b p] λx h=>∃v q,x= .ret v/\h=[rdO b q]/\((∃l:List Fd,v= .agg [.p (fdL l)]/\bl l=true/\aH l<=200000000)/\p<=q/\q<=p+200000000):=
  (GA G hb hl hp).mono λx h ⟨l,q,e1,e2,e3,e4,e5,e6⟩=>⟨_,q,e1,e2,⟨l,rfl,e3,e4⟩,e5,e6⟩
 simp-implicitDefEqProofs[my,mw]
 refine(jL G hprog _ (by simp[below])).mono ?_
 rintro r h ⟨v,q,rfl,rfl,⟨l,rfl,hok,hz⟩,h1,h2⟩
 have hlen:=((iY l).1 hok).1
 obtain⟨n,hn⟩:∃n,l.length=n+1:=⟨l.length-1,by omega⟩
 have hnl:n<l.length:=by omega
 have hfz:=Cr (VT hnl)
 obtain⟨f,hfe⟩:∃f,l[n]=f:=⟨_,rfl⟩
 rw[hfe] at hfz
 have hg:l[n]?=some f:=by rw[VA hnl,hfe]
 have fin:∀(r1:List (Nat × AV)) (f':Fd) (q':Nat) (rest:List AO) (P B:AV),Aw.look r1 0= .ptr 0 2 0 0->Aw.look r1 2= .ptr 1 1 0 0->Aw.look r1 3= .ptr 2 1 0 0->Aw.look r1 4= .ptr 3 3 0 0->View (.dead:: .dead:: .dead:: .dead::rest) P (am f'.params)->View (.dead:: .dead:: .dead:: .dead::rest) B (smL f'.body)->f'.sz<=300000000->q<=q'->q'<=q+100000->
  ∃s:CfS,(s.f.sz<=300000000/\q<=s.q/\s.q<=q+100000)/\Wk 1 (ah 145 r1) (rdO b q':: .row 1 [[.nils]]:: .row 1 [[.p (.lst 3 (l.map Fd.cs))]]:: .row 3 [[.p (.str f'.name),P,B]]::rest) (ah 145 [(4,.ptr 3 3 0 0),(3,.ptr 2 1 0 0),(2,.ptr 1 1 0 0),(0,.ptr 0 2 0 0)])
   [rdO b s.q,.row 1 [[.nils]],.row 1 [[.p (.lst 3 (l.map Fd.cs))]],.row 3 [[.p (.str s.f.name),.p (am s.f.params),.p (smL s.f.body)]]]:=λr1 f' q' rest P B e0 e2 e3 e4 hP hB hz' h3 h4=>
  ⟨⟨f',q'⟩,⟨hz',h3,h4⟩,jj 4 (by omega) (by simp) rfl (.same (aW _ _ _) (.same (by simp[okO,below]) (.same (by simp[okO,below]) (.one (.keep (by simp[below]) (.one hP (.one hB .nil))) (.nil _))))) (by
    simp only[FzA,e0,e2,e3,e4]
    exact⟨.keep (by simp[below]) .nil,.keep (by simp[below]) .nil,.keep (by simp[below]) .nil,.keep (by simp[below]) .nil,trivial⟩)⟩
 have hfsz:f.sz=1+f.name.length+(f.params.length+(f.params.map List.length).sum)+aC f.body:=rfl
 have hln:l.length<=4:=hlen.2
 have hbl:=cr f.body
 have hcs:f.cs=[.str f.name,am f.params,smL f.body]:=rfl
 have hfl:fdL l= .lst 3 (l.map Fd.cs):=rfl
 have hw:IntKind.i64.wrap ((l.length:Int)-1)=(n:Int):=by rw[ab (by omega) (by omega)];omega
 have hsl:am f.params= .lst 1 (f.params.map λw=>[.str w]):=rfl
 have hml:smL f.body= .lst 5 (f.body.map Sm.cs):=rfl
 simp-implicitDefEqProofs[aa,hfl,hw,hg,hcs]
 refine vp (λ_:CfS=>ah 145 [(4,.ptr 3 3 0 0),(3,.ptr 2 1 0 0),(2,.ptr 1 1 0 0),(0,.ptr 0 2 0 0)]) (λs=>[rdO b s.q,.row 1 [[.nils]],.row 1 [[.p (.lst 3 (l.map Fd.cs))]],.row 3 [[.p (.str s.f.name),.p (am s.f.params),.p (smL s.f.body)]]])
  (λs=>s.f.sz<=300000000/\q<=s.q/\s.q<=q+100000) ?_ ?_
 rotate_left
 ·rintro⟨f',q'⟩ ⟨h3,h4,h5⟩
  simp only at h3 h4 h5
  simp-implicitDefEqProofs[hw,hnl,hfe,hcs]
  exact⟨⟨by omega,by omega⟩,_,_,q',.agg [.p (fdL (l.set n f'))],rfl,rfl,.agg (.one (JE (f:=f') rfl hnl (.p _) (.p _) rfl) .nil) .nil,⟨_,rfl,by have:=EQ l n f';omega⟩,by omega,by omega⟩
 simp-implicitDefEqProofs[]
 refine(aP G b hb hl q (by omega) 32 _).mono ?_
 rintro r h ⟨k,rfl,rfl,_⟩
 by_cases k0:k=0
 ·subst k0
  simp-implicitDefEqProofs[aa]
  refine(En G hb hl (p:=q+1) (by omega) [[102],[100,111],[],[103]] (k:=4) (by simp) (by simp) (by omega) rfl rfl).mono ?_
  rintro r h ⟨s,hs,rfl,rfl⟩
  have hs8:s.length<=8:=by simp at hs;rcases hs with rfl|rfl|rfl|rfl<;>simp
  simp-implicitDefEqProofs[aa]
  exact fin _ ⟨s,f.params,f.body⟩ _ _ _ _ (by simp) (by simp) (by simp) (by simp) (.p _) (.p _) (by simp only[Fd.sz];omega) (by omega) (by omega)
 by_cases k1:k=1
 ·subst k1
  simp-implicitDefEqProofs[aa,hsl]
  refine⟨⟨by omega,by omega⟩,?_⟩
  refine(En G hb hl (p:=q+1) (by omega) [[97],[120],[105,102]] (k:=6) (by simp) (by simp) (by omega) rfl rfl).mono ?_
  rintro r h ⟨s,hs,rfl,rfl⟩
  have hs8:s.length<=8:=by simp at hs;rcases hs with rfl|rfl|rfl<;>simp
  simp-implicitDefEqProofs[aa]
  refine⟨⟨by omega,by omega⟩,?_⟩
  exact fin _ ⟨f.name,f.params++[s],f.body⟩ _ _ _ _ (by simp) (by simp) (by simp) (by simp) (Jp rfl) (.p _) (by simp[Fd.sz];omega) (by omega) (by omega)
 by_cases k2:k=2
 ·subst k2
  simp-implicitDefEqProofs[aa,hml]
  refine⟨⟨by omega,by omega⟩,?_⟩
  refine(jL G (Ls G hb hl (p:=q+1) (by omega)) _ (by simp[below])).mono ?_
  rintro r h ⟨v,q2,rfl,rfl,⟨e,rfl,he⟩,h3,h4⟩
  have hec:=e.cs_eq
  simp-implicitDefEqProofs[aa,hec]
  refine⟨⟨by omega,by omega⟩,?_⟩
  exact fin _ ⟨f.name,f.params,f.body++[⟨3,[],[e],[],[]⟩]⟩ _ _ _ _ (by simp) (by simp) (by simp) (by simp) (.p _) (tQ rfl (bT (dW (l:=[e]) (by rw[WE,hec];rfl)) (View.nils 5) (View.nils 5))) (by simp[Fd.sz,bC,aC,Sm.sz,aX];omega) (by omega) (by omega)
 by_cases k3:k=3
 ·subst k3
  simp-implicitDefEqProofs[aa,hml]
  refine⟨⟨by omega,by omega⟩,?_⟩
  refine(aP G b hb hl (q+1) (by omega) 10 _).mono ?_
  rintro r h ⟨o,rfl,rfl,_⟩
  simp-implicitDefEqProofs[aa]
  refine(En G hb hl (p:=q+1+1) (by omega) [[],[97],[122,122]] (k:=6) (by simp) (by simp) (by omega) rfl rfl).mono ?_
  rintro r h ⟨s,hs,rfl,rfl⟩
  have hs8:s.length<=8:=by simp at hs;rcases hs with rfl|rfl|rfl<;>simp
  simp-implicitDefEqProofs[aa]
  refine(zf G (CZ G hb hl (d:=1) (by omega) (p:=q+1+1+1) (by omega)) _ (by simp[below])).mono ?_
  rintro r h ⟨e,q2,rfl,rfl,he,h3,h4⟩
  simp-implicitDefEqProofs[aa]
  refine⟨⟨by omega,by omega⟩,?_⟩
  obtain⟨eo,en,es,ek⟩:=e
  exact fin _ ⟨f.name,f.params,f.body++[⟨o,s,[⟨eo,en,es,ek⟩],[],[]⟩]⟩ _ _ _ _ (by simp) (by simp) (by simp) (by simp) (.p _) (tQ rfl (bT (bm (p0:=(Ex.mk eo en es ek).cs) rfl (Ex.cs_len _) (fW (gH rfl))) (View.nils 5) (View.nils 5))) (by simp[Fd.sz,bC,aC,Sm.sz,aX];omega) (by omega) (by omega)
 by_cases k5:k=5
 ·subst k5
  simp-implicitDefEqProofs[aa]
  exact⟨_,_,q+1,.agg [.p (fdL [])],rfl,rfl,.agg (.one (View.nils 3) .nil) .nil,⟨[],rfl,by simp[aH]⟩,by omega,by omega⟩
 by_cases k7:k=7
 ·subst k7
  simp-implicitDefEqProofs[aa,hfl]
  have hl0:0<l.length:=by omega
  have hf0:=Cr (VT hl0)
  obtain⟨f0,hg0,hf0⟩:∃f0,l[0]?=some f0/\f0.sz<=aH l:=⟨_,VA hl0,hf0⟩
  have hc0:f0.cs=[.str f0.name,am f0.params,smL f0.body]:=rfl
  have hfa:aH (l++[f0])=aH l+f0.sz:=by rw[lC];simp[aH]
  simp-implicitDefEqProofs[hg0,hc0]
  exact⟨⟨by omega,by omega⟩,⟨by omega,by omega⟩,_,_,q+1,.agg [.p (fdL (l++[f0]))],rfl,rfl,.agg (.one (JY rfl) .nil) .nil,⟨_,rfl,by omega⟩,by omega,by omega⟩
 by_cases k4:k=4
 ·subst k4
  simp-implicitDefEqProofs[aa]
  refine vp (λ_:NsS=>ah 145 [(5,.ptr 5 5 0 0),(4,.ptr 3 3 0 0),(3,.ptr 2 1 0 0),(2,.ptr 1 1 0 0),(0,.ptr 0 2 0 0)])
   (λa=>[rdO b a.q,.row 1 [[.nils]],.row 1 [[.p (.lst 3 (l.map Fd.cs))]],.row 3 [[.p (.str f.name),.p (am f.params),.p (smL f.body)]],.dead,.row 5 [[.p (.int .i64 a.o),.p (.str a.w),.p a.A,.p a.B,.p a.C]]])
   (λa=>(∃s:Sm,s.cs=[.int .i64 a.o,.str a.w,a.A,a.B,a.C]/\aX s.args<=1/\s.sz+2*a.i<=20)/\q+2<=a.q/\a.q+a.i<=q+10) ?_ ?_
  rotate_left
  ·rintro⟨i,o,w,A,B,C,q1⟩ ⟨⟨s,hse,j1,j2⟩,j3,j4⟩
   simp only at hse j1 j2 j3 j4
   have hss:∀(h:List AO) (id:Nat),h[id]?=some (.row 5 (List.take f.body.length (smR f.body)++[[.p (.int .i64 o),.p (.str w),.p A,.p B,.p C]]))->View h (.sl id 5 0 (f.body.length+1)) (smL (f.body++[s])):=λh id e=>tQ e (λj q a a1 a2=>ny (e:=[.int .i64 o,.str w,A,B,C]) (hse▸a1) a2)
   simp-implicitDefEqProofs[hml]
   refine⟨⟨by omega,by omega⟩,⟨by omega,by omega⟩,?_⟩
   exact fin _ ⟨f.name,f.params,f.body++[s]⟩ _ _ _ _ (by simp) (by simp) (by simp) (by simp) (.p _) (hss _ _ rfl) (by simp[Fd.sz,bC,aC];omega) (by omega) (by omega)
  simp-implicitDefEqProofs[]
  refine(aP G b hb hl (q+1) (by omega) 5 _).mono ?_
  rintro r h ⟨i0,rfl,rfl,hi0⟩
  simp-implicitDefEqProofs[aa]
  have hs0:(Sm.mk 6 [] [⟨1,0,[],[]⟩] [] []).cs=[.int .i64 6,.str [],exL [⟨1,0,[],[]⟩],smL [],smL []]:=Sm.cs_eq _
  refine aN (λa:NsS=>ah 145 [(6,.p (.int .i64 a.i)),(5,.ptr 5 5 0 0),(4,.ptr 3 3 0 0),(3,.ptr 2 1 0 0),(2,.ptr 1 1 0 0),(0,.ptr 0 2 0 0)])
   (λa=>[rdO b a.q,.row 1 [[.nils]],.row 1 [[.p (.lst 3 (l.map Fd.cs))]],.row 3 [[.p (.str f.name),.p (am f.params),.p (smL f.body)]],.dead,.row 5 [[.p (.int .i64 a.o),.p (.str a.w),.p a.A,.p a.B,.p a.C]]])
   (λa=>(∃s:Sm,s.cs=[.int .i64 a.o,.str a.w,a.A,a.B,a.C]/\aX s.args<=1/\s.sz+2*a.i<=20)/\q+2<=a.q/\a.q+a.i<=q+10) (λa=>a.i) ⟨i0,6,[],exL [⟨1,0,[],[]⟩],smL [],smL [],q+1+1⟩ ⟨⟨_,hs0,by simp[Sm.args,aX,Ex.sz],by simp[Sm.sz,aX,Ex.sz,aC];omega⟩,by simp only;omega,by simp only;omega⟩ ?_ ?_
  ·refine uy (hX:=[.dead,.dead,.dead,.dead,.row 4 [[.p (.int .i64 1),.p (.int .i64 0),.p (.str []),.nils]],.dead]) (by simp)
    (.same (aW _ _ _) (.same (by simp[okO,below]) (.same (by simp[okO,below]) (.same (by simp[okO,below]) (.give (.one ?_ .nil)))))) ?_
   ·exact .keep (by simp[below]) (.keep (by simp[below]) (.one (bm (p0:=(Ex.mk 1 0 [] []).cs) rfl (Ex.cs_len _) (fW (View.nils 4))) (.one (View.nils 5) (.one (View.nils 5) .nil))))
   ·exact⟨.keep (by simp[below]) .nil,.keep (by simp[below]) .nil,.keep (by simp[below]) .nil,.keep (by simp[below]) .nil,.keep (by simp[below]) .nil,.keep (by simp[below]) .nil,trivial⟩
  rintro⟨i,o,w,A,B,C,q1⟩ ⟨⟨s,hse,j1,j2⟩,j3,j4⟩
  simp only at hse j1 j2 j3 j4
  have hcs1:∀n:Int,(Sm.mk n [] s.args [s] []).cs=[.int .i64 n,.str [],A,.lst 5 [[.int .i64 o,.str w,A,B,C]],.lst 5 []]:=λn=>by
   have hsa:=s.cs_eq
   rw[hse] at hsa
   simp only[List.cons.injEq] at hsa
   rw[Sm.cs_eq];simp only[Sm.op,Sm.name,Sm.args,Sm.body,Sm.els];rw[←hse,hsa.2.2.1];rfl
  have hsz:∀n:Int,(Sm.mk n [] s.args [s] []).sz=1+aX s.args+s.sz:=λn=>by simp[Sm.sz,aC]
  simp-implicitDefEqProofs[]
  refine bh (λhc=>?_) (λhc=>?_)
  ·simp at hc
   simp-implicitDefEqProofs[]
   refine(CW G hb hl (p:=q1) (by omega) [5,6] (by simp) (by simp) _).mono ?_
   rintro r h ⟨n1,_,rfl,rfl⟩
   have hwk:IntKind.i64.wrap ((i:Int)-1)=((i-1:Nat):Int):=by rw[ab (by omega) (by omega)];omega
   simp-implicitDefEqProofs[aa]
   refine⟨⟨i-1,n1,[],A,.lst 5 [[.int .i64 o,.str w,A,B,C]],.lst 5 [],q1+1⟩,⟨⟨_,hcs1 n1,j1,by simp only[hsz];omega⟩,by simp only;omega,by simp only;omega⟩,by simp only;omega,?_⟩
   refine uy (hX:=[.dead,.dead,.dead,.dead,.dead,.dead]) (by simp) (.same (aW _ _ _) (.same (by simp[okO,below]) (.same (by simp[okO,below]) (.same (by simp[okO,below]) (.drop (.one (.keep (by simp[below]) (.keep (by simp[below]) (.keep (by simp[below]) (.keep (by simp[below]) (.one (View.nils 5) .nil))))) .nil)))))) ?_
   simp only[hwk]
   exact⟨.keep (by simp[below]) .nil,.keep (by simp[below]) .nil,.keep (by simp[below]) .nil,.keep (by simp[below]) .nil,.keep (by simp[below]) .nil,.keep (by simp[below]) .nil,trivial⟩
  ·simp at hc
   exact⟨⟨i,o,w,A,B,C,q1⟩,⟨⟨s,hse,j1,j2⟩,j3,j4⟩,ij (m:=6) (by simp) (dE rfl rfl (aj (aW _ _ _) (aj (by simp[okO,below]) (aj (by simp[okO,below]) (aj (by simp[okO,below]) (aj (by simp[okO]) (aj (by simp[okO,below]) gf))))))) (by simp[below])⟩
 by_cases k6:k=6
 ·subst k6
  simp-implicitDefEqProofs[aa]
  refine(jY G hb hl (p:=q+1) (by omega) [20,40,41] (k:=4) (by simp) (by simp) (by omega) rfl rfl).mono ?_
  rintro r h ⟨i0,hi0,rfl,rfl⟩
  obtain⟨i,rfl,hi⟩:∃J:Nat,i0=J/\J<=41:=⟨i0.toNat,by simp at hi0;omega,by simp at hi0;omega⟩
  simp-implicitDefEqProofs[aa]
  refine aN (λa:BdS=>ah 145 [(7,.p (.int .i64 a.i)),(4,.ptr 3 3 0 0),(3,.ptr 2 1 0 0),(2,.ptr 1 1 0 0),(0,.ptr 0 2 0 0)])
   (λa=>[rdO b (q+1+1),.row 1 [[.nils]],.row 1 [[.p (.lst 3 (l.map Fd.cs))]],.row 3 [[.p (.str f.name),.p (am f.params),.p (smL a.bd)]]])
   (λa=>a.i<=41/\aC a.bd+10*a.i<=aC f.body+500) (λa=>a.i) ⟨i,f.body⟩ ⟨hi,by simp only;omega⟩ ?_ ?_
  ·exact ij (m:=4) (by simp) (dE rfl rfl (aj (aW _ _ _) (aj (by simp[okO,below]) (aj (by simp[okO,below]) (aj (by simp[okO,below]) gf))))) (by simp[below])
  rintro⟨i1,bd⟩ ⟨j1,j2⟩
  simp only at j1 j2
  have hbl2:=cr bd
  have hml2:smL bd= .lst 5 (bd.map Sm.cs):=rfl
  simp-implicitDefEqProofs[hml2]
  refine bh (λhc=>?_) (λhc=>?_)
  ·simp at hc
   have hwk:IntKind.i64.wrap ((i1:Int)-1)=((i1-1:Nat):Int):=by rw[ab (by omega) (by omega)];omega
   simp-implicitDefEqProofs[hml2]
   refine⟨⟨by omega,by omega⟩,⟨by omega,by omega⟩,⟨i1-1,bd++[⟨3,[],[⟨1,i1,[],[]⟩],[],[]⟩]⟩,⟨by simp only;omega,by simp[bC,aC,Sm.sz,aX,Ex.sz];omega⟩,by simp only;omega,?_⟩
   refine jj 4 (by omega) (by simp) rfl (.same (aW _ _ _) (.same (by simp[okO,below]) (.same (by simp[okO,below]) (.one (.keep (by simp[below]) (.keep (by simp[below]) (.one (tQ rfl (bT (bm (p0:=(Ex.mk 1 i1 [] []).cs) rfl (Ex.cs_len _) (fW (View.nils 4))) (View.nils 5) (View.nils 5))) .nil))) (.nil _))))) ?_
   simp only[hwk]
   exact⟨.keep (by simp[below]) .nil,.keep (by simp[below]) .nil,.keep (by simp[below]) .nil,.keep (by simp[below]) .nil,.keep (by simp[below]) .nil,trivial⟩
  ·simp at hc
   exact fin _ ⟨f.name,f.params,bd⟩ _ _ _ _ (by simp) (by simp) (by simp) (by simp) (.p _) (.p _) (by simp[Fd.sz];omega) (by omega) (by omega)
 have c1:¬(k:Int)=1:=by omega
 have c2:¬(k:Int)=2:=by omega
 have c3:¬(k:Int)=3:=by omega
 have c4:¬(k:Int)=4:=by omega
 have c5:¬(k:Int)=5:=by omega
 have c6:¬(k:Int)=6:=by omega
 have c7:¬(k:Int)=7:=by omega
 simp-implicitDefEqProofs[aa,k0,c1,c2,c3,c4,c5,c6,c7]
 exact fin _ ⟨f.name,f.params,f.body⟩ _ _ _ _ (by simp) (by simp) (by simp) (by simp) (.p _) (.p _) (by simp only[Fd.sz];omega) (by omega) (by omega)
end
section
variable (G:al)
def PshF(s:Bool)(sz:Nat)(D:List (List PV))(h0:List AO)(a:PshS):Prop:=a.i<=D.length/\h0.length<=a.id/\h0.length<=a.h.length/\(∀j,j<h0.length->a.h[j]?=h0[j]?)/\∃rows J,RowOwn s a.h a.id sz rows (D.take a.i) J/\∀j∈J,h0.length<=j
theorem zX{h h2:List AO}(hl:h.length<=h2.length)(hf:∀j,j<h.length->h2[j]?=h[j]?):h2=h++h2.drop h.length:=by
 have e:h2.take h.length=h:=by
  apply List.ext_getElem?
  intro j
  by_cases hj:j<h.length
  ·rw[List.getElem?_take_of_lt hj];exact hf j hj
  ·rw[Wm (by rw[Wb];omega),Wm (by omega)]
 have e2:=Wu h.length h2
 rw[e] at e2
 exact e2.symm
theorem PshF.init{s:Bool}{sz:Nat}{D:List (List PV)}(h0 os:List AO):PshF s sz D h0 ⟨0,h0.length,h0++ .row sz []::os⟩:=
 ⟨WA _,VM _,by simp,λj hj=>Vz hj,[],[],⟨by simp,rfl,λ_ h=>(by cases h),λ_ h=>(by cases h),.nil,by simp⟩,λj hj=>by cases hj⟩
theorem PshF.step{s:Bool}{sz i id:Nat}{D:List (List PV)}{h0 h:List AO}(H:PshF s sz D h0 ⟨i,id,h⟩){e:List PV}(hi:D[i]?=some e){h2:List AO}(hl:h.length<=h2.length)(hf:∀j,j<h.length->h2[j]?=h[j]?){r':List AV}{I2:List Nat}(ho:OwnL s h2 r' e I2)(nd2:I2.Nodup)(hn:∀j∈I2,h.length<=j)(he:e.length=sz):
 ∃rows,(∀os,(h2++os)[id]?=some (.row sz rows))/\rows.length=i/\i<D.length/\id<h2.length/\∀os1 os2,PshF s sz D h0 ⟨i+1,(h2++os1).length,(h2++os1).set id .dead++ .row sz (rows++[r'])::os2⟩:=by
 obtain⟨h1,h3,h4,h5,rows,J,hr,hJ⟩:=H
 have hil:i<D.length:=(Vx.1 hi).1
 have hlen:=hr.len
 simp only at h1 h3 h4 h5 hlen hr
 rw[Wb,Nat.min_eq_left h1] at hlen
 have e2:=zX hl hf
 have hid:=hr.lt
 have h2e:h2[id]?=some (.row sz rows):=by rw[hf id hid];exact hr.here
 refine⟨rows,λos=>by rw[Vz (by omega)];exact h2e,hlen,hil,by omega,λos1 os2=>⟨hil,by simp only[VO];omega,by simp;omega,λj hj=>?_,rows++[r'],J++I2,?_,λj hj=>?_⟩⟩
 ·simp only
  rw[Vz (by simp only[We,VO,VV];omega),Vy (by omega),Vz (by omega),hf j (by omega)]
  exact h5 j hj
 ·have hp:=(hr.push (h2:=h2++os1) (os:=h2.drop h.length++os1) (by rw[←Wg,←e2]) (ho.more os1) nd2 hn he).more os2
  have hd:D.take i++[e]=D.take (i+1):=by rw[List.take_add_one,hi];rfl
  rw[hd,Wg] at hp
  exact hp
 ·rcases VJ.1 hj with hj|hj
  ·exact hJ j hj
  ·have:=hn j hj;omega
theorem PshF.done{s:Bool}{sz i id:Nat}{D:List (List PV)}{h0 h:List AO}(H:PshF s sz D h0 ⟨i,id,h⟩)(hi:D.length<=i):h0.length<=h.length/\(∀j,j<h0.length->h[j]?=h0[j]?)/\∃I,OwnL s h [.sl id sz 0 i] [.lst sz D] I/\I.Nodup/\∀j∈I,h0.length<=j:=by
 obtain⟨h1,h3,h4,h5,rows,J,hr,hJ⟩:=H
 simp only at h1 h3 h4 h5 hr
 rw[VE hi] at hr
 exact⟨h4,h5,id::J,hr.tree (by omega),hr.nd,λj hj=>by
  rcases VL.1 hj with rfl|hj
  ·exact h3
  ·exact hJ j hj⟩
theorem Fy{s:Bool}{n:Nat}{h1 os:List AO}{a b:List AV}{c d:List PV}{I1 I2:List Nat}(H1:OwnL s h1 a c I1)(n1:I1.Nodup)(f1:∀i∈I1,n<=i)(H2:OwnL s (h1++os) b d I2)(n2:I2.Nodup)(f2:∀i∈I2,h1.length<=i)(hn:n<=h1.length):
 OwnL s (h1++os) (a++b) (c++d) (I1++I2)/\(I1++I2).Nodup/\∀i∈I1++I2,n<=i:=by
 refine⟨(H1.more os).app H2,?_,λi hi=>?_⟩
 ·rw[List.nodup_append]
  refine⟨n1,n2,λa ha b hb e=>?_⟩
  have:=H1.lt ha;have:=f2 b hb;omega
 ·rcases VJ.1 hi with hi|hi
  ·exact f1 i hi
  ·have:=f2 i hi;omega
theorem Af{α:Type}(l:List α)(a b:α):(l++[a]).set l.length b=l++[b]:=by
 rw[List.set_append_right _ _ (VM _),Nat.sub_self];rfl
theorem Ny{h:List AO}{s:Sm}{A B E:AV}{I:List Nat}(H:OwnL true h ([A]++[B]++[E]) ([exL s.args]++[smL s.body]++[smL s.els]) I):OwnL true h [.p (.int .i64 s.op),.p (.str s.name),A,B,E] s.cs I:=by
 rw[s.cs_eq]
 exact .p _ (λ_=>rfl) (.p _ (λ_=>rfl) H)
theorem kC{s:Bool}{h:List AO}{v:AV}{q:PV}{I:List Nat}(H:OwnL s h [v] [q] I):(∃q',v= .p q')\/v= .nils\/∃a b n,v= .sl a b 0 n:=by
 cases H with
 |p q=>exact .inl ⟨_,rfl⟩
 |nils=>exact .inr (.inl rfl)
 |sl id sz n=>exact .inr (.inr ⟨_,_,_,rfl⟩)
theorem Oj{s:Bool}{h:List AO}{e:Ex}{K:AV}{I:List Nat}(H:OwnL s h [K] [exL e.kids] I):OwnL s h [.p (.int .i64 e.op),.p (.int .i64 e.n),.p (.str e.name),K] e.cs I:=by
 rw[e.cs_eq]
 exact .p _ (λ_=>rfl) (.p _ (λ_=>rfl) (.p _ (λ_=>rfl) H))
theorem MO:∀(N:Nat) (e:Ex),e.sz<=N->e.sz<=1073741824->AC Tryz.prog G jb [.agg (e.cs.map .p)] [] (MkW .agg true e.cs):=by
 intro N
 induction N with
 |zero=>intro e he;have:=e.sz_eq;omega
 |succ N ih=>
  intro e he hb
  have hsz:=e.sz_eq
  have hkl:=bG e.kids
  refine AC.go Bm ?_
  have hec:=e.cs_eq
  have hsl:exL e.kids= .lst 4 (e.kids.map Ex.cs):=rfl
  simp-implicitDefEqProofs[rY,hec,hsl]
  obtain⟨hb0,ehb⟩:∃hb0:List AO,hb0=[.row 4 [[.p (.int .i64 e.op),.p (.int .i64 e.n),.p (.str e.name),.p (.lst 4 (e.kids.map Ex.cs))]],.row 4 [[.p (.int .i64 0),.p (.int .i64 0),.p (.str []),.nils]]]:=⟨_,rfl⟩
  have hini:PshF true 4 (e.kids.map Ex.cs) hb0 ⟨0,2,[.row 4 [[.p (.int .i64 e.op),.p (.int .i64 e.n),.p (.str e.name),.p (.lst 4 (e.kids.map Ex.cs))]],.row 4 [[.p (.int .i64 0),.p (.int .i64 0),.p (.str []),.nils]],.row 4 []]⟩:=by
   rw[ehb];exact PshF.init _ []
  refine aN (λa:PshS=>ah 25 [(4,.p (.int .i64 a.i)),(3,.sl a.id 4 0 a.i),(2,.ptr 1 4 0 0),(1,.ptr 0 4 0 0)]) (λa=>a.h) (PshF true 4 (e.kids.map Ex.cs) hb0) (λa=>e.kids.length-a.i) _ hini ?_ ?_
  ·exact aY (by simp) (by simp[below])
  rintro⟨i,id,h'⟩ hJ
  have hl0:hb0.length=2:=by rw[ehb];rfl
  have g0:h'[0]?=some (.row 4 [[.p (.int .i64 e.op),.p (.int .i64 e.n),.p (.str e.name),.p (.lst 4 (e.kids.map Ex.cs))]]):=by rw[hJ.2.2.2.1 0 (by omega),ehb];rfl
  have g1:h'[1]?=some (.row 4 [[.p (.int .i64 0),.p (.int .i64 0),.p (.str []),.nils]]):=by rw[hJ.2.2.2.1 1 (by omega),ehb];rfl
  have hl2:2<=h'.length:=by have:=hJ.2.2.1;simp only at this;omega
  simp-implicitDefEqProofs[g0]
  refine bh (λh1=>?_) (λh1=>?_)
  ·simp at h1
   have hg:=VA h1
   have hm:=bQ (VT h1)
   have hH:=ih e.kids[i] (by omega) (by omega)
   have hcs:=e.kids[i].cs_eq
   have hDa:(e.kids.map Ex.cs)[i]?=some e.kids[i].cs:=by rw[VN,hg];rfl
   generalize e.kids[i]=k at hg hH hcs hDa
   have hA:=AC.mkLift DE hH (h:=h') (by rw[hcs];simp)
   rw[hcs] at hA
   simp-implicitDefEqProofs[g0,hg,hcs]
   refine hA.mono ?_
   rintro r h2 ⟨vs,I2,os,rfl,e2,ho,nd,hf⟩
   rw[←hcs] at ho
   obtain⟨rows,k1,k2,k3,k4,k5⟩:=hJ.step hDa (h2:=h2) (by rw[e2];simp) (λx hx=>by rw[e2,Vz hx]) ho nd hf k.cs_len
   obtain⟨K,rfl,hK⟩:=GI ho
   have hwi:=w1 (i:=i) (by omega)
   rcases kC hK with⟨q1,rfl⟩|rfl|⟨x1,x2,x3,rfl⟩
   ·have k6:=k5 [.row 4 [[.p (.int .i64 k.op),.p (.int .i64 k.n),.p (.str k.name),.p q1]]] []
    simp-implicitDefEqProofs[aa,k1,k2]
    rw[VE (l:=rows) (i:=i) (by omega)]
    refine⟨⟨by omega,by omega⟩,_,k6,by simp only;omega,aY (by simp) ?_⟩
    simp[below,hwi]
   ·have k6:=k5 [.row 4 [[.p (.int .i64 k.op),.p (.int .i64 k.n),.p (.str k.name),.nils]]] []
    simp-implicitDefEqProofs[aa,k1,k2]
    rw[VE (l:=rows) (i:=i) (by omega)]
    refine⟨⟨by omega,by omega⟩,_,k6,by simp only;omega,aY (by simp) ?_⟩
    simp[below,hwi]
   ·have k6:=k5 [.row 4 [[.p (.int .i64 k.op),.p (.int .i64 k.n),.p (.str k.name),.sl x1 x2 0 x3]]] []
    simp-implicitDefEqProofs[aa,k1,k2]
    rw[VE (l:=rows) (i:=i) (by omega)]
    refine⟨⟨by omega,by omega⟩,_,k6,by simp only;omega,aY (by simp) ?_⟩
    simp[below,hwi]
  ·simp at h1
   have hie:i=e.kids.length:=by have:=hJ.1;simp at this;omega
   obtain⟨d1,d2,I,ho,nd,hI⟩:=hJ.done (by simpa using h1)
   subst hie
   have hn0:0∉I:=λhm=>by have:=hI 0 hm;omega
   have hn1:1∉I:=λhm=>by have:=hI 1 hm;omega
   have s0:∀x,(h'.set 0 x)[0]?=some x:=λx=>VC (by omega)
   have s1:∀x,(h'.set 0 x)[1]?=some (.row 4 [[.p (.int .i64 0),.p (.int .i64 0),.p (.str []),.nils]]):=λx=>by rw[Vy (by omega)];exact g1
   have s2:∀x y,((h'.set 0 x).set 1 y)[1]?=some y:=λx y=>VC (by rw[We];omega)
   simp-implicitDefEqProofs[g0,g1,s0,s1,s2]
   rw[←hsl,←hec]
   exact⟨_,I,rfl,Oj ((ho.set_out hn0 _).set_out hn1 _),nd⟩
theorem BZ:∀(N:Nat) (l:List Sm),aC l<N->aC l<=1073741824->AC Tryz.prog G dI [.p (smL l)] [] (MkW dL true [smL l]):=by
 intro N
 induction N with
 |zero=>intro l he;omega
 |succ N ih=>
  intro l hN hz
  have hsl:∀l,smL l= .lst 5 (l.map Sm.cs):=λ_=>rfl
  have hll:=cr l
  refine AC.go zl ?_
  simp-implicitDefEqProofs[pi,hsl]
  refine aN (λa:PshS=>ah 52 [(4,.p (.int .i64 a.i)),(3,.sl a.id 5 0 a.i),(0,.p (smL l))]) (λa=>a.h) (PshF true 5 (l.map Sm.cs) []) (λa=>l.length-a.i) ⟨0,0,[.row 5 []]⟩ (PshF.init [] []) ?_ ?_
  ·exact aY (by simp) (by simp[below,hsl])
  rintro⟨i,id,hh⟩ hI
  simp-implicitDefEqProofs[hsl]
  refine bh (λh1=>?_) (λh1=>?_)
  ·simp at h1
   have hg:=VA h1
   have hm:=dT (VT h1)
   have hcs:=l[i].cs_eq
   have hse:=l[i].sz_eq
   have hD:(l.map Sm.cs)[i]?=some l[i].cs:=by rw[VN,hg];rfl
   generalize l[i]=s at hg hm hcs hse hD
   simp-implicitDefEqProofs[hg,hcs,Af]
   have hid:id<hh.length:=by obtain⟨_,_,_,_,_,_,hr,_⟩:=hI;exact hr.lt
   have hal:=bG s.args
   have hxl:exL s.args= .lst 4 (s.args.map Ex.cs):=rfl
   obtain⟨hb,ehb⟩:∃hb,hb=hh++[AO.row 5 [[.p (.int .i64 s.op),.p (.str s.name),.p (exL s.args),.p (smL s.body),.p (smL s.els)]]]:=⟨_,rfl⟩
   have hbl:hb.length=hh.length+1:=by rw[ehb];simp
   have hbx:hb[hh.length]?=some (.row 5 [[.p (.int .i64 s.op),.p (.str s.name),.p (exL s.args),.p (smL s.body),.p (smL s.els)]]):=by rw[ehb];simp
   have hini:PshF true 4 (s.args.map Ex.cs) hb ⟨0,hh.length+1,hh++[AO.row 5 [[.p (.int .i64 s.op),.p (.str s.name),.p (exL s.args),.p (smL s.body),.p (smL s.els)]],.row 4 []]⟩:=by
    have:=PshF.init (s:=true) (sz:=4) (D:=s.args.map Ex.cs) hb []
    rw[hbl,ehb,Wg] at this
    rw[ehb];exact this
   refine aN (λa:PshS=>ah 52 [(7,.p (.int .i64 a.i)),(6,.sl a.id 4 0 a.i),(5,.ptr hh.length 5 0 0),(4,.p (.int .i64 i)),(3,.sl id 5 0 i),(0,.p (smL l))]) (λa=>a.h) (PshF true 4 (s.args.map Ex.cs) hb) (λa=>s.args.length-a.i) _ hini ?_ ?_
   ·refine aY (by simp) ?_
    simp[below,hsl]
    omega
   rintro⟨j,id2,h'⟩ hJ
   have hjb:h'[hh.length]?=some (.row 5 [[.p (.int .i64 s.op),.p (.str s.name),.p (exL s.args),.p (smL s.body),.p (smL s.els)]]):=by
    rw[hJ.2.2.2.1 _ (by omega)];exact hbx
   have hlb:hh.length+1<=h'.length:=by have:=hJ.2.2.1;simp only at this;omega
   simp-implicitDefEqProofs[hjb,hxl]
   refine bh (λh2=>?_) (λh2=>?_)
   ·simp at h2
    have hga:=VA h2
    have hma:=bQ (VT h2)
    have hC:=MO G _ s.args[j] (VM _) (by omega)
    have hka:=s.args[j].cs_eq
    have hDa:(s.args.map Ex.cs)[j]?=some s.args[j].cs:=by rw[VN,hga];rfl
    generalize s.args[j]=e at hga hma hC hka hDa
    have hA:=AC.mkLift DE hC (h:=h') (by rw[hka];simp)
    rw[hka] at hA
    simp-implicitDefEqProofs[hjb,hga,hka,hxl]
    refine hA.mono ?_
    rintro r h2 ⟨vs,I2,os,rfl,e2,ho,nd,hf⟩
    rw[←hka] at ho
    obtain⟨rows,k1,k2,k3,k4,k5⟩:=hJ.step hDa (h2:=h2) (by rw[e2];simp) (λx hx=>by rw[e2,Vz hx]) ho nd hf e.cs_len
    obtain⟨K,rfl,hK⟩:=GI ho
    have hwj:=w1 (i:=j) (by omega)
    have hl2:h'.length<=h2.length:=by rw[e2];simp
    rcases kC hK with⟨q1,rfl⟩|rfl|⟨x1,x2,x3,rfl⟩
    ·have k6:=k5 [.row 4 [[.p (.int .i64 e.op),.p (.int .i64 e.n),.p (.str e.name),.p q1]]] []
     simp-implicitDefEqProofs[aa,k1,k2]
     rw[VE (l:=rows) (i:=j) (by omega)]
     refine⟨⟨by omega,by omega⟩,_,k6,by simp only;omega,aY (by simp) ?_⟩
     simp[below,hsl,hwj]
     omega
    ·have k6:=k5 [.row 4 [[.p (.int .i64 e.op),.p (.int .i64 e.n),.p (.str e.name),.nils]]] []
     simp-implicitDefEqProofs[aa,k1,k2]
     rw[VE (l:=rows) (i:=j) (by omega)]
     refine⟨⟨by omega,by omega⟩,_,k6,by simp only;omega,aY (by simp) ?_⟩
     simp[below,hsl,hwj]
     omega
    ·have k6:=k5 [.row 4 [[.p (.int .i64 e.op),.p (.int .i64 e.n),.p (.str e.name),.sl x1 x2 0 x3]]] []
     simp-implicitDefEqProofs[aa,k1,k2]
     rw[VE (l:=rows) (i:=j) (by omega)]
     refine⟨⟨by omega,by omega⟩,_,k6,by simp only;omega,aY (by simp) ?_⟩
     simp[below,hsl,hwj]
     omega
   ·simp at h2
    have hjl:j=s.args.length:=by have:=hJ.1;simp at this;omega
    obtain⟨d1,d2,IA,oA,nA,fA⟩:=hJ.done (by simpa using h2)
    subst hjl
    have hB:=ih s.body (by omega) (by omega)
    have hE:=ih s.els (by omega) (by omega)
    simp-implicitDefEqProofs[hjb]
    refine(AC.mkLift ud hB (h:=h') (by simp)).mono ?_
    rintro r h3 ⟨vB,IB,o1,rfl,e3,oB,nB,fB⟩
    obtain⟨B,rfl⟩:=gu oB
    have hjb3:h3[hh.length]?=some (.row 5 [[.p (.int .i64 s.op),.p (.str s.name),.p (exL s.args),.p (smL s.body),.p (smL s.els)]]):=by
     rw[e3,Vz (by omega)];exact hjb
    simp-implicitDefEqProofs[aa,dL,hjb3]
    refine(AC.mkLift ud hE (h:=h3) (by simp)).mono ?_
    rintro r h4 ⟨vE,IE,o2,rfl,e4,oE,nE,fE⟩
    obtain⟨E,rfl⟩:=gu oE
    have hjb4:h4[hh.length]?=some (.row 5 [[.p (.int .i64 s.op),.p (.str s.name),.p (exL s.args),.p (smL s.body),.p (smL s.els)]]):=by
     have:hh.length<h3.length:=(Vx.1 hjb3).1
     rw[e4,Vz this];exact hjb3
    have cB:=kC oB
    have cE:=kC oE
    obtain⟨a1,a2,a3⟩:=Fy oA nA fA (by rw[←e3];exact oB) nB fB d1
    rw[←e3] at a1
    obtain⟨b1,b2,b3⟩:=Fy a1 a2 a3 (by rw[←e4];exact oE) nE fE (by rw[e3];simp;omega)
    rw[←e4] at b1
    have hS:=Ny (s:=s) b1
    obtain⟨rows,k1,k2,k3,k4,k5⟩:=hI.step hD (h2:=h4) (by rw[e4,e3];simp;omega) (λx hx=>by
     rw[e4,Vz (by rw[e3];simp;omega),e3,Vz (by omega),d2 x (by omega),ehb,Vz hx]) hS b2 (λx hx=>by have:=b3 x hx;omega) s.cs_len
    have k6:=k5 [.row 5 [[.p (.int .i64 s.op),.p (.str s.name),.sl id2 4 0 s.args.length,B,E]]] []
    have hwi:=w1 (i:=i) (by omega)
    rcases cB with⟨q1,rfl⟩|rfl|⟨x1,x2,x3,rfl⟩<;>rcases cE with⟨q2,rfl⟩|rfl|⟨y1,y2,y3,rfl⟩<;>
    ·simp-implicitDefEqProofs[aa,dL,hjb4,k1,k2]
     rw[VE (l:=rows) (i:=i) (by omega)]
     refine⟨⟨by omega,by omega⟩,_,k6,by simp only;omega,aY (by simp) ?_⟩
     simp[below,hsl,hwi]
  ·simp at h1
   obtain⟨_,_,I,ho,nd,_⟩:=hI.done (by simpa using h1)
   have hie:i=l.length:=by have:=hI.1;simp at this;omega
   subst hie
   simp-implicitDefEqProofs[]
   exact⟨_,I,rfl,ho,nd⟩
def cpK(a:PshS):AV:=if a.i=0 then .nils else .sl a.id 3 0 a.i
def CpI(l:List Fd)(a:PshS):Prop:=a.i<=l.length/\a.h[0]?=some (.row 1 [[.p (fdL l)]])/\a.h[1]?=some (.row 1 [[.nils]])/\a.h[2]?=some (.row 1 [[cpK a]])/\
 (0<a.i->3<=a.id/\∃rows J,RowOwn true a.h a.id 3 rows ((l.map Fd.cs).take a.i) J/\∀j∈J,3<=j)
theorem gC:∀l:List Fd,l.length<=aH l
 |[]=>VM _
 |f::r=>by
  have:=gC r
  have h1:aH (f::r)=f.sz+aH r:=by simp[aH]
  have h2:f.sz=1+f.name.length+(f.params.length+(f.params.map List.length).sum)+aC f.body:=rfl
  simp only[VV];omega
theorem Fv{h:List AO}{id:Nat}{l:List (List UInt8)}(e:h[id]?=some (cJ l)){n:Nat}(hn:n=l.length):OwnL true h [.sl id 1 0 n] [am l] [id]:=by
 have hr:RowOwn true h id 1 (l.map λw=>[AV.p (.str w)]) (l.map λw=>[PV.str w]) []:=by
  refine⟨e,by simp,λx hx=>by obtain⟨w,_,rfl⟩:=VW.1 hx;rfl,λx hx=>by obtain⟨w,_,rfl⟩:=VW.1 hx;rfl,?_,by simp⟩
  clear e hn
  induction l with
  |nil=>exact .nil
  |cons w r ih=>exact .p _ (λ_=>rfl) ih
 exact hr.tree (by simpa using hn)
theorem Kf{h3:List AO}(hl:3<=h3.length){r:List AV}{f:Fd}{I2:List Nat}(ho:OwnL true h3 r f.cs I2)(nd:I2.Nodup)(hf:∀j∈I2,3<=j)(o x:AO):∃J,RowOwn true ((h3++[o,.row 3 [r]]).set 2 x) (h3.length+1) 3 [r] [f.cs] J/\∀j∈J,3<=j:=by
 have hr:r.length=3:=by rw[ho.len,Fd.cs_len]
 refine⟨I2,⟨?_,rfl,λe he=>by rw[VK.1 he];exact hr,λe he=>by rw[VK.1 he];exact Fd.cs_len f,?_,?_⟩,hf⟩
 ·rw[Vy (by omega),VG (by omega),Wi];rfl
 ·have:=(ho.more [o,.row 3 [r]]).set_out (λhm=>by have:=hf 2 hm;omega:2∉I2) x
  simpa using this
 ·rw[Wy]
  exact⟨λhm=>by have:=ho.lt hm;omega,nd⟩
theorem NQ{h h3:List AO}{id:Nat}{rows:List (List AV)}{D:List (List PV)}{J:List Nat}(H:RowOwn true h id 3 rows D J)(hJ:∀j∈J,3<=j)(hid:3<=id)(hh:3<=h.length)(e3:h3=h++h3.drop h.length){r:List AV}{f:Fd}{I2:List Nat}(ho:OwnL true h3 r f.cs I2)(nd:I2.Nodup)(hf:∀j∈I2,h.length<=j)(o x:AO):
 ∃J,RowOwn true (((h3++[o]).set id .dead++[AO.row 3 (rows++[r])]).set 2 x) (h3.length+1) 3 (rows++[r]) (D++[f.cs]) J/\∀j∈J,3<=j:=by
 have hp:=H.push (h2:=h3++[o]) (os:=h3.drop h.length++[o]) (by rw[←Wg,←e3]) (ho.more [o]) nd hf (Fd.cs_len f)
 have hl:(h3++[o]).length=h3.length+1:=by simp
 rw[hl] at hp
 have hl3:h.length<=h3.length:=by rw[e3];simp
 refine⟨J++I2,hp.frame λk hk=>?_,λj hj=>?_⟩
 ·have:3<=k:=by
   rcases VL.1 hk with rfl|hk
   ·omega
   ·rcases VJ.1 hk with hk|hk
    ·exact hJ k hk
    ·have:=hf k hk;omega
  rw[Vy (by omega)]
 ·rcases VJ.1 hj with hj|hj
  ·exact hJ j hj
  ·have:=hf j hj;omega
theorem MA(l:List Fd)(hz:aH l<=1073741824):AC Tryz.prog G mJ [.agg [.p (fdL l)]] [] (MkW .agg true [fdL l]):=by
 have hfl:∀l,fdL l= .lst 3 (l.map Fd.cs):=λ_=>rfl
 have hll:l.length<=aH l:=gC l
 refine AC.go Bv ?_
 simp-implicitDefEqProofs[rO,hfl]
 refine aN (λa:PshS=>ah 35 [(4,.p (.int .i64 a.i)),(3,.ptr 2 1 0 0),(2,.ptr 1 1 0 0),(1,.ptr 0 1 0 0)]) (λa=>a.h) (CpI l) (λa=>l.length-a.i) ⟨0,0,[.row 1 [[.p (fdL l)]],.row 1 [[.nils]],.row 1 [[.nils]]]⟩ ⟨WA _,rfl,rfl,rfl,λh=>by simp at h⟩ ?_ ?_
 ·exact aY (by simp) (by simp[below])
 rintro⟨i,id,h⟩ ⟨i1,i2,i3,i4,i5⟩
 simp only at i1 i2 i3 i4 i5
 have hl3:3<=h.length:=by have:=(Vx.1 i4).1;omega
 have j2:∀os,(h++os)[0]?=some (.row 1 [[.p (fdL l)]]):=λos=>by rw[Vz (by omega)];exact i2
 have j4:∀os,(h++os)[2]?=some (.row 1 [[cpK ⟨i,id,h⟩]]):=λos=>by rw[Vz (by omega)];exact i4
 simp-implicitDefEqProofs[i2,hfl]
 refine bh (λh1=>?_) (λh1=>?_)
 ·simp at h1
  have hg:=VA h1
  have hm:=cN (VT h1)
  have hD:(l.map Fd.cs)[i]?=some l[i].cs:=by rw[VN,hg];rfl
  generalize l[i]=f at hg hm hD
  have hcs:f.cs=[.str f.name,am f.params,smL f.body]:=rfl
  have hsp:am f.params= .lst 1 (f.params.map λw=>[.str w]):=rfl
  have hfz:f.sz=1+f.name.length+(f.params.length+(f.params.map List.length).sum)+aC f.body:=rfl
  have hB:=BZ G _ f.body (Nat.lt_succ_self _) (by omega)
  by_cases hi0:i=0
  ·subst hi0
   have hk:cpK ⟨0,id,h⟩= .nils:=rfl
   rw[hk] at j4 i4
   have fin0:∀(h3:List AO) (r:List AV) (I2:List Nat) (l0:List (Nat × AV)),h.length+3<=h3.length->(∀j,j<h.length->h3[j]?=h[j]?)->OwnL true h3 r f.cs I2->I2.Nodup->(∀j∈I2,h.length<=j)->∀(o:AO) (hw:Aw.look l0 4= .p (.int .i64 (IntKind.i64.wrap 1))/\Aw.look l0 3= .ptr 2 1 0 0/\Aw.look l0 2= .ptr 1 1 0 0/\Aw.look l0 1= .ptr 0 1 0 0),
    ∃a',CpI l a'/\l.length-a'.i<l.length/\Wk 0 (ah 35 l0) ((h3++[o,.row 3 [r]]).set 2 (.row 1 [[.sl (h3.length+1) 3 0 1]])) (ah 35 [(4,.p (.int .i64 a'.i)),(3,.ptr 2 1 0 0),(2,.ptr 1 1 0 0),(1,.ptr 0 1 0 0)]) a'.h:=by
    intro h3 r I2 l0 hl4 hg3 oR nR fR o ⟨e4,e3,e2,e1⟩
    obtain⟨J,hJ,hJ3⟩:=Kf (by omega) oR nR (λj hj=>by have:=fR j hj;omega) o (.row 1 [[.sl (h3.length+1) 3 0 1]])
    have hd:(l.map Fd.cs).take 1=[f.cs]:=by rw[List.take_add_one,hD];rfl
    refine⟨⟨1,h3.length+1,_⟩,⟨by simp only;omega,?_,?_,?_,λ_=>⟨by simp only;omega,_,J,by simp only[hd];exact hJ,hJ3⟩⟩,by simp only;omega,aY (by simp) ?_⟩
    ·rw[Vy (by omega),Vz (by omega),hg3 0 (by omega)];exact i2
    ·rw[Vy (by omega),Vz (by omega),hg3 1 (by omega)];exact i3
    ·rw[VC (by simp;omega)];rfl
    ·simp[e1,e2,e3,e4,below]
     exact⟨by have:=w1 (i:=0) (by omega);simpa using this,by omega⟩
   simp-implicitDefEqProofs[i2,hfl,hg,hcs,hsp,Af, ↓j2, ↓j4]
   refine⟨⟨by omega,by omega⟩,?_⟩
   refine(AC.mkLift ud hB (by simp)).mono ?_
   rintro r h3 ⟨vB,IB,o1,rfl,e3,oB,nB,fB⟩
   obtain⟨B,rfl⟩:=gu oB
   simp at fB
   have hg3:∀j,j<h.length->h3[j]?=h[j]?:=λj hj=>by rw[e3,Wg,Vz hj]
   have p0:h3[h.length]?=some (.row 3 [[.p (.str f.name),.p (.lst 1 (f.params.map λw=>[.str w])),.p (smL f.body)]]):=by
    rw[e3,Wg,VG (VM _),Nat.sub_self];rfl
   have p2:h3[h.length+2]?=some (cJ f.params):=by
    rw[e3,Wg,VG (by omega),Wi]
    simp[cJ,Function.comp_def]
   have oP:=Fv p2 (n:=f.params.length) rfl
   have hl4:h.length+3<=h3.length:=by rw[e3];simp
   have q0:∀os,(h3++os)[2]?=some (.row 1 [[.nils]]):=λos=>by rw[Vz (by omega),hg3 2 (by omega)];exact i4
   have q1:h3[2]?=some (.row 1 [[.nils]]):=by rw[hg3 2 (by omega)];exact i4
   have q2:∀os,(h3++os)[h.length]?=some (.row 3 [[.p (.str f.name),.p (.lst 1 (f.params.map λw=>[.str w])),.p (smL f.body)]]):=λos=>by rw[Vz (by omega)];exact p0
   clear p2
   have hfR:∀j∈[h.length+2]++IB,h.length<=j:=λj hj=>by
    rcases VJ.1 hj with hj|hj
    ·rw[VK.1 hj];omega
    ·have:=fB j hj;omega
   have hnR:([h.length+2]++IB).Nodup:=Wy.2 ⟨λhm=>by have:=fB _ hm;omega,nB⟩
   rcases kC oB with⟨b1,rfl⟩|rfl|⟨x1,x2,x3,rfl⟩
   ·have oR:=sO (s:=true) (w:=f.name) oP oB
    simp-implicitDefEqProofs[aa,dL, ↓q1, ↓p0, ↓q0, ↓q2]
    exact fin0 h3 _ _ _ hl4 hg3 oR hnR hfR _ (by simp)
   ·have oR:=sO (s:=true) (w:=f.name) oP oB
    simp-implicitDefEqProofs[aa,dL, ↓q1, ↓p0, ↓q0, ↓q2]
    exact fin0 h3 _ _ _ hl4 hg3 oR hnR hfR _ (by simp)
   ·have oR:=sO (s:=true) (w:=f.name) oP oB
    simp-implicitDefEqProofs[aa,dL, ↓q1, ↓p0, ↓q0, ↓q2]
    exact fin0 h3 _ _ _ hl4 hg3 oR hnR hfR _ (by simp)
  ·have hk:cpK ⟨i,id,h⟩= .sl id 3 0 i:=if_neg hi0
   rw[hk] at j4 i4
   obtain⟨hid3,rows,J,hr,hJ3⟩:=i5 (by omega)
   have hrl:rows.length=i:=by have:=hr.len;rw[Wb,Wl] at this;omega
   have hidl:=hr.lt
   have fin0:∀(h3:List AO) (r:List AV) (I2:List Nat) (l0:List (Nat × AV)),h.length+3<=h3.length->(∀j,j<h.length->h3[j]?=h[j]?)->OwnL true h3 r f.cs I2->I2.Nodup->(∀j∈I2,h.length<=j)->∀(o:AO) (hw:Aw.look l0 4= .p (.int .i64 (IntKind.i64.wrap ((i:Int)+1)))/\Aw.look l0 3= .ptr 2 1 0 0/\Aw.look l0 2= .ptr 1 1 0 0/\Aw.look l0 1= .ptr 0 1 0 0),
    ∃a',CpI l a'/\l.length-a'.i<l.length-i/\Wk 0 (ah 35 l0) (((h3++[o]).set id .dead++[AO.row 3 (rows++[r])]).set 2 (.row 1 [[.sl (h3.length+1) 3 0 (i+1)]])) (ah 35 [(4,.p (.int .i64 a'.i)),(3,.ptr 2 1 0 0),(2,.ptr 1 1 0 0),(1,.ptr 0 1 0 0)]) a'.h:=by
    intro h3 r I2 l0 hl4 hg3 oR nR fR o ⟨e4,e3,e2,e1⟩
    obtain⟨J2,hJ,hJ4⟩:=NQ hr hJ3 hid3 hl3 (zX (by omega) hg3) oR nR fR o (.row 1 [[.sl (h3.length+1) 3 0 (i+1)]])
    have hd:(l.map Fd.cs).take i++[f.cs]=(l.map Fd.cs).take (i+1):=by rw[List.take_add_one,hD];rfl
    rw[hd] at hJ
    refine⟨⟨i+1,h3.length+1,_⟩,⟨by simp only;omega,?_,?_,?_,λ_=>⟨by simp only;omega,_,J2,hJ,hJ4⟩⟩,by simp only;omega,aY (by simp) ?_⟩
    ·rw[Vy (by omega),Vz (by simp only[We,VO,VV];omega),Vy (by omega),Vz (by omega),hg3 0 (by omega)];exact i2
    ·rw[Vy (by omega),Vz (by simp only[We,VO,VV];omega),Vy (by omega),Vz (by omega),hg3 1 (by omega)];exact i3
    ·rw[VC (by simp;omega),cpK,if_neg (show¬(i+1=0) by omega)]
    ·simp[e1,e2,e3,e4,below]
     exact⟨w1 (i:=i) (by omega),by omega⟩
   simp-implicitDefEqProofs[i2,hfl,hg,hcs,hsp,Af, ↓j2, ↓j4]
   refine⟨⟨by omega,by omega⟩,?_⟩
   refine(AC.mkLift ud hB (by simp)).mono ?_
   rintro r h3 ⟨vB,IB,o1,rfl,e3,oB,nB,fB⟩
   obtain⟨B,rfl⟩:=gu oB
   simp at fB
   have hg3:∀j,j<h.length->h3[j]?=h[j]?:=λj hj=>by rw[e3,Wg,Vz hj]
   have p0:h3[h.length]?=some (.row 3 [[.p (.str f.name),.p (.lst 1 (f.params.map λw=>[.str w])),.p (smL f.body)]]):=by
    rw[e3,Wg,VG (VM _),Nat.sub_self];rfl
   have p2:h3[h.length+2]?=some (cJ f.params):=by
    rw[e3,Wg,VG (by omega),Wi]
    simp[cJ,Function.comp_def]
   have oP:=Fv p2 (n:=f.params.length) rfl
   have hl4:h.length+3<=h3.length:=by rw[e3];simp
   have q0:∀os,(h3++os)[2]?=some (.row 1 [[.sl id 3 0 i]]):=λos=>by rw[Vz (by omega),hg3 2 (by omega)];exact i4
   have q1:h3[2]?=some (.row 1 [[.sl id 3 0 i]]):=by rw[hg3 2 (by omega)];exact i4
   have q2:∀os,(h3++os)[h.length]?=some (.row 3 [[.p (.str f.name),.p (.lst 1 (f.params.map λw=>[.str w])),.p (smL f.body)]]):=λos=>by rw[Vz (by omega)];exact p0
   clear p2
   have q4:∀x o y,((h3++x).set id o++y)[2]?=some (.row 1 [[.sl id 3 0 i]]):=λx o y=>by
    rw[Vz (by simp only[We,VO];omega),Vy (by omega),Vz (by omega),hg3 2 (by omega)];exact i4
   have q3:∀os,(h3++os)[id]?=some (.row 3 rows):=λos=>by rw[Vz (by omega),hg3 id hidl];exact hr.here
   have hfR:∀j∈[h.length+2]++IB,h.length<=j:=λj hj=>by
    rcases VJ.1 hj with hj|hj
    ·rw[VK.1 hj];omega
    ·have:=fB j hj;omega
   have hnR:([h.length+2]++IB).Nodup:=Wy.2 ⟨λhm=>by have:=fB _ hm;omega,nB⟩
   rcases kC oB with⟨b1,rfl⟩|rfl|⟨x1,x2,x3,rfl⟩
   ·have oR:=sO (s:=true) (w:=f.name) oP oB
    simp-implicitDefEqProofs[aa,dL, ↓q1, ↓p0, ↓q0, ↓q2, ↓q3, ↓q4,hrl]
    rw[VE (l:=rows) (i:=i) (by omega)]
    refine⟨⟨by omega,by omega⟩,?_⟩
    exact fin0 h3 _ _ _ hl4 hg3 oR hnR hfR _ (by simp)
   ·have oR:=sO (s:=true) (w:=f.name) oP oB
    simp-implicitDefEqProofs[aa,dL, ↓q1, ↓p0, ↓q0, ↓q2, ↓q3, ↓q4,hrl]
    rw[VE (l:=rows) (i:=i) (by omega)]
    refine⟨⟨by omega,by omega⟩,?_⟩
    exact fin0 h3 _ _ _ hl4 hg3 oR hnR hfR _ (by simp)
   ·have oR:=sO (s:=true) (w:=f.name) oP oB
    simp-implicitDefEqProofs[aa,dL, ↓q1, ↓p0, ↓q0, ↓q2, ↓q3, ↓q4,hrl]
    rw[VE (l:=rows) (i:=i) (by omega)]
    refine⟨⟨by omega,by omega⟩,?_⟩
    exact fin0 h3 _ _ _ hl4 hg3 oR hnR hfR _ (by simp)
 ·simp at h1
  have hie:i=l.length:=by omega
  subst hie
  have s1:∀x,(h.set 1 x)[1]?=some x:=λx=>VC (by omega)
  by_cases hi0:l.length=0
  ·have hk:cpK ⟨l.length,id,h⟩= .nils:=if_pos hi0
   rw[hk] at i4
   simp-implicitDefEqProofs[i4,i3,s1]
   obtain rfl:=Wp hi0
   exact⟨[.nils],[],rfl,.nils 3 .nil,by simp⟩
  ·have hk:cpK ⟨l.length,id,h⟩= .sl id 3 0 l.length:=if_neg hi0
   rw[hk] at i4
   obtain⟨hid3,rows,J,hr,hJ3⟩:=i5 (by omega)
   rw[VE (by simp)] at hr
   simp-implicitDefEqProofs[i4,i3,s1]
   have ho:=hr.tree (n:=l.length) (by simp)
   exact⟨[.sl id 3 0 l.length],id::J,rfl,ho.set_out (λhm=>by
    rcases VL.1 hm with hm|hm
    ·omega
    ·have:=hJ3 _ hm;omega) _,hr.nd⟩
end
end Go.Proofs.YtokiapglmedipaaGreatDoor
