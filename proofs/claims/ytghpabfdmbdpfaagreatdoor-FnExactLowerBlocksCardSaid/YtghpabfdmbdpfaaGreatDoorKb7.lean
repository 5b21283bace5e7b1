/-
  Contracts and lemmas that the card needs, part 7.
-/
import Derived.Test.YtghpabfdmbdpfaaGreatDoorKb6
namespace Go.Proofs.YtghpabfdmbdpfaaGreatDoor
open Go Go.Aw
set_option maxRecDepth 100000
set_option maxHeartbeats 4000000
section
theorem NF{P:Program}{G:aH}{k:Nat}{c:AK}{ts:List AV}{h:List AO}{Q:Aw.AX->List AV->List AO->Prop}(n:Nat)(R:List AV->List AO->Prop)
 (h1:∀Q':Aw.AX->List AV->List AO->Prop,(∀ts' h',R ts' h'->Q' (.exit n) ts' h')->AKW P G k c ts h Q')(h2:∀ts' h',R ts' h'->Q (.exit n) ts' h'):AKW P G k c ts h Q:=h1 Q h2
theorem Stg.upd{mk:Lw->AV->AO}{L:Nat}{I0 E:List Nat}{h hB:List AO}{w:Lw}{X X2:List AO}{K:AV}{I:List Nat}(S:Stg mk L I0 E h hB w X K I){oid:Nat}(hX:X.length<=X2.length)(e:∀i,i<X.length->i≠oid->X2[i]?=X[i]?)(ho:h.length<=oid)(hoE:oid∉E)(hoI:oid∉L::I):Stg mk L I0 E h hB w X2 K I:=by
 have hne:∀i,i∈L::I->i≠oid:=λi hi e=>hoI (e▸hi)
 refine⟨S.ls.frame λi hi=>e i ?_ (hne i hi),⟨Nat.le_trans S.fr.1 hX,λi hi hn=>?_⟩,S.sub,λi hi=>?_,λi hi=>⟨Nat.lt_of_lt_of_le (S.ap i hi).1 hX,(S.ap i hi).2⟩,Nat.le_trans S.ge hX⟩
 ·rcases List.mem_cons.1 hi with rfl|hi
  ·exact S.ls.lt
  ·exact S.ls.own.lt hi
 ·rw[e i (by have:=S.fr.1;omega) (by omega)];exact S.fr.2 i hi hn
 ·rw[e i (S.ap i hi).1 (λe=>hoE (e▸hi))];exact S.keep i hi
theorem Lw.name_name(w:Lw)(a b:Nat):(w.name a).name b=w.name (a+b):=by simp[Lw.name,List.append_assoc]
structure MpQ where (i:Nat) (X:List AO) (o:Nat)
variable (G:aH)
def ExR(l:List Fd)(pr:Int)(L:Nat)(V:AV)(nx:Nat)(vs:Vs)(e:Ex):Prop:=∀(w:Lw) (h:List AO) (K:AV) (I:List Nat) (B:Nat),LS (lwR l pr V nx) L w h K I->w.Ok B->B+8*e.sz<=1073741823->VAt h V vs->(∀i∈vi V,i∉L::I)->
 AC Tryz.prog G be [.ptr L 8 0 0,.agg (e.cs.map .p)] h λx h'=>x= .ret (.p (.int .i64 (lwE (faI l) (rgV vs) e w).1))/\LR (lwR l pr V nx) L (lwE (faI l) (rgV vs) e w).2 I h h'
theorem OO{l:List Fd}{pr:Int}{L:Nat}{V:AV}{nx:Nat}{vs:Vs}{e a b:Ex}(hk:e.kids=[a,b])(ha:ExR G l pr L V nx vs a)(hb:ExR G l pr L V nx vs b){w:Lw}{h:List AO}{K:AV}{I:List Nat}{B:Nat}(H:LS (lwR l pr V nx) L w h K I)(hok:w.Ok B)(hB:B+8*e.sz<=1073741823)(hV:VAt h V vs)(hVd:∀i∈vi V,i∉L::I):
 AC Tryz.prog G ic [.ptr L 8 0 0,.agg (e.cs.map .p)] h λx h'=>x= .ret (.p (.int .i64 (lwA (faI l) (rgV vs) e.kids w).1))/\LR (lwR l pr V nx) L (lwA (faI l) (rgV vs) e.kids w).2 I h h':=by
 have hc:=e.cs_eq
 have hzz:=e.sz_eq
 have hac:=a.cs_eq
 have hbc:=b.cs_eq
 have hkz:aL e.kids=a.sz+b.sz:=by rw[hk];simp[aL]
 obtain⟨E,hE⟩:∃E,E=h.length::vi V:=⟨_,rfl⟩
 have hkx:exL e.kids= .lst 4 [[.int .i64 a.op,.int .i64 a.n,.str a.name,exL a.kids],[.int .i64 b.op,.int .i64 b.n,.str b.name,exL b.kids]]:=by rw[hk,←hac,←hbc];rfl
 obtain⟨bo,hbo⟩:∃bo,bo=AO.row 4 [[.p (.int .i64 e.op),.p (.int .i64 e.n),.p (.str e.name),.p (exL e.kids)]]:=⟨_,rfl⟩
 have hS0:Stg (lwR l pr V nx) L I E h (h++[bo]) w (h++[bo]) K I:=Stg.of H [bo] (λi hi=>by
  rw[hE] at hi
  rcases List.mem_cons.1 hi with rfl|hi
  ·refine⟨by simp,?_⟩
   simp only[List.mem_cons,not_or]
   exact⟨by have:=H.lt;omega,λhm=>by have:=H.own.lt hm;omega⟩
  ·exact⟨by have:=hV.lt i hi;simp;omega,hVd i hi⟩)
 have hb0:(h++[bo])[h.length]?=some bo:=by simp
 have kE:∀{w2:Lw} {X:List AO} {K2:AV} {I2:List Nat},Stg (lwR l pr V nx) L I E h (h++[bo]) w2 X K2 I2->X[h.length]?=some bo/\VAt X V vs/\(∀i∈vi V,i∉L::I2):=λ{w2 X K2 I2} S=>⟨(S.keep _ (by rw[hE];simp)).trans hb0,(hV.more [bo]).frame λi hi=>S.keep i (by rw[hE];simp[hi]),λi hi=>(S.ap i (by rw[hE];simp[hi])).2⟩
 rw[hk,lwA]
 rw[hkx] at hbo
 subst hbo
 have h1c:=ha w _ K I B hS0.ls hok (by omega) (kE hS0).2.1 (kE hS0).2.2
 obtain⟨ok1,len1⟩:=lF (faI l) (rgV vs) a w B hok
 generalize lwE (faI l) (rgV vs) a w=x1 at*
 obtain⟨t,ht⟩:∃t,t=x1.2.bs.length:=⟨_,rfl⟩
 simp only[Lw.mk'_len,←ht]
 rw[hac] at h1c
 rw[hc]
 refine AC.go tG ?_
 simp-implicitDefEqProofs[-AV.cells,-AV.isCell,aC,ae,ag,aq,ah,aB,ab,au,aj,mm,hkx]
 refine h1c.mono ?_
 rintro x X1 ⟨rfl,hlr⟩
 obtain⟨K1,I1,S1⟩:=hS0.step (J:=[]) (λj hj=>by cases hj) (by rw[List.append_nil];exact hlr)
 simp-implicitDefEqProofs[-AV.cells,-AV.isCell,aC,ae,ag,aq,ah,aB,ab,au,aj,aa]
 have ok2:=ok1.reg
 refine(mh G S1.ls (by have:=ok1.regs;omega)).mono ?_
 rintro x X2 ⟨rfl,hlr⟩
 obtain⟨K2,I2,S2⟩:=S1.step (J:=[]) (λj hj=>by cases hj) (by rw[List.append_nil];exact hlr)
 simp-implicitDefEqProofs[-AV.cells,-AV.isCell,aC,ae,ag,aq,ah,aB,ab,au,aj,aa]
 obtain⟨f1,f2⟩:=S2.fresh
 have hm2:=rH G (S2.ls.more [.row 1 (([]:List Int).map λn=>[AV.p (.int .i64 n)])]) ok2 (by omega) ⟨1,x1.2.regs,[],0⟩ (cC X2 ([]:List Int) rfl) (by simp) f2
 simp only[List.map_cons,List.map_nil,List.length_cons,List.length_nil] at hm2
 refine hm2.mono ?_
 rintro x X3 ⟨rfl,hlr⟩
 obtain⟨K3,I3,S3⟩:=(S2.more _).step f1 hlr
 have ok3:=ok2.put ⟨1,x1.2.regs,[],0⟩
 have hl3:(x1.2.reg.put ⟨1,x1.2.regs,[],0⟩).bs.length=t:=by rw[Lw.put_len];exact ht.symm
 simp-implicitDefEqProofs[-AV.cells,-AV.isCell,aC,ae,ag,aq,ah,aB,ab,au,aj,aa,hl3]
 refine(vI G S3.ls ok3 (by omega) ⟨(kE S3).2.1.is.1,(kE S3).2.1.is.2.1⟩).mono ?_
 rintro x X4 ⟨rfl,hlr⟩
 obtain⟨K4,I4,S4⟩:=S3.step (J:=[]) (λj hj=>by cases hj) (by rw[List.append_nil];exact hlr)
 have ok4:=ok3.name 1
 simp-implicitDefEqProofs[-AV.cells,-AV.isCell,aC,ae,ag,aq,ah,aB,ab,au,aj,aa,hl3]
 refine(vI G S4.ls ok4 (by omega) ⟨(kE S4).2.1.is.1,(kE S4).2.1.is.2.1⟩).mono ?_
 rintro x X5 ⟨rfl,hlr⟩
 obtain⟨K5,I5,S5⟩:=S4.step (J:=[]) (λj hj=>by cases hj) (by rw[List.append_nil];exact hlr)
 have ok5:=ok3.name 2
 have hnn:((x1.2.reg.put ⟨1,x1.2.regs,[],0⟩).name 1).name 1=(x1.2.mk' 1 0 []).name 2:=Lw.name_name _ 1 1
 have hl4:((x1.2.reg.put ⟨1,x1.2.regs,[],0⟩).name 1).bs.length=t+1:=by rw[Lw.name_len,hl3]
 rw[hnn] at S5
 have ok5:((x1.2.mk' 1 0 []).name 2).Ok _:=ok5
 simp-implicitDefEqProofs[-AV.cells,-AV.isCell,aC,ae,ag,aq,ah,aB,ab,au,aj,aa,hl3,hl4]
 obtain⟨f1,f2⟩:=S5.fresh
 have hm5:=oT G (S5.ls.more [.row 1 ([(t:Int),(t:Int)+1].map λn=>[AV.p (.int .i64 n)])]) ok5 2 x1.1 t [(t:Int),(t:Int)+1] (cC X5 [(t:Int),(t:Int)+1] rfl) (by simp) f2
 simp only[List.map_cons,List.map_nil,List.length_cons,List.length_nil] at hm5
 refine hm5.mono ?_
 rintro x X6 ⟨rfl,hlr⟩
 obtain⟨K6,I6,S6⟩:=(S5.more _).step f1 hlr
 have ok6:=ok5.fin 2 x1.1 (g:=t) (by simp only[Lw.name_len,Lw.mk'_len,←ht];omega) [(t:Int),(t:Int)+1]
 obtain⟨y0,yV,yd⟩:=kE S6
 have h2c:=hb _ X6 K6 I6 _ S6.ls ok6 (by omega) yV yd
 obtain⟨ok7,len7⟩:=lF (faI l) (rgV vs) b _ _ ok6
 generalize lwE (faI l) (rgV vs) b (((x1.2.mk' 1 0 []).name 2).fin 2 x1.1 t [(t:Int),(t:Int)+1])=x2 at*
 rw[hbc] at h2c
 simp-implicitDefEqProofs[-AV.cells,-AV.isCell,aC,ae,ag,aq,ah,aB,ab,au,aj,aa,y0]
 refine h2c.mono ?_
 rintro x X7 ⟨rfl,hlr⟩
 obtain⟨K7,I7,S7⟩:=S6.step (J:=[]) (λj hj=>by cases hj) (by rw[List.append_nil];exact hlr)
 simp-implicitDefEqProofs[-AV.cells,-AV.isCell,aC,ae,ag,aq,ah,aB,ab,au,aj,aa]
 refine(mh G S7.ls (by have:=ok7.regs;omega)).mono ?_
 rintro x X8 ⟨rfl,hlr⟩
 obtain⟨K8,I8,S8⟩:=S7.step (J:=[]) (λj hj=>by cases hj) (by rw[List.append_nil];exact hlr)
 have ok8:=ok7.reg
 simp-implicitDefEqProofs[-AV.cells,-AV.isCell,aC,ae,ag,aq,ah,aB,ab,au,aj,aa]
 obtain⟨f1,f2⟩:=S8.fresh
 have hm8:=rH G (S8.ls.more [.row 1 ([x2.1].map λn=>[AV.p (.int .i64 n)])]) ok8 (by omega) ⟨10,x2.2.regs,[x2.1],0⟩ (cC X8 [x2.1] rfl) (by simp) f2
 simp only[List.map_cons,List.map_nil,List.length_cons,List.length_nil] at hm8
 refine hm8.mono ?_
 rintro x X9 ⟨rfl,hlr⟩
 obtain⟨K9,I9,S9⟩:=(S8.more _).step f1 hlr
 have ok9:=ok8.put ⟨10,x2.2.regs,[x2.1],0⟩
 simp-implicitDefEqProofs[-AV.cells,-AV.isCell,aC,ae,ag,aq,ah,aB,ab,au,aj,aa]
 obtain⟨f1,f2⟩:=S9.fresh
 have hm9:=rH G (S9.ls.more [.row 1 ([(x2.2.regs:Int)].map λn=>[AV.p (.int .i64 n)])]) ok9 (by omega) ⟨10,x1.2.regs,[(x2.2.regs:Int)],0⟩ (cC X9 [(x2.2.regs:Int)] rfl) (by simp) f2
 simp only[List.map_cons,List.map_nil,List.length_cons,List.length_nil] at hm9
 refine hm9.mono ?_
 rintro x X10 ⟨rfl,hlr⟩
 obtain⟨K10,I10,S10⟩:=(S9.more _).step f1 hlr
 have ok10:=ok9.put ⟨10,x1.2.regs,[(x2.2.regs:Int)],0⟩
 simp-implicitDefEqProofs[-AV.cells,-AV.isCell,aC,ae,ag,aq,ah,aB,ab,au,aj,aa]
 obtain⟨f1,f2⟩:=S10.fresh
 have hm10:=oT G (S10.ls.more [.row 1 ([(t:Int)+1].map λn=>[AV.p (.int .i64 n)])]) ok10 1 0 (t+1) [(t:Int)+1] (cC X10 [(t:Int)+1] rfl) (by simp) f2
 simp only[List.map_cons,List.map_nil,List.length_cons,List.length_nil] at hm10
 rw[show((t+1:Nat):Int)=(t:Int)+1 by omega] at hm10
 refine hm10.mono ?_
 rintro x X11 ⟨rfl,hlr⟩
 obtain⟨K11,I11,S11⟩:=(S10.more _).step f1 hlr
 simp-implicitDefEqProofs[-AV.cells,-AV.isCell,aC,ae,ag,aq,ah,aB,ab,au,aj,aa]
 exact S11.lr
theorem GD(l:List Fd)(hl:l.length<=1073741824)(pr:Int)(L:Nat)(V:AV)(nx:Nat)(vs:Vs)(hvl:vs.length<=1073741824):∀(d:Nat) (e:Ex),bJ d e=true->ExR G l pr L V nx vs e:=by
 intro d
 induction d with
 |zero=>intro e h;cases h
 |succ d ih=>
 intro e hf w h K I B H hok hB hV hVd
 have hc:=e.cs_eq
 have hzz:=e.sz_eq
 have hLl:=H.lt
 have hxl:∀l,exL l= .lst 4 (l.map Ex.cs):=λ_=>rfl
 obtain⟨v1,v2,v3⟩:=hV.is
 obtain⟨E,hE⟩:∃E,E=h.length::vi V:=⟨_,rfl⟩
 obtain⟨bo,hbo⟩:∃bo,bo=AO.row 4 [[.p (.int .i64 e.op),.p (.int .i64 e.n),.p (.str e.name),.p (exL e.kids)]]:=⟨_,rfl⟩
 have hS0:Stg (lwR l pr V nx) L I E h (h++[bo]) w (h++[bo]) K I:=Stg.of H [bo] (λi hi=>by
  rw[hE] at hi
  rcases List.mem_cons.1 hi with rfl|hi
  ·refine⟨by simp,?_⟩
   simp only[List.mem_cons,not_or]
   exact⟨by have:=H.lt;omega,λhm=>by have:=H.own.lt hm;omega⟩
  ·exact⟨by have:=hV.lt i hi;simp;omega,hVd i hi⟩)
 have hb0:(h++[bo])[h.length]?=some bo:=by simp
 have kE:∀{w2:Lw} {X:List AO} {K2:AV} {I2:List Nat},Stg (lwR l pr V nx) L I E h (h++[bo]) w2 X K2 I2->X[h.length]?=some bo/\VAt X V vs/\(∀i∈vi V,i∉L::I2):=λ{w2 X K2 I2} S=>⟨(S.keep _ (by rw[hE];simp)).trans hb0,(hV.more [bo]).frame λi hi=>S.keep i (by rw[hE];simp[hi]),λi hi=>(S.ap i (by rw[hE];simp[hi])).2⟩
 have lp:∀{w2:Lw} {X:List AO} {K2:AV} {I2:List Nat},Stg (lwR l pr V nx) L I E h (h++[bo]) w2 X K2 I2->∀t,(X++t)[L]?=some (lwR l pr V nx w2 K2):=λS t=>by rw[List.getElem?_append_left S.ls.lt];exact S.ls.here
 have hfE:=JC (faI l) (rgV vs) e w
 refine AC.go sv ?_
 rw[hc]
 by_cases o1:e.op=1
 ·rw[if_pos o1] at hfE
  rw[hfE]
  rw[o1] at hbo
  have hF:=mh G hS0.ls (by have:=hok.regs;omega)
  have h0:∀t,(h++[bo]++t)[h.length]?=some bo:=λt=>by simp
  simp-implicitDefEqProofs[-AV.cells,-AV.isCell,aC,ae,ag,aq,ah,aB,ab,au,aj,cL,o1]
  rw[←hbo]
  refine hF.mono ?_
  rintro x X1 ⟨rfl,hlr⟩
  obtain⟨K1,I1,S1⟩:=hS0.step (J:=[]) (λj hj=>by cases hj) (by rw[List.append_nil];exact hlr)
  have ok1:=hok.reg
  have y0:=(kE S1).1
  rw[hbo] at y0
  simp-implicitDefEqProofs[-AV.cells,-AV.isCell,aC,ae,ag,aq,ah,aB,ab,au,aj,aa,y0]
  refine(rH G S1.ls ok1 (by omega) ⟨1,w.regs,[],e.n⟩ (A:= .p (br [])) (J:=[]) (.p _ (λh=>by cases h) .nil) List.nodup_nil (λj hj=>by cases hj)).mono ?_
  rintro x X2 ⟨rfl,hlr⟩
  obtain⟨K2,I2,S2⟩:=S1.step (J:=[]) (λj hj=>by cases hj) hlr
  simp-implicitDefEqProofs[aa]
  exact S2.lr
 by_cases o2:e.op=2
 ·rw[if_neg o1,if_pos o2] at hfE
  rw[hfE]
  rw[o2] at hbo
  have hF:=Ku G hS0.ls.here (hV.more [bo]) hvl e.name
  simp-implicitDefEqProofs[-AV.cells,-AV.isCell,aC,ae,ag,aq,ah,aB,ab,au,aj,cL,o1,o2]
  rw[←hbo]
  refine hF.mono ?_
  rintro x h1 ⟨rfl,rfl⟩
  simp-implicitDefEqProofs[aa]
  exact hS0.lr
 by_cases o10:e.op=10
 ·rw[if_neg o1,if_neg o2,if_pos o10] at hfE
  rw[hfE]
  obtain⟨a,b,hk⟩:=Bp hf o10
  have hF:=OO G hk (ih a (gZ hf (by rw[hk];simp))) (ih b (gZ hf (by rw[hk];simp))) hS0.ls hok hB (kE hS0).2.1 (kE hS0).2.2
  rw[hc] at hF
  rw[o10] at hbo hF
  simp-implicitDefEqProofs[-AV.cells,-AV.isCell,aC,ae,ag,aq,ah,aB,ab,au,aj,cL,o1,o2,o10]
  rw[←hbo]
  refine hF.mono ?_
  rintro x X1 ⟨rfl,hlr⟩
  obtain⟨K1,I1,S1⟩:=hS0.step (J:=[]) (λj hj=>by cases hj) (by rw[List.append_nil];exact hlr)
  simp-implicitDefEqProofs[aa]
  exact S1.lr
 rw[if_neg o1,if_neg o2,if_neg o10] at hfE
 have hal:=bh e.kids
 have hbl:(h++[bo]).length=h.length+1:=by simp
 simp-implicitDefEqProofs[-AV.cells,-AV.isCell,aC,ae,ag,aq,ah,aB,ab,au,aj,cL,o1,o2,o10,hxl]
 refine NF 1 (λts' X=>∃oid K1 I1,Stg (lwR l pr V nx) L I E h (h++[bo]) (aY (faI l) (rgV vs) e.kids w).2 X K1 I1/\X[oid]?=some (mD (aY (faI l) (rgV vs) e.kids w).1)/\h.length<oid/\oid∉E/\oid∉L::I1/\∃z,ts'=ay 84 ((34,z)::(33,.p (.int .i64 e.kids.length))::(32,.p (.lst 4 (e.kids.map Ex.cs)))::(31,.ptr h.length 4 0 3)::(30,.p (.int .i64 e.kids.length))::[(5,.sl oid 1 0 e.kids.length),(6,.p (.int .i64 e.kids.length)),(3,.ptr h.length 4 0 0),(0,.ptr L 8 0 0)])) (λQ' qE=>?_) ?_
 ·clear hfE
  rw[hxl] at hbo
  have S00:Stg (lwR l pr V nx) L I E h (h++[bo]) w (h++[bo]++[.row 1 []]) K I:=hS0.more _
  have e0:h++[bo]++[AO.row 1 []]=h++[bo,.row 1 []]:=by simp
  rw[e0] at S00
  have hvE:h.length+1∉E:=λhm=>by have:=(hS0.ap _ hm).1;simp at this
  refine aF (λa:MpQ=>ay 84 [(5,.sl a.o 1 0 a.i),(6,.p (.int .i64 a.i)),(3,.ptr h.length 4 0 0),(0,.ptr L 8 0 0)]) (λa=>a.X)
   (λa=>a.i<=e.kids.length/\∃K1 I1,Stg (lwR l pr V nx) L I E h (h++[bo]) (aY (faI l) (rgV vs) (e.kids.take a.i) w).2 a.X K1 I1/\a.X[a.o]?=some (mD (aY (faI l) (rgV vs) (e.kids.take a.i) w).1)/\h.length<a.o/\a.o∉E/\a.o∉L::I1) (λa=>e.kids.length-a.i) ⟨0,h++[bo,.row 1 []],h.length+1⟩ ⟨Nat.zero_le _,K,I,by rw[List.take_zero,aY];exact S00,by rw[List.take_zero,aY,←e0,List.getElem?_append_right (by simp)];simp[mD],by simp,hvE,by
     simp only[List.mem_cons,not_or]
     exact⟨by omega,λhm=>by have:=H.own.lt hm;omega⟩⟩ ?_ ?_
  ·rw[hbo]
   exact aw (by simp) (by simp[below];omega)
  rintro⟨i,X,o⟩ ⟨hi,K1,I1,S,hx,ho,hoE,hoI⟩
  simp only at hi S hx ho hoE hoI
  have hXl:=S.fr.1
  have hXL:=S.ls.lt
  have hox:o<X.length:=(List.getElem?_eq_some_iff.1 hx).1
  have hlen:(aY (faI l) (rgV vs) (e.kids.take i) w).1.length=i:=by rw[fb,List.length_take];omega
  obtain⟨y0,yV,yd⟩:=kE S
  rw[hbo] at y0
  have hbX:h.length<X.length:=(List.getElem?_eq_some_iff.1 y0).1
  simp-implicitDefEqProofs[y0]
  refine aJ (λhc1=>?_) (λhc1=>?_)
  ·simp at hc1
   have hg:=List.getElem?_eq_getElem hc1
   have hm:=List.getElem_mem hc1
   have htk:=ty (fa:=faI l) (sc:=rgV vs) hc1 w
   have hok1:=(iA (faI l) (rgV vs) (e.kids.take i) w B hok).1
   have hzt:aL (e.kids.take i)+e.kids[i].sz<=aL e.kids:=by
    have h1:=List.take_append_drop (i+1) e.kids
    have h2:aL e.kids=aL (e.kids.take (i+1))+aL (e.kids.drop (i+1)):=by
     conv=>lhs;rw[←h1]
     rw[dg]
    rw[an hc1,dg] at h2
    simp only[aL] at h2
    omega
   have hcall:=ih e.kids[i] (gZ hf hm) _ _ K1 I1 _ S.ls hok1 (by omega) yV yd
   generalize e.kids[i]=k at*
   have hkc:=k.cs_eq
   generalize aY (faI l) (rgV vs) (e.kids.take i) w=cur at*
   obtain⟨out,w1⟩:=cur
   simp only at htk hcall hok1 S hx hlen
   rw[hkc] at hcall
   simp-implicitDefEqProofs[-AV.cells,-AV.isCell,aC,ae,ag,aq,ah,aB,ab,au,aj,y0,hg,hkc]
   refine hcall.mono ?_
   rintro r X2 ⟨rfl,hlr⟩
   have hl2:X.length<=X2.length:=by obtain⟨_,_,_,a,_⟩:=hlr;exact a.1
   have hx2:X2[o]?=some (mD out):=by
    obtain⟨_,_,_,a,_⟩:=hlr
    rw[a.2 o hox hoI];exact hx
   have hE2:∀j∈o::E,j<X.length/\j∉L::I1:=λj hj=>by
    rcases List.mem_cons.1 hj with rfl|hj
    ·exact⟨hox,hoI⟩
    ·exact S.ap j hj
   obtain⟨K2,I2,S2o⟩:=(show Stg (lwR l pr V nx) L I (o::E) h X w1 X K1 I1 from⟨S.ls,S.fr,S.sub,λ_ _=>rfl,hE2,Nat.le_refl _⟩).step (J:=[]) (λj hj=>by cases hj) (by rw[List.append_nil];exact hlr)
   have hoI2:o∉L::I2:=(S2o.ap o (by simp)).2
   have S2:Stg (lwR l pr V nx) L I E h (h++[bo]) _ X2 K2 I2:=⟨S2o.ls,S2o.fr,S2o.sub,λj hj=>(S2o.keep j (by simp[hj])).trans (S.keep j hj),λj hj=>S2o.ap j (by simp[hj]),Nat.le_trans S.ge hl2⟩
   have hx2':∀t,(X2++t)[o]?=some (.row 1 (out.map λn=>[AV.p (.int .i64 n)])):=λt=>by rw[List.getElem?_append_left (by omega)];exact hx2
   have hot:List.take i (out.map λn=>[AV.p (.int .i64 n)])=out.map λn=>[AV.p (.int .i64 n)]:=List.take_of_length_le (by simp;omega)
   simp-implicitDefEqProofs[-AV.cells,-AV.isCell,aC,ae,ag,aq,ah,aB,ab,au,aj,aa,hx2',hlen,hot]
   refine⟨by omega,⟨i+1,_,X2.length+1⟩,⟨by simp only;omega,K2,I2,by
    rw[htk]
    exact S2.upd (oid:=o) (by simp;omega) (λj hj hn=>by rw[List.getElem?_append_left (by simp;omega),List.getElem?_set_ne (Ne.symm hn),List.getElem?_append_left hj]) (by omega) hoE hoI2,?_,by simp only;omega,λhm=>by have:=(S2.ap _ hm).1;simp only at this;omega,?_⟩,by simp only;omega,aw (by simp;omega) ?_⟩
   ·rw[htk,List.getElem?_append_right (by simp)];simp[mD]
   ·simp only[List.mem_cons,not_or]
    exact⟨by have:=S2.ls.lt;omega,λhm=>by have:=S2.ls.own.lt hm;omega⟩
   ·simp[below,show IntKind.i64.wrap ((i:Int)+1)=(i:Int)+1 from af (by omega) (by omega)]
    omega
  ·simp at hc1
   have hie:i=e.kids.length:=by omega
   subst hie
   rw[List.take_length] at S hx hlen
   simp-implicitDefEqProofs[]
   exact qE _ _ ⟨o,K1,I1,S,hx,ho,hoE,hoI,_,rfl⟩
 ·rintro ts' X ⟨oid,K1,I1,S,hx,ho,hoE,hoI,z,rfl⟩
  obtain⟨y0,yV,yd⟩:=kE S
  rw[hbo] at y0
  obtain⟨okM,lenM⟩:=iA (faI l) (rgV vs) e.kids w B hok
  have hlm:=fb (faI l) (rgV vs) e.kids w
  rw[hfE]
  generalize aY (faI l) (rgV vs) e.kids w=m at*
  have hA:OwnL false X [.sl oid 1 0 e.kids.length] [br m.1] [oid]:=sA hx hlm.symm
  have hJE:∀j∈[oid],h.length<=j/\j∉E:=λj hj=>by rw[List.mem_singleton.1 hj];exact⟨by omega,hoE⟩
  have hF:AC Tryz.prog G bI [.ptr L 8 0 0] X λx X1=>x= .ret (.p (.int .i64 m.2.regs))/\X1[h.length]?=some bo/\(∃K2,X1[L]?=some (lwR l pr V nx m.2.reg K2))/\∀q,AC Tryz.prog G cg [.ptr L 8 0 0,.p (.int .i64 (gB e.op)),.p (.int .i64 m.2.regs),.p (.int .i64 q),.sl oid 1 0 e.kids.length] X1 λx X2=>x= .ret (.p (.int .i64 m.2.regs))/\LR (lwR l pr V nx) L (m.2.mk' (gB e.op) q m.1) I h X2:=by
   refine(mh G S.ls (by have:=okM.regs;omega)).mono ?_
   rintro x X1 ⟨rfl,hlr⟩
   have S1:Stg (lwR l pr V nx) L I (oid::E) h X m.2 X K1 I1:=⟨S.ls,S.fr,S.sub,λ_ _=>rfl,λj hj=>by
    rcases List.mem_cons.1 hj with rfl|hj
    ·exact⟨(List.getElem?_eq_some_iff.1 hx).1,hoI⟩
    ·exact S.ap j hj,Nat.le_refl _⟩
   obtain⟨K2,I2,S2⟩:=S1.step (J:=[]) (λj hj=>by cases hj) (by rw[List.append_nil];exact hlr)
   refine⟨rfl,by rw[S2.keep h.length (by rw[hE];simp),y0,←hbo],⟨K2,S2.ls.here⟩,λq=>?_⟩
   refine(rH G S2.ls okM.reg (by omega) ⟨gB e.op,m.2.regs,m.1,q⟩ (hA.frame λj hj=>S2.keep j (by rw[List.mem_singleton.1 hj];simp)) (by simp) (λj hj=>by
    have:=(S2.ap oid (by simp)).2
    rw[List.mem_singleton.1 hj]
    simpa using this)).mono ?_
   rintro x X3 ⟨rfl,hlr⟩
   have S2':Stg (lwR l pr V nx) L I E h X m.2.reg X1 K2 I2:=⟨S2.ls,S2.fr,S2.sub,λj hj=>S2.keep j (by simp[hj]),λj hj=>S2.ap j (by simp[hj]),S2.ge⟩
   obtain⟨K3,I3,S3⟩:=S2'.step hJE hlr
   exact⟨rfl,S3.lr⟩
  simp-implicitDefEqProofs[-AV.cells,-AV.isCell,aC,ae,ag,aq,ah,aB,ab,au,aj,y0,hbo]
  refine aJ (λc11=>?_) (λc11=>?_)
  ·have c11:e.op=11:=by simpa using c11
   have hq:(if e.op=13 then faI l e.name else 0)=0:=if_neg (by omega)
   rw[hq]
   rw[show gB e.op=10 by rw[c11];rfl] at hF⊢
   simp-implicitDefEqProofs[-AV.cells,-AV.isCell,aC,ae,ag,aq,ah,aB,ab,au,aj]
   refine hF.mono ?_
   rintro x X1 ⟨rfl,y1,⟨K2,yL2⟩,hP⟩
   simp-implicitDefEqProofs[-AV.cells,-AV.isCell,aC,ae,ag,aq,ah,aB,ab,au,aj,aa]
   refine(hP 0).mono ?_
   rintro x X2 ⟨rfl,hlr⟩
   simp-implicitDefEqProofs[aa]
   exact hlr
  have c11:¬e.op=11:=by simpa using c11
  simp-implicitDefEqProofs[-AV.cells,-AV.isCell,aC,ae,ag,aq,ah,aB,ab,au,aj]
  refine aJ (λc12=>?_) (λc12=>?_)
  ·have c12:e.op=12:=by simpa using c12
   have hq:(if e.op=13 then faI l e.name else 0)=0:=if_neg (by omega)
   rw[hq]
   rw[show gB e.op=11 by rw[c12];rfl] at hF⊢
   simp-implicitDefEqProofs[-AV.cells,-AV.isCell,aC,ae,ag,aq,ah,aB,ab,au,aj]
   refine hF.mono ?_
   rintro x X1 ⟨rfl,y1,⟨K2,yL2⟩,hP⟩
   simp-implicitDefEqProofs[-AV.cells,-AV.isCell,aC,ae,ag,aq,ah,aB,ab,au,aj,aa]
   refine(hP 0).mono ?_
   rintro x X2 ⟨rfl,hlr⟩
   simp-implicitDefEqProofs[aa]
   exact hlr
  have c12:¬e.op=12:=by simpa using c12
  simp-implicitDefEqProofs[-AV.cells,-AV.isCell,aC,ae,ag,aq,ah,aB,ab,au,aj]
  have yL:=S.ls.here
  simp only[lwR] at yL
  refine aJ (λc13=>?_) (λc13=>?_)
  ·have c13:e.op=13:=by simpa using c13
   have hq:(if e.op=13 then faI l e.name else 0)=ixI (cM l e.name):=by rw[if_pos c13,Lx]
   rw[hq]
   rw[show gB e.op=14 by rw[c13];rfl] at hF⊢
   simp-implicitDefEqProofs[-AV.cells,-AV.isCell,aC,ae,ag,aq,ah,aB,ab,au,aj,y0,yL]
   refine hF.mono ?_
   rintro x X1 ⟨rfl,y1,⟨K2,yL2⟩,hP⟩
   rw[hbo] at y1
   simp only[lwR] at yL2
   simp-implicitDefEqProofs[-AV.cells,-AV.isCell,aC,ae,ag,aq,ah,aB,ab,au,aj,aa,y1,yL2]
   refine((FG G l e.name (by omega)).ac (by simp[below]) (by simp[below]) _).mono ?_
   rintro x X1' ⟨rfl,rfl⟩
   simp-implicitDefEqProofs[-AV.cells,-AV.isCell,aC,ae,ag,aq,ah,aB,ab,au,aj,aa,y1,yL2]
   refine(hP _).mono ?_
   rintro x X2 ⟨rfl,hlr⟩
   simp-implicitDefEqProofs[aa]
   exact hlr
  ·have c13:¬e.op=13:=by simpa using c13
   have hq:(if e.op=13 then faI l e.name else 0)=0:=if_neg c13
   rw[hq]
   rw[show gB e.op=e.op by rw[gB,if_neg c11,if_neg c12,if_neg c13]] at hF⊢
   simp-implicitDefEqProofs[-AV.cells,-AV.isCell,aC,ae,ag,aq,ah,aB,ab,au,aj,y0,yL]
   refine hF.mono ?_
   rintro x X1 ⟨rfl,y1,⟨K2,yL2⟩,hP⟩
   rw[hbo] at y1
   simp-implicitDefEqProofs[-AV.cells,-AV.isCell,aC,ae,ag,aq,ah,aB,ab,au,aj,aa,y1]
   refine(hP 0).mono ?_
   rintro x X2 ⟨rfl,hlr⟩
   simp-implicitDefEqProofs[aa]
   exact hlr
end
section
structure RS (l:List Fd) (pr:Int) (L:Nat) (S I0 E:List Nat) (h:List AO) (w:Lw) (nx:Nat) (vs:Vs) (X:List AO) (K V:AV) (I:List Nat):Prop where
 stb:Stb (lwR l pr V nx) L S I0 (vi V++E) h w X K I
 va:VAt X V vs
 vE:∀i∈vi V,i∉E/\(i∈S\/h.length<=i)
section
variable {l:List Fd} {pr:Int} {L:Nat} {S I0 E E2:List Nat} {h:List AO} {w w2:Lw} {nx nx2:Nat} {vs vs2:Vs} {X X2:List AO} {K K2 V V2:AV} {I I2 J:List Nat}
theorem RS.more(T:RS l pr L S I0 E h w nx vs X K V I)(os:List AO):RS l pr L S I0 E h w nx vs (X++os) K V I:=⟨T.stb.more os,T.va.more os,T.vE⟩
theorem RS.few(T:RS l pr L S I0 E h w nx vs X K V I)(hE:∀i∈E2,i∈E):RS l pr L S I0 E2 h w nx vs X K V I:=
 ⟨⟨T.stb.ls,T.stb.fr,T.stb.hL,T.stb.hS,T.stb.sub,λi hi=>T.stb.ap i (by
   rcases List.mem_append.1 hi with h|h
   ·exact List.mem_append.2 (.inl h)
   ·exact List.mem_append.2 (.inr (hE i h)))⟩,T.va,λi hi=>⟨λh=>(T.vE i hi).1 (hE i h),(T.vE i hi).2⟩⟩
theorem RS.add(T:RS l pr L S I0 E h w nx vs X K V I){j:Nat}(h1:j<X.length)(h2:j∉L::I)(h3:j∉vi V):RS l pr L S I0 (j::E) h w nx vs X K V I:=
 ⟨⟨T.stb.ls,T.stb.fr,T.stb.hL,T.stb.hS,T.stb.sub,λi hi=>by
   rcases List.mem_append.1 hi with h|h
   ·exact T.stb.ap i (List.mem_append.2 (.inl h))
   ·rcases List.mem_cons.1 h with rfl|h
    ·exact⟨h1,h2⟩
    ·exact T.stb.ap i (List.mem_append.2 (.inr h))⟩,T.va,λi hi=>⟨λh=>by
   rcases List.mem_cons.1 h with rfl|h
   ·exact h3 hi
   ·exact(T.vE i hi).1 h,(T.vE i hi).2⟩⟩
theorem RS.box(T:RS l pr L S I0 E h w nx vs X K V I)(o:AO):RS l pr L S I0 (X.length::E) h w nx vs (X++[o]) K V I:=
 (T.more [o]).add (by simp) (by
   simp only[List.mem_cons,not_or]
   exact⟨by have:=T.stb.ls.lt;omega,λhm=>by have:=T.stb.ls.own.lt hm;omega⟩) (λhm=>by have:=T.va.lt _ hm;omega)
theorem RS.start(T:RS l pr L S I0 E h w nx vs X K V I):RS l pr L (L::(vi V++I)) I [] X w nx vs X K V I:=
 ⟨⟨T.stb.ls,Frm.refl _ _,by simp,λj hj=>by simp[hj],λj hj=> .inl hj,λi hi=>T.stb.ap i (by rw[List.append_nil] at hi;exact List.mem_append.2 (.inl hi))⟩,T.va,λi hi=>⟨by simp,.inl (by simp[hi])⟩⟩
theorem RS.of(H:LS (lwR l pr V nx) L w h K I)(hV:VAt h V vs)(hVd:∀i∈vi V,i∉L::I):RS l pr L (L::(vi V++I)) I [] h w nx vs h K V I:=
 ⟨⟨H,Frm.refl _ _,by simp,λj hj=>by simp[hj],λj hj=> .inl hj,λi hi=>by rw[List.append_nil] at hi;exact⟨hV.lt i hi,hVd i hi⟩⟩,hV,λi hi=>⟨by simp,.inl (by simp[hi])⟩⟩
theorem RS.at(T:RS l pr L S I0 E h w nx vs X K V I):(∀i∈E,i<X.length/\i∉L::I)/\(∀i∈vi V,i<X.length/\i∉L::I):=
 ⟨λi hi=>T.stb.ap i (by simp[hi]),λi hi=>T.stb.ap i (by simp[hi])⟩
theorem RS.fresh(T:RS l pr L S I0 E h w nx vs X K V I):(∀j∈[X.length],h.length<=j/\j∉vi V++E)/\(∀j∈[X.length],j≠L/\j∉I):=T.stb.fresh
theorem RS.step(T:RS l pr L S I0 E h w nx vs X K V I)(hJ:∀j∈J,h.length<=j/\j∉vi V++E)(H:LR (lwR l pr V nx) L w2 (I++J) X X2):∃K2 I2,RS l pr L S I0 E h w2 nx vs X2 K2 V I2/\∀i∈E,X2[i]?=X[i]?:=by
 obtain⟨K2,I2,a1,a2⟩:=T.stb.step hJ H
 exact⟨K2,I2,⟨a1,T.va.frame λi hi=>a2 i (by simp[hi]),T.vE⟩,λi hi=>a2 i (by simp[hi])⟩
theorem RS.lift(T:RS l pr L S I0 E h w nx vs X K V I)(T2:RS l pr L (L::(vi V++I)) I [] X w2 nx2 vs2 X2 K2 V2 I2):RS l pr L S I0 E h w2 nx2 vs2 X2 K2 V2 I2/\∀i∈E,X2[i]?=X[i]?:=by
 have hX:=T.stb.fr.1
 have hX2:=T2.stb.fr.1
 refine⟨⟨⟨T2.stb.ls,T.stb.fr.trans T2.stb.fr λj hj=>?_,T.stb.hL,T.stb.hS,λj hj=>?_,λi hi=>?_⟩,T2.va,λi hi=>⟨λhE=>?_,?_⟩⟩,λi hi=>?_⟩
 ·simp only[List.mem_cons,List.mem_append] at hj
  rcases hj with rfl|hj|hj
  ·exact .inl T.stb.hL
  ·exact(T.vE j hj).2
  ·rcases T.stb.sub j hj with h|h
   ·exact .inl (T.stb.hS j h)
   ·exact .inr h
 ·rcases T2.stb.sub j hj with h|h
  ·exact T.stb.sub j h
  ·exact .inr (by omega)
 ·rcases List.mem_append.1 hi with h|h
  ·exact T2.stb.ap i (by simp[h])
  ·have h1:=T.at.1 i h
   refine⟨by omega,λhm=>?_⟩
   have h2:=h1.2
   simp only[List.mem_cons,not_or] at h2 hm
   rcases hm with hm|hm
   ·exact h2.1 hm
   ·rcases T2.stb.sub i hm with h|h
    ·exact h2.2 h
    ·omega
 ·have h1:=T.at.1 i hE
  rcases(T2.vE i hi).2 with h|h
  ·simp only[List.mem_cons,List.mem_append] at h
   rcases h with rfl|h|h
   ·exact h1.2 (by simp)
   ·exact(T.vE i h).1 hE
   ·exact h1.2 (by simp[h])
  ·omega
 ·rcases(T2.vE i hi).2 with h|h
  ·simp only[List.mem_cons,List.mem_append] at h
   rcases h with rfl|h|h
   ·exact .inl T.stb.hL
   ·exact(T.vE i h).2
   ·rcases T.stb.sub i h with h|h
    ·exact .inl (T.stb.hS i h)
    ·exact .inr h
  ·exact .inr (by omega)
 ·have h1:=T.at.1 i hi
  have h2:=h1.2
  simp only[List.mem_cons,not_or] at h2
  refine T2.stb.fr.2 i h1.1 ?_
  simp only[List.mem_cons,List.mem_append,not_or]
  exact⟨h2.1,λhm=>(T.vE i hm).1 hi,h2.2⟩
theorem RS.alt(T:RS l pr L S I0 E h w nx vs X K V I)(hX:X.length<=X2.length)(hL:X2[L]?=some (lwR l pr V2 nx2 w K))(e:∀i,i<X.length->i≠L->i∉vi V->X2[i]?=X[i]?)(hv:VAt X2 V2 vs2)(hv2:∀i∈vi V2,i∈vi V\/X.length<=i):RS l pr L S I0 E h w nx2 vs2 X2 K V2 I/\∀i∈E,X2[i]?=X[i]?:=by
 have hXl:=T.stb.fr.1
 have hI:∀i∈I,X2[i]?=X[i]?:=λi hi=>e i (T.stb.ls.own.lt hi) (λe=>(List.nodup_cons.1 T.stb.ls.nd).1 (e▸hi)) λhm=>(T.at.2 i hm).2 (by simp[hi])
 refine⟨⟨⟨⟨hL,T.stb.ls.own.frame hI,T.stb.ls.nd,T.stb.ls.noc.1,λkid n rows eK hg=>?_⟩,T.stb.fr.trans (T:=L::vi V) ⟨hX,λi hi hn=>?_⟩ λj hj=>?_,T.stb.hL,T.stb.hS,T.stb.sub,λi hi=>?_⟩,hv,λi hi=>⟨λhE=>?_,?_⟩⟩,λi hi=>?_⟩
 ·have ho:=T.stb.ls.own
  rw[eK] at ho
  rw[hI kid (vp ho)] at hg
  exact T.stb.ls.noc.2 kid n rows eK hg
 ·simp only[List.mem_cons,not_or] at hn
  exact e i hi hn.1 hn.2
 ·rcases List.mem_cons.1 hj with rfl|hj
  ·exact .inl T.stb.hL
  ·exact(T.vE j hj).2
 ·rcases List.mem_append.1 hi with h|h
  ·refine⟨hv.lt i h,?_⟩
   rcases hv2 i h with h|h
   ·exact(T.at.2 i h).2
   ·simp only[List.mem_cons,not_or]
    exact⟨by have:=T.stb.ls.lt;omega,λhm=>by have:=T.stb.ls.own.lt hm;omega⟩
  ·have:=T.at.1 i h
   exact⟨by omega,this.2⟩
 ·rcases hv2 i hi with h|h
  ·exact(T.vE i h).1 hE
  ·have:=(T.at.1 i hE).1;omega
 ·rcases hv2 i hi with h|h
  ·exact(T.vE i h).2
  ·exact .inr (by omega)
 ·have h1:=T.at.1 i hi
  refine e i h1.1 (λe=>h1.2 (by simp[e])) λhm=>(T.vE i hm).1 hi
theorem VAt.form(H:VAt X V vs):(V= .nils/\vs=[])\/∃vid,V= .sl vid 3 0 vs.length:=by
 cases H with
 |nil=>exact .inl ⟨rfl,rfl⟩
 |sl vid rows _ _ _=>exact .inr ⟨vid,rfl⟩
variable (G:aH)
theorem mA(T:RS l pr L S I0 E h w nx vs X K V I){B:Nat}(hok:w.Ok B)(hB:B<=1073741824):
 AC Tryz.prog G cr [.ptr L 8 0 0] X λr h'=>r= .ret (.p (.int .i64 w.bs.length))/\∃K' I',RS l pr L S I0 E h (w.name 1) nx vs h' K' V I'/\∀i∈E,h'[i]?=X[i]?:=
 (vI G T.stb.ls hok hB ⟨T.va.is.1,T.va.is.2.1⟩).mono λr h' ⟨a,b⟩=>⟨a,T.step (J:=[]) (λj hj=>by cases hj) (by rw[List.append_nil];exact b)⟩
theorem vj(T:RS l pr L S I0 E h w nx vs X K V I){B:Nat}(hok:w.Ok B)(j o:Int)(a:Int)(g:Nat){gI:Int}(hg:gI=(g:Int)):
 AC Tryz.prog G bz [.ptr L 8 0 0,.p (.int .i64 j),.p (.int .i64 o),.sl X.length 1 0 1,.p (.int .i64 gI)] (X++[.row 1 [[.p (.int .i64 a)]]]) λr h'=>r= .ret (.tup [])/\∃K' I',RS l pr L S I0 E h (w.fin j o g [a]) nx vs h' K' V I'/\∀i∈E,h'[i]?=X[i]?:=by
 obtain⟨f1,f2⟩:=T.fresh
 have hm:=oT G (T.stb.ls.more [.row 1 ([a].map λn=>[AV.p (.int .i64 n)])]) hok j o g [a] (cC X [a] rfl) (by simp) f2
 simp only[List.map_cons,List.map_nil,List.length_cons,List.length_nil] at hm
 rw[hg]
 refine hm.mono λr h' ⟨e,b⟩=>⟨e,?_⟩
 obtain⟨K2,I2,a1,a2⟩:=(T.more [_]).step f1 b
 exact⟨K2,I2,a1,λi hi=>(a2 i hi).trans (List.getElem?_append_left (T.at.1 i hi).1)⟩
theorem GI(T:RS l pr L S I0 E h w nx vs X K V I){B:Nat}(hok:w.Ok B)(j o:Int)(a b:Int)(g:Nat){gI:Int}(hg:gI=(g:Int)):
 AC Tryz.prog G bz [.ptr L 8 0 0,.p (.int .i64 j),.p (.int .i64 o),.sl X.length 1 0 2,.p (.int .i64 gI)] (X++[.row 1 [[.p (.int .i64 a)],[.p (.int .i64 b)]]]) λr h'=>r= .ret (.tup [])/\∃K' I',RS l pr L S I0 E h (w.fin j o g [a,b]) nx vs h' K' V I'/\∀i∈E,h'[i]?=X[i]?:=by
 obtain⟨f1,f2⟩:=T.fresh
 have hm:=oT G (T.stb.ls.more [.row 1 ([a,b].map λn=>[AV.p (.int .i64 n)])]) hok j o g [a,b] (cC X [a,b] rfl) (by simp) f2
 simp only[List.map_cons,List.map_nil,List.length_cons,List.length_nil] at hm
 rw[hg]
 refine hm.mono λr h' ⟨e,b⟩=>⟨e,?_⟩
 obtain⟨K2,I2,a1,a2⟩:=(T.more [_]).step f1 b
 exact⟨K2,I2,a1,λi hi=>(a2 i hi).trans (List.getElem?_append_left (T.at.1 i hi).1)⟩
theorem Nh(T:RS l pr L S I0 E h w nx vs X K V I){B:Nat}(hok:w.Ok B)(j o:Int)(g:Nat){gI:Int}(hg:gI=(g:Int)):
 AC Tryz.prog G bz [.ptr L 8 0 0,.p (.int .i64 j),.p (.int .i64 o),.p (br []),.p (.int .i64 gI)] X λr h'=>r= .ret (.tup [])/\∃K' I',RS l pr L S I0 E h (w.fin j o g []) nx vs h' K' V I'/\∀i∈E,h'[i]?=X[i]?:=by
 rw[hg]
 exact(oT G T.stb.ls hok j o g [] (Y:= .p (br [])) (J:=[]) (.p _ (λh=>by cases h) .nil) List.nodup_nil (λj hj=>by cases hj)).mono λr h' ⟨e,b⟩=>⟨e,T.step (J:=[]) (λj hj=>by cases hj) b⟩
theorem Gj(T:RS l pr L S I0 E h w nx vs X K V I){B:Nat}(hok:w.Ok B)(hB:B<=1073741824)(x:Ii){A:AV}(hA:OwnL false X [A] [br x.args] J)(ndJ:J.Nodup)(hJ:∀j∈J,h.length<=j/\j∉vi V++E)(hJ2:∀j∈J,j≠L/\j∉I):
 AC Tryz.prog G cg [.ptr L 8 0 0,.p (.int .i64 x.op),.p (.int .i64 x.to),.p (.int .i64 x.n),A] X λr h'=>r= .ret (.p (.int .i64 x.to))/\∃K' I',RS l pr L S I0 E h (w.put x) nx vs h' K' V I'/\∀i∈E,h'[i]?=X[i]?:=
 (rH G T.stb.ls hok hB x hA ndJ hJ2).mono λr h' ⟨e,b⟩=>⟨e,T.step hJ b⟩
theorem NG(T:RS l pr L S I0 E h w nx vs X K V I){B:Nat}(hok:w.Ok B){e:Ex}(hB:B+8*e.sz<=1073741823)(he:ExR G l pr L V nx vs e):
 AC Tryz.prog G be [.ptr L 8 0 0,.agg (e.cs.map .p)] X λx h'=>x= .ret (.p (.int .i64 (lwE (faI l) (rgV vs) e w).1))/\∃K' I',RS l pr L S I0 E h (lwE (faI l) (rgV vs) e w).2 nx vs h' K' V I'/\∀i∈E,h'[i]?=X[i]?:=
 (he w X K I B T.stb.ls hok hB T.va (λi hi=>(T.at.2 i hi).2)).mono λr h' ⟨e,b⟩=>⟨e,T.step (J:=[]) (λj hj=>by cases hj) (by rw[List.append_nil];exact b)⟩
def Id(l0:List Fd)(pr:Int)(L:Nat)(l:List Sm):Prop:=∀(w:Lw) (h:List AO) (K V:AV) (I:List Nat) (B:Nat) (vs:Vs) (nx:Nat) (m:Scp) (up:List Scp),RS l0 pr L (L::(vi V++I)) I [] h w nx vs h K V I->w.Ok B->B+20*aG l<=1073741000->nx+aG l<=1073741000->vs.length+aG l<=1073741000->rgV vs=scF (-1) (m::up)->
 AC Tryz.prog G bk [.ptr L 8 0 0,.p (smL l)] h λx h'=>x= .ret (.tup [])/\∃K' V' I',RS l0 pr L (L::(vi V++I)) I [] h (aM (faI l0) (-1) l m up nx w).2.2 (aM (faI l0) (-1) l m up nx w).2.1 vs h' K' V' I'
def StR(l0:List Fd)(pr:Int)(L:Nat)(s:Sm):Prop:=∀(w:Lw) (h:List AO) (K V:AV) (I:List Nat) (B:Nat) (vs:Vs) (nx:Nat) (m:Scp) (up:List Scp),RS l0 pr L (L::(vi V++I)) I [] h w nx vs h K V I->w.Ok B->B+20*s.sz<=1073741000->nx+s.sz<=1073741000->vs.length+s.sz<=1073741000->rgV vs=scF (-1) (m::up)->
 AC Tryz.prog G gt [.ptr L 8 0 0,.agg (s.cs.map .p)] h λx h'=>x= .ret (.tup [])/\∃vs' K' V' I',RS l0 pr L (L::(vi V++I)) I [] h (lwS (faI l0) (-1) s m up nx w).2.2 (lwS (faI l0) (-1) s m up nx w).2.1 vs' h' K' V' I'/\vs'.take vs.length=vs/\vs.length<=vs'.length/\vs'.length<=vs.length+1/\rgV vs'=scF (-1) ((lwS (faI l0) (-1) s m up nx w).1::up)
theorem vq{b:List Sm}(hb:Id G l pr L b)(T:RS l pr L S I0 E h w nx vs X K V I){B:Nat}{m:Scp}{up:List Scp}(hok:w.Ok B)(h1:B+20*aG b<=1073741000)(h2:nx+aG b<=1073741000)(h3:vs.length+aG b<=1073741000)(h4:rgV vs=scF (-1) (m::up)):
 AC Tryz.prog G bk [.ptr L 8 0 0,.p (smL b)] X λx h'=>x= .ret (.tup [])/\∃K' V' I',RS l pr L S I0 E h (aM (faI l) (-1) b m up nx w).2.2 (aM (faI l) (-1) b m up nx w).2.1 vs h' K' V' I'/\∀i∈E,h'[i]?=X[i]?:=
 (hb w X K V I B vs nx m up T.start hok h1 h2 h3 h4).mono λr h' ⟨e,K',V',I',T2⟩=>⟨e,K',V',I',T.lift T2⟩
end
end
section
theorem Jx{fa:List UInt8->Int}{d:Int}{s:Sm}(h:s.op=6){a0:Ex}{ar:List Ex}(ha:s.args=a0::ar)(m:Scp)(up:List Scp)(nx:Nat)(w:Lw){x:Int × Lw}(hx:x=lwE fa (scF d (m::up)) a0 ((w.name 3).fin 1 0 w.bs.length [(w.bs.length:Int)])){y:Scp × Nat × Lw}(hy:y=aM fa d s.body [] (m::up) nx (x.2.fin 2 x.1 (w.bs.length+1) [(w.bs.length:Int)+1,(w.bs.length:Int)+2])):
 lwS fa d s m up nx w=(m,y.2.1,y.2.2.fin 1 0 (w.bs.length+2) [(w.bs.length:Int)]):=by
 subst hy;subst hx
 obtain⟨o,n,a,bd,el⟩:=s
 simp only[Sm.op,Sm.args] at h ha
 rw[lwS,if_pos h,ha];rfl
theorem Kh{fa:List UInt8->Int}{d:Int}{s:Sm}(h:¬s.op=6)(m:Scp)(up:List Scp)(nx:Nat)(w:Lw){x:List Int × Lw}(hx:x=aY fa (scF d (m::up)) s.args w):
 lwS fa d s m up nx w=if s.op=1 then(dV m s.name nx,nx+1,x.2.put ⟨2,nx,x.1,0⟩)
  else if s.op=2 then(m,nx,x.2.put ⟨2,scF d (m::up) s.name,x.1,0⟩)
  else if s.op=3 then(m,nx,x.2.put ⟨13,-1,x.1,0⟩)
  else if s.op=4 then(m,nx,x.2.put ⟨12,-1,x.1,0⟩)
  else if s.op=5 then
   let t:=x.2.bs.length
   let y:=aM fa d s.body [] (m::up) nx ((x.2.name 3).fin 2 (x.1.headD 0) t [(t:Int),(t:Int)+1])
   let z:=aM fa d s.els [] (m::up) y.2.1 (y.2.2.fin 1 0 (t+1) [(t:Int)+2])
   (m,z.2.1,z.2.2.fin 1 0 (t+2) [(t:Int)+2])
  else if s.op=7 then(m,nx,(x.2.name 1).fin 3 (x.1.headD 0) x.2.bs.length [])
  else(m,nx,x.2):=by
 subst hx
 obtain⟨o,n,a,bd,el⟩:=s
 simp only[Sm.op] at h
 rw[lwS,if_neg h];rfl
variable (G:aH)
structure LbS where (i:Nat) (X:List AO)
def ME(l0:List Fd)(pr:Int)(L:Nat)(l:List Sm):Prop:=∀(w:Lw) (h:List AO) (K:AV) (I:List Nat) (B:Nat) (C:List Nat) (se sm:Nat) (m:Scp) (up:List Scp) (Q nx:Nat),
 LS (lwO l0 pr) L w h K I->w.Ok B->B+20*aG l<=1073741000->nx+aG l<=1073741000->ChN h (.ptr se 2 0 0) (m::up) (se::sm::C)->(se::sm::C).Nodup->h[Q]?=some (.row 1 [[.p (.int .i64 nx)]])->(∀i∈Q::se::sm::C,i∉L::I)->Q∉se::sm::C->
 AC Tryz.prog G bf [.ptr L 5 0 0,.p (smL l),.ptr se 2 0 0,.ptr Q 1 0 0] h λx h'=>x= .ret (.tup [])/\∃K' I',LS (lwO l0 pr) L (aM (faI l0) 0 l m up nx w).2.2 h' K' I'/\Frm (L::Q::sm::I) h h'/\(∀j∈I',j∈I\/h.length<=j)/\h'[Q]?=some (.row 1 [[.p (.int .i64 (aM (faI l0) 0 l m up nx w).2.1)]])/\h'[sm]?=some (.mp (mpE (aM (faI l0) 0 l m up nx w).1))
theorem vY(l0:List Fd)(hl0:l0.length<=1073741824)(pr:Int)(L:Nat)(l:List Sm)(hf:∀x∈l,x.args≠[]/\∀a∈x.args,bJ 6 a=true)(ih:∀x∈l,ME G l0 pr L x.body/\ME G l0 pr L x.els):ME G l0 pr L l:=by
 intro w h K I B C se sm m up Q nx H hok hB hnx hC hCn hQ hd hQn
 have hsl:∀l,smL l= .lst 5 (l.map Sm.cs):=λ_=>rfl
 have hll:=bn l
 have hLl:=H.lt
 have hQl:=(List.getElem?_eq_some_iff.1 hQ).1
 obtain⟨bx,hbx⟩:∃bx,bx=[AO.row 1 [[.ptr L 5 0 0]],.row 1 [[.ptr se 2 0 0]]]:=⟨_,rfl⟩
 have hbl:(h++bx).length=h.length+2:=by simp[hbx]
 have hIlt:=λj (hj:j∈I)=>H.own.lt hj
 obtain⟨E0,hE0⟩:∃E0,E0=h.length::(h.length+1)::Q::se::sm::C:=⟨_,rfl⟩
 have hT0:Stb (lwO l0 pr) L (L::Q::sm::I) I E0 h w (h++bx) K I:=⟨H.more bx,Frm.more _ _ _,by simp,λj hj=>by simp[hj],λj hj=> .inl hj,λi hi=>by
  rw[hE0] at hi
  simp only[List.mem_cons] at hi
  rw[hbl]
  simp only[List.mem_cons,not_or]
  rcases hi with rfl|rfl|hi
  ·exact⟨by omega,by omega,λhm=>by have:=hIlt _ hm;omega⟩
  ·exact⟨by omega,by omega,λhm=>by have:=hIlt _ hm;omega⟩
  ·have h1:=hd i (by simpa using hi)
   simp only[List.mem_cons,not_or] at h1
   refine⟨?_,h1⟩
   rcases hi with rfl|hi
   ·omega
   ·have:=hC.lt i (by simpa using hi);omega⟩
 have hB0:Bx L Q h.length (h.length+1) se sm C m up nx (h++bx):=⟨by rw[hbx,List.getElem?_append_right (Nat.le_refl _)];simp,by rw[hbx,List.getElem?_append_right (by omega)];simp,hC.more _,by rw[List.getElem?_append_left hQl];exact hQ⟩
 refine AC.go nt ?_
 simp-implicitDefEqProofs[-AV.cells,-AV.isCell,aC,ae,ag,aq,ah,aB,ab,au,aj,gA,hsl]
 refine aF (λa:LbS=>ay 176 [(3,.ptr Q 1 0 0),(4,.ptr h.length 1 0 0),(6,.ptr (h.length+1) 1 0 0),(16,.p (smL l)),(17,.p (.int .i64 l.length)),(18,.p (.int .i64 a.i))]) (λa=>a.X)
  (λa=>a.i<=l.length/\∃K1 I1,Stb (lwO l0 pr) L (L::Q::sm::I) I E0 h (aM (faI l0) 0 (l.take a.i) m up nx w).2.2 a.X K1 I1/\Bx L Q h.length (h.length+1) se sm C (aM (faI l0) 0 (l.take a.i) m up nx w).1 up (aM (faI l0) 0 (l.take a.i) m up nx w).2.1 a.X) (λa=>l.length-a.i) ⟨0,h++bx⟩ ⟨Nat.zero_le _,K,I,by rw[List.take_zero,aM];exact hT0,by rw[List.take_zero,aM];exact hB0⟩ ?_ ?_
 ·rw[hbx]
  exact aw (by simp) (by simp[below,hsl];omega)
 rintro⟨i,X⟩ ⟨hi,K1,I1,T,F⟩
 simp only at hi T F
 simp-implicitDefEqProofs[hsl]
 refine aJ (λhc=>?_) (λhc=>?_)
 ·simp at hc
  have hg:=List.getElem?_eq_getElem hc
  have hm:=List.getElem_mem hc
  have htk:=tx (fa:=faI l0) (d:=0) hc m up nx w
  have hok1:=cV (faI l0) 0 (l.take i) m up nx w B hok
  have hzt:aG (l.take i)+l[i].sz<=aG l:=by
   have h1:=List.take_append_drop (i+1) l
   have h2:aG l=aG (l.take (i+1))+aG (l.drop (i+1)):=by
    conv=>lhs;rw[←h1]
    rw[dh]
   rw[an hc,dh] at h2
   simp only[aG] at h2
   omega
  obtain⟨hne,hargs⟩:=hf l[i] hm
  obtain⟨ihb,ihe⟩:=ih l[i] hm
  generalize l[i]=s at hg hm htk hzt hne hargs ihb ihe
  generalize aM (faI l0) 0 (l.take i) m up nx w=cur at*
  obtain⟨mc,nc,wc⟩:=cur
  simp only at htk hok1 T F
  obtain⟨okc,_,_,hnc⟩:=hok1
  have hsc:=s.cs_eq
  have hsz:=s.sz_eq
  have hal:=bh s.args
  obtain⟨E,hE⟩:∃E,E=X.length::E0:=⟨_,rfl⟩
  have hEin:∀i∈h.length::(h.length+1)::Q::se::sm::C,i∈E:=λi hi=>by rw[hE,hE0];exact List.mem_cons_of_mem _ hi
  have hEx:X.length∈E:=by rw[hE];simp
  have T0:Stb (lwO l0 pr) L (L::Q::sm::I) I E h wc (X++[.row 5 [[.p (.int .i64 s.op),.p (.str s.name),.p (exL s.args),.p (smL s.body),.p (smL s.els)]]]) K1 I1:=by
   have T':=T.more [.row 5 [[.p (.int .i64 s.op),.p (.str s.name),.p (exL s.args),.p (smL s.body),.p (smL s.els)]]]
   refine⟨T'.ls,T'.fr,T'.hL,T'.hS,T'.sub,λi hi=>?_⟩
   rw[hE] at hi
   rcases List.mem_cons.1 hi with rfl|hi
   ·have:=T.fr.1
    refine⟨by simp,?_⟩
    simp only[List.mem_cons,not_or]
    exact⟨by have:=T.ls.lt;omega,λhm=>by have:=T.ls.own.lt hm;omega⟩
   ·exact T'.ap i hi
  have F0:=F.more [.row 5 [[.p (.int .i64 s.op),.p (.str s.name),.p (exL s.args),.p (smL s.body),.p (smL s.els)]]]
  have r0:(X++[AO.row 5 [[.p (.int .i64 s.op),.p (.str s.name),.p (exL s.args),.p (smL s.body),.p (smL s.els)]]])[X.length]?=some (.row 5 [[.p (.int .i64 s.op),.p (.str s.name),.p (exL s.args),.p (smL s.body),.p (smL s.els)]]):=by rw[List.getElem?_append_right (Nat.le_refl _)];simp
  have y0:=F0.box0
  have y1:=F0.box1
  have kQ:Q∈E:=hEin Q (by simp)
  have hQX:Q<X.length:=(T.ap Q (by rw[hE0];simp)).1
  have k0:h.length∈E:=hEin _ (by simp)
  have k1:h.length+1∈E:=hEin _ (by simp)
  have hback:∀{m2:Scp} {n2:Nat} {w2:Lw} {X2:List AO} {K2:AV} {I2:List Nat},lwS (faI l0) 0 s mc up nc wc=(m2,n2,w2)->Stb (lwO l0 pr) L (L::Q::sm::I) I E h w2 X2 K2 I2->Bx L Q h.length (h.length+1) se sm C m2 up n2 X2->i+1<=l.length/\∃K1 I1,Stb (lwO l0 pr) L (L::Q::sm::I) I E0 h (aM (faI l0) 0 (l.take (i+1)) m up nx w).2.2 X2 K1 I1/\Bx L Q h.length (h.length+1) se sm C (aM (faI l0) 0 (l.take (i+1)) m up nx w).1 up (aM (faI l0) 0 (l.take (i+1)) m up nx w).2.1 X2:=λ{m2 n2 w2 X2 K2 I2} e T2 F2=>by
   rw[htk,e]
   exact⟨hc,K2,I2,⟨T2.ls,T2.fr,T2.hL,T2.hS,T2.sub,λi hi=>T2.ap i (by rw[hE];exact List.mem_cons_of_mem _ hi)⟩,F2⟩
  have hwk:∀{X2:List AO} {K2:AV} {I2:List Nat} {w2:Lw},Stb (lwO l0 pr) L (L::Q::sm::I) I E h w2 X2 K2 I2->h.length<=X2.length/\Q<X2.length/\h.length<X2.length/\h.length+1<X2.length:=λ{X2 K2 I2 w2} T2=>⟨T2.fr.1,(T2.ap Q kQ).1,(T2.ap _ k0).1,(T2.ap _ k1).1⟩
  have hwi:IntKind.i64.wrap ((i:Int)+1)=(i:Int)+1:=af (by omega) (by omega)
  simp-implicitDefEqProofs[-AV.cells,-AV.isCell,aC,ae,ag,aq,ah,aB,ab,au,aj,hg,hsc]
  refine aJ (λo6=>?_) (λo6=>?_)
  ·have o6:s.op=6:=by simpa using o6
   obtain⟨a0,ar,ha⟩:∃a r,s.args=a::r:=by
    match hx:s.args,hne with
    |a::r,_=>exact⟨a,r,rfl⟩
   obtain⟨t,ht⟩:∃t,t=wc.bs.length:=⟨_,rfl⟩
   have hac:=a0.cs_eq
   have hkx:exL s.args= .lst 4 ([.int .i64 a0.op,.int .i64 a0.n,.str a0.name,exL a0.kids]::ar.map Ex.cs):=by rw[ha,←hac];rfl
   have haz:aL s.args=a0.sz+aL ar:=by rw[ha,aL]
   have htb:t<=B+20*aG (l.take i):=by rw[ht];exact okc.bs
   have hwt1:IntKind.i64.wrap ((t:Int)+1)=(t:Int)+1:=af (by omega) (by omega)
   have hwt2:IntKind.i64.wrap ((t:Int)+2)=(t:Int)+2:=af (by omega) (by omega)
   rw[o6,hkx] at T0 F0 r0 y0 y1
   simp-implicitDefEqProofs[-AV.cells,-AV.isCell,aC,ae,ag,aq,ah,aB,ab,au,aj,y0,r0,o6,hkx]
   refine(vo G T0.ls okc (by omega) 3 (by omega) (by omega)).mono ?_
   rintro x X1 ⟨rfl,hlr⟩
   obtain⟨K1,I1,T1,e1⟩:=(T0).step (J:=[]) (λj hj=>by cases hj) (by rw[List.append_nil];exact hlr)
   have F1:=(F0).frame λi hi=>e1 i (hEin i hi)
   have r1:=(e1 X.length hEx).trans r0
   have y0:=F1.box0
   have y1:=F1.box1
   have ok1:=okc.name 3
   obtain⟨f1,f2⟩:=T1.fresh
   have hm2:=lv G (T1.ls.more [.row 1 ([(t:Int)].map λn=>[AV.p (.int .i64 n)])]) ok1 1 (0) (t) [(t:Int)] (cC X1 [(t:Int)] rfl) (by simp) f2
   simp only[List.map_cons,List.map_nil,List.length_cons,List.length_nil] at hm2
   simp-implicitDefEqProofs[-AV.cells,-AV.isCell,aC,ae,ag,aq,ah,aB,ab,au,aj,aa,y0,←ht]
   refine hm2.mono ?_
   rintro x X2 ⟨rfl,hlr⟩
   obtain⟨K2,I2,T2,e2⟩:=(T1.more _).step f1 hlr
   have F2:=(F1.more _).frame λi hi=>e2 i (hEin i hi)
   have r2:=(e2 X.length hEx).trans ((List.getElem?_append_left (T1.ap X.length hEx).1).trans r1)
   have y0:=F2.box0
   have y1:=F2.box1
   have ok2:=ok1.fin 1 0 (g:=t) (by simp[←ht]) [(t:Int)]
   simp-implicitDefEqProofs[-AV.cells,-AV.isCell,aC,ae,ag,aq,ah,aB,ab,au,aj,aa,y0,y1,r2]
   have h3c:=Gx G l0 hl0 pr L 6 a0 (hargs a0 (by rw[ha];simp)) _ X2 K2 I2 _ (se::sm::C) (.ptr se 2 0 0) (mc::up) T2.ls ok2 (by omega) F2.ch (λi hi=>(T2.ap i (hEin i (by simp only[List.mem_cons] at hi⊢;rcases hi with rfl|rfl|hi<;>simp[*]))).2)
   obtain⟨ok3,len3⟩:=lF (faI l0) (scF 0 (mc::up)) a0 _ _ ok2
   obtain⟨x3,hx3⟩:∃x3,x3=lwE (faI l0) (scF 0 (mc::up)) a0 ((wc.name 3).fin 1 0 t [(t:Int)]):=⟨_,rfl⟩
   rw[←hx3] at h3c ok3 len3
   rw[hac] at h3c
   simp only[Lw.fin_len,Lw.name_len,←ht] at len3
   refine h3c.mono ?_
   rintro x X3 ⟨rfl,hlr⟩
   obtain⟨K3,I3,T3,e3⟩:=(T2).step (J:=[]) (λj hj=>by cases hj) (by rw[List.append_nil];exact hlr)
   have F3:=(F2).frame λi hi=>e3 i (hEin i hi)
   have r3:=(e3 X.length hEx).trans r2
   have y0:=F3.box0
   have y1:=F3.box1
   obtain⟨f1,f2⟩:=T3.fresh
   have hm4:=lv G (T3.ls.more [.row 1 ([(t:Int)+1,(t:Int)+2].map λn=>[AV.p (.int .i64 n)])]) ok3 2 (x3.1) (t+1) [(t:Int)+1,(t:Int)+2] (cC X3 [(t:Int)+1,(t:Int)+2] rfl) (by simp) f2
   simp only[List.map_cons,List.map_nil,List.length_cons,List.length_nil] at hm4
   rw[show((t+1:Nat):Int)=(t:Int)+1 by omega] at hm4
   simp-implicitDefEqProofs[-AV.cells,-AV.isCell,aC,ae,ag,aq,ah,aB,ab,au,aj,aa,y0,hwt1,hwt2]
   refine hm4.mono ?_
   rintro x X4 ⟨rfl,hlr⟩
   obtain⟨K4,I4,T4,e4⟩:=(T3.more _).step f1 hlr
   have F4:=(F3.more _).frame λi hi=>e4 i (hEin i hi)
   have r4:=(e4 X.length hEx).trans ((List.getElem?_append_left (T3.ap X.length hEx).1).trans r3)
   have y0:=F4.box0
   have y1:=F4.box1
   have ok4:=ok3.fin 2 x3.1 (g:=t+1) (by omega) [(t:Int)+1,(t:Int)+2]
   simp-implicitDefEqProofs[-AV.cells,-AV.isCell,aC,ae,ag,aq,ah,aB,ab,au,aj,aa,y0,y1,r4]
   refine(mV G (.ptr se 2 0 0) (.inr ⟨_,rfl⟩) _).mono ?_
   rintro x Xo ⟨rfl,rfl⟩
   have hyo:∀t,(X4++t)[h.length]?=some (.row 1 [[.ptr L 5 0 0]]):=λt=>(F4.more t).box0
   have hro:=λt=>(List.getElem?_append_left (l₂:=t) (T4.ap X.length hEx).1).trans r4
   simp-implicitDefEqProofs[-AV.cells,-AV.isCell,aC,ae,ag,aq,ah,aB,ab,au,aj,aa,hyo,hro]
   have hlt5:∀i∈Q::se::sm::C,i<X4.length/\i∉L::I4:=λi hi=>T4.ap i (hEin i (List.mem_cons_of_mem _ (List.mem_cons_of_mem _ hi)))
   obtain⟨y5,hy5⟩:∃y,y=aM (faI l0) 0 s.body [] (mc::up) nc (x3.2.fin 2 x3.1 (t+1) [(t:Int)+1,(t:Int)+2]):=⟨_,rfl⟩
   have hbk:=ihb (x3.2.fin 2 x3.1 (t+1) [(t:Int)+1,(t:Int)+2]) (X4++[.mp [],.row 2 [[.mp X4.length,.ptr se 2 0 0]]]) K4 I4 _ (se::sm::C) (X4.length+1) X4.length [] (mc::up) Q nc (T4.ls.more _) ok4 (by omega) (by omega) (.cons _ _ _ _ _ _ (by rw[List.getElem?_append_right (by omega)];simp) (by rw[List.getElem?_append_right (by omega)];simp[mpE]) (F4.ch.more _)) (by
    rw[List.nodup_cons,List.nodup_cons]
    refine⟨λhm=>?_,λhm=>?_,hCn⟩
    ·rcases List.mem_cons.1 hm with hm|hm
     ·omega
     ·have:=(hlt5 _ (List.mem_cons_of_mem _ hm)).1;omega
    ·have:=(hlt5 _ (List.mem_cons_of_mem _ hm)).1;omega) (F4.more _).q (λi hi=>by
    have hge:∀i,X4.length<=i->i∉L::I4:=λi hi hm=>by
     rcases List.mem_cons.1 hm with rfl|hm
     ·have:=T4.ls.lt;omega
     ·have:=T4.ls.own.lt hm;omega
    simp only[List.mem_cons] at hi
    rcases hi with rfl|rfl|rfl|hi
    ·exact(hlt5 _ (by simp)).2
    ·exact hge _ (by omega)
    ·exact hge _ (by omega)
    ·exact(hlt5 i (by simp only[List.mem_cons];exact .inr hi)).2) (λhm=>by
    have:=(hlt5 Q (by simp)).1
    rcases List.mem_cons.1 hm with hm|hm
    ·omega
    ·rcases List.mem_cons.1 hm with hm|hm
     ·omega
     ·exact hQn hm)
   rw[←hy5] at hbk
   have okb5:=cV (faI l0) 0 s.body [] (mc::up) nc (x3.2.fin 2 x3.1 (t+1) [(t:Int)+1,(t:Int)+2]) _ ok4
   rw[←hy5] at okb5
   obtain⟨ok5,len5,nx5,nxx5⟩:=okb5
   refine hbk.mono ?_
   rintro x X5 ⟨rfl,K5,I5,a1,a2,a3,a4,_⟩
   obtain⟨T5,e5⟩:=T4.stepG (J:=[]) (V:=[Q]) (λj hj=>by cases hj) (λj hj=>by rw[List.mem_singleton.1 hj];exact .inl (by simp)) a1 ⟨by have:=a2.1;simp at this;omega,λi hi hn=>by
    rw[List.append_nil] at hn
    simp only[List.mem_cons,List.mem_append,List.not_mem_nil,or_false,not_or] at hn
    rw[a2.2 i (by simp;omega) (by simp only[List.mem_cons,not_or];exact⟨hn.1,hn.2.1,by omega,hn.2.2⟩),List.getElem?_append_left hi]⟩ (λj hj=>by
    rcases a3 j hj with h|h
    ·exact .inl (by simp[h])
    ·exact .inr (by simp at h;omega))
   have F5:Bx L Q h.length (h.length+1) se sm C mc up y5.2.1 X5:=⟨(e5 _ k0 (by simp;omega)).trans F4.box0,(e5 _ k1 (by simp;omega)).trans F4.box1,F4.ch.frame λi hi=>e5 i (hEin i (by simp only[List.mem_cons] at hi⊢;rcases hi with rfl|rfl|hi<;>simp[*])) (by rw[List.mem_singleton];exact λe=>hQn (e▸hi)),a4⟩
   have r5:=(e5 X.length hEx (by simp;omega)).trans r4
   have y0:=F5.box0
   have y1:=F5.box1
   simp only[Lw.fin_len] at len5
   obtain⟨f1,f2⟩:=T5.fresh
   have hm6:=lv G (T5.ls.more [.row 1 ([(t:Int)].map λn=>[AV.p (.int .i64 n)])]) ok5 1 (0) (t+2) [(t:Int)] (cC X5 [(t:Int)] rfl) (by simp) f2
   simp only[List.map_cons,List.map_nil,List.length_cons,List.length_nil] at hm6
   rw[show((t+2:Nat):Int)=(t:Int)+2 by omega] at hm6
   simp-implicitDefEqProofs[-AV.cells,-AV.isCell,aC,ae,ag,aq,ah,aB,ab,au,aj,aa,y0,hwt2]
   refine hm6.mono ?_
   rintro x X6 ⟨rfl,hlr⟩
   obtain⟨K6,I6,T6,e6⟩:=(T5.more _).step f1 hlr
   have F6:=(F5.more _).frame λi hi=>e6 i (hEin i hi)
   have r6:=(e6 X.length hEx).trans ((List.getElem?_append_left (T5.ap X.length hEx).1).trans r5)
   have y0:=F6.box0
   have y1:=F6.box1
   simp-implicitDefEqProofs[-AV.cells,-AV.isCell,aC,ae,ag,aq,ah,aB,ab,au,aj,aa,hwi]
   subst ht
   obtain⟨q1,K',I',q2,q3⟩:=hback (Jx o6 ha mc up nc wc hx3 hy5) T6 F6
   obtain⟨z1,z2,z3,z4⟩:=hwk T6
   exact⟨⟨i+1,X6⟩,⟨q1,⟨K',I',q2⟩,q3⟩,by simp only;omega,aw z1 (by simp[below,hsl];omega)⟩
  ·have o6:¬s.op=6:=by simpa using o6
   obtain⟨t1,ht1⟩:∃x,x=aY (faI l0) (scF 0 (mc::up)) s.args wc:=⟨_,rfl⟩
   have heq:=Kh o6 mc up nc wc ht1
   obtain⟨okm,lenm⟩:=iA (faI l0) (scF 0 (mc::up)) s.args wc _ okc
   have hmap:=EB G (faI l0) (scF 0 (mc::up)) cW [.ptr h.length 1 0 0,.ptr (h.length+1) 1 0 0] s.args E T0.ls okc (by omega) (λi hi=>T0.ap i hi) (by simp[below];exact⟨by have:=(T0.ap _ k0).1;simp at this;omega,by have:=(T0.ap _ k1).1;simp at this;omega⟩) (λk hk w1 h1 K1 I1 B1 H1 hok1 hB1 hEq hle hap=>by
    have hkc:=k.cs_eq
    have F1:=F0.frame λi hi=>hEq i (hEin i hi)
    have g0:=λt=>(F1.more t).box0
    have g1:=λt=>(F1.more t).box1
    have hcall:=Gx G l0 hl0 pr L 6 k (hargs k hk) w1 (h1++[.row 4 [k.cs.map .p]]) K1 I1 B1 (se::sm::C) (.ptr se 2 0 0) (mc::up) (H1.more _) hok1 hB1 (F1.ch.more _) (λi hi=>hap i (hEin i (by simp only[List.mem_cons] at hi⊢;rcases hi with rfl|rfl|hi<;>simp[*])))
    refine AC.go mt ?_
    rw[hkc] at hcall⊢
    simp-implicitDefEqProofs[-AV.cells,-AV.isCell,aC,ae,ag,aq,ah,aB,ab,au,aj,fH,g0,g1]
    refine hcall.mono ?_
    rintro x h2 ⟨rfl,hlr⟩
    simp-implicitDefEqProofs[aa]
    exact LR.seq (Frm.more _ h1 _) (λj hj=> .inl hj) hlr (λj hj=> .inl hj))
   rw[←ht1] at hmap okm lenm
   simp-implicitDefEqProofs[-AV.cells,-AV.isCell,aC,ae,ag,aq,ah,aB,ab,au,aj,y0,r0,o6]
   refine hmap.mono ?_
   rintro x X1 ⟨A,J,K2,I2,rfl,H2,hfr2,hI2,hA,ndJ,hJ,hAs⟩
   obtain⟨a1,a2⟩:=fy hA
   obtain⟨T1,e1⟩:=T0.stepG (J:=[]) (V:=[]) (λj hj=>by cases hj) (λj hj=>by cases hj) H2 (by simpa using hfr2) (by simpa using hI2)
   have e1:∀i∈E,X1[i]?=(X++[AO.row 5 [[.p (.int .i64 s.op),.p (.str s.name),.p (exL s.args),.p (smL s.body),.p (smL s.els)]]])[i]?:=λi hi=>e1 i hi (by simp)
   have F1:=F0.frame λi hi=>e1 i (hEin i hi)
   have r1:=(e1 X.length hEx).trans r0
   have y0:=F1.box0
   have y1:=F1.box1
   have hJE:∀j∈J,h.length<=j/\j∉E:=λj hj=>by
    have h1:=(hJ j hj).1
    have h2:=T0.fr.1
    exact⟨by omega,λhm=>by have:=(T0.ap j hm).1;omega⟩
   have hJ2:∀j∈J,j≠L/\j∉I2:=λj hj=>(hJ j hj).2
   simp-implicitDefEqProofs[-AV.cells,-AV.isCell,aC,ae,ag,aq,ah,aB,ab,au,aj,a1,a2,aa,y0,y1,r1,o6]
   refine aJ (λo1=>?_) (λo1=>?_)
   ·have o1:s.op=1:=by simpa using o1
    have hse:∀t,(X1++t)[se]?=X1[se]?:=λt=>List.getElem?_append_left (T1.ap se (hEin se (by simp))).1
    obtain⟨u0,hse1,hsm1,hup1⟩:∃u0,X1[se]?=some (.row 2 [[.mp sm,u0]])/\X1[sm]?=some (.mp (mpE mc))/\ChN X1 u0 up C:=by
     cases F1.ch with
     |cons _ _ _ u _ _ h1 h2 h3=>exact⟨u,h1,h2,h3⟩
    obtain⟨hu0b,hu1,hu2⟩:=hup1.is
    have hms:=oB s.name nc mc
    have hmg:=lI s.name (dV mc s.name nc)
    rw[jZ,if_pos rfl] at hmg
    have hsml:=(T1.ap sm (hEin sm (by simp))).1
    have hQl1:=(T1.ap Q kQ).1
    have nQs:Q≠sm:=λe=>hQn (by rw[e];simp)
    have nss:se≠sm:=λe=>by rw[List.nodup_cons] at hCn;exact hCn.1 (by rw[e];simp)
    have nsmC:sm∉C:=by rw[List.nodup_cons,List.nodup_cons] at hCn;exact hCn.2.1
    have nh0:h.length≠sm/\h.length≠Q/\h.length+1≠sm/\h.length+1≠Q/\X.length≠sm/\X.length≠Q:=by
     have h1:=hC.lt sm (by simp)
     have h2:=T.fr.1
     have h3:=(T.ap sm (by rw[hE0];simp)).1
     exact⟨by omega,by omega,by omega,by omega,by omega,by omega⟩
    have hgA:∀(a b:AO) (i:Nat),i≠sm->i≠Q->((X1.set sm a).set Q b)[i]?=X1[i]?:=λa b i h1 h2=>by rw[List.getElem?_set_ne (Ne.symm h2),List.getElem?_set_ne (Ne.symm h1)]
    have hgB:∀(a:AO) (i:Nat),i≠sm->(X1.set sm a)[i]?=X1[i]?:=λa i h1=>List.getElem?_set_ne (Ne.symm h1)
    have g0:∀a b,((X1.set sm a).set Q b)[h.length]?=some (.row 1 [[.ptr L 5 0 0]]):=λa b=>(hgA a b _ nh0.1 nh0.2.1).trans y0
    have g1:∀a b,((X1.set sm a).set Q b)[h.length+1]?=some (.row 1 [[.ptr se 2 0 0]]):=λa b=>(hgA a b _ nh0.2.2.1 nh0.2.2.2.1).trans y1
    have g2:∀a b,((X1.set sm a).set Q b)[se]?=some (.row 2 [[.mp sm,u0]]):=λa b=>(hgA a b _ nss (λe=>hQn (by rw[←e];simp))).trans hse1
    have g3:∀a b,((X1.set sm a).set Q b)[sm]?=some a:=λa b=>by rw[List.getElem?_set_ne nQs];exact List.getElem?_set_self hsml
    have g4:∀a b,((X1.set sm a).set Q b)[X.length]?=X1[X.length]?:=λa b=>hgA a b _ nh0.2.2.2.2.1 nh0.2.2.2.2.2
    have g5:∀a,(X1.set sm a)[Q]?=some (.row 1 [[.p (.int .i64 nc)]]):=λa=>(hgB a _ nQs).trans F1.q
    have hwn:IntKind.i64.wrap ((nc:Int)+1)=(nc:Int)+1:=af (by omega) (by omega)
    obtain⟨X2,hX2⟩:∃X2,X2=(X1.set sm (.mp (mpE (dV mc s.name nc)))).set Q (.row 1 [[.p (.int .i64 ((nc:Int)+1))]]):=⟨_,rfl⟩
    have hX2l:X2.length=X1.length:=by rw[hX2];simp
    have hapd:=λi hi=>(T1.ap i hi).2
    have T2:Stb (lwO l0 pr) L (L::Q::sm::I) I E h t1.2 X2 K2 I2:=⟨T1.ls.frame λi hi=>by
     rw[hX2]
     exact hgA _ _ i (λe=>hapd sm (hEin sm (by simp)) (e▸hi)) (λe=>hapd Q kQ (e▸hi)),T1.fr.trans (T:=[sm,Q]) ⟨by omega,λi hi hn=>by
     simp only[List.mem_cons,List.not_mem_nil,or_false,not_or] at hn
     rw[hX2];exact hgA _ _ i hn.1 hn.2⟩ (λj hj=>by
     simp only[List.mem_cons,List.not_mem_nil,or_false] at hj
     rcases hj with rfl|rfl
     ·exact .inl (by simp)
     ·exact .inl (by simp)),T1.hL,T1.hS,T1.sub,λi hi=>by rw[hX2l];exact T1.ap i hi⟩
    have F2:Bx L Q h.length (h.length+1) se sm C (dV mc s.name nc) up (nc+1) X2:=⟨by rw[hX2];exact g0 _ _,by rw[hX2];exact g1 _ _,.cons _ _ _ _ _ _ (by rw[hX2];exact g2 _ _) (by rw[hX2];exact g3 _ _) (hup1.frame λi hi=>by
     rw[hX2]
     exact hgA _ _ i (λe=>nsmC (e▸hi)) (λe=>hQn (by rw[←e];simp[hi]))),by rw[hX2,show((nc+1:Nat):Int)=(nc:Int)+1 by omega];exact List.getElem?_set_self (by simpa using hQl1)⟩
    have r2:X2[X.length]?=some (.row 5 [[.p (.int .i64 s.op),.p (.str s.name),.p (exL s.args),.p (smL s.body),.p (smL s.els)]]):=by rw[hX2];exact(g4 _ _).trans r1
    have hA2:OwnL false X2 [A] [br t1.1] J:=hA.frame λi hi=>by
     rw[hX2]
     exact hgA _ _ i (λe=>(hJE i hi).2 (by rw[e];exact hEin sm (by simp))) (λe=>(hJE i hi).2 (by rw[e];exact kQ))
    simp-implicitDefEqProofs[-AV.cells,-AV.isCell,aC,ae,ag,aq,ah,aB,ab,au,aj,a1,a2,hu1,hu2,y0,y1,r1,hse1,hsm1,hms, ↓g5,F1.q,hwn, ↓g0, ↓g1, ↓g2, ↓g3, ↓g4,hmg]
    refine⟨rfl,?_⟩
    rw[←hX2]
    refine(tr G T2.ls okm (by omega) ⟨2,nc,t1.1,0⟩ hA2 ndJ hJ2).mono ?_
    rintro x X3 ⟨rfl,hlr⟩
    obtain⟨K3,I3,T3,e3⟩:=(T2).step (J:=J) hJE hlr
    have F3:=(F2).frame λi hi=>e3 i (hEin i hi)
    have r3:=(e3 X.length hEx).trans r2
    have y0:=F3.box0
    have y1:=F3.box1
    simp-implicitDefEqProofs[-AV.cells,-AV.isCell,aC,ae,ag,aq,ah,aB,ab,au,aj,a1,a2,aa,hwi]
    obtain⟨q1,K',I',q2,q3⟩:=hback (by rw[heq,if_pos o1]) T3 F3
    obtain⟨z1,z2,z3,z4⟩:=hwk T3
    exact⟨⟨i+1,X3⟩,⟨q1,⟨K',I',q2⟩,q3⟩,by simp only;omega,aw z1 (by simp[below,hsl];omega)⟩
   have o1:¬s.op=1:=by simpa using o1
   have hA1:=hA
   simp-implicitDefEqProofs[-AV.cells,-AV.isCell,aC,ae,ag,aq,ah,aB,ab,au,aj,a1,a2,y0,y1,r1]
   refine aJ (λo2=>?_) (λo2=>?_)
   ·have o2:s.op=2:=by simpa using o2
    have hse1:∃e,(AV.ptr se 2 0 0)= .ptr e 2 0 0:=⟨_,rfl⟩
    simp-implicitDefEqProofs[-AV.cells,-AV.isCell,aC,ae,ag,aq,ah,aB,ab,au,aj,a1,a2,y0,y1,r1]
    refine(GF G F1.ch s.name).mono ?_
    rintro x X1' ⟨rfl,rfl⟩
    simp-implicitDefEqProofs[-AV.cells,-AV.isCell,aC,ae,ag,aq,ah,aB,ab,au,aj,a1,a2,aa,y0,y1,r1]
    refine(tr G T1.ls okm (by omega) ⟨2,scF 0 (mc::up) s.name,t1.1,0⟩ hA1 ndJ hJ2).mono ?_
    rintro x X2 ⟨rfl,hlr⟩
    obtain⟨K2,I2,T2,e2⟩:=(T1).step (J:=J) hJE hlr
    have F2:=(F1).frame λi hi=>e2 i (hEin i hi)
    have r2:=(e2 X.length hEx).trans r1
    have y0:=F2.box0
    have y1:=F2.box1
    simp-implicitDefEqProofs[-AV.cells,-AV.isCell,aC,ae,ag,aq,ah,aB,ab,au,aj,a1,a2,aa,hwi]
    obtain⟨q1,K',I',q2,q3⟩:=hback (by rw[heq,if_neg o1,if_pos o2]) T2 F2
    obtain⟨z1,z2,z3,z4⟩:=hwk T2
    exact⟨⟨i+1,X2⟩,⟨q1,⟨K',I',q2⟩,q3⟩,by simp only;omega,aw z1 (by simp[below,hsl];omega)⟩
   have o2:¬s.op=2:=by simpa using o2
   simp-implicitDefEqProofs[-AV.cells,-AV.isCell,aC,ae,ag,aq,ah,aB,ab,au,aj,a1,a2,y0,y1,r1]
   refine aJ (λo3=>?_) (λo3=>?_)
   ·have o3:s.op=3:=by simpa using o3
    simp-implicitDefEqProofs[-AV.cells,-AV.isCell,aC,ae,ag,aq,ah,aB,ab,au,aj,a1,a2,y0,y1,r1]
    refine(tr G T1.ls okm (by omega) ⟨13,-1,t1.1,0⟩ hA1 ndJ hJ2).mono ?_
    rintro x X2 ⟨rfl,hlr⟩
    obtain⟨K2,I2,T2,e2⟩:=(T1).step (J:=J) hJE hlr
    have F2:=(F1).frame λi hi=>e2 i (hEin i hi)
    have r2:=(e2 X.length hEx).trans r1
    have y0:=F2.box0
    have y1:=F2.box1
    simp-implicitDefEqProofs[-AV.cells,-AV.isCell,aC,ae,ag,aq,ah,aB,ab,au,aj,a1,a2,aa,hwi]
    obtain⟨q1,K',I',q2,q3⟩:=hback (by rw[heq,if_neg o1,if_neg o2,if_pos o3]) T2 F2
    obtain⟨z1,z2,z3,z4⟩:=hwk T2
    exact⟨⟨i+1,X2⟩,⟨q1,⟨K',I',q2⟩,q3⟩,by simp only;omega,aw z1 (by simp[below,hsl];omega)⟩
   have o3:¬s.op=3:=by simpa using o3
   simp-implicitDefEqProofs[-AV.cells,-AV.isCell,aC,ae,ag,aq,ah,aB,ab,au,aj,a1,a2,y0,y1,r1]
   refine aJ (λo4=>?_) (λo4=>?_)
   ·have o4:s.op=4:=by simpa using o4
    simp-implicitDefEqProofs[-AV.cells,-AV.isCell,aC,ae,ag,aq,ah,aB,ab,au,aj,a1,a2,y0,y1,r1]
    refine(tr G T1.ls okm (by omega) ⟨12,-1,t1.1,0⟩ hA1 ndJ hJ2).mono ?_
    rintro x X2 ⟨rfl,hlr⟩
    obtain⟨K2,I2,T2,e2⟩:=(T1).step (J:=J) hJE hlr
    have F2:=(F1).frame λi hi=>e2 i (hEin i hi)
    have r2:=(e2 X.length hEx).trans r1
    have y0:=F2.box0
    have y1:=F2.box1
    simp-implicitDefEqProofs[-AV.cells,-AV.isCell,aC,ae,ag,aq,ah,aB,ab,au,aj,a1,a2,aa,hwi]
    obtain⟨q1,K',I',q2,q3⟩:=hback (by rw[heq,if_neg o1,if_neg o2,if_neg o3,if_pos o4]) T2 F2
    obtain⟨z1,z2,z3,z4⟩:=hwk T2
    exact⟨⟨i+1,X2⟩,⟨q1,⟨K',I',q2⟩,q3⟩,by simp only;omega,aw z1 (by simp[below,hsl];omega)⟩
   have o4:¬s.op=4:=by simpa using o4
   simp-implicitDefEqProofs[-AV.cells,-AV.isCell,aC,ae,ag,aq,ah,aB,ab,au,aj,a1,a2,y0,y1,r1]
   refine aJ (λo5=>?_) (λo5=>?_)
   ·have o5:s.op=5:=by simpa using o5
    obtain⟨oid,rfl,ho1,rfl⟩:=hAs hne
    obtain⟨q0,qr,hq⟩:∃q r,t1.1=q::r:=by
     have hl:=fb (faI l0) (scF 0 (mc::up)) s.args wc
     rw[←ht1] at hl
     match hx:t1.1,s.args,hne,hl with
     |q::r,_,_,_=>exact⟨q,r,rfl⟩
     |[],[],h,_=>exact(h rfl).elim
     |[],_::_,_,h=>simp at h
    obtain⟨t,ht⟩:∃t,t=t1.2.bs.length:=⟨_,rfl⟩
    have htb:t<=B+20*aG (l.take i)+8*aL s.args:=by rw[ht];exact okm.bs
    have hwt1:IntKind.i64.wrap ((t:Int)+1)=(t:Int)+1:=af (by omega) (by omega)
    have hwt2:IntKind.i64.wrap ((t:Int)+2)=(t:Int)+2:=af (by omega) (by omega)
    obtain⟨Eo,hEo⟩:∃Eo,Eo=oid::E:=⟨_,rfl⟩
    have To:Stb (lwO l0 pr) L (L::Q::sm::I) I Eo h t1.2 X1 K2 I2:=⟨T1.ls,T1.fr,T1.hL,T1.hS,T1.sub,λi hi=>by
     rw[hEo] at hi
     rcases List.mem_cons.1 hi with rfl|hi
     ·refine⟨(List.getElem?_eq_some_iff.1 ho1).1,?_⟩
      have:=hJ2 i (by simp)
      simp only[List.mem_cons,not_or]
      exact this
     ·exact T1.ap i hi⟩
    have ho1':X1[oid]?=some (.row 1 ([.p (.int .i64 q0)]::qr.map λn=>[AV.p (.int .i64 n)])):=by rw[ho1,mD,hq];rfl
    have hsl0:0<s.args.length:=List.length_pos_iff.2 hne
    have hhd:t1.1.headD 0=q0:=by rw[hq];rfl
    have oE:oid∈Eo:=by rw[hEo];simp
    have hEin':∀i∈h.length::(h.length+1)::Q::se::sm::C,i∈Eo:=λi hi=>by rw[hEo];exact List.mem_cons_of_mem _ (hEin i hi)
    have hEx':X.length∈Eo:=by rw[hEo];exact List.mem_cons_of_mem _ hEx
    simp-implicitDefEqProofs[-AV.cells,-AV.isCell,aC,ae,ag,aq,ah,aB,ab,au,aj,a1,a2,y0,y1,r1]
    refine(vo G To.ls okm (by omega) 3 (by omega) (by omega)).mono ?_
    rintro x X2 ⟨rfl,hlr⟩
    obtain⟨K2,I2,T2,e2⟩:=To.step (J:=[]) (λj hj=>by cases hj) (by rw[List.append_nil];exact hlr)
    have F2:=F1.frame λi hi=>e2 i (hEin' i hi)
    have r2:=(e2 X.length hEx').trans r1
    have y0:=F2.box0
    have y1:=F2.box1
    have o2':=(e2 oid oE).trans ho1'
    have ok2:=okm.name 3
    have hm3:=lv G T2.ls ok2 2 q0 t [(t:Int),(t:Int)+1] (V:= .p (br [(t:Int),(t:Int)+1])) (J:=[]) (.p _ (λh=>by cases h) .nil) List.nodup_nil (λj hj=>by cases hj)
    simp only[br,List.map_cons,List.map_nil] at hm3
    simp-implicitDefEqProofs[-AV.cells,-AV.isCell,aC,ae,ag,aq,ah,aB,ab,au,aj,a1,a2,aa,y0,y1,r2,o2',←ht,hwt1,hsl0]
    refine hm3.mono ?_
    rintro x X3 ⟨rfl,hlr⟩
    obtain⟨K3,I3,T3o,e3⟩:=T2.step (J:=[]) (λj hj=>by cases hj) hlr
    have F3:=F2.frame λi hi=>e3 i (hEin' i hi)
    have r3:=(e3 X.length hEx').trans r2
    have y0:=F3.box0
    have y1:=F3.box1
    have T3:Stb (lwO l0 pr) L (L::Q::sm::I) I E h _ X3 K3 I3:=⟨T3o.ls,T3o.fr,T3o.hL,T3o.hS,T3o.sub,λi hi=>T3o.ap i (by rw[hEo];exact List.mem_cons_of_mem _ hi)⟩
    have ok3:=ok2.fin 2 q0 (g:=t) (by simp[←ht]) [(t:Int),(t:Int)+1]
    simp-implicitDefEqProofs[-AV.cells,-AV.isCell,aC,ae,ag,aq,ah,aB,ab,au,aj,a1,a2,aa,y0,y1,r3]
    refine(mV G (.ptr se 2 0 0) (.inr ⟨_,rfl⟩) _).mono ?_
    rintro x Xo ⟨rfl,rfl⟩
    have hyo:∀t,(X3++t)[h.length]?=some (.row 1 [[.ptr L 5 0 0]]):=λt=>(F3.more t).box0
    have hro:=λt=>(List.getElem?_append_left (l₂:=t) (T3.ap X.length hEx).1).trans r3
    simp-implicitDefEqProofs[-AV.cells,-AV.isCell,aC,ae,ag,aq,ah,aB,ab,au,aj,aa,hyo,hro]
    have hlt4:∀i∈Q::se::sm::C,i<X3.length/\i∉L::I3:=λi hi=>T3.ap i (hEin i (List.mem_cons_of_mem _ (List.mem_cons_of_mem _ hi)))
    obtain⟨y4,hy4⟩:∃y,y=aM (faI l0) 0 s.body [] (mc::up) nc ((t1.2.name 3).fin 2 q0 t [(t:Int),(t:Int)+1]):=⟨_,rfl⟩
    have hbk:=ihb ((t1.2.name 3).fin 2 q0 t [(t:Int),(t:Int)+1]) (X3++[.mp [],.row 2 [[.mp X3.length,.ptr se 2 0 0]]]) K3 I3 _ (se::sm::C) (X3.length+1) X3.length [] (mc::up) Q nc (T3.ls.more _) ok3 (by omega) (by omega) (.cons _ _ _ _ _ _ (by rw[List.getElem?_append_right (by omega)];simp) (by rw[List.getElem?_append_right (by omega)];simp[mpE]) (F3.ch.more _)) (by
     rw[List.nodup_cons,List.nodup_cons]
     refine⟨λhm=>?_,λhm=>?_,hCn⟩
     ·rcases List.mem_cons.1 hm with hm|hm
      ·omega
      ·have:=(hlt4 _ (List.mem_cons_of_mem _ hm)).1;omega
     ·have:=(hlt4 _ (List.mem_cons_of_mem _ hm)).1;omega) (F3.more _).q (λi hi=>by
     have hge:∀i,X3.length<=i->i∉L::I3:=λi hi hm=>by
      rcases List.mem_cons.1 hm with rfl|hm
      ·have:=T3.ls.lt;omega
      ·have:=T3.ls.own.lt hm;omega
     simp only[List.mem_cons] at hi
     rcases hi with rfl|rfl|rfl|hi
     ·exact(hlt4 _ (by simp)).2
     ·exact hge _ (by omega)
     ·exact hge _ (by omega)
     ·exact(hlt4 i (by simp only[List.mem_cons];exact .inr hi)).2) (λhm=>by
     have:=(hlt4 Q (by simp)).1
     rcases List.mem_cons.1 hm with hm|hm
     ·omega
     ·rcases List.mem_cons.1 hm with hm|hm
      ·omega
      ·exact hQn hm)
    rw[←hy4] at hbk
    have okb4:=cV (faI l0) 0 s.body [] (mc::up) nc ((t1.2.name 3).fin 2 q0 t [(t:Int),(t:Int)+1]) _ ok3
    rw[←hy4] at okb4
    obtain⟨ok4,len4,nx4,nxx4⟩:=okb4
    refine hbk.mono ?_
    rintro x X4 ⟨rfl,K4,I4,a1,a2,a3,a4,_⟩
    obtain⟨T4,e4⟩:=T3.stepG (J:=[]) (V:=[Q]) (λj hj=>by cases hj) (λj hj=>by rw[List.mem_singleton.1 hj];exact .inl (by simp)) a1 ⟨by have:=a2.1;simp at this;omega,λi hi hn=>by
     rw[List.append_nil] at hn
     simp only[List.mem_cons,List.mem_append,List.not_mem_nil,or_false,not_or] at hn
     rw[a2.2 i (by simp;omega) (by simp only[List.mem_cons,not_or];exact⟨hn.1,hn.2.1,by omega,hn.2.2⟩),List.getElem?_append_left hi]⟩ (λj hj=>by
     rcases a3 j hj with h|h
     ·exact .inl (by simp[h])
     ·exact .inr (by simp at h;omega))
    have F4:Bx L Q h.length (h.length+1) se sm C mc up y4.2.1 X4:=⟨(e4 _ k0 (by simp;omega)).trans F3.box0,(e4 _ k1 (by simp;omega)).trans F3.box1,F3.ch.frame λi hi=>e4 i (hEin i (by simp only[List.mem_cons] at hi⊢;rcases hi with rfl|rfl|hi<;>simp[*])) (by rw[List.mem_singleton];exact λe=>hQn (e▸hi)),a4⟩
    have r4:=(e4 X.length hEx (by simp;omega)).trans r3
    have y0:=F4.box0
    have y1:=F4.box1
    simp only[Lw.fin_len,Lw.name_len,←ht] at len4
    obtain⟨f1,f2⟩:=T4.fresh
    have hm5:=lv G (T4.ls.more [.row 1 ([(t:Int)+2].map λn=>[AV.p (.int .i64 n)])]) ok4 1 (0) (t+1) [(t:Int)+2] (cC X4 [(t:Int)+2] rfl) (by simp) f2
    simp only[List.map_cons,List.map_nil,List.length_cons,List.length_nil] at hm5
    rw[show((t+1:Nat):Int)=(t:Int)+1 by omega] at hm5
    simp-implicitDefEqProofs[-AV.cells,-AV.isCell,aC,ae,ag,aq,ah,aB,ab,au,aj,a1,a2,aa,y0,hwt1,hwt2]
    refine hm5.mono ?_
    rintro x X5 ⟨rfl,hlr⟩
    obtain⟨K5,I5,T5,e5⟩:=(T4.more _).step f1 hlr
    have F5:=(F4.more _).frame λi hi=>e5 i (hEin i hi)
    have r5:=(e5 X.length hEx).trans ((List.getElem?_append_left (T4.ap X.length hEx).1).trans r4)
    have y0:=F5.box0
    have y1:=F5.box1
    have ok5:=ok4.fin 1 0 (g:=t+1) (by omega) [(t:Int)+2]
    simp-implicitDefEqProofs[-AV.cells,-AV.isCell,aC,ae,ag,aq,ah,aB,ab,au,aj,a1,a2,aa,y0,y1,r5]
    refine(mV G (.ptr se 2 0 0) (.inr ⟨_,rfl⟩) _).mono ?_
    rintro x Xo ⟨rfl,rfl⟩
    have hyo:∀t,(X5++t)[h.length]?=some (.row 1 [[.ptr L 5 0 0]]):=λt=>(F5.more t).box0
    have hro:=λt=>(List.getElem?_append_left (l₂:=t) (T5.ap X.length hEx).1).trans r5
    simp-implicitDefEqProofs[-AV.cells,-AV.isCell,aC,ae,ag,aq,ah,aB,ab,au,aj,aa,hyo,hro]
    have hlt6:∀i∈Q::se::sm::C,i<X5.length/\i∉L::I5:=λi hi=>T5.ap i (hEin i (List.mem_cons_of_mem _ (List.mem_cons_of_mem _ hi)))
    obtain⟨y6,hy6⟩:∃y,y=aM (faI l0) 0 s.els [] (mc::up) y4.2.1 (y4.2.2.fin 1 0 (t+1) [(t:Int)+2]):=⟨_,rfl⟩
    have hbk:=ihe (y4.2.2.fin 1 0 (t+1) [(t:Int)+2]) (X5++[.mp [],.row 2 [[.mp X5.length,.ptr se 2 0 0]]]) K5 I5 _ (se::sm::C) (X5.length+1) X5.length [] (mc::up) Q y4.2.1 (T5.ls.more _) ok5 (by omega) (by omega) (.cons _ _ _ _ _ _ (by rw[List.getElem?_append_right (by omega)];simp) (by rw[List.getElem?_append_right (by omega)];simp[mpE]) (F5.ch.more _)) (by
     rw[List.nodup_cons,List.nodup_cons]
     refine⟨λhm=>?_,λhm=>?_,hCn⟩
     ·rcases List.mem_cons.1 hm with hm|hm
      ·omega
      ·have:=(hlt6 _ (List.mem_cons_of_mem _ hm)).1;omega
     ·have:=(hlt6 _ (List.mem_cons_of_mem _ hm)).1;omega) (F5.more _).q (λi hi=>by
     have hge:∀i,X5.length<=i->i∉L::I5:=λi hi hm=>by
      rcases List.mem_cons.1 hm with rfl|hm
      ·have:=T5.ls.lt;omega
      ·have:=T5.ls.own.lt hm;omega
     simp only[List.mem_cons] at hi
     rcases hi with rfl|rfl|rfl|hi
     ·exact(hlt6 _ (by simp)).2
     ·exact hge _ (by omega)
     ·exact hge _ (by omega)
     ·exact(hlt6 i (by simp only[List.mem_cons];exact .inr hi)).2) (λhm=>by
     have:=(hlt6 Q (by simp)).1
     rcases List.mem_cons.1 hm with hm|hm
     ·omega
     ·rcases List.mem_cons.1 hm with hm|hm
      ·omega
      ·exact hQn hm)
    rw[←hy6] at hbk
    have okb6:=cV (faI l0) 0 s.els [] (mc::up) y4.2.1 (y4.2.2.fin 1 0 (t+1) [(t:Int)+2]) _ ok5
    rw[←hy6] at okb6
    obtain⟨ok6,len6,nx6,nxx6⟩:=okb6
    refine hbk.mono ?_
    rintro x X6 ⟨rfl,K6,I6,a1,a2,a3,a4,_⟩
    obtain⟨T6,e6⟩:=T5.stepG (J:=[]) (V:=[Q]) (λj hj=>by cases hj) (λj hj=>by rw[List.mem_singleton.1 hj];exact .inl (by simp)) a1 ⟨by have:=a2.1;simp at this;omega,λi hi hn=>by
     rw[List.append_nil] at hn
     simp only[List.mem_cons,List.mem_append,List.not_mem_nil,or_false,not_or] at hn
     rw[a2.2 i (by simp;omega) (by simp only[List.mem_cons,not_or];exact⟨hn.1,hn.2.1,by omega,hn.2.2⟩),List.getElem?_append_left hi]⟩ (λj hj=>by
     rcases a3 j hj with h|h
     ·exact .inl (by simp[h])
     ·exact .inr (by simp at h;omega))
    have F6:Bx L Q h.length (h.length+1) se sm C mc up y6.2.1 X6:=⟨(e6 _ k0 (by simp;omega)).trans F5.box0,(e6 _ k1 (by simp;omega)).trans F5.box1,F5.ch.frame λi hi=>e6 i (hEin i (by simp only[List.mem_cons] at hi⊢;rcases hi with rfl|rfl|hi<;>simp[*])) (by rw[List.mem_singleton];exact λe=>hQn (e▸hi)),a4⟩
    have r6:=(e6 X.length hEx (by simp;omega)).trans r5
    have y0:=F6.box0
    have y1:=F6.box1
    simp only[Lw.fin_len] at len6
    obtain⟨f1,f2⟩:=T6.fresh
    have hm7:=lv G (T6.ls.more [.row 1 ([(t:Int)+2].map λn=>[AV.p (.int .i64 n)])]) ok6 1 (0) (t+2) [(t:Int)+2] (cC X6 [(t:Int)+2] rfl) (by simp) f2
    simp only[List.map_cons,List.map_nil,List.length_cons,List.length_nil] at hm7
    rw[show((t+2:Nat):Int)=(t:Int)+2 by omega] at hm7
    simp-implicitDefEqProofs[-AV.cells,-AV.isCell,aC,ae,ag,aq,ah,aB,ab,au,aj,a1,a2,aa,y0,hwt2]
    refine hm7.mono ?_
    rintro x X7 ⟨rfl,hlr⟩
    obtain⟨K7,I7,T7,e7⟩:=(T6.more _).step f1 hlr
    have F7:=(F6.more _).frame λi hi=>e7 i (hEin i hi)
    have r7:=(e7 X.length hEx).trans ((List.getElem?_append_left (T6.ap X.length hEx).1).trans r6)
    have y0:=F7.box0
    have y1:=F7.box1
    simp-implicitDefEqProofs[-AV.cells,-AV.isCell,aC,ae,ag,aq,ah,aB,ab,au,aj,a1,a2,aa,hwi]
    have hE5:lwS (faI l0) 0 s mc up nc wc=(mc,y6.2.1,y6.2.2.fin 1 0 (t+2) [(t:Int)+2]):=by
     rw[heq,if_neg o1,if_neg o2,if_neg o3,if_neg o4,if_pos o5]
     simp only[hhd,←ht]
     rw[←hy4,←hy6]
    obtain⟨q1,K',I',q2,q3⟩:=hback hE5 T7 F7
    obtain⟨z1,z2,z3,z4⟩:=hwk T7
    exact⟨⟨i+1,X7⟩,⟨q1,⟨K',I',q2⟩,q3⟩,by simp only;omega,aw z1 (by simp[below,hsl];omega)⟩
   have o5:¬s.op=5:=by simpa using o5
   simp-implicitDefEqProofs[-AV.cells,-AV.isCell,aC,ae,ag,aq,ah,aB,ab,au,aj,a1,a2,y0,y1,r1]
   refine aJ (λo7=>?_) (λo7=>?_)
   ·have o7:s.op=7:=by simpa using o7
    obtain⟨oid,rfl,ho1,rfl⟩:=hAs hne
    obtain⟨q0,qr,hq⟩:∃q r,t1.1=q::r:=by
     have hl:=fb (faI l0) (scF 0 (mc::up)) s.args wc
     rw[←ht1] at hl
     match hx:t1.1,s.args,hne,hl with
     |q::r,_,_,_=>exact⟨q,r,rfl⟩
     |[],[],h,_=>exact(h rfl).elim
     |[],_::_,_,h=>simp at h
    obtain⟨t,ht⟩:∃t,t=t1.2.bs.length:=⟨_,rfl⟩
    have htb:t<=B+20*aG (l.take i)+8*aL s.args:=by rw[ht];exact okm.bs
    have hwt1:IntKind.i64.wrap ((t:Int)+1)=(t:Int)+1:=af (by omega) (by omega)
    have hwt2:IntKind.i64.wrap ((t:Int)+2)=(t:Int)+2:=af (by omega) (by omega)
    obtain⟨Eo,hEo⟩:∃Eo,Eo=oid::E:=⟨_,rfl⟩
    have To:Stb (lwO l0 pr) L (L::Q::sm::I) I Eo h t1.2 X1 K2 I2:=⟨T1.ls,T1.fr,T1.hL,T1.hS,T1.sub,λi hi=>by
     rw[hEo] at hi
     rcases List.mem_cons.1 hi with rfl|hi
     ·refine⟨(List.getElem?_eq_some_iff.1 ho1).1,?_⟩
      have:=hJ2 i (by simp)
      simp only[List.mem_cons,not_or]
      exact this
     ·exact T1.ap i hi⟩
    have ho1':X1[oid]?=some (.row 1 ([.p (.int .i64 q0)]::qr.map λn=>[AV.p (.int .i64 n)])):=by rw[ho1,mD,hq];rfl
    have hsl0:0<s.args.length:=List.length_pos_iff.2 hne
    have hhd:t1.1.headD 0=q0:=by rw[hq];rfl
    have oE:oid∈Eo:=by rw[hEo];simp
    have hEin':∀i∈h.length::(h.length+1)::Q::se::sm::C,i∈Eo:=λi hi=>by rw[hEo];exact List.mem_cons_of_mem _ (hEin i hi)
    have hEx':X.length∈Eo:=by rw[hEo];exact List.mem_cons_of_mem _ hEx
    simp-implicitDefEqProofs[-AV.cells,-AV.isCell,aC,ae,ag,aq,ah,aB,ab,au,aj,a1,a2,y0,y1,r1,ho1',hsl0]
    refine(vo G To.ls okm (by omega) 1 (by omega) (by omega)).mono ?_
    rintro x X2 ⟨rfl,hlr⟩
    obtain⟨K2,I2,T2o,e2⟩:=To.step (J:=[]) (λj hj=>by cases hj) (by rw[List.append_nil];exact hlr)
    have F2:=F1.frame λi hi=>e2 i (hEin' i hi)
    have r2:=(e2 X.length hEx').trans r1
    have y0:=F2.box0
    have y1:=F2.box1
    have o2':=(e2 oid oE).trans ho1'
    have ok2:=okm.name 1
    have T2:Stb (lwO l0 pr) L (L::Q::sm::I) I E h _ X2 K2 I2:=⟨T2o.ls,T2o.fr,T2o.hL,T2o.hS,T2o.sub,λi hi=>T2o.ap i (by rw[hEo];exact List.mem_cons_of_mem _ hi)⟩
    simp-implicitDefEqProofs[-AV.cells,-AV.isCell,aC,ae,ag,aq,ah,aB,ab,au,aj,a1,a2,aa,y0,y1,r2,o2',←ht,hsl0]
    refine(lv G T2.ls ok2 3 q0 t [] (V:= .nils) (J:=[]) (.nils 1 .nil) List.nodup_nil (λj hj=>by cases hj)).mono ?_
    rintro x X3 ⟨rfl,hlr⟩
    obtain⟨K3,I3,T3,e3⟩:=(T2).step (J:=[]) (λj hj=>by cases hj) hlr
    have F3:=(F2).frame λi hi=>e3 i (hEin i hi)
    have r3:=(e3 X.length hEx).trans r2
    have y0:=F3.box0
    have y1:=F3.box1
    simp-implicitDefEqProofs[-AV.cells,-AV.isCell,aC,ae,ag,aq,ah,aB,ab,au,aj,a1,a2,aa,hwi]
    have hE7:lwS (faI l0) 0 s mc up nc wc=(mc,nc,(t1.2.name 1).fin 3 q0 t []):=by
     rw[heq,if_neg o1,if_neg o2,if_neg o3,if_neg o4,if_neg o5,if_pos o7,hhd,←ht]
    obtain⟨q1,K',I',q2,q3⟩:=hback hE7 T3 F3
    obtain⟨z1,z2,z3,z4⟩:=hwk T3
    exact⟨⟨i+1,X3⟩,⟨q1,⟨K',I',q2⟩,q3⟩,by simp only;omega,aw z1 (by simp[below,hsl];omega)⟩
   have o7:¬s.op=7:=by simpa using o7
   simp-implicitDefEqProofs[-AV.cells,-AV.isCell,aC,ae,ag,aq,ah,aB,ab,au,aj,a1,a2,y0,y1,r1,hwi]
   obtain⟨q1,K',I',q2,q3⟩:=hback (by rw[heq,if_neg o1,if_neg o2,if_neg o3,if_neg o4,if_neg o5,if_neg o7]) T1 F1
   obtain⟨z1,z2,z3,z4⟩:=hwk T1
   exact⟨⟨i+1,X1⟩,⟨q1,⟨K',I',q2⟩,q3⟩,by simp only;omega,aw z1 (by simp[below,hsl];omega)⟩
 ·simp at hc
  have hie:i=l.length:=by omega
  subst hie
  rw[List.take_length] at T F
  simp-implicitDefEqProofs[]
  refine⟨K1,I1,T.ls,T.fr,T.sub,F.q,?_⟩
  cases F.ch with
  |cons _ _ _ _ _ _ h1 h2 _=>exact h2
theorem KL(l0:List Fd)(hl0:l0.length<=1073741824)(pr:Int)(L:Nat):∀(d:Nat) (l:List Sm),(∀x∈l,aE d x=true)->ME G l0 pr L l:=by
 intro d
 induction d with
 |zero=>
  intro l hf
  exact vY G l0 hl0 pr L l (λx hx=>by have:=hf x hx;cases this) (λx hx=>by have:=hf x hx;cases this)
 |succ d ih=>
  intro l hf
  exact vY G l0 hl0 pr L l (λx hx=>⟨Kw (hf x hx),Ey (hf x hx)⟩) (λx hx=>⟨ih x.body (DU (hf x hx)),ih x.els (Hf (hf x hx))⟩)
end
section
theorem RS.ofStg{l:List Fd}{pr:Int}{L:Nat}{I:List Nat}{h hB:List AO}{w:Lw}{nx:Nat}{vs:Vs}{X:List AO}{K V:AV}{I1:List Nat}{oid:Nat}(S:Stg (lwR l pr V nx) L I (h.length::vi V) h hB w X K I1)(hv:VAt X V vs)(hV:∀i∈vi V,i<h.length)(ho:oid<X.length)(hoE:oid∉h.length::vi V)(hoI:oid∉L::I1):RS l pr L (L::(vi V++I)) I [oid,h.length] h w nx vs X K V I1:=by
 refine⟨⟨S.ls,⟨S.fr.1,λi hi hn=>S.fr.2 i hi λhm=>hn ?_⟩,by simp,λj hj=>by simp[hj],S.sub,λi hi=>?_⟩,hv,λi hi=>⟨λhm=>?_,.inl (by simp[hi])⟩⟩
 ·rcases List.mem_cons.1 hm with rfl|hm
  ·simp
  ·simp[hm]
 ·simp only[List.mem_append,List.mem_cons,List.not_mem_nil,or_false] at hi
  rcases hi with hi|rfl|rfl
  ·exact S.ap i (by simp[hi])
  ·exact⟨ho,hoI⟩
  ·exact S.ap _ (by simp)
 ·simp only[List.mem_cons,List.not_mem_nil,or_false] at hm
  rcases hm with rfl|rfl
  ·exact hoE (by simp[hi])
  ·have:=hV _ hi;omega
variable (G:aH)
theorem Nl(l0:List Fd)(hl0:l0.length<=1073741824)(pr:Int)(L:Nat)(s:Sm)(o6:s.op=6)(hne:s.args≠[])(ha:∀a∈s.args,bJ 6 a=true)(hb:Id G l0 pr L s.body){w:Lw}{h:List AO}{K V:AV}{I:List Nat}{B:Nat}{vs:Vs}{nx:Nat}{m:Scp}{up:List Scp}(T:RS l0 pr L (L::(vi V++I)) I [] h w nx vs h K V I)(hok:w.Ok B)(hB:B+20*s.sz<=1073741000)(hnx:nx+s.sz<=1073741000)(hvl:vs.length+s.sz<=1073741000)(hrg:rgV vs=scF (-1) (m::up)):
 AC Tryz.prog G gk [.ptr L 8 0 0,.agg (s.cs.map .p)] h λx h'=>x= .ret (.tup [])/\∃K' V' I',RS l0 pr L (L::(vi V++I)) I [] h (lwS (faI l0) (-1) s m up nx w).2.2 (lwS (faI l0) (-1) s m up nx w).2.1 vs h' K' V' I'/\(lwS (faI l0) (-1) s m up nx w).1=m:=by
 have hsc:=s.cs_eq
 have hsz:=s.sz_eq
 obtain⟨a0,ar,ha0⟩:∃a r,s.args=a::r:=by
  match hx:s.args,hne with
  |a::r,_=>exact⟨a,r,rfl⟩
 obtain⟨t,ht⟩:∃t,t=w.bs.length:=⟨_,rfl⟩
 have hac:=a0.cs_eq
 have hkx:exL s.args= .lst 4 ([.int .i64 a0.op,.int .i64 a0.n,.str a0.name,exL a0.kids]::ar.map Ex.cs):=by rw[ha0,←hac];rfl
 have haz:aL s.args=a0.sz+aL ar:=by rw[ha0,aL]
 have htb:t<=B:=by rw[ht];exact hok.bs
 have T0:=T.box (AO.row 5 [[.p (.int .i64 6),.p (.str s.name),.p (exL s.args),.p (smL s.body),.p (smL s.els)]])
 have r0:(h++[AO.row 5 [[.p (.int .i64 6),.p (.str s.name),.p (exL s.args),.p (smL s.body),.p (smL s.els)]]])[h.length]?=some (AO.row 5 [[.p (.int .i64 6),.p (.str s.name),.p (exL s.args),.p (smL s.body),.p (smL s.els)]]):=by simp
 rw[hkx] at T0 r0
 refine AC.go sF ?_
 rw[hsc,o6,hkx]
 simp-implicitDefEqProofs[-AV.cells,-AV.isCell,aC,ae,ag,aq,ah,aB,ab,au,aj,-Lw.name_len,kM]
 refine(mA G T0 hok (by omega)).mono ?_
 rintro x X1 ⟨rfl,K1,I1,T1,e1⟩
 have r1:=(e1 h.length (by simp)).trans r0
 have ok1:=hok.name 1
 have hl1:(w.name 1).bs.length=t+1:=by rw[Lw.name_len,ht]
 simp-implicitDefEqProofs[-AV.cells,-AV.isCell,aC,ae,ag,aq,ah,aB,ab,au,aj,-Lw.name_len,aa,←ht]
 refine(mA G T1 ok1 (by omega)).mono ?_
 rintro x X2 ⟨rfl,K2,I2,T2,e2⟩
 have r2:=(e2 h.length (by simp)).trans r1
 have ok2:=ok1.name 1
 have hl2:((w.name 1).name 1).bs.length=t+2:=by rw[Lw.name_len,hl1]
 simp-implicitDefEqProofs[-AV.cells,-AV.isCell,aC,ae,ag,aq,ah,aB,ab,au,aj,-Lw.name_len,aa,hl1]
 refine(mA G T2 ok2 (by omega)).mono ?_
 rintro x X3 ⟨rfl,K3,I3,T3,e3⟩
 have r3:=(e3 h.length (by simp)).trans r2
 have ok3:(w.name 3).Ok (B+3):=hok.name 3
 have hn3:((w.name 1).name 1).name 1=w.name 3:=by rw[Lw.name_name,Lw.name_name]
 rw[hn3] at T3
 simp-implicitDefEqProofs[-AV.cells,-AV.isCell,aC,ae,ag,aq,ah,aB,ab,au,aj,-Lw.name_len,aa,hl2]
 refine(vj G T3 ok3 1 0 t t rfl).mono ?_
 rintro x X4 ⟨rfl,K4,I4,T4,e4⟩
 have r4:=(e4 h.length (by simp)).trans r3
 have ok4:=ok3.fin 1 0 (g:=t) (by rw[Lw.name_len,ht];omega) [(t:Int)]
 simp-implicitDefEqProofs[-AV.cells,-AV.isCell,aC,ae,ag,aq,ah,aB,ab,au,aj,-Lw.name_len,aa,r4]
 have h5:=NG G T4 ok4 (e:=a0) (by omega) (GD G l0 hl0 pr L V nx vs (by omega) 6 a0 (ha a0 (by rw[ha0];simp)))
 obtain⟨ok5,len5⟩:=lF (faI l0) (rgV vs) a0 _ _ ok4
 obtain⟨x5,hx5⟩:∃x5,x5=lwE (faI l0) (rgV vs) a0 ((w.name 3).fin 1 0 t [(t:Int)]):=⟨_,rfl⟩
 rw[hac,←hx5] at h5
 rw[←hx5] at ok5 len5
 simp only[Lw.fin_len,Lw.name_len,←ht] at len5
 refine h5.mono ?_
 rintro x X5 ⟨rfl,K5,I5,T5,e5⟩
 have r5:=(e5 h.length (by simp)).trans r4
 simp-implicitDefEqProofs[-AV.cells,-AV.isCell,aC,ae,ag,aq,ah,aB,ab,au,aj,-Lw.name_len,aa]
 refine(GI G T5 ok5 2 x5.1 ((t:Int)+1) ((t:Int)+2) (t+1) (by omega)).mono ?_
 rintro x X6 ⟨rfl,K6,I6,T6,e6⟩
 have r6:=(e6 h.length (by simp)).trans r5
 have ok6:=ok5.fin 2 x5.1 (g:=t+1) (by omega) [(t:Int)+1,(t:Int)+2]
 simp-implicitDefEqProofs[-AV.cells,-AV.isCell,aC,ae,ag,aq,ah,aB,ab,au,aj,-Lw.name_len,aa,r6]
 have h7:=vq G hb T6 (m:=[]) (up:=m::up) ok6 (by omega) (by omega) (by omega) (by rw[hrg];rfl)
 have okb:=cV (faI l0) (-1) s.body [] (m::up) nx _ _ ok6
 obtain⟨y7,hy7⟩:∃y,y=aM (faI l0) (-1) s.body [] (m::up) nx (x5.2.fin 2 x5.1 (t+1) [(t:Int)+1,(t:Int)+2]):=⟨_,rfl⟩
 rw[←hy7] at h7 okb
 refine h7.mono ?_
 rintro x X7 ⟨rfl,K7,V7,I7,T7,e7⟩
 obtain⟨ok7,len7,nx7,nxx7⟩:=okb
 simp-implicitDefEqProofs[-AV.cells,-AV.isCell,aC,ae,ag,aq,ah,aB,ab,au,aj,-Lw.name_len,aa]
 refine(vj G T7 ok7 1 0 t (t+2) (by omega)).mono ?_
 rintro x X8 ⟨rfl,K8,I8,T8,e8⟩
 simp-implicitDefEqProofs[-AV.cells,-AV.isCell,aC,ae,ag,aq,ah,aB,ab,au,aj,-Lw.name_len,aa]
 subst ht
 rw[hrg] at hx5
 rw[Jx o6 ha0 m up nx w hx5 hy7]
 exact⟨⟨K8,V7,I8,T8.few (λi hi=>by cases hi)⟩,rfl⟩
theorem LF(l0:List Fd)(hl0:l0.length<=1073741824)(pr:Int)(L:Nat)(s:Sm)(hne:s.args≠[])(ha:∀a∈s.args,bJ 6 a=true)(hb:Id G l0 pr L s.body)(he:Id G l0 pr L s.els):StR G l0 pr L s:=by
 intro w h K V I B vs nx m up T hok hB hnx hvl hrg
 have hsc:=s.cs_eq
 have hsz:=s.sz_eq
 have H:=T.stb.ls
 have hV:=T.va
 have hVd:=λi hi=>(T.at.2 i hi).2
 have hLl:=H.lt
 have hxl:∀l,exL l= .lst 4 (l.map Ex.cs):=λ_=>rfl
 obtain⟨v1,v2,v3⟩:=hV.is
 obtain⟨E,hE⟩:∃E,E=h.length::vi V:=⟨_,rfl⟩
 obtain⟨bo,hbo⟩:∃bo,bo=AO.row 5 [[.p (.int .i64 s.op),.p (.str s.name),.p (exL s.args),.p (smL s.body),.p (smL s.els)]]:=⟨_,rfl⟩
 refine AC.go rY ?_
 rw[hsc]
 by_cases o6:s.op=6
 ·have T0:=T.box bo
  have hF:=Nl G l0 hl0 pr L s o6 hne ha hb T0.start hok hB hnx hvl hrg
  rw[hsc] at hF
  rw[o6] at hbo hF
  simp-implicitDefEqProofs[-AV.cells,-AV.isCell,aC,ae,ag,aq,ah,aB,ab,au,aj,-Lw.name_len,fO,o6]
  rw[←hbo]
  refine hF.mono ?_
  rintro x X1 ⟨rfl,K1,V1,I1,T1,hm1⟩
  simp-implicitDefEqProofs[-AV.cells,-AV.isCell,aC,ae,ag,aq,ah,aB,ab,au,aj,-Lw.name_len,aa]
  exact⟨vs,⟨K1,V1,I1,(T0.lift T1).1.few (λi hi=>by cases hi)⟩,by rw[List.take_length],Nat.le_refl _,by omega,by rw[hm1];exact hrg⟩
 have hS0:Stg (lwR l0 pr V nx) L I E h (h++[bo]) w (h++[bo]) K I:=Stg.of H [bo] (λi hi=>by
  rw[hE] at hi
  rcases List.mem_cons.1 hi with rfl|hi
  ·refine⟨by simp,?_⟩
   simp only[List.mem_cons,not_or]
   exact⟨by have:=H.lt;omega,λhm=>by have:=H.own.lt hm;omega⟩
  ·exact⟨by have:=hV.lt i hi;simp;omega,hVd i hi⟩)
 have hb0:(h++[bo])[h.length]?=some bo:=by simp
 have kE:∀{w2:Lw} {X:List AO} {K2:AV} {I2:List Nat},Stg (lwR l0 pr V nx) L I E h (h++[bo]) w2 X K2 I2->X[h.length]?=some bo/\VAt X V vs/\(∀i∈vi V,i∉L::I2):=λ{w2 X K2 I2} S=>⟨(S.keep _ (by rw[hE];simp)).trans hb0,(hV.more [bo]).frame λi hi=>S.keep i (by rw[hE];simp[hi]),λi hi=>(S.ap i (by rw[hE];simp[hi])).2⟩
 have hal:=bh s.args
 have hbl:(h++[bo]).length=h.length+1:=by simp
 simp-implicitDefEqProofs[-AV.cells,-AV.isCell,aC,ae,ag,aq,ah,aB,ab,au,aj,-Lw.name_len,fO,o6,hxl]
 refine NF 0 (λts' X=>∃oid K1 I1,Stg (lwR l0 pr V nx) L I E h (h++[bo]) (aY (faI l0) (rgV vs) s.args w).2 X K1 I1/\X[oid]?=some (mD (aY (faI l0) (rgV vs) s.args w).1)/\h.length<oid/\oid∉E/\oid∉L::I1/\∃z,ts'=ay 132 ((20,z)::(19,.p (.int .i64 s.args.length))::(18,.p (.lst 4 (s.args.map Ex.cs)))::(17,.ptr h.length 5 0 2)::(16,.p (.int .i64 s.args.length))::[(4,.sl oid 1 0 s.args.length),(5,.p (.int .i64 s.args.length)),(3,.ptr h.length 5 0 0),(0,.ptr L 8 0 0)])) (λQ' qE=>?_) ?_
 ·rw[hxl] at hbo
  have S00:Stg (lwR l0 pr V nx) L I E h (h++[bo]) w (h++[bo]++[.row 1 []]) K I:=hS0.more _
  have e0:h++[bo]++[AO.row 1 []]=h++[bo,.row 1 []]:=by simp
  rw[e0] at S00
  have hvE:h.length+1∉E:=λhm=>by have:=(hS0.ap _ hm).1;simp at this
  refine aF (λa:MpQ=>ay 132 [(4,.sl a.o 1 0 a.i),(5,.p (.int .i64 a.i)),(3,.ptr h.length 5 0 0),(0,.ptr L 8 0 0)]) (λa=>a.X)
   (λa=>a.i<=s.args.length/\∃K1 I1,Stg (lwR l0 pr V nx) L I E h (h++[bo]) (aY (faI l0) (rgV vs) (s.args.take a.i) w).2 a.X K1 I1/\a.X[a.o]?=some (mD (aY (faI l0) (rgV vs) (s.args.take a.i) w).1)/\h.length<a.o/\a.o∉E/\a.o∉L::I1) (λa=>s.args.length-a.i) ⟨0,h++[bo,.row 1 []],h.length+1⟩ ⟨Nat.zero_le _,K,I,by rw[List.take_zero,aY];exact S00,by rw[List.take_zero,aY,←e0,List.getElem?_append_right (by simp)];simp[mD],by simp,hvE,by
     simp only[List.mem_cons,not_or]
     exact⟨by omega,λhm=>by have:=H.own.lt hm;omega⟩⟩ ?_ ?_
  ·rw[hbo]
   exact aw (by simp) (by simp[below];omega)
  rintro⟨i,X,o⟩ ⟨hi,K1,I1,S,hx,ho,hoE,hoI⟩
  simp only at hi S hx ho hoE hoI
  have hXl:=S.fr.1
  have hXL:=S.ls.lt
  have hox:o<X.length:=(List.getElem?_eq_some_iff.1 hx).1
  have hlen:(aY (faI l0) (rgV vs) (s.args.take i) w).1.length=i:=by rw[fb,List.length_take];omega
  obtain⟨y0,yV,yd⟩:=kE S
  rw[hbo] at y0
  have hbX:h.length<X.length:=(List.getElem?_eq_some_iff.1 y0).1
  simp-implicitDefEqProofs[y0]
  refine aJ (λhc1=>?_) (λhc1=>?_)
  ·simp at hc1
   have hg:=List.getElem?_eq_getElem hc1
   have hm:=List.getElem_mem hc1
   have htk:=ty (fa:=faI l0) (sc:=rgV vs) hc1 w
   have hok1:=(iA (faI l0) (rgV vs) (s.args.take i) w B hok).1
   have hzt:aL (s.args.take i)+s.args[i].sz<=aL s.args:=by
    have h1:=List.take_append_drop (i+1) s.args
    have h2:aL s.args=aL (s.args.take (i+1))+aL (s.args.drop (i+1)):=by
     conv=>lhs;rw[←h1]
     rw[dg]
    rw[an hc1,dg] at h2
    simp only[aL] at h2
    omega
   have hcall:=GD G l0 hl0 pr L V nx vs (by omega) 6 s.args[i] (ha _ hm) _ _ K1 I1 _ S.ls hok1 (by omega) yV yd
   generalize s.args[i]=k at*
   have hkc:=k.cs_eq
   generalize aY (faI l0) (rgV vs) (s.args.take i) w=cur at*
   obtain⟨out,w1⟩:=cur
   simp only at htk hcall hok1 S hx hlen
   rw[hkc] at hcall
   simp-implicitDefEqProofs[-AV.cells,-AV.isCell,aC,ae,ag,aq,ah,aB,ab,au,aj,-Lw.name_len,y0,hg,hkc]
   refine hcall.mono ?_
   rintro r X2 ⟨rfl,hlr⟩
   have hl2:X.length<=X2.length:=by obtain⟨_,_,_,a,_⟩:=hlr;exact a.1
   have hx2:X2[o]?=some (mD out):=by
    obtain⟨_,_,_,a,_⟩:=hlr
    rw[a.2 o hox hoI];exact hx
   have hE2:∀j∈o::E,j<X.length/\j∉L::I1:=λj hj=>by
    rcases List.mem_cons.1 hj with rfl|hj
    ·exact⟨hox,hoI⟩
    ·exact S.ap j hj
   obtain⟨K2,I2,S2o⟩:=(show Stg (lwR l0 pr V nx) L I (o::E) h X w1 X K1 I1 from⟨S.ls,S.fr,S.sub,λ_ _=>rfl,hE2,Nat.le_refl _⟩).step (J:=[]) (λj hj=>by cases hj) (by rw[List.append_nil];exact hlr)
   have hoI2:o∉L::I2:=(S2o.ap o (by simp)).2
   have S2:Stg (lwR l0 pr V nx) L I E h (h++[bo]) _ X2 K2 I2:=⟨S2o.ls,S2o.fr,S2o.sub,λj hj=>(S2o.keep j (by simp[hj])).trans (S.keep j hj),λj hj=>S2o.ap j (by simp[hj]),Nat.le_trans S.ge hl2⟩
   have hx2':∀t,(X2++t)[o]?=some (.row 1 (out.map λn=>[AV.p (.int .i64 n)])):=λt=>by rw[List.getElem?_append_left (by omega)];exact hx2
   have hot:List.take i (out.map λn=>[AV.p (.int .i64 n)])=out.map λn=>[AV.p (.int .i64 n)]:=List.take_of_length_le (by simp;omega)
   simp-implicitDefEqProofs[-AV.cells,-AV.isCell,aC,ae,ag,aq,ah,aB,ab,au,aj,-Lw.name_len,aa,hx2',hlen,hot]
   refine⟨by omega,⟨i+1,_,X2.length+1⟩,⟨by simp only;omega,K2,I2,by
    rw[htk]
    exact S2.upd (oid:=o) (by simp;omega) (λj hj hn=>by rw[List.getElem?_append_left (by simp;omega),List.getElem?_set_ne (Ne.symm hn),List.getElem?_append_left hj]) (by omega) hoE hoI2,?_,by simp only;omega,λhm=>by have:=(S2.ap _ hm).1;simp only at this;omega,?_⟩,by simp only;omega,aw (by simp;omega) ?_⟩
   ·rw[htk,List.getElem?_append_right (by simp)];simp[mD]
   ·simp only[List.mem_cons,not_or]
    exact⟨by have:=S2.ls.lt;omega,λhm=>by have:=S2.ls.own.lt hm;omega⟩
   ·simp[below,show IntKind.i64.wrap ((i:Int)+1)=(i:Int)+1 from af (by omega) (by omega)]
    omega
  ·simp at hc1
   have hie:i=s.args.length:=by omega
   subst hie
   rw[List.take_length] at S hx hlen
   simp-implicitDefEqProofs[]
   exact qE _ _ ⟨o,K1,I1,S,hx,ho,hoE,hoI,_,rfl⟩
 ·rintro ts' X ⟨oid,K1,I1,S,hx,ho,hoE,hoI,z,rfl⟩
  obtain⟨y0,yV,yd⟩:=kE S
  rw[hbo] at y0
  obtain⟨okm,lenm⟩:=iA (faI l0) (rgV vs) s.args w B hok
  have hlm:=fb (faI l0) (rgV vs) s.args w
  obtain⟨t1,ht1⟩:∃x,x=aY (faI l0) (rgV vs) s.args w:=⟨_,rfl⟩
  have heq:=Kh (fa:=faI l0) (d:= -1) o6 m up nx w (x:=t1) (by rw[←hrg];exact ht1)
  rw[←ht1] at S hx okm lenm hlm
  have hA:OwnL false X [.sl oid 1 0 s.args.length] [br t1.1] [oid]:=sA hx hlm.symm
  have hox:=(List.getElem?_eq_some_iff.1 hx).1
  rw[hE] at S hoE
  have To:RS l0 pr L (L::(vi V++I)) I [oid,h.length] h t1.2 nx vs X K1 V I1:=RS.ofStg S yV hV.lt hox hoE hoI
  have Tq:RS l0 pr L (L::(vi V++I)) I [h.length] h t1.2 nx vs X K1 V I1:=To.few (by simp)
  have hJ:∀j∈[oid],h.length<=j/\j∉vi V++[h.length]:=λj hj=>by
   rw[List.mem_singleton.1 hj]
   refine⟨by omega,λhm=>hoE ?_⟩
   rcases List.mem_append.1 hm with hm|hm
   ·simp[hm]
   ·rw[List.mem_singleton.1 hm];simp
  have hJ2:∀j∈[oid],j≠L/\j∉I1:=λj hj=>by
   rw[List.mem_singleton.1 hj]
   simpa only[List.mem_cons,not_or] using hoI
  have r1:=y0
  have yL:=S.ls.here
  simp only[lwR] at yL
  clear ht1
  have hsl0:0<s.args.length:=List.length_pos_iff.2 hne
  have hq:∃q0 qr,t1.1=q0::qr:=by
   match hx:t1.1,s.args,hne,hlm with
   |q::r,_,_,_=>exact⟨q,r,rfl⟩
   |[],[],h,_=>exact(h rfl).elim
   |[],_::_,_,h=>simp at h
  simp-implicitDefEqProofs[-AV.cells,-AV.isCell,aC,ae,ag,aq,ah,aB,ab,au,aj,-Lw.name_len,r1]
  refine aJ (λo1=>?_) (λo1=>?_)
  ·have o1:s.op=1:=by simpa using o1
   simp-implicitDefEqProofs[-AV.cells,-AV.isCell,aC,ae,ag,aq,ah,aB,ab,au,aj,-Lw.name_len,r1,yL]
   refine(Gj G Tq okm (by omega) ⟨2,nx,t1.1,0⟩ hA (by simp) hJ hJ2).mono ?_
   rintro x X1 ⟨rfl,K2,I2,T2,e2⟩
   simp-implicitDefEqProofs[-AV.cells,-AV.isCell,aC,ae,ag,aq,ah,aB,ab,au,aj,-Lw.name_len,aa]
   have vform:=T2.va
   have dl:=(T2.at.2)
   have yL2:=T2.stb.ls.here
   simp only[lwR] at yL2
   have r2:=(e2 h.length (by simp)).trans r1
   have hrgn:rgV (vs++[(s.name,nx)])=scF (-1) (dV m s.name nx::up):=by
    funext t
    rw[vH,hrg,scF,scF,cJ,cJ,jZ]
    by_cases hst:s.name=t
    ·simp[hst]
    ·simp[hst]
   have hwn:IntKind.i64.wrap ((nx:Int)+1)=(nx:Int)+1:=af (by omega) (by omega)
   have hLX:=T2.stb.ls.lt
   cases vform with
   |nil=>
    have hLs:∀t o,((X1++t).set L o)[L]?=some o:=λt o=>List.getElem?_set_self (by simp;omega)
    have hLm:∀t,(X1++t)[L]?=X1[L]?:=λt=>List.getElem?_append_left hLX
    have hrm:∀t o,((X1++t).set L o)[h.length]?=X1[h.length]?:=λt o=>by
     rw[List.getElem?_set_ne (λe=>(T2.at.1 h.length (by simp)).2 (by rw[e];simp)),List.getElem?_append_left (T2.at.1 h.length (by simp)).1]
    simp-implicitDefEqProofs[-AV.cells,-AV.isCell,aC,ae,ag,aq,ah,aB,ab,au,aj,-Lw.name_len,r2,yL2,hLm, ↓hLs,hwn,hrm]
    obtain⟨V2,hV2⟩:∃V2,V2=AV.sl X1.length 3 0 1:=⟨_,rfl⟩
    rw[heq,if_pos o1]
    have hX2:∀X2,X2=(X1++[AO.row 3 [[.p (.str s.name),.p (.int .i64 nx),.p (.int .i64 0)]]]).set L (.row 8 [[.p (fdL l0),.p (.int .i64 pr),.p (.int .i64 (t1.2.put ⟨2,nx,t1.1,0⟩).regs),K2,.p (.int .i64 (t1.2.put ⟨2,nx,t1.1,0⟩).pos),.sl X1.length 3 0 1,.p (.int .i64 ((nx:Int)+1)),.nils]])->RS l0 pr L (L::(vi .nils++I)) I [h.length] h (t1.2.put ⟨2,nx,t1.1,0⟩) (nx+1) [(s.name,nx)] X2 K2 (.sl X1.length 3 0 1) I2:=λX2 e=>by
     subst e
     refine(T2.alt (by simp) (by rw[hLs,lwR];simp) (λi hi hn _=>by rw[List.getElem?_set_ne (Ne.symm hn),List.getElem?_append_left hi]) (.sl _ [rr (s.name,nx)] [(s.name,nx)] (by rw[List.getElem?_set_ne (by omega),List.getElem?_append_right (Nat.le_refl _)];simp[rr]) rfl) (λi hi=> .inr (by rw[List.mem_singleton.1 hi];exact Nat.le_refl _))).1
    refine⟨[(s.name,nx)],⟨_,_,_,(hX2 _ (by simp[List.set_set])).few (E2:=[]) (λi hi=>by cases hi)⟩,?_⟩
    simpa using hrgn
   |sl vid rows _ hv1 hv2=>
    have hvX:=(List.getElem?_eq_some_iff.1 hv1).1
    have hvd:=(T2.at.2 vid (by simp[vi])).2
    simp only[List.mem_cons,not_or] at hvd
    have hLs:∀t u o,(((X1++t).set vid .dead++u).set L o)[L]?=some o:=λt u o=>List.getElem?_set_self (by simp;omega)
    have hLm:∀t u,((X1++t).set vid .dead++u)[L]?=X1[L]?:=λt u=>by rw[List.getElem?_append_left (by simp;omega),List.getElem?_set_ne hvd.1,List.getElem?_append_left hLX]
    have hLs0:∀u o,((X1.set vid .dead++u).set L o)[L]?=some o:=λu o=>List.getElem?_set_self (by simp;omega)
    have hLm0:∀u,(X1.set vid .dead++u)[L]?=X1[L]?:=λu=>by rw[List.getElem?_append_left (by simp;omega),List.getElem?_set_ne hvd.1]
    have hvk:vs.length<=rows.length:=by
     have:=congrArg List.length hv2
     rw[List.length_take,List.length_map] at this
     omega
    simp-implicitDefEqProofs[-AV.cells,-AV.isCell,aC,ae,ag,aq,ah,aB,ab,au,aj,-Lw.name_len,r2,yL2,hv1,hv2, ↓hLs, ↓hLm, ↓hLs0, ↓hLm0,hwn]
    rw[heq,if_pos o1]
    have hX2:∀X2,X2=(X1.set vid .dead++[AO.row 3 (vs.map rr++[[.p (.str s.name),.p (.int .i64 nx),.p (.int .i64 0)]])]).set L (.row 8 [[.p (fdL l0),.p (.int .i64 pr),.p (.int .i64 (t1.2.put ⟨2,nx,t1.1,0⟩).regs),K2,.p (.int .i64 (t1.2.put ⟨2,nx,t1.1,0⟩).pos),.sl X1.length 3 0 (vs.length+1),.p (.int .i64 ((nx:Int)+1)),.nils]])->RS l0 pr L (L::(vi (.sl vid 3 0 vs.length)++I)) I [h.length] h (t1.2.put ⟨2,nx,t1.1,0⟩) (nx+1) (vs++[(s.name,nx)]) X2 K2 (.sl X1.length 3 0 (vs.length+1)) I2:=λX2 e=>by
     subst e
     have hlv:(vs++[(s.name,nx)]).length=vs.length+1:=by simp
     refine(T2.alt (by simp) (by rw[hLs0,lwR];simp) (λi hi hn hv=>by
      rw[List.getElem?_set_ne (Ne.symm hn),List.getElem?_append_left (by simpa using hi),List.getElem?_set_ne (λe=>hv (by rw[←e];simp[vi]))]) (hlv▸ .sl _ (vs.map rr++[rr (s.name,nx)]) (vs++[(s.name,nx)]) (by rw[List.getElem?_set_ne (by omega),List.getElem?_append_right (by simp)];simp[rr]) (by rw[List.take_of_length_le (by simp)];simp)) (λi hi=> .inr (by rw[List.mem_singleton.1 hi];exact Nat.le_refl _))).1
    refine⟨⟨by omega,by omega⟩,vs++[(s.name,nx)],⟨_,_,_,(hX2 _ (by simp[List.set_set])).few (E2:=[]) (λi hi=>by cases hi)⟩,?_⟩
    simpa using hrgn
  have o1:¬s.op=1:=by simpa using o1
  simp-implicitDefEqProofs[-AV.cells,-AV.isCell,aC,ae,ag,aq,ah,aB,ab,au,aj,-Lw.name_len,r1]
  refine aJ (λo2=>?_) (λo2=>?_)
  ·have o2:s.op=2:=by simpa using o2
   simp-implicitDefEqProofs[-AV.cells,-AV.isCell,aC,ae,ag,aq,ah,aB,ab,au,aj,-Lw.name_len,r1,yL]
   refine(Ku G S.ls.here yV (by omega) s.name).mono ?_
   rintro x X' ⟨rfl,rfl⟩
   simp-implicitDefEqProofs[-AV.cells,-AV.isCell,aC,ae,ag,aq,ah,aB,ab,au,aj,-Lw.name_len,aa,r1]
   refine(Gj G Tq okm (by omega) ⟨2,rgV vs s.name,t1.1,0⟩ hA (by simp) hJ hJ2).mono ?_
   rintro x X1 ⟨rfl,K2,I2,T2,e2⟩
   simp-implicitDefEqProofs[-AV.cells,-AV.isCell,aC,ae,ag,aq,ah,aB,ab,au,aj,-Lw.name_len,aa]
   rw[hrg] at T2
   rw[heq,if_neg o1,if_pos o2]
   exact⟨vs,⟨_,_,_,T2.few (λi hi=>by cases hi)⟩,by rw[List.take_length],Nat.le_refl _,by omega,hrg⟩
  have o2:¬s.op=2:=by simpa using o2
  simp-implicitDefEqProofs[-AV.cells,-AV.isCell,aC,ae,ag,aq,ah,aB,ab,au,aj,-Lw.name_len,r1]
  refine aJ (λo3=>?_) (λo3=>?_)
  ·have o3:s.op=3:=by simpa using o3
   simp-implicitDefEqProofs[-AV.cells,-AV.isCell,aC,ae,ag,aq,ah,aB,ab,au,aj,-Lw.name_len,r1,yL]
   refine(Gj G Tq okm (by omega) ⟨13,-1,t1.1,0⟩ hA (by simp) hJ hJ2).mono ?_
   rintro x X1 ⟨rfl,K2,I2,T2,e2⟩
   simp-implicitDefEqProofs[-AV.cells,-AV.isCell,aC,ae,ag,aq,ah,aB,ab,au,aj,-Lw.name_len,aa]
   rw[heq,if_neg o1,if_neg o2,if_pos o3]
   exact⟨vs,⟨_,_,_,T2.few (λi hi=>by cases hi)⟩,by rw[List.take_length],Nat.le_refl _,by omega,hrg⟩
  have o3:¬s.op=3:=by simpa using o3
  simp-implicitDefEqProofs[-AV.cells,-AV.isCell,aC,ae,ag,aq,ah,aB,ab,au,aj,-Lw.name_len,r1]
  refine aJ (λo4=>?_) (λo4=>?_)
  ·have o4:s.op=4:=by simpa using o4
   simp-implicitDefEqProofs[-AV.cells,-AV.isCell,aC,ae,ag,aq,ah,aB,ab,au,aj,-Lw.name_len,r1,yL]
   refine(Gj G Tq okm (by omega) ⟨12,-1,t1.1,0⟩ hA (by simp) hJ hJ2).mono ?_
   rintro x X1 ⟨rfl,K2,I2,T2,e2⟩
   simp-implicitDefEqProofs[-AV.cells,-AV.isCell,aC,ae,ag,aq,ah,aB,ab,au,aj,-Lw.name_len,aa]
   rw[heq,if_neg o1,if_neg o2,if_neg o3,if_pos o4]
   exact⟨vs,⟨_,_,_,T2.few (λi hi=>by cases hi)⟩,by rw[List.take_length],Nat.le_refl _,by omega,hrg⟩
  have o4:¬s.op=4:=by simpa using o4
  simp-implicitDefEqProofs[-AV.cells,-AV.isCell,aC,ae,ag,aq,ah,aB,ab,au,aj,-Lw.name_len,r1]
  refine aJ (λo7=>?_) (λo7=>?_)
  ·have o7:s.op=7:=by simpa using o7
   obtain⟨q0,qr,hq⟩:=hq
   obtain⟨t,ht⟩:∃t,t=t1.2.bs.length:=⟨_,rfl⟩
   have htb:t<=B+8*aL s.args:=by rw[ht];exact okm.bs
   have ho1:X[oid]?=some (.row 1 ([.p (.int .i64 q0)]::qr.map λn=>[AV.p (.int .i64 n)])):=by rw[hx,mD,hq];rfl
   have hhd:t1.1.headD 0=q0:=by rw[hq];rfl
   simp-implicitDefEqProofs[-AV.cells,-AV.isCell,aC,ae,ag,aq,ah,aB,ab,au,aj,-Lw.name_len,r1,ho1,hsl0]
   refine(mA G To okm (by omega)).mono ?_
   rintro x X2 ⟨rfl,K2,I2,T2,e2⟩
   have o2':=(e2 oid (by simp)).trans ho1
   have r2:=(e2 h.length (by simp)).trans r1
   have ok2:=okm.name 1
   simp-implicitDefEqProofs[-AV.cells,-AV.isCell,aC,ae,ag,aq,ah,aB,ab,au,aj,-Lw.name_len,aa,←ht,o2',hsl0,r2]
   refine(Nh G T2 ok2 3 q0 t rfl).mono ?_
   rintro x X3 ⟨rfl,K3,I3,T3,e3⟩
   simp-implicitDefEqProofs[-AV.cells,-AV.isCell,aC,ae,ag,aq,ah,aB,ab,au,aj,-Lw.name_len,aa]
   rw[heq,if_neg o1,if_neg o2,if_neg o3,if_neg o4,if_neg (by omega),if_pos o7,hhd,←ht]
   exact⟨vs,⟨_,_,_,T3.few (λi hi=>by cases hi)⟩,by rw[List.take_length],Nat.le_refl _,by omega,hrg⟩
  have o7:¬s.op=7:=by simpa using o7
  simp-implicitDefEqProofs[-AV.cells,-AV.isCell,aC,ae,ag,aq,ah,aB,ab,au,aj,-Lw.name_len,r1]
  refine aJ (λo5=>?_) (λo5=>?_)
  ·have o5:s.op=5:=by simpa using o5
   obtain⟨q0,qr,hq⟩:=hq
   obtain⟨t,ht⟩:∃t,t=t1.2.bs.length:=⟨_,rfl⟩
   have htb:t<=B+8*aL s.args:=by rw[ht];exact okm.bs
   have ho1:X[oid]?=some (.row 1 ([.p (.int .i64 q0)]::qr.map λn=>[AV.p (.int .i64 n)])):=by rw[hx,mD,hq];rfl
   have hhd:t1.1.headD 0=q0:=by rw[hq];rfl
   simp-implicitDefEqProofs[-AV.cells,-AV.isCell,aC,ae,ag,aq,ah,aB,ab,au,aj,-Lw.name_len,r1]
   refine(mA G To okm (by omega)).mono ?_
   rintro x X2 ⟨rfl,K2,I2,T2,e2⟩
   have r2:=(e2 h.length (by simp)).trans r1
   have ok2:=okm.name 1
   have hl2:(t1.2.name 1).bs.length=t+1:=by rw[Lw.name_len,ht]
   simp-implicitDefEqProofs[-AV.cells,-AV.isCell,aC,ae,ag,aq,ah,aB,ab,au,aj,-Lw.name_len,aa,←ht,r2]
   refine(mA G T2 ok2 (by omega)).mono ?_
   rintro x X3 ⟨rfl,K3,I3,T3,e3⟩
   have r3:=(e3 h.length (by simp)).trans r2
   have ok3:=ok2.name 1
   have hl3:((t1.2.name 1).name 1).bs.length=t+2:=by rw[Lw.name_len,hl2]
   simp-implicitDefEqProofs[-AV.cells,-AV.isCell,aC,ae,ag,aq,ah,aB,ab,au,aj,-Lw.name_len,aa,hl2,r3]
   refine(mA G T3 ok3 (by omega)).mono ?_
   rintro x X4 ⟨rfl,K4,I4,T4,e4⟩
   have r4:=(e4 h.length (by simp)).trans r3
   have ok4:(t1.2.name 3).Ok _:=okm.name 3
   have hn4:((t1.2.name 1).name 1).name 1=t1.2.name 3:=by rw[Lw.name_name,Lw.name_name]
   rw[hn4] at T4
   have o4':=(e4 oid (by simp)).trans ((e3 oid (by simp)).trans ((e2 oid (by simp)).trans ho1))
   simp-implicitDefEqProofs[-AV.cells,-AV.isCell,aC,ae,ag,aq,ah,aB,ab,au,aj,-Lw.name_len,aa,hl3,r4,o4',hsl0]
   refine(GI G T4 ok4 2 q0 t ((t:Int)+1) t rfl).mono ?_
   rintro x X5 ⟨rfl,K5,I5,T5,e5⟩
   have r5:=(e5 h.length (by simp)).trans r4
   have ok5:=ok4.fin 2 q0 (g:=t) (by rw[Lw.name_len,ht];omega) [(t:Int),(t:Int)+1]
   simp-implicitDefEqProofs[-AV.cells,-AV.isCell,aC,ae,ag,aq,ah,aB,ab,au,aj,-Lw.name_len,aa,r5]
   have h6:=vq G hb T5 (m:=[]) (up:=m::up) ok5 (by omega) (by omega) (by omega) (by rw[hrg];rfl)
   have okb:=cV (faI l0) (-1) s.body [] (m::up) nx _ _ ok5
   obtain⟨y6,hy6⟩:∃y,y=aM (faI l0) (-1) s.body [] (m::up) nx ((t1.2.name 3).fin 2 q0 t [(t:Int),(t:Int)+1]):=⟨_,rfl⟩
   rw[←hy6] at h6 okb
   refine h6.mono ?_
   rintro x X6 ⟨rfl,K6,V6,I6,T6,e6⟩
   obtain⟨ok6,len6,nx6,nxx6⟩:=okb
   simp only[Lw.fin_len,Lw.name_len,←ht] at len6
   have r6:=(e6 h.length (by simp)).trans r5
   simp-implicitDefEqProofs[-AV.cells,-AV.isCell,aC,ae,ag,aq,ah,aB,ab,au,aj,-Lw.name_len,aa,r6]
   refine(vj G T6 ok6 1 0 ((t:Int)+2) (t+1) (by omega)).mono ?_
   rintro x X7 ⟨rfl,K7,I7,T7,e7⟩
   have r7:=(e7 h.length (by simp)).trans r6
   have ok7:=ok6.fin 1 0 (g:=t+1) (by omega) [(t:Int)+2]
   simp-implicitDefEqProofs[-AV.cells,-AV.isCell,aC,ae,ag,aq,ah,aB,ab,au,aj,-Lw.name_len,aa,r7]
   have h8:=vq G he T7 (m:=[]) (up:=m::up) ok7 (by omega) (by omega) (by omega) (by rw[hrg];rfl)
   have okb:=cV (faI l0) (-1) s.els [] (m::up) y6.2.1 _ _ ok7
   obtain⟨y8,hy8⟩:∃y,y=aM (faI l0) (-1) s.els [] (m::up) y6.2.1 (y6.2.2.fin 1 0 (t+1) [(t:Int)+2]):=⟨_,rfl⟩
   rw[←hy8] at h8 okb
   refine h8.mono ?_
   rintro x X8 ⟨rfl,K8,V8,I8,T8,e8⟩
   obtain⟨ok8,len8,nx8,nxx8⟩:=okb
   simp only[Lw.fin_len] at len8
   have r8:=(e8 h.length (by simp)).trans r7
   simp-implicitDefEqProofs[-AV.cells,-AV.isCell,aC,ae,ag,aq,ah,aB,ab,au,aj,-Lw.name_len,aa,r8]
   refine(vj G T8 ok8 1 0 ((t:Int)+2) (t+2) (by omega)).mono ?_
   rintro x X9 ⟨rfl,K9,I9,T9,e9⟩
   simp-implicitDefEqProofs[-AV.cells,-AV.isCell,aC,ae,ag,aq,ah,aB,ab,au,aj,-Lw.name_len,aa]
   have hE5:lwS (faI l0) (-1) s m up nx w=(m,y8.2.1,y8.2.2.fin 1 0 (t+2) [(t:Int)+2]):=by
    rw[heq,if_neg o1,if_neg o2,if_neg o3,if_neg o4,if_pos o5]
    simp only[hhd,←ht]
    rw[←hy6,←hy8]
   rw[hE5]
   exact⟨vs,⟨_,_,_,T9.few (λi hi=>by cases hi)⟩,by rw[List.take_length],Nat.le_refl _,by omega,hrg⟩
  have o5:¬s.op=5:=by simpa using o5
  simp-implicitDefEqProofs[-AV.cells,-AV.isCell,aC,ae,ag,aq,ah,aB,ab,au,aj,-Lw.name_len,r1]
  rw[heq,if_neg o1,if_neg o2,if_neg o3,if_neg o4,if_neg o5,if_neg o7]
  exact⟨vs,⟨_,_,_,Tq.few (λi hi=>by cases hi)⟩,by rw[List.take_length],Nat.le_refl _,by omega,hrg⟩
structure SlS where (i:Nat) (X:List AO)
theorem zk(l0:List Fd)(pr:Int)(L:Nat)(b:List Sm)(hs:∀s∈b,StR G l0 pr L s):Id G l0 pr L b:=by
 intro w h K V I B vs nx m up T hok hB hnx hvl hrg
 have hsl:∀l,smL l= .lst 5 (l.map Sm.cs):=λ_=>rfl
 have hll:=bn b
 have yL0:=T.stb.ls.here
 simp only[lwR] at yL0
 refine AC.go rE ?_
 rcases T.va.form with⟨hVe,hve⟩|⟨vid0,hVe⟩
 ·have hv00:vs.length=0:=by rw[hve];rfl
  rw[hVe] at yL0
  simp-implicitDefEqProofs[fE,yL0,hsl]
  refine aF (λa:SlS=>ay 32 [(5,.p (.int .i64 a.i)),(4,.p (.int .i64 0)),(0,.ptr L 8 0 0),(1,.p (smL b))]) (λa=>a.X)
   (λa=>a.i<=b.length/\∃vs1 K1 V1 I1,RS l0 pr L (L::(vi V++I)) I [] h (aM (faI l0) (-1) (b.take a.i) m up nx w).2.2 (aM (faI l0) (-1) (b.take a.i) m up nx w).2.1 vs1 a.X K1 V1 I1/\vs1.take vs.length=vs/\vs.length<=vs1.length/\vs1.length<=vs.length+a.i/\rgV vs1=scF (-1) ((aM (faI l0) (-1) (b.take a.i) m up nx w).1::up)) (λa=>b.length-a.i) ⟨0,h⟩ ⟨Nat.zero_le _,vs,K,V,I,by rw[List.take_zero,aM];exact T,by rw[List.take_length],Nat.le_refl _,by simp,by rw[List.take_zero,aM];exact hrg⟩ ?_ ?_
  ·exact aw (Nat.le_refl _) (by simp[below,hsl,T.stb.ls.lt])
  rintro⟨i,X⟩ ⟨hi,vs1,K1,V1,I1,T1,p1,p2,p3,p4⟩
  simp only at hi T1 p3 p4
  have hXL:=T1.stb.ls.lt
  simp-implicitDefEqProofs[hsl]
  refine aJ (λhc=>?_) (λhc=>?_)
  ·simp at hc
   have hg:=List.getElem?_eq_getElem hc
   have hm:=List.getElem_mem hc
   have htk:=tx (fa:=faI l0) (d:= -1) hc m up nx w
   have hok1:=cV (faI l0) (-1) (b.take i) m up nx w B hok
   have hzt:aG (b.take i)+b[i].sz<=aG b:=by
    have h1:=List.take_append_drop (i+1) b
    have h2:aG b=aG (b.take (i+1))+aG (b.drop (i+1)):=by
     conv=>lhs;rw[←h1]
     rw[dh]
    rw[an hc,dh] at h2
    simp only[aG] at h2
    omega
   have htl:i<=aG (b.take i):=by
    have:=bn (b.take i)
    rw[List.length_take] at this
    omega
   have hst:=hs b[i] hm
   generalize b[i]=s at hg hm htk hzt hst
   have hsc:=s.cs_eq
   generalize aM (faI l0) (-1) (b.take i) m up nx w=cur at*
   obtain⟨mc,nc,wc⟩:=cur
   simp only at htk hok1 T1 p4
   obtain⟨okc,_,_,hnc⟩:=hok1
   have hcall:=hst wc X K1 V1 I1 _ vs1 nc mc up T1.start okc (by omega) (by omega) (by omega) p4
   rw[hsc] at hcall
   simp-implicitDefEqProofs[hg,hsc]
   refine hcall.mono ?_
   rintro r X2 ⟨rfl,vs2,K2,V2,I2,T2,q1,q2,q3,q4⟩
   obtain⟨T3,_⟩:=T1.lift T2
   simp-implicitDefEqProofs[aa]
   refine⟨⟨i+1,X2⟩,⟨by simp only;omega,vs2,⟨K2,V2,I2,by rw[htk];exact T3⟩,?_,by omega,by simp only;omega,by rw[htk];exact q4⟩,by simp only;omega,aw (Nat.le_trans T1.stb.fr.1 T2.stb.fr.1) ?_⟩
   ·rw[←q1,List.take_take,Nat.min_eq_left p2] at p1
    exact p1
   ·simp[below,hsl,show IntKind.i64.wrap ((i:Int)+1)=(i:Int)+1 from af (by omega) (by omega)]
    exact T3.stb.ls.lt
  ·simp at hc
   have hie:i=b.length:=by omega
   subst hie
   rw[List.take_length] at T1
   have yL:=T1.stb.ls.here
   simp only[lwR] at yL
   have fin:∀V2,VAt (X.set L (lwR l0 pr V2 (aM (faI l0) (-1) b m up nx w).2.1 (aM (faI l0) (-1) b m up nx w).2.2 K1)) V2 vs->(∀i∈vi V2,i∈vi V1)->RS l0 pr L (L::(vi V++I)) I [] h (aM (faI l0) (-1) b m up nx w).2.2 (aM (faI l0) (-1) b m up nx w).2.1 vs (X.set L (lwR l0 pr V2 (aM (faI l0) (-1) b m up nx w).2.1 (aM (faI l0) (-1) b m up nx w).2.2 K1)) K1 V2 I1:=λV2 hv2 hs2=>(T1.alt (by simp) (List.getElem?_set_self T1.stb.ls.lt) (λi hi hn _=>List.getElem?_set_ne (Ne.symm hn)) hv2 (λi hi=> .inl (hs2 i hi))).1
   have va:=T1.va
   have vd:=T1.at.2
   cases va with
   |nil=>
    have hv0:vs=[]:=List.length_eq_zero_iff.1 (by simpa using p2)
    have hv1:vs.length=0:=by rw[hv0];rfl
    simp-implicitDefEqProofs[yL,hv1]
    exact⟨K1,.nils,I1,by have:=fin .nils (by rw[hv0];exact .nil) (λi hi=>hi);simpa only[lwR] using this⟩
   |sl vid rows _ h1 h2=>
    have hvl2:vs1.length<=rows.length:=by
     have:=congrArg List.length h2
     rw[List.length_take,List.length_map] at this
     omega
    have hne:vid≠L:=λe=>(vd vid (by simp[vi])).2 (by rw[e];simp)
    simp-implicitDefEqProofs[yL,h1,p2]
    refine⟨K1,.sl vid 3 0 0,I1,?_⟩
    have:=fin (.sl vid 3 0 vs.length) (.sl vid rows vs (by rw[List.getElem?_set_ne (Ne.symm hne)];exact h1) (by
     have e:=congrArg (List.take vs.length) h2
     rw[List.take_take,Nat.min_eq_left p2,←List.map_take,p1] at e
     exact e)) (λi hi=>by simpa[vi] using hi)
    rw[hv00] at this
    simpa only[lwR] using this
 ·rw[hVe] at yL0
  simp-implicitDefEqProofs[fE,yL0,hsl]
  refine aF (λa:SlS=>ay 32 [(5,.p (.int .i64 a.i)),(4,.p (.int .i64 vs.length)),(0,.ptr L 8 0 0),(1,.p (smL b))]) (λa=>a.X)
   (λa=>a.i<=b.length/\∃vs1 K1 V1 I1,RS l0 pr L (L::(vi V++I)) I [] h (aM (faI l0) (-1) (b.take a.i) m up nx w).2.2 (aM (faI l0) (-1) (b.take a.i) m up nx w).2.1 vs1 a.X K1 V1 I1/\vs1.take vs.length=vs/\vs.length<=vs1.length/\vs1.length<=vs.length+a.i/\rgV vs1=scF (-1) ((aM (faI l0) (-1) (b.take a.i) m up nx w).1::up)) (λa=>b.length-a.i) ⟨0,h⟩ ⟨Nat.zero_le _,vs,K,V,I,by rw[List.take_zero,aM];exact T,by rw[List.take_length],Nat.le_refl _,by simp,by rw[List.take_zero,aM];exact hrg⟩ ?_ ?_
  ·exact aw (Nat.le_refl _) (by simp[below,hsl,T.stb.ls.lt])
  rintro⟨i,X⟩ ⟨hi,vs1,K1,V1,I1,T1,p1,p2,p3,p4⟩
  simp only at hi T1 p3 p4
  have hXL:=T1.stb.ls.lt
  simp-implicitDefEqProofs[hsl]
  refine aJ (λhc=>?_) (λhc=>?_)
  ·simp at hc
   have hg:=List.getElem?_eq_getElem hc
   have hm:=List.getElem_mem hc
   have htk:=tx (fa:=faI l0) (d:= -1) hc m up nx w
   have hok1:=cV (faI l0) (-1) (b.take i) m up nx w B hok
   have hzt:aG (b.take i)+b[i].sz<=aG b:=by
    have h1:=List.take_append_drop (i+1) b
    have h2:aG b=aG (b.take (i+1))+aG (b.drop (i+1)):=by
     conv=>lhs;rw[←h1]
     rw[dh]
    rw[an hc,dh] at h2
    simp only[aG] at h2
    omega
   have htl:i<=aG (b.take i):=by
    have:=bn (b.take i)
    rw[List.length_take] at this
    omega
   have hst:=hs b[i] hm
   generalize b[i]=s at hg hm htk hzt hst
   have hsc:=s.cs_eq
   generalize aM (faI l0) (-1) (b.take i) m up nx w=cur at*
   obtain⟨mc,nc,wc⟩:=cur
   simp only at htk hok1 T1 p4
   obtain⟨okc,_,_,hnc⟩:=hok1
   have hcall:=hst wc X K1 V1 I1 _ vs1 nc mc up T1.start okc (by omega) (by omega) (by omega) p4
   rw[hsc] at hcall
   simp-implicitDefEqProofs[hg,hsc]
   refine hcall.mono ?_
   rintro r X2 ⟨rfl,vs2,K2,V2,I2,T2,q1,q2,q3,q4⟩
   obtain⟨T3,_⟩:=T1.lift T2
   simp-implicitDefEqProofs[aa]
   refine⟨⟨i+1,X2⟩,⟨by simp only;omega,vs2,⟨K2,V2,I2,by rw[htk];exact T3⟩,?_,by omega,by simp only;omega,by rw[htk];exact q4⟩,by simp only;omega,aw (Nat.le_trans T1.stb.fr.1 T2.stb.fr.1) ?_⟩
   ·rw[←q1,List.take_take,Nat.min_eq_left p2] at p1
    exact p1
   ·simp[below,hsl,show IntKind.i64.wrap ((i:Int)+1)=(i:Int)+1 from af (by omega) (by omega)]
    exact T3.stb.ls.lt
  ·simp at hc
   have hie:i=b.length:=by omega
   subst hie
   rw[List.take_length] at T1
   have yL:=T1.stb.ls.here
   simp only[lwR] at yL
   have fin:∀V2,VAt (X.set L (lwR l0 pr V2 (aM (faI l0) (-1) b m up nx w).2.1 (aM (faI l0) (-1) b m up nx w).2.2 K1)) V2 vs->(∀i∈vi V2,i∈vi V1)->RS l0 pr L (L::(vi V++I)) I [] h (aM (faI l0) (-1) b m up nx w).2.2 (aM (faI l0) (-1) b m up nx w).2.1 vs (X.set L (lwR l0 pr V2 (aM (faI l0) (-1) b m up nx w).2.1 (aM (faI l0) (-1) b m up nx w).2.2 K1)) K1 V2 I1:=λV2 hv2 hs2=>(T1.alt (by simp) (List.getElem?_set_self T1.stb.ls.lt) (λi hi hn _=>List.getElem?_set_ne (Ne.symm hn)) hv2 (λi hi=> .inl (hs2 i hi))).1
   have va:=T1.va
   have vd:=T1.at.2
   cases va with
   |nil=>
    have hv0:vs=[]:=List.length_eq_zero_iff.1 (by simpa using p2)
    have hv1:vs.length=0:=by rw[hv0];rfl
    simp-implicitDefEqProofs[yL,hv1]
    exact⟨K1,.nils,I1,by have:=fin .nils (by rw[hv0];exact .nil) (λi hi=>hi);simpa only[lwR] using this⟩
   |sl vid rows _ h1 h2=>
    have hvl2:vs1.length<=rows.length:=by
     have:=congrArg List.length h2
     rw[List.length_take,List.length_map] at this
     omega
    have hne:vid≠L:=λe=>(vd vid (by simp[vi])).2 (by rw[e];simp)
    simp-implicitDefEqProofs[yL,h1,p2]
    refine⟨K1,.sl vid 3 0 vs.length,I1,?_⟩
    have:=fin (.sl vid 3 0 vs.length) (.sl vid rows vs (by rw[List.getElem?_set_ne (Ne.symm hne)];exact h1) (by
     have e:=congrArg (List.take vs.length) h2
     rw[List.take_take,Nat.min_eq_left p2,←List.map_take,p1] at e
     exact e)) (λi hi=>by simpa[vi] using hi)
    simpa only[lwR] using this
theorem Kf(l0:List Fd)(hl0:l0.length<=1073741824)(pr:Int)(L:Nat):∀(d:Nat) (b:List Sm),(∀s∈b,aE d s=true)->Id G l0 pr L b:=by
 intro d
 induction d with
 |zero=>
  intro b hb
  refine zk G l0 pr L b λs hs=>?_
  have:=hb s hs
  cases this
 |succ d ih=>
  intro b hb
  refine zk G l0 pr L b λs hs=>?_
  have hf:=hb s hs
  exact LF G l0 hl0 pr L s (Kw hf) (Ey hf) (ih s.body (DU hf)) (ih s.els (Hf hf))
end
section
theorem ro:AK.whole fw=FK.ak fC:=rfl
variable (G:aH)
theorem CY{f:FuncId}{args:List AV}{nf:Bool}{fns:List Fd}{k:Nat}{w w':WS}{v:AV}(H:AC Tryz.prog G f args (HWk nf fns k w) λx h=>x= .ret v/\h=HWk nf fns k w')(rest:List AO)(ha:az 2 args):
 AC Tryz.prog G f args (wO 1 nf fns k w::roC nf w.vs::rest) λx h=>x= .ret v/\h=wO 1 nf fns k w'::roC nf w'.vs::rest:=by
 refine(AC.pre H rest ha (zz _ _ _ _) ?_).mono ?_
 ·rintro x h ⟨_,rfl⟩;rfl
 ·rintro x h ⟨h1,⟨rfl,rfl⟩,rfl⟩
  exact⟨rfl,rfl⟩
theorem rR{n id:Nat}(hn:id<n){nf nf':Bool}{fns:List Fd}{k:Nat}{w:WS}{vs:List LV}{l:List AO}(r:∀o∈l,okO n o):∀o∈wO id nf fns k w::roC nf' vs::l,okO n o:=aD (ur hn) (aD (fF _ _ _) r)
theorem yJ{ρ π:List Nat}{h r1:List AO}{i id:Nat}{nf:Bool}{fns:List Fd}{k:Nat}{w:WS}(hid:id<ρ.length)(e:h[i]?=some (wO (ρ.getD id 0) nf fns k w))(hr:HW ρ h π r1):HW ρ h (i::π) (wO id nf fns k w::r1):=by
 refine vA (es:=[wC id nf fns k w]) (λx hx=>?_) ?_ hr
 ·rw[List.mem_singleton.1 hx];exact zP hid
 ·rw[e,List.map_cons,List.map_nil,Cc];rfl
theorem Hq{α:Type}{l:List α}{i j:Nat}{a b:α}(hij:i≠j)(h:l[j]?=some b):(l.set i a).set j b=l.set i a:=by
 apply List.ext_getElem?
 intro n
 rw[List.getElem?_set]
 split
 ·rename_i e
  subst e
  rw[List.getElem?_set_ne hij,h]
  rw[if_pos (by rw[List.length_set];exact(List.getElem?_eq_some_iff.1 h).1)]
 ·rfl
theorem Cn(ρ:List Nat):∀l:List AV,az 0 l->TW ρ l l
 |[],_=>by simp
 |v::r,h=>by
  rw[BE]
  refine⟨.inr ⟨(aR (Nat.zero_le _) [v] ⟨h.1,trivial⟩).1,?_⟩,Cn ρ r h.2⟩
  have:=jC ρ [v] ⟨h.1,trivial⟩
  simpa[bU] using this
theorem Qw{h:List AO}{wid id:Nat}{nf:Bool}{fns:List Fd}{k:Nat}{w:WS}(e0:h[wid]?=some (wO id nf fns k w))(e1:h[id]?=some (roC nf w.vs)):HW [wid,id] h [wid,id] (HWk nf fns k w):=by
 refine vA (es:=[wC 1 nf fns k w]) (λx hx=>?_) ?_ ?_
 ·rw[List.mem_singleton.1 hx];exact zP (by simp)
 ·rw[e0,List.map_cons,List.map_nil,Cc];rfl
 ·exact uE e1 (fF _ _ _) dC
theorem NR{f:FuncId}{args:List AV}{nf:Bool}{fns:List Fd}{k:Nat}{w:WS}{v:AV}{c:Int}(H:AC Tryz.prog G f (.ptr 0 5 0 0::args) (HWk nf fns k w) λx h=>x= .ret v/\h=HWk nf fns k ⟨w.vs,w.count,c⟩)(ha:az 0 args)(hv:below 0 v)
 {h:List AO}{wid id:Nat}(hid:wid≠id)(e0:h[wid]?=some (wO id nf fns k w))(e1:h[id]?=some (roC nf w.vs)):
 AC Tryz.prog G f (.ptr wid 5 0 0::args) h λx h'=>x= .ret v/\h'=h.set wid (wO id nf fns k ⟨w.vs,w.count,c⟩):=by
 refine(H.frame [wid,id] (by simp[hid]) ?_ (Qw e0 e1)).mono ?_
 ·rw[BE];exact⟨.inr ⟨by simp[below],rfl⟩,Cn _ _ ha⟩
 ·rintro x h' ⟨x0,h0,⟨rfl,rfl⟩,_,rfl,rfl⟩
  refine⟨?_,?_⟩
  ·have:=jC ([wid,id]++List.range' h.length ((HWk nf fns k ⟨w.vs,w.count,c⟩).length-(HWk nf fns k w).length)) [v] ⟨hv,trivial⟩
   simp only[bU] at this
   simp only[LB]
   exact congrArg ARes.ret (List.cons.inj this).1
  ·simp only[HWk,List.length_cons,List.length_nil,Nat.sub_self,List.range'_zero,List.append_nil,List.take_succ_cons,List.take_zero,List.map_cons,List.map_nil,List.drop_succ_cons,List.drop_zero,Gp,Dy,mrg]
   exact Hq hid e1
theorem Ll{f:FuncId}{args:List AV}{nf:Bool}{fns:List Fd}{k:Nat}{w:WS}{v:AV}{Q:Bool->WS->Prop}(H:AC Tryz.prog G f (.ptr 0 5 0 0::args) (HWk nf fns k w) λx h=>∃nf' w',x= .ret v/\h=[wO 2 nf' fns k w',.dead,roC nf' w'.vs]/\Q nf' w')(ha:az 0 args)(hv:below 0 v)
 {h:List AO}{wid id:Nat}(hid:wid≠id)(e0:h[wid]?=some (wO id nf fns k w))(e1:h[id]?=some (roC nf w.vs)):
 AC Tryz.prog G f (.ptr wid 5 0 0::args) h λx h'=>∃nf' w',x= .ret v/\h'=(h.set wid (wO h.length nf' fns k w')).set id .dead++[roC nf' w'.vs]/\Q nf' w':=by
 refine(H.frame [wid,id] (by simp[hid]) ?_ (Qw e0 e1)).mono ?_
 ·rw[BE];exact⟨.inr ⟨by simp[below],rfl⟩,Cn _ _ ha⟩
 ·rintro x h' ⟨x0,h0,⟨nf',w',rfl,rfl,q⟩,_,rfl,rfl⟩
  refine⟨nf',w',?_,?_,q⟩
  ·have:=jC ([wid,id]++List.range' h.length ([wO 2 nf' fns k w',.dead,roC nf' w'.vs].length-(HWk nf fns k w).length)) [v] ⟨hv,trivial⟩
   simp only[bU] at this
   simp only[LB]
   exact congrArg ARes.ret (List.cons.inj this).1
  ·simp only[HWk,List.length_cons,List.length_nil,List.take_succ_cons,List.take_zero,List.map_cons,List.map_nil,List.drop_succ_cons,List.drop_zero,Gp,Dy,mrg]
   rfl
theorem Bw(fns:List Fd)(k:Nat)(vs:List LV):∀(a b:List Ex) (c:Int),dr fns k vs (a++b) c=dr fns k vs b (dr fns k vs a c)
 |[],b,c=>rfl
 |e::r,b,c=>by rw[List.cons_append,dr,dr,Bw fns k vs r]
theorem su(vs:List LV):∀l:List Ex,kb vs l=l.map (rnE vs)
 |[]=>rfl
 |e::r=>by rw[kb,su vs r];rfl
theorem zJ{fns:List Fd}{k:Nat}{vs:List LV}{l:List Ex}{c:Int}{i:Nat}(h:i<l.length):dr fns k vs (l.take (i+1)) c=ED fns k vs l[i] (dr fns k vs (l.take i) c):=by
 rw[an h,Bw];rfl
theorem BC{vs:List LV}{l:List Ex}{i:Nat}(h:i<l.length):kb vs (l.take (i+1))=kb vs (l.take i)++[rnE vs l[i]]:=by
 rw[su,su,an h,List.map_append];rfl
theorem sn(vs:List LV)(l:List Ex):(kb vs l).length=l.length:=by rw[su,List.length_map]
theorem Gs(l:List Ex):(exR l).length=l.length:=by simp[exR]
theorem Gh(a b:List Ex):exR (a++b)=exR a++exR b:=by simp[exR]
theorem DB{h:List AO}{id:Nat}{l:List Ex}(e:h[id]?=some (.row 4 (exR l))):View h (.sl id 4 0 l.length) (exL l):=by
 have:=fk (h:=h) (id:=id) (sz:=4) (n:=l.length) (ls:=l.map Ex.cs) (by rw[e,exR];simp) (by simp) (λx hx=>by obtain⟨b,_,rfl⟩:=List.mem_map.1 hx;exact b.cs_len)
 exact this
theorem LG{fns:List Fd}{s:List UInt8}{j:Nat}(h:cM fns s=some j):j<fns.length:=by
 rw[cM,List.findIdx?_eq_some_iff_getElem] at h;exact h.1
theorem MI{fns:List Fd}{k:Nat}(hf:fns.length<=1099511627776):∀(N:Nat) (e:Ex),e.sz<=N->N<=1099511627776->∀(nf:Bool) (w:WS),(nf=true->w.vs=[])->w.vs.length<=1099511627776->
 AC Tryz.prog G cu [.ptr 0 5 0 0,.agg (e.cs.map .p)] (HWk nf fns k w) λx h=>x= .ret (.agg ((rnE w.vs e).cs.map .p))/\h=HWk nf fns k ⟨w.vs,w.count,ED fns k w.vs e w.code⟩:=by
 intro N
 induction N with
 |zero=>intro e he;have:=e.sz_eq;omega
 |succ N ih=>
  intro e he hN nf w hn hl
  have hec:=e.cs_eq
  have hsz:=e.sz_eq
  have hkl:=bh e.kids
  have hre:(rnE w.vs e).cs=[.int .i64 e.op,.int .i64 e.n,.str (if e.op=2 then zV w.vs e.name else e.name),exL (kb w.vs e.kids)]:=by
   obtain⟨o,n,s,ks⟩:=e;rw[rnE,Ex.cs_eq];rfl
  have hce:ED fns k w.vs e w.code=dr fns k w.vs e.kids (pS fns k w.vs e.op e.name e.kids.length w.code):=by
   obtain⟨o,n,s,ks⟩:=e;rfl
  have main:AC Tryz.prog G cu [.ptr 0 5 0 0,.agg (e.cs.map .p)] (HWk nf fns k w) λx h=>∃E1 E2,x= .ret (.agg [.p (.int .i64 e.op),.p (.int .i64 e.n),.p (.str (if e.op=2 then zV w.vs e.name else e.name)),.sl 4 4 0 e.kids.length])/\
   h=[wO 1 nf fns k ⟨w.vs,w.count,ED fns k w.vs e w.code⟩,roC nf w.vs,E1,E2,.row 4 (exR (kb w.vs e.kids))]:=by
   refine AC.goK rJ ro ?_
   simp-implicitDefEqProofs[fw,fC,HWk,hec]
   refine po (ay 75 [(0,.ptr 0 5 0 0),(3,.ptr 2 4 0 0),(4,.ptr 3 4 0 0)]) [wO 1 nf fns k ⟨w.vs,w.count,if e.op=2 then vb w.vs e.name w.code else w.code⟩,roC nf w.vs,.row 4 [[.p (.int .i64 e.op),.p (.int .i64 e.n),.p (.str (if e.op=2 then zV w.vs e.name else e.name)),.p (exL e.kids)]],.row 4 [[.p (.int .i64 0),.p (.int .i64 0),.p (.str []),.nils]]] ?_ ?_
   ·by_cases o2:e.op=2
    ·simp-implicitDefEqProofs[o2]
     refine(CY G (Ju G nf fns k w hn hl e.name) _ (by simp[below])).mono ?_
     rintro r h ⟨rfl,rfl⟩
     simp-implicitDefEqProofs[aa]
     exact am (by simp) (rR (by simp) (by simp[okO,below])) (by simp[below])
    ·simp-implicitDefEqProofs[o2]
     exact am (by simp) (rR (by simp) (by simp[okO,below])) (by simp[below])
   refine po (ay 75 [(0,.ptr 0 5 0 0),(3,.ptr 2 4 0 0),(4,.ptr 3 4 0 0)]) [wO 1 nf fns k ⟨w.vs,w.count,pS fns k w.vs e.op e.name e.kids.length w.code⟩,roC nf w.vs,.row 4 [[.p (.int .i64 e.op),.p (.int .i64 e.n),.p (.str (if e.op=2 then zV w.vs e.name else e.name)),.p (exL e.kids)]],.row 4 [[.p (.int .i64 0),.p (.int .i64 0),.p (.str []),.nils]]] ?_ ?_
   ·by_cases o13:e.op=13
    ·have hhd:pS fns k w.vs e.op e.name e.kids.length w.code=rV fns k e.name e.kids.length w.code:=by simp[pS,o13]
     rw[hhd]
     simp-implicitDefEqProofs[o13,wO,wC]
     refine(FG G fns e.name hf).use ?_
     have fin:∀c:Int,Wk 2 (ay 75 [(0,.ptr 0 5 0 0),(3,.ptr 2 4 0 0),(4,.ptr 3 4 0 0)]) [wO 1 nf fns k ⟨w.vs,w.count,c⟩,roC nf w.vs,.row 4 [[.p (.int .i64 13),.p (.int .i64 e.n),.p (.str e.name),.p (exL e.kids)]],.row 4 [[.p (.int .i64 0),.p (.int .i64 0),.p (.str []),.nils]]] (ay 75 [(0,.ptr 0 5 0 0),(3,.ptr 2 4 0 0),(4,.ptr 3 4 0 0)]) [wO 1 nf fns k ⟨w.vs,w.count,c⟩,roC nf w.vs,.row 4 [[.p (.int .i64 13),.p (.int .i64 e.n),.p (.str e.name),.p (exL e.kids)]],.row 4 [[.p (.int .i64 0),.p (.int .i64 0),.p (.str []),.nils]]]:=λc=>
      am (by simp) (rR (by simp) (by simp[okO,below])) (by simp[below])
     cases hfa:cM fns e.name with
     |none=>
      simp-implicitDefEqProofs[ixI,rV,hfa]
      refine(CY G (oW G nf fns k w 4) _ (by simp[below])).mono ?_
      rintro r h ⟨rfl,rfl⟩
      simp-implicitDefEqProofs[aa]
      exact am (h:=[wO 1 nf fns k ⟨w.vs,w.count,fl w.code 4⟩,roC nf w.vs,.row 4 [[.p (.int .i64 13),.p (.int .i64 e.n),.p (.str e.name),.p (exL e.kids)]],.row 4 [[.p (.int .i64 0),.p (.int .i64 0),.p (.str []),.nils]]]) (by simp) (rR (by simp) (by simp[okO,below])) (by simp[below])
     |some j=>
      have hj:=LG hfa
      have hg:=List.getElem?_eq_getElem hj
      have hjn:¬(j:Int)<0:=by omega
      by_cases hkj:k<=j
      ·have hkj':(k:Int)<=(j:Int):=by omega
       simp-implicitDefEqProofs[ixI,rV,hfa,hkj,hkj',hjn]
       refine(CY G (oW G nf fns k w 4) _ (by simp[below])).mono ?_
       rintro r h ⟨rfl,rfl⟩
       simp-implicitDefEqProofs[aa]
       exact am (h:=[wO 1 nf fns k ⟨w.vs,w.count,fl w.code 4⟩,roC nf w.vs,.row 4 [[.p (.int .i64 13),.p (.int .i64 e.n),.p (.str e.name),.p (exL e.kids)]],.row 4 [[.p (.int .i64 0),.p (.int .i64 0),.p (.str []),.nils]]]) (by simp) (rR (by simp) (by simp[okO,below])) (by simp[below])
      ·have hkj':¬(k:Int)<=(j:Int):=by omega
       have hfl:fdL fns= .lst 3 (fns.map Fd.cs):=rfl
       have hcs:fns[j].cs=[.str fns[j].name,aP fns[j].params,smL fns[j].body]:=rfl
       have hst:aP fns[j].params= .lst 1 (fns[j].params.map λw=>[.str w]):=rfl
       have hxl:∀l,exL l= .lst 4 (l.map Ex.cs):=λ_=>rfl
       have hpn:It fns j=fns[j].params.length:=by simp[It,hg]
       by_cases hp:fns[j].params.length=e.kids.length
       ·have hcc:rV fns k e.name e.kids.length w.code=w.code:=by simp[rV,hfa,hkj,hpn,hp]
        rw[hcc]
        simp-implicitDefEqProofs[ixI,hkj',hjn,hfl,hg,hcs,hst,hxl,hp]
        exact am (h:=[wO 1 nf fns k w,roC nf w.vs,.row 4 [[.p (.int .i64 13),.p (.int .i64 e.n),.p (.str e.name),.p (exL e.kids)]],.row 4 [[.p (.int .i64 0),.p (.int .i64 0),.p (.str []),.nils]]]) (by simp) (rR (by simp) (by simp[okO,below])) (by simp[below])
       ·have hcc:rV fns k e.name e.kids.length w.code=fl w.code 5:=by simp[rV,hfa,hkj,hpn,hp]
        have hp':¬(fns[j].params.length:Int)=(e.kids.length:Int):=by omega
        rw[hcc]
        simp-implicitDefEqProofs[ixI,hkj',hjn,hfl,hg,hcs,hst,hxl,hp']
        refine(CY G (oW G nf fns k w 5) _ (by simp[below])).mono ?_
        rintro r h ⟨rfl,rfl⟩
        simp-implicitDefEqProofs[aa]
        exact am (h:=[wO 1 nf fns k ⟨w.vs,w.count,fl w.code 5⟩,roC nf w.vs,.row 4 [[.p (.int .i64 13),.p (.int .i64 e.n),.p (.str e.name),.p (exL e.kids)]],.row 4 [[.p (.int .i64 0),.p (.int .i64 0),.p (.str []),.nils]]]) (by simp) (rR (by simp) (by simp[okO,below])) (by simp[below])
    ·have hhd:pS fns k w.vs e.op e.name e.kids.length w.code=if e.op=2 then vb w.vs e.name w.code else w.code:=by simp[pS,o13]
     rw[hhd]
     simp-implicitDefEqProofs[o13]
     exact am (by simp) (rR (by simp) (by simp[okO,below])) (by simp[below])
   rw[hce]
   generalize pS fns k w.vs e.op e.name e.kids.length w.code=c2
   generalize (if e.op=2 then zV w.vs e.name else e.name)=s1
   have hxl:exL e.kids= .lst 4 (e.kids.map Ex.cs):=rfl
   simp-implicitDefEqProofs[]
   refine aF (λi:Nat=>ay 75 [(0,.ptr 0 5 0 0),(3,.ptr 2 4 0 0),(4,.ptr 3 4 0 0),(6,.sl 4 4 0 i),(7,.p (.int .i64 i))])
    (λi=>[wO 1 nf fns k ⟨w.vs,w.count,dr fns k w.vs (e.kids.take i) c2⟩,roC nf w.vs,.row 4 [[.p (.int .i64 e.op),.p (.int .i64 e.n),.p (.str s1),.p (exL e.kids)]],.row 4 [[.p (.int .i64 0),.p (.int .i64 0),.p (.str []),.nils]],.row 4 (exR (kb w.vs (e.kids.take i)))])
    (λi=>i<=e.kids.length) (λi=>e.kids.length-i) 0 (by simp) ?_ ?_
   ·exact am (by simp) (rR (by simp) (by simp[okO,below])) (by simp[below])
   ·intro i hi
    have hrl:(exR (kb w.vs (e.kids.take i))).length=i:=by rw[Gs,sn];simp;omega
    simp-implicitDefEqProofs[hxl]
    refine aJ (λh=>?_) (λh=>?_)
    ·simp at h
     have hg:=List.getElem?_eq_getElem h
     have hks:=bw (List.getElem_mem h)
     have hkc:=(rnE w.vs e.kids[i]).cs_eq
     simp-implicitDefEqProofs[hg]
     refine(CY G (ih e.kids[i] (by omega) (by omega) nf ⟨w.vs,w.count,dr fns k w.vs (e.kids.take i) c2⟩ hn hl) _ (by simp[below])).mono ?_
     rintro r h ⟨rfl,rfl⟩
     rw[show(rnE (WS.mk w.vs w.count (dr fns k w.vs (e.kids.take i) c2)).vs e.kids[i])=rnE w.vs e.kids[i] from rfl]
     simp-implicitDefEqProofs[aa,hkc,hrl]
     refine⟨by omega,?_⟩
     refine⟨i+1,by omega,by omega,?_⟩
     have htk:List.take i (exR (kb w.vs (e.kids.take i)))=exR (kb w.vs (e.kids.take i)):=List.take_of_length_le (by omega)
     rw[zJ h,BC h,Gh,htk]
     refine oV [0,1,2,3,6] (by simp) (by decide) (by decide) (yJ (by simp) rfl (uE rfl (fF _ _ _) (bS rfl (by simp[below]) (bS rfl (by simp[below]) (bS ?_ ?_ dC))))) (by simp[below,ren,w1 (i:=i) (by omega)])
     ·have:exR [rnE w.vs e.kids[i]]=[[.p (.int .i64 (rnE w.vs e.kids[i]).op),.p (.int .i64 (rnE w.vs e.kids[i]).n),.p (.str (rnE w.vs e.kids[i]).name),.p (exL (rnE w.vs e.kids[i]).kids)]]:=by rw[exR,List.map_singleton,hkc];rfl
      rw[this];rfl
     ·intro x hx
      rcases List.mem_append.1 hx with h|h
      ·exact sP _ x h
      ·exact sP _ x h
    ·simp at h
     have hie:i=e.kids.length:=by omega
     subst hie
     simp-implicitDefEqProofs[]
  refine main.frz 2 (by simp[HWk]) (λt v h ⟨_,_,e,_⟩=>by cases e) ?_
  rintro v h ⟨E1,E2,e,rfl⟩
  cases e
  refine⟨_,HWk nf fns k ⟨w.vs,w.count,ED fns k w.vs e w.code⟩,by simp,rfl,.agg ?_ .nil,.same (ur (by omega)) (.same (fF _ _ _) (.nil _)),rfl,rfl⟩
  rw[hre]
  have hrl:=sn w.vs e.kids
  rw[←hrl]
  exact .keep (by simp) (.keep (by simp) (.keep (by simp) (.one (DB rfl) .nil)))
end
section
theorem pC:AK.whole eE=FK.ak eV:=rfl
theorem Df(fns:List Fd)(k b:Nat):∀(x y:List Sm) (w:WS),cH fns k b (x++y) w=cH fns k b y (cH fns k b x w)
 |[],y,w=>rfl
 |s::r,y,w=>by rw[List.cons_append,cH,cH,Df fns k b r]
theorem DX(fns:List Fd)(k b:Nat):∀(x y:List Sm) (w:WS),gv fns k b (x++y) w=gv fns k b x w++gv fns k b y (cH fns k b x w)
 |[],y,w=>rfl
 |s::r,y,w=>by rw[List.cons_append,gv,gv,DX fns k b r];rfl
theorem HZ{fns:List Fd}{k b:Nat}{l:List Sm}{w:WS}{i:Nat}(h:i<l.length):cH fns k b (l.take (i+1)) w=stW fns k b l[i] (cH fns k b (l.take i) w):=by
 rw[an h,Df];rfl
theorem Ia{fns:List Fd}{k b:Nat}{l:List Sm}{w:WS}{i:Nat}(h:i<l.length):gv fns k b (l.take (i+1)) w=gv fns k b (l.take i) w++[rnS fns k b l[i] (cH fns k b (l.take i) w)]:=by
 rw[an h,DX];rfl
theorem vT(fns:List Fd)(k b:Nat):∀(l:List Sm) (w:WS),(gv fns k b l w).length=l.length
 |[],w=>rfl
 |s::r,w=>by rw[gv,List.length_cons,vT fns k b r,List.length_cons]
theorem MZ{l:List Sm}{i:Nat}(h:i<l.length):aG (l.take i)+l[i].sz<=aG l:=by
 have e:l=l.take i++l[i]::l.drop (i+1):=by rw[←List.drop_eq_getElem_cons h,List.take_append_drop]
 have h2:aG l=aG (l.take i)+(l[i].sz+aG (l.drop (i+1))):=by
  conv=>lhs;rw[e]
  rw[dh];rfl
 omega
def rv(fns:List Fd)(k b:Nat)(l:List Sm)(w:WS):WS:=if 0<b then(cH fns k b l w).back w.vs else cH fns k b l w
theorem FM(fns:List Fd)(k b:Nat)(l:List Sm)(w:WS):(rv fns k b l w).count=w.count+aO l:=by
 unfold rv
 split
 ·exact gP fns k l b w
 ·exact gP fns k l b w
theorem Lm{e vs:List LV}:(lvR (e++vs)).take vs.length=lvR vs:=by
 have h:lvR (e++vs)=lvR vs++lvR e:=by simp[lvR]
 rw[h,List.take_append_of_le_length (by rw[vt];exact Nat.le_refl _),List.take_of_length_le (by rw[vt];exact Nat.le_refl _)]
theorem Br(l:List Sm):aO l<=aG l:=Nat.le_trans (fV l) (ga l)
theorem FN(nf:Bool)(id n:Nat):(vaC nf id n).isCell=true:=by cases nf<;>rfl
theorem Hv(nf:Bool)(id n:Nat):(vaC nf id n).cells=[vaC nf id n]:=by cases nf<;>rfl
attribute [simp ↓] FN Hv
variable (G:aH)
def StP(fns:List Fd)(k b:Nat)(l:List Sm)(w:WS)(x:ARes)(h:List AO):Prop:=∃nf' w',x= .ret (.p (smL (gv fns k b l w)))/\h=[wO 2 nf' fns k w',.dead,roC nf' w'.vs]/\(nf'=true->w'.vs=[])/\w'=rv fns k b l w
structure StS where (i:Nat) (nf:Bool)
theorem LC{fns:List Fd}{k:Nat}(hf:fns.length<=1099511627776):∀(N:Nat) (l:List Sm),aG l<N->∀(b:Nat) (nf:Bool) (w:WS),(nf=true->w.vs=[])->w.vs.length<=w.count->w.count+aG l<=1099511627776->b+aG l<=1099511627776->
 AC Tryz.prog G bT [.ptr 0 5 0 0,.p (smL l),.p (.int .i64 b)] (HWk nf fns k w) (StP fns k b l w):=by
 intro N
 induction N with
 |zero=>
  intro l hl b nf w hn hv hc hb
  omega
 |succ N ih=>
  intro l hl b nf w hn hv hc hb
  have hll:=bn l
  refine AC.goK pu pC ?_
  have hsl:∀l,smL l= .lst 5 (l.map Sm.cs):=λ_=>rfl
  have hlen0:ER (vaC nf 1 w.vs.length)=some (.p (.int .i64 w.vs.length)):=by
   cases nf
   ·rfl
   ·simp[vaC,hn rfl]
  simp-implicitDefEqProofs[eE,eV,HWk,wO,wC,hlen0]
  refine aF (λs:StS=>ay 96 [(0,.ptr 0 5 0 0),(1,.p (smL l)),(2,.p (.int .i64 b)),(7,.sl 2 5 0 s.i),(8,.p (.int .i64 w.vs.length)),(9,.p (.int .i64 s.i))])
   (λs=>[wO 3 s.nf fns k (cH fns k b (l.take s.i) w),.dead,.row 5 (smR (gv fns k b (l.take s.i) w)),roC s.nf (cH fns k b (l.take s.i) w).vs])
   (λs=>s.i<=l.length/\(s.nf=true->(cH fns k b (l.take s.i) w).vs=[])) (λs=>l.length-s.i) ⟨0,nf⟩ ⟨by simp,hn⟩ ?_ ?_
  ·refine Gt [0,1,2,1] (by simp) (by decide) ?_ (yJ (by simp) rfl (iC (by simp) (bS rfl (by simp[smR,gv]) (uE rfl (fF _ _ _) dC)))) (by simp[below,ren])
   cases nf<;>simp[jq,roC,wO,cH]
  ·rintro⟨i,nf⟩ ⟨hi,hn⟩
   simp only at hi hn
   simp-implicitDefEqProofs[hsl]
   refine aJ (λh=>?_) (λh=>?_)
   ·simp at h
    have hg:=List.getElem?_eq_getElem h
    have hat:=MZ h
    have hse:=l[i].cs_eq
    have hsz:=l[i].sz_eq
    have hle:=Hd fns k (l:=l.take i) (b:=b) hv
    have hcn:=gP fns k (l.take i) b w
    have hlz:=Br (l.take i)
    have eW:=HZ (fns:=fns) (k:=k) (b:=b) (w:=w) h
    have eR:=Ia (fns:=fns) (k:=k) (b:=b) (w:=w) h
    have hol:=vT fns k b (l.take i) w
    rw[List.length_take,Nat.min_eq_left hi] at hol
    generalize l[i]=s at hg hat hse hsz eW eR
    generalize cH fns k b (l.take i) w=wi at hn hle hcn eW eR⊢
    generalize gv fns k b (l.take i) w=out at hol eR⊢
    obtain⟨o,nme,a,bd,el⟩:=s
    simp only[Sm.op,Sm.name,Sm.args,Sm.body,Sm.els] at hse hsz
    simp-implicitDefEqProofs[hg,hse]
    have hxl:∀l,exL l= .lst 4 (l.map Ex.cs):=λ_=>rfl
    have hal:=bh a
    have hlE:=Br bd
    have hwl:wi.vs.length<=1099511627776:=by omega
    have hopR:∀(x y z u v:AV),az 0 [x,y,z,u,v]->okO 5 (AO.row 5 [[x,y,z,u,v]]):=λx y z u v hh=>gQ (λe he=>by rw[List.mem_singleton.1 he];exact hh)
    refine aF (λj:Nat=>ay 96 [(0,.ptr 0 5 0 0),(1,.p (smL l)),(2,.p (.int .i64 b)),(7,.sl 2 5 0 i),(8,.p (.int .i64 w.vs.length)),(9,.p (.int .i64 i)),(10,.ptr 4 5 0 0),(11,.sl 5 4 0 j),(12,.p (.int .i64 j))])
     (λj=>[wO 3 nf fns k ⟨wi.vs,wi.count,dr fns k wi.vs (a.take j) wi.code⟩,.dead,.row 5 (smR out),roC nf wi.vs,.row 5 [[.p (.int .i64 o),.p (.str nme),.p (exL a),.p (smL bd),.p (smL el)]],.row 4 (exR (kb wi.vs (a.take j)))])
     (λj=>j<=a.length) (λj=>a.length-j) 0 (by simp) ?_ ?_
    ·refine am (h:=[wO 3 nf fns k wi,.dead,.row 5 (smR out),roC nf wi.vs,.row 5 [[.p (.int .i64 o),.p (.str nme),.p (exL a),.p (smL bd),.p (smL el)]],.row 4 []]) (by simp) (aD (ur (by simp)) (aD trivial (aD (gQ (jO out)) (aD (fF _ _ _) (by simp[okO,below]))))) (by simp[below,hsl])
    intro j hj
    have hrl:(exR (kb wi.vs (a.take j))).length=j:=by rw[Gs,sn];simp;omega
    simp-implicitDefEqProofs[hxl]
    refine aJ (λhc=>?_) (λhc=>?_)
    ·simp at hc
     have hga:=List.getElem?_eq_getElem hc
     have hks:=bw (List.getElem_mem hc)
     have hkc:=(rnE wi.vs a[j]).cs_eq
     simp-implicitDefEqProofs[hga]
     refine(NR G (id:=3) (MI G hf (a[j].sz) a[j] (Nat.le_refl _) (by omega) nf ⟨wi.vs,wi.count,dr fns k wi.vs (a.take j) wi.code⟩ hn hwl) (by simp) (by simp[below]) (by decide) rfl rfl).mono ?_
     rintro r h' ⟨rfl,rfl⟩
     rw[show(rnE (WS.mk wi.vs wi.count (dr fns k wi.vs (a.take j) wi.code)).vs a[j])=rnE wi.vs a[j] from rfl]
     simp-implicitDefEqProofs[aa,hkc,hrl]
     refine⟨by omega,j+1,by omega,by omega,?_⟩
     have htk:List.take j (exR (kb wi.vs (a.take j)))=exR (kb wi.vs (a.take j)):=List.take_of_length_le (by omega)
     rw[zJ hc,BC hc,Gh,htk]
     refine oV [0,1,2,3,4,7] (by simp) (by decide) (by decide) (yJ (by simp) rfl (iC (by simp) (bS rfl (jO out) (uE rfl (fF _ _ _) (bS rfl (by simp[below]) (bS ?_ ?_ dC)))))) (by simp[below,ren,hsl,w1 (i:=j) (by omega)])
     ·have:exR [rnE wi.vs a[j]]=[[.p (.int .i64 (rnE wi.vs a[j]).op),.p (.int .i64 (rnE wi.vs a[j]).n),.p (.str (rnE wi.vs a[j]).name),.p (exL (rnE wi.vs a[j]).kids)]]:=by rw[exR,List.map_singleton,hkc];rfl
      rw[this];rfl
     ·intro x hx
      rcases List.mem_append.1 hx with h|h
      ·exact sP _ x h
      ·exact sP _ x h
    simp at hc
    have hje:j=a.length:=by omega
    subst hje
    rw[List.take_length] at hrl⊢
    have hal2:=sn wi.vs a
    simp-implicitDefEqProofs[]
    generalize hw1:WS.mk wi.vs wi.count (dr fns k wi.vs a wi.code)=w1
    have e1v:w1.vs=wi.vs:=by rw[←hw1]
    have e1c:w1.count=wi.count:=by rw[←hw1]
    have e1l:w1.vs.length=wi.vs.length:=by rw[e1v]
    rw[←e1v]
    refine po (ay 96 [(0,.ptr 0 5 0 0),(1,.p (smL l)),(2,.p (.int .i64 b)),(7,.sl 2 5 0 i),(8,.p (.int .i64 w.vs.length)),(9,.p (.int .i64 i)),(10,.ptr 4 5 0 0)])
     [wO 3 nf fns k w1,.dead,.row 5 (smR out),roC nf w1.vs,.row 5 [[.p (.int .i64 o),.p (.str nme),.p (exL (kb w1.vs a)),.p (smL bd),.p (smL el)]]] ?_ ?_
    ·simp-implicitDefEqProofs[]
     refine GU 5 (by omega) (by simp) rfl (.same (ur (by omega)) (.dead (.same (gQ (jO out)) (.same (fF _ _ _) (.one (.keep (by simp[below]) (.keep (by simp[below]) (.one ?_ (.keep (by simp[below]) (.keep (by simp[below]) .nil))))) (.nil _)))))) ?_
     ·rw[←e1v] at hal2
      rw[←hal2]
      exact DB rfl
     ·refine⟨.keep (by simp[below]) .nil,.keep (by simp[below]) .nil,.keep (by simp[below]) .nil,.keep (by simp[below]) .nil,.keep (by simp[below]) .nil,.keep (by simp[below]) .nil,.keep (by simp[below]) .nil,trivial⟩
    have TT:∀(r1:List (Nat × AV)),Aw.look r1 0= .ptr 0 5 0 0->Aw.look r1 1= .p (smL l)->Aw.look r1 2= .p (.int .i64 b)->Aw.look r1 7= .sl 2 5 0 i->Aw.look r1 8= .p (.int .i64 w.vs.length)->Aw.look r1 9= .p (.int .i64 i)->Aw.look r1 10= .ptr 4 5 0 0->∀ρ:List Nat,ρ.length=5->ρ.getD 0 0=0->ρ.getD 2 0=2->ρ.getD 4 0=4->
     TWA ρ r1 [(0,.ptr 0 5 0 0),(1,.p (smL l)),(2,.p (.int .i64 b)),(7,.sl 2 5 0 i),(8,.p (.int .i64 w.vs.length)),(9,.p (.int .i64 i)),(10,.ptr 4 5 0 0)]:=by
     intro r1 a0 a1 a2 a7 a8 a9 a10 ρ hr r0 r2 r4
     simp[below,ren,hr,a0,a1,a2,a7,a8,a9,a10]
     rw[List.getD_eq_getElem?_getD,List.getElem?_eq_getElem (by omega)] at r0 r2 r4
     exact⟨r0,r2,r4⟩
    have hn1:nf=true->w1.vs=[]:=λh=>by rw[e1v];exact hn h
    have okB:∀(nf:Bool) (w:WS) (r:AO),okO 0 r->∀x∈[wO 3 nf fns k w,.dead,.row 5 (smR out),roC nf w.vs,r],okO 5 x:=λnf w r hr=>
     aD (ur (by omega)) (aD trivial (aD (gQ (jO out)) (aD (fF _ _ _) (aD (gQ hr) jt))))
    refine po (ay 96 [(0,.ptr 0 5 0 0),(1,.p (smL l)),(2,.p (.int .i64 b)),(7,.sl 2 5 0 i),(8,.p (.int .i64 w.vs.length)),(9,.p (.int .i64 i)),(10,.ptr 4 5 0 0)])
     [wO 3 (if o=1 then false else nf) fns k (if o=1 then lV w1 nme b else w1),.dead,.row 5 (smR out),roC (if o=1 then false else nf) (if o=1 then lV w1 nme b else w1).vs,.row 5 [[.p (.int .i64 o),.p (.str (if o=1 then vnm w1.count else nme)),.p (exL (kb w1.vs a)),.p (smL bd),.p (smL el)]]] ?_ ?_
    ·by_cases o1:o=1
     ·simp-implicitDefEqProofs[o1]
      refine(Ll G (id:=3) (Q:=λnf' w'=>nf'=false/\w'=lV w1 nme b) ((Ke G nf fns k w1 hn1 (by omega) (by omega) nme b).mono (by rintro x h ⟨rfl,rfl⟩;exact⟨false,_,rfl,rfl,rfl,rfl⟩)) (by simp) (by simp[below]) (by decide) rfl rfl).mono ?_
      rintro r h' ⟨nf',w',rfl,rfl,rfl,rfl⟩
      simp-implicitDefEqProofs[aa]
      refine oV [0,1,2,5,4] (by simp) (by decide) (by decide) (yJ (by simp) rfl (iC (by simp) (bS rfl (jO out) (uE rfl (fF _ _ _) (bS rfl (by simp[below]) dC))))) (TT _ (by simp) (by simp) (by simp) (by simp) (by simp) (by simp) (by simp) _ rfl rfl rfl rfl)
     ·simp-implicitDefEqProofs[o1]
      refine am (by simp) (okB nf w1 _ (by simp[okO,below])) (by simp[below])
    generalize hw2:(if o=1 then lV w1 nme b else w1)=w2
    generalize hnf2:(if o=1 then false else nf)=nf2
    generalize hnm2:(if o=1 then vnm w1.count else nme)=nm2
    have hn2:nf2=true->w2.vs=[]:=by
     intro h
     by_cases o1:o=1
     ·rw[if_pos o1] at hnf2;rw[←hnf2] at h;cases h
     ·rw[if_neg o1] at hnf2 hw2;rw[←hw2];exact hn1 (by rw[hnf2];exact h)
    have h2c:w2.count=w1.count+if o=1 then 1 else 0:=by rw[←hw2];split<;>rfl
    have h2v:w2.vs.length<=w2.count:=by
     rw[←hw2];split
     ·simp[lV];omega
     ·omega
    have h2b:w2.count<=wi.count+1:=by rw[h2c,e1c];split<;>omega
    refine po (ay 96 [(0,.ptr 0 5 0 0),(1,.p (smL l)),(2,.p (.int .i64 b)),(7,.sl 2 5 0 i),(8,.p (.int .i64 w.vs.length)),(9,.p (.int .i64 i)),(10,.ptr 4 5 0 0)])
     [wO 3 nf2 fns k (opW o nme b w1),.dead,.row 5 (smR out),roC nf2 (opW o nme b w1).vs,.row 5 [[.p (.int .i64 o),.p (.str (opN o nme w1)),.p (exL (kb w1.vs a)),.p (smL bd),.p (smL el)]]] ?_ ?_
    ·by_cases o2:o=2
     ·have o1:¬o=1:=by omega
      rw[if_neg o1] at hw2 hnm2
      subst hw2;subst hnm2
      have eo:opW o nme b w1=⟨w1.vs,w1.count,vb w1.vs nme w1.code⟩:=by rw[opW,if_neg o1,if_pos o2]
      have en:opN o nme w1=zV w1.vs nme:=by rw[opN,if_neg o1,if_pos o2]
      rw[eo,en]
      simp-implicitDefEqProofs[o2]
      refine(NR G (id:=3) (Ju G nf2 fns k w1 hn2 (by omega) nme) (by simp) (by simp[below]) (by decide) rfl rfl).mono ?_
      rintro r h' ⟨rfl,rfl⟩
      simp-implicitDefEqProofs[aa]
      refine am (h:=[wO 3 nf2 fns k ⟨w1.vs,w1.count,vb w1.vs nme w1.code⟩,.dead,.row 5 (smR out),roC nf2 w1.vs,_]) (by simp) (okB nf2 ⟨w1.vs,w1.count,vb w1.vs nme w1.code⟩ _ (by simp[okO,below])) (by simp[below])
     ·have eo:opW o nme b w1=w2:=by rw[opW,if_neg o2,←hw2]
      have en:opN o nme w1=nm2:=by rw[opN,if_neg o2,←hnm2]
      rw[eo,en]
      simp-implicitDefEqProofs[o2]
      refine am (by simp) (okB nf2 w2 _ (by simp[okO,below])) (by simp[below])
    have eov:(opW o nme b w1).vs=w2.vs:=by
     rw[opW,←hw2];split
     ·rfl
     ·split<;>rfl
    have eoc:(opW o nme b w1).count=w2.count:=by rw[tT,h2c]
    have hwb:IntKind.i64.wrap ((b:Int)+1)=((b+1:Nat):Int):=by rw[af (by omega) (by omega)];omega
    have hstw:stW fns k b (.mk o nme a bd el) wi=rv fns k (b+1) el (rv fns k (b+1) bd (opW o nme b w1)):=by
     rw[stW]
     simp only[hw1,rv,Nat.succ_pos,if_true]
     rfl
    have hrns:(rnS fns k b (.mk o nme a bd el) wi).cs=[.int .i64 o,.str (opN o nme w1),exL (kb w1.vs a),smL (gv fns k (b+1) bd (opW o nme b w1)),smL (gv fns k (b+1) el (rv fns k (b+1) bd (opW o nme b w1)))]:=by
     rw[rnS,Sm.cs_eq]
     simp only[hw1,rv,Nat.succ_pos,if_true,Sm.op,Sm.name,Sm.args,Sm.body,Sm.els,e1v]
     have:opN o nme wi=opN o nme w1:=by simp only[opN,e1v,e1c]
     rw[this]
    rw[hstw] at eW
    clear hstw
    generalize opW o nme b w1=w3 at eov eoc hrns eW⊢
    have hn3:nf2=true->w3.vs=[]:=λh=>by rw[eov];exact hn2 h
    have h3v:w3.vs.length<=w3.count:=by rw[eov,eoc];exact h2v
    simp-implicitDefEqProofs[hwb]
    refine(Ll G (id:=3) (ih bd (by omega) (b+1) nf2 w3 hn3 h3v (by omega) (by omega)) (by simp) (by simp[below]) (by decide) rfl rfl).mono ?_
    rintro r h' ⟨nf4,w4,rfl,rfl,hn4,hw4⟩
    rw[←hw4] at hrns eW
    have h4c:w4.count=w3.count+aO bd:=by rw[hw4];exact FM _ _ _ _ _
    have h4v:w4.vs.length<=w4.count:=by
     have:w4.vs=w3.vs:=by rw[hw4];simp[rv,WS.back]
     rw[this,h4c];omega
    simp-implicitDefEqProofs[aa,hwb]
    refine(Ll G (id:=5) (ih el (by omega) (b+1) nf4 w4 hn4 h4v (by omega) (by omega)) (by simp) (by simp[below]) (by decide) rfl rfl).mono ?_
    rintro r h' ⟨nf5,w5,rfl,rfl,hn5,hw5⟩
    rw[←hw5] at eW
    have hsl2:(smR out).length=i:=by rw[Ns];exact hol
    simp-implicitDefEqProofs[aa,hsl2]
    refine⟨⟨by omega,by omega⟩,⟨i+1,nf5⟩,⟨by simp only;omega,λh=>by simp only at h⊢;rw[eW];exact hn5 h⟩,by simp only;omega,?_⟩
    simp only
    rw[eW,eR,MF]
    have htk:List.take i (smR out)=smR out:=List.take_of_length_le (by omega)
    rw[htk]
    have hsm1:smR [rnS fns k b (.mk o nme a bd el) wi]=[[.p (.int .i64 o),.p (.str (opN o nme w1)),.p (exL (kb w1.vs a)),.p (smL (gv fns k (b+1) bd w3)),.p (smL (gv fns k (b+1) el w4))]]:=by rw[smR,List.map_singleton,hrns];rfl
    rw[hsm1]
    refine oV [0,1,8,6] (by simp) (by decide) (by decide) (yJ (by simp) rfl (iC (by simp) (bS rfl (λx hx=>?_) (uE rfl (fF _ _ _) dC)))) (by simp[below,ren,hsl,show IntKind.i64.wrap ((i:Int)+1)=((i:Int)+1) from af (by omega) (by omega)])
    rcases List.mem_append.1 hx with h|h
    ·exact jO out x h
    ·rw[List.mem_singleton.1 h];simp
   ·simp at h
    have hie:i=l.length:=by omega
    subst hie
    rw[List.take_length] at hn⊢
    obtain⟨ext,hext⟩:=Em fns k l b w
    have hlen:=vT fns k b l w
    refine po (ay 96 [(7,.p (smL (gv fns k b l w)))]) [wO 2 nf fns k (rv fns k b l w),.dead,roC nf (rv fns k b l w).vs] ?_ ?_
    ·have fin:∀(r1:List (Nat × AV)) (w':WS),w'.vs=w.vs\/w'.vs=(cH fns k b l w).vs->(Aw.look r1 7= .sl 2 5 0 l.length)->
      Wk 2 (ay 96 r1) [wO 3 nf fns k w',.dead,.row 5 (smR (gv fns k b l w)),roC nf (cH fns k b l w).vs] (ay 96 [(7,.p (smL (gv fns k b l w)))]) [wO 2 nf fns k w',.dead,roC nf w'.vs]:=by
      intro r1 w' hv' hr
      refine Wk.trans (Mk (h1:=[wO 3 nf fns k w',.dead,.row 5 (smR (gv fns k b l w)),roC nf w'.vs]) ?_) (Wk.trans (oV (l1:=[(7,.sl 3 5 0 l.length)]) (h1:=[wO 2 nf fns k w',.dead,roC nf w'.vs,.row 5 (smR (gv fns k b l w))]) [0,1,3,2] (by simp) (by decide) (by decide) (yJ (by simp) rfl (iC (by simp) (uE rfl (fF _ _ _) (bS rfl (jO _) dC)))) (by simp[below,ren,hr]))
       (GU 3 (by omega) (by simp) rfl (.same (ur (by omega)) (.dead (.same (fF _ _ _) (.nil _)))) ?_))
      ·refine⟨.inl rfl,.inl rfl,.inl rfl,?_,trivial⟩
       rcases hv' with e|e
       ·cases nf with
        |true=>exact .inl rfl
        |false=>
         refine .inr ⟨3,lvR (cH fns k b l w).vs,w.vs.length,rfl,?_⟩
         rw[hext,Lm,e];rfl
       ·rw[e];exact .inl rfl
      ·rw[←hlen]
       exact⟨.one (IR rfl) .nil,trivial⟩
     by_cases hb0:0<b
     ·have hwe:rv fns k b l w=(cH fns k b l w).back w.vs:=if_pos hb0
      rw[hwe]
      have hll2:(cH fns k b l w).vs.length=ext.length+w.vs.length:=by rw[hext,List.length_append]
      cases nf with
      |true=>
       have h0:=hn rfl
       rw[h0] at hext
       have h00:w.vs=[]:=(List.append_eq_nil_iff.1 hext.symm).2
       simp-implicitDefEqProofs[hb0,wO,wC,vaC,h00]
       rw[h00] at fin
       exact fin _ ⟨[],(cH fns k b l w).count,(cH fns k b l w).code⟩ (.inl rfl) (by simp)
      |false=>
       have hle:w.vs.length<=(cH fns k b l w).vs.length:=by omega
       simp-implicitDefEqProofs[hb0,wO,wC,vaC,hle]
       exact fin _ ⟨w.vs,(cH fns k b l w).count,(cH fns k b l w).code⟩ (.inl rfl) (by simp)
     ·have hwe:rv fns k b l w=cH fns k b l w:=if_neg hb0
      have hb0':b=0:=by omega
      subst hb0'
      rw[hwe]
      simp-implicitDefEqProofs[]
      exact fin _ _ (.inr rfl) (by simp)
    ·simp-implicitDefEqProofs[]
     refine⟨nf,_,rfl,rfl,?_,rfl⟩
     intro hnf
     have h0:=hn hnf
     unfold rv
     split
     ·rw[h0] at hext;exact(List.append_eq_nil_iff.1 hext.symm).2
     ·exact h0
end
section
theorem Dd:AK.whole om=FK.ak oq:=rfl
theorem Ef:∀(ps:List (List UInt8)) (w:WS),w.vs.length<=w.count->(cE ps w).vs.length<=(cE ps w).count
 |[],w,h=>h
 |s::r,w,h=>Ef r (lV w s 0) (by simp[lV];omega)
theorem IC(a b:List (List UInt8))(w:WS):cE (a++b) w=cE b (cE a w):=by simp[cE]
theorem EH{l:List (List UInt8)}{w:WS}{i:Nat}(h:i<l.length):cE (l.take (i+1)) w=lV (cE (l.take i) w) l[i] 0:=by
 rw[an h,IC];rfl
theorem DA:∀(a b:List (List UInt8)) (w:WS),py (a++b) w=py a w++py b (cE a w)
 |[],b,w=>rfl
 |s::r,b,w=>by rw[List.cons_append,py,py,DA r];rfl
theorem Hm{l:List (List UInt8)}{w:WS}{i:Nat}(h:i<l.length):py (l.take (i+1)) w=py (l.take i) w++[vnm (cE (l.take i) w).count]:=by
 rw[an h,DA];rfl
theorem vW:∀(l:List (List UInt8)) (w:WS),(py l w).length=l.length
 |[],w=>rfl
 |s::r,w=>by rw[py,List.length_cons,vW r,List.length_cons]
def w0(fns:List Fd)(k:Nat)(f:Fd):WS:=⟨[],0,if cM fns f.name=some k then 0 else 2⟩
theorem NN(fns:List Fd)(k:Nat)(f:Fd):fnW fns k f=cH fns k 0 f.body (cE f.params (w0 fns k f)):=rfl
theorem KG(fns:List Fd)(k:Nat)(f:Fd):(rnF fns k f).cs=[.str f.name,aP (py f.params (w0 fns k f)),smL (gv fns k 0 f.body (cE f.params (w0 fns k f)))]:=rfl
variable (G:aH)
theorem OM{fns:List Fd}{k:Nat}{f:Fd}(hk:fns[k]?=some f)(hz:bF fns<=1073741824):VF Tryz.prog G le [.agg [.p (fdL fns)],.p (.int .i64 k)] (.tup [.agg ((rnF fns k f).cs.map .p),.p (.int .i64 (fnW fns k f).code),.p (.int .i64 (fnW fns k f).count)]):=by
 have hfl:=dS fns
 have hfm:=eZ (List.mem_of_getElem? hk)
 have hfz:f.sz=1+f.name.length+(f.params.length+(f.params.map List.length).sum)+aG f.body:=rfl
 have hkl:=(List.getElem?_eq_some_iff.1 hk).1
 have key:AC Tryz.prog G le [.agg [.p (fdL fns)],.p (.int .i64 k)] [] λx h=>x= .ret (.tup [.agg [.p (.str f.name),.sl 5 1 0 f.params.length,.p (smL (gv fns k 0 f.body (cE f.params (w0 fns k f))))],.p (.int .i64 (fnW fns k f).code),.p (.int .i64 (fnW fns k f).count)])/\h[5]?=some (DD (py f.params (w0 fns k f))):=by
  refine AC.goK Ee Dd ?_
  have hfd:∀l,fdL l= .lst 3 (l.map Fd.cs):=λ_=>rfl
  have hcs:f.cs=[.str f.name,aP f.params,smL f.body]:=rfl
  have hst:aP f.params= .lst 1 (f.params.map λw=>[.str w]):=rfl
  simp-implicitDefEqProofs[om,oq]
  refine po (ay 62 [(1,.p (.int .i64 k)),(2,.ptr 0 1 0 0),(4,.ptr 1 3 0 0),(7,.ptr 2 5 0 0),(8,.ptr 3 3 0 0)])
   [.row 1 [[.p (fdL fns)]],.row 3 [[.p (.str []),.nils,.nils]],wO 4 true fns k ⟨[],0,0⟩,.row 3 [[.p (.str f.name),.p (aP f.params),.p (smL f.body)]],.dead] ?_ ?_
  ·simp-implicitDefEqProofs[hfd,hk,hcs]
   refine vP (h:=[.row 1 [[.p (fdL fns)]],.row 3 [[.p (.str []),.nils,.nils]],wO 4 true fns k ⟨[],0,0⟩,.row 3 [[.p (.str f.name),.p (aP f.params),.p (smL f.body)]]]) (by simp) (by simp) ?_ (by simp[below])
   refine aD (by simp[okO,below]) (aD (by simp[okO,below]) (aD ?_ (aD (by simp[okO,below]) jt)))
   intro x hx
   rw[List.mem_singleton.1 hx];simp[wC,vaC,below]
  refine po (ay 62 [(1,.p (.int .i64 k)),(2,.ptr 0 1 0 0),(4,.ptr 1 3 0 0),(7,.ptr 2 5 0 0),(8,.ptr 3 3 0 0)])
   [.row 1 [[.p (fdL fns)]],.row 3 [[.p (.str []),.nils,.nils]],wO 4 true fns k (w0 fns k f),.row 3 [[.p (.str f.name),.p (aP f.params),.p (smL f.body)]],.dead] ?_ ?_
  ·simp-implicitDefEqProofs[]
   refine(FG G fns f.name (by omega)).use ?_
   have hok:∀w:WS,∀o∈[AO.row 1 [[.p (fdL fns)]],.row 3 [[.p (.str []),.nils,.nils]],wO 4 true fns k w,.row 3 [[.p (.str f.name),.p (aP f.params),.p (smL f.body)]],.dead],okO 5 o:=λw=>
    aD (by simp[okO,below]) (aD (by simp[okO,below]) (aD (ur (by simp)) (aD (by simp[okO,below]) (aD trivial jt))))
   by_cases he:cM fns f.name=some k
   ·have hw:w0 fns k f=⟨[],0,0⟩:=by rw[w0,if_pos he]
    rw[hw,he]
    simp-implicitDefEqProofs[ixI]
    exact am (by simp) (hok _) (by simp[below])
   ·have hw:w0 fns k f=⟨[],0,2⟩:=by rw[w0,if_neg he]
    have hne:¬ixI (cM fns f.name)=(k:Int):=by
     intro h
     apply he
     cases e:cM fns f.name with
     |none=>rw[e] at h;simp only[ixI] at h;omega
     |some j=>rw[e] at h;simp only[ixI] at h;have:j=k:=by omega
              rw[this]
    rw[hw]
    simp-implicitDefEqProofs[hne]
    refine(NR G (wid:=2) (id:=4) (oW G true fns k ⟨[],0,0⟩ 2) (by simp) (by simp[below]) (by decide) rfl rfl).mono ?_
    rintro r h' ⟨rfl,rfl⟩
    simp-implicitDefEqProofs[aa]
    exact am (h:=[AO.row 1 [[.p (fdL fns)]],.row 3 [[.p (.str []),.nils,.nils]],wO 4 true fns k ⟨[],0,2⟩,.row 3 [[.p (.str f.name),.p (aP f.params),.p (smL f.body)]],.dead]) (by simp) (hok _) (by simp[below])
  rw[NN]
  have hw0v:(w0 fns k f).vs=[]:=rfl
  have hw0c:(w0 fns k f).count=0:=rfl
  generalize w0 fns k f=w0 at hw0v hw0c⊢
  simp-implicitDefEqProofs[]
  have hcnt:∀j,j<=f.params.length->(cE (f.params.take j) w0).count=j:=λj hj=>by rw[uv,hw0c];simp;omega
  have hvl:∀j,(cE (f.params.take j) w0).vs.length<=(cE (f.params.take j) w0).count:=λj=>Ef _ _ (by rw[hw0v];simp)
  refine aF (λj:Nat=>ay 62 [(1,.p (.int .i64 k)),(2,.ptr 0 1 0 0),(4,.ptr 1 3 0 0),(7,.ptr 2 5 0 0),(8,.ptr 3 3 0 0),(9,.sl 5 1 0 j),(10,.p (.int .i64 j))])
   (λj=>[.row 1 [[.p (fdL fns)]],.row 3 [[.p (.str []),.nils,.nils]],wO 6 (decide (j=0)) fns k (cE (f.params.take j) w0),.row 3 [[.p (.str f.name),.p (aP f.params),.p (smL f.body)]],.dead,DD (py (f.params.take j) w0),roC (decide (j=0)) (cE (f.params.take j) w0).vs])
   (λj=>j<=f.params.length) (λj=>f.params.length-j) 0 (by simp) ?_ ?_
  ·refine vP (h:=[.row 1 [[.p (fdL fns)]],.row 3 [[.p (.str []),.nils,.nils]],wO 6 true fns k w0,.row 3 [[.p (.str f.name),.p (aP f.params),.p (smL f.body)]],.dead,.row 1 []]) (by simp) (by simp) ?_ (by simp[below])
   refine aD (by simp[okO,below]) (aD (by simp[okO,below]) (aD ?_ (aD (by simp[okO,below]) (aD trivial (aD (by simp[okO]) jt)))))
   intro x hx
   rw[List.mem_singleton.1 hx];simp[wC,vaC,below]
  intro j hj
  have hjc:=hcnt j hj
  have hjv:=hvl j
  have hol:=vW (f.params.take j) w0
  rw[List.length_take,Nat.min_eq_left hj] at hol
  have hnf:decide (j=0)=true->(cE (f.params.take j) w0).vs=[]:=by
   intro h
   have h0:j=0:=by simpa using h
   rw[h0,List.take_zero]
   exact hw0v
  simp-implicitDefEqProofs[hst]
  refine aJ (λh=>?_) (λh=>?_)
  ·simp at h
   have hg:=List.getElem?_eq_getElem h
   have eP:=EH (w:=w0) h
   have eR:=Hm (w:=w0) h
   simp-implicitDefEqProofs[hg]
   refine(Ll G (wid:=2) (id:=6) (Q:=λnf' w'=>nf'=false/\w'=lV (cE (f.params.take j) w0) f.params[j] 0) ((Ke G (decide (j=0)) fns k _ hnf (by omega) (by omega) f.params[j] 0).mono (by rintro x h ⟨rfl,rfl⟩;exact⟨false,_,rfl,rfl,rfl,rfl⟩)) (by simp) (by simp[below]) (by decide) rfl rfl).mono ?_
   rintro r h' ⟨nf',w',rfl,rfl,rfl,rfl⟩
   have hso:∀l,DD l= .row 1 (l.map λn=>[.p (.str n)]):=λ_=>rfl
   simp-implicitDefEqProofs[aa,hso,hol]
   refine⟨by omega,j+1,by omega,by omega,?_⟩
   have htk:List.take j ((py (f.params.take j) w0).map λn=>[AV.p (.str n)])=(py (f.params.take j) w0).map λn=>[AV.p (.str n)]:=List.take_of_length_le (by rw[List.length_map];omega)
   have hd:decide (j+1=0)=false:=by simp
   rw[eP,eR,hd,List.map_append,←List.map_take,List.map_take,htk]
   refine gr [0,1,2,3,4,9,7] rfl (by decide) (bS rfl (by simp) (bS rfl (by simp[below]) (yJ (by simp) rfl (bS rfl (by simp) (iC (by simp) (bS rfl (λx hx=>?_) (uE rfl (fF _ _ _) dC))))))) (by simp[below,ren,w1 (i:=j) (by omega)])
   rcases List.mem_append.1 hx with h|h
   ·exact AZ _ x h
   ·exact AZ _ x h
  ·simp at h
   have hje:j=f.params.length:=by omega
   subst hje
   rw[List.take_length] at hol hjc hjv hnf⊢
   generalize decide (f.params.length=0)=nf at hnf⊢
   simp-implicitDefEqProofs[]
   refine(Ll G (wid:=2) (id:=6) (LC G (fns:=fns) (by omega) (aG f.body+1) f.body (by omega) 0 _ (cE f.params w0) hnf hjv (by omega) (by omega)) (by simp) (by simp[below]) (by decide) rfl rfl).mono ?_
   rintro r h' ⟨nf',w',rfl,rfl,hn',hw'⟩
   have hb:rv fns k 0 f.body (cE f.params w0)=cH fns k 0 f.body (cE f.params w0):=rfl
   rw[hb] at hw'
   rw[←hw']
   simp-implicitDefEqProofs[aa,wO,wC]
 refine key.freezeR (λt v h ⟨e,_⟩=>by cases e) λv h ⟨e1,e2⟩=>?_
 cases e1
 rw[KG]
 have hol:=vW f.params (w0 fns k f)
 have hv:=Bn e2
 rw[hol] at hv
 exact .tup (.agg (.keep (by simp) (.one hv (.keep (by simp) .nil))) (.keep (by simp) (.keep (by simp) .nil))) .nil
theorem Eh{fns:List Fd}{i:Nat}(h:i<fns.length):gH fns i (fns.drop i)=if(fnW fns i fns[i]).code=0 then gH fns (i+1) (fns.drop (i+1)) else(fnW fns i fns[i]).code:=by
 rw[List.drop_eq_getElem_cons h,gH]
theorem yS(l:List Fd)(hz:bF l<=1073741824):VF Tryz.prog G eY [.agg [.p (fdL l)]] (.p (.int .i64 (cB l))):=by
 refine AC.go pB ?_
 have hll:=dS l
 have hfd:∀l,fdL l= .lst 3 (l.map Fd.cs):=λ_=>rfl
 simp-implicitDefEqProofs[jr]
 refine(zR G l (by omega)).use ?_
 by_cases hv:bL l=true
 case neg=>
  have:cB l=1:=if_neg hv
  have hv':bL l=false:=by simpa using hv
  simp-implicitDefEqProofs[hv',this]
 have hc:cB l=gH l 0 (l.drop 0):=if_pos hv
 rw[hc]
 simp-implicitDefEqProofs[hv]
 refine aF (λi:Nat=>ay 27 [(1,.ptr 0 1 0 0),(3,.p (.int .i64 i))]) (λ_=>[.row 1 [[.p (fdL l)]]]) (λi=>i<=l.length/\gH l 0 l=gH l i (l.drop i)) (λi=>l.length-i) 0 (by simp) (am (by simp) (by simp[okO]) (by simp[below])) ?_
 rintro i ⟨hi,he⟩
 simp-implicitDefEqProofs[hfd]
 refine aJ (λh=>?_) (λh=>?_)
 ·simp at h
  have hg:=List.getElem?_eq_getElem h
  have hd:=Eh h
  simp-implicitDefEqProofs[]
  refine(OM G hg hz).use ?_
  have hrc:=KG l i l[i]
  by_cases h0:(fnW l i l[i]).code=0
  ·rw[if_pos h0] at hd
   simp-implicitDefEqProofs[h0,hrc]
   refine⟨i+1,⟨by omega,by rw[he,hd]⟩,by omega,?_⟩
   refine dF (m:=1) (by omega) (bV rfl rfl (by simp[okO,below])) (by simp[below,hfd,w1 (i:=i) (by omega)])
  ·rw[if_neg h0] at hd
   simp-implicitDefEqProofs[h0,hrc]
   rw[he,hd]
 ·simp at h
  have hie:i=l.length:=by omega
  subst hie
  rw[List.drop_length] at he
  simp-implicitDefEqProofs[]
  rw[he];rfl
end
section
variable (G:aH)
theorem NA{f:FuncId}{args:List AV}{h h1:List AO}{v:AV}(H:AC Tryz.prog G f args h λx h'=>x= .ret v/\∃l,h'=h1++l)(hl:h1.length=h.length)(ho:∀o∈h1,okO h.length o)(hv:below h.length v):
 AC Tryz.prog G f args h λx h'=>x= .ret v/\h'=h1:=by
 refine H.wk (λt v h ⟨e,_⟩=>by cases e) ?_
 rintro u h' ⟨e,l,rfl⟩
 cases e
 refine⟨v,h1,yw (n:=h.length) (Nat.le_refl _) (bV ?_ hl ho) ?_,rfl,rfl⟩
 ·rw[←hl,List.take_left'];rfl
 ·simp[Fgt,hv]
theorem OV{f:FuncId}{args:List AV}{b0:AO}{fns:List Fd}{k:Nat}{c c':Int}{ch ch':List GS}{v:AV}(H:AC Tryz.prog G f args (CH b0 fns k c ch) λx h=>x= .ret v/\h=CH b0 fns k c' ch')(hb:okO 0 b0)(hs:zr ch)(hl:scL ch'=scL ch)(rest:List AO)(ha:az (2+scL ch) args):
 AC Tryz.prog G f args (CH b0 fns k c ch++rest) λx h=>x= .ret v/\h=CH b0 fns k c' ch'++rest:=by
 refine(AC.pre H rest (by rw[gS];exact ha) (by rw[gS];exact Ew hb hs (Nat.le_refl _)) ?_).mono ?_
 ·rintro x h ⟨_,rfl⟩;rw[gS,gS,hl]
 ·rintro x h ⟨h1,⟨rfl,rfl⟩,rfl⟩
  exact⟨rfl,rfl⟩
def bxs(ch:List GS)(q:List AV):List AO:=[.row 1 [[.ptr 1 3 0 0]],.row 4 [q],.row 1 [[upV ch]]]
def pt(b0:AO)(fns:List Fd)(k:Nat)(ch:List GS)(q:List PV)(hb:okO 0 b0)(hs:zr ch):Vis Int where
 I:=λc=>CH b0 fns k c ch++bxs ch (q.map .p)
 n:=2+scL ch+3
 F:=bE
 caps:=[.ptr (2+scL ch+2) 1 0 0,.ptr (2+scL ch) 1 0 0]
 len:=λc=>by rw[List.length_append,gS];rfl
 ok:=λc o ho=>by
  rcases List.mem_append.1 ho with h|h
  ·exact Ew hb hs (by omega) o h
  ·simp only[bxs,List.mem_cons,List.not_mem_nil,or_false] at h
   rcases h with rfl|rfl|rfl
   ·intro e he;rw[List.mem_singleton.1 he];exact⟨by simp only[below];omega,trivial⟩
   ·intro e he;rw[List.mem_singleton.1 he];exact aR (Nat.zero_le _) _ (by simp)
   ·intro e he;rw[List.mem_singleton.1 he];exact⟨jF ch (by omega),trivial⟩
 capsOk:=by simp[below]
def eH(b0:AO)(fns:List Fd)(k:Nat)(ch:List GS)(q:List PV)(e:Ex)(c:Int):List AO:=b0::cO fns k c::(scH ch++(bxs ch (q.map .p)++[.row 4 [[.p (.int .i64 e.op),.p (.int .i64 e.n),.p (.str e.name),.p (exL e.kids)]]]))
section
variable {b0:AO} {fns:List Fd} {k:Nat} {ch:List GS} {q:List PV} {e:Ex} {c:Int}
theorem eH_eq{hb:okO 0 b0}{hs:zr ch}:(pt b0 fns k ch q hb hs).I c++[.row 4 [[.p (.int .i64 e.op),.p (.int .i64 e.n),.p (.str e.name),.p (exL e.kids)]]]=eH b0 fns k ch q e c:=by
 simp[pt,eH,CH]
theorem Mp:(eH b0 fns k ch q e c)[1]?=some (.row 3 [[.p (fdL fns),.p (.int .i64 k),.p (.int .i64 c)]]):=rfl
theorem Kv(i:Nat):(eH b0 fns k ch q e c)[2+scL ch+i]?=(bxs ch (q.map .p)++[.row 4 [[.p (.int .i64 e.op),.p (.int .i64 e.n),.p (.str e.name),.p (exL e.kids)]]])[i]?:=by
 rw[eH,show 2+scL ch+i=(scL ch+i)+1+1 by omega,List.getElem?_cons_succ,List.getElem?_cons_succ]
 exact Nm (lc ch) i
theorem Ij:(eH b0 fns k ch q e c)[2+scL ch]?=some (.row 1 [[.ptr 1 3 0 0]]):=Kv 0
theorem QF:(eH b0 fns k ch q e c)[2+scL ch+2]?=some (.row 1 [[upV ch]]):=Kv 2
theorem Kc:(eH b0 fns k ch q e c)[2+scL ch+3]?=some (.row 4 [[.p (.int .i64 e.op),.p (.int .i64 e.n),.p (.str e.name),.p (exL e.kids)]]):=Kv 3
end
theorem IT{fns:List Fd}{s:List UInt8}{j:Nat}(h:cM fns s=some j):j<fns.length:=by
 rw[cM,List.findIdx?_eq_some_iff_getElem] at h;exact h.1
theorem Jd(b0:AO){fns:List Fd}{k:Nat}(hf:fns.length<=1073741824)(hk:k<=fns.length)(ch:List GS)(q:List PV)(hb:okO 0 b0)(hs:zr ch)(c:Int)(e:Ex)(he:e.sz<=1073741824):
 AC Tryz.prog G bE (.agg (e.cs.map .p)::(pt b0 fns k ch q hb hs).caps) ((pt b0 fns k ch q hb hs).I c) λx h=>x= .ret (.tup [])/\h=(pt b0 fns k ch q hb hs).I (dO fns k (sco ch) c e):=by
 refine(pt b0 fns k ch q hb hs).trim G (AC.go nu ?_) (by simp[below])
 have hec:=e.cs_eq
 have hlen:((pt b0 fns k ch q hb hs).I c).length=2+scL ch+3:=(pt b0 fns k ch q hb hs).len c
 have hcaps:(pt b0 fns k ch q hb hs).caps=[.ptr (2+scL ch+2) 1 0 0,.ptr (2+scL ch) 1 0 0]:=rfl
 have fin:∀c',(∃l,eH b0 fns k ch q e c'=(pt b0 fns k ch q hb hs).I c'++l):=λc'=>⟨_,eH_eq.symm⟩
 have hfail:∀n,AC Tryz.prog G bZ [.ptr 1 3 0 0,.p (.int .i64 n)] (eH b0 fns k ch q e c) λx h=>x= .ret (.tup [])/\h=eH b0 fns k ch q e (fl c n):=λn=>BN G b0 fns k c n _
 have hkl:=bh e.kids
 have hsz:=e.sz_eq
 rw[hcaps]
 simp-implicitDefEqProofs[gy,hec,hlen]
 rw[eH_eq]
 generalize hV:(pt b0 fns k ch q hb hs).I=VI at fin⊢
 by_cases o2:e.op=2
 ·have hfind:AC Tryz.prog G aT [upV ch,.p (.str e.name)] (eH b0 fns k ch q e c) λx h=>x= .ret (.tup [.p (.int .i64 (((cJ (sco ch) e.name).getD 0:Nat):Int)),.p (.bool (cJ (sco ch) e.name).isSome)])/\h=eH b0 fns k ch q e c:=Lj G b0 (cO fns k c) ch _ e.name
  simp-implicitDefEqProofs[o2,Ij,QF,Kc,Mp]
  refine hfind.mono ?_
  rintro r h ⟨rfl,rfl⟩
  cases hfs:cJ (sco ch) e.name with
  |some n=>
   have hv:dO fns k (sco ch) c e=c:=by simp[dO,o2,hfs]
   rw[hv]
   simp-implicitDefEqProofs[aa]
   exact fin c
  |none=>
   have hv:dO fns k (sco ch) c e=fl c 3:=by simp[dO,o2,hfs]
   rw[hv]
   simp-implicitDefEqProofs[aa,Ij]
   refine(hfail 3).mono ?_
   rintro r h ⟨rfl,rfl⟩
   simp-implicitDefEqProofs[aa]
   exact fin _
 by_cases o13:e.op=13
 ·have hfl:fdL fns= .lst 3 (fns.map Fd.cs):=rfl
  have hfk:fdL (fns.take k)= .lst 3 ((fns.map Fd.cs).take k):=by rw[←List.map_take];rfl
  have hxl:exL e.kids= .lst 4 (e.kids.map Ex.cs):=rfl
  have hAt:=FX G (fns.take k) e.name (by rw[List.length_take];omega)
  rw[hfk] at hAt
  simp-implicitDefEqProofs[o13,Ij,QF,Kc,Mp,hfl,hk]
  refine hAt.use ?_
  cases hfa:cM (fns.take k) e.name with
  |none=>
   have hv:dO fns k (sco ch) c e=fl c 4:=by simp[dO,o13,hfa]
   rw[hv]
   simp-implicitDefEqProofs[ixI,Ij]
   refine(hfail 4).mono ?_
   rintro r h ⟨rfl,rfl⟩
   simp-implicitDefEqProofs[aa]
   exact fin _
  |some j=>
   have hj:=IT hfa
   rw[List.length_take] at hj
   have hjl:j<fns.length:=by omega
   have hg:=List.getElem?_eq_getElem hjl
   have hjn:¬(j:Int)<0:=by omega
   have hcs:fns[j].cs=[.str fns[j].name,aP fns[j].params,smL fns[j].body]:=rfl
   have hst:aP fns[j].params= .lst 1 (fns[j].params.map λw=>[.str w]):=rfl
   have hpn:It fns j=fns[j].params.length:=by simp[It,hg]
   by_cases hp:fns[j].params.length=e.kids.length
   ·have hv:dO fns k (sco ch) c e=c:=by simp[dO,o13,hfa,hpn,hp]
    rw[hv]
    simp-implicitDefEqProofs[ixI,Ij,Mp,Kc,hjn,hfl,hg,hcs,hst,hxl,hp]
    exact fin _
   ·have hv:dO fns k (sco ch) c e=fl c 5:=by simp[dO,o13,hfa,hpn,hp]
    have hp':¬(fns[j].params.length:Int)=(e.kids.length:Int):=by omega
    rw[hv]
    simp-implicitDefEqProofs[ixI,Ij,Mp,Kc,hjn,hfl,hg,hcs,hst,hxl,hp']
    refine(hfail 5).mono ?_
    rintro r h ⟨rfl,rfl⟩
    simp-implicitDefEqProofs[aa]
    exact fin _
 ·have hv:dO fns k (sco ch) c e=c:=by simp[dO,o2,o13]
  rw[hv]
  simp-implicitDefEqProofs[o2,o13,Kc]
  exact fin _
theorem MP(ch:List GS):upV ch= .nilp\/∃i,upV ch= .ptr i 2 0 0:=by
 cases ch with
 |nil=>exact .inl rfl
 |cons g up=>exact .inr ⟨_,rfl⟩
theorem OD(b0:AO){fns:List Fd}{k:Nat}(hf:fns.length<=1073741824)(hk:k<=fns.length)(ch:List GS)(hb:okO 0 b0)(hs:zr ch)(c:Int)(e:Ex)(he:e.sz<=1073741824):
 AC Tryz.prog G cT [.ptr 1 3 0 0,.agg (e.cs.map .p),upV ch] (CH b0 fns k c ch) λx h=>x= .ret (.tup [])/\h=CH b0 fns k (e.pre.foldl (dO fns k (sco ch)) c) ch:=by
 refine NA G (h:=CH b0 fns k c ch) (AC.go pm ?_) (by rw[gS,gS]) (by rw[gS];exact Ew hb hs (Nat.le_refl _)) (by simp[below])
 have hec:=e.cs_eq
 have hlen:(CH b0 fns k c ch).length=2+scL ch:=gS _ _ _ _ _
 have hI:=(Nq G (pt b0 fns k ch e.cs hb hs) (dO fns k (sco ch)) (λ_=>True) 1073741824 (by omega) (λst x _ hx=>⟨trivial,Jd G b0 hf hk ch e.cs hb hs st x hx⟩) (e.sz+1) e (by omega) he c trivial).2
 have hcaps:(pt b0 fns k ch e.cs hb hs).caps=[.ptr (2+scL ch+2) 1 0 0,.ptr (2+scL ch) 1 0 0]:=rfl
 have hF:(pt b0 fns k ch e.cs hb hs).F=bE:=rfl
 have hVI:(pt b0 fns k ch e.cs hb hs).I c=CH b0 fns k c ch++[.row 1 [[.ptr 1 3 0 0]],.row 4 [[.p (.int .i64 e.op),.p (.int .i64 e.n),.p (.str e.name),.p (exL e.kids)]],.row 1 [[upV ch]]]:=by simp[pt,bxs,hec]
 rw[hcaps,hF,hVI,hec] at hI
 have hup:=MP ch
 generalize upV ch=u at hI hup⊢
 rcases hup with rfl|⟨i,rfl⟩
 ·simp-implicitDefEqProofs[eD,hec,hlen]
  refine hI.mono ?_
  rintro r h ⟨rfl,rfl⟩
  simp-implicitDefEqProofs[aa]
  exact⟨_,rfl⟩
 ·simp-implicitDefEqProofs[eD,hec,hlen]
  refine hI.mono ?_
  rintro r h ⟨rfl,rfl⟩
  simp-implicitDefEqProofs[aa]
  exact⟨_,rfl⟩
end
section
theorem oI:AK.whole dM=FK.ak dY:=rfl
theorem CM(fns:List Fd)(k:Nat):∀(a b:List Sm) (m:Scp) (up:List Scp) (c:Int),dX fns k (a++b) m up c=dX fns k b (dX fns k a m up c).1 up (dX fns k a m up c).2
 |[],b,m,up,c=>rfl
 |s::r,b,m,up,c=>by rw[List.cons_append,dX,dX,CM fns k r]
theorem IG{fns:List Fd}{k:Nat}{l:List Sm}{m:Scp}{up:List Scp}{c:Int}{i:Nat}(h:i<l.length):dX fns k (l.take (i+1)) m up c=icS fns k l[i] (dX fns k (l.take i) m up c).1 up (dX fns k (l.take i) m up c).2:=by
 rw[an h,CM];rfl
def AX(b0:AO)(fns:List Fd)(k:Nat)(up:List GS)(gap:List AO)(c:Int):List AO:=b0::cO fns k c::(scH up++gap)
theorem Oa(b0:AO)(fns:List Fd)(k:Nat)(up:List GS)(gap:List AO)(c:Int):(AX b0 fns k up gap c).length=2+scL up+gap.length:=by
 simp only[AX,List.length_cons,List.length_append,lc];omega
theorem Lq(b0:AO)(fns:List Fd)(k:Nat)(up:List GS)(gap:List AO)(m:Scp)(c:Int)(rest:List AO):CH b0 fns k c (⟨gap,m⟩::up)++rest=AX b0 fns k up gap c++(.mp (mpE m):: .row 2 [[.mp (2+scL up+gap.length),upV up]]::rest):=by
 simp[CH,AX,scH]
theorem Ly(b0:AO)(fns:List Fd)(k:Nat)(up:List GS)(gap:List AO)(m:Scp)(c:Int):CH b0 fns k c (⟨gap,m⟩::up)=AX b0 fns k up gap c++[.mp (mpE m),.row 2 [[.mp (2+scL up+gap.length),upV up]]]:=by
 have:=Lq b0 fns k up gap m c []
 rwa[List.append_nil] at this
theorem QG{b0:AO}{fns:List Fd}{k:Nat}{up:List GS}{gap:List AO}(hb:okO 0 b0)(hs:zr up)(hg:∀o∈gap,okO (2+scL up+gap.length) o)(c:Int):∀o∈AX b0 fns k up gap c,okO (2+scL up+gap.length) o:=by
 refine aD (gQ hb) (aD (by intro e he;rw[List.mem_singleton.1 he];simp[below]) ?_)
 intro o ho
 rcases List.mem_append.1 ho with h|h
 ·exact FT up hs (by omega) o h
 ·exact hg o h
theorem vw{kk L n:Nat}{A r s:List AO}{l l1:List (Nat × AV)}(hl:A.length=L)(hk:kk<=L+r.length)(ha:∀o∈A,okO L o)(hr:∀o∈r,okO (L+r.length) o)(H:FgA (L+r.length) l l1):Wk kk (ay n l) (A++(r++s)) (ay n l1) (A++r):=by
 have hll:(A++r).length=L+r.length:=by rw[List.length_append,hl]
 refine dF (m:=L+r.length) hk (bV ?_ hll ?_) H
 ·rw[←List.append_assoc,←hll,List.take_left'];rfl
 ·intro o ho
  rcases List.mem_append.1 ho with h|h
  ·exact sT (by omega) (ha o h)
  ·exact hr o h
theorem Du(m:Scp)(n:Nat):okO n (.mp (mpE m)):=by
 intro e he
 obtain⟨x,_,rfl⟩:=List.mem_map.1 he
 simp[below]
variable (G:aH)
theorem Nd(b0:AO){fns:List Fd}{k:Nat}(hf:fns.length<=1073741824)(hk:k<=fns.length)(hb:okO 0 b0):∀(N:Nat) (l:List Sm),aG l<N->aG l<=1073741824->∀(gap:List AO) (m:Scp) (up:List GS) (c:Int),zr (⟨gap,m⟩::up)->
 AC Tryz.prog G bm [.ptr 1 3 0 0,.p (smL l),upV (⟨gap,m⟩::up)] (CH b0 fns k c (⟨gap,m⟩::up)) λx h=>x= .ret (.tup [])/\h=CH b0 fns k (dX fns k l m (sco up) c).2 (⟨gap,(dX fns k l m (sco up) c).1⟩::up):=by
 intro N
 induction N with
 |zero=>intro l h;omega
 |succ N ih=>
  intro l hl hz gap m up c hs
  have hll:=bn l
  have hsl:∀l,smL l= .lst 5 (l.map Sm.cs):=λ_=>rfl
  have hs':∀m,zr (⟨gap,m⟩::up):=λ_=>hs
  have hscl:∀m,scL (⟨gap,m⟩::up)=scL up+gap.length+2:=λ_=>rfl
  refine NA G (AC.goK ou oI ?_) (by rw[gS,gS];rfl) (by rw[gS];exact Ew hb (hs' _) (by rw[hscl];exact Nat.le_of_eq (by rfl))) (by simp[below])
  have hup:upV (⟨gap,m⟩::up)= .ptr (2+scL up+gap.length+1) 2 0 0:=rfl
  have hlenC:∀c m,(CH b0 fns k c (⟨gap,m⟩::up)).length=2+scL up+gap.length+2:=λc m=>by rw[gS,hscl];omega
  have hokC:∀c m,∀o∈CH b0 fns k c (⟨gap,m⟩::up),okO (2+scL up+gap.length+2) o:=λc m=>Ew hb (hs' m) (by rw[hscl];omega)
  have hlenA:∀c,(AX b0 fns k up gap c).length=2+scL up+gap.length:=Oa b0 fns k up gap
  simp-implicitDefEqProofs[dM,dY,hsl,hup]
  refine aF (λi:Nat=>ay 89 [(0,.ptr 1 3 0 0),(2,.ptr (2+scL up+gap.length+1) 2 0 0),(14,.p (smL l)),(15,.p (.int .i64 l.length)),(16,.p (.int .i64 i))])
   (λi=>CH b0 fns k (dX fns k (l.take i) m (sco up) c).2 (⟨gap,(dX fns k (l.take i) m (sco up) c).1⟩::up)) (λi=>i<=l.length) (λi=>l.length-i) 0 (by simp) ?_ ?_
  ·refine am (h:=CH b0 fns k c (⟨gap,m⟩::up)) (Nat.le_refl _) (by rw[hlenC];exact hokC _ _) ?_
   rw[hlenC]
   simp[below,hsl]
  intro i hi
  have eT:=λh=>IG (fns:=fns) (k:=k) (l:=l) (m:=m) (up:=sco up) (c:=c) (i:=i) h
  rw[hlenC]
  generalize hst:dX fns k (l.take i) m (sco up) c=st at eT⊢
  obtain⟨mi,ci⟩:=st
  simp only at eT⊢
  simp-implicitDefEqProofs[hsl]
  refine aJ (λh=>?_) (λh=>?_)
  ·simp at h
   have hg:=List.getElem?_eq_getElem h
   have hse:=l[i].cs_eq
   have hsz:=l[i].sz_eq
   have hks:=bA (List.getElem_mem h)
   have eT:=eT h
   generalize l[i]=s at hg hse hsz hks eT
   obtain⟨o,nme,a,bd,el⟩:=s
   simp only[Sm.op,Sm.name,Sm.args,Sm.body,Sm.els] at hse hsz
   have hxl:exL a= .lst 4 (a.map Ex.cs):=rfl
   have hal:=bh a
   simp-implicitDefEqProofs[hg,hse,hlenC,hxl]
   have hexpr:∀(c:Int) (e:Ex) (rest:List AO),e.sz<=1073741824->AC Tryz.prog G cT [.ptr 1 3 0 0,.agg (e.cs.map .p),.ptr (2+scL up+gap.length+1) 2 0 0] (AX b0 fns k up gap c++(.mp (mpE mi):: .row 2 [[.mp (2+scL up+gap.length),upV up]]::rest)) λx h=>x= .ret (.tup [])/\h=AX b0 fns k up gap (e.pre.foldl (dO fns k (mi::sco up)) c)++(.mp (mpE mi):: .row 2 [[.mp (2+scL up+gap.length),upV up]]::rest):=by
    intro c e rest he
    have:=OV G (OD G b0 hf hk (⟨gap,mi⟩::up) hb (hs' mi) c e he) hb (hs' mi) rfl rest (by refine⟨by simp only[below];omega,by simp,jF _ (Nat.le_refl _),trivial⟩)
    simp only[Lq] at this
    exact this
   have hfail:∀(c e:Int) (t:List AO),AC Tryz.prog G bZ [.ptr 1 3 0 0,.p (.int .i64 e)] (AX b0 fns k up gap c++t) λx h=>x= .ret (.tup [])/\h=AX b0 fns k up gap (fl c e)++t:=λc e t=>BN G b0 fns k c e _
   have hfind:∀(c:Int) (m:Scp) (s:List UInt8) (rest:List AO),AC Tryz.prog G aT [.ptr (2+scL up+gap.length+1) 2 0 0,.p (.str s)] (AX b0 fns k up gap c++(.mp (mpE m):: .row 2 [[.mp (2+scL up+gap.length),upV up]]::rest)) λx h=>x= .ret (.tup [.p (.int .i64 (((cJ (m::sco up) s).getD 0:Nat):Int)),.p (.bool (cJ (m::sco up) s).isSome)])/\h=AX b0 fns k up gap c++(.mp (mpE m):: .row 2 [[.mp (2+scL up+gap.length),upV up]]::rest):=by
    intro c m s rest
    have:=Lj G b0 (cO fns k c) (⟨gap,m⟩::up) rest s
    have e:b0::cO fns k c::(scH (⟨gap,m⟩::up)++rest)=CH b0 fns k c (⟨gap,m⟩::up)++rest:=rfl
    rw[e,Lq] at this
    exact this
   have hblk:∀(c:Int) (m2:Scp) (l':List Sm) (gap2:List AO),aG l'<N->aG l'<=1073741824->(∀o∈gap2,okO (2+scL up+gap.length+2+gap2.length) o)->
    AC Tryz.prog G bm [.ptr 1 3 0 0,.p (smL l'),.ptr (2+scL up+gap.length+2+gap2.length+1) 2 0 0] (AX b0 fns k up gap c++(.mp (mpE m2):: .row 2 [[.mp (2+scL up+gap.length),upV up]]::(gap2++[.mp [],.row 2 [[.mp (2+scL up+gap.length+2+gap2.length),.ptr (2+scL up+gap.length+1) 2 0 0]]])))
     λx h=>x= .ret (.tup [])/\∃m',h=AX b0 fns k up gap (dX fns k l' [] (m2::sco up) c).2++(.mp (mpE m2):: .row 2 [[.mp (2+scL up+gap.length),upV up]]::(gap2++[.mp (mpE m'),.row 2 [[.mp (2+scL up+gap.length+2+gap2.length),.ptr (2+scL up+gap.length+1) 2 0 0]]])):=by
    intro c m2 l' gap2 h1 h2 h3
    have e1:2+scL (⟨gap,m2⟩::up)+gap2.length=2+scL up+gap.length+2+gap2.length:=by rw[hscl];omega
    have e2:∀c m',CH b0 fns k c (⟨gap2,m'⟩::⟨gap,m2⟩::up)=AX b0 fns k up gap c++(.mp (mpE m2):: .row 2 [[.mp (2+scL up+gap.length),upV up]]::(gap2++[.mp (mpE m'),.row 2 [[.mp (2+scL up+gap.length+2+gap2.length),.ptr (2+scL up+gap.length+1) 2 0 0]]])):=by
     intro c m'
     rw[←e1]
     simp[CH,AX,scH,upV]
    have:=ih l' h1 h2 gap2 [] (⟨gap,m2⟩::up) c ⟨by rw[e1];exact h3,hs' m2⟩
    rw[show upV (⟨gap2,[]⟩::⟨gap,m2⟩::up)= .ptr (2+scL up+gap.length+2+gap2.length+1) 2 0 0 by rw[←e1];rfl] at this
    rw[e2] at this
    refine this.mono ?_
    rintro x h ⟨hx,hh⟩
    exact⟨hx,(dX fns k l' [] (sco (⟨gap,m2⟩::up)) c).1,by rw[hh,e2];rfl⟩
   rw[Ly b0 fns k up gap mi ci,List.append_assoc]
   simp only[List.cons_append,List.nil_append]
   have hokA:=QG (fns:=fns) (k:=k) hb hs.2 hs.1
   generalize hL:2+scL up+gap.length=L at hexpr hfind hblk hlenA hlenC hokC hokA⊢
   have hR:okO (L+2) (.row 2 [[.mp L,upV up]]):=by
    intro e he;rw[List.mem_singleton.1 he]
    exact⟨by simp only[below];omega,jF up (by omega),trivial⟩
   have hX:okO 0 (.row 5 [[AV.p (.int .i64 o),.p (.str nme),.p (.lst 4 (a.map Ex.cs)),.p (smL bd),.p (smL el)]]):=by simp[okO]
   have ok3:∀(m:Scp),∀x∈[AO.mp (mpE m),.row 2 [[.mp L,upV up]],.row 5 [[AV.p (.int .i64 o),.p (.str nme),.p (.lst 4 (a.map Ex.cs)),.p (smL bd),.p (smL el)]]],okO (L+3) x:=λm=>
    aD (Du _ _) (aD (sT (by omega) hR) (aD (gQ hX) jt))
   refine aF (λj:Nat=>ay 89 [(0,.ptr 1 3 0 0),(2,.ptr (L+1) 2 0 0),(7,.ptr (L+2) 5 0 0),(14,.p (smL l)),(15,.p (.int .i64 l.length)),(16,.p (.int .i64 i)),(21,.p (exL a)),(22,.p (.int .i64 a.length)),(23,.p (.int .i64 j))])
    (λj=>AX b0 fns k up gap ((dB (a.take j)).foldl (dO fns k (mi::sco up)) ci)++[.mp (mpE mi),.row 2 [[.mp L,upV up]],.row 5 [[AV.p (.int .i64 o),.p (.str nme),.p (.lst 4 (a.map Ex.cs)),.p (smL bd),.p (smL el)]]])
    (λj=>j<=a.length) (λj=>a.length-j) 0 (by simp) ?_ ?_
   ·refine vw (s:=[]) (hlenA _) (by simp) (hokA _) (ok3 _) ?_
    simp[below,hsl,hxl]
   intro j hj
   simp-implicitDefEqProofs[hxl]
   refine aJ (λhc=>?_) (λhc=>?_)
   ·simp at hc
    have hga:=List.getElem?_eq_getElem hc
    have hka:=bw (List.getElem_mem hc)
    have hkc:=a[j].cs_eq
    have hE:=hexpr ((dB (a.take j)).foldl (dO fns k (mi::sco up)) ci) a[j] [.row 5 [[AV.p (.int .i64 o),.p (.str nme),.p (.lst 4 (a.map Ex.cs)),.p (smL bd),.p (smL el)]],.row 4 [[.p (.int .i64 a[j].op),.p (.int .i64 a[j].n),.p (.str a[j].name),.p (exL a[j].kids)]]] (by omega)
    rw[hkc] at hE
    simp-implicitDefEqProofs[hga,hkc,hlenA]
    refine hE.mono ?_
    rintro r h ⟨rfl,rfl⟩
    simp-implicitDefEqProofs[aa]
    refine⟨j+1,hc,by omega,?_⟩
    have hf2:(dB (a.take (j+1))).foldl (dO fns k (mi::sco up)) ci=a[j].pre.foldl (dO fns k (mi::sco up)) ((dB (a.take j)).foldl (dO fns k (mi::sco up)) ci):=by
     rw[an hc,sf,List.foldl_append,dB,dB,List.append_nil]
    rw[hf2]
    refine vw (r:=[_,_,_]) (s:=[_]) (hlenA _) (by simp) (hokA _) (ok3 _) ?_
    simp[below,hsl,hxl,w1 (i:=j) (by omega)]
   simp at hc
   have hje:j=a.length:=by omega
   subst hje
   rw[List.take_length]
   have hic:icS fns k ⟨o,nme,a,bd,el⟩ mi (sco up) ci=(opS o nme mi 0,if o=5\/o=6 then(dX fns k el [] (opS o nme mi 0::sco up) (dX fns k bd [] (opS o nme mi 0::sco up) (opC o nme mi (sco up) (vU fns k (mi::sco up) a ci))).2).2 else opC o nme mi (sco up) (vU fns k (mi::sco up) a ci)):=rfl
   rw[hic] at eT
   clear hic
   rw[show(dB a).foldl (dO fns k (mi::sco up)) ci=vU fns k (mi::sco up) a ci from rfl]
   generalize vU fns k (mi::sco up) a ci=c1 at eT⊢
   simp-implicitDefEqProofs[]
   refine po (ay 89 [(0,.ptr 1 3 0 0),(2,.ptr (L+1) 2 0 0),(7,.ptr (L+2) 5 0 0),(14,.p (smL l)),(15,.p (.int .i64 l.length)),(16,.p (.int .i64 i))])
    (AX b0 fns k up gap (opC o nme mi (sco up) c1)++[.mp (mpE (opS o nme mi 0)),.row 2 [[.mp L,upV up]],.row 5 [[AV.p (.int .i64 o),.p (.str nme),.p (.lst 4 (a.map Ex.cs)),.p (smL bd),.p (smL el)]]]) ?_ ?_
   ·have fin:∀(r1:List (Nat × AV)) (c2:Int) (m2:Scp),Aw.look r1 0= .ptr 1 3 0 0->Aw.look r1 2= .ptr (L+1) 2 0 0->Aw.look r1 7= .ptr (L+2) 5 0 0->Aw.look r1 14= .p (smL l)->Aw.look r1 15= .p (.int .i64 l.length)->Aw.look r1 16= .p (.int .i64 i)->
     Wk (L+2) (ay 89 r1) (AX b0 fns k up gap c2++[.mp (mpE m2),.row 2 [[.mp L,upV up]],.row 5 [[AV.p (.int .i64 o),.p (.str nme),.p (.lst 4 (a.map Ex.cs)),.p (smL bd),.p (smL el)]]])
      (ay 89 [(0,.ptr 1 3 0 0),(2,.ptr (L+1) 2 0 0),(7,.ptr (L+2) 5 0 0),(14,.p (smL l)),(15,.p (.int .i64 l.length)),(16,.p (.int .i64 i))])
      (AX b0 fns k up gap c2++[.mp (mpE m2),.row 2 [[.mp L,upV up]],.row 5 [[AV.p (.int .i64 o),.p (.str nme),.p (.lst 4 (a.map Ex.cs)),.p (smL bd),.p (smL el)]]]):=by
     intro r1 c2 m2 e0 e2 e7 e14 e15 e16
     refine vw (s:=[]) (hlenA _) (by simp) (hokA _) (ok3 _) ?_
     simp[below,e0,e2,e7,e14,e15,e16]
    by_cases o1:o=1
    ·have hmg:=lI nme mi
     have hms:jY (.str nme) (.p (.int .i64 0)) (mpE mi)=some (mpE (dV mi nme 0)):=by simpa using oB nme 0 mi
     have e2:opS o nme mi 0=dV mi nme 0:=if_pos o1
     rw[e2]
     cases hh:eC mi nme with
     |none=>
      have e1:opC o nme mi (sco up) c1=c1:=by rw[opC,if_pos o1,hh];rfl
      rw[hh] at hmg
      rw[e1]
      subst o1
      simp-implicitDefEqProofs[hlenA,hmg,hms]
      exact fin _ _ _ (by simp) (by simp) (by simp) (by simp[hsl]) (by simp) (by simp)
     |some n=>
      have e1:opC o nme mi (sco up) c1=fl c1 2:=by rw[opC,if_pos o1,hh];rfl
      rw[hh] at hmg
      rw[e1]
      subst o1
      simp-implicitDefEqProofs[hlenA,hmg,hms]
      refine(hfail c1 2 _).mono ?_
      rintro r h ⟨rfl,rfl⟩
      simp-implicitDefEqProofs[aa,hlenA,hms]
      exact fin _ _ _ (by simp) (by simp) (by simp) (by simp[hsl]) (by simp) (by simp)
    have e2:opS o nme mi 0=mi:=if_neg o1
    rw[e2]
    by_cases o2:o=2
    ·cases hh:cJ (mi::sco up) nme with
     |none=>
      have e1:opC o nme mi (sco up) c1=fl c1 3:=by rw[opC,if_neg o1,if_pos o2,hh];rfl
      rw[e1]
      subst o2
      have hF:=hfind c1 mi nme [.row 5 [[AV.p (.int .i64 2),.p (.str nme),.p (.lst 4 (a.map Ex.cs)),.p (smL bd),.p (smL el)]]]
      rw[hh] at hF
      simp-implicitDefEqProofs[hlenA]
      refine hF.mono ?_
      rintro r h ⟨rfl,rfl⟩
      simp-implicitDefEqProofs[aa]
      refine(hfail c1 3 _).mono ?_
      rintro r h ⟨rfl,rfl⟩
      simp-implicitDefEqProofs[aa]
      exact fin _ _ _ (by simp) (by simp) (by simp) (by simp[hsl]) (by simp) (by simp)
     |some n=>
      have e1:opC o nme mi (sco up) c1=c1:=by rw[opC,if_neg o1,if_pos o2,hh];rfl
      rw[e1]
      subst o2
      have hF:=hfind c1 mi nme [.row 5 [[AV.p (.int .i64 2),.p (.str nme),.p (.lst 4 (a.map Ex.cs)),.p (smL bd),.p (smL el)]]]
      rw[hh] at hF
      simp-implicitDefEqProofs[hlenA]
      refine hF.mono ?_
      rintro r h ⟨rfl,rfl⟩
      simp-implicitDefEqProofs[aa]
      exact fin _ _ _ (by simp) (by simp) (by simp) (by simp[hsl]) (by simp) (by simp)
    ·have e1:opC o nme mi (sco up) c1=c1:=by rw[opC,if_neg o1,if_neg o2]
     rw[e1]
     simp-implicitDefEqProofs[hlenA,o1,o2]
     exact fin _ _ _ (by simp) (by simp) (by simp) (by simp[hsl]) (by simp) (by simp)
   generalize opC o nme mi (sco up) c1=c2 at eT⊢
   generalize opS o nme mi 0=m2 at eT⊢
   have hdrop:∀(r1:List (Nat × AV)) (c3:Int) (s:List AO),Aw.look r1 0= .ptr 1 3 0 0->Aw.look r1 2= .ptr (L+1) 2 0 0->Aw.look r1 14= .p (smL l)->Aw.look r1 15= .p (.int .i64 l.length)->Aw.look r1 16= .p (.int .i64 ((i:Int)+1))->
    Wk (L+2) (ay 89 r1) (AX b0 fns k up gap c3++([.mp (mpE m2),.row 2 [[.mp L,upV up]]]++s)) (ay 89 [(0,.ptr 1 3 0 0),(2,.ptr (L+1) 2 0 0),(14,.p (smL l)),(15,.p (.int .i64 l.length)),(16,.p (.int .i64 ((i:Int)+1)))]) (CH b0 fns k c3 (⟨gap,m2⟩::up)):=by
    intro r1 c3 s e0 e2 e14 e15 e16
    rw[Ly,hL]
    refine vw (hlenA _) (by simp) (hokA _) (aD (Du _ _) (aD hR jt)) ?_
    simp[below,e0,e2,e14,e15,e16]
   by_cases ho:o=5\/o=6
   ·rw[if_pos ho] at eT
    rcases ho with o5|o6
    ·subst o5
     simp-implicitDefEqProofs[hlenA]
     refine(mV G (.ptr (L+1) 2 0 0) (.inr ⟨_,rfl⟩) _).mono ?_
     rintro r h ⟨rfl,rfl⟩
     simp-implicitDefEqProofs[aa,hlenA]
     refine(hblk c2 m2 bd [_] (by omega) (by omega) (λx hx=>by rw[List.mem_singleton.1 hx];exact gQ (by simp[okO]))).mono ?_
     rintro r h ⟨rfl,m3,rfl⟩
     simp-implicitDefEqProofs[aa,hlenA]
     refine(mV G (.ptr (L+1) 2 0 0) (.inr ⟨_,rfl⟩) _).mono ?_
     rintro r h ⟨rfl,rfl⟩
     simp-implicitDefEqProofs[aa,hlenA]
     refine(hblk _ m2 el [_,_,_] (by omega) (by omega) (aD (gQ (by simp[okO])) (aD (Du _ _) (aD (by
      intro e he;rw[List.mem_singleton.1 he]
      exact⟨by simp only[below];simp,by simp only[below];simp,trivial⟩) jt)))).mono ?_
     rintro r h ⟨rfl,m4,rfl⟩
     simp-implicitDefEqProofs[aa,hlenA]
     refine⟨i+1,by omega,by omega,?_⟩
     rw[eT]
     refine hdrop _ _ _ (by simp) (by simp) (by simp[hsl]) (by simp) (by simp[w1 (i:=i) (by omega)])
    ·subst o6
     simp-implicitDefEqProofs[hlenA]
     refine(mV G (.ptr (L+1) 2 0 0) (.inr ⟨_,rfl⟩) _).mono ?_
     rintro r h ⟨rfl,rfl⟩
     simp-implicitDefEqProofs[aa,hlenA]
     refine(hblk c2 m2 bd [_] (by omega) (by omega) (λx hx=>by rw[List.mem_singleton.1 hx];exact gQ (by simp[okO]))).mono ?_
     rintro r h ⟨rfl,m3,rfl⟩
     simp-implicitDefEqProofs[aa,hlenA]
     refine(mV G (.ptr (L+1) 2 0 0) (.inr ⟨_,rfl⟩) _).mono ?_
     rintro r h ⟨rfl,rfl⟩
     simp-implicitDefEqProofs[aa,hlenA]
     refine(hblk _ m2 el [_,_,_] (by omega) (by omega) (aD (gQ (by simp[okO])) (aD (Du _ _) (aD (by
      intro e he;rw[List.mem_singleton.1 he]
      exact⟨by simp only[below];simp,by simp only[below];simp,trivial⟩) jt)))).mono ?_
     rintro r h ⟨rfl,m4,rfl⟩
     simp-implicitDefEqProofs[aa,hlenA]
     refine⟨i+1,by omega,by omega,?_⟩
     rw[eT]
     refine hdrop _ _ _ (by simp) (by simp) (by simp[hsl]) (by simp) (by simp[w1 (i:=i) (by omega)])
   ·rw[if_neg ho] at eT
    have o5:¬o=5:=λh=>ho (.inl h)
    have o6:¬o=6:=λh=>ho (.inr h)
    simp-implicitDefEqProofs[hlenA,o5,o6]
    refine⟨i+1,by omega,by omega,?_⟩
    rw[eT]
    refine hdrop _ _ [_] (by simp) (by simp) (by simp[hsl]) (by simp) (by simp[w1 (i:=i) (by omega)])
  ·simp at h
   have hie:i=l.length:=by omega
   subst hie
   rw[List.take_length] at hst
   rw[hst]
   simp-implicitDefEqProofs[]
end
end Go.Proofs.YtghpabfdmbdpfaaGreatDoor
