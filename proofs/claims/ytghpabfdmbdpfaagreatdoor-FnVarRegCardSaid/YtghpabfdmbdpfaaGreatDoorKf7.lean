/-
  Contracts and lemmas that the card needs, part 7.
-/
import Derived.Test.YtghpabfdmbdpfaaGreatDoorKf6
namespace Go.Proofs.YtghpabfdmbdpfaaGreatDoor
open Go Go.Aw
set_option maxRecDepth 100000
set_option maxHeartbeats 4000000
section
theorem Ra{P:Program}{G:aK}{k:Nat}{c:AK}{ts:List AV}{h:List AO}{Q:Aw.AX->List AV->List AO->Prop}(n:Nat)(R:List AV->List AO->Prop)
 (h1:∀Q':Aw.AX->List AV->List AO->Prop,(∀ts' h',R ts' h'->Q' (.exit n) ts' h')->AKW P G k c ts h Q')(h2:∀ts' h',R ts' h'->Q (.exit n) ts' h'):AKW P G k c ts h Q:=h1 Q h2
theorem Stg.upd{mk:Lw->AV->AO}{L:Nat}{I0 E:List Nat}{h hB:List AO}{w:Lw}{X X2:List AO}{K:AV}{I:List Nat}(S:Stg mk L I0 E h hB w X K I){oid:Nat}(hX:X.length<=X2.length)(e:∀i,i<X.length->i≠oid->X2[i]?=X[i]?)(ho:h.length<=oid)(hoE:oid∉E)(hoI:oid∉L::I):Stg mk L I0 E h hB w X2 K I:=by
 have hne:∀i,i∈L::I->i≠oid:=λi hi e=>hoI (e▸hi)
 refine⟨S.ls.frame λi hi=>e i ?_ (hne i hi),⟨Xs S.fr.1 hX,λi hi hn=>?_⟩,S.sub,λi hi=>?_,λi hi=>⟨Xf (S.ap i hi).1 hX,(S.ap i hi).2⟩,Xs S.ge hX⟩
 ·rcases WC.1 hi with rfl|hi
  ·exact S.ls.lt
  ·exact S.ls.own.lt hi
 ·rw[e i (by have:=S.fr.1;omega) (by omega)];exact S.fr.2 i hi hn
 ·rw[e i (S.ap i hi).1 (λe=>hoE (e▸hi))];exact S.keep i hi
theorem Lw.name_name(w:Lw)(a b:Nat):(w.name a).name b=w.name (a+b):=by simp[Lw.name,Xi]
structure MpQ where (i:Nat) (X:List AO) (o:Nat)
variable (G:aK)
def ExR(l:List Fd)(pr:Int)(L:Nat)(V:AV)(nx:Nat)(vs:Vs)(e:Ex):Prop:=∀(w:Lw) (h:List AO) (K:AV) (I:List Nat) (B:Nat),LS (lwR l pr V nx) L w h K I->w.Ok B->B+8*e.sz<=1073741823->VAt h V vs->(∀i∈vi V,i∉L::I)->
 AC Tryz.prog G bA [.ptr L 8 0 0,.agg (e.cs.map .p)] h λx h'=>x= .ret (.p (.int .i64 (lwE (faI l) (rgV vs) e w).1))/\LR (lwR l pr V nx) L (lwE (faI l) (rgV vs) e w).2 I h h'
theorem SE{l:List Fd}{pr:Int}{L:Nat}{V:AV}{nx:Nat}{vs:Vs}{e a b:Ex}(hk:e.kids=[a,b])(ha:ExR G l pr L V nx vs a)(hb:ExR G l pr L V nx vs b){w:Lw}{h:List AO}{K:AV}{I:List Nat}{B:Nat}(H:LS (lwR l pr V nx) L w h K I)(hok:w.Ok B)(hB:B+8*e.sz<=1073741823)(hV:VAt h V vs)(hVd:∀i∈vi V,i∉L::I):
 AC Tryz.prog G ja [.ptr L 8 0 0,.agg (e.cs.map .p)] h λx h'=>x= .ret (.p (.int .i64 (lwA (faI l) (rgV vs) e.kids w).1))/\LR (lwR l pr V nx) L (lwA (faI l) (rgV vs) e.kids w).2 I h h':=by
 have hc:=e.cs_eq
 have hzz:=e.sz_eq
 have hac:=a.cs_eq
 have hbc:=b.cs_eq
 have hkz:aM e.kids=a.sz+b.sz:=by rw[hk];simp[aM]
 obtain⟨E,hE⟩:∃E,E=h.length::vi V:=⟨_,rfl⟩
 have hkx:exL e.kids= .lst 4 [[.int .i64 a.op,.int .i64 a.n,.str a.name,exL a.kids],[.int .i64 b.op,.int .i64 b.n,.str b.name,exL b.kids]]:=by rw[hk,←hac,←hbc];rfl
 obtain⟨bo,hbo⟩:∃bo,bo=AO.row 4 [[.p (.int .i64 e.op),.p (.int .i64 e.n),.p (.str e.name),.p (exL e.kids)]]:=⟨_,rfl⟩
 have hS0:Stg (lwR l pr V nx) L I E h (h++[bo]) w (h++[bo]) K I:=Stg.of H [bo] (λi hi=>by
  rw[hE] at hi
  rcases WC.1 hi with rfl|hi
  ·refine⟨by simp,?_⟩
   simp only[WC,not_or]
   exact⟨by have:=H.lt;omega,λhm=>by have:=H.own.lt hm;omega⟩
  ·exact⟨by have:=hV.lt i hi;simp;omega,hVd i hi⟩)
 have hb0:(h++[bo])[h.length]?=some bo:=by simp
 have kE:∀{w2:Lw} {X:List AO} {K2:AV} {I2:List Nat},Stg (lwR l pr V nx) L I E h (h++[bo]) w2 X K2 I2->X[h.length]?=some bo/\VAt X V vs/\(∀i∈vi V,i∉L::I2):=λ{w2 X K2 I2} S=>⟨(S.keep _ (by rw[hE];simp)).trans hb0,(hV.more [bo]).frame λi hi=>S.keep i (by rw[hE];simp[hi]),λi hi=>(S.ap i (by rw[hE];simp[hi])).2⟩
 rw[hk,lwA]
 rw[hkx] at hbo
 subst hbo
 have h1c:=ha w _ K I B hS0.ls hok (by omega) (kE hS0).2.1 (kE hS0).2.2
 obtain⟨ok1,len1⟩:=mX (faI l) (rgV vs) a w B hok
 generalize lwE (faI l) (rgV vs) a w=x1 at*
 obtain⟨t,ht⟩:∃t,t=x1.2.bs.length:=⟨_,rfl⟩
 simp only[Lw.mk'_len,←ht]
 rw[hac] at h1c
 rw[hc]
 refine AC.go uS ?_
 simp-implicitDefEqProofs[-AV.cells,-AV.isCell,aI,af,ag,au,ah,aH,ae,aw,aj,nF,hkx]
 refine h1c.mono ?_
 rintro x X1 ⟨rfl,hlr⟩
 obtain⟨K1,I1,S1⟩:=hS0.step (J:=[]) (λj hj=>by cases hj) (by rw[WT];exact hlr)
 simp-implicitDefEqProofs[-AV.cells,-AV.isCell,aI,af,ag,au,ah,aH,ae,aw,aj,aa]
 have ok2:=ok1.reg
 refine(nL G S1.ls (by have:=ok1.regs;omega)).mono ?_
 rintro x X2 ⟨rfl,hlr⟩
 obtain⟨K2,I2,S2⟩:=S1.step (J:=[]) (λj hj=>by cases hj) (by rw[WT];exact hlr)
 simp-implicitDefEqProofs[-AV.cells,-AV.isCell,aI,af,ag,au,ah,aH,ae,aw,aj,aa]
 obtain⟨f1,f2⟩:=S2.fresh
 have hm2:=sW G (S2.ls.more [.row 1 (([]:List Int).map λn=>[AV.p (.int .i64 n)])]) ok2 (by omega) ⟨1,x1.2.regs,[],0⟩ (cX X2 ([]:List Int) rfl) (by simp) f2
 simp only[WY,Xv,WP,Xm] at hm2
 refine hm2.mono ?_
 rintro x X3 ⟨rfl,hlr⟩
 obtain⟨K3,I3,S3⟩:=(S2.more _).step f1 hlr
 have ok3:=ok2.put ⟨1,x1.2.regs,[],0⟩
 have hl3:(x1.2.reg.put ⟨1,x1.2.regs,[],0⟩).bs.length=t:=by rw[Lw.put_len];exact ht.symm
 simp-implicitDefEqProofs[-AV.cells,-AV.isCell,aI,af,ag,au,ah,aH,ae,aw,aj,aa,hl3]
 refine(Aa G S3.ls ok3 (by omega) ⟨(kE S3).2.1.is.1,(kE S3).2.1.is.2.1⟩).mono ?_
 rintro x X4 ⟨rfl,hlr⟩
 obtain⟨K4,I4,S4⟩:=S3.step (J:=[]) (λj hj=>by cases hj) (by rw[WT];exact hlr)
 have ok4:=ok3.name 1
 simp-implicitDefEqProofs[-AV.cells,-AV.isCell,aI,af,ag,au,ah,aH,ae,aw,aj,aa,hl3]
 refine(Aa G S4.ls ok4 (by omega) ⟨(kE S4).2.1.is.1,(kE S4).2.1.is.2.1⟩).mono ?_
 rintro x X5 ⟨rfl,hlr⟩
 obtain⟨K5,I5,S5⟩:=S4.step (J:=[]) (λj hj=>by cases hj) (by rw[WT];exact hlr)
 have ok5:=ok3.name 2
 have hnn:((x1.2.reg.put ⟨1,x1.2.regs,[],0⟩).name 1).name 1=(x1.2.mk' 1 0 []).name 2:=Lw.name_name _ 1 1
 have hl4:((x1.2.reg.put ⟨1,x1.2.regs,[],0⟩).name 1).bs.length=t+1:=by rw[Lw.name_len,hl3]
 rw[hnn] at S5
 have ok5:((x1.2.mk' 1 0 []).name 2).Ok _:=ok5
 simp-implicitDefEqProofs[-AV.cells,-AV.isCell,aI,af,ag,au,ah,aH,ae,aw,aj,aa,hl3,hl4]
 obtain⟨f1,f2⟩:=S5.fresh
 have hm5:=rt G (S5.ls.more [.row 1 ([(t:Int),(t:Int)+1].map λn=>[AV.p (.int .i64 n)])]) ok5 2 x1.1 t [(t:Int),(t:Int)+1] (cX X5 [(t:Int),(t:Int)+1] rfl) (by simp) f2
 simp only[WY,Xv,WP,Xm] at hm5
 refine hm5.mono ?_
 rintro x X6 ⟨rfl,hlr⟩
 obtain⟨K6,I6,S6⟩:=(S5.more _).step f1 hlr
 have ok6:=ok5.fin 2 x1.1 (g:=t) (by simp only[Lw.name_len,Lw.mk'_len,←ht];omega) [(t:Int),(t:Int)+1]
 obtain⟨y0,yV,yd⟩:=kE S6
 have h2c:=hb _ X6 K6 I6 _ S6.ls ok6 (by omega) yV yd
 obtain⟨ok7,len7⟩:=mX (faI l) (rgV vs) b _ _ ok6
 generalize lwE (faI l) (rgV vs) b (((x1.2.mk' 1 0 []).name 2).fin 2 x1.1 t [(t:Int),(t:Int)+1])=x2 at*
 rw[hbc] at h2c
 simp-implicitDefEqProofs[-AV.cells,-AV.isCell,aI,af,ag,au,ah,aH,ae,aw,aj,aa,y0]
 refine h2c.mono ?_
 rintro x X7 ⟨rfl,hlr⟩
 obtain⟨K7,I7,S7⟩:=S6.step (J:=[]) (λj hj=>by cases hj) (by rw[WT];exact hlr)
 simp-implicitDefEqProofs[-AV.cells,-AV.isCell,aI,af,ag,au,ah,aH,ae,aw,aj,aa]
 refine(nL G S7.ls (by have:=ok7.regs;omega)).mono ?_
 rintro x X8 ⟨rfl,hlr⟩
 obtain⟨K8,I8,S8⟩:=S7.step (J:=[]) (λj hj=>by cases hj) (by rw[WT];exact hlr)
 have ok8:=ok7.reg
 simp-implicitDefEqProofs[-AV.cells,-AV.isCell,aI,af,ag,au,ah,aH,ae,aw,aj,aa]
 obtain⟨f1,f2⟩:=S8.fresh
 have hm8:=sW G (S8.ls.more [.row 1 ([x2.1].map λn=>[AV.p (.int .i64 n)])]) ok8 (by omega) ⟨10,x2.2.regs,[x2.1],0⟩ (cX X8 [x2.1] rfl) (by simp) f2
 simp only[WY,Xv,WP,Xm] at hm8
 refine hm8.mono ?_
 rintro x X9 ⟨rfl,hlr⟩
 obtain⟨K9,I9,S9⟩:=(S8.more _).step f1 hlr
 have ok9:=ok8.put ⟨10,x2.2.regs,[x2.1],0⟩
 simp-implicitDefEqProofs[-AV.cells,-AV.isCell,aI,af,ag,au,ah,aH,ae,aw,aj,aa]
 obtain⟨f1,f2⟩:=S9.fresh
 have hm9:=sW G (S9.ls.more [.row 1 ([(x2.2.regs:Int)].map λn=>[AV.p (.int .i64 n)])]) ok9 (by omega) ⟨10,x1.2.regs,[(x2.2.regs:Int)],0⟩ (cX X9 [(x2.2.regs:Int)] rfl) (by simp) f2
 simp only[WY,Xv,WP,Xm] at hm9
 refine hm9.mono ?_
 rintro x X10 ⟨rfl,hlr⟩
 obtain⟨K10,I10,S10⟩:=(S9.more _).step f1 hlr
 have ok10:=ok9.put ⟨10,x1.2.regs,[(x2.2.regs:Int)],0⟩
 simp-implicitDefEqProofs[-AV.cells,-AV.isCell,aI,af,ag,au,ah,aH,ae,aw,aj,aa]
 obtain⟨f1,f2⟩:=S10.fresh
 have hm10:=rt G (S10.ls.more [.row 1 ([(t:Int)+1].map λn=>[AV.p (.int .i64 n)])]) ok10 1 0 (t+1) [(t:Int)+1] (cX X10 [(t:Int)+1] rfl) (by simp) f2
 simp only[WY,Xv,WP,Xm] at hm10
 rw[show((t+1:Nat):Int)=(t:Int)+1 by omega] at hm10
 refine hm10.mono ?_
 rintro x X11 ⟨rfl,hlr⟩
 obtain⟨K11,I11,S11⟩:=(S10.more _).step f1 hlr
 simp-implicitDefEqProofs[-AV.cells,-AV.isCell,aI,af,ag,au,ah,aH,ae,aw,aj,aa]
 exact S11.lr
theorem IY(l:List Fd)(hl:l.length<=1073741824)(pr:Int)(L:Nat)(V:AV)(nx:Nat)(vs:Vs)(hvl:vs.length<=1073741824):∀(d:Nat) (e:Ex),bP d e=true->ExR G l pr L V nx vs e:=by
 intro d
 induction d with
 |zero=>intro e h;cases h
 |succ d ih=>
 intro e hf w h K I B H hok hB hV hVd
 have hc:=e.cs_eq
 have hzz:=e.sz_eq
 have hLl:=H.lt
 have hxl:∀l,exL l= .lst 4 (l.map Ex.cs):=λ_=>rfl
 obtain⟨v1,v2,v3⟩:=hV.is
 obtain⟨E,hE⟩:∃E,E=h.length::vi V:=⟨_,rfl⟩
 obtain⟨bo,hbo⟩:∃bo,bo=AO.row 4 [[.p (.int .i64 e.op),.p (.int .i64 e.n),.p (.str e.name),.p (exL e.kids)]]:=⟨_,rfl⟩
 have hS0:Stg (lwR l pr V nx) L I E h (h++[bo]) w (h++[bo]) K I:=Stg.of H [bo] (λi hi=>by
  rw[hE] at hi
  rcases WC.1 hi with rfl|hi
  ·refine⟨by simp,?_⟩
   simp only[WC,not_or]
   exact⟨by have:=H.lt;omega,λhm=>by have:=H.own.lt hm;omega⟩
  ·exact⟨by have:=hV.lt i hi;simp;omega,hVd i hi⟩)
 have hb0:(h++[bo])[h.length]?=some bo:=by simp
 have kE:∀{w2:Lw} {X:List AO} {K2:AV} {I2:List Nat},Stg (lwR l pr V nx) L I E h (h++[bo]) w2 X K2 I2->X[h.length]?=some bo/\VAt X V vs/\(∀i∈vi V,i∉L::I2):=λ{w2 X K2 I2} S=>⟨(S.keep _ (by rw[hE];simp)).trans hb0,(hV.more [bo]).frame λi hi=>S.keep i (by rw[hE];simp[hi]),λi hi=>(S.ap i (by rw[hE];simp[hi])).2⟩
 have lp:∀{w2:Lw} {X:List AO} {K2:AV} {I2:List Nat},Stg (lwR l pr V nx) L I E h (h++[bo]) w2 X K2 I2->∀t,(X++t)[L]?=some (lwR l pr V nx w2 K2):=λS t=>by rw[Wx S.ls.lt];exact S.ls.here
 have hfE:=Ou (faI l) (rgV vs) e w
 refine AC.go tz ?_
 rw[hc]
 by_cases o1:e.op=1
 ·rw[if_pos o1] at hfE
  rw[hfE]
  rw[o1] at hbo
  have hF:=nL G hS0.ls (by have:=hok.regs;omega)
  have h0:∀t,(h++[bo]++t)[h.length]?=some bo:=λt=>by simp
  simp-implicitDefEqProofs[-AV.cells,-AV.isCell,aI,af,ag,au,ah,aH,ae,aw,aj,dk,o1]
  rw[←hbo]
  refine hF.mono ?_
  rintro x X1 ⟨rfl,hlr⟩
  obtain⟨K1,I1,S1⟩:=hS0.step (J:=[]) (λj hj=>by cases hj) (by rw[WT];exact hlr)
  have ok1:=hok.reg
  have y0:=(kE S1).1
  rw[hbo] at y0
  simp-implicitDefEqProofs[-AV.cells,-AV.isCell,aI,af,ag,au,ah,aH,ae,aw,aj,aa,y0]
  refine(sW G S1.ls ok1 (by omega) ⟨1,w.regs,[],e.n⟩ (A:= .p (bF [])) (J:=[]) (.p _ (λh=>by cases h) .nil) List.nodup_nil (λj hj=>by cases hj)).mono ?_
  rintro x X2 ⟨rfl,hlr⟩
  obtain⟨K2,I2,S2⟩:=S1.step (J:=[]) (λj hj=>by cases hj) hlr
  simp-implicitDefEqProofs[aa]
  exact S2.lr
 by_cases o2:e.op=2
 ·rw[if_neg o1,if_pos o2] at hfE
  rw[hfE]
  rw[o2] at hbo
  have hF:=NI G hS0.ls.here (hV.more [bo]) hvl e.name
  simp-implicitDefEqProofs[-AV.cells,-AV.isCell,aI,af,ag,au,ah,aH,ae,aw,aj,dk,o1,o2]
  rw[←hbo]
  refine hF.mono ?_
  rintro x h1 ⟨rfl,rfl⟩
  simp-implicitDefEqProofs[aa]
  exact hS0.lr
 by_cases o10:e.op=10
 ·rw[if_neg o1,if_neg o2,if_pos o10] at hfE
  rw[hfE]
  obtain⟨a,b,hk⟩:=Dz hf o10
  have hF:=SE G hk (ih a (jb hf (by rw[hk];simp))) (ih b (jb hf (by rw[hk];simp))) hS0.ls hok hB (kE hS0).2.1 (kE hS0).2.2
  rw[hc] at hF
  rw[o10] at hbo hF
  simp-implicitDefEqProofs[-AV.cells,-AV.isCell,aI,af,ag,au,ah,aH,ae,aw,aj,dk,o1,o2,o10]
  rw[←hbo]
  refine hF.mono ?_
  rintro x X1 ⟨rfl,hlr⟩
  obtain⟨K1,I1,S1⟩:=hS0.step (J:=[]) (λj hj=>by cases hj) (by rw[WT];exact hlr)
  simp-implicitDefEqProofs[aa]
  exact S1.lr
 rw[if_neg o1,if_neg o2,if_neg o10] at hfE
 have hal:=bL e.kids
 have hbl:(h++[bo]).length=h.length+1:=by simp
 simp-implicitDefEqProofs[-AV.cells,-AV.isCell,aI,af,ag,au,ah,aH,ae,aw,aj,dk,o1,o2,o10,hxl]
 refine Ra 1 (λts' X=>∃oid K1 I1,Stg (lwR l pr V nx) L I E h (h++[bo]) (bj (faI l) (rgV vs) e.kids w).2 X K1 I1/\X[oid]?=some (og (bj (faI l) (rgV vs) e.kids w).1)/\h.length<oid/\oid∉E/\oid∉L::I1/\∃z,ts'=az 84 ((34,z)::(33,.p (.int .i64 e.kids.length))::(32,.p (.lst 4 (e.kids.map Ex.cs)))::(31,.ptr h.length 4 0 3)::(30,.p (.int .i64 e.kids.length))::[(5,.sl oid 1 0 e.kids.length),(6,.p (.int .i64 e.kids.length)),(3,.ptr h.length 4 0 0),(0,.ptr L 8 0 0)])) (λQ' qE=>?_) ?_
 ·clear hfE
  rw[hxl] at hbo
  have S00:Stg (lwR l pr V nx) L I E h (h++[bo]) w (h++[bo]++[.row 1 []]) K I:=hS0.more _
  have e0:h++[bo]++[AO.row 1 []]=h++[bo,.row 1 []]:=by simp
  rw[e0] at S00
  have hvE:h.length+1∉E:=λhm=>by have:=(hS0.ap _ hm).1;simp at this
  refine aN (λa:MpQ=>az 84 [(5,.sl a.o 1 0 a.i),(6,.p (.int .i64 a.i)),(3,.ptr h.length 4 0 0),(0,.ptr L 8 0 0)]) (λa=>a.X)
   (λa=>a.i<=e.kids.length/\∃K1 I1,Stg (lwR l pr V nx) L I E h (h++[bo]) (bj (faI l) (rgV vs) (e.kids.take a.i) w).2 a.X K1 I1/\a.X[a.o]?=some (og (bj (faI l) (rgV vs) (e.kids.take a.i) w).1)/\h.length<a.o/\a.o∉E/\a.o∉L::I1) (λa=>e.kids.length-a.i) ⟨0,h++[bo,.row 1 []],h.length+1⟩ ⟨Xg _,K,I,by rw[List.take_zero,bj];exact S00,by rw[List.take_zero,bj,←e0,WD (by simp)];simp[og],by simp,hvE,by
     simp only[WC,not_or]
     exact⟨by omega,λhm=>by have:=H.own.lt hm;omega⟩⟩ ?_ ?_
  ·rw[hbo]
   exact am (by simp) (by simp[below];omega)
  rintro⟨i,X,o⟩ ⟨hi,K1,I1,S,hx,ho,hoE,hoI⟩
  simp only at hi S hx ho hoE hoI
  have hXl:=S.fr.1
  have hXL:=S.ls.lt
  have hox:o<X.length:=(Wy.1 hx).1
  have hlen:(bj (faI l) (rgV vs) (e.kids.take i) w).1.length=i:=by rw[gd,WX];omega
  obtain⟨y0,yV,yd⟩:=kE S
  rw[hbo] at y0
  have hbX:h.length<X.length:=(Wy.1 y0).1
  simp-implicitDefEqProofs[y0]
  refine aO (λhc1=>?_) (λhc1=>?_)
  ·simp at hc1
   have hg:=Wz hc1
   have hm:=WN hc1
   have htk:=vf (fa:=faI l) (sc:=rgV vs) hc1 w
   have hok1:=(jL (faI l) (rgV vs) (e.kids.take i) w B hok).1
   have hzt:aM (e.kids.take i)+e.kids[i].sz<=aM e.kids:=by
    have h1:=Xj (i+1) e.kids
    have h2:aM e.kids=aM (e.kids.take (i+1))+aM (e.kids.drop (i+1)):=by
     conv=>lhs;rw[←h1]
     rw[bM]
    rw[aq hc1,bM] at h2
    simp only[aM] at h2
    omega
   have hcall:=ih e.kids[i] (jb hf hm) _ _ K1 I1 _ S.ls hok1 (by omega) yV yd
   generalize e.kids[i]=k at*
   have hkc:=k.cs_eq
   generalize bj (faI l) (rgV vs) (e.kids.take i) w=cur at*
   obtain⟨out,w1⟩:=cur
   simp only at htk hcall hok1 S hx hlen
   rw[hkc] at hcall
   simp-implicitDefEqProofs[-AV.cells,-AV.isCell,aI,af,ag,au,ah,aH,ae,aw,aj,y0,hg,hkc]
   refine hcall.mono ?_
   rintro r X2 ⟨rfl,hlr⟩
   have hl2:X.length<=X2.length:=by obtain⟨_,_,_,a,_⟩:=hlr;exact a.1
   have hx2:X2[o]?=some (og out):=by
    obtain⟨_,_,_,a,_⟩:=hlr
    rw[a.2 o hox hoI];exact hx
   have hE2:∀j∈o::E,j<X.length/\j∉L::I1:=λj hj=>by
    rcases WC.1 hj with rfl|hj
    ·exact⟨hox,hoI⟩
    ·exact S.ap j hj
   obtain⟨K2,I2,S2o⟩:=(show Stg (lwR l pr V nx) L I (o::E) h X w1 X K1 I1 from⟨S.ls,S.fr,S.sub,λ_ _=>rfl,hE2,WK _⟩).step (J:=[]) (λj hj=>by cases hj) (by rw[WT];exact hlr)
   have hoI2:o∉L::I2:=(S2o.ap o (by simp)).2
   have S2:Stg (lwR l pr V nx) L I E h (h++[bo]) _ X2 K2 I2:=⟨S2o.ls,S2o.fr,S2o.sub,λj hj=>(S2o.keep j (by simp[hj])).trans (S.keep j hj),λj hj=>S2o.ap j (by simp[hj]),Xs S.ge hl2⟩
   have hx2':∀t,(X2++t)[o]?=some (.row 1 (out.map λn=>[AV.p (.int .i64 n)])):=λt=>by rw[Wx (by omega)];exact hx2
   have hot:List.take i (out.map λn=>[AV.p (.int .i64 n)])=out.map λn=>[AV.p (.int .i64 n)]:=WF (by simp;omega)
   simp-implicitDefEqProofs[-AV.cells,-AV.isCell,aI,af,ag,au,ah,aH,ae,aw,aj,aa,hx2',hlen,hot]
   refine⟨by omega,⟨i+1,_,X2.length+1⟩,⟨by simp only;omega,K2,I2,by
    rw[htk]
    exact S2.upd (oid:=o) (by simp;omega) (λj hj hn=>by rw[Wx (by simp;omega),WB (Ne.symm hn),Wx hj]) (by omega) hoE hoI2,?_,by simp only;omega,λhm=>by have:=(S2.ap _ hm).1;simp only at this;omega,?_⟩,by simp only;omega,am (by simp;omega) ?_⟩
   ·rw[htk,WD (by simp)];simp[og]
   ·simp only[WC,not_or]
    exact⟨by have:=S2.ls.lt;omega,λhm=>by have:=S2.ls.own.lt hm;omega⟩
   ·simp[below,show IntKind.i64.wrap ((i:Int)+1)=(i:Int)+1 from ab (by omega) (by omega)]
    omega
  ·simp at hc1
   have hie:i=e.kids.length:=by omega
   subst hie
   rw[WZ] at S hx hlen
   simp-implicitDefEqProofs[]
   exact qE _ _ ⟨o,K1,I1,S,hx,ho,hoE,hoI,_,rfl⟩
 ·rintro ts' X ⟨oid,K1,I1,S,hx,ho,hoE,hoI,z,rfl⟩
  obtain⟨y0,yV,yd⟩:=kE S
  rw[hbo] at y0
  obtain⟨okM,lenM⟩:=jL (faI l) (rgV vs) e.kids w B hok
  have hlm:=gd (faI l) (rgV vs) e.kids w
  rw[hfE]
  generalize bj (faI l) (rgV vs) e.kids w=m at*
  have hA:OwnL false X [.sl oid 1 0 e.kids.length] [bF m.1] [oid]:=uo hx hlm.symm
  have hJE:∀j∈[oid],h.length<=j/\j∉E:=λj hj=>by rw[WG.1 hj];exact⟨by omega,hoE⟩
  have hF:AC Tryz.prog G bY [.ptr L 8 0 0] X λx X1=>x= .ret (.p (.int .i64 m.2.regs))/\X1[h.length]?=some bo/\(∃K2,X1[L]?=some (lwR l pr V nx m.2.reg K2))/\∀q,AC Tryz.prog G cI [.ptr L 8 0 0,.p (.int .i64 (iS e.op)),.p (.int .i64 m.2.regs),.p (.int .i64 q),.sl oid 1 0 e.kids.length] X1 λx X2=>x= .ret (.p (.int .i64 m.2.regs))/\LR (lwR l pr V nx) L (m.2.mk' (iS e.op) q m.1) I h X2:=by
   refine(nL G S.ls (by have:=okM.regs;omega)).mono ?_
   rintro x X1 ⟨rfl,hlr⟩
   have S1:Stg (lwR l pr V nx) L I (oid::E) h X m.2 X K1 I1:=⟨S.ls,S.fr,S.sub,λ_ _=>rfl,λj hj=>by
    rcases WC.1 hj with rfl|hj
    ·exact⟨(Wy.1 hx).1,hoI⟩
    ·exact S.ap j hj,WK _⟩
   obtain⟨K2,I2,S2⟩:=S1.step (J:=[]) (λj hj=>by cases hj) (by rw[WT];exact hlr)
   refine⟨rfl,by rw[S2.keep h.length (by rw[hE];simp),y0,←hbo],⟨K2,S2.ls.here⟩,λq=>?_⟩
   refine(sW G S2.ls okM.reg (by omega) ⟨iS e.op,m.2.regs,m.1,q⟩ (hA.frame λj hj=>S2.keep j (by rw[WG.1 hj];simp)) (by simp) (λj hj=>by
    have:=(S2.ap oid (by simp)).2
    rw[WG.1 hj]
    simpa using this)).mono ?_
   rintro x X3 ⟨rfl,hlr⟩
   have S2':Stg (lwR l pr V nx) L I E h X m.2.reg X1 K2 I2:=⟨S2.ls,S2.fr,S2.sub,λj hj=>S2.keep j (by simp[hj]),λj hj=>S2.ap j (by simp[hj]),S2.ge⟩
   obtain⟨K3,I3,S3⟩:=S2'.step hJE hlr
   exact⟨rfl,S3.lr⟩
  simp-implicitDefEqProofs[-AV.cells,-AV.isCell,aI,af,ag,au,ah,aH,ae,aw,aj,y0,hbo]
  refine aO (λc11=>?_) (λc11=>?_)
  ·have c11:e.op=11:=by simpa using c11
   have hq:(if e.op=13 then faI l e.name else 0)=0:=if_neg (by omega)
   rw[hq]
   rw[show iS e.op=10 by rw[c11];rfl] at hF⊢
   simp-implicitDefEqProofs[-AV.cells,-AV.isCell,aI,af,ag,au,ah,aH,ae,aw,aj]
   refine hF.mono ?_
   rintro x X1 ⟨rfl,y1,⟨K2,yL2⟩,hP⟩
   simp-implicitDefEqProofs[-AV.cells,-AV.isCell,aI,af,ag,au,ah,aH,ae,aw,aj,aa]
   refine(hP 0).mono ?_
   rintro x X2 ⟨rfl,hlr⟩
   simp-implicitDefEqProofs[aa]
   exact hlr
  have c11:¬e.op=11:=by simpa using c11
  simp-implicitDefEqProofs[-AV.cells,-AV.isCell,aI,af,ag,au,ah,aH,ae,aw,aj]
  refine aO (λc12=>?_) (λc12=>?_)
  ·have c12:e.op=12:=by simpa using c12
   have hq:(if e.op=13 then faI l e.name else 0)=0:=if_neg (by omega)
   rw[hq]
   rw[show iS e.op=11 by rw[c12];rfl] at hF⊢
   simp-implicitDefEqProofs[-AV.cells,-AV.isCell,aI,af,ag,au,ah,aH,ae,aw,aj]
   refine hF.mono ?_
   rintro x X1 ⟨rfl,y1,⟨K2,yL2⟩,hP⟩
   simp-implicitDefEqProofs[-AV.cells,-AV.isCell,aI,af,ag,au,ah,aH,ae,aw,aj,aa]
   refine(hP 0).mono ?_
   rintro x X2 ⟨rfl,hlr⟩
   simp-implicitDefEqProofs[aa]
   exact hlr
  have c12:¬e.op=12:=by simpa using c12
  simp-implicitDefEqProofs[-AV.cells,-AV.isCell,aI,af,ag,au,ah,aH,ae,aw,aj]
  have yL:=S.ls.here
  simp only[lwR] at yL
  refine aO (λc13=>?_) (λc13=>?_)
  ·have c13:e.op=13:=by simpa using c13
   have hq:(if e.op=13 then faI l e.name else 0)=ixI (da l e.name):=by rw[if_pos c13,Nn]
   rw[hq]
   rw[show iS e.op=14 by rw[c13];rfl] at hF⊢
   simp-implicitDefEqProofs[-AV.cells,-AV.isCell,aI,af,ag,au,ah,aH,ae,aw,aj,y0,yL]
   refine hF.mono ?_
   rintro x X1 ⟨rfl,y1,⟨K2,yL2⟩,hP⟩
   rw[hbo] at y1
   simp only[lwR] at yL2
   simp-implicitDefEqProofs[-AV.cells,-AV.isCell,aI,af,ag,au,ah,aH,ae,aw,aj,aa,y1,yL2]
   refine((Iz G l e.name (by omega)).ac (by simp[below]) (by simp[below]) _).mono ?_
   rintro x X1' ⟨rfl,rfl⟩
   simp-implicitDefEqProofs[-AV.cells,-AV.isCell,aI,af,ag,au,ah,aH,ae,aw,aj,aa,y1,yL2]
   refine(hP _).mono ?_
   rintro x X2 ⟨rfl,hlr⟩
   simp-implicitDefEqProofs[aa]
   exact hlr
  ·have c13:¬e.op=13:=by simpa using c13
   have hq:(if e.op=13 then faI l e.name else 0)=0:=if_neg c13
   rw[hq]
   rw[show iS e.op=e.op by rw[iS,if_neg c11,if_neg c12,if_neg c13]] at hF⊢
   simp-implicitDefEqProofs[-AV.cells,-AV.isCell,aI,af,ag,au,ah,aH,ae,aw,aj,y0,yL]
   refine hF.mono ?_
   rintro x X1 ⟨rfl,y1,⟨K2,yL2⟩,hP⟩
   rw[hbo] at y1
   simp-implicitDefEqProofs[-AV.cells,-AV.isCell,aI,af,ag,au,ah,aH,ae,aw,aj,aa,y1]
   refine(hP 0).mono ?_
   rintro x X2 ⟨rfl,hlr⟩
   simp-implicitDefEqProofs[aa]
   exact hlr
end
section
structure RS (l:List Fd) (pr:Int) (L:Nat) (S I0 E:List Nat) (h:List AO) (w:Lw) (nx:Nat) (vs:Vs) (X:List AO) (K V:AV) (I:List Nat):Prop where
 stb:Stb (lwR l pr V nx) L S I0 (vi V++E) h w X K I
 va:VAt X V vs
 vE:∀i∈vi V,i∉E/\(i∈S\/h.length<=i)
section
variable {l:List Fd} {pr:Int} {L:Nat} {S I0 E E2:List Nat} {h:List AO} {w w2:Lw} {nx nx2:Nat} {vs vs2:Vs} {X X2:List AO} {K K2 V V2:AV} {I I2 J:List Nat}
theorem RS.more(T:RS l pr L S I0 E h w nx vs X K V I)(os:List AO):RS l pr L S I0 E h w nx vs (X++os) K V I:=⟨T.stb.more os,T.va.more os,T.vE⟩
theorem RS.few(T:RS l pr L S I0 E h w nx vs X K V I)(hE:∀i∈E2,i∈E):RS l pr L S I0 E2 h w nx vs X K V I:=
 ⟨⟨T.stb.ls,T.stb.fr,T.stb.hL,T.stb.hS,T.stb.sub,λi hi=>T.stb.ap i (by
   rcases WE.1 hi with h|h
   ·exact WE.2 (.inl h)
   ·exact WE.2 (.inr (hE i h)))⟩,T.va,λi hi=>⟨λh=>(T.vE i hi).1 (hE i h),(T.vE i hi).2⟩⟩
theorem RS.add(T:RS l pr L S I0 E h w nx vs X K V I){j:Nat}(h1:j<X.length)(h2:j∉L::I)(h3:j∉vi V):RS l pr L S I0 (j::E) h w nx vs X K V I:=
 ⟨⟨T.stb.ls,T.stb.fr,T.stb.hL,T.stb.hS,T.stb.sub,λi hi=>by
   rcases WE.1 hi with h|h
   ·exact T.stb.ap i (WE.2 (.inl h))
   ·rcases WC.1 h with rfl|h
    ·exact⟨h1,h2⟩
    ·exact T.stb.ap i (WE.2 (.inr h))⟩,T.va,λi hi=>⟨λh=>by
   rcases WC.1 h with rfl|h
   ·exact h3 hi
   ·exact(T.vE i hi).1 h,(T.vE i hi).2⟩⟩
theorem RS.box(T:RS l pr L S I0 E h w nx vs X K V I)(o:AO):RS l pr L S I0 (X.length::E) h w nx vs (X++[o]) K V I:=
 (T.more [o]).add (by simp) (by
   simp only[WC,not_or]
   exact⟨by have:=T.stb.ls.lt;omega,λhm=>by have:=T.stb.ls.own.lt hm;omega⟩) (λhm=>by have:=T.va.lt _ hm;omega)
theorem RS.start(T:RS l pr L S I0 E h w nx vs X K V I):RS l pr L (L::(vi V++I)) I [] X w nx vs X K V I:=
 ⟨⟨T.stb.ls,Frm.refl _ _,by simp,λj hj=>by simp[hj],λj hj=> .inl hj,λi hi=>T.stb.ap i (by rw[WT] at hi;exact WE.2 (.inl hi))⟩,T.va,λi hi=>⟨by simp,.inl (by simp[hi])⟩⟩
theorem RS.of(H:LS (lwR l pr V nx) L w h K I)(hV:VAt h V vs)(hVd:∀i∈vi V,i∉L::I):RS l pr L (L::(vi V++I)) I [] h w nx vs h K V I:=
 ⟨⟨H,Frm.refl _ _,by simp,λj hj=>by simp[hj],λj hj=> .inl hj,λi hi=>by rw[WT] at hi;exact⟨hV.lt i hi,hVd i hi⟩⟩,hV,λi hi=>⟨by simp,.inl (by simp[hi])⟩⟩
theorem RS.at(T:RS l pr L S I0 E h w nx vs X K V I):(∀i∈E,i<X.length/\i∉L::I)/\(∀i∈vi V,i<X.length/\i∉L::I):=
 ⟨λi hi=>T.stb.ap i (by simp[hi]),λi hi=>T.stb.ap i (by simp[hi])⟩
theorem RS.fresh(T:RS l pr L S I0 E h w nx vs X K V I):(∀j∈[X.length],h.length<=j/\j∉vi V++E)/\(∀j∈[X.length],j≠L/\j∉I):=T.stb.fresh
theorem RS.step(T:RS l pr L S I0 E h w nx vs X K V I)(hJ:∀j∈J,h.length<=j/\j∉vi V++E)(H:LR (lwR l pr V nx) L w2 (I++J) X X2):∃K2 I2,RS l pr L S I0 E h w2 nx vs X2 K2 V I2/\∀i∈E,X2[i]?=X[i]?:=by
 obtain⟨K2,I2,a1,a2⟩:=T.stb.step hJ H
 exact⟨K2,I2,⟨a1,T.va.frame λi hi=>a2 i (by simp[hi]),T.vE⟩,λi hi=>a2 i (by simp[hi])⟩
theorem RS.lift(T:RS l pr L S I0 E h w nx vs X K V I)(T2:RS l pr L (L::(vi V++I)) I [] X w2 nx2 vs2 X2 K2 V2 I2):RS l pr L S I0 E h w2 nx2 vs2 X2 K2 V2 I2/\∀i∈E,X2[i]?=X[i]?:=by
 have hX:=T.stb.fr.1
 have hX2:=T2.stb.fr.1
 refine⟨⟨⟨T2.stb.ls,T.stb.fr.trans T2.stb.fr λj hj=>?_,T.stb.hL,T.stb.hS,λj hj=>?_,λi hi=>?_⟩,T2.va,λi hi=>⟨λhE=>?_,?_⟩⟩,λi hi=>?_⟩
 ·simp only[WC,WE] at hj
  rcases hj with rfl|hj|hj
  ·exact .inl T.stb.hL
  ·exact(T.vE j hj).2
  ·rcases T.stb.sub j hj with h|h
   ·exact .inl (T.stb.hS j h)
   ·exact .inr h
 ·rcases T2.stb.sub j hj with h|h
  ·exact T.stb.sub j h
  ·exact .inr (by omega)
 ·rcases WE.1 hi with h|h
  ·exact T2.stb.ap i (by simp[h])
  ·have h1:=T.at.1 i h
   refine⟨by omega,λhm=>?_⟩
   have h2:=h1.2
   simp only[WC,not_or] at h2 hm
   rcases hm with hm|hm
   ·exact h2.1 hm
   ·rcases T2.stb.sub i hm with h|h
    ·exact h2.2 h
    ·omega
 ·have h1:=T.at.1 i hE
  rcases(T2.vE i hi).2 with h|h
  ·simp only[WC,WE] at h
   rcases h with rfl|h|h
   ·exact h1.2 (by simp)
   ·exact(T.vE i h).1 hE
   ·exact h1.2 (by simp[h])
  ·omega
 ·rcases(T2.vE i hi).2 with h|h
  ·simp only[WC,WE] at h
   rcases h with rfl|h|h
   ·exact .inl T.stb.hL
   ·exact(T.vE i h).2
   ·rcases T.stb.sub i h with h|h
    ·exact .inl (T.stb.hS i h)
    ·exact .inr h
  ·exact .inr (by omega)
 ·have h1:=T.at.1 i hi
  have h2:=h1.2
  simp only[WC,not_or] at h2
  refine T2.stb.fr.2 i h1.1 ?_
  simp only[WC,WE,not_or]
  exact⟨h2.1,λhm=>(T.vE i hm).1 hi,h2.2⟩
theorem RS.alt(T:RS l pr L S I0 E h w nx vs X K V I)(hX:X.length<=X2.length)(hL:X2[L]?=some (lwR l pr V2 nx2 w K))(e:∀i,i<X.length->i≠L->i∉vi V->X2[i]?=X[i]?)(hv:VAt X2 V2 vs2)(hv2:∀i∈vi V2,i∈vi V\/X.length<=i):RS l pr L S I0 E h w nx2 vs2 X2 K V2 I/\∀i∈E,X2[i]?=X[i]?:=by
 have hXl:=T.stb.fr.1
 have hI:∀i∈I,X2[i]?=X[i]?:=λi hi=>e i (T.stb.ls.own.lt hi) (λe=>(WW.1 T.stb.ls.nd).1 (e▸hi)) λhm=>(T.at.2 i hm).2 (by simp[hi])
 refine⟨⟨⟨⟨hL,T.stb.ls.own.frame hI,T.stb.ls.nd,T.stb.ls.noc.1,λkid n rows eK hg=>?_⟩,T.stb.fr.trans (T:=L::vi V) ⟨hX,λi hi hn=>?_⟩ λj hj=>?_,T.stb.hL,T.stb.hS,T.stb.sub,λi hi=>?_⟩,hv,λi hi=>⟨λhE=>?_,?_⟩⟩,λi hi=>?_⟩
 ·have ho:=T.stb.ls.own
  rw[eK] at ho
  rw[hI kid (zR ho)] at hg
  exact T.stb.ls.noc.2 kid n rows eK hg
 ·simp only[WC,not_or] at hn
  exact e i hi hn.1 hn.2
 ·rcases WC.1 hj with rfl|hj
  ·exact .inl T.stb.hL
  ·exact(T.vE j hj).2
 ·rcases WE.1 hi with h|h
  ·refine⟨hv.lt i h,?_⟩
   rcases hv2 i h with h|h
   ·exact(T.at.2 i h).2
   ·simp only[WC,not_or]
    exact⟨by have:=T.stb.ls.lt;omega,λhm=>by have:=T.stb.ls.own.lt hm;omega⟩
  ·have:=T.at.1 i h
   exact⟨by omega,this.2⟩
 ·rcases hv2 i hi with h|h
  ·exact(T.vE i h).1 hE
  ·have:=(T.at.1 i hE).1;omega
 ·rcases hv2 i hi with h|h
  ·exact(T.vE i h).2
  ·exact .inr (by omega)
 ·have h1:=T.at.1 i hi
  refine e i h1.1 (λe=>h1.2 (by simp[e])) λhm=>(T.vE i hm).1 hi
theorem VAt.form(H:VAt X V vs):(V= .nils/\vs=[])\/∃vid,V= .sl vid 3 0 vs.length:=by
 cases H with
 |nil=>exact .inl ⟨rfl,rfl⟩
 |sl vid rows _ _ _=>exact .inr ⟨vid,rfl⟩
variable (G:aK)
theorem oc(T:RS l pr L S I0 E h w nx vs X K V I){B:Nat}(hok:w.Ok B)(hB:B<=1073741824):
 AC Tryz.prog G cM [.ptr L 8 0 0] X λr h'=>r= .ret (.p (.int .i64 w.bs.length))/\∃K' I',RS l pr L S I0 E h (w.name 1) nx vs h' K' V I'/\∀i∈E,h'[i]?=X[i]?:=
 (Aa G T.stb.ls hok hB ⟨T.va.is.1,T.va.is.2.1⟩).mono λr h' ⟨a,b⟩=>⟨a,T.step (J:=[]) (λj hj=>by cases hj) (by rw[WT];exact b)⟩
theorem zQ(T:RS l pr L S I0 E h w nx vs X K V I){B:Nat}(hok:w.Ok B)(j o:Int)(a:Int)(g:Nat){gI:Int}(hg:gI=(g:Int)):
 AC Tryz.prog G bQ [.ptr L 8 0 0,.p (.int .i64 j),.p (.int .i64 o),.sl X.length 1 0 1,.p (.int .i64 gI)] (X++[.row 1 [[.p (.int .i64 a)]]]) λr h'=>r= .ret (.tup [])/\∃K' I',RS l pr L S I0 E h (w.fin j o g [a]) nx vs h' K' V I'/\∀i∈E,h'[i]?=X[i]?:=by
 obtain⟨f1,f2⟩:=T.fresh
 have hm:=rt G (T.stb.ls.more [.row 1 ([a].map λn=>[AV.p (.int .i64 n)])]) hok j o g [a] (cX X [a] rfl) (by simp) f2
 simp only[WY,Xv,WP,Xm] at hm
 rw[hg]
 refine hm.mono λr h' ⟨e,b⟩=>⟨e,?_⟩
 obtain⟨K2,I2,a1,a2⟩:=(T.more [_]).step f1 b
 exact⟨K2,I2,a1,λi hi=>(a2 i hi).trans (Wx (T.at.1 i hi).1)⟩
theorem Jw(T:RS l pr L S I0 E h w nx vs X K V I){B:Nat}(hok:w.Ok B)(j o:Int)(a b:Int)(g:Nat){gI:Int}(hg:gI=(g:Int)):
 AC Tryz.prog G bQ [.ptr L 8 0 0,.p (.int .i64 j),.p (.int .i64 o),.sl X.length 1 0 2,.p (.int .i64 gI)] (X++[.row 1 [[.p (.int .i64 a)],[.p (.int .i64 b)]]]) λr h'=>r= .ret (.tup [])/\∃K' I',RS l pr L S I0 E h (w.fin j o g [a,b]) nx vs h' K' V I'/\∀i∈E,h'[i]?=X[i]?:=by
 obtain⟨f1,f2⟩:=T.fresh
 have hm:=rt G (T.stb.ls.more [.row 1 ([a,b].map λn=>[AV.p (.int .i64 n)])]) hok j o g [a,b] (cX X [a,b] rfl) (by simp) f2
 simp only[WY,Xv,WP,Xm] at hm
 rw[hg]
 refine hm.mono λr h' ⟨e,b⟩=>⟨e,?_⟩
 obtain⟨K2,I2,a1,a2⟩:=(T.more [_]).step f1 b
 exact⟨K2,I2,a1,λi hi=>(a2 i hi).trans (Wx (T.at.1 i hi).1)⟩
theorem Qg(T:RS l pr L S I0 E h w nx vs X K V I){B:Nat}(hok:w.Ok B)(j o:Int)(g:Nat){gI:Int}(hg:gI=(g:Int)):
 AC Tryz.prog G bQ [.ptr L 8 0 0,.p (.int .i64 j),.p (.int .i64 o),.p (bF []),.p (.int .i64 gI)] X λr h'=>r= .ret (.tup [])/\∃K' I',RS l pr L S I0 E h (w.fin j o g []) nx vs h' K' V I'/\∀i∈E,h'[i]?=X[i]?:=by
 rw[hg]
 exact(rt G T.stb.ls hok j o g [] (Y:= .p (bF [])) (J:=[]) (.p _ (λh=>by cases h) .nil) List.nodup_nil (λj hj=>by cases hj)).mono λr h' ⟨e,b⟩=>⟨e,T.step (J:=[]) (λj hj=>by cases hj) b⟩
theorem JC(T:RS l pr L S I0 E h w nx vs X K V I){B:Nat}(hok:w.Ok B)(hB:B<=1073741824)(x:Ii){A:AV}(hA:OwnL false X [A] [bF x.args] J)(ndJ:J.Nodup)(hJ:∀j∈J,h.length<=j/\j∉vi V++E)(hJ2:∀j∈J,j≠L/\j∉I):
 AC Tryz.prog G cI [.ptr L 8 0 0,.p (.int .i64 x.op),.p (.int .i64 x.to),.p (.int .i64 x.n),A] X λr h'=>r= .ret (.p (.int .i64 x.to))/\∃K' I',RS l pr L S I0 E h (w.put x) nx vs h' K' V I'/\∀i∈E,h'[i]?=X[i]?:=
 (sW G T.stb.ls hok hB x hA ndJ hJ2).mono λr h' ⟨e,b⟩=>⟨e,T.step hJ b⟩
theorem RD(T:RS l pr L S I0 E h w nx vs X K V I){B:Nat}(hok:w.Ok B){e:Ex}(hB:B+8*e.sz<=1073741823)(he:ExR G l pr L V nx vs e):
 AC Tryz.prog G bA [.ptr L 8 0 0,.agg (e.cs.map .p)] X λx h'=>x= .ret (.p (.int .i64 (lwE (faI l) (rgV vs) e w).1))/\∃K' I',RS l pr L S I0 E h (lwE (faI l) (rgV vs) e w).2 nx vs h' K' V I'/\∀i∈E,h'[i]?=X[i]?:=
 (he w X K I B T.stb.ls hok hB T.va (λi hi=>(T.at.2 i hi).2)).mono λr h' ⟨e,b⟩=>⟨e,T.step (J:=[]) (λj hj=>by cases hj) (by rw[WT];exact b)⟩
def Lq(l0:List Fd)(pr:Int)(L:Nat)(l:List Sm):Prop:=∀(w:Lw) (h:List AO) (K V:AV) (I:List Nat) (B:Nat) (vs:Vs) (nx:Nat) (m:Scp) (up:List Scp),RS l0 pr L (L::(vi V++I)) I [] h w nx vs h K V I->w.Ok B->B+20*aC l<=1073741000->nx+aC l<=1073741000->vs.length+aC l<=1073741000->rgV vs=scF (-1) (m::up)->
 AC Tryz.prog G bH [.ptr L 8 0 0,.p (smL l)] h λx h'=>x= .ret (.tup [])/\∃K' V' I',RS l0 pr L (L::(vi V++I)) I [] h (aW (faI l0) (-1) l m up nx w).2.2 (aW (faI l0) (-1) l m up nx w).2.1 vs h' K' V' I'
def StR(l0:List Fd)(pr:Int)(L:Nat)(s:Sm):Prop:=∀(w:Lw) (h:List AO) (K V:AV) (I:List Nat) (B:Nat) (vs:Vs) (nx:Nat) (m:Scp) (up:List Scp),RS l0 pr L (L::(vi V++I)) I [] h w nx vs h K V I->w.Ok B->B+20*s.sz<=1073741000->nx+s.sz<=1073741000->vs.length+s.sz<=1073741000->rgV vs=scF (-1) (m::up)->
 AC Tryz.prog G iy [.ptr L 8 0 0,.agg (s.cs.map .p)] h λx h'=>x= .ret (.tup [])/\∃vs' K' V' I',RS l0 pr L (L::(vi V++I)) I [] h (lwS (faI l0) (-1) s m up nx w).2.2 (lwS (faI l0) (-1) s m up nx w).2.1 vs' h' K' V' I'/\vs'.take vs.length=vs/\vs.length<=vs'.length/\vs'.length<=vs.length+1/\rgV vs'=scF (-1) ((lwS (faI l0) (-1) s m up nx w).1::up)
theorem zM{b:List Sm}(hb:Lq G l pr L b)(T:RS l pr L S I0 E h w nx vs X K V I){B:Nat}{m:Scp}{up:List Scp}(hok:w.Ok B)(h1:B+20*aC b<=1073741000)(h2:nx+aC b<=1073741000)(h3:vs.length+aC b<=1073741000)(h4:rgV vs=scF (-1) (m::up)):
 AC Tryz.prog G bH [.ptr L 8 0 0,.p (smL b)] X λx h'=>x= .ret (.tup [])/\∃K' V' I',RS l pr L S I0 E h (aW (faI l) (-1) b m up nx w).2.2 (aW (faI l) (-1) b m up nx w).2.1 vs h' K' V' I'/\∀i∈E,h'[i]?=X[i]?:=
 (hb w X K V I B vs nx m up T.start hok h1 h2 h3 h4).mono λr h' ⟨e,K',V',I',T2⟩=>⟨e,K',V',I',T.lift T2⟩
end
end
section
theorem NW{fa:List UInt8->Int}{d:Int}{s:Sm}(h:s.op=6){a0:Ex}{ar:List Ex}(ha:s.args=a0::ar)(m:Scp)(up:List Scp)(nx:Nat)(w:Lw){x:Int × Lw}(hx:x=lwE fa (scF d (m::up)) a0 ((w.name 3).fin 1 0 w.bs.length [(w.bs.length:Int)])){y:Scp × Nat × Lw}(hy:y=aW fa d s.body [] (m::up) nx (x.2.fin 2 x.1 (w.bs.length+1) [(w.bs.length:Int)+1,(w.bs.length:Int)+2])):
 lwS fa d s m up nx w=(m,y.2.1,y.2.2.fin 1 0 (w.bs.length+2) [(w.bs.length:Int)]):=by
 subst hy;subst hx
 obtain⟨o,n,a,bd,el⟩:=s
 simp only[Sm.op,Sm.args] at h ha
 rw[lwS,if_pos h,ha];rfl
theorem MP{fa:List UInt8->Int}{d:Int}{s:Sm}(h:¬s.op=6)(m:Scp)(up:List Scp)(nx:Nat)(w:Lw){x:List Int × Lw}(hx:x=bj fa (scF d (m::up)) s.args w):
 lwS fa d s m up nx w=if s.op=1 then(eQ m s.name nx,nx+1,x.2.put ⟨2,nx,x.1,0⟩)
  else if s.op=2 then(m,nx,x.2.put ⟨2,scF d (m::up) s.name,x.1,0⟩)
  else if s.op=3 then(m,nx,x.2.put ⟨13,-1,x.1,0⟩)
  else if s.op=4 then(m,nx,x.2.put ⟨12,-1,x.1,0⟩)
  else if s.op=5 then
   let t:=x.2.bs.length
   let y:=aW fa d s.body [] (m::up) nx ((x.2.name 3).fin 2 (x.1.headD 0) t [(t:Int),(t:Int)+1])
   let z:=aW fa d s.els [] (m::up) y.2.1 (y.2.2.fin 1 0 (t+1) [(t:Int)+2])
   (m,z.2.1,z.2.2.fin 1 0 (t+2) [(t:Int)+2])
  else if s.op=7 then(m,nx,(x.2.name 1).fin 3 (x.1.headD 0) x.2.bs.length [])
  else(m,nx,x.2):=by
 subst hx
 obtain⟨o,n,a,bd,el⟩:=s
 simp only[Sm.op] at h
 rw[lwS,if_neg h];rfl
variable (G:aK)
structure LbS where (i:Nat) (X:List AO)
def Qa(l0:List Fd)(pr:Int)(L:Nat)(l:List Sm):Prop:=∀(w:Lw) (h:List AO) (K:AV) (I:List Nat) (B:Nat) (C:List Nat) (se sm:Nat) (m:Scp) (up:List Scp) (Q nx:Nat),
 LS (lwO l0 pr) L w h K I->w.Ok B->B+20*aC l<=1073741000->nx+aC l<=1073741000->ChN h (.ptr se 2 0 0) (m::up) (se::sm::C)->(se::sm::C).Nodup->h[Q]?=some (.row 1 [[.p (.int .i64 nx)]])->(∀i∈Q::se::sm::C,i∉L::I)->Q∉se::sm::C->
 AC Tryz.prog G bC [.ptr L 5 0 0,.p (smL l),.ptr se 2 0 0,.ptr Q 1 0 0] h λx h'=>x= .ret (.tup [])/\∃K' I',LS (lwO l0 pr) L (aW (faI l0) 0 l m up nx w).2.2 h' K' I'/\Frm (L::Q::sm::I) h h'/\(∀j∈I',j∈I\/h.length<=j)/\h'[Q]?=some (.row 1 [[.p (.int .i64 (aW (faI l0) 0 l m up nx w).2.1)]])/\h'[sm]?=some (.mp (mpE (aW (faI l0) 0 l m up nx w).1))
theorem Ci(l0:List Fd)(hl0:l0.length<=1073741824)(pr:Int)(L:Nat)(l:List Sm)(hf:∀x∈l,x.args≠[]/\∀a∈x.args,bP 6 a=true)(ih:∀x∈l,Qa G l0 pr L x.body/\Qa G l0 pr L x.els):Qa G l0 pr L l:=by
 intro w h K I B C se sm m up Q nx H hok hB hnx hC hCn hQ hd hQn
 have hsl:∀l,smL l= .lst 5 (l.map Sm.cs):=λ_=>rfl
 have hll:=bE l
 have hLl:=H.lt
 have hQl:=(Wy.1 hQ).1
 obtain⟨bx,hbx⟩:∃bx,bx=[AO.row 1 [[.ptr L 5 0 0]],.row 1 [[.ptr se 2 0 0]]]:=⟨_,rfl⟩
 have hbl:(h++bx).length=h.length+2:=by simp[hbx]
 have hIlt:=λj (hj:j∈I)=>H.own.lt hj
 obtain⟨E0,hE0⟩:∃E0,E0=h.length::(h.length+1)::Q::se::sm::C:=⟨_,rfl⟩
 have hT0:Stb (lwO l0 pr) L (L::Q::sm::I) I E0 h w (h++bx) K I:=⟨H.more bx,Frm.more _ _ _,by simp,λj hj=>by simp[hj],λj hj=> .inl hj,λi hi=>by
  rw[hE0] at hi
  simp only[WC] at hi
  rw[hbl]
  simp only[WC,not_or]
  rcases hi with rfl|rfl|hi
  ·exact⟨by omega,by omega,λhm=>by have:=hIlt _ hm;omega⟩
  ·exact⟨by omega,by omega,λhm=>by have:=hIlt _ hm;omega⟩
  ·have h1:=hd i (by simpa using hi)
   simp only[WC,not_or] at h1
   refine⟨?_,h1⟩
   rcases hi with rfl|hi
   ·omega
   ·have:=hC.lt i (by simpa using hi);omega⟩
 have hB0:Bx L Q h.length (h.length+1) se sm C m up nx (h++bx):=⟨by rw[hbx,WD (WK _)];simp,by rw[hbx,WD (by omega)];simp,hC.more _,by rw[Wx hQl];exact hQ⟩
 refine AC.go oZ ?_
 simp-implicitDefEqProofs[-AV.cells,-AV.isCell,aI,af,ag,au,ah,aH,ae,aw,aj,iN,hsl]
 refine aN (λa:LbS=>az 176 [(3,.ptr Q 1 0 0),(4,.ptr h.length 1 0 0),(6,.ptr (h.length+1) 1 0 0),(16,.p (smL l)),(17,.p (.int .i64 l.length)),(18,.p (.int .i64 a.i))]) (λa=>a.X)
  (λa=>a.i<=l.length/\∃K1 I1,Stb (lwO l0 pr) L (L::Q::sm::I) I E0 h (aW (faI l0) 0 (l.take a.i) m up nx w).2.2 a.X K1 I1/\Bx L Q h.length (h.length+1) se sm C (aW (faI l0) 0 (l.take a.i) m up nx w).1 up (aW (faI l0) 0 (l.take a.i) m up nx w).2.1 a.X) (λa=>l.length-a.i) ⟨0,h++bx⟩ ⟨Xg _,K,I,by rw[List.take_zero,aW];exact hT0,by rw[List.take_zero,aW];exact hB0⟩ ?_ ?_
 ·rw[hbx]
  exact am (by simp) (by simp[below,hsl];omega)
 rintro⟨i,X⟩ ⟨hi,K1,I1,T,F⟩
 simp only at hi T F
 simp-implicitDefEqProofs[hsl]
 refine aO (λhc=>?_) (λhc=>?_)
 ·simp at hc
  have hg:=Wz hc
  have hm:=WN hc
  have htk:=vD (fa:=faI l0) (d:=0) hc m up nx w
  have hok1:=dx (faI l0) 0 (l.take i) m up nx w B hok
  have hzt:aC (l.take i)+l[i].sz<=aC l:=by
   have h1:=Xj (i+1) l
   have h2:aC l=aC (l.take (i+1))+aC (l.drop (i+1)):=by
    conv=>lhs;rw[←h1]
    rw[aX]
   rw[aq hc,aX] at h2
   simp only[aC] at h2
   omega
  obtain⟨hne,hargs⟩:=hf l[i] hm
  obtain⟨ihb,ihe⟩:=ih l[i] hm
  generalize l[i]=s at hg hm htk hzt hne hargs ihb ihe
  generalize aW (faI l0) 0 (l.take i) m up nx w=cur at*
  obtain⟨mc,nc,wc⟩:=cur
  simp only at htk hok1 T F
  obtain⟨okc,_,_,hnc⟩:=hok1
  have hsc:=s.cs_eq
  have hsz:=s.sz_eq
  have hal:=bL s.args
  obtain⟨E,hE⟩:∃E,E=X.length::E0:=⟨_,rfl⟩
  have hEin:∀i∈h.length::(h.length+1)::Q::se::sm::C,i∈E:=λi hi=>by rw[hE,hE0];exact WV _ hi
  have hEx:X.length∈E:=by rw[hE];simp
  have T0:Stb (lwO l0 pr) L (L::Q::sm::I) I E h wc (X++[.row 5 [[.p (.int .i64 s.op),.p (.str s.name),.p (exL s.args),.p (smL s.body),.p (smL s.els)]]]) K1 I1:=by
   have T':=T.more [.row 5 [[.p (.int .i64 s.op),.p (.str s.name),.p (exL s.args),.p (smL s.body),.p (smL s.els)]]]
   refine⟨T'.ls,T'.fr,T'.hL,T'.hS,T'.sub,λi hi=>?_⟩
   rw[hE] at hi
   rcases WC.1 hi with rfl|hi
   ·have:=T.fr.1
    refine⟨by simp,?_⟩
    simp only[WC,not_or]
    exact⟨by have:=T.ls.lt;omega,λhm=>by have:=T.ls.own.lt hm;omega⟩
   ·exact T'.ap i hi
  have F0:=F.more [.row 5 [[.p (.int .i64 s.op),.p (.str s.name),.p (exL s.args),.p (smL s.body),.p (smL s.els)]]]
  have r0:(X++[AO.row 5 [[.p (.int .i64 s.op),.p (.str s.name),.p (exL s.args),.p (smL s.body),.p (smL s.els)]]])[X.length]?=some (.row 5 [[.p (.int .i64 s.op),.p (.str s.name),.p (exL s.args),.p (smL s.body),.p (smL s.els)]]):=by rw[WD (WK _)];simp
  have y0:=F0.box0
  have y1:=F0.box1
  have kQ:Q∈E:=hEin Q (by simp)
  have hQX:Q<X.length:=(T.ap Q (by rw[hE0];simp)).1
  have k0:h.length∈E:=hEin _ (by simp)
  have k1:h.length+1∈E:=hEin _ (by simp)
  have hback:∀{m2:Scp} {n2:Nat} {w2:Lw} {X2:List AO} {K2:AV} {I2:List Nat},lwS (faI l0) 0 s mc up nc wc=(m2,n2,w2)->Stb (lwO l0 pr) L (L::Q::sm::I) I E h w2 X2 K2 I2->Bx L Q h.length (h.length+1) se sm C m2 up n2 X2->i+1<=l.length/\∃K1 I1,Stb (lwO l0 pr) L (L::Q::sm::I) I E0 h (aW (faI l0) 0 (l.take (i+1)) m up nx w).2.2 X2 K1 I1/\Bx L Q h.length (h.length+1) se sm C (aW (faI l0) 0 (l.take (i+1)) m up nx w).1 up (aW (faI l0) 0 (l.take (i+1)) m up nx w).2.1 X2:=λ{m2 n2 w2 X2 K2 I2} e T2 F2=>by
   rw[htk,e]
   exact⟨hc,K2,I2,⟨T2.ls,T2.fr,T2.hL,T2.hS,T2.sub,λi hi=>T2.ap i (by rw[hE];exact WV _ hi)⟩,F2⟩
  have hwk:∀{X2:List AO} {K2:AV} {I2:List Nat} {w2:Lw},Stb (lwO l0 pr) L (L::Q::sm::I) I E h w2 X2 K2 I2->h.length<=X2.length/\Q<X2.length/\h.length<X2.length/\h.length+1<X2.length:=λ{X2 K2 I2 w2} T2=>⟨T2.fr.1,(T2.ap Q kQ).1,(T2.ap _ k0).1,(T2.ap _ k1).1⟩
  have hwi:IntKind.i64.wrap ((i:Int)+1)=(i:Int)+1:=ab (by omega) (by omega)
  simp-implicitDefEqProofs[-AV.cells,-AV.isCell,aI,af,ag,au,ah,aH,ae,aw,aj,hg,hsc]
  refine aO (λo6=>?_) (λo6=>?_)
  ·have o6:s.op=6:=by simpa using o6
   obtain⟨a0,ar,ha⟩:∃a r,s.args=a::r:=by
    match hx:s.args,hne with
    |a::r,_=>exact⟨a,r,rfl⟩
   obtain⟨t,ht⟩:∃t,t=wc.bs.length:=⟨_,rfl⟩
   have hac:=a0.cs_eq
   have hkx:exL s.args= .lst 4 ([.int .i64 a0.op,.int .i64 a0.n,.str a0.name,exL a0.kids]::ar.map Ex.cs):=by rw[ha,←hac];rfl
   have haz:aM s.args=a0.sz+aM ar:=by rw[ha,aM]
   have htb:t<=B+20*aC (l.take i):=by rw[ht];exact okc.bs
   have hwt1:IntKind.i64.wrap ((t:Int)+1)=(t:Int)+1:=ab (by omega) (by omega)
   have hwt2:IntKind.i64.wrap ((t:Int)+2)=(t:Int)+2:=ab (by omega) (by omega)
   rw[o6,hkx] at T0 F0 r0 y0 y1
   simp-implicitDefEqProofs[-AV.cells,-AV.isCell,aI,af,ag,au,ah,aH,ae,aw,aj,y0,r0,o6,hkx]
   refine(zN G T0.ls okc (by omega) 3 (by omega) (by omega)).mono ?_
   rintro x X1 ⟨rfl,hlr⟩
   obtain⟨K1,I1,T1,e1⟩:=(T0).step (J:=[]) (λj hj=>by cases hj) (by rw[WT];exact hlr)
   have F1:=(F0).frame λi hi=>e1 i (hEin i hi)
   have r1:=(e1 X.length hEx).trans r0
   have y0:=F1.box0
   have y1:=F1.box1
   have ok1:=okc.name 3
   obtain⟨f1,f2⟩:=T1.fresh
   have hm2:=mN G (T1.ls.more [.row 1 ([(t:Int)].map λn=>[AV.p (.int .i64 n)])]) ok1 1 (0) (t) [(t:Int)] (cX X1 [(t:Int)] rfl) (by simp) f2
   simp only[WY,Xv,WP,Xm] at hm2
   simp-implicitDefEqProofs[-AV.cells,-AV.isCell,aI,af,ag,au,ah,aH,ae,aw,aj,aa,y0,←ht]
   refine hm2.mono ?_
   rintro x X2 ⟨rfl,hlr⟩
   obtain⟨K2,I2,T2,e2⟩:=(T1.more _).step f1 hlr
   have F2:=(F1.more _).frame λi hi=>e2 i (hEin i hi)
   have r2:=(e2 X.length hEx).trans ((Wx (T1.ap X.length hEx).1).trans r1)
   have y0:=F2.box0
   have y1:=F2.box1
   have ok2:=ok1.fin 1 0 (g:=t) (by simp[←ht]) [(t:Int)]
   simp-implicitDefEqProofs[-AV.cells,-AV.isCell,aI,af,ag,au,ah,aH,ae,aw,aj,aa,y0,y1,r2]
   have h3c:=Ka G l0 hl0 pr L 6 a0 (hargs a0 (by rw[ha];simp)) _ X2 K2 I2 _ (se::sm::C) (.ptr se 2 0 0) (mc::up) T2.ls ok2 (by omega) F2.ch (λi hi=>(T2.ap i (hEin i (by simp only[WC] at hi⊢;rcases hi with rfl|rfl|hi<;>simp[*]))).2)
   obtain⟨ok3,len3⟩:=mX (faI l0) (scF 0 (mc::up)) a0 _ _ ok2
   obtain⟨x3,hx3⟩:∃x3,x3=lwE (faI l0) (scF 0 (mc::up)) a0 ((wc.name 3).fin 1 0 t [(t:Int)]):=⟨_,rfl⟩
   rw[←hx3] at h3c ok3 len3
   rw[hac] at h3c
   simp only[Lw.fin_len,Lw.name_len,←ht] at len3
   refine h3c.mono ?_
   rintro x X3 ⟨rfl,hlr⟩
   obtain⟨K3,I3,T3,e3⟩:=(T2).step (J:=[]) (λj hj=>by cases hj) (by rw[WT];exact hlr)
   have F3:=(F2).frame λi hi=>e3 i (hEin i hi)
   have r3:=(e3 X.length hEx).trans r2
   have y0:=F3.box0
   have y1:=F3.box1
   obtain⟨f1,f2⟩:=T3.fresh
   have hm4:=mN G (T3.ls.more [.row 1 ([(t:Int)+1,(t:Int)+2].map λn=>[AV.p (.int .i64 n)])]) ok3 2 (x3.1) (t+1) [(t:Int)+1,(t:Int)+2] (cX X3 [(t:Int)+1,(t:Int)+2] rfl) (by simp) f2
   simp only[WY,Xv,WP,Xm] at hm4
   rw[show((t+1:Nat):Int)=(t:Int)+1 by omega] at hm4
   simp-implicitDefEqProofs[-AV.cells,-AV.isCell,aI,af,ag,au,ah,aH,ae,aw,aj,aa,y0,hwt1,hwt2]
   refine hm4.mono ?_
   rintro x X4 ⟨rfl,hlr⟩
   obtain⟨K4,I4,T4,e4⟩:=(T3.more _).step f1 hlr
   have F4:=(F3.more _).frame λi hi=>e4 i (hEin i hi)
   have r4:=(e4 X.length hEx).trans ((Wx (T3.ap X.length hEx).1).trans r3)
   have y0:=F4.box0
   have y1:=F4.box1
   have ok4:=ok3.fin 2 x3.1 (g:=t+1) (by omega) [(t:Int)+1,(t:Int)+2]
   simp-implicitDefEqProofs[-AV.cells,-AV.isCell,aI,af,ag,au,ah,aH,ae,aw,aj,aa,y0,y1,r4]
   refine(nS G (.ptr se 2 0 0) (.inr ⟨_,rfl⟩) _).mono ?_
   rintro x Xo ⟨rfl,rfl⟩
   have hyo:∀t,(X4++t)[h.length]?=some (.row 1 [[.ptr L 5 0 0]]):=λt=>(F4.more t).box0
   have hro:=λt=>(Wx (l₂:=t) (T4.ap X.length hEx).1).trans r4
   simp-implicitDefEqProofs[-AV.cells,-AV.isCell,aI,af,ag,au,ah,aH,ae,aw,aj,aa,hyo,hro]
   have hlt5:∀i∈Q::se::sm::C,i<X4.length/\i∉L::I4:=λi hi=>T4.ap i (hEin i (WV _ (WV _ hi)))
   obtain⟨y5,hy5⟩:∃y,y=aW (faI l0) 0 s.body [] (mc::up) nc (x3.2.fin 2 x3.1 (t+1) [(t:Int)+1,(t:Int)+2]):=⟨_,rfl⟩
   have hbk:=ihb (x3.2.fin 2 x3.1 (t+1) [(t:Int)+1,(t:Int)+2]) (X4++[.mp [],.row 2 [[.mp X4.length,.ptr se 2 0 0]]]) K4 I4 _ (se::sm::C) (X4.length+1) X4.length [] (mc::up) Q nc (T4.ls.more _) ok4 (by omega) (by omega) (.cons _ _ _ _ _ _ (by rw[WD (by omega)];simp) (by rw[WD (by omega)];simp[mpE]) (F4.ch.more _)) (by
    rw[WW,WW]
    refine⟨λhm=>?_,λhm=>?_,hCn⟩
    ·rcases WC.1 hm with hm|hm
     ·omega
     ·have:=(hlt5 _ (WV _ hm)).1;omega
    ·have:=(hlt5 _ (WV _ hm)).1;omega) (F4.more _).q (λi hi=>by
    have hge:∀i,X4.length<=i->i∉L::I4:=λi hi hm=>by
     rcases WC.1 hm with rfl|hm
     ·have:=T4.ls.lt;omega
     ·have:=T4.ls.own.lt hm;omega
    simp only[WC] at hi
    rcases hi with rfl|rfl|rfl|hi
    ·exact(hlt5 _ (by simp)).2
    ·exact hge _ (by omega)
    ·exact hge _ (by omega)
    ·exact(hlt5 i (by simp only[WC];exact .inr hi)).2) (λhm=>by
    have:=(hlt5 Q (by simp)).1
    rcases WC.1 hm with hm|hm
    ·omega
    ·rcases WC.1 hm with hm|hm
     ·omega
     ·exact hQn hm)
   rw[←hy5] at hbk
   have okb5:=dx (faI l0) 0 s.body [] (mc::up) nc (x3.2.fin 2 x3.1 (t+1) [(t:Int)+1,(t:Int)+2]) _ ok4
   rw[←hy5] at okb5
   obtain⟨ok5,len5,nx5,nxx5⟩:=okb5
   refine hbk.mono ?_
   rintro x X5 ⟨rfl,K5,I5,a1,a2,a3,a4,_⟩
   obtain⟨T5,e5⟩:=T4.stepG (J:=[]) (V:=[Q]) (λj hj=>by cases hj) (λj hj=>by rw[WG.1 hj];exact .inl (by simp)) a1 ⟨by have:=a2.1;simp at this;omega,λi hi hn=>by
    rw[WT] at hn
    simp only[WC,WE,Xr,or_false,not_or] at hn
    rw[a2.2 i (by simp;omega) (by simp only[WC,not_or];exact⟨hn.1,hn.2.1,by omega,hn.2.2⟩),Wx hi]⟩ (λj hj=>by
    rcases a3 j hj with h|h
    ·exact .inl (by simp[h])
    ·exact .inr (by simp at h;omega))
   have F5:Bx L Q h.length (h.length+1) se sm C mc up y5.2.1 X5:=⟨(e5 _ k0 (by simp;omega)).trans F4.box0,(e5 _ k1 (by simp;omega)).trans F4.box1,F4.ch.frame λi hi=>e5 i (hEin i (by simp only[WC] at hi⊢;rcases hi with rfl|rfl|hi<;>simp[*])) (by rw[WG];exact λe=>hQn (e▸hi)),a4⟩
   have r5:=(e5 X.length hEx (by simp;omega)).trans r4
   have y0:=F5.box0
   have y1:=F5.box1
   simp only[Lw.fin_len] at len5
   obtain⟨f1,f2⟩:=T5.fresh
   have hm6:=mN G (T5.ls.more [.row 1 ([(t:Int)].map λn=>[AV.p (.int .i64 n)])]) ok5 1 (0) (t+2) [(t:Int)] (cX X5 [(t:Int)] rfl) (by simp) f2
   simp only[WY,Xv,WP,Xm] at hm6
   rw[show((t+2:Nat):Int)=(t:Int)+2 by omega] at hm6
   simp-implicitDefEqProofs[-AV.cells,-AV.isCell,aI,af,ag,au,ah,aH,ae,aw,aj,aa,y0,hwt2]
   refine hm6.mono ?_
   rintro x X6 ⟨rfl,hlr⟩
   obtain⟨K6,I6,T6,e6⟩:=(T5.more _).step f1 hlr
   have F6:=(F5.more _).frame λi hi=>e6 i (hEin i hi)
   have r6:=(e6 X.length hEx).trans ((Wx (T5.ap X.length hEx).1).trans r5)
   have y0:=F6.box0
   have y1:=F6.box1
   simp-implicitDefEqProofs[-AV.cells,-AV.isCell,aI,af,ag,au,ah,aH,ae,aw,aj,aa,hwi]
   subst ht
   obtain⟨q1,K',I',q2,q3⟩:=hback (NW o6 ha mc up nc wc hx3 hy5) T6 F6
   obtain⟨z1,z2,z3,z4⟩:=hwk T6
   exact⟨⟨i+1,X6⟩,⟨q1,⟨K',I',q2⟩,q3⟩,by simp only;omega,am z1 (by simp[below,hsl];omega)⟩
  ·have o6:¬s.op=6:=by simpa using o6
   obtain⟨t1,ht1⟩:∃x,x=bj (faI l0) (scF 0 (mc::up)) s.args wc:=⟨_,rfl⟩
   have heq:=MP o6 mc up nc wc ht1
   obtain⟨okm,lenm⟩:=jL (faI l0) (scF 0 (mc::up)) s.args wc _ okc
   have hmap:=EV G (faI l0) (scF 0 (mc::up)) dN [.ptr h.length 1 0 0,.ptr (h.length+1) 1 0 0] s.args E T0.ls okc (by omega) (λi hi=>T0.ap i hi) (by simp[below];exact⟨by have:=(T0.ap _ k0).1;simp at this;omega,by have:=(T0.ap _ k1).1;simp at this;omega⟩) (λk hk w1 h1 K1 I1 B1 H1 hok1 hB1 hEq hle hap=>by
    have hkc:=k.cs_eq
    have F1:=F0.frame λi hi=>hEq i (hEin i hi)
    have g0:=λt=>(F1.more t).box0
    have g1:=λt=>(F1.more t).box1
    have hcall:=Ka G l0 hl0 pr L 6 k (hargs k hk) w1 (h1++[.row 4 [k.cs.map .p]]) K1 I1 B1 (se::sm::C) (.ptr se 2 0 0) (mc::up) (H1.more _) hok1 hB1 (F1.ch.more _) (λi hi=>hap i (hEin i (by simp only[WC] at hi⊢;rcases hi with rfl|rfl|hi<;>simp[*])))
    refine AC.go nr ?_
    rw[hkc] at hcall⊢
    simp-implicitDefEqProofs[-AV.cells,-AV.isCell,aI,af,ag,au,ah,aH,ae,aw,aj,gR,g0,g1]
    refine hcall.mono ?_
    rintro x h2 ⟨rfl,hlr⟩
    simp-implicitDefEqProofs[aa]
    exact LR.seq (Frm.more _ h1 _) (λj hj=> .inl hj) hlr (λj hj=> .inl hj))
   rw[←ht1] at hmap okm lenm
   simp-implicitDefEqProofs[-AV.cells,-AV.isCell,aI,af,ag,au,ah,aH,ae,aw,aj,y0,r0,o6]
   refine hmap.mono ?_
   rintro x X1 ⟨A,J,K2,I2,rfl,H2,hfr2,hI2,hA,ndJ,hJ,hAs⟩
   obtain⟨a1,a2⟩:=gC hA
   obtain⟨T1,e1⟩:=T0.stepG (J:=[]) (V:=[]) (λj hj=>by cases hj) (λj hj=>by cases hj) H2 (by simpa using hfr2) (by simpa using hI2)
   have e1:∀i∈E,X1[i]?=(X++[AO.row 5 [[.p (.int .i64 s.op),.p (.str s.name),.p (exL s.args),.p (smL s.body),.p (smL s.els)]]])[i]?:=λi hi=>e1 i hi (by simp)
   have F1:=F0.frame λi hi=>e1 i (hEin i hi)
   have r1:=(e1 X.length hEx).trans r0
   have y0:=F1.box0
   have y1:=F1.box1
   have hJE:∀j∈J,h.length<=j/\j∉E:=λj hj=>by
    have h1:=(hJ j hj).1
    have h2:=T0.fr.1
    exact⟨by omega,λhm=>by have:=(T0.ap j hm).1;omega⟩
   have hJ2:∀j∈J,j≠L/\j∉I2:=λj hj=>(hJ j hj).2
   simp-implicitDefEqProofs[-AV.cells,-AV.isCell,aI,af,ag,au,ah,aH,ae,aw,aj,a1,a2,aa,y0,y1,r1,o6]
   refine aO (λo1=>?_) (λo1=>?_)
   ·have o1:s.op=1:=by simpa using o1
    have hse:∀t,(X1++t)[se]?=X1[se]?:=λt=>Wx (T1.ap se (hEin se (by simp))).1
    obtain⟨u0,hse1,hsm1,hup1⟩:∃u0,X1[se]?=some (.row 2 [[.mp sm,u0]])/\X1[sm]?=some (.mp (mpE mc))/\ChN X1 u0 up C:=by
     cases F1.ch with
     |cons _ _ _ u _ _ h1 h2 h3=>exact⟨u,h1,h2,h3⟩
    obtain⟨hu0b,hu1,hu2⟩:=hup1.is
    have hms:=pD s.name nc mc
    have hmg:=nJ s.name (eQ mc s.name nc)
    rw[ip,if_pos rfl] at hmg
    have hsml:=(T1.ap sm (hEin sm (by simp))).1
    have hQl1:=(T1.ap Q kQ).1
    have nQs:Q≠sm:=λe=>hQn (by rw[e];simp)
    have nss:se≠sm:=λe=>by rw[WW] at hCn;exact hCn.1 (by rw[e];simp)
    have nsmC:sm∉C:=by rw[WW,WW] at hCn;exact hCn.2.1
    have nh0:h.length≠sm/\h.length≠Q/\h.length+1≠sm/\h.length+1≠Q/\X.length≠sm/\X.length≠Q:=by
     have h1:=hC.lt sm (by simp)
     have h2:=T.fr.1
     have h3:=(T.ap sm (by rw[hE0];simp)).1
     exact⟨by omega,by omega,by omega,by omega,by omega,by omega⟩
    have hgA:∀(a b:AO) (i:Nat),i≠sm->i≠Q->((X1.set sm a).set Q b)[i]?=X1[i]?:=λa b i h1 h2=>by rw[WB (Ne.symm h2),WB (Ne.symm h1)]
    have hgB:∀(a:AO) (i:Nat),i≠sm->(X1.set sm a)[i]?=X1[i]?:=λa i h1=>WB (Ne.symm h1)
    have g0:∀a b,((X1.set sm a).set Q b)[h.length]?=some (.row 1 [[.ptr L 5 0 0]]):=λa b=>(hgA a b _ nh0.1 nh0.2.1).trans y0
    have g1:∀a b,((X1.set sm a).set Q b)[h.length+1]?=some (.row 1 [[.ptr se 2 0 0]]):=λa b=>(hgA a b _ nh0.2.2.1 nh0.2.2.2.1).trans y1
    have g2:∀a b,((X1.set sm a).set Q b)[se]?=some (.row 2 [[.mp sm,u0]]):=λa b=>(hgA a b _ nss (λe=>hQn (by rw[←e];simp))).trans hse1
    have g3:∀a b,((X1.set sm a).set Q b)[sm]?=some a:=λa b=>by rw[WB nQs];exact WH hsml
    have g4:∀a b,((X1.set sm a).set Q b)[X.length]?=X1[X.length]?:=λa b=>hgA a b _ nh0.2.2.2.2.1 nh0.2.2.2.2.2
    have g5:∀a,(X1.set sm a)[Q]?=some (.row 1 [[.p (.int .i64 nc)]]):=λa=>(hgB a _ nQs).trans F1.q
    have hwn:IntKind.i64.wrap ((nc:Int)+1)=(nc:Int)+1:=ab (by omega) (by omega)
    obtain⟨X2,hX2⟩:∃X2,X2=(X1.set sm (.mp (mpE (eQ mc s.name nc)))).set Q (.row 1 [[.p (.int .i64 ((nc:Int)+1))]]):=⟨_,rfl⟩
    have hX2l:X2.length=X1.length:=by rw[hX2];simp
    have hapd:=λi hi=>(T1.ap i hi).2
    have T2:Stb (lwO l0 pr) L (L::Q::sm::I) I E h t1.2 X2 K2 I2:=⟨T1.ls.frame λi hi=>by
     rw[hX2]
     exact hgA _ _ i (λe=>hapd sm (hEin sm (by simp)) (e▸hi)) (λe=>hapd Q kQ (e▸hi)),T1.fr.trans (T:=[sm,Q]) ⟨by omega,λi hi hn=>by
     simp only[WC,Xr,or_false,not_or] at hn
     rw[hX2];exact hgA _ _ i hn.1 hn.2⟩ (λj hj=>by
     simp only[WC,Xr,or_false] at hj
     rcases hj with rfl|rfl
     ·exact .inl (by simp)
     ·exact .inl (by simp)),T1.hL,T1.hS,T1.sub,λi hi=>by rw[hX2l];exact T1.ap i hi⟩
    have F2:Bx L Q h.length (h.length+1) se sm C (eQ mc s.name nc) up (nc+1) X2:=⟨by rw[hX2];exact g0 _ _,by rw[hX2];exact g1 _ _,.cons _ _ _ _ _ _ (by rw[hX2];exact g2 _ _) (by rw[hX2];exact g3 _ _) (hup1.frame λi hi=>by
     rw[hX2]
     exact hgA _ _ i (λe=>nsmC (e▸hi)) (λe=>hQn (by rw[←e];simp[hi]))),by rw[hX2,show((nc+1:Nat):Int)=(nc:Int)+1 by omega];exact WH (by simpa using hQl1)⟩
    have r2:X2[X.length]?=some (.row 5 [[.p (.int .i64 s.op),.p (.str s.name),.p (exL s.args),.p (smL s.body),.p (smL s.els)]]):=by rw[hX2];exact(g4 _ _).trans r1
    have hA2:OwnL false X2 [A] [bF t1.1] J:=hA.frame λi hi=>by
     rw[hX2]
     exact hgA _ _ i (λe=>(hJE i hi).2 (by rw[e];exact hEin sm (by simp))) (λe=>(hJE i hi).2 (by rw[e];exact kQ))
    simp-implicitDefEqProofs[-AV.cells,-AV.isCell,aI,af,ag,au,ah,aH,ae,aw,aj,a1,a2,hu1,hu2,y0,y1,r1,hse1,hsm1,hms, ↓g5,F1.q,hwn, ↓g0, ↓g1, ↓g2, ↓g3, ↓g4,hmg]
    refine⟨rfl,?_⟩
    rw[←hX2]
    refine(uK G T2.ls okm (by omega) ⟨2,nc,t1.1,0⟩ hA2 ndJ hJ2).mono ?_
    rintro x X3 ⟨rfl,hlr⟩
    obtain⟨K3,I3,T3,e3⟩:=(T2).step (J:=J) hJE hlr
    have F3:=(F2).frame λi hi=>e3 i (hEin i hi)
    have r3:=(e3 X.length hEx).trans r2
    have y0:=F3.box0
    have y1:=F3.box1
    simp-implicitDefEqProofs[-AV.cells,-AV.isCell,aI,af,ag,au,ah,aH,ae,aw,aj,a1,a2,aa,hwi]
    obtain⟨q1,K',I',q2,q3⟩:=hback (by rw[heq,if_pos o1]) T3 F3
    obtain⟨z1,z2,z3,z4⟩:=hwk T3
    exact⟨⟨i+1,X3⟩,⟨q1,⟨K',I',q2⟩,q3⟩,by simp only;omega,am z1 (by simp[below,hsl];omega)⟩
   have o1:¬s.op=1:=by simpa using o1
   have hA1:=hA
   simp-implicitDefEqProofs[-AV.cells,-AV.isCell,aI,af,ag,au,ah,aH,ae,aw,aj,a1,a2,y0,y1,r1]
   refine aO (λo2=>?_) (λo2=>?_)
   ·have o2:s.op=2:=by simpa using o2
    have hse1:∃e,(AV.ptr se 2 0 0)= .ptr e 2 0 0:=⟨_,rfl⟩
    simp-implicitDefEqProofs[-AV.cells,-AV.isCell,aI,af,ag,au,ah,aH,ae,aw,aj,a1,a2,y0,y1,r1]
    refine(Jh G F1.ch s.name).mono ?_
    rintro x X1' ⟨rfl,rfl⟩
    simp-implicitDefEqProofs[-AV.cells,-AV.isCell,aI,af,ag,au,ah,aH,ae,aw,aj,a1,a2,aa,y0,y1,r1]
    refine(uK G T1.ls okm (by omega) ⟨2,scF 0 (mc::up) s.name,t1.1,0⟩ hA1 ndJ hJ2).mono ?_
    rintro x X2 ⟨rfl,hlr⟩
    obtain⟨K2,I2,T2,e2⟩:=(T1).step (J:=J) hJE hlr
    have F2:=(F1).frame λi hi=>e2 i (hEin i hi)
    have r2:=(e2 X.length hEx).trans r1
    have y0:=F2.box0
    have y1:=F2.box1
    simp-implicitDefEqProofs[-AV.cells,-AV.isCell,aI,af,ag,au,ah,aH,ae,aw,aj,a1,a2,aa,hwi]
    obtain⟨q1,K',I',q2,q3⟩:=hback (by rw[heq,if_neg o1,if_pos o2]) T2 F2
    obtain⟨z1,z2,z3,z4⟩:=hwk T2
    exact⟨⟨i+1,X2⟩,⟨q1,⟨K',I',q2⟩,q3⟩,by simp only;omega,am z1 (by simp[below,hsl];omega)⟩
   have o2:¬s.op=2:=by simpa using o2
   simp-implicitDefEqProofs[-AV.cells,-AV.isCell,aI,af,ag,au,ah,aH,ae,aw,aj,a1,a2,y0,y1,r1]
   refine aO (λo3=>?_) (λo3=>?_)
   ·have o3:s.op=3:=by simpa using o3
    simp-implicitDefEqProofs[-AV.cells,-AV.isCell,aI,af,ag,au,ah,aH,ae,aw,aj,a1,a2,y0,y1,r1]
    refine(uK G T1.ls okm (by omega) ⟨13,-1,t1.1,0⟩ hA1 ndJ hJ2).mono ?_
    rintro x X2 ⟨rfl,hlr⟩
    obtain⟨K2,I2,T2,e2⟩:=(T1).step (J:=J) hJE hlr
    have F2:=(F1).frame λi hi=>e2 i (hEin i hi)
    have r2:=(e2 X.length hEx).trans r1
    have y0:=F2.box0
    have y1:=F2.box1
    simp-implicitDefEqProofs[-AV.cells,-AV.isCell,aI,af,ag,au,ah,aH,ae,aw,aj,a1,a2,aa,hwi]
    obtain⟨q1,K',I',q2,q3⟩:=hback (by rw[heq,if_neg o1,if_neg o2,if_pos o3]) T2 F2
    obtain⟨z1,z2,z3,z4⟩:=hwk T2
    exact⟨⟨i+1,X2⟩,⟨q1,⟨K',I',q2⟩,q3⟩,by simp only;omega,am z1 (by simp[below,hsl];omega)⟩
   have o3:¬s.op=3:=by simpa using o3
   simp-implicitDefEqProofs[-AV.cells,-AV.isCell,aI,af,ag,au,ah,aH,ae,aw,aj,a1,a2,y0,y1,r1]
   refine aO (λo4=>?_) (λo4=>?_)
   ·have o4:s.op=4:=by simpa using o4
    simp-implicitDefEqProofs[-AV.cells,-AV.isCell,aI,af,ag,au,ah,aH,ae,aw,aj,a1,a2,y0,y1,r1]
    refine(uK G T1.ls okm (by omega) ⟨12,-1,t1.1,0⟩ hA1 ndJ hJ2).mono ?_
    rintro x X2 ⟨rfl,hlr⟩
    obtain⟨K2,I2,T2,e2⟩:=(T1).step (J:=J) hJE hlr
    have F2:=(F1).frame λi hi=>e2 i (hEin i hi)
    have r2:=(e2 X.length hEx).trans r1
    have y0:=F2.box0
    have y1:=F2.box1
    simp-implicitDefEqProofs[-AV.cells,-AV.isCell,aI,af,ag,au,ah,aH,ae,aw,aj,a1,a2,aa,hwi]
    obtain⟨q1,K',I',q2,q3⟩:=hback (by rw[heq,if_neg o1,if_neg o2,if_neg o3,if_pos o4]) T2 F2
    obtain⟨z1,z2,z3,z4⟩:=hwk T2
    exact⟨⟨i+1,X2⟩,⟨q1,⟨K',I',q2⟩,q3⟩,by simp only;omega,am z1 (by simp[below,hsl];omega)⟩
   have o4:¬s.op=4:=by simpa using o4
   simp-implicitDefEqProofs[-AV.cells,-AV.isCell,aI,af,ag,au,ah,aH,ae,aw,aj,a1,a2,y0,y1,r1]
   refine aO (λo5=>?_) (λo5=>?_)
   ·have o5:s.op=5:=by simpa using o5
    obtain⟨oid,rfl,ho1,rfl⟩:=hAs hne
    obtain⟨q0,qr,hq⟩:∃q r,t1.1=q::r:=by
     have hl:=gd (faI l0) (scF 0 (mc::up)) s.args wc
     rw[←ht1] at hl
     match hx:t1.1,s.args,hne,hl with
     |q::r,_,_,_=>exact⟨q,r,rfl⟩
     |[],[],h,_=>exact(h rfl).elim
     |[],_::_,_,h=>simp at h
    obtain⟨t,ht⟩:∃t,t=t1.2.bs.length:=⟨_,rfl⟩
    have htb:t<=B+20*aC (l.take i)+8*aM s.args:=by rw[ht];exact okm.bs
    have hwt1:IntKind.i64.wrap ((t:Int)+1)=(t:Int)+1:=ab (by omega) (by omega)
    have hwt2:IntKind.i64.wrap ((t:Int)+2)=(t:Int)+2:=ab (by omega) (by omega)
    obtain⟨Eo,hEo⟩:∃Eo,Eo=oid::E:=⟨_,rfl⟩
    have To:Stb (lwO l0 pr) L (L::Q::sm::I) I Eo h t1.2 X1 K2 I2:=⟨T1.ls,T1.fr,T1.hL,T1.hS,T1.sub,λi hi=>by
     rw[hEo] at hi
     rcases WC.1 hi with rfl|hi
     ·refine⟨(Wy.1 ho1).1,?_⟩
      have:=hJ2 i (by simp)
      simp only[WC,not_or]
      exact this
     ·exact T1.ap i hi⟩
    have ho1':X1[oid]?=some (.row 1 ([.p (.int .i64 q0)]::qr.map λn=>[AV.p (.int .i64 n)])):=by rw[ho1,og,hq];rfl
    have hsl0:0<s.args.length:=XD.2 hne
    have hhd:t1.1.headD 0=q0:=by rw[hq];rfl
    have oE:oid∈Eo:=by rw[hEo];simp
    have hEin':∀i∈h.length::(h.length+1)::Q::se::sm::C,i∈Eo:=λi hi=>by rw[hEo];exact WV _ (hEin i hi)
    have hEx':X.length∈Eo:=by rw[hEo];exact WV _ hEx
    simp-implicitDefEqProofs[-AV.cells,-AV.isCell,aI,af,ag,au,ah,aH,ae,aw,aj,a1,a2,y0,y1,r1]
    refine(zN G To.ls okm (by omega) 3 (by omega) (by omega)).mono ?_
    rintro x X2 ⟨rfl,hlr⟩
    obtain⟨K2,I2,T2,e2⟩:=To.step (J:=[]) (λj hj=>by cases hj) (by rw[WT];exact hlr)
    have F2:=F1.frame λi hi=>e2 i (hEin' i hi)
    have r2:=(e2 X.length hEx').trans r1
    have y0:=F2.box0
    have y1:=F2.box1
    have o2':=(e2 oid oE).trans ho1'
    have ok2:=okm.name 3
    have hm3:=mN G T2.ls ok2 2 q0 t [(t:Int),(t:Int)+1] (V:= .p (bF [(t:Int),(t:Int)+1])) (J:=[]) (.p _ (λh=>by cases h) .nil) List.nodup_nil (λj hj=>by cases hj)
    simp only[bF,WY,Xv] at hm3
    simp-implicitDefEqProofs[-AV.cells,-AV.isCell,aI,af,ag,au,ah,aH,ae,aw,aj,a1,a2,aa,y0,y1,r2,o2',←ht,hwt1,hsl0]
    refine hm3.mono ?_
    rintro x X3 ⟨rfl,hlr⟩
    obtain⟨K3,I3,T3o,e3⟩:=T2.step (J:=[]) (λj hj=>by cases hj) hlr
    have F3:=F2.frame λi hi=>e3 i (hEin' i hi)
    have r3:=(e3 X.length hEx').trans r2
    have y0:=F3.box0
    have y1:=F3.box1
    have T3:Stb (lwO l0 pr) L (L::Q::sm::I) I E h _ X3 K3 I3:=⟨T3o.ls,T3o.fr,T3o.hL,T3o.hS,T3o.sub,λi hi=>T3o.ap i (by rw[hEo];exact WV _ hi)⟩
    have ok3:=ok2.fin 2 q0 (g:=t) (by simp[←ht]) [(t:Int),(t:Int)+1]
    simp-implicitDefEqProofs[-AV.cells,-AV.isCell,aI,af,ag,au,ah,aH,ae,aw,aj,a1,a2,aa,y0,y1,r3]
    refine(nS G (.ptr se 2 0 0) (.inr ⟨_,rfl⟩) _).mono ?_
    rintro x Xo ⟨rfl,rfl⟩
    have hyo:∀t,(X3++t)[h.length]?=some (.row 1 [[.ptr L 5 0 0]]):=λt=>(F3.more t).box0
    have hro:=λt=>(Wx (l₂:=t) (T3.ap X.length hEx).1).trans r3
    simp-implicitDefEqProofs[-AV.cells,-AV.isCell,aI,af,ag,au,ah,aH,ae,aw,aj,aa,hyo,hro]
    have hlt4:∀i∈Q::se::sm::C,i<X3.length/\i∉L::I3:=λi hi=>T3.ap i (hEin i (WV _ (WV _ hi)))
    obtain⟨y4,hy4⟩:∃y,y=aW (faI l0) 0 s.body [] (mc::up) nc ((t1.2.name 3).fin 2 q0 t [(t:Int),(t:Int)+1]):=⟨_,rfl⟩
    have hbk:=ihb ((t1.2.name 3).fin 2 q0 t [(t:Int),(t:Int)+1]) (X3++[.mp [],.row 2 [[.mp X3.length,.ptr se 2 0 0]]]) K3 I3 _ (se::sm::C) (X3.length+1) X3.length [] (mc::up) Q nc (T3.ls.more _) ok3 (by omega) (by omega) (.cons _ _ _ _ _ _ (by rw[WD (by omega)];simp) (by rw[WD (by omega)];simp[mpE]) (F3.ch.more _)) (by
     rw[WW,WW]
     refine⟨λhm=>?_,λhm=>?_,hCn⟩
     ·rcases WC.1 hm with hm|hm
      ·omega
      ·have:=(hlt4 _ (WV _ hm)).1;omega
     ·have:=(hlt4 _ (WV _ hm)).1;omega) (F3.more _).q (λi hi=>by
     have hge:∀i,X3.length<=i->i∉L::I3:=λi hi hm=>by
      rcases WC.1 hm with rfl|hm
      ·have:=T3.ls.lt;omega
      ·have:=T3.ls.own.lt hm;omega
     simp only[WC] at hi
     rcases hi with rfl|rfl|rfl|hi
     ·exact(hlt4 _ (by simp)).2
     ·exact hge _ (by omega)
     ·exact hge _ (by omega)
     ·exact(hlt4 i (by simp only[WC];exact .inr hi)).2) (λhm=>by
     have:=(hlt4 Q (by simp)).1
     rcases WC.1 hm with hm|hm
     ·omega
     ·rcases WC.1 hm with hm|hm
      ·omega
      ·exact hQn hm)
    rw[←hy4] at hbk
    have okb4:=dx (faI l0) 0 s.body [] (mc::up) nc ((t1.2.name 3).fin 2 q0 t [(t:Int),(t:Int)+1]) _ ok3
    rw[←hy4] at okb4
    obtain⟨ok4,len4,nx4,nxx4⟩:=okb4
    refine hbk.mono ?_
    rintro x X4 ⟨rfl,K4,I4,a1,a2,a3,a4,_⟩
    obtain⟨T4,e4⟩:=T3.stepG (J:=[]) (V:=[Q]) (λj hj=>by cases hj) (λj hj=>by rw[WG.1 hj];exact .inl (by simp)) a1 ⟨by have:=a2.1;simp at this;omega,λi hi hn=>by
     rw[WT] at hn
     simp only[WC,WE,Xr,or_false,not_or] at hn
     rw[a2.2 i (by simp;omega) (by simp only[WC,not_or];exact⟨hn.1,hn.2.1,by omega,hn.2.2⟩),Wx hi]⟩ (λj hj=>by
     rcases a3 j hj with h|h
     ·exact .inl (by simp[h])
     ·exact .inr (by simp at h;omega))
    have F4:Bx L Q h.length (h.length+1) se sm C mc up y4.2.1 X4:=⟨(e4 _ k0 (by simp;omega)).trans F3.box0,(e4 _ k1 (by simp;omega)).trans F3.box1,F3.ch.frame λi hi=>e4 i (hEin i (by simp only[WC] at hi⊢;rcases hi with rfl|rfl|hi<;>simp[*])) (by rw[WG];exact λe=>hQn (e▸hi)),a4⟩
    have r4:=(e4 X.length hEx (by simp;omega)).trans r3
    have y0:=F4.box0
    have y1:=F4.box1
    simp only[Lw.fin_len,Lw.name_len,←ht] at len4
    obtain⟨f1,f2⟩:=T4.fresh
    have hm5:=mN G (T4.ls.more [.row 1 ([(t:Int)+2].map λn=>[AV.p (.int .i64 n)])]) ok4 1 (0) (t+1) [(t:Int)+2] (cX X4 [(t:Int)+2] rfl) (by simp) f2
    simp only[WY,Xv,WP,Xm] at hm5
    rw[show((t+1:Nat):Int)=(t:Int)+1 by omega] at hm5
    simp-implicitDefEqProofs[-AV.cells,-AV.isCell,aI,af,ag,au,ah,aH,ae,aw,aj,a1,a2,aa,y0,hwt1,hwt2]
    refine hm5.mono ?_
    rintro x X5 ⟨rfl,hlr⟩
    obtain⟨K5,I5,T5,e5⟩:=(T4.more _).step f1 hlr
    have F5:=(F4.more _).frame λi hi=>e5 i (hEin i hi)
    have r5:=(e5 X.length hEx).trans ((Wx (T4.ap X.length hEx).1).trans r4)
    have y0:=F5.box0
    have y1:=F5.box1
    have ok5:=ok4.fin 1 0 (g:=t+1) (by omega) [(t:Int)+2]
    simp-implicitDefEqProofs[-AV.cells,-AV.isCell,aI,af,ag,au,ah,aH,ae,aw,aj,a1,a2,aa,y0,y1,r5]
    refine(nS G (.ptr se 2 0 0) (.inr ⟨_,rfl⟩) _).mono ?_
    rintro x Xo ⟨rfl,rfl⟩
    have hyo:∀t,(X5++t)[h.length]?=some (.row 1 [[.ptr L 5 0 0]]):=λt=>(F5.more t).box0
    have hro:=λt=>(Wx (l₂:=t) (T5.ap X.length hEx).1).trans r5
    simp-implicitDefEqProofs[-AV.cells,-AV.isCell,aI,af,ag,au,ah,aH,ae,aw,aj,aa,hyo,hro]
    have hlt6:∀i∈Q::se::sm::C,i<X5.length/\i∉L::I5:=λi hi=>T5.ap i (hEin i (WV _ (WV _ hi)))
    obtain⟨y6,hy6⟩:∃y,y=aW (faI l0) 0 s.els [] (mc::up) y4.2.1 (y4.2.2.fin 1 0 (t+1) [(t:Int)+2]):=⟨_,rfl⟩
    have hbk:=ihe (y4.2.2.fin 1 0 (t+1) [(t:Int)+2]) (X5++[.mp [],.row 2 [[.mp X5.length,.ptr se 2 0 0]]]) K5 I5 _ (se::sm::C) (X5.length+1) X5.length [] (mc::up) Q y4.2.1 (T5.ls.more _) ok5 (by omega) (by omega) (.cons _ _ _ _ _ _ (by rw[WD (by omega)];simp) (by rw[WD (by omega)];simp[mpE]) (F5.ch.more _)) (by
     rw[WW,WW]
     refine⟨λhm=>?_,λhm=>?_,hCn⟩
     ·rcases WC.1 hm with hm|hm
      ·omega
      ·have:=(hlt6 _ (WV _ hm)).1;omega
     ·have:=(hlt6 _ (WV _ hm)).1;omega) (F5.more _).q (λi hi=>by
     have hge:∀i,X5.length<=i->i∉L::I5:=λi hi hm=>by
      rcases WC.1 hm with rfl|hm
      ·have:=T5.ls.lt;omega
      ·have:=T5.ls.own.lt hm;omega
     simp only[WC] at hi
     rcases hi with rfl|rfl|rfl|hi
     ·exact(hlt6 _ (by simp)).2
     ·exact hge _ (by omega)
     ·exact hge _ (by omega)
     ·exact(hlt6 i (by simp only[WC];exact .inr hi)).2) (λhm=>by
     have:=(hlt6 Q (by simp)).1
     rcases WC.1 hm with hm|hm
     ·omega
     ·rcases WC.1 hm with hm|hm
      ·omega
      ·exact hQn hm)
    rw[←hy6] at hbk
    have okb6:=dx (faI l0) 0 s.els [] (mc::up) y4.2.1 (y4.2.2.fin 1 0 (t+1) [(t:Int)+2]) _ ok5
    rw[←hy6] at okb6
    obtain⟨ok6,len6,nx6,nxx6⟩:=okb6
    refine hbk.mono ?_
    rintro x X6 ⟨rfl,K6,I6,a1,a2,a3,a4,_⟩
    obtain⟨T6,e6⟩:=T5.stepG (J:=[]) (V:=[Q]) (λj hj=>by cases hj) (λj hj=>by rw[WG.1 hj];exact .inl (by simp)) a1 ⟨by have:=a2.1;simp at this;omega,λi hi hn=>by
     rw[WT] at hn
     simp only[WC,WE,Xr,or_false,not_or] at hn
     rw[a2.2 i (by simp;omega) (by simp only[WC,not_or];exact⟨hn.1,hn.2.1,by omega,hn.2.2⟩),Wx hi]⟩ (λj hj=>by
     rcases a3 j hj with h|h
     ·exact .inl (by simp[h])
     ·exact .inr (by simp at h;omega))
    have F6:Bx L Q h.length (h.length+1) se sm C mc up y6.2.1 X6:=⟨(e6 _ k0 (by simp;omega)).trans F5.box0,(e6 _ k1 (by simp;omega)).trans F5.box1,F5.ch.frame λi hi=>e6 i (hEin i (by simp only[WC] at hi⊢;rcases hi with rfl|rfl|hi<;>simp[*])) (by rw[WG];exact λe=>hQn (e▸hi)),a4⟩
    have r6:=(e6 X.length hEx (by simp;omega)).trans r5
    have y0:=F6.box0
    have y1:=F6.box1
    simp only[Lw.fin_len] at len6
    obtain⟨f1,f2⟩:=T6.fresh
    have hm7:=mN G (T6.ls.more [.row 1 ([(t:Int)+2].map λn=>[AV.p (.int .i64 n)])]) ok6 1 (0) (t+2) [(t:Int)+2] (cX X6 [(t:Int)+2] rfl) (by simp) f2
    simp only[WY,Xv,WP,Xm] at hm7
    rw[show((t+2:Nat):Int)=(t:Int)+2 by omega] at hm7
    simp-implicitDefEqProofs[-AV.cells,-AV.isCell,aI,af,ag,au,ah,aH,ae,aw,aj,a1,a2,aa,y0,hwt2]
    refine hm7.mono ?_
    rintro x X7 ⟨rfl,hlr⟩
    obtain⟨K7,I7,T7,e7⟩:=(T6.more _).step f1 hlr
    have F7:=(F6.more _).frame λi hi=>e7 i (hEin i hi)
    have r7:=(e7 X.length hEx).trans ((Wx (T6.ap X.length hEx).1).trans r6)
    have y0:=F7.box0
    have y1:=F7.box1
    simp-implicitDefEqProofs[-AV.cells,-AV.isCell,aI,af,ag,au,ah,aH,ae,aw,aj,a1,a2,aa,hwi]
    have hE5:lwS (faI l0) 0 s mc up nc wc=(mc,y6.2.1,y6.2.2.fin 1 0 (t+2) [(t:Int)+2]):=by
     rw[heq,if_neg o1,if_neg o2,if_neg o3,if_neg o4,if_pos o5]
     simp only[hhd,←ht]
     rw[←hy4,←hy6]
    obtain⟨q1,K',I',q2,q3⟩:=hback hE5 T7 F7
    obtain⟨z1,z2,z3,z4⟩:=hwk T7
    exact⟨⟨i+1,X7⟩,⟨q1,⟨K',I',q2⟩,q3⟩,by simp only;omega,am z1 (by simp[below,hsl];omega)⟩
   have o5:¬s.op=5:=by simpa using o5
   simp-implicitDefEqProofs[-AV.cells,-AV.isCell,aI,af,ag,au,ah,aH,ae,aw,aj,a1,a2,y0,y1,r1]
   refine aO (λo7=>?_) (λo7=>?_)
   ·have o7:s.op=7:=by simpa using o7
    obtain⟨oid,rfl,ho1,rfl⟩:=hAs hne
    obtain⟨q0,qr,hq⟩:∃q r,t1.1=q::r:=by
     have hl:=gd (faI l0) (scF 0 (mc::up)) s.args wc
     rw[←ht1] at hl
     match hx:t1.1,s.args,hne,hl with
     |q::r,_,_,_=>exact⟨q,r,rfl⟩
     |[],[],h,_=>exact(h rfl).elim
     |[],_::_,_,h=>simp at h
    obtain⟨t,ht⟩:∃t,t=t1.2.bs.length:=⟨_,rfl⟩
    have htb:t<=B+20*aC (l.take i)+8*aM s.args:=by rw[ht];exact okm.bs
    have hwt1:IntKind.i64.wrap ((t:Int)+1)=(t:Int)+1:=ab (by omega) (by omega)
    have hwt2:IntKind.i64.wrap ((t:Int)+2)=(t:Int)+2:=ab (by omega) (by omega)
    obtain⟨Eo,hEo⟩:∃Eo,Eo=oid::E:=⟨_,rfl⟩
    have To:Stb (lwO l0 pr) L (L::Q::sm::I) I Eo h t1.2 X1 K2 I2:=⟨T1.ls,T1.fr,T1.hL,T1.hS,T1.sub,λi hi=>by
     rw[hEo] at hi
     rcases WC.1 hi with rfl|hi
     ·refine⟨(Wy.1 ho1).1,?_⟩
      have:=hJ2 i (by simp)
      simp only[WC,not_or]
      exact this
     ·exact T1.ap i hi⟩
    have ho1':X1[oid]?=some (.row 1 ([.p (.int .i64 q0)]::qr.map λn=>[AV.p (.int .i64 n)])):=by rw[ho1,og,hq];rfl
    have hsl0:0<s.args.length:=XD.2 hne
    have hhd:t1.1.headD 0=q0:=by rw[hq];rfl
    have oE:oid∈Eo:=by rw[hEo];simp
    have hEin':∀i∈h.length::(h.length+1)::Q::se::sm::C,i∈Eo:=λi hi=>by rw[hEo];exact WV _ (hEin i hi)
    have hEx':X.length∈Eo:=by rw[hEo];exact WV _ hEx
    simp-implicitDefEqProofs[-AV.cells,-AV.isCell,aI,af,ag,au,ah,aH,ae,aw,aj,a1,a2,y0,y1,r1,ho1',hsl0]
    refine(zN G To.ls okm (by omega) 1 (by omega) (by omega)).mono ?_
    rintro x X2 ⟨rfl,hlr⟩
    obtain⟨K2,I2,T2o,e2⟩:=To.step (J:=[]) (λj hj=>by cases hj) (by rw[WT];exact hlr)
    have F2:=F1.frame λi hi=>e2 i (hEin' i hi)
    have r2:=(e2 X.length hEx').trans r1
    have y0:=F2.box0
    have y1:=F2.box1
    have o2':=(e2 oid oE).trans ho1'
    have ok2:=okm.name 1
    have T2:Stb (lwO l0 pr) L (L::Q::sm::I) I E h _ X2 K2 I2:=⟨T2o.ls,T2o.fr,T2o.hL,T2o.hS,T2o.sub,λi hi=>T2o.ap i (by rw[hEo];exact WV _ hi)⟩
    simp-implicitDefEqProofs[-AV.cells,-AV.isCell,aI,af,ag,au,ah,aH,ae,aw,aj,a1,a2,aa,y0,y1,r2,o2',←ht,hsl0]
    refine(mN G T2.ls ok2 3 q0 t [] (V:= .nils) (J:=[]) (.nils 1 .nil) List.nodup_nil (λj hj=>by cases hj)).mono ?_
    rintro x X3 ⟨rfl,hlr⟩
    obtain⟨K3,I3,T3,e3⟩:=(T2).step (J:=[]) (λj hj=>by cases hj) hlr
    have F3:=(F2).frame λi hi=>e3 i (hEin i hi)
    have r3:=(e3 X.length hEx).trans r2
    have y0:=F3.box0
    have y1:=F3.box1
    simp-implicitDefEqProofs[-AV.cells,-AV.isCell,aI,af,ag,au,ah,aH,ae,aw,aj,a1,a2,aa,hwi]
    have hE7:lwS (faI l0) 0 s mc up nc wc=(mc,nc,(t1.2.name 1).fin 3 q0 t []):=by
     rw[heq,if_neg o1,if_neg o2,if_neg o3,if_neg o4,if_neg o5,if_pos o7,hhd,←ht]
    obtain⟨q1,K',I',q2,q3⟩:=hback hE7 T3 F3
    obtain⟨z1,z2,z3,z4⟩:=hwk T3
    exact⟨⟨i+1,X3⟩,⟨q1,⟨K',I',q2⟩,q3⟩,by simp only;omega,am z1 (by simp[below,hsl];omega)⟩
   have o7:¬s.op=7:=by simpa using o7
   simp-implicitDefEqProofs[-AV.cells,-AV.isCell,aI,af,ag,au,ah,aH,ae,aw,aj,a1,a2,y0,y1,r1,hwi]
   obtain⟨q1,K',I',q2,q3⟩:=hback (by rw[heq,if_neg o1,if_neg o2,if_neg o3,if_neg o4,if_neg o5,if_neg o7]) T1 F1
   obtain⟨z1,z2,z3,z4⟩:=hwk T1
   exact⟨⟨i+1,X1⟩,⟨q1,⟨K',I',q2⟩,q3⟩,by simp only;omega,am z1 (by simp[below,hsl];omega)⟩
 ·simp at hc
  have hie:i=l.length:=by omega
  subst hie
  rw[WZ] at T F
  simp-implicitDefEqProofs[]
  refine⟨K1,I1,T.ls,T.fr,T.sub,F.q,?_⟩
  cases F.ch with
  |cons _ _ _ _ _ _ h1 h2 _=>exact h2
theorem Mz(l0:List Fd)(hl0:l0.length<=1073741824)(pr:Int)(L:Nat):∀(d:Nat) (l:List Sm),(∀x∈l,aJ d x=true)->Qa G l0 pr L l:=by
 intro d
 induction d with
 |zero=>
  intro l hf
  exact Ci G l0 hl0 pr L l (λx hx=>by have:=hf x hx;cases this) (λx hx=>by have:=hf x hx;cases this)
 |succ d ih=>
  intro l hf
  exact Ci G l0 hl0 pr L l (λx hx=>⟨NA (hf x hx),GW (hf x hx)⟩) (λx hx=>⟨ih x.body (Gi (hf x hx)),ih x.els (JY (hf x hx))⟩)
end
section
theorem RS.ofStg{l:List Fd}{pr:Int}{L:Nat}{I:List Nat}{h hB:List AO}{w:Lw}{nx:Nat}{vs:Vs}{X:List AO}{K V:AV}{I1:List Nat}{oid:Nat}(S:Stg (lwR l pr V nx) L I (h.length::vi V) h hB w X K I1)(hv:VAt X V vs)(hV:∀i∈vi V,i<h.length)(ho:oid<X.length)(hoE:oid∉h.length::vi V)(hoI:oid∉L::I1):RS l pr L (L::(vi V++I)) I [oid,h.length] h w nx vs X K V I1:=by
 refine⟨⟨S.ls,⟨S.fr.1,λi hi hn=>S.fr.2 i hi λhm=>hn ?_⟩,by simp,λj hj=>by simp[hj],S.sub,λi hi=>?_⟩,hv,λi hi=>⟨λhm=>?_,.inl (by simp[hi])⟩⟩
 ·rcases WC.1 hm with rfl|hm
  ·simp
  ·simp[hm]
 ·simp only[WE,WC,Xr,or_false] at hi
  rcases hi with hi|rfl|rfl
  ·exact S.ap i (by simp[hi])
  ·exact⟨ho,hoI⟩
  ·exact S.ap _ (by simp)
 ·simp only[WC,Xr,or_false] at hm
  rcases hm with rfl|rfl
  ·exact hoE (by simp[hi])
  ·have:=hV _ hi;omega
variable (G:aK)
theorem Pi(l0:List Fd)(hl0:l0.length<=1073741824)(pr:Int)(L:Nat)(s:Sm)(o6:s.op=6)(hne:s.args≠[])(ha:∀a∈s.args,bP 6 a=true)(hb:Lq G l0 pr L s.body){w:Lw}{h:List AO}{K V:AV}{I:List Nat}{B:Nat}{vs:Vs}{nx:Nat}{m:Scp}{up:List Scp}(T:RS l0 pr L (L::(vi V++I)) I [] h w nx vs h K V I)(hok:w.Ok B)(hB:B+20*s.sz<=1073741000)(hnx:nx+s.sz<=1073741000)(hvl:vs.length+s.sz<=1073741000)(hrg:rgV vs=scF (-1) (m::up)):
 AC Tryz.prog G gT [.ptr L 8 0 0,.agg (s.cs.map .p)] h λx h'=>x= .ret (.tup [])/\∃K' V' I',RS l0 pr L (L::(vi V++I)) I [] h (lwS (faI l0) (-1) s m up nx w).2.2 (lwS (faI l0) (-1) s m up nx w).2.1 vs h' K' V' I'/\(lwS (faI l0) (-1) s m up nx w).1=m:=by
 have hsc:=s.cs_eq
 have hsz:=s.sz_eq
 obtain⟨a0,ar,ha0⟩:∃a r,s.args=a::r:=by
  match hx:s.args,hne with
  |a::r,_=>exact⟨a,r,rfl⟩
 obtain⟨t,ht⟩:∃t,t=w.bs.length:=⟨_,rfl⟩
 have hac:=a0.cs_eq
 have hkx:exL s.args= .lst 4 ([.int .i64 a0.op,.int .i64 a0.n,.str a0.name,exL a0.kids]::ar.map Ex.cs):=by rw[ha0,←hac];rfl
 have haz:aM s.args=a0.sz+aM ar:=by rw[ha0,aM]
 have htb:t<=B:=by rw[ht];exact hok.bs
 have T0:=T.box (AO.row 5 [[.p (.int .i64 6),.p (.str s.name),.p (exL s.args),.p (smL s.body),.p (smL s.els)]])
 have r0:(h++[AO.row 5 [[.p (.int .i64 6),.p (.str s.name),.p (exL s.args),.p (smL s.body),.p (smL s.els)]]])[h.length]?=some (AO.row 5 [[.p (.int .i64 6),.p (.str s.name),.p (exL s.args),.p (smL s.body),.p (smL s.els)]]):=by simp
 rw[hkx] at T0 r0
 refine AC.go tS ?_
 rw[hsc,o6,hkx]
 simp-implicitDefEqProofs[-AV.cells,-AV.isCell,aI,af,ag,au,ah,aH,ae,aw,aj,-Lw.name_len,mr]
 refine(oc G T0 hok (by omega)).mono ?_
 rintro x X1 ⟨rfl,K1,I1,T1,e1⟩
 have r1:=(e1 h.length (by simp)).trans r0
 have ok1:=hok.name 1
 have hl1:(w.name 1).bs.length=t+1:=by rw[Lw.name_len,ht]
 simp-implicitDefEqProofs[-AV.cells,-AV.isCell,aI,af,ag,au,ah,aH,ae,aw,aj,-Lw.name_len,aa,←ht]
 refine(oc G T1 ok1 (by omega)).mono ?_
 rintro x X2 ⟨rfl,K2,I2,T2,e2⟩
 have r2:=(e2 h.length (by simp)).trans r1
 have ok2:=ok1.name 1
 have hl2:((w.name 1).name 1).bs.length=t+2:=by rw[Lw.name_len,hl1]
 simp-implicitDefEqProofs[-AV.cells,-AV.isCell,aI,af,ag,au,ah,aH,ae,aw,aj,-Lw.name_len,aa,hl1]
 refine(oc G T2 ok2 (by omega)).mono ?_
 rintro x X3 ⟨rfl,K3,I3,T3,e3⟩
 have r3:=(e3 h.length (by simp)).trans r2
 have ok3:(w.name 3).Ok (B+3):=hok.name 3
 have hn3:((w.name 1).name 1).name 1=w.name 3:=by rw[Lw.name_name,Lw.name_name]
 rw[hn3] at T3
 simp-implicitDefEqProofs[-AV.cells,-AV.isCell,aI,af,ag,au,ah,aH,ae,aw,aj,-Lw.name_len,aa,hl2]
 refine(zQ G T3 ok3 1 0 t t rfl).mono ?_
 rintro x X4 ⟨rfl,K4,I4,T4,e4⟩
 have r4:=(e4 h.length (by simp)).trans r3
 have ok4:=ok3.fin 1 0 (g:=t) (by rw[Lw.name_len,ht];omega) [(t:Int)]
 simp-implicitDefEqProofs[-AV.cells,-AV.isCell,aI,af,ag,au,ah,aH,ae,aw,aj,-Lw.name_len,aa,r4]
 have h5:=RD G T4 ok4 (e:=a0) (by omega) (IY G l0 hl0 pr L V nx vs (by omega) 6 a0 (ha a0 (by rw[ha0];simp)))
 obtain⟨ok5,len5⟩:=mX (faI l0) (rgV vs) a0 _ _ ok4
 obtain⟨x5,hx5⟩:∃x5,x5=lwE (faI l0) (rgV vs) a0 ((w.name 3).fin 1 0 t [(t:Int)]):=⟨_,rfl⟩
 rw[hac,←hx5] at h5
 rw[←hx5] at ok5 len5
 simp only[Lw.fin_len,Lw.name_len,←ht] at len5
 refine h5.mono ?_
 rintro x X5 ⟨rfl,K5,I5,T5,e5⟩
 have r5:=(e5 h.length (by simp)).trans r4
 simp-implicitDefEqProofs[-AV.cells,-AV.isCell,aI,af,ag,au,ah,aH,ae,aw,aj,-Lw.name_len,aa]
 refine(Jw G T5 ok5 2 x5.1 ((t:Int)+1) ((t:Int)+2) (t+1) (by omega)).mono ?_
 rintro x X6 ⟨rfl,K6,I6,T6,e6⟩
 have r6:=(e6 h.length (by simp)).trans r5
 have ok6:=ok5.fin 2 x5.1 (g:=t+1) (by omega) [(t:Int)+1,(t:Int)+2]
 simp-implicitDefEqProofs[-AV.cells,-AV.isCell,aI,af,ag,au,ah,aH,ae,aw,aj,-Lw.name_len,aa,r6]
 have h7:=zM G hb T6 (m:=[]) (up:=m::up) ok6 (by omega) (by omega) (by omega) (by rw[hrg];rfl)
 have okb:=dx (faI l0) (-1) s.body [] (m::up) nx _ _ ok6
 obtain⟨y7,hy7⟩:∃y,y=aW (faI l0) (-1) s.body [] (m::up) nx (x5.2.fin 2 x5.1 (t+1) [(t:Int)+1,(t:Int)+2]):=⟨_,rfl⟩
 rw[←hy7] at h7 okb
 refine h7.mono ?_
 rintro x X7 ⟨rfl,K7,V7,I7,T7,e7⟩
 obtain⟨ok7,len7,nx7,nxx7⟩:=okb
 simp-implicitDefEqProofs[-AV.cells,-AV.isCell,aI,af,ag,au,ah,aH,ae,aw,aj,-Lw.name_len,aa]
 refine(zQ G T7 ok7 1 0 t (t+2) (by omega)).mono ?_
 rintro x X8 ⟨rfl,K8,I8,T8,e8⟩
 simp-implicitDefEqProofs[-AV.cells,-AV.isCell,aI,af,ag,au,ah,aH,ae,aw,aj,-Lw.name_len,aa]
 subst ht
 rw[hrg] at hx5
 rw[NW o6 ha0 m up nx w hx5 hy7]
 exact⟨⟨K8,V7,I8,T8.few (λi hi=>by cases hi)⟩,rfl⟩
theorem Pa(l0:List Fd)(hl0:l0.length<=1073741824)(pr:Int)(L:Nat)(s:Sm)(hne:s.args≠[])(ha:∀a∈s.args,bP 6 a=true)(hb:Lq G l0 pr L s.body)(he:Lq G l0 pr L s.els):StR G l0 pr L s:=by
 intro w h K V I B vs nx m up T hok hB hnx hvl hrg
 have hsc:=s.cs_eq
 have hsz:=s.sz_eq
 have H:=T.stb.ls
 have hV:=T.va
 have hVd:=λi hi=>(T.at.2 i hi).2
 have hLl:=H.lt
 have hxl:∀l,exL l= .lst 4 (l.map Ex.cs):=λ_=>rfl
 obtain⟨v1,v2,v3⟩:=hV.is
 obtain⟨E,hE⟩:∃E,E=h.length::vi V:=⟨_,rfl⟩
 obtain⟨bo,hbo⟩:∃bo,bo=AO.row 5 [[.p (.int .i64 s.op),.p (.str s.name),.p (exL s.args),.p (smL s.body),.p (smL s.els)]]:=⟨_,rfl⟩
 refine AC.go ut ?_
 rw[hsc]
 by_cases o6:s.op=6
 ·have T0:=T.box bo
  have hF:=Pi G l0 hl0 pr L s o6 hne ha hb T0.start hok hB hnx hvl hrg
  rw[hsc] at hF
  rw[o6] at hbo hF
  simp-implicitDefEqProofs[-AV.cells,-AV.isCell,aI,af,ag,au,ah,aH,ae,aw,aj,-Lw.name_len,iI,o6]
  rw[←hbo]
  refine hF.mono ?_
  rintro x X1 ⟨rfl,K1,V1,I1,T1,hm1⟩
  simp-implicitDefEqProofs[-AV.cells,-AV.isCell,aI,af,ag,au,ah,aH,ae,aw,aj,-Lw.name_len,aa]
  exact⟨vs,⟨K1,V1,I1,(T0.lift T1).1.few (λi hi=>by cases hi)⟩,by rw[WZ],WK _,by omega,by rw[hm1];exact hrg⟩
 have hS0:Stg (lwR l0 pr V nx) L I E h (h++[bo]) w (h++[bo]) K I:=Stg.of H [bo] (λi hi=>by
  rw[hE] at hi
  rcases WC.1 hi with rfl|hi
  ·refine⟨by simp,?_⟩
   simp only[WC,not_or]
   exact⟨by have:=H.lt;omega,λhm=>by have:=H.own.lt hm;omega⟩
  ·exact⟨by have:=hV.lt i hi;simp;omega,hVd i hi⟩)
 have hb0:(h++[bo])[h.length]?=some bo:=by simp
 have kE:∀{w2:Lw} {X:List AO} {K2:AV} {I2:List Nat},Stg (lwR l0 pr V nx) L I E h (h++[bo]) w2 X K2 I2->X[h.length]?=some bo/\VAt X V vs/\(∀i∈vi V,i∉L::I2):=λ{w2 X K2 I2} S=>⟨(S.keep _ (by rw[hE];simp)).trans hb0,(hV.more [bo]).frame λi hi=>S.keep i (by rw[hE];simp[hi]),λi hi=>(S.ap i (by rw[hE];simp[hi])).2⟩
 have hal:=bL s.args
 have hbl:(h++[bo]).length=h.length+1:=by simp
 simp-implicitDefEqProofs[-AV.cells,-AV.isCell,aI,af,ag,au,ah,aH,ae,aw,aj,-Lw.name_len,iI,o6,hxl]
 refine Ra 0 (λts' X=>∃oid K1 I1,Stg (lwR l0 pr V nx) L I E h (h++[bo]) (bj (faI l0) (rgV vs) s.args w).2 X K1 I1/\X[oid]?=some (og (bj (faI l0) (rgV vs) s.args w).1)/\h.length<oid/\oid∉E/\oid∉L::I1/\∃z,ts'=az 132 ((20,z)::(19,.p (.int .i64 s.args.length))::(18,.p (.lst 4 (s.args.map Ex.cs)))::(17,.ptr h.length 5 0 2)::(16,.p (.int .i64 s.args.length))::[(4,.sl oid 1 0 s.args.length),(5,.p (.int .i64 s.args.length)),(3,.ptr h.length 5 0 0),(0,.ptr L 8 0 0)])) (λQ' qE=>?_) ?_
 ·rw[hxl] at hbo
  have S00:Stg (lwR l0 pr V nx) L I E h (h++[bo]) w (h++[bo]++[.row 1 []]) K I:=hS0.more _
  have e0:h++[bo]++[AO.row 1 []]=h++[bo,.row 1 []]:=by simp
  rw[e0] at S00
  have hvE:h.length+1∉E:=λhm=>by have:=(hS0.ap _ hm).1;simp at this
  refine aN (λa:MpQ=>az 132 [(4,.sl a.o 1 0 a.i),(5,.p (.int .i64 a.i)),(3,.ptr h.length 5 0 0),(0,.ptr L 8 0 0)]) (λa=>a.X)
   (λa=>a.i<=s.args.length/\∃K1 I1,Stg (lwR l0 pr V nx) L I E h (h++[bo]) (bj (faI l0) (rgV vs) (s.args.take a.i) w).2 a.X K1 I1/\a.X[a.o]?=some (og (bj (faI l0) (rgV vs) (s.args.take a.i) w).1)/\h.length<a.o/\a.o∉E/\a.o∉L::I1) (λa=>s.args.length-a.i) ⟨0,h++[bo,.row 1 []],h.length+1⟩ ⟨Xg _,K,I,by rw[List.take_zero,bj];exact S00,by rw[List.take_zero,bj,←e0,WD (by simp)];simp[og],by simp,hvE,by
     simp only[WC,not_or]
     exact⟨by omega,λhm=>by have:=H.own.lt hm;omega⟩⟩ ?_ ?_
  ·rw[hbo]
   exact am (by simp) (by simp[below];omega)
  rintro⟨i,X,o⟩ ⟨hi,K1,I1,S,hx,ho,hoE,hoI⟩
  simp only at hi S hx ho hoE hoI
  have hXl:=S.fr.1
  have hXL:=S.ls.lt
  have hox:o<X.length:=(Wy.1 hx).1
  have hlen:(bj (faI l0) (rgV vs) (s.args.take i) w).1.length=i:=by rw[gd,WX];omega
  obtain⟨y0,yV,yd⟩:=kE S
  rw[hbo] at y0
  have hbX:h.length<X.length:=(Wy.1 y0).1
  simp-implicitDefEqProofs[y0]
  refine aO (λhc1=>?_) (λhc1=>?_)
  ·simp at hc1
   have hg:=Wz hc1
   have hm:=WN hc1
   have htk:=vf (fa:=faI l0) (sc:=rgV vs) hc1 w
   have hok1:=(jL (faI l0) (rgV vs) (s.args.take i) w B hok).1
   have hzt:aM (s.args.take i)+s.args[i].sz<=aM s.args:=by
    have h1:=Xj (i+1) s.args
    have h2:aM s.args=aM (s.args.take (i+1))+aM (s.args.drop (i+1)):=by
     conv=>lhs;rw[←h1]
     rw[bM]
    rw[aq hc1,bM] at h2
    simp only[aM] at h2
    omega
   have hcall:=IY G l0 hl0 pr L V nx vs (by omega) 6 s.args[i] (ha _ hm) _ _ K1 I1 _ S.ls hok1 (by omega) yV yd
   generalize s.args[i]=k at*
   have hkc:=k.cs_eq
   generalize bj (faI l0) (rgV vs) (s.args.take i) w=cur at*
   obtain⟨out,w1⟩:=cur
   simp only at htk hcall hok1 S hx hlen
   rw[hkc] at hcall
   simp-implicitDefEqProofs[-AV.cells,-AV.isCell,aI,af,ag,au,ah,aH,ae,aw,aj,-Lw.name_len,y0,hg,hkc]
   refine hcall.mono ?_
   rintro r X2 ⟨rfl,hlr⟩
   have hl2:X.length<=X2.length:=by obtain⟨_,_,_,a,_⟩:=hlr;exact a.1
   have hx2:X2[o]?=some (og out):=by
    obtain⟨_,_,_,a,_⟩:=hlr
    rw[a.2 o hox hoI];exact hx
   have hE2:∀j∈o::E,j<X.length/\j∉L::I1:=λj hj=>by
    rcases WC.1 hj with rfl|hj
    ·exact⟨hox,hoI⟩
    ·exact S.ap j hj
   obtain⟨K2,I2,S2o⟩:=(show Stg (lwR l0 pr V nx) L I (o::E) h X w1 X K1 I1 from⟨S.ls,S.fr,S.sub,λ_ _=>rfl,hE2,WK _⟩).step (J:=[]) (λj hj=>by cases hj) (by rw[WT];exact hlr)
   have hoI2:o∉L::I2:=(S2o.ap o (by simp)).2
   have S2:Stg (lwR l0 pr V nx) L I E h (h++[bo]) _ X2 K2 I2:=⟨S2o.ls,S2o.fr,S2o.sub,λj hj=>(S2o.keep j (by simp[hj])).trans (S.keep j hj),λj hj=>S2o.ap j (by simp[hj]),Xs S.ge hl2⟩
   have hx2':∀t,(X2++t)[o]?=some (.row 1 (out.map λn=>[AV.p (.int .i64 n)])):=λt=>by rw[Wx (by omega)];exact hx2
   have hot:List.take i (out.map λn=>[AV.p (.int .i64 n)])=out.map λn=>[AV.p (.int .i64 n)]:=WF (by simp;omega)
   simp-implicitDefEqProofs[-AV.cells,-AV.isCell,aI,af,ag,au,ah,aH,ae,aw,aj,-Lw.name_len,aa,hx2',hlen,hot]
   refine⟨by omega,⟨i+1,_,X2.length+1⟩,⟨by simp only;omega,K2,I2,by
    rw[htk]
    exact S2.upd (oid:=o) (by simp;omega) (λj hj hn=>by rw[Wx (by simp;omega),WB (Ne.symm hn),Wx hj]) (by omega) hoE hoI2,?_,by simp only;omega,λhm=>by have:=(S2.ap _ hm).1;simp only at this;omega,?_⟩,by simp only;omega,am (by simp;omega) ?_⟩
   ·rw[htk,WD (by simp)];simp[og]
   ·simp only[WC,not_or]
    exact⟨by have:=S2.ls.lt;omega,λhm=>by have:=S2.ls.own.lt hm;omega⟩
   ·simp[below,show IntKind.i64.wrap ((i:Int)+1)=(i:Int)+1 from ab (by omega) (by omega)]
    omega
  ·simp at hc1
   have hie:i=s.args.length:=by omega
   subst hie
   rw[WZ] at S hx hlen
   simp-implicitDefEqProofs[]
   exact qE _ _ ⟨o,K1,I1,S,hx,ho,hoE,hoI,_,rfl⟩
 ·rintro ts' X ⟨oid,K1,I1,S,hx,ho,hoE,hoI,z,rfl⟩
  obtain⟨y0,yV,yd⟩:=kE S
  rw[hbo] at y0
  obtain⟨okm,lenm⟩:=jL (faI l0) (rgV vs) s.args w B hok
  have hlm:=gd (faI l0) (rgV vs) s.args w
  obtain⟨t1,ht1⟩:∃x,x=bj (faI l0) (rgV vs) s.args w:=⟨_,rfl⟩
  have heq:=MP (fa:=faI l0) (d:= -1) o6 m up nx w (x:=t1) (by rw[←hrg];exact ht1)
  rw[←ht1] at S hx okm lenm hlm
  have hA:OwnL false X [.sl oid 1 0 s.args.length] [bF t1.1] [oid]:=uo hx hlm.symm
  have hox:=(Wy.1 hx).1
  rw[hE] at S hoE
  have To:RS l0 pr L (L::(vi V++I)) I [oid,h.length] h t1.2 nx vs X K1 V I1:=RS.ofStg S yV hV.lt hox hoE hoI
  have Tq:RS l0 pr L (L::(vi V++I)) I [h.length] h t1.2 nx vs X K1 V I1:=To.few (by simp)
  have hJ:∀j∈[oid],h.length<=j/\j∉vi V++[h.length]:=λj hj=>by
   rw[WG.1 hj]
   refine⟨by omega,λhm=>hoE ?_⟩
   rcases WE.1 hm with hm|hm
   ·simp[hm]
   ·rw[WG.1 hm];simp
  have hJ2:∀j∈[oid],j≠L/\j∉I1:=λj hj=>by
   rw[WG.1 hj]
   simpa only[WC,not_or] using hoI
  have r1:=y0
  have yL:=S.ls.here
  simp only[lwR] at yL
  clear ht1
  have hsl0:0<s.args.length:=XD.2 hne
  have hq:∃q0 qr,t1.1=q0::qr:=by
   match hx:t1.1,s.args,hne,hlm with
   |q::r,_,_,_=>exact⟨q,r,rfl⟩
   |[],[],h,_=>exact(h rfl).elim
   |[],_::_,_,h=>simp at h
  simp-implicitDefEqProofs[-AV.cells,-AV.isCell,aI,af,ag,au,ah,aH,ae,aw,aj,-Lw.name_len,r1]
  refine aO (λo1=>?_) (λo1=>?_)
  ·have o1:s.op=1:=by simpa using o1
   simp-implicitDefEqProofs[-AV.cells,-AV.isCell,aI,af,ag,au,ah,aH,ae,aw,aj,-Lw.name_len,r1,yL]
   refine(JC G Tq okm (by omega) ⟨2,nx,t1.1,0⟩ hA (by simp) hJ hJ2).mono ?_
   rintro x X1 ⟨rfl,K2,I2,T2,e2⟩
   simp-implicitDefEqProofs[-AV.cells,-AV.isCell,aI,af,ag,au,ah,aH,ae,aw,aj,-Lw.name_len,aa]
   have vform:=T2.va
   have dl:=(T2.at.2)
   have yL2:=T2.stb.ls.here
   simp only[lwR] at yL2
   have r2:=(e2 h.length (by simp)).trans r1
   have hrgn:rgV (vs++[(s.name,nx)])=scF (-1) (eQ m s.name nx::up):=by
    funext t
    rw[Bb,hrg,scF,scF,cZ,cZ,ip]
    by_cases hst:s.name=t
    ·simp[hst]
    ·simp[hst]
   have hwn:IntKind.i64.wrap ((nx:Int)+1)=(nx:Int)+1:=ab (by omega) (by omega)
   have hLX:=T2.stb.ls.lt
   cases vform with
   |nil=>
    have hLs:∀t o,((X1++t).set L o)[L]?=some o:=λt o=>WH (by simp;omega)
    have hLm:∀t,(X1++t)[L]?=X1[L]?:=λt=>Wx hLX
    have hrm:∀t o,((X1++t).set L o)[h.length]?=X1[h.length]?:=λt o=>by
     rw[WB (λe=>(T2.at.1 h.length (by simp)).2 (by rw[e];simp)),Wx (T2.at.1 h.length (by simp)).1]
    simp-implicitDefEqProofs[-AV.cells,-AV.isCell,aI,af,ag,au,ah,aH,ae,aw,aj,-Lw.name_len,r2,yL2,hLm, ↓hLs,hwn,hrm]
    obtain⟨V2,hV2⟩:∃V2,V2=AV.sl X1.length 3 0 1:=⟨_,rfl⟩
    rw[heq,if_pos o1]
    have hX2:∀X2,X2=(X1++[AO.row 3 [[.p (.str s.name),.p (.int .i64 nx),.p (.int .i64 0)]]]).set L (.row 8 [[.p (fdL l0),.p (.int .i64 pr),.p (.int .i64 (t1.2.put ⟨2,nx,t1.1,0⟩).regs),K2,.p (.int .i64 (t1.2.put ⟨2,nx,t1.1,0⟩).pos),.sl X1.length 3 0 1,.p (.int .i64 ((nx:Int)+1)),.nils]])->RS l0 pr L (L::(vi .nils++I)) I [h.length] h (t1.2.put ⟨2,nx,t1.1,0⟩) (nx+1) [(s.name,nx)] X2 K2 (.sl X1.length 3 0 1) I2:=λX2 e=>by
     subst e
     refine(T2.alt (by simp) (by rw[hLs,lwR];simp) (λi hi hn _=>by rw[WB (Ne.symm hn),Wx hi]) (.sl _ [sM (s.name,nx)] [(s.name,nx)] (by rw[WB (by omega),WD (WK _)];simp[sM]) rfl) (λi hi=> .inr (by rw[WG.1 hi];exact WK _))).1
    refine⟨[(s.name,nx)],⟨_,_,_,(hX2 _ (by simp[List.set_set])).few (E2:=[]) (λi hi=>by cases hi)⟩,?_⟩
    simpa using hrgn
   |sl vid rows _ hv1 hv2=>
    have hvX:=(Wy.1 hv1).1
    have hvd:=(T2.at.2 vid (by simp[vi])).2
    simp only[WC,not_or] at hvd
    have hLs:∀t u o,(((X1++t).set vid .dead++u).set L o)[L]?=some o:=λt u o=>WH (by simp;omega)
    have hLm:∀t u,((X1++t).set vid .dead++u)[L]?=X1[L]?:=λt u=>by rw[Wx (by simp;omega),WB hvd.1,Wx hLX]
    have hLs0:∀u o,((X1.set vid .dead++u).set L o)[L]?=some o:=λu o=>WH (by simp;omega)
    have hLm0:∀u,(X1.set vid .dead++u)[L]?=X1[L]?:=λu=>by rw[Wx (by simp;omega),WB hvd.1]
    have hvk:vs.length<=rows.length:=by
     have:=congrArg List.length hv2
     rw[WX,Xc] at this
     omega
    simp-implicitDefEqProofs[-AV.cells,-AV.isCell,aI,af,ag,au,ah,aH,ae,aw,aj,-Lw.name_len,r2,yL2,hv1,hv2, ↓hLs, ↓hLm, ↓hLs0, ↓hLm0,hwn]
    rw[heq,if_pos o1]
    have hX2:∀X2,X2=(X1.set vid .dead++[AO.row 3 (vs.map sM++[[.p (.str s.name),.p (.int .i64 nx),.p (.int .i64 0)]])]).set L (.row 8 [[.p (fdL l0),.p (.int .i64 pr),.p (.int .i64 (t1.2.put ⟨2,nx,t1.1,0⟩).regs),K2,.p (.int .i64 (t1.2.put ⟨2,nx,t1.1,0⟩).pos),.sl X1.length 3 0 (vs.length+1),.p (.int .i64 ((nx:Int)+1)),.nils]])->RS l0 pr L (L::(vi (.sl vid 3 0 vs.length)++I)) I [h.length] h (t1.2.put ⟨2,nx,t1.1,0⟩) (nx+1) (vs++[(s.name,nx)]) X2 K2 (.sl X1.length 3 0 (vs.length+1)) I2:=λX2 e=>by
     subst e
     have hlv:(vs++[(s.name,nx)]).length=vs.length+1:=by simp
     refine(T2.alt (by simp) (by rw[hLs0,lwR];simp) (λi hi hn hv=>by
      rw[WB (Ne.symm hn),Wx (by simpa using hi),WB (λe=>hv (by rw[←e];simp[vi]))]) (hlv▸ .sl _ (vs.map sM++[sM (s.name,nx)]) (vs++[(s.name,nx)]) (by rw[WB (by omega),WD (by simp)];simp[sM]) (by rw[WF (by simp)];simp)) (λi hi=> .inr (by rw[WG.1 hi];exact WK _))).1
    refine⟨⟨by omega,by omega⟩,vs++[(s.name,nx)],⟨_,_,_,(hX2 _ (by simp[List.set_set])).few (E2:=[]) (λi hi=>by cases hi)⟩,?_⟩
    simpa using hrgn
  have o1:¬s.op=1:=by simpa using o1
  simp-implicitDefEqProofs[-AV.cells,-AV.isCell,aI,af,ag,au,ah,aH,ae,aw,aj,-Lw.name_len,r1]
  refine aO (λo2=>?_) (λo2=>?_)
  ·have o2:s.op=2:=by simpa using o2
   simp-implicitDefEqProofs[-AV.cells,-AV.isCell,aI,af,ag,au,ah,aH,ae,aw,aj,-Lw.name_len,r1,yL]
   refine(NI G S.ls.here yV (by omega) s.name).mono ?_
   rintro x X' ⟨rfl,rfl⟩
   simp-implicitDefEqProofs[-AV.cells,-AV.isCell,aI,af,ag,au,ah,aH,ae,aw,aj,-Lw.name_len,aa,r1]
   refine(JC G Tq okm (by omega) ⟨2,rgV vs s.name,t1.1,0⟩ hA (by simp) hJ hJ2).mono ?_
   rintro x X1 ⟨rfl,K2,I2,T2,e2⟩
   simp-implicitDefEqProofs[-AV.cells,-AV.isCell,aI,af,ag,au,ah,aH,ae,aw,aj,-Lw.name_len,aa]
   rw[hrg] at T2
   rw[heq,if_neg o1,if_pos o2]
   exact⟨vs,⟨_,_,_,T2.few (λi hi=>by cases hi)⟩,by rw[WZ],WK _,by omega,hrg⟩
  have o2:¬s.op=2:=by simpa using o2
  simp-implicitDefEqProofs[-AV.cells,-AV.isCell,aI,af,ag,au,ah,aH,ae,aw,aj,-Lw.name_len,r1]
  refine aO (λo3=>?_) (λo3=>?_)
  ·have o3:s.op=3:=by simpa using o3
   simp-implicitDefEqProofs[-AV.cells,-AV.isCell,aI,af,ag,au,ah,aH,ae,aw,aj,-Lw.name_len,r1,yL]
   refine(JC G Tq okm (by omega) ⟨13,-1,t1.1,0⟩ hA (by simp) hJ hJ2).mono ?_
   rintro x X1 ⟨rfl,K2,I2,T2,e2⟩
   simp-implicitDefEqProofs[-AV.cells,-AV.isCell,aI,af,ag,au,ah,aH,ae,aw,aj,-Lw.name_len,aa]
   rw[heq,if_neg o1,if_neg o2,if_pos o3]
   exact⟨vs,⟨_,_,_,T2.few (λi hi=>by cases hi)⟩,by rw[WZ],WK _,by omega,hrg⟩
  have o3:¬s.op=3:=by simpa using o3
  simp-implicitDefEqProofs[-AV.cells,-AV.isCell,aI,af,ag,au,ah,aH,ae,aw,aj,-Lw.name_len,r1]
  refine aO (λo4=>?_) (λo4=>?_)
  ·have o4:s.op=4:=by simpa using o4
   simp-implicitDefEqProofs[-AV.cells,-AV.isCell,aI,af,ag,au,ah,aH,ae,aw,aj,-Lw.name_len,r1,yL]
   refine(JC G Tq okm (by omega) ⟨12,-1,t1.1,0⟩ hA (by simp) hJ hJ2).mono ?_
   rintro x X1 ⟨rfl,K2,I2,T2,e2⟩
   simp-implicitDefEqProofs[-AV.cells,-AV.isCell,aI,af,ag,au,ah,aH,ae,aw,aj,-Lw.name_len,aa]
   rw[heq,if_neg o1,if_neg o2,if_neg o3,if_pos o4]
   exact⟨vs,⟨_,_,_,T2.few (λi hi=>by cases hi)⟩,by rw[WZ],WK _,by omega,hrg⟩
  have o4:¬s.op=4:=by simpa using o4
  simp-implicitDefEqProofs[-AV.cells,-AV.isCell,aI,af,ag,au,ah,aH,ae,aw,aj,-Lw.name_len,r1]
  refine aO (λo7=>?_) (λo7=>?_)
  ·have o7:s.op=7:=by simpa using o7
   obtain⟨q0,qr,hq⟩:=hq
   obtain⟨t,ht⟩:∃t,t=t1.2.bs.length:=⟨_,rfl⟩
   have htb:t<=B+8*aM s.args:=by rw[ht];exact okm.bs
   have ho1:X[oid]?=some (.row 1 ([.p (.int .i64 q0)]::qr.map λn=>[AV.p (.int .i64 n)])):=by rw[hx,og,hq];rfl
   have hhd:t1.1.headD 0=q0:=by rw[hq];rfl
   simp-implicitDefEqProofs[-AV.cells,-AV.isCell,aI,af,ag,au,ah,aH,ae,aw,aj,-Lw.name_len,r1,ho1,hsl0]
   refine(oc G To okm (by omega)).mono ?_
   rintro x X2 ⟨rfl,K2,I2,T2,e2⟩
   have o2':=(e2 oid (by simp)).trans ho1
   have r2:=(e2 h.length (by simp)).trans r1
   have ok2:=okm.name 1
   simp-implicitDefEqProofs[-AV.cells,-AV.isCell,aI,af,ag,au,ah,aH,ae,aw,aj,-Lw.name_len,aa,←ht,o2',hsl0,r2]
   refine(Qg G T2 ok2 3 q0 t rfl).mono ?_
   rintro x X3 ⟨rfl,K3,I3,T3,e3⟩
   simp-implicitDefEqProofs[-AV.cells,-AV.isCell,aI,af,ag,au,ah,aH,ae,aw,aj,-Lw.name_len,aa]
   rw[heq,if_neg o1,if_neg o2,if_neg o3,if_neg o4,if_neg (by omega),if_pos o7,hhd,←ht]
   exact⟨vs,⟨_,_,_,T3.few (λi hi=>by cases hi)⟩,by rw[WZ],WK _,by omega,hrg⟩
  have o7:¬s.op=7:=by simpa using o7
  simp-implicitDefEqProofs[-AV.cells,-AV.isCell,aI,af,ag,au,ah,aH,ae,aw,aj,-Lw.name_len,r1]
  refine aO (λo5=>?_) (λo5=>?_)
  ·have o5:s.op=5:=by simpa using o5
   obtain⟨q0,qr,hq⟩:=hq
   obtain⟨t,ht⟩:∃t,t=t1.2.bs.length:=⟨_,rfl⟩
   have htb:t<=B+8*aM s.args:=by rw[ht];exact okm.bs
   have ho1:X[oid]?=some (.row 1 ([.p (.int .i64 q0)]::qr.map λn=>[AV.p (.int .i64 n)])):=by rw[hx,og,hq];rfl
   have hhd:t1.1.headD 0=q0:=by rw[hq];rfl
   simp-implicitDefEqProofs[-AV.cells,-AV.isCell,aI,af,ag,au,ah,aH,ae,aw,aj,-Lw.name_len,r1]
   refine(oc G To okm (by omega)).mono ?_
   rintro x X2 ⟨rfl,K2,I2,T2,e2⟩
   have r2:=(e2 h.length (by simp)).trans r1
   have ok2:=okm.name 1
   have hl2:(t1.2.name 1).bs.length=t+1:=by rw[Lw.name_len,ht]
   simp-implicitDefEqProofs[-AV.cells,-AV.isCell,aI,af,ag,au,ah,aH,ae,aw,aj,-Lw.name_len,aa,←ht,r2]
   refine(oc G T2 ok2 (by omega)).mono ?_
   rintro x X3 ⟨rfl,K3,I3,T3,e3⟩
   have r3:=(e3 h.length (by simp)).trans r2
   have ok3:=ok2.name 1
   have hl3:((t1.2.name 1).name 1).bs.length=t+2:=by rw[Lw.name_len,hl2]
   simp-implicitDefEqProofs[-AV.cells,-AV.isCell,aI,af,ag,au,ah,aH,ae,aw,aj,-Lw.name_len,aa,hl2,r3]
   refine(oc G T3 ok3 (by omega)).mono ?_
   rintro x X4 ⟨rfl,K4,I4,T4,e4⟩
   have r4:=(e4 h.length (by simp)).trans r3
   have ok4:(t1.2.name 3).Ok _:=okm.name 3
   have hn4:((t1.2.name 1).name 1).name 1=t1.2.name 3:=by rw[Lw.name_name,Lw.name_name]
   rw[hn4] at T4
   have o4':=(e4 oid (by simp)).trans ((e3 oid (by simp)).trans ((e2 oid (by simp)).trans ho1))
   simp-implicitDefEqProofs[-AV.cells,-AV.isCell,aI,af,ag,au,ah,aH,ae,aw,aj,-Lw.name_len,aa,hl3,r4,o4',hsl0]
   refine(Jw G T4 ok4 2 q0 t ((t:Int)+1) t rfl).mono ?_
   rintro x X5 ⟨rfl,K5,I5,T5,e5⟩
   have r5:=(e5 h.length (by simp)).trans r4
   have ok5:=ok4.fin 2 q0 (g:=t) (by rw[Lw.name_len,ht];omega) [(t:Int),(t:Int)+1]
   simp-implicitDefEqProofs[-AV.cells,-AV.isCell,aI,af,ag,au,ah,aH,ae,aw,aj,-Lw.name_len,aa,r5]
   have h6:=zM G hb T5 (m:=[]) (up:=m::up) ok5 (by omega) (by omega) (by omega) (by rw[hrg];rfl)
   have okb:=dx (faI l0) (-1) s.body [] (m::up) nx _ _ ok5
   obtain⟨y6,hy6⟩:∃y,y=aW (faI l0) (-1) s.body [] (m::up) nx ((t1.2.name 3).fin 2 q0 t [(t:Int),(t:Int)+1]):=⟨_,rfl⟩
   rw[←hy6] at h6 okb
   refine h6.mono ?_
   rintro x X6 ⟨rfl,K6,V6,I6,T6,e6⟩
   obtain⟨ok6,len6,nx6,nxx6⟩:=okb
   simp only[Lw.fin_len,Lw.name_len,←ht] at len6
   have r6:=(e6 h.length (by simp)).trans r5
   simp-implicitDefEqProofs[-AV.cells,-AV.isCell,aI,af,ag,au,ah,aH,ae,aw,aj,-Lw.name_len,aa,r6]
   refine(zQ G T6 ok6 1 0 ((t:Int)+2) (t+1) (by omega)).mono ?_
   rintro x X7 ⟨rfl,K7,I7,T7,e7⟩
   have r7:=(e7 h.length (by simp)).trans r6
   have ok7:=ok6.fin 1 0 (g:=t+1) (by omega) [(t:Int)+2]
   simp-implicitDefEqProofs[-AV.cells,-AV.isCell,aI,af,ag,au,ah,aH,ae,aw,aj,-Lw.name_len,aa,r7]
   have h8:=zM G he T7 (m:=[]) (up:=m::up) ok7 (by omega) (by omega) (by omega) (by rw[hrg];rfl)
   have okb:=dx (faI l0) (-1) s.els [] (m::up) y6.2.1 _ _ ok7
   obtain⟨y8,hy8⟩:∃y,y=aW (faI l0) (-1) s.els [] (m::up) y6.2.1 (y6.2.2.fin 1 0 (t+1) [(t:Int)+2]):=⟨_,rfl⟩
   rw[←hy8] at h8 okb
   refine h8.mono ?_
   rintro x X8 ⟨rfl,K8,V8,I8,T8,e8⟩
   obtain⟨ok8,len8,nx8,nxx8⟩:=okb
   simp only[Lw.fin_len] at len8
   have r8:=(e8 h.length (by simp)).trans r7
   simp-implicitDefEqProofs[-AV.cells,-AV.isCell,aI,af,ag,au,ah,aH,ae,aw,aj,-Lw.name_len,aa,r8]
   refine(zQ G T8 ok8 1 0 ((t:Int)+2) (t+2) (by omega)).mono ?_
   rintro x X9 ⟨rfl,K9,I9,T9,e9⟩
   simp-implicitDefEqProofs[-AV.cells,-AV.isCell,aI,af,ag,au,ah,aH,ae,aw,aj,-Lw.name_len,aa]
   have hE5:lwS (faI l0) (-1) s m up nx w=(m,y8.2.1,y8.2.2.fin 1 0 (t+2) [(t:Int)+2]):=by
    rw[heq,if_neg o1,if_neg o2,if_neg o3,if_neg o4,if_pos o5]
    simp only[hhd,←ht]
    rw[←hy6,←hy8]
   rw[hE5]
   exact⟨vs,⟨_,_,_,T9.few (λi hi=>by cases hi)⟩,by rw[WZ],WK _,by omega,hrg⟩
  have o5:¬s.op=5:=by simpa using o5
  simp-implicitDefEqProofs[-AV.cells,-AV.isCell,aI,af,ag,au,ah,aH,ae,aw,aj,-Lw.name_len,r1]
  rw[heq,if_neg o1,if_neg o2,if_neg o3,if_neg o4,if_neg o5,if_neg o7]
  exact⟨vs,⟨_,_,_,Tq.few (λi hi=>by cases hi)⟩,by rw[WZ],WK _,by omega,hrg⟩
structure SlS where (i:Nat) (X:List AO)
theorem Ac(l0:List Fd)(pr:Int)(L:Nat)(b:List Sm)(hs:∀s∈b,StR G l0 pr L s):Lq G l0 pr L b:=by
 intro w h K V I B vs nx m up T hok hB hnx hvl hrg
 have hsl:∀l,smL l= .lst 5 (l.map Sm.cs):=λ_=>rfl
 have hll:=bE b
 have yL0:=T.stb.ls.here
 simp only[lwR] at yL0
 refine AC.go sT ?_
 rcases T.va.form with⟨hVe,hve⟩|⟨UA,hVe⟩
 ·have hv00:vs.length=0:=by rw[hve];rfl
  rw[hVe] at yL0
  simp-implicitDefEqProofs[gD,yL0,hsl]
  refine aN (λa:SlS=>az 32 [(5,.p (.int .i64 a.i)),(4,.p (.int .i64 0)),(0,.ptr L 8 0 0),(1,.p (smL b))]) (λa=>a.X)
   (λa=>a.i<=b.length/\∃vs1 K1 V1 I1,RS l0 pr L (L::(vi V++I)) I [] h (aW (faI l0) (-1) (b.take a.i) m up nx w).2.2 (aW (faI l0) (-1) (b.take a.i) m up nx w).2.1 vs1 a.X K1 V1 I1/\vs1.take vs.length=vs/\vs.length<=vs1.length/\vs1.length<=vs.length+a.i/\rgV vs1=scF (-1) ((aW (faI l0) (-1) (b.take a.i) m up nx w).1::up)) (λa=>b.length-a.i) ⟨0,h⟩ ⟨Xg _,vs,K,V,I,by rw[List.take_zero,aW];exact T,by rw[WZ],WK _,by simp,by rw[List.take_zero,aW];exact hrg⟩ ?_ ?_
  ·exact am (WK _) (by simp[below,hsl,T.stb.ls.lt])
  rintro⟨i,X⟩ ⟨hi,vs1,K1,V1,I1,T1,p1,p2,p3,p4⟩
  simp only at hi T1 p3 p4
  have hXL:=T1.stb.ls.lt
  simp-implicitDefEqProofs[hsl]
  refine aO (λhc=>?_) (λhc=>?_)
  ·simp at hc
   have hg:=Wz hc
   have hm:=WN hc
   have htk:=vD (fa:=faI l0) (d:= -1) hc m up nx w
   have hok1:=dx (faI l0) (-1) (b.take i) m up nx w B hok
   have hzt:aC (b.take i)+b[i].sz<=aC b:=by
    have h1:=Xj (i+1) b
    have h2:aC b=aC (b.take (i+1))+aC (b.drop (i+1)):=by
     conv=>lhs;rw[←h1]
     rw[aX]
    rw[aq hc,aX] at h2
    simp only[aC] at h2
    omega
   have htl:i<=aC (b.take i):=by
    have:=bE (b.take i)
    rw[WX] at this
    omega
   have hst:=hs b[i] hm
   generalize b[i]=s at hg hm htk hzt hst
   have hsc:=s.cs_eq
   generalize aW (faI l0) (-1) (b.take i) m up nx w=cur at*
   obtain⟨mc,nc,wc⟩:=cur
   simp only at htk hok1 T1 p4
   obtain⟨okc,_,_,hnc⟩:=hok1
   have hcall:=hst wc X K1 V1 I1 _ vs1 nc mc up T1.start okc (by omega) (by omega) (by omega) p4
   rw[hsc] at hcall
   simp-implicitDefEqProofs[hg,hsc]
   refine hcall.mono ?_
   rintro r X2 ⟨rfl,vs2,K2,V2,I2,T2,q1,q2,q3,q4⟩
   obtain⟨T3,_⟩:=T1.lift T2
   simp-implicitDefEqProofs[aa]
   refine⟨⟨i+1,X2⟩,⟨by simp only;omega,vs2,⟨K2,V2,I2,by rw[htk];exact T3⟩,?_,by omega,by simp only;omega,by rw[htk];exact q4⟩,by simp only;omega,am (Xs T1.stb.fr.1 T2.stb.fr.1) ?_⟩
   ·rw[←q1,List.take_take,Nat.min_eq_left p2] at p1
    exact p1
   ·simp[below,hsl,show IntKind.i64.wrap ((i:Int)+1)=(i:Int)+1 from ab (by omega) (by omega)]
    exact T3.stb.ls.lt
  ·simp at hc
   have hie:i=b.length:=by omega
   subst hie
   rw[WZ] at T1
   have yL:=T1.stb.ls.here
   simp only[lwR] at yL
   have fin:∀V2,VAt (X.set L (lwR l0 pr V2 (aW (faI l0) (-1) b m up nx w).2.1 (aW (faI l0) (-1) b m up nx w).2.2 K1)) V2 vs->(∀i∈vi V2,i∈vi V1)->RS l0 pr L (L::(vi V++I)) I [] h (aW (faI l0) (-1) b m up nx w).2.2 (aW (faI l0) (-1) b m up nx w).2.1 vs (X.set L (lwR l0 pr V2 (aW (faI l0) (-1) b m up nx w).2.1 (aW (faI l0) (-1) b m up nx w).2.2 K1)) K1 V2 I1:=λV2 hv2 hs2=>(T1.alt (by simp) (WH T1.stb.ls.lt) (λi hi hn _=>WB (Ne.symm hn)) hv2 (λi hi=> .inl (hs2 i hi))).1
   have va:=T1.va
   have vd:=T1.at.2
   cases va with
   |nil=>
    have hv0:vs=[]:=List.length_eq_zero_iff.1 (by simpa using p2)
    have hv1:vs.length=0:=by rw[hv0];rfl
    simp-implicitDefEqProofs[yL,hv1]
    exact⟨K1,.nils,I1,by have:=fin .nils (by rw[hv0];exact .nil) (λi hi=>hi);simpa only[lwR] using this⟩
   |sl vid rows _ h1 h2=>
    have hvl2:vs1.length<=rows.length:=by
     have:=congrArg List.length h2
     rw[WX,Xc] at this
     omega
    have hne:vid≠L:=λe=>(vd vid (by simp[vi])).2 (by rw[e];simp)
    simp-implicitDefEqProofs[yL,h1,p2]
    refine⟨K1,.sl vid 3 0 0,I1,?_⟩
    have:=fin (.sl vid 3 0 vs.length) (.sl vid rows vs (by rw[WB (Ne.symm hne)];exact h1) (by
     have e:=congrArg (List.take vs.length) h2
     rw[List.take_take,Nat.min_eq_left p2,←List.map_take,p1] at e
     exact e)) (λi hi=>by simpa[vi] using hi)
    rw[hv00] at this
    simpa only[lwR] using this
 ·rw[hVe] at yL0
  simp-implicitDefEqProofs[gD,yL0,hsl]
  refine aN (λa:SlS=>az 32 [(5,.p (.int .i64 a.i)),(4,.p (.int .i64 vs.length)),(0,.ptr L 8 0 0),(1,.p (smL b))]) (λa=>a.X)
   (λa=>a.i<=b.length/\∃vs1 K1 V1 I1,RS l0 pr L (L::(vi V++I)) I [] h (aW (faI l0) (-1) (b.take a.i) m up nx w).2.2 (aW (faI l0) (-1) (b.take a.i) m up nx w).2.1 vs1 a.X K1 V1 I1/\vs1.take vs.length=vs/\vs.length<=vs1.length/\vs1.length<=vs.length+a.i/\rgV vs1=scF (-1) ((aW (faI l0) (-1) (b.take a.i) m up nx w).1::up)) (λa=>b.length-a.i) ⟨0,h⟩ ⟨Xg _,vs,K,V,I,by rw[List.take_zero,aW];exact T,by rw[WZ],WK _,by simp,by rw[List.take_zero,aW];exact hrg⟩ ?_ ?_
  ·exact am (WK _) (by simp[below,hsl,T.stb.ls.lt])
  rintro⟨i,X⟩ ⟨hi,vs1,K1,V1,I1,T1,p1,p2,p3,p4⟩
  simp only at hi T1 p3 p4
  have hXL:=T1.stb.ls.lt
  simp-implicitDefEqProofs[hsl]
  refine aO (λhc=>?_) (λhc=>?_)
  ·simp at hc
   have hg:=Wz hc
   have hm:=WN hc
   have htk:=vD (fa:=faI l0) (d:= -1) hc m up nx w
   have hok1:=dx (faI l0) (-1) (b.take i) m up nx w B hok
   have hzt:aC (b.take i)+b[i].sz<=aC b:=by
    have h1:=Xj (i+1) b
    have h2:aC b=aC (b.take (i+1))+aC (b.drop (i+1)):=by
     conv=>lhs;rw[←h1]
     rw[aX]
    rw[aq hc,aX] at h2
    simp only[aC] at h2
    omega
   have htl:i<=aC (b.take i):=by
    have:=bE (b.take i)
    rw[WX] at this
    omega
   have hst:=hs b[i] hm
   generalize b[i]=s at hg hm htk hzt hst
   have hsc:=s.cs_eq
   generalize aW (faI l0) (-1) (b.take i) m up nx w=cur at*
   obtain⟨mc,nc,wc⟩:=cur
   simp only at htk hok1 T1 p4
   obtain⟨okc,_,_,hnc⟩:=hok1
   have hcall:=hst wc X K1 V1 I1 _ vs1 nc mc up T1.start okc (by omega) (by omega) (by omega) p4
   rw[hsc] at hcall
   simp-implicitDefEqProofs[hg,hsc]
   refine hcall.mono ?_
   rintro r X2 ⟨rfl,vs2,K2,V2,I2,T2,q1,q2,q3,q4⟩
   obtain⟨T3,_⟩:=T1.lift T2
   simp-implicitDefEqProofs[aa]
   refine⟨⟨i+1,X2⟩,⟨by simp only;omega,vs2,⟨K2,V2,I2,by rw[htk];exact T3⟩,?_,by omega,by simp only;omega,by rw[htk];exact q4⟩,by simp only;omega,am (Xs T1.stb.fr.1 T2.stb.fr.1) ?_⟩
   ·rw[←q1,List.take_take,Nat.min_eq_left p2] at p1
    exact p1
   ·simp[below,hsl,show IntKind.i64.wrap ((i:Int)+1)=(i:Int)+1 from ab (by omega) (by omega)]
    exact T3.stb.ls.lt
  ·simp at hc
   have hie:i=b.length:=by omega
   subst hie
   rw[WZ] at T1
   have yL:=T1.stb.ls.here
   simp only[lwR] at yL
   have fin:∀V2,VAt (X.set L (lwR l0 pr V2 (aW (faI l0) (-1) b m up nx w).2.1 (aW (faI l0) (-1) b m up nx w).2.2 K1)) V2 vs->(∀i∈vi V2,i∈vi V1)->RS l0 pr L (L::(vi V++I)) I [] h (aW (faI l0) (-1) b m up nx w).2.2 (aW (faI l0) (-1) b m up nx w).2.1 vs (X.set L (lwR l0 pr V2 (aW (faI l0) (-1) b m up nx w).2.1 (aW (faI l0) (-1) b m up nx w).2.2 K1)) K1 V2 I1:=λV2 hv2 hs2=>(T1.alt (by simp) (WH T1.stb.ls.lt) (λi hi hn _=>WB (Ne.symm hn)) hv2 (λi hi=> .inl (hs2 i hi))).1
   have va:=T1.va
   have vd:=T1.at.2
   cases va with
   |nil=>
    have hv0:vs=[]:=List.length_eq_zero_iff.1 (by simpa using p2)
    have hv1:vs.length=0:=by rw[hv0];rfl
    simp-implicitDefEqProofs[yL,hv1]
    exact⟨K1,.nils,I1,by have:=fin .nils (by rw[hv0];exact .nil) (λi hi=>hi);simpa only[lwR] using this⟩
   |sl vid rows _ h1 h2=>
    have hvl2:vs1.length<=rows.length:=by
     have:=congrArg List.length h2
     rw[WX,Xc] at this
     omega
    have hne:vid≠L:=λe=>(vd vid (by simp[vi])).2 (by rw[e];simp)
    simp-implicitDefEqProofs[yL,h1,p2]
    refine⟨K1,.sl vid 3 0 vs.length,I1,?_⟩
    have:=fin (.sl vid 3 0 vs.length) (.sl vid rows vs (by rw[WB (Ne.symm hne)];exact h1) (by
     have e:=congrArg (List.take vs.length) h2
     rw[List.take_take,Nat.min_eq_left p2,←List.map_take,p1] at e
     exact e)) (λi hi=>by simpa[vi] using hi)
    simpa only[lwR] using this
theorem Ox(l0:List Fd)(hl0:l0.length<=1073741824)(pr:Int)(L:Nat):∀(d:Nat) (b:List Sm),(∀s∈b,aJ d s=true)->Lq G l0 pr L b:=by
 intro d
 induction d with
 |zero=>
  intro b hb
  refine Ac G l0 pr L b λs hs=>?_
  have:=hb s hs
  cases this
 |succ d ih=>
  intro b hb
  refine Ac G l0 pr L b λs hs=>?_
  have hf:=hb s hs
  exact Pa G l0 hl0 pr L s (NA hf) (GW hf) (ih s.body (Gi hf)) (ih s.els (JY hf))
end
section
theorem sL:AK.whole gz=FK.ak gA:=rfl
variable (G:aK)
theorem Gj{f:FuncId}{args:List AV}{nf:Bool}{fns:List Fd}{k:Nat}{w w':WS}{v:AV}(H:AC Tryz.prog G f args (HWk nf fns k w) λx h=>x= .ret v/\h=HWk nf fns k w')(rest:List AO)(ha:ay 2 args):
 AC Tryz.prog G f args (wO 1 nf fns k w::roC nf w.vs::rest) λx h=>x= .ret v/\h=wO 1 nf fns k w'::roC nf w'.vs::rest:=by
 refine(AC.pre H rest ha (BO _ _ _ _) ?_).mono ?_
 ·rintro x h ⟨_,rfl⟩;rfl
 ·rintro x h ⟨h1,⟨rfl,rfl⟩,rfl⟩
  exact⟨rfl,rfl⟩
theorem tD{n id:Nat}(hn:id<n){nf nf':Bool}{fns:List Fd}{k:Nat}{w:WS}{vs:List LV}{l:List AO}(r:∀o∈l,okO n o):∀o∈wO id nf fns k w::roC nf' vs::l,okO n o:=aD (vR hn) (aD (gE _ _ _) r)
theorem Aj{ρ π:List Nat}{h r1:List AO}{i id:Nat}{nf:Bool}{fns:List Fd}{k:Nat}{w:WS}(hid:id<ρ.length)(e:h[i]?=some (wO (ρ.getD id 0) nf fns k w))(hr:HW ρ h π r1):HW ρ h (i::π) (wO id nf fns k w::r1):=by
 refine cW (es:=[wC id nf fns k w]) (λx hx=>?_) ?_ hr
 ·rw[WG.1 hx];exact Bf hid
 ·rw[e,WY,Xv,Eg];rfl
theorem Lm{α:Type}{l:List α}{i j:Nat}{a b:α}(hij:i≠j)(h:l[j]?=some b):(l.set i a).set j b=l.set i a:=by
 apply List.ext_getElem?
 intro n
 rw[List.getElem?_set]
 split
 ·rename_i e
  subst e
  rw[WB hij,h]
  rw[if_pos (by rw[Xq];exact(Wy.1 h).1)]
 ·rfl
theorem DF(ρ:List Nat):∀l:List AV,ay 0 l->TW ρ l l
 |[],_=>by simp
 |v::r,h=>by
  rw[tw]
  refine⟨.inr ⟨(aR (Xg _) [v] ⟨h.1,trivial⟩).1,?_⟩,DF ρ r h.2⟩
  have:=dF ρ [v] ⟨h.1,trivial⟩
  simpa[bn] using this
theorem TJ{h:List AO}{wid id:Nat}{nf:Bool}{fns:List Fd}{k:Nat}{w:WS}(e0:h[wid]?=some (wO id nf fns k w))(e1:h[id]?=some (roC nf w.vs)):HW [wid,id] h [wid,id] (HWk nf fns k w):=by
 refine cW (es:=[wC 1 nf fns k w]) (λx hx=>?_) ?_ ?_
 ·rw[WG.1 hx];exact Bf (by simp)
 ·rw[e0,WY,Xv,Eg];rfl
 ·exact cK e1 (gE _ _ _) cg
theorem RG{f:FuncId}{args:List AV}{nf:Bool}{fns:List Fd}{k:Nat}{w:WS}{v:AV}{c:Int}(H:AC Tryz.prog G f (.ptr 0 5 0 0::args) (HWk nf fns k w) λx h=>x= .ret v/\h=HWk nf fns k ⟨w.vs,w.count,c⟩)(ha:ay 0 args)(hv:below 0 v)
 {h:List AO}{wid id:Nat}(hid:wid≠id)(e0:h[wid]?=some (wO id nf fns k w))(e1:h[id]?=some (roC nf w.vs)):
 AC Tryz.prog G f (.ptr wid 5 0 0::args) h λx h'=>x= .ret v/\h'=h.set wid (wO id nf fns k ⟨w.vs,w.count,c⟩):=by
 refine(H.frame [wid,id] (by simp[hid]) ?_ (TJ e0 e1)).mono ?_
 ·rw[tw];exact⟨.inr ⟨by simp[below],rfl⟩,DF _ _ ha⟩
 ·rintro x h' ⟨x0,h0,⟨rfl,rfl⟩,_,rfl,rfl⟩
  refine⟨?_,?_⟩
  ·have:=dF ([wid,id]++List.range' h.length ((HWk nf fns k ⟨w.vs,w.count,c⟩).length-(HWk nf fns k w).length)) [v] ⟨hv,trivial⟩
   simp only[bn] at this
   simp only[BX]
   exact congrArg ARes.ret (List.cons.inj this).1
  ·simp only[HWk,WP,Xm,Nat.sub_self,List.range'_zero,WT,List.take_succ_cons,List.take_zero,WY,Xv,List.drop_succ_cons,List.drop_zero,IM,Fb,mrg]
   exact Lm hid e1
theorem On{f:FuncId}{args:List AV}{nf:Bool}{fns:List Fd}{k:Nat}{w:WS}{v:AV}{Q:Bool->WS->Prop}(H:AC Tryz.prog G f (.ptr 0 5 0 0::args) (HWk nf fns k w) λx h=>∃nf' w',x= .ret v/\h=[wO 2 nf' fns k w',.dead,roC nf' w'.vs]/\Q nf' w')(ha:ay 0 args)(hv:below 0 v)
 {h:List AO}{wid id:Nat}(hid:wid≠id)(e0:h[wid]?=some (wO id nf fns k w))(e1:h[id]?=some (roC nf w.vs)):
 AC Tryz.prog G f (.ptr wid 5 0 0::args) h λx h'=>∃nf' w',x= .ret v/\h'=(h.set wid (wO h.length nf' fns k w')).set id .dead++[roC nf' w'.vs]/\Q nf' w':=by
 refine(H.frame [wid,id] (by simp[hid]) ?_ (TJ e0 e1)).mono ?_
 ·rw[tw];exact⟨.inr ⟨by simp[below],rfl⟩,DF _ _ ha⟩
 ·rintro x h' ⟨x0,h0,⟨nf',w',rfl,rfl,q⟩,_,rfl,rfl⟩
  refine⟨nf',w',?_,?_,q⟩
  ·have:=dF ([wid,id]++List.range' h.length ([wO 2 nf' fns k w',.dead,roC nf' w'.vs].length-(HWk nf fns k w).length)) [v] ⟨hv,trivial⟩
   simp only[bn] at this
   simp only[BX]
   exact congrArg ARes.ret (List.cons.inj this).1
  ·simp only[HWk,WP,Xm,List.take_succ_cons,List.take_zero,WY,Xv,List.drop_succ_cons,List.drop_zero,IM,Fb,mrg]
   rfl
theorem Dl(fns:List Fd)(k:Nat)(vs:List LV):∀(a b:List Ex) (c:Int),ed fns k vs (a++b) c=ed fns k vs b (ed fns k vs a c)
 |[],b,c=>rfl
 |e::r,b,c=>by rw[Xk,ed,ed,Dl fns k vs r]
theorem tW(vs:List LV):∀l:List Ex,lC vs l=l.map (rnE vs)
 |[]=>rfl
 |e::r=>by rw[lC,tW vs r];rfl
theorem AR{fns:List Fd}{k:Nat}{vs:List LV}{l:List Ex}{c:Int}{i:Nat}(h:i<l.length):ed fns k vs (l.take (i+1)) c=Gn fns k vs l[i] (ed fns k vs (l.take i) c):=by
 rw[aq h,Dl];rfl
theorem Dc{vs:List LV}{l:List Ex}{i:Nat}(h:i<l.length):lC vs (l.take (i+1))=lC vs (l.take i)++[rnE vs l[i]]:=by
 rw[tW,tW,aq h,List.map_append];rfl
theorem uD(vs:List LV)(l:List Ex):(lC vs l).length=l.length:=by rw[tW,Xc]
theorem IR(l:List Ex):(exR l).length=l.length:=by simp[exR]
theorem JG(a b:List Ex):exR (a++b)=exR a++exR b:=by simp[exR]
theorem Gd{h:List AO}{id:Nat}{l:List Ex}(e:h[id]?=some (.row 4 (exR l))):View h (.sl id 4 0 l.length) (exL l):=by
 have:=iD (h:=h) (id:=id) (sz:=4) (n:=l.length) (ls:=l.map Ex.cs) (by rw[e,exR];simp) (by simp) (λx hx=>by obtain⟨b,_,rfl⟩:=Xb.1 hx;exact b.cs_len)
 exact this
theorem OX{fns:List Fd}{s:List UInt8}{j:Nat}(h:da fns s=some j):j<fns.length:=by
 rw[da,WU] at h;exact h.1
theorem PW{fns:List Fd}{k:Nat}(hf:fns.length<=1099511627776):∀(N:Nat) (e:Ex),e.sz<=N->N<=1099511627776->∀(nf:Bool) (w:WS),(nf=true->w.vs=[])->w.vs.length<=1099511627776->
 AC Tryz.prog G cN [.ptr 0 5 0 0,.agg (e.cs.map .p)] (HWk nf fns k w) λx h=>x= .ret (.agg ((rnE w.vs e).cs.map .p))/\h=HWk nf fns k ⟨w.vs,w.count,Gn fns k w.vs e w.code⟩:=by
 intro N
 induction N with
 |zero=>intro e he;have:=e.sz_eq;omega
 |succ N ih=>
  intro e he hN nf w hn hl
  have hec:=e.cs_eq
  have hsz:=e.sz_eq
  have hkl:=bL e.kids
  have hre:(rnE w.vs e).cs=[.int .i64 e.op,.int .i64 e.n,.str (if e.op=2 then Bl w.vs e.name else e.name),exL (lC w.vs e.kids)]:=by
   obtain⟨o,n,s,ks⟩:=e;rw[rnE,Ex.cs_eq];rfl
  have hce:Gn fns k w.vs e w.code=ed fns k w.vs e.kids (ss fns k w.vs e.op e.name e.kids.length w.code):=by
   obtain⟨o,n,s,ks⟩:=e;rfl
  have main:AC Tryz.prog G cN [.ptr 0 5 0 0,.agg (e.cs.map .p)] (HWk nf fns k w) λx h=>∃E1 E2,x= .ret (.agg [.p (.int .i64 e.op),.p (.int .i64 e.n),.p (.str (if e.op=2 then Bl w.vs e.name else e.name)),.sl 4 4 0 e.kids.length])/\
   h=[wO 1 nf fns k ⟨w.vs,w.count,Gn fns k w.vs e w.code⟩,roC nf w.vs,E1,E2,.row 4 (exR (lC w.vs e.kids))]:=by
   refine AC.goK sU sL ?_
   simp-implicitDefEqProofs[gz,gA,HWk,hec]
   refine pg (az 75 [(0,.ptr 0 5 0 0),(3,.ptr 2 4 0 0),(4,.ptr 3 4 0 0)]) [wO 1 nf fns k ⟨w.vs,w.count,if e.op=2 then zi w.vs e.name w.code else w.code⟩,roC nf w.vs,.row 4 [[.p (.int .i64 e.op),.p (.int .i64 e.n),.p (.str (if e.op=2 then Bl w.vs e.name else e.name)),.p (exL e.kids)]],.row 4 [[.p (.int .i64 0),.p (.int .i64 0),.p (.str []),.nils]]] ?_ ?_
   ·by_cases o2:e.op=2
    ·simp-implicitDefEqProofs[o2]
     refine(Gj G (Oc G nf fns k w hn hl e.name) _ (by simp[below])).mono ?_
     rintro r h ⟨rfl,rfl⟩
     simp-implicitDefEqProofs[aa]
     exact an (by simp) (tD (by simp) (by simp[okO,below])) (by simp[below])
    ·simp-implicitDefEqProofs[o2]
     exact an (by simp) (tD (by simp) (by simp[okO,below])) (by simp[below])
   refine pg (az 75 [(0,.ptr 0 5 0 0),(3,.ptr 2 4 0 0),(4,.ptr 3 4 0 0)]) [wO 1 nf fns k ⟨w.vs,w.count,ss fns k w.vs e.op e.name e.kids.length w.code⟩,roC nf w.vs,.row 4 [[.p (.int .i64 e.op),.p (.int .i64 e.n),.p (.str (if e.op=2 then Bl w.vs e.name else e.name)),.p (exL e.kids)]],.row 4 [[.p (.int .i64 0),.p (.int .i64 0),.p (.str []),.nils]]] ?_ ?_
   ·by_cases o13:e.op=13
    ·have hhd:ss fns k w.vs e.op e.name e.kids.length w.code=uf fns k e.name e.kids.length w.code:=by simp[ss,o13]
     rw[hhd]
     simp-implicitDefEqProofs[o13,wO,wC]
     refine(Iz G fns e.name hf).use ?_
     have fin:∀c:Int,Wk 2 (az 75 [(0,.ptr 0 5 0 0),(3,.ptr 2 4 0 0),(4,.ptr 3 4 0 0)]) [wO 1 nf fns k ⟨w.vs,w.count,c⟩,roC nf w.vs,.row 4 [[.p (.int .i64 13),.p (.int .i64 e.n),.p (.str e.name),.p (exL e.kids)]],.row 4 [[.p (.int .i64 0),.p (.int .i64 0),.p (.str []),.nils]]] (az 75 [(0,.ptr 0 5 0 0),(3,.ptr 2 4 0 0),(4,.ptr 3 4 0 0)]) [wO 1 nf fns k ⟨w.vs,w.count,c⟩,roC nf w.vs,.row 4 [[.p (.int .i64 13),.p (.int .i64 e.n),.p (.str e.name),.p (exL e.kids)]],.row 4 [[.p (.int .i64 0),.p (.int .i64 0),.p (.str []),.nils]]]:=λc=>
      an (by simp) (tD (by simp) (by simp[okO,below])) (by simp[below])
     cases hfa:da fns e.name with
     |none=>
      simp-implicitDefEqProofs[ixI,uf,hfa]
      refine(Gj G (rn G nf fns k w 4) _ (by simp[below])).mono ?_
      rintro r h ⟨rfl,rfl⟩
      simp-implicitDefEqProofs[aa]
      exact an (h:=[wO 1 nf fns k ⟨w.vs,w.count,fl w.code 4⟩,roC nf w.vs,.row 4 [[.p (.int .i64 13),.p (.int .i64 e.n),.p (.str e.name),.p (exL e.kids)]],.row 4 [[.p (.int .i64 0),.p (.int .i64 0),.p (.str []),.nils]]]) (by simp) (tD (by simp) (by simp[okO,below])) (by simp[below])
     |some j=>
      have hj:=OX hfa
      have hg:=Wz hj
      have hjn:¬(j:Int)<0:=by omega
      by_cases hkj:k<=j
      ·have hkj':(k:Int)<=(j:Int):=by omega
       simp-implicitDefEqProofs[ixI,uf,hfa,hkj,hkj',hjn]
       refine(Gj G (rn G nf fns k w 4) _ (by simp[below])).mono ?_
       rintro r h ⟨rfl,rfl⟩
       simp-implicitDefEqProofs[aa]
       exact an (h:=[wO 1 nf fns k ⟨w.vs,w.count,fl w.code 4⟩,roC nf w.vs,.row 4 [[.p (.int .i64 13),.p (.int .i64 e.n),.p (.str e.name),.p (exL e.kids)]],.row 4 [[.p (.int .i64 0),.p (.int .i64 0),.p (.str []),.nils]]]) (by simp) (tD (by simp) (by simp[okO,below])) (by simp[below])
      ·have hkj':¬(k:Int)<=(j:Int):=by omega
       have hfl:fdL fns= .lst 3 (fns.map Fd.cs):=rfl
       have hcs:fns[j].cs=[.str fns[j].name,aL fns[j].params,smL fns[j].body]:=rfl
       have hst:aL fns[j].params= .lst 1 (fns[j].params.map λw=>[.str w]):=rfl
       have hxl:∀l,exL l= .lst 4 (l.map Ex.cs):=λ_=>rfl
       have hpn:KX fns j=fns[j].params.length:=by simp[KX,hg]
       by_cases hp:fns[j].params.length=e.kids.length
       ·have hcc:uf fns k e.name e.kids.length w.code=w.code:=by simp[uf,hfa,hkj,hpn,hp]
        rw[hcc]
        simp-implicitDefEqProofs[ixI,hkj',hjn,hfl,hg,hcs,hst,hxl,hp]
        exact an (h:=[wO 1 nf fns k w,roC nf w.vs,.row 4 [[.p (.int .i64 13),.p (.int .i64 e.n),.p (.str e.name),.p (exL e.kids)]],.row 4 [[.p (.int .i64 0),.p (.int .i64 0),.p (.str []),.nils]]]) (by simp) (tD (by simp) (by simp[okO,below])) (by simp[below])
       ·have hcc:uf fns k e.name e.kids.length w.code=fl w.code 5:=by simp[uf,hfa,hkj,hpn,hp]
        have hp':¬(fns[j].params.length:Int)=(e.kids.length:Int):=by omega
        rw[hcc]
        simp-implicitDefEqProofs[ixI,hkj',hjn,hfl,hg,hcs,hst,hxl,hp']
        refine(Gj G (rn G nf fns k w 5) _ (by simp[below])).mono ?_
        rintro r h ⟨rfl,rfl⟩
        simp-implicitDefEqProofs[aa]
        exact an (h:=[wO 1 nf fns k ⟨w.vs,w.count,fl w.code 5⟩,roC nf w.vs,.row 4 [[.p (.int .i64 13),.p (.int .i64 e.n),.p (.str e.name),.p (exL e.kids)]],.row 4 [[.p (.int .i64 0),.p (.int .i64 0),.p (.str []),.nils]]]) (by simp) (tD (by simp) (by simp[okO,below])) (by simp[below])
    ·have hhd:ss fns k w.vs e.op e.name e.kids.length w.code=if e.op=2 then zi w.vs e.name w.code else w.code:=by simp[ss,o13]
     rw[hhd]
     simp-implicitDefEqProofs[o13]
     exact an (by simp) (tD (by simp) (by simp[okO,below])) (by simp[below])
   rw[hce]
   generalize ss fns k w.vs e.op e.name e.kids.length w.code=c2
   generalize (if e.op=2 then Bl w.vs e.name else e.name)=s1
   have hxl:exL e.kids= .lst 4 (e.kids.map Ex.cs):=rfl
   simp-implicitDefEqProofs[]
   refine aN (λi:Nat=>az 75 [(0,.ptr 0 5 0 0),(3,.ptr 2 4 0 0),(4,.ptr 3 4 0 0),(6,.sl 4 4 0 i),(7,.p (.int .i64 i))])
    (λi=>[wO 1 nf fns k ⟨w.vs,w.count,ed fns k w.vs (e.kids.take i) c2⟩,roC nf w.vs,.row 4 [[.p (.int .i64 e.op),.p (.int .i64 e.n),.p (.str s1),.p (exL e.kids)]],.row 4 [[.p (.int .i64 0),.p (.int .i64 0),.p (.str []),.nils]],.row 4 (exR (lC w.vs (e.kids.take i)))])
    (λi=>i<=e.kids.length) (λi=>e.kids.length-i) 0 (by simp) ?_ ?_
   ·exact an (by simp) (tD (by simp) (by simp[okO,below])) (by simp[below])
   ·intro i hi
    have hrl:(exR (lC w.vs (e.kids.take i))).length=i:=by rw[IR,uD];simp;omega
    simp-implicitDefEqProofs[hxl]
    refine aO (λh=>?_) (λh=>?_)
    ·simp at h
     have hg:=Wz h
     have hks:=cQ (WN h)
     have hkc:=(rnE w.vs e.kids[i]).cs_eq
     simp-implicitDefEqProofs[hg]
     refine(Gj G (ih e.kids[i] (by omega) (by omega) nf ⟨w.vs,w.count,ed fns k w.vs (e.kids.take i) c2⟩ hn hl) _ (by simp[below])).mono ?_
     rintro r h ⟨rfl,rfl⟩
     rw[show(rnE (WS.mk w.vs w.count (ed fns k w.vs (e.kids.take i) c2)).vs e.kids[i])=rnE w.vs e.kids[i] from rfl]
     simp-implicitDefEqProofs[aa,hkc,hrl]
     refine⟨by omega,?_⟩
     refine⟨i+1,by omega,by omega,?_⟩
     have htk:List.take i (exR (lC w.vs (e.kids.take i)))=exR (lC w.vs (e.kids.take i)):=WF (by omega)
     rw[AR h,Dc h,JG,htk]
     refine dW [0,1,2,3,6] (by simp) (by decide) (by decide) (Aj (by simp) rfl (cK rfl (gE _ _ _) (bv rfl (by simp[below]) (bv rfl (by simp[below]) (bv ?_ ?_ cg))))) (by simp[below,ren,w1 (i:=i) (by omega)])
     ·have:exR [rnE w.vs e.kids[i]]=[[.p (.int .i64 (rnE w.vs e.kids[i]).op),.p (.int .i64 (rnE w.vs e.kids[i]).n),.p (.str (rnE w.vs e.kids[i]).name),.p (exL (rnE w.vs e.kids[i]).kids)]]:=by rw[exR,List.map_singleton,hkc];rfl
      rw[this];rfl
     ·intro x hx
      rcases WE.1 hx with h|h
      ·exact ec _ x h
      ·exact ec _ x h
    ·simp at h
     have hie:i=e.kids.length:=by omega
     subst hie
     simp-implicitDefEqProofs[]
  refine main.frz 2 (by simp[HWk]) (λt v h ⟨_,_,e,_⟩=>by cases e) ?_
  rintro v h ⟨E1,E2,e,rfl⟩
  cases e
  refine⟨_,HWk nf fns k ⟨w.vs,w.count,Gn fns k w.vs e w.code⟩,by simp,rfl,.agg ?_ .nil,.same (vR (by omega)) (.same (gE _ _ _) (.nil _)),rfl,rfl⟩
  rw[hre]
  have hrl:=uD w.vs e.kids
  rw[←hrl]
  exact .keep (by simp) (.keep (by simp) (.keep (by simp) (.one (Gd rfl) .nil)))
end
section
theorem rR:AK.whole fL=FK.ak fO:=rfl
theorem Gw(fns:List Fd)(k b:Nat):∀(x y:List Sm) (w:WS),db fns k b (x++y) w=db fns k b y (db fns k b x w)
 |[],y,w=>rfl
 |s::r,y,w=>by rw[Xk,db,db,Gw fns k b r]
theorem FI(fns:List Fd)(k b:Nat):∀(x y:List Sm) (w:WS),iL fns k b (x++y) w=iL fns k b x w++iL fns k b y (db fns k b x w)
 |[],y,w=>rfl
 |s::r,y,w=>by rw[Xk,iL,iL,FI fns k b r];rfl
theorem KP{fns:List Fd}{k b:Nat}{l:List Sm}{w:WS}{i:Nat}(h:i<l.length):db fns k b (l.take (i+1)) w=stW fns k b l[i] (db fns k b (l.take i) w):=by
 rw[aq h,Gw];rfl
theorem KL{fns:List Fd}{k b:Nat}{l:List Sm}{w:WS}{i:Nat}(h:i<l.length):iL fns k b (l.take (i+1)) w=iL fns k b (l.take i) w++[rnS fns k b l[i] (db fns k b (l.take i) w)]:=by
 rw[aq h,FI];rfl
theorem AL(fns:List Fd)(k b:Nat):∀(l:List Sm) (w:WS),(iL fns k b l w).length=l.length
 |[],w=>rfl
 |s::r,w=>by rw[iL,WP,AL fns k b r,WP]
theorem IS{l:List Sm}{i:Nat}(h:i<l.length):aC (l.take i)+l[i].sz<=aC l:=by
 have e:l=l.take i++l[i]::l.drop (i+1):=by rw[←List.drop_eq_getElem_cons h,Xj]
 have h2:aC l=aC (l.take i)+(l[i].sz+aC (l.drop (i+1))):=by
  conv=>lhs;rw[e]
  rw[aX];rfl
 omega
def tc(fns:List Fd)(k b:Nat)(l:List Sm)(w:WS):WS:=if 0<b then(db fns k b l w).back w.vs else db fns k b l w
theorem HI(fns:List Fd)(k b:Nat)(l:List Sm)(w:WS):(tc fns k b l w).count=w.count+aS l:=by
 unfold tc
 split
 ·exact jn fns k l b w
 ·exact jn fns k l b w
theorem Oe{e vs:List LV}:(lvR (e++vs)).take vs.length=lvR vs:=by
 have h:lvR (e++vs)=lvR vs++lvR e:=by simp[lvR]
 rw[h,List.take_append_of_le_length (by rw[zU];exact WK _),WF (by rw[zU];exact WK _)]
theorem CX(l:List Sm):aS l<=aC l:=Xs (fZ l) (gg l)
theorem Hm(nf:Bool)(id n:Nat):(vaC nf id n).isCell=true:=by cases nf<;>rfl
theorem KN(nf:Bool)(id n:Nat):(vaC nf id n).cells=[vaC nf id n]:=by cases nf<;>rfl
attribute [simp ↓] Hm KN
variable (G:aK)
def StP(fns:List Fd)(k b:Nat)(l:List Sm)(w:WS)(x:ARes)(h:List AO):Prop:=∃nf' w',x= .ret (.p (smL (iL fns k b l w)))/\h=[wO 2 nf' fns k w',.dead,roC nf' w'.vs]/\(nf'=true->w'.vs=[])/\w'=tc fns k b l w
structure StS where (i:Nat) (nf:Bool)
theorem LN{fns:List Fd}{k:Nat}(hf:fns.length<=1099511627776):∀(N:Nat) (l:List Sm),aC l<N->∀(b:Nat) (nf:Bool) (w:WS),(nf=true->w.vs=[])->w.vs.length<=w.count->w.count+aC l<=1099511627776->b+aC l<=1099511627776->
 AC Tryz.prog G cu [.ptr 0 5 0 0,.p (smL l),.p (.int .i64 b)] (HWk nf fns k w) (StP fns k b l w):=by
 intro N
 induction N with
 |zero=>
  intro l hl b nf w hn hv hc hb
  omega
 |succ N ih=>
  intro l hl b nf w hn hv hc hb
  have hll:=bE l
  refine AC.goK rz rR ?_
  have hsl:∀l,smL l= .lst 5 (l.map Sm.cs):=λ_=>rfl
  have hlen0:Hy (vaC nf 1 w.vs.length)=some (.p (.int .i64 w.vs.length)):=by
   cases nf
   ·rfl
   ·simp[vaC,hn rfl]
  simp-implicitDefEqProofs[fL,fO,HWk,wO,wC,hlen0]
  refine aN (λs:StS=>az 96 [(0,.ptr 0 5 0 0),(1,.p (smL l)),(2,.p (.int .i64 b)),(7,.sl 2 5 0 s.i),(8,.p (.int .i64 w.vs.length)),(9,.p (.int .i64 s.i))])
   (λs=>[wO 3 s.nf fns k (db fns k b (l.take s.i) w),.dead,.row 5 (smR (iL fns k b (l.take s.i) w)),roC s.nf (db fns k b (l.take s.i) w).vs])
   (λs=>s.i<=l.length/\(s.nf=true->(db fns k b (l.take s.i) w).vs=[])) (λs=>l.length-s.i) ⟨0,nf⟩ ⟨by simp,hn⟩ ?_ ?_
  ·refine ED [0,1,2,1] (by simp) (by decide) ?_ (Aj (by simp) rfl (dq (by simp) (bv rfl (by simp[smR,iL]) (cK rfl (gE _ _ _) cg)))) (by simp[below,ren])
   cases nf<;>simp[iW,roC,wO,db]
  ·rintro⟨i,nf⟩ ⟨hi,hn⟩
   simp only at hi hn
   simp-implicitDefEqProofs[hsl]
   refine aO (λh=>?_) (λh=>?_)
   ·simp at h
    have hg:=Wz h
    have hat:=IS h
    have hse:=l[i].cs_eq
    have hsz:=l[i].sz_eq
    have hle:=Jg fns k (l:=l.take i) (b:=b) hv
    have hcn:=jn fns k (l.take i) b w
    have hlz:=CX (l.take i)
    have eW:=KP (fns:=fns) (k:=k) (b:=b) (w:=w) h
    have eR:=KL (fns:=fns) (k:=k) (b:=b) (w:=w) h
    have hol:=AL fns k b (l.take i) w
    rw[WX,Nat.min_eq_left hi] at hol
    generalize l[i]=s at hg hat hse hsz eW eR
    generalize db fns k b (l.take i) w=wi at hn hle hcn eW eR⊢
    generalize iL fns k b (l.take i) w=out at hol eR⊢
    obtain⟨o,nme,a,bd,el⟩:=s
    simp only[Sm.op,Sm.name,Sm.args,Sm.body,Sm.els] at hse hsz
    simp-implicitDefEqProofs[hg,hse]
    have hxl:∀l,exL l= .lst 4 (l.map Ex.cs):=λ_=>rfl
    have hal:=bL a
    have hlE:=CX bd
    have hwl:wi.vs.length<=1099511627776:=by omega
    have hopR:∀(x y z u v:AV),ay 0 [x,y,z,u,v]->okO 5 (AO.row 5 [[x,y,z,u,v]]):=λx y z u v hh=>eA (λe he=>by rw[WG.1 he];exact hh)
    refine aN (λj:Nat=>az 96 [(0,.ptr 0 5 0 0),(1,.p (smL l)),(2,.p (.int .i64 b)),(7,.sl 2 5 0 i),(8,.p (.int .i64 w.vs.length)),(9,.p (.int .i64 i)),(10,.ptr 4 5 0 0),(11,.sl 5 4 0 j),(12,.p (.int .i64 j))])
     (λj=>[wO 3 nf fns k ⟨wi.vs,wi.count,ed fns k wi.vs (a.take j) wi.code⟩,.dead,.row 5 (smR out),roC nf wi.vs,.row 5 [[.p (.int .i64 o),.p (.str nme),.p (exL a),.p (smL bd),.p (smL el)]],.row 4 (exR (lC wi.vs (a.take j)))])
     (λj=>j<=a.length) (λj=>a.length-j) 0 (by simp) ?_ ?_
    ·refine an (h:=[wO 3 nf fns k wi,.dead,.row 5 (smR out),roC nf wi.vs,.row 5 [[.p (.int .i64 o),.p (.str nme),.p (exL a),.p (smL bd),.p (smL el)]],.row 4 []]) (by simp) (aD (vR (by simp)) (aD trivial (aD (eA (ee out)) (aD (gE _ _ _) (by simp[okO,below]))))) (by simp[below,hsl])
    intro j hj
    have hrl:(exR (lC wi.vs (a.take j))).length=j:=by rw[IR,uD];simp;omega
    simp-implicitDefEqProofs[hxl]
    refine aO (λhc=>?_) (λhc=>?_)
    ·simp at hc
     have hga:=Wz hc
     have hks:=cQ (WN hc)
     have hkc:=(rnE wi.vs a[j]).cs_eq
     simp-implicitDefEqProofs[hga]
     refine(RG G (id:=3) (PW G hf (a[j].sz) a[j] (WK _) (by omega) nf ⟨wi.vs,wi.count,ed fns k wi.vs (a.take j) wi.code⟩ hn hwl) (by simp) (by simp[below]) (by decide) rfl rfl).mono ?_
     rintro r h' ⟨rfl,rfl⟩
     rw[show(rnE (WS.mk wi.vs wi.count (ed fns k wi.vs (a.take j) wi.code)).vs a[j])=rnE wi.vs a[j] from rfl]
     simp-implicitDefEqProofs[aa,hkc,hrl]
     refine⟨by omega,j+1,by omega,by omega,?_⟩
     have htk:List.take j (exR (lC wi.vs (a.take j)))=exR (lC wi.vs (a.take j)):=WF (by omega)
     rw[AR hc,Dc hc,JG,htk]
     refine dW [0,1,2,3,4,7] (by simp) (by decide) (by decide) (Aj (by simp) rfl (dq (by simp) (bv rfl (ee out) (cK rfl (gE _ _ _) (bv rfl (by simp[below]) (bv ?_ ?_ cg)))))) (by simp[below,ren,hsl,w1 (i:=j) (by omega)])
     ·have:exR [rnE wi.vs a[j]]=[[.p (.int .i64 (rnE wi.vs a[j]).op),.p (.int .i64 (rnE wi.vs a[j]).n),.p (.str (rnE wi.vs a[j]).name),.p (exL (rnE wi.vs a[j]).kids)]]:=by rw[exR,List.map_singleton,hkc];rfl
      rw[this];rfl
     ·intro x hx
      rcases WE.1 hx with h|h
      ·exact ec _ x h
      ·exact ec _ x h
    simp at hc
    have hje:j=a.length:=by omega
    subst hje
    rw[WZ] at hrl⊢
    have hal2:=uD wi.vs a
    simp-implicitDefEqProofs[]
    generalize hw1:WS.mk wi.vs wi.count (ed fns k wi.vs a wi.code)=w1
    have e1v:w1.vs=wi.vs:=by rw[←hw1]
    have e1c:w1.count=wi.count:=by rw[←hw1]
    have e1l:w1.vs.length=wi.vs.length:=by rw[e1v]
    rw[←e1v]
    refine pg (az 96 [(0,.ptr 0 5 0 0),(1,.p (smL l)),(2,.p (.int .i64 b)),(7,.sl 2 5 0 i),(8,.p (.int .i64 w.vs.length)),(9,.p (.int .i64 i)),(10,.ptr 4 5 0 0)])
     [wO 3 nf fns k w1,.dead,.row 5 (smR out),roC nf w1.vs,.row 5 [[.p (.int .i64 o),.p (.str nme),.p (exL (lC w1.vs a)),.p (smL bd),.p (smL el)]]] ?_ ?_
    ·simp-implicitDefEqProofs[]
     refine nZ 5 (by omega) (by simp) rfl (.same (vR (by omega)) (.dead (.same (eA (ee out)) (.same (gE _ _ _) (.one (.keep (by simp[below]) (.keep (by simp[below]) (.one ?_ (.keep (by simp[below]) (.keep (by simp[below]) .nil))))) (.nil _)))))) ?_
     ·rw[←e1v] at hal2
      rw[←hal2]
      exact Gd rfl
     ·refine⟨.keep (by simp[below]) .nil,.keep (by simp[below]) .nil,.keep (by simp[below]) .nil,.keep (by simp[below]) .nil,.keep (by simp[below]) .nil,.keep (by simp[below]) .nil,.keep (by simp[below]) .nil,trivial⟩
    have TT:∀(r1:List (Nat × AV)),Aw.look r1 0= .ptr 0 5 0 0->Aw.look r1 1= .p (smL l)->Aw.look r1 2= .p (.int .i64 b)->Aw.look r1 7= .sl 2 5 0 i->Aw.look r1 8= .p (.int .i64 w.vs.length)->Aw.look r1 9= .p (.int .i64 i)->Aw.look r1 10= .ptr 4 5 0 0->∀ρ:List Nat,ρ.length=5->ρ.getD 0 0=0->ρ.getD 2 0=2->ρ.getD 4 0=4->
     TWA ρ r1 [(0,.ptr 0 5 0 0),(1,.p (smL l)),(2,.p (.int .i64 b)),(7,.sl 2 5 0 i),(8,.p (.int .i64 w.vs.length)),(9,.p (.int .i64 i)),(10,.ptr 4 5 0 0)]:=by
     intro r1 a0 a1 a2 a7 a8 a9 a10 ρ hr r0 r2 r4
     simp[below,ren,hr,a0,a1,a2,a7,a8,a9,a10]
     rw[WO,Wz (by omega)] at r0 r2 r4
     exact⟨r0,r2,r4⟩
    have hn1:nf=true->w1.vs=[]:=λh=>by rw[e1v];exact hn h
    have okB:∀(nf:Bool) (w:WS) (r:AO),okO 0 r->∀x∈[wO 3 nf fns k w,.dead,.row 5 (smR out),roC nf w.vs,r],okO 5 x:=λnf w r hr=>
     aD (vR (by omega)) (aD trivial (aD (eA (ee out)) (aD (gE _ _ _) (aD (eA hr) gu))))
    refine pg (az 96 [(0,.ptr 0 5 0 0),(1,.p (smL l)),(2,.p (.int .i64 b)),(7,.sl 2 5 0 i),(8,.p (.int .i64 w.vs.length)),(9,.p (.int .i64 i)),(10,.ptr 4 5 0 0)])
     [wO 3 (if o=1 then false else nf) fns k (if o=1 then ni w1 nme b else w1),.dead,.row 5 (smR out),roC (if o=1 then false else nf) (if o=1 then ni w1 nme b else w1).vs,.row 5 [[.p (.int .i64 o),.p (.str (if o=1 then vnm w1.count else nme)),.p (exL (lC w1.vs a)),.p (smL bd),.p (smL el)]]] ?_ ?_
    ·by_cases o1:o=1
     ·simp-implicitDefEqProofs[o1]
      refine(On G (id:=3) (Q:=λnf' w'=>nf'=false/\w'=ni w1 nme b) ((Oo G nf fns k w1 hn1 (by omega) (by omega) nme b).mono (by rintro x h ⟨rfl,rfl⟩;exact⟨false,_,rfl,rfl,rfl,rfl⟩)) (by simp) (by simp[below]) (by decide) rfl rfl).mono ?_
      rintro r h' ⟨nf',w',rfl,rfl,rfl,rfl⟩
      simp-implicitDefEqProofs[aa]
      refine dW [0,1,2,5,4] (by simp) (by decide) (by decide) (Aj (by simp) rfl (dq (by simp) (bv rfl (ee out) (cK rfl (gE _ _ _) (bv rfl (by simp[below]) cg))))) (TT _ (by simp) (by simp) (by simp) (by simp) (by simp) (by simp) (by simp) _ rfl rfl rfl rfl)
     ·simp-implicitDefEqProofs[o1]
      refine an (by simp) (okB nf w1 _ (by simp[okO,below])) (by simp[below])
    generalize hw2:(if o=1 then ni w1 nme b else w1)=w2
    generalize hnf2:(if o=1 then false else nf)=nf2
    generalize hnm2:(if o=1 then vnm w1.count else nme)=nm2
    have hn2:nf2=true->w2.vs=[]:=by
     intro h
     by_cases o1:o=1
     ·rw[if_pos o1] at hnf2;rw[←hnf2] at h;cases h
     ·rw[if_neg o1] at hnf2 hw2;rw[←hw2];exact hn1 (by rw[hnf2];exact h)
    have h2c:w2.count=w1.count+if o=1 then 1 else 0:=by rw[←hw2];split<;>rfl
    have h2v:w2.vs.length<=w2.count:=by
     rw[←hw2];split
     ·simp[ni];omega
     ·omega
    have h2b:w2.count<=wi.count+1:=by rw[h2c,e1c];split<;>omega
    refine pg (az 96 [(0,.ptr 0 5 0 0),(1,.p (smL l)),(2,.p (.int .i64 b)),(7,.sl 2 5 0 i),(8,.p (.int .i64 w.vs.length)),(9,.p (.int .i64 i)),(10,.ptr 4 5 0 0)])
     [wO 3 nf2 fns k (opW o nme b w1),.dead,.row 5 (smR out),roC nf2 (opW o nme b w1).vs,.row 5 [[.p (.int .i64 o),.p (.str (opN o nme w1)),.p (exL (lC w1.vs a)),.p (smL bd),.p (smL el)]]] ?_ ?_
    ·by_cases o2:o=2
     ·have o1:¬o=1:=by omega
      rw[if_neg o1] at hw2 hnm2
      subst hw2;subst hnm2
      have eo:opW o nme b w1=⟨w1.vs,w1.count,zi w1.vs nme w1.code⟩:=by rw[opW,if_neg o1,if_pos o2]
      have en:opN o nme w1=Bl w1.vs nme:=by rw[opN,if_neg o1,if_pos o2]
      rw[eo,en]
      simp-implicitDefEqProofs[o2]
      refine(RG G (id:=3) (Oc G nf2 fns k w1 hn2 (by omega) nme) (by simp) (by simp[below]) (by decide) rfl rfl).mono ?_
      rintro r h' ⟨rfl,rfl⟩
      simp-implicitDefEqProofs[aa]
      refine an (h:=[wO 3 nf2 fns k ⟨w1.vs,w1.count,zi w1.vs nme w1.code⟩,.dead,.row 5 (smR out),roC nf2 w1.vs,_]) (by simp) (okB nf2 ⟨w1.vs,w1.count,zi w1.vs nme w1.code⟩ _ (by simp[okO,below])) (by simp[below])
     ·have eo:opW o nme b w1=w2:=by rw[opW,if_neg o2,←hw2]
      have en:opN o nme w1=nm2:=by rw[opN,if_neg o2,←hnm2]
      rw[eo,en]
      simp-implicitDefEqProofs[o2]
      refine an (by simp) (okB nf2 w2 _ (by simp[okO,below])) (by simp[below])
    have eov:(opW o nme b w1).vs=w2.vs:=by
     rw[opW,←hw2];split
     ·rfl
     ·split<;>rfl
    have eoc:(opW o nme b w1).count=w2.count:=by rw[vJ,h2c]
    have hwb:IntKind.i64.wrap ((b:Int)+1)=((b+1:Nat):Int):=by rw[ab (by omega) (by omega)];omega
    have hstw:stW fns k b (.mk o nme a bd el) wi=tc fns k (b+1) el (tc fns k (b+1) bd (opW o nme b w1)):=by
     rw[stW]
     simp only[hw1,tc,Nat.succ_pos,if_true]
     rfl
    have hrns:(rnS fns k b (.mk o nme a bd el) wi).cs=[.int .i64 o,.str (opN o nme w1),exL (lC w1.vs a),smL (iL fns k (b+1) bd (opW o nme b w1)),smL (iL fns k (b+1) el (tc fns k (b+1) bd (opW o nme b w1)))]:=by
     rw[rnS,Sm.cs_eq]
     simp only[hw1,tc,Nat.succ_pos,if_true,Sm.op,Sm.name,Sm.args,Sm.body,Sm.els,e1v]
     have:opN o nme wi=opN o nme w1:=by simp only[opN,e1v,e1c]
     rw[this]
    rw[hstw] at eW
    clear hstw
    generalize opW o nme b w1=w3 at eov eoc hrns eW⊢
    have hn3:nf2=true->w3.vs=[]:=λh=>by rw[eov];exact hn2 h
    have h3v:w3.vs.length<=w3.count:=by rw[eov,eoc];exact h2v
    simp-implicitDefEqProofs[hwb]
    refine(On G (id:=3) (ih bd (by omega) (b+1) nf2 w3 hn3 h3v (by omega) (by omega)) (by simp) (by simp[below]) (by decide) rfl rfl).mono ?_
    rintro r h' ⟨nf4,w4,rfl,rfl,hn4,hw4⟩
    rw[←hw4] at hrns eW
    have h4c:w4.count=w3.count+aS bd:=by rw[hw4];exact HI _ _ _ _ _
    have h4v:w4.vs.length<=w4.count:=by
     have:w4.vs=w3.vs:=by rw[hw4];simp[tc,WS.back]
     rw[this,h4c];omega
    simp-implicitDefEqProofs[aa,hwb]
    refine(On G (id:=5) (ih el (by omega) (b+1) nf4 w4 hn4 h4v (by omega) (by omega)) (by simp) (by simp[below]) (by decide) rfl rfl).mono ?_
    rintro r h' ⟨nf5,w5,rfl,rfl,hn5,hw5⟩
    rw[←hw5] at eW
    have hsl2:(smR out).length=i:=by rw[gr];exact hol
    simp-implicitDefEqProofs[aa,hsl2]
    refine⟨⟨by omega,by omega⟩,⟨i+1,nf5⟩,⟨by simp only;omega,λh=>by simp only at h⊢;rw[eW];exact hn5 h⟩,by simp only;omega,?_⟩
    simp only
    rw[eW,eR,El]
    have htk:List.take i (smR out)=smR out:=WF (by omega)
    rw[htk]
    have hsm1:smR [rnS fns k b (.mk o nme a bd el) wi]=[[.p (.int .i64 o),.p (.str (opN o nme w1)),.p (exL (lC w1.vs a)),.p (smL (iL fns k (b+1) bd w3)),.p (smL (iL fns k (b+1) el w4))]]:=by rw[smR,List.map_singleton,hrns];rfl
    rw[hsm1]
    refine dW [0,1,8,6] (by simp) (by decide) (by decide) (Aj (by simp) rfl (dq (by simp) (bv rfl (λx hx=>?_) (cK rfl (gE _ _ _) cg)))) (by simp[below,ren,hsl,show IntKind.i64.wrap ((i:Int)+1)=((i:Int)+1) from ab (by omega) (by omega)])
    rcases WE.1 hx with h|h
    ·exact ee out x h
    ·rw[WG.1 h];simp
   ·simp at h
    have hie:i=l.length:=by omega
    subst hie
    rw[WZ] at hn⊢
    obtain⟨ext,hext⟩:=Fj fns k l b w
    have hlen:=AL fns k b l w
    refine pg (az 96 [(7,.p (smL (iL fns k b l w)))]) [wO 2 nf fns k (tc fns k b l w),.dead,roC nf (tc fns k b l w).vs] ?_ ?_
    ·have fin:∀(r1:List (Nat × AV)) (w':WS),w'.vs=w.vs\/w'.vs=(db fns k b l w).vs->(Aw.look r1 7= .sl 2 5 0 l.length)->
      Wk 2 (az 96 r1) [wO 3 nf fns k w',.dead,.row 5 (smR (iL fns k b l w)),roC nf (db fns k b l w).vs] (az 96 [(7,.p (smL (iL fns k b l w)))]) [wO 2 nf fns k w',.dead,roC nf w'.vs]:=by
      intro r1 w' hv' hr
      refine Wk.trans (Ju (h1:=[wO 3 nf fns k w',.dead,.row 5 (smR (iL fns k b l w)),roC nf w'.vs]) ?_) (Wk.trans (dW (l1:=[(7,.sl 3 5 0 l.length)]) (h1:=[wO 2 nf fns k w',.dead,roC nf w'.vs,.row 5 (smR (iL fns k b l w))]) [0,1,3,2] (by simp) (by decide) (by decide) (Aj (by simp) rfl (dq (by simp) (cK rfl (gE _ _ _) (bv rfl (ee _) cg)))) (by simp[below,ren,hr]))
       (nZ 3 (by omega) (by simp) rfl (.same (vR (by omega)) (.dead (.same (gE _ _ _) (.nil _)))) ?_))
      ·refine⟨.inl rfl,.inl rfl,.inl rfl,?_,trivial⟩
       rcases hv' with e|e
       ·cases nf with
        |true=>exact .inl rfl
        |false=>
         refine .inr ⟨3,lvR (db fns k b l w).vs,w.vs.length,rfl,?_⟩
         rw[hext,Oe,e];rfl
       ·rw[e];exact .inl rfl
      ·rw[←hlen]
       exact⟨.one (lE rfl) .nil,trivial⟩
     by_cases hb0:0<b
     ·have hwe:tc fns k b l w=(db fns k b l w).back w.vs:=if_pos hb0
      rw[hwe]
      have hll2:(db fns k b l w).vs.length=ext.length+w.vs.length:=by rw[hext,WL]
      cases nf with
      |true=>
       have h0:=hn rfl
       rw[h0] at hext
       have h00:w.vs=[]:=(List.append_eq_nil_iff.1 hext.symm).2
       simp-implicitDefEqProofs[hb0,wO,wC,vaC,h00]
       rw[h00] at fin
       exact fin _ ⟨[],(db fns k b l w).count,(db fns k b l w).code⟩ (.inl rfl) (by simp)
      |false=>
       have hle:w.vs.length<=(db fns k b l w).vs.length:=by omega
       simp-implicitDefEqProofs[hb0,wO,wC,vaC,hle]
       exact fin _ ⟨w.vs,(db fns k b l w).count,(db fns k b l w).code⟩ (.inl rfl) (by simp)
     ·have hwe:tc fns k b l w=db fns k b l w:=if_neg hb0
      have hb0':b=0:=by omega
      subst hb0'
      rw[hwe]
      simp-implicitDefEqProofs[]
      exact fin _ _ (.inr rfl) (by simp)
    ·simp-implicitDefEqProofs[]
     refine⟨nf,_,rfl,rfl,?_,rfl⟩
     intro hnf
     have h0:=hn hnf
     unfold tc
     split
     ·rw[h0] at hext;exact(List.append_eq_nil_iff.1 hext.symm).2
     ·exact h0
end
section
theorem Fc:AK.whole pR=FK.ak ri:=rfl
theorem FJ:∀(ps:List (List UInt8)) (w:WS),w.vs.length<=w.count->(cY ps w).vs.length<=(cY ps w).count
 |[],w,h=>h
 |s::r,w,h=>FJ r (ni w s 0) (by simp[ni];omega)
theorem Kz(a b:List (List UInt8))(w:WS):cY (a++b) w=cY b (cY a w):=by simp[cY]
theorem IF{l:List (List UInt8)}{w:WS}{i:Nat}(h:i<l.length):cY (l.take (i+1)) w=ni (cY (l.take i) w) l[i] 0:=by
 rw[aq h,Kz];rfl
theorem GF:∀(a b:List (List UInt8)) (w:WS),rH (a++b) w=rH a w++rH b (cY a w)
 |[],b,w=>rfl
 |s::r,b,w=>by rw[Xk,rH,rH,GF r];rfl
theorem KW{l:List (List UInt8)}{w:WS}{i:Nat}(h:i<l.length):rH (l.take (i+1)) w=rH (l.take i) w++[vnm (cY (l.take i) w).count]:=by
 rw[aq h,GF];rfl
theorem Bj:∀(l:List (List UInt8)) (w:WS),(rH l w).length=l.length
 |[],w=>rfl
 |s::r,w=>by rw[rH,WP,Bj r,WP]
def w0(fns:List Fd)(k:Nat)(f:Fd):WS:=⟨[],0,if da fns f.name=some k then 0 else 2⟩
theorem RO(fns:List Fd)(k:Nat)(f:Fd):fnW fns k f=db fns k 0 f.body (cY f.params (w0 fns k f)):=rfl
theorem LY(fns:List Fd)(k:Nat)(f:Fd):(rnF fns k f).cs=[.str f.name,aL (rH f.params (w0 fns k f)),smL (iL fns k 0 f.body (cY f.params (w0 fns k f)))]:=rfl
variable (G:aK)
theorem Rv{fns:List Fd}{k:Nat}{f:Fd}(hk:fns[k]?=some f)(hz:aZ fns<=1073741824):VF Tryz.prog G my [.agg [.p (fdL fns)],.p (.int .i64 k)] (.tup [.agg ((rnF fns k f).cs.map .p),.p (.int .i64 (fnW fns k f).code),.p (.int .i64 (fnW fns k f).count)]):=by
 have hfl:=dK fns
 have hfm:=dp (WJ hk)
 have hfz:f.sz=1+f.name.length+(f.params.length+(f.params.map List.length).sum)+aC f.body:=rfl
 have hkl:=(Wy.1 hk).1
 have key:AC Tryz.prog G my [.agg [.p (fdL fns)],.p (.int .i64 k)] [] λx h=>x= .ret (.tup [.agg [.p (.str f.name),.sl 5 1 0 f.params.length,.p (smL (iL fns k 0 f.body (cY f.params (w0 fns k f))))],.p (.int .i64 (fnW fns k f).code),.p (.int .i64 (fnW fns k f).count)])/\h[5]?=some (bV (rH f.params (w0 fns k f))):=by
  refine AC.goK Fx Fc ?_
  have hfd:∀l,fdL l= .lst 3 (l.map Fd.cs):=λ_=>rfl
  have hcs:f.cs=[.str f.name,aL f.params,smL f.body]:=rfl
  have hst:aL f.params= .lst 1 (f.params.map λw=>[.str w]):=rfl
  simp-implicitDefEqProofs[pR,ri]
  refine pg (az 62 [(1,.p (.int .i64 k)),(2,.ptr 0 1 0 0),(4,.ptr 1 3 0 0),(7,.ptr 2 5 0 0),(8,.ptr 3 3 0 0)])
   [.row 1 [[.p (fdL fns)]],.row 3 [[.p (.str []),.nils,.nils]],wO 4 true fns k ⟨[],0,0⟩,.row 3 [[.p (.str f.name),.p (aL f.params),.p (smL f.body)]],.dead] ?_ ?_
  ·simp-implicitDefEqProofs[hfd,hk,hcs]
   refine pK (h:=[.row 1 [[.p (fdL fns)]],.row 3 [[.p (.str []),.nils,.nils]],wO 4 true fns k ⟨[],0,0⟩,.row 3 [[.p (.str f.name),.p (aL f.params),.p (smL f.body)]]]) (by simp) (by simp) ?_ (by simp[below])
   refine aD (by simp[okO,below]) (aD (by simp[okO,below]) (aD ?_ (aD (by simp[okO,below]) gu)))
   intro x hx
   rw[WG.1 hx];simp[wC,vaC,below]
  refine pg (az 62 [(1,.p (.int .i64 k)),(2,.ptr 0 1 0 0),(4,.ptr 1 3 0 0),(7,.ptr 2 5 0 0),(8,.ptr 3 3 0 0)])
   [.row 1 [[.p (fdL fns)]],.row 3 [[.p (.str []),.nils,.nils]],wO 4 true fns k (w0 fns k f),.row 3 [[.p (.str f.name),.p (aL f.params),.p (smL f.body)]],.dead] ?_ ?_
  ·simp-implicitDefEqProofs[]
   refine(Iz G fns f.name (by omega)).use ?_
   have hok:∀w:WS,∀o∈[AO.row 1 [[.p (fdL fns)]],.row 3 [[.p (.str []),.nils,.nils]],wO 4 true fns k w,.row 3 [[.p (.str f.name),.p (aL f.params),.p (smL f.body)]],.dead],okO 5 o:=λw=>
    aD (by simp[okO,below]) (aD (by simp[okO,below]) (aD (vR (by simp)) (aD (by simp[okO,below]) (aD trivial gu))))
   by_cases he:da fns f.name=some k
   ·have hw:w0 fns k f=⟨[],0,0⟩:=by rw[w0,if_pos he]
    rw[hw,he]
    simp-implicitDefEqProofs[ixI]
    exact an (by simp) (hok _) (by simp[below])
   ·have hw:w0 fns k f=⟨[],0,2⟩:=by rw[w0,if_neg he]
    have hne:¬ixI (da fns f.name)=(k:Int):=by
     intro h
     apply he
     cases e:da fns f.name with
     |none=>rw[e] at h;simp only[ixI] at h;omega
     |some j=>rw[e] at h;simp only[ixI] at h;have:j=k:=by omega
              rw[this]
    rw[hw]
    simp-implicitDefEqProofs[hne]
    refine(RG G (wid:=2) (id:=4) (rn G true fns k ⟨[],0,0⟩ 2) (by simp) (by simp[below]) (by decide) rfl rfl).mono ?_
    rintro r h' ⟨rfl,rfl⟩
    simp-implicitDefEqProofs[aa]
    exact an (h:=[AO.row 1 [[.p (fdL fns)]],.row 3 [[.p (.str []),.nils,.nils]],wO 4 true fns k ⟨[],0,2⟩,.row 3 [[.p (.str f.name),.p (aL f.params),.p (smL f.body)]],.dead]) (by simp) (hok _) (by simp[below])
  rw[RO]
  have hw0v:(w0 fns k f).vs=[]:=rfl
  have hw0c:(w0 fns k f).count=0:=rfl
  generalize w0 fns k f=w0 at hw0v hw0c⊢
  simp-implicitDefEqProofs[]
  have hcnt:∀j,j<=f.params.length->(cY (f.params.take j) w0).count=j:=λj hj=>by rw[vO,hw0c];simp;omega
  have hvl:∀j,(cY (f.params.take j) w0).vs.length<=(cY (f.params.take j) w0).count:=λj=>FJ _ _ (by rw[hw0v];simp)
  refine aN (λj:Nat=>az 62 [(1,.p (.int .i64 k)),(2,.ptr 0 1 0 0),(4,.ptr 1 3 0 0),(7,.ptr 2 5 0 0),(8,.ptr 3 3 0 0),(9,.sl 5 1 0 j),(10,.p (.int .i64 j))])
   (λj=>[.row 1 [[.p (fdL fns)]],.row 3 [[.p (.str []),.nils,.nils]],wO 6 (decide (j=0)) fns k (cY (f.params.take j) w0),.row 3 [[.p (.str f.name),.p (aL f.params),.p (smL f.body)]],.dead,bV (rH (f.params.take j) w0),roC (decide (j=0)) (cY (f.params.take j) w0).vs])
   (λj=>j<=f.params.length) (λj=>f.params.length-j) 0 (by simp) ?_ ?_
  ·refine pK (h:=[.row 1 [[.p (fdL fns)]],.row 3 [[.p (.str []),.nils,.nils]],wO 6 true fns k w0,.row 3 [[.p (.str f.name),.p (aL f.params),.p (smL f.body)]],.dead,.row 1 []]) (by simp) (by simp) ?_ (by simp[below])
   refine aD (by simp[okO,below]) (aD (by simp[okO,below]) (aD ?_ (aD (by simp[okO,below]) (aD trivial (aD (by simp[okO]) gu)))))
   intro x hx
   rw[WG.1 hx];simp[wC,vaC,below]
  intro j hj
  have hjc:=hcnt j hj
  have hjv:=hvl j
  have hol:=Bj (f.params.take j) w0
  rw[WX,Nat.min_eq_left hj] at hol
  have hnf:decide (j=0)=true->(cY (f.params.take j) w0).vs=[]:=by
   intro h
   have h0:j=0:=by simpa using h
   rw[h0,List.take_zero]
   exact hw0v
  simp-implicitDefEqProofs[hst]
  refine aO (λh=>?_) (λh=>?_)
  ·simp at h
   have hg:=Wz h
   have eP:=IF (w:=w0) h
   have eR:=KW (w:=w0) h
   simp-implicitDefEqProofs[hg]
   refine(On G (wid:=2) (id:=6) (Q:=λnf' w'=>nf'=false/\w'=ni (cY (f.params.take j) w0) f.params[j] 0) ((Oo G (decide (j=0)) fns k _ hnf (by omega) (by omega) f.params[j] 0).mono (by rintro x h ⟨rfl,rfl⟩;exact⟨false,_,rfl,rfl,rfl,rfl⟩)) (by simp) (by simp[below]) (by decide) rfl rfl).mono ?_
   rintro r h' ⟨nf',w',rfl,rfl,rfl,rfl⟩
   have hso:∀l,bV l= .row 1 (l.map λn=>[.p (.str n)]):=λ_=>rfl
   simp-implicitDefEqProofs[aa,hso,hol]
   refine⟨by omega,j+1,by omega,by omega,?_⟩
   have htk:List.take j ((rH (f.params.take j) w0).map λn=>[AV.p (.str n)])=(rH (f.params.take j) w0).map λn=>[AV.p (.str n)]:=WF (by rw[Xc];omega)
   have hd:decide (j+1=0)=false:=by simp
   rw[eP,eR,hd,List.map_append,←List.map_take,List.map_take,htk]
   refine Ot [0,1,2,3,4,9,7] rfl (by decide) (bv rfl (by simp) (bv rfl (by simp[below]) (Aj (by simp) rfl (bv rfl (by simp) (dq (by simp) (bv rfl (λx hx=>?_) (cK rfl (gE _ _ _) cg))))))) (by simp[below,ren,w1 (i:=j) (by omega)])
   rcases WE.1 hx with h|h
   ·exact gN _ x h
   ·exact gN _ x h
  ·simp at h
   have hje:j=f.params.length:=by omega
   subst hje
   rw[WZ] at hol hjc hjv hnf⊢
   generalize decide (f.params.length=0)=nf at hnf⊢
   simp-implicitDefEqProofs[]
   refine(On G (wid:=2) (id:=6) (LN G (fns:=fns) (by omega) (aC f.body+1) f.body (by omega) 0 _ (cY f.params w0) hnf hjv (by omega) (by omega)) (by simp) (by simp[below]) (by decide) rfl rfl).mono ?_
   rintro r h' ⟨nf',w',rfl,rfl,hn',hw'⟩
   have hb:tc fns k 0 f.body (cY f.params w0)=db fns k 0 f.body (cY f.params w0):=rfl
   rw[hb] at hw'
   rw[←hw']
   simp-implicitDefEqProofs[aa,wO,wC]
 refine key.freezeR (λt v h ⟨e,_⟩=>by cases e) λv h ⟨e1,e2⟩=>?_
 cases e1
 rw[LY]
 have hol:=Bj f.params (w0 fns k f)
 have hv:=gO e2
 rw[hol] at hv
 exact .tup (.agg (.keep (by simp) (.one hv (.keep (by simp) .nil))) (.keep (by simp) (.keep (by simp) .nil))) .nil
theorem Ff{fns:List Fd}{i:Nat}(h:i<fns.length):jd fns i (fns.drop i)=if(fnW fns i fns[i]).code=0 then jd fns (i+1) (fns.drop (i+1)) else(fnW fns i fns[i]).code:=by
 rw[List.drop_eq_getElem_cons h,jd]
theorem BP(l:List Fd)(hz:aZ l<=1073741824):VF Tryz.prog G fP [.agg [.p (fdL l)]] (.p (.int .i64 (bZ l))):=by
 refine AC.go rT ?_
 have hll:=dK l
 have hfd:∀l,fdL l= .lst 3 (l.map Fd.cs):=λ_=>rfl
 simp-implicitDefEqProofs[ky]
 refine(lH G l (by omega)).use ?_
 by_cases hv:bp l=true
 case neg=>
  have:bZ l=1:=if_neg hv
  have hv':bp l=false:=by simpa using hv
  simp-implicitDefEqProofs[hv',this]
 have hc:bZ l=jd l 0 (l.drop 0):=if_pos hv
 rw[hc]
 simp-implicitDefEqProofs[hv]
 refine aN (λi:Nat=>az 27 [(1,.ptr 0 1 0 0),(3,.p (.int .i64 i))]) (λ_=>[.row 1 [[.p (fdL l)]]]) (λi=>i<=l.length/\jd l 0 l=jd l i (l.drop i)) (λi=>l.length-i) 0 (by simp) (an (by simp) (by simp[okO]) (by simp[below])) ?_
 rintro i ⟨hi,he⟩
 simp-implicitDefEqProofs[hfd]
 refine aO (λh=>?_) (λh=>?_)
 ·simp at h
  have hg:=Wz h
  have hd:=Ff h
  simp-implicitDefEqProofs[]
  refine(Rv G hg hz).use ?_
  have hrc:=LY l i l[i]
  by_cases h0:(fnW l i l[i]).code=0
  ·rw[if_pos h0] at hd
   simp-implicitDefEqProofs[h0,hrc]
   refine⟨i+1,⟨by omega,by rw[he,hd]⟩,by omega,?_⟩
   refine dC (m:=1) (by omega) (bW rfl rfl (by simp[okO,below])) (by simp[below,hfd,w1 (i:=i) (by omega)])
  ·rw[if_neg h0] at hd
   simp-implicitDefEqProofs[h0,hrc]
   rw[he,hd]
 ·simp at h
  have hie:i=l.length:=by omega
  subst hie
  rw[List.drop_length] at he
  simp-implicitDefEqProofs[]
  rw[he];rfl
end
section
variable (G:aK)
theorem QY{f:FuncId}{args:List AV}{h h1:List AO}{v:AV}(H:AC Tryz.prog G f args h λx h'=>x= .ret v/\∃l,h'=h1++l)(hl:h1.length=h.length)(ho:∀o∈h1,okO h.length o)(hv:below h.length v):
 AC Tryz.prog G f args h λx h'=>x= .ret v/\h'=h1:=by
 refine H.wk (λt v h ⟨e,_⟩=>by cases e) ?_
 rintro u h' ⟨e,l,rfl⟩
 cases e
 refine⟨v,h1,Ak (n:=h.length) (WK _) (bW ?_ hl ho) ?_,rfl,rfl⟩
 ·rw[←hl,List.take_left'];rfl
 ·simp[Fgt,hv]
theorem RI{f:FuncId}{args:List AV}{b0:AO}{fns:List Fd}{k:Nat}{c c':Int}{ch ch':List GS}{v:AV}(H:AC Tryz.prog G f args (CH b0 fns k c ch) λx h=>x= .ret v/\h=CH b0 fns k c' ch')(hb:okO 0 b0)(hs:BL ch)(hl:scL ch'=scL ch)(rest:List AO)(ha:ay (2+scL ch) args):
 AC Tryz.prog G f args (CH b0 fns k c ch++rest) λx h=>x= .ret v/\h=CH b0 fns k c' ch'++rest:=by
 refine(AC.pre H rest (by rw[jr];exact ha) (by rw[jr];exact GU hb hs (WK _)) ?_).mono ?_
 ·rintro x h ⟨_,rfl⟩;rw[jr,jr,hl]
 ·rintro x h ⟨h1,⟨rfl,rfl⟩,rfl⟩
  exact⟨rfl,rfl⟩
def bxs(ch:List GS)(q:List AV):List AO:=[.row 1 [[.ptr 1 3 0 0]],.row 4 [q],.row 1 [[upV ch]]]
def rL(b0:AO)(fns:List Fd)(k:Nat)(ch:List GS)(q:List PV)(hb:okO 0 b0)(hs:BL ch):Vis Int where
 I:=λc=>CH b0 fns k c ch++bxs ch (q.map .p)
 n:=2+scL ch+3
 F:=bU
 caps:=[.ptr (2+scL ch+2) 1 0 0,.ptr (2+scL ch) 1 0 0]
 len:=λc=>by rw[WL,jr];rfl
 ok:=λc o ho=>by
  rcases WE.1 ho with h|h
  ·exact GU hb hs (by omega) o h
  ·simp only[bxs,WC,Xr,or_false] at h
   rcases h with rfl|rfl|rfl
   ·intro e he;rw[WG.1 he];exact⟨by simp only[below];omega,trivial⟩
   ·intro e he;rw[WG.1 he];exact aR (Xg _) _ (by simp)
   ·intro e he;rw[WG.1 he];exact⟨kS ch (by omega),trivial⟩
 capsOk:=by simp[below]
def eH(b0:AO)(fns:List Fd)(k:Nat)(ch:List GS)(q:List PV)(e:Ex)(c:Int):List AO:=b0::cO fns k c::(scH ch++(bxs ch (q.map .p)++[.row 4 [[.p (.int .i64 e.op),.p (.int .i64 e.n),.p (.str e.name),.p (exL e.kids)]]]))
section
variable {b0:AO} {fns:List Fd} {k:Nat} {ch:List GS} {q:List PV} {e:Ex} {c:Int}
theorem eH_eq{hb:okO 0 b0}{hs:BL ch}:(rL b0 fns k ch q hb hs).I c++[.row 4 [[.p (.int .i64 e.op),.p (.int .i64 e.n),.p (.str e.name),.p (exL e.kids)]]]=eH b0 fns k ch q e c:=by
 simp[rL,eH,CH]
theorem Qw:(eH b0 fns k ch q e c)[1]?=some (.row 3 [[.p (fdL fns),.p (.int .i64 k),.p (.int .i64 c)]]):=rfl
theorem OO(i:Nat):(eH b0 fns k ch q e c)[2+scL ch+i]?=(bxs ch (q.map .p)++[.row 4 [[.p (.int .i64 e.op),.p (.int .i64 e.n),.p (.str e.name),.p (exL e.kids)]]])[i]?:=by
 rw[eH,show 2+scL ch+i=(scL ch+i)+1+1 by omega,WQ,WQ]
 exact Qe (lZ ch) i
theorem Kr:(eH b0 fns k ch q e c)[2+scL ch]?=some (.row 1 [[.ptr 1 3 0 0]]):=OO 0
theorem Um:(eH b0 fns k ch q e c)[2+scL ch+2]?=some (.row 1 [[upV ch]]):=OO 2
theorem LP:(eH b0 fns k ch q e c)[2+scL ch+3]?=some (.row 4 [[.p (.int .i64 e.op),.p (.int .i64 e.n),.p (.str e.name),.p (exL e.kids)]]):=OO 3
end
theorem Ns{fns:List Fd}{s:List UInt8}{j:Nat}(h:da fns s=some j):j<fns.length:=by
 rw[da,WU] at h;exact h.1
theorem LM(b0:AO){fns:List Fd}{k:Nat}(hf:fns.length<=1073741824)(hk:k<=fns.length)(ch:List GS)(q:List PV)(hb:okO 0 b0)(hs:BL ch)(c:Int)(e:Ex)(he:e.sz<=1073741824):
 AC Tryz.prog G bU (.agg (e.cs.map .p)::(rL b0 fns k ch q hb hs).caps) ((rL b0 fns k ch q hb hs).I c) λx h=>x= .ret (.tup [])/\h=(rL b0 fns k ch q hb hs).I (ff fns k (sco ch) c e):=by
 refine(rL b0 fns k ch q hb hs).trim G (AC.go ph ?_) (by simp[below])
 have hec:=e.cs_eq
 have hlen:((rL b0 fns k ch q hb hs).I c).length=2+scL ch+3:=(rL b0 fns k ch q hb hs).len c
 have hcaps:(rL b0 fns k ch q hb hs).caps=[.ptr (2+scL ch+2) 1 0 0,.ptr (2+scL ch) 1 0 0]:=rfl
 have fin:∀c',(∃l,eH b0 fns k ch q e c'=(rL b0 fns k ch q hb hs).I c'++l):=λc'=>⟨_,eH_eq.symm⟩
 have hfail:∀n,AC Tryz.prog G cy [.ptr 1 3 0 0,.p (.int .i64 n)] (eH b0 fns k ch q e c) λx h=>x= .ret (.tup [])/\h=eH b0 fns k ch q e (fl c n):=λn=>DX G b0 fns k c n _
 have hkl:=bL e.kids
 have hsz:=e.sz_eq
 rw[hcaps]
 simp-implicitDefEqProofs[iO,hec,hlen]
 rw[eH_eq]
 generalize hV:(rL b0 fns k ch q hb hs).I=VI at fin⊢
 by_cases o2:e.op=2
 ·have hfind:AC Tryz.prog G bm [upV ch,.p (.str e.name)] (eH b0 fns k ch q e c) λx h=>x= .ret (.tup [.p (.int .i64 (((cZ (sco ch) e.name).getD 0:Nat):Int)),.p (.bool (cZ (sco ch) e.name).isSome)])/\h=eH b0 fns k ch q e c:=Nf G b0 (cO fns k c) ch _ e.name
  simp-implicitDefEqProofs[o2,Kr,Um,LP,Qw]
  refine hfind.mono ?_
  rintro r h ⟨rfl,rfl⟩
  cases hfs:cZ (sco ch) e.name with
  |some n=>
   have hv:ff fns k (sco ch) c e=c:=by simp[ff,o2,hfs]
   rw[hv]
   simp-implicitDefEqProofs[aa]
   exact fin c
  |none=>
   have hv:ff fns k (sco ch) c e=fl c 3:=by simp[ff,o2,hfs]
   rw[hv]
   simp-implicitDefEqProofs[aa,Kr]
   refine(hfail 3).mono ?_
   rintro r h ⟨rfl,rfl⟩
   simp-implicitDefEqProofs[aa]
   exact fin _
 by_cases o13:e.op=13
 ·have hfl:fdL fns= .lst 3 (fns.map Fd.cs):=rfl
  have hfk:fdL (fns.take k)= .lst 3 ((fns.map Fd.cs).take k):=by rw[←List.map_take];rfl
  have hxl:exL e.kids= .lst 4 (e.kids.map Ex.cs):=rfl
  have hAt:=Ig G (fns.take k) e.name (by rw[WX];omega)
  rw[hfk] at hAt
  simp-implicitDefEqProofs[o13,Kr,Um,LP,Qw,hfl,hk]
  refine hAt.use ?_
  cases hfa:da (fns.take k) e.name with
  |none=>
   have hv:ff fns k (sco ch) c e=fl c 4:=by simp[ff,o13,hfa]
   rw[hv]
   simp-implicitDefEqProofs[ixI,Kr]
   refine(hfail 4).mono ?_
   rintro r h ⟨rfl,rfl⟩
   simp-implicitDefEqProofs[aa]
   exact fin _
  |some j=>
   have hj:=Ns hfa
   rw[WX] at hj
   have hjl:j<fns.length:=by omega
   have hg:=Wz hjl
   have hjn:¬(j:Int)<0:=by omega
   have hcs:fns[j].cs=[.str fns[j].name,aL fns[j].params,smL fns[j].body]:=rfl
   have hst:aL fns[j].params= .lst 1 (fns[j].params.map λw=>[.str w]):=rfl
   have hpn:KX fns j=fns[j].params.length:=by simp[KX,hg]
   by_cases hp:fns[j].params.length=e.kids.length
   ·have hv:ff fns k (sco ch) c e=c:=by simp[ff,o13,hfa,hpn,hp]
    rw[hv]
    simp-implicitDefEqProofs[ixI,Kr,Qw,LP,hjn,hfl,hg,hcs,hst,hxl,hp]
    exact fin _
   ·have hv:ff fns k (sco ch) c e=fl c 5:=by simp[ff,o13,hfa,hpn,hp]
    have hp':¬(fns[j].params.length:Int)=(e.kids.length:Int):=by omega
    rw[hv]
    simp-implicitDefEqProofs[ixI,Kr,Qw,LP,hjn,hfl,hg,hcs,hst,hxl,hp']
    refine(hfail 5).mono ?_
    rintro r h ⟨rfl,rfl⟩
    simp-implicitDefEqProofs[aa]
    exact fin _
 ·have hv:ff fns k (sco ch) c e=c:=by simp[ff,o2,o13]
  rw[hv]
  simp-implicitDefEqProofs[o2,o13,LP]
  exact fin _
theorem Pb(ch:List GS):upV ch= .nilp\/∃i,upV ch= .ptr i 2 0 0:=by
 cases ch with
 |nil=>exact .inl rfl
 |cons g up=>exact .inr ⟨_,rfl⟩
theorem Rt(b0:AO){fns:List Fd}{k:Nat}(hf:fns.length<=1073741824)(hk:k<=fns.length)(ch:List GS)(hb:okO 0 b0)(hs:BL ch)(c:Int)(e:Ex)(he:e.sz<=1073741824):
 AC Tryz.prog G dz [.ptr 1 3 0 0,.agg (e.cs.map .p),upV ch] (CH b0 fns k c ch) λx h=>x= .ret (.tup [])/\h=CH b0 fns k (e.pre.foldl (ff fns k (sco ch)) c) ch:=by
 refine QY G (h:=CH b0 fns k c ch) (AC.go rD ?_) (by rw[jr,jr]) (by rw[jr];exact GU hb hs (WK _)) (by simp[below])
 have hec:=e.cs_eq
 have hlen:(CH b0 fns k c ch).length=2+scL ch:=jr _ _ _ _ _
 have hI:=(Pe G (rL b0 fns k ch e.cs hb hs) (ff fns k (sco ch)) (λ_=>True) 1073741824 (by omega) (λst x _ hx=>⟨trivial,LM G b0 hf hk ch e.cs hb hs st x hx⟩) (e.sz+1) e (by omega) he c trivial).2
 have hcaps:(rL b0 fns k ch e.cs hb hs).caps=[.ptr (2+scL ch+2) 1 0 0,.ptr (2+scL ch) 1 0 0]:=rfl
 have hF:(rL b0 fns k ch e.cs hb hs).F=bU:=rfl
 have hVI:(rL b0 fns k ch e.cs hb hs).I c=CH b0 fns k c ch++[.row 1 [[.ptr 1 3 0 0]],.row 4 [[.p (.int .i64 e.op),.p (.int .i64 e.n),.p (.str e.name),.p (exL e.kids)]],.row 1 [[upV ch]]]:=by simp[rL,bxs,hec]
 rw[hcaps,hF,hVI,hec] at hI
 have hup:=Pb ch
 generalize upV ch=u at hI hup⊢
 rcases hup with rfl|⟨i,rfl⟩
 ·simp-implicitDefEqProofs[fH,hec,hlen]
  refine hI.mono ?_
  rintro r h ⟨rfl,rfl⟩
  simp-implicitDefEqProofs[aa]
  exact⟨_,rfl⟩
 ·simp-implicitDefEqProofs[fH,hec,hlen]
  refine hI.mono ?_
  rintro r h ⟨rfl,rfl⟩
  simp-implicitDefEqProofs[aa]
  exact⟨_,rfl⟩
end
section
theorem pQ:AK.whole eZ=FK.ak eU:=rfl
theorem Gq(fns:List Fd)(k:Nat):∀(a b:List Sm) (m:Scp) (up:List Scp) (c:Int),eX fns k (a++b) m up c=eX fns k b (eX fns k a m up c).1 up (eX fns k a m up c).2
 |[],b,m,up,c=>rfl
 |s::r,b,m,up,c=>by rw[Xk,eX,eX,Gq fns k r]
theorem Lb{fns:List Fd}{k:Nat}{l:List Sm}{m:Scp}{up:List Scp}{c:Int}{i:Nat}(h:i<l.length):eX fns k (l.take (i+1)) m up c=icS fns k l[i] (eX fns k (l.take i) m up c).1 up (eX fns k (l.take i) m up c).2:=by
 rw[aq h,Gq];rfl
def AX(b0:AO)(fns:List Fd)(k:Nat)(up:List GS)(gap:List AO)(c:Int):List AO:=b0::cO fns k c::(scH up++gap)
theorem Sz(b0:AO)(fns:List Fd)(k:Nat)(up:List GS)(gap:List AO)(c:Int):(AX b0 fns k up gap c).length=2+scL up+gap.length:=by
 simp only[AX,WP,WL,lZ];omega
theorem Mj(b0:AO)(fns:List Fd)(k:Nat)(up:List GS)(gap:List AO)(m:Scp)(c:Int)(rest:List AO):CH b0 fns k c (⟨gap,m⟩::up)++rest=AX b0 fns k up gap c++(.mp (mpE m):: .row 2 [[.mp (2+scL up+gap.length),upV up]]::rest):=by
 simp[CH,AX,scH]
theorem Og(b0:AO)(fns:List Fd)(k:Nat)(up:List GS)(gap:List AO)(m:Scp)(c:Int):CH b0 fns k c (⟨gap,m⟩::up)=AX b0 fns k up gap c++[.mp (mpE m),.row 2 [[.mp (2+scL up+gap.length),upV up]]]:=by
 have:=Mj b0 fns k up gap m c []
 rwa[WT] at this
theorem Ud{b0:AO}{fns:List Fd}{k:Nat}{up:List GS}{gap:List AO}(hb:okO 0 b0)(hs:BL up)(hg:∀o∈gap,okO (2+scL up+gap.length) o)(c:Int):∀o∈AX b0 fns k up gap c,okO (2+scL up+gap.length) o:=by
 refine aD (eA hb) (aD (by intro e he;rw[WG.1 he];simp[below]) ?_)
 intro o ho
 rcases WE.1 ho with h|h
 ·exact Ij up hs (by omega) o h
 ·exact hg o h
theorem zT{kk L n:Nat}{A r s:List AO}{l l1:List (Nat × AV)}(hl:A.length=L)(hk:kk<=L+r.length)(ha:∀o∈A,okO L o)(hr:∀o∈r,okO (L+r.length) o)(H:FgA (L+r.length) l l1):Wk kk (az n l) (A++(r++s)) (az n l1) (A++r):=by
 have hll:(A++r).length=L+r.length:=by rw[WL,hl]
 refine dC (m:=L+r.length) hk (bW ?_ hll ?_) H
 ·rw[←Xi,←hll,List.take_left'];rfl
 ·intro o ho
  rcases WE.1 ho with h|h
  ·exact ty (by omega) (ha o h)
  ·exact hr o h
theorem Gk(m:Scp)(n:Nat):okO n (.mp (mpE m)):=by
 intro e he
 obtain⟨x,_,rfl⟩:=Xb.1 he
 simp[below]
variable (G:aK)
theorem PB(b0:AO){fns:List Fd}{k:Nat}(hf:fns.length<=1073741824)(hk:k<=fns.length)(hb:okO 0 b0):∀(N:Nat) (l:List Sm),aC l<N->aC l<=1073741824->∀(gap:List AO) (m:Scp) (up:List GS) (c:Int),BL (⟨gap,m⟩::up)->
 AC Tryz.prog G bJ [.ptr 1 3 0 0,.p (smL l),upV (⟨gap,m⟩::up)] (CH b0 fns k c (⟨gap,m⟩::up)) λx h=>x= .ret (.tup [])/\h=CH b0 fns k (eX fns k l m (sco up) c).2 (⟨gap,(eX fns k l m (sco up) c).1⟩::up):=by
 intro N
 induction N with
 |zero=>intro l h;omega
 |succ N ih=>
  intro l hl hz gap m up c hs
  have hll:=bE l
  have hsl:∀l,smL l= .lst 5 (l.map Sm.cs):=λ_=>rfl
  have hs':∀m,BL (⟨gap,m⟩::up):=λ_=>hs
  have hscl:∀m,scL (⟨gap,m⟩::up)=scL up+gap.length+2:=λ_=>rfl
  refine QY G (AC.goK pX pQ ?_) (by rw[jr,jr];rfl) (by rw[jr];exact GU hb (hs' _) (by rw[hscl];exact Nat.le_of_eq (by rfl))) (by simp[below])
  have hup:upV (⟨gap,m⟩::up)= .ptr (2+scL up+gap.length+1) 2 0 0:=rfl
  have hlenC:∀c m,(CH b0 fns k c (⟨gap,m⟩::up)).length=2+scL up+gap.length+2:=λc m=>by rw[jr,hscl];omega
  have hokC:∀c m,∀o∈CH b0 fns k c (⟨gap,m⟩::up),okO (2+scL up+gap.length+2) o:=λc m=>GU hb (hs' m) (by rw[hscl];omega)
  have hlenA:∀c,(AX b0 fns k up gap c).length=2+scL up+gap.length:=Sz b0 fns k up gap
  simp-implicitDefEqProofs[eZ,eU,hsl,hup]
  refine aN (λi:Nat=>az 89 [(0,.ptr 1 3 0 0),(2,.ptr (2+scL up+gap.length+1) 2 0 0),(14,.p (smL l)),(15,.p (.int .i64 l.length)),(16,.p (.int .i64 i))])
   (λi=>CH b0 fns k (eX fns k (l.take i) m (sco up) c).2 (⟨gap,(eX fns k (l.take i) m (sco up) c).1⟩::up)) (λi=>i<=l.length) (λi=>l.length-i) 0 (by simp) ?_ ?_
  ·refine an (h:=CH b0 fns k c (⟨gap,m⟩::up)) (WK _) (by rw[hlenC];exact hokC _ _) ?_
   rw[hlenC]
   simp[below,hsl]
  intro i hi
  have eT:=λh=>Lb (fns:=fns) (k:=k) (l:=l) (m:=m) (up:=sco up) (c:=c) (i:=i) h
  rw[hlenC]
  generalize hst:eX fns k (l.take i) m (sco up) c=st at eT⊢
  obtain⟨mi,ci⟩:=st
  simp only at eT⊢
  simp-implicitDefEqProofs[hsl]
  refine aO (λh=>?_) (λh=>?_)
  ·simp at h
   have hg:=Wz h
   have hse:=l[i].cs_eq
   have hsz:=l[i].sz_eq
   have hks:=fe (WN h)
   have eT:=eT h
   generalize l[i]=s at hg hse hsz hks eT
   obtain⟨o,nme,a,bd,el⟩:=s
   simp only[Sm.op,Sm.name,Sm.args,Sm.body,Sm.els] at hse hsz
   have hxl:exL a= .lst 4 (a.map Ex.cs):=rfl
   have hal:=bL a
   simp-implicitDefEqProofs[hg,hse,hlenC,hxl]
   have hexpr:∀(c:Int) (e:Ex) (rest:List AO),e.sz<=1073741824->AC Tryz.prog G dz [.ptr 1 3 0 0,.agg (e.cs.map .p),.ptr (2+scL up+gap.length+1) 2 0 0] (AX b0 fns k up gap c++(.mp (mpE mi):: .row 2 [[.mp (2+scL up+gap.length),upV up]]::rest)) λx h=>x= .ret (.tup [])/\h=AX b0 fns k up gap (e.pre.foldl (ff fns k (mi::sco up)) c)++(.mp (mpE mi):: .row 2 [[.mp (2+scL up+gap.length),upV up]]::rest):=by
    intro c e rest he
    have:=RI G (Rt G b0 hf hk (⟨gap,mi⟩::up) hb (hs' mi) c e he) hb (hs' mi) rfl rest (by refine⟨by simp only[below];omega,by simp,kS _ (WK _),trivial⟩)
    simp only[Mj] at this
    exact this
   have hfail:∀(c e:Int) (t:List AO),AC Tryz.prog G cy [.ptr 1 3 0 0,.p (.int .i64 e)] (AX b0 fns k up gap c++t) λx h=>x= .ret (.tup [])/\h=AX b0 fns k up gap (fl c e)++t:=λc e t=>DX G b0 fns k c e _
   have hfind:∀(c:Int) (m:Scp) (s:List UInt8) (rest:List AO),AC Tryz.prog G bm [.ptr (2+scL up+gap.length+1) 2 0 0,.p (.str s)] (AX b0 fns k up gap c++(.mp (mpE m):: .row 2 [[.mp (2+scL up+gap.length),upV up]]::rest)) λx h=>x= .ret (.tup [.p (.int .i64 (((cZ (m::sco up) s).getD 0:Nat):Int)),.p (.bool (cZ (m::sco up) s).isSome)])/\h=AX b0 fns k up gap c++(.mp (mpE m):: .row 2 [[.mp (2+scL up+gap.length),upV up]]::rest):=by
    intro c m s rest
    have:=Nf G b0 (cO fns k c) (⟨gap,m⟩::up) rest s
    have e:b0::cO fns k c::(scH (⟨gap,m⟩::up)++rest)=CH b0 fns k c (⟨gap,m⟩::up)++rest:=rfl
    rw[e,Mj] at this
    exact this
   have hblk:∀(c:Int) (m2:Scp) (l':List Sm) (gap2:List AO),aC l'<N->aC l'<=1073741824->(∀o∈gap2,okO (2+scL up+gap.length+2+gap2.length) o)->
    AC Tryz.prog G bJ [.ptr 1 3 0 0,.p (smL l'),.ptr (2+scL up+gap.length+2+gap2.length+1) 2 0 0] (AX b0 fns k up gap c++(.mp (mpE m2):: .row 2 [[.mp (2+scL up+gap.length),upV up]]::(gap2++[.mp [],.row 2 [[.mp (2+scL up+gap.length+2+gap2.length),.ptr (2+scL up+gap.length+1) 2 0 0]]])))
     λx h=>x= .ret (.tup [])/\∃m',h=AX b0 fns k up gap (eX fns k l' [] (m2::sco up) c).2++(.mp (mpE m2):: .row 2 [[.mp (2+scL up+gap.length),upV up]]::(gap2++[.mp (mpE m'),.row 2 [[.mp (2+scL up+gap.length+2+gap2.length),.ptr (2+scL up+gap.length+1) 2 0 0]]])):=by
    intro c m2 l' gap2 h1 h2 h3
    have e1:2+scL (⟨gap,m2⟩::up)+gap2.length=2+scL up+gap.length+2+gap2.length:=by rw[hscl];omega
    have e2:∀c m',CH b0 fns k c (⟨gap2,m'⟩::⟨gap,m2⟩::up)=AX b0 fns k up gap c++(.mp (mpE m2):: .row 2 [[.mp (2+scL up+gap.length),upV up]]::(gap2++[.mp (mpE m'),.row 2 [[.mp (2+scL up+gap.length+2+gap2.length),.ptr (2+scL up+gap.length+1) 2 0 0]]])):=by
     intro c m'
     rw[←e1]
     simp[CH,AX,scH,upV]
    have:=ih l' h1 h2 gap2 [] (⟨gap,m2⟩::up) c ⟨by rw[e1];exact h3,hs' m2⟩
    rw[show upV (⟨gap2,[]⟩::⟨gap,m2⟩::up)= .ptr (2+scL up+gap.length+2+gap2.length+1) 2 0 0 by rw[←e1];rfl] at this
    rw[e2] at this
    refine this.mono ?_
    rintro x h ⟨hx,hh⟩
    exact⟨hx,(eX fns k l' [] (sco (⟨gap,m2⟩::up)) c).1,by rw[hh,e2];rfl⟩
   rw[Og b0 fns k up gap mi ci,Xi]
   simp only[Xk,List.nil_append]
   have hokA:=Ud (fns:=fns) (k:=k) hb hs.2 hs.1
   generalize hL:2+scL up+gap.length=L at hexpr hfind hblk hlenA hlenC hokC hokA⊢
   have hR:okO (L+2) (.row 2 [[.mp L,upV up]]):=by
    intro e he;rw[WG.1 he]
    exact⟨by simp only[below];omega,kS up (by omega),trivial⟩
   have hX:okO 0 (.row 5 [[AV.p (.int .i64 o),.p (.str nme),.p (.lst 4 (a.map Ex.cs)),.p (smL bd),.p (smL el)]]):=by simp[okO]
   have ok3:∀(m:Scp),∀x∈[AO.mp (mpE m),.row 2 [[.mp L,upV up]],.row 5 [[AV.p (.int .i64 o),.p (.str nme),.p (.lst 4 (a.map Ex.cs)),.p (smL bd),.p (smL el)]]],okO (L+3) x:=λm=>
    aD (Gk _ _) (aD (ty (by omega) hR) (aD (eA hX) gu))
   refine aN (λj:Nat=>az 89 [(0,.ptr 1 3 0 0),(2,.ptr (L+1) 2 0 0),(7,.ptr (L+2) 5 0 0),(14,.p (smL l)),(15,.p (.int .i64 l.length)),(16,.p (.int .i64 i)),(21,.p (exL a)),(22,.p (.int .i64 a.length)),(23,.p (.int .i64 j))])
    (λj=>AX b0 fns k up gap ((eB (a.take j)).foldl (ff fns k (mi::sco up)) ci)++[.mp (mpE mi),.row 2 [[.mp L,upV up]],.row 5 [[AV.p (.int .i64 o),.p (.str nme),.p (.lst 4 (a.map Ex.cs)),.p (smL bd),.p (smL el)]]])
    (λj=>j<=a.length) (λj=>a.length-j) 0 (by simp) ?_ ?_
   ·refine zT (s:=[]) (hlenA _) (by simp) (hokA _) (ok3 _) ?_
    simp[below,hsl,hxl]
   intro j hj
   simp-implicitDefEqProofs[hxl]
   refine aO (λhc=>?_) (λhc=>?_)
   ·simp at hc
    have hga:=Wz hc
    have hka:=cQ (WN hc)
    have hkc:=a[j].cs_eq
    have hE:=hexpr ((eB (a.take j)).foldl (ff fns k (mi::sco up)) ci) a[j] [.row 5 [[AV.p (.int .i64 o),.p (.str nme),.p (.lst 4 (a.map Ex.cs)),.p (smL bd),.p (smL el)]],.row 4 [[.p (.int .i64 a[j].op),.p (.int .i64 a[j].n),.p (.str a[j].name),.p (exL a[j].kids)]]] (by omega)
    rw[hkc] at hE
    simp-implicitDefEqProofs[hga,hkc,hlenA]
    refine hE.mono ?_
    rintro r h ⟨rfl,rfl⟩
    simp-implicitDefEqProofs[aa]
    refine⟨j+1,hc,by omega,?_⟩
    have hf2:(eB (a.take (j+1))).foldl (ff fns k (mi::sco up)) ci=a[j].pre.foldl (ff fns k (mi::sco up)) ((eB (a.take j)).foldl (ff fns k (mi::sco up)) ci):=by
     rw[aq hc,tu,XG,eB,eB,WT]
    rw[hf2]
    refine zT (r:=[_,_,_]) (s:=[_]) (hlenA _) (by simp) (hokA _) (ok3 _) ?_
    simp[below,hsl,hxl,w1 (i:=j) (by omega)]
   simp at hc
   have hje:j=a.length:=by omega
   subst hje
   rw[WZ]
   have hic:icS fns k ⟨o,nme,a,bd,el⟩ mi (sco up) ci=(opS o nme mi 0,if o=5\/o=6 then(eX fns k el [] (opS o nme mi 0::sco up) (eX fns k bd [] (opS o nme mi 0::sco up) (opC o nme mi (sco up) (zZ fns k (mi::sco up) a ci))).2).2 else opC o nme mi (sco up) (zZ fns k (mi::sco up) a ci)):=rfl
   rw[hic] at eT
   clear hic
   rw[show(eB a).foldl (ff fns k (mi::sco up)) ci=zZ fns k (mi::sco up) a ci from rfl]
   generalize zZ fns k (mi::sco up) a ci=c1 at eT⊢
   simp-implicitDefEqProofs[]
   refine pg (az 89 [(0,.ptr 1 3 0 0),(2,.ptr (L+1) 2 0 0),(7,.ptr (L+2) 5 0 0),(14,.p (smL l)),(15,.p (.int .i64 l.length)),(16,.p (.int .i64 i))])
    (AX b0 fns k up gap (opC o nme mi (sco up) c1)++[.mp (mpE (opS o nme mi 0)),.row 2 [[.mp L,upV up]],.row 5 [[AV.p (.int .i64 o),.p (.str nme),.p (.lst 4 (a.map Ex.cs)),.p (smL bd),.p (smL el)]]]) ?_ ?_
   ·have fin:∀(r1:List (Nat × AV)) (c2:Int) (m2:Scp),Aw.look r1 0= .ptr 1 3 0 0->Aw.look r1 2= .ptr (L+1) 2 0 0->Aw.look r1 7= .ptr (L+2) 5 0 0->Aw.look r1 14= .p (smL l)->Aw.look r1 15= .p (.int .i64 l.length)->Aw.look r1 16= .p (.int .i64 i)->
     Wk (L+2) (az 89 r1) (AX b0 fns k up gap c2++[.mp (mpE m2),.row 2 [[.mp L,upV up]],.row 5 [[AV.p (.int .i64 o),.p (.str nme),.p (.lst 4 (a.map Ex.cs)),.p (smL bd),.p (smL el)]]])
      (az 89 [(0,.ptr 1 3 0 0),(2,.ptr (L+1) 2 0 0),(7,.ptr (L+2) 5 0 0),(14,.p (smL l)),(15,.p (.int .i64 l.length)),(16,.p (.int .i64 i))])
      (AX b0 fns k up gap c2++[.mp (mpE m2),.row 2 [[.mp L,upV up]],.row 5 [[AV.p (.int .i64 o),.p (.str nme),.p (.lst 4 (a.map Ex.cs)),.p (smL bd),.p (smL el)]]]):=by
     intro r1 c2 m2 e0 e2 e7 e14 e15 e16
     refine zT (s:=[]) (hlenA _) (by simp) (hokA _) (ok3 _) ?_
     simp[below,e0,e2,e7,e14,e15,e16]
    by_cases o1:o=1
    ·have hmg:=nJ nme mi
     have hms:lB (.str nme) (.p (.int .i64 0)) (mpE mi)=some (mpE (eQ mi nme 0)):=by simpa using pD nme 0 mi
     have e2:opS o nme mi 0=eQ mi nme 0:=if_pos o1
     rw[e2]
     cases hh:eD mi nme with
     |none=>
      have e1:opC o nme mi (sco up) c1=c1:=by rw[opC,if_pos o1,hh];rfl
      rw[hh] at hmg
      rw[e1]
      subst o1
      simp-implicitDefEqProofs[hlenA,hmg,hms]
      exact fin _ _ _ (by simp) (by simp) (by simp) (by simp[hsl]) (by simp) (by simp)
     |some n=>
      have e1:opC o nme mi (sco up) c1=fl c1 2:=by rw[opC,if_pos o1,hh];rfl
      rw[hh] at hmg
      rw[e1]
      subst o1
      simp-implicitDefEqProofs[hlenA,hmg,hms]
      refine(hfail c1 2 _).mono ?_
      rintro r h ⟨rfl,rfl⟩
      simp-implicitDefEqProofs[aa,hlenA,hms]
      exact fin _ _ _ (by simp) (by simp) (by simp) (by simp[hsl]) (by simp) (by simp)
    have e2:opS o nme mi 0=mi:=if_neg o1
    rw[e2]
    by_cases o2:o=2
    ·cases hh:cZ (mi::sco up) nme with
     |none=>
      have e1:opC o nme mi (sco up) c1=fl c1 3:=by rw[opC,if_neg o1,if_pos o2,hh];rfl
      rw[e1]
      subst o2
      have hF:=hfind c1 mi nme [.row 5 [[AV.p (.int .i64 2),.p (.str nme),.p (.lst 4 (a.map Ex.cs)),.p (smL bd),.p (smL el)]]]
      rw[hh] at hF
      simp-implicitDefEqProofs[hlenA]
      refine hF.mono ?_
      rintro r h ⟨rfl,rfl⟩
      simp-implicitDefEqProofs[aa]
      refine(hfail c1 3 _).mono ?_
      rintro r h ⟨rfl,rfl⟩
      simp-implicitDefEqProofs[aa]
      exact fin _ _ _ (by simp) (by simp) (by simp) (by simp[hsl]) (by simp) (by simp)
     |some n=>
      have e1:opC o nme mi (sco up) c1=c1:=by rw[opC,if_neg o1,if_pos o2,hh];rfl
      rw[e1]
      subst o2
      have hF:=hfind c1 mi nme [.row 5 [[AV.p (.int .i64 2),.p (.str nme),.p (.lst 4 (a.map Ex.cs)),.p (smL bd),.p (smL el)]]]
      rw[hh] at hF
      simp-implicitDefEqProofs[hlenA]
      refine hF.mono ?_
      rintro r h ⟨rfl,rfl⟩
      simp-implicitDefEqProofs[aa]
      exact fin _ _ _ (by simp) (by simp) (by simp) (by simp[hsl]) (by simp) (by simp)
    ·have e1:opC o nme mi (sco up) c1=c1:=by rw[opC,if_neg o1,if_neg o2]
     rw[e1]
     simp-implicitDefEqProofs[hlenA,o1,o2]
     exact fin _ _ _ (by simp) (by simp) (by simp) (by simp[hsl]) (by simp) (by simp)
   generalize opC o nme mi (sco up) c1=c2 at eT⊢
   generalize opS o nme mi 0=m2 at eT⊢
   have hdrop:∀(r1:List (Nat × AV)) (c3:Int) (s:List AO),Aw.look r1 0= .ptr 1 3 0 0->Aw.look r1 2= .ptr (L+1) 2 0 0->Aw.look r1 14= .p (smL l)->Aw.look r1 15= .p (.int .i64 l.length)->Aw.look r1 16= .p (.int .i64 ((i:Int)+1))->
    Wk (L+2) (az 89 r1) (AX b0 fns k up gap c3++([.mp (mpE m2),.row 2 [[.mp L,upV up]]]++s)) (az 89 [(0,.ptr 1 3 0 0),(2,.ptr (L+1) 2 0 0),(14,.p (smL l)),(15,.p (.int .i64 l.length)),(16,.p (.int .i64 ((i:Int)+1)))]) (CH b0 fns k c3 (⟨gap,m2⟩::up)):=by
    intro r1 c3 s e0 e2 e14 e15 e16
    rw[Og,hL]
    refine zT (hlenA _) (by simp) (hokA _) (aD (Gk _ _) (aD hR gu)) ?_
    simp[below,e0,e2,e14,e15,e16]
   by_cases ho:o=5\/o=6
   ·rw[if_pos ho] at eT
    rcases ho with o5|o6
    ·subst o5
     simp-implicitDefEqProofs[hlenA]
     refine(nS G (.ptr (L+1) 2 0 0) (.inr ⟨_,rfl⟩) _).mono ?_
     rintro r h ⟨rfl,rfl⟩
     simp-implicitDefEqProofs[aa,hlenA]
     refine(hblk c2 m2 bd [_] (by omega) (by omega) (λx hx=>by rw[WG.1 hx];exact eA (by simp[okO]))).mono ?_
     rintro r h ⟨rfl,m3,rfl⟩
     simp-implicitDefEqProofs[aa,hlenA]
     refine(nS G (.ptr (L+1) 2 0 0) (.inr ⟨_,rfl⟩) _).mono ?_
     rintro r h ⟨rfl,rfl⟩
     simp-implicitDefEqProofs[aa,hlenA]
     refine(hblk _ m2 el [_,_,_] (by omega) (by omega) (aD (eA (by simp[okO])) (aD (Gk _ _) (aD (by
      intro e he;rw[WG.1 he]
      exact⟨by simp only[below];simp,by simp only[below];simp,trivial⟩) gu)))).mono ?_
     rintro r h ⟨rfl,m4,rfl⟩
     simp-implicitDefEqProofs[aa,hlenA]
     refine⟨i+1,by omega,by omega,?_⟩
     rw[eT]
     refine hdrop _ _ _ (by simp) (by simp) (by simp[hsl]) (by simp) (by simp[w1 (i:=i) (by omega)])
    ·subst o6
     simp-implicitDefEqProofs[hlenA]
     refine(nS G (.ptr (L+1) 2 0 0) (.inr ⟨_,rfl⟩) _).mono ?_
     rintro r h ⟨rfl,rfl⟩
     simp-implicitDefEqProofs[aa,hlenA]
     refine(hblk c2 m2 bd [_] (by omega) (by omega) (λx hx=>by rw[WG.1 hx];exact eA (by simp[okO]))).mono ?_
     rintro r h ⟨rfl,m3,rfl⟩
     simp-implicitDefEqProofs[aa,hlenA]
     refine(nS G (.ptr (L+1) 2 0 0) (.inr ⟨_,rfl⟩) _).mono ?_
     rintro r h ⟨rfl,rfl⟩
     simp-implicitDefEqProofs[aa,hlenA]
     refine(hblk _ m2 el [_,_,_] (by omega) (by omega) (aD (eA (by simp[okO])) (aD (Gk _ _) (aD (by
      intro e he;rw[WG.1 he]
      exact⟨by simp only[below];simp,by simp only[below];simp,trivial⟩) gu)))).mono ?_
     rintro r h ⟨rfl,m4,rfl⟩
     simp-implicitDefEqProofs[aa,hlenA]
     refine⟨i+1,by omega,by omega,?_⟩
     rw[eT]
     refine hdrop _ _ _ (by simp) (by simp) (by simp[hsl]) (by simp) (by simp[w1 (i:=i) (by omega)])
   ·rw[if_neg ho] at eT
    have o5:¬o=5:=λh=>ho (.inl h)
    have o6:¬o=6:=λh=>ho (.inr h)
    simp-implicitDefEqProofs[hlenA,o5,o6]
    refine⟨i+1,by omega,by omega,?_⟩
    rw[eT]
    refine hdrop _ _ [_] (by simp) (by simp) (by simp[hsl]) (by simp) (by simp[w1 (i:=i) (by omega)])
  ·simp at h
   have hie:i=l.length:=by omega
   subst hie
   rw[WZ] at hst
   rw[hst]
   simp-implicitDefEqProofs[]
end
end Go.Proofs.YtghpabfdmbdpfaaGreatDoor
