/-
  Contracts and lemmas that the card needs, part 8.
-/
import Derived.Test.YtdfplkcigiblcaaGreatFp7
import Derived.Test.YtdfplkcigiblcaaGreatChecked
import Derived.Shelf.Sort.AssemblyIn
import Derived.Shelf.Slices.CompactI
import Derived.Lib.SlicesCompact
import Derived.Shelf.Sort.Plain
import Derived.Shelf.Slices.In.SortNone
namespace Go.Proofs.YtdfplkcigiblcaaGreat
open Go Go.Aw
set_option maxRecDepth 100000
set_option maxHeartbeats 4000000
section
theorem JK{P:Program}{G:az}{k:Nat}{c:AK}{ts:List AV}{h:List AO}{Q:Aw.AX->List AV->List AO->Prop}(n:Nat)(R:List AV->List AO->Prop)
 (h1:∀Q':Aw.AX->List AV->List AO->Prop,(∀ts' h',R ts' h'->Q' (.exit n) ts' h')->AKW P G k c ts h Q')(h2:∀ts' h',R ts' h'->Q (.exit n) ts' h'):AKW P G k c ts h Q:=h1 Q h2
theorem Stg.upd{mk:Lw->AV->AO}{L:Nat}{I0 E:List Nat}{h hB:List AO}{w:Lw}{X X2:List AO}{K:AV}{I:List Nat}(S:Stg mk L I0 E h hB w X K I){oid:Nat}(hX:X.length<=X2.length)(e:∀i,i<X.length->i≠oid->X2[i]?=X[i]?)(ho:h.length<=oid)(hoE:oid∉E)(hoI:oid∉L::I):Stg mk L I0 E h hB w X2 K I:=by
 have hne:∀i,i∈L::I->i≠oid:=λi hi e=>hoI (e▸hi)
 refine⟨S.ls.frame λi hi=>e i ?_ (hne i hi),⟨Nat.le_trans S.fr.1 hX,λi hi hn=>?_⟩,S.sub,λi hi=>?_,λi hi=>⟨Nat.lt_of_lt_of_le (S.ap i hi).1 hX,(S.ap i hi).2⟩,Nat.le_trans S.ge hX⟩
 ·rcases List.mem_cons.1 hi with rfl|hi
  ·exact S.ls.lt
  ·exact S.ls.own.lt hi
 ·rw[e i (by have:=S.fr.1;omega) (by omega)];exact S.fr.2 i hi hn
 ·rw[e i (S.ap i hi).1 (λe=>hoE (e▸hi))];exact S.keep i hi
theorem Lw.name_name(w:Lw)(a b:Nat):(w.name a).name b=w.name (a+b):=by simp[Lw.name,List.append_assoc]
structure MpQ where (i:Nat) (X:List AO) (o:Nat)
variable (G:az)
def ExR(l:List Fd)(pr:Int)(L:Nat)(V:AV)(nx:Nat)(vs:Vs)(e:Ex):Prop:=∀(w:Lw) (h:List AO) (K:AV) (I:List Nat) (B:Nat),LS (lwR l pr V nx) L w h K I->w.Ok B->B+8*e.sz<=1073741823->VAt h V vs->(∀i∈vi V,i∉L::I)->
 AC Tryz.prog G bc [.ptr L 8 0 0,.agg (e.cs.map .p)] h λx h'=>x= .ret (.p (.int .i64 (lwE (faI l) (rgV vs) e w).1))/\LR (lwR l pr V nx) L (lwE (faI l) (rgV vs) e w).2 I h h'
theorem Kq{l:List Fd}{pr:Int}{L:Nat}{V:AV}{nx:Nat}{vs:Vs}{e a b:Ex}(hk:e.kids=[a,b])(ha:ExR G l pr L V nx vs a)(hb:ExR G l pr L V nx vs b){w:Lw}{h:List AO}{K:AV}{I:List Nat}{B:Nat}(H:LS (lwR l pr V nx) L w h K I)(hok:w.Ok B)(hB:B+8*e.sz<=1073741823)(hV:VAt h V vs)(hVd:∀i∈vi V,i∉L::I):
 AC Tryz.prog G fc [.ptr L 8 0 0,.agg (e.cs.map .p)] h λx h'=>x= .ret (.p (.int .i64 (lwA (faI l) (rgV vs) e.kids w).1))/\LR (lwR l pr V nx) L (lwA (faI l) (rgV vs) e.kids w).2 I h h':=by
 have hc:=e.cs_eq
 have hzz:=e.sz_eq
 have hac:=a.cs_eq
 have hbc:=b.cs_eq
 have hkz:aS e.kids=a.sz+b.sz:=by rw[hk];simp[aS]
 obtain⟨E,hE⟩:∃E,E=h.length::vi V:=⟨_,rfl⟩
 have hkx:exL e.kids= .lst 4 [[.int .i64 a.op,.int .i64 a.n,.str a.name,exL a.kids],[.int .i64 b.op,.int .i64 b.n,.str b.name,exL b.kids]]:=by rw[hk,←hac,←hbc];rfl
 obtain⟨bo,hbo⟩:∃bo,bo=AO.row 4 [[.p (.int .i64 e.op),.p (.int .i64 e.n),.p (.str e.name),.p (exL e.kids)]]:=⟨_,rfl⟩
 have hS0:Stg (lwR l pr V nx) L I E h (h++[bo]) w (h++[bo]) K I:=Stg.of H [bo] (λi hi=>by
  rw[hE] at hi
  rcases List.mem_cons.1 hi with rfl|hi
  ·refine⟨by simp,?_⟩
   simp only[List.mem_cons,not_or]
   exact⟨by have:=H.lt;omega,λhm=>by have:=H.own.lt hm;omega⟩
  ·exact⟨by have:=hV.lt i hi;simp;omega,hVd i hi⟩)
 have hb0:(h++[bo])[h.length]?=some bo:=by simp
 have kE:∀{w2:Lw} {X:List AO} {K2:AV} {I2:List Nat},Stg (lwR l pr V nx) L I E h (h++[bo]) w2 X K2 I2->X[h.length]?=some bo/\VAt X V vs/\(∀i∈vi V,i∉L::I2):=λ{w2 X K2 I2} S=>⟨(S.keep _ (by rw[hE];simp)).trans hb0,(hV.more [bo]).frame λi hi=>S.keep i (by rw[hE];simp[hi]),λi hi=>(S.ap i (by rw[hE];simp[hi])).2⟩
 rw[hk,lwA]
 rw[hkx] at hbo
 subst hbo
 have h1c:=ha w _ K I B hS0.ls hok (by omega) (kE hS0).2.1 (kE hS0).2.2
 obtain⟨ok1,len1⟩:=nK (faI l) (rgV vs) a w B hok
 generalize lwE (faI l) (rgV vs) a w=x1 at*
 obtain⟨t,ht⟩:∃t,t=x1.2.bs.length:=⟨_,rfl⟩
 simp only[Lw.mk'_len,←ht]
 rw[hac] at h1c
 rw[hc]
 refine AC.go pC ?_
 simp-implicitDefEqProofs[-AV.cells,-AV.isCell,aE,ag,ah,am,aj,aD,af,an,al,ju,hkx]
 refine h1c.mono ?_
 rintro x X1 ⟨rfl,hlr⟩
 obtain⟨K1,I1,S1⟩:=hS0.step (J:=[]) (λj hj=>by cases hj) (by rw[List.append_nil];exact hlr)
 simp-implicitDefEqProofs[-AV.cells,-AV.isCell,aE,ag,ah,am,aj,aD,af,an,al,aa]
 have ok2:=ok1.reg
 refine(jH G S1.ls (by have:=ok1.regs;omega)).mono ?_
 rintro x X2 ⟨rfl,hlr⟩
 obtain⟨K2,I2,S2⟩:=S1.step (J:=[]) (λj hj=>by cases hj) (by rw[List.append_nil];exact hlr)
 simp-implicitDefEqProofs[-AV.cells,-AV.isCell,aE,ag,ah,am,aj,aD,af,an,al,aa]
 obtain⟨f1,f2⟩:=S2.fresh
 have hm2:=nJ G (S2.ls.more [.row 1 (([]:List Int).map λn=>[AV.p (.int .i64 n)])]) ok2 (by omega) ⟨1,x1.2.regs,[],0⟩ (gk X2 ([]:List Int) rfl) (by simp) f2
 simp only[List.map_cons,List.map_nil,List.length_cons,List.length_nil] at hm2
 refine hm2.mono ?_
 rintro x X3 ⟨rfl,hlr⟩
 obtain⟨K3,I3,S3⟩:=(S2.more _).step f1 hlr
 have ok3:=ok2.put ⟨1,x1.2.regs,[],0⟩
 have hl3:(x1.2.reg.put ⟨1,x1.2.regs,[],0⟩).bs.length=t:=by rw[Lw.put_len];exact ht.symm
 simp-implicitDefEqProofs[-AV.cells,-AV.isCell,aE,ag,ah,am,aj,aD,af,an,al,aa,hl3]
 refine(tT G S3.ls ok3 (by omega) ⟨(kE S3).2.1.is.1,(kE S3).2.1.is.2.1⟩).mono ?_
 rintro x X4 ⟨rfl,hlr⟩
 obtain⟨K4,I4,S4⟩:=S3.step (J:=[]) (λj hj=>by cases hj) (by rw[List.append_nil];exact hlr)
 have ok4:=ok3.name 1
 simp-implicitDefEqProofs[-AV.cells,-AV.isCell,aE,ag,ah,am,aj,aD,af,an,al,aa,hl3]
 refine(tT G S4.ls ok4 (by omega) ⟨(kE S4).2.1.is.1,(kE S4).2.1.is.2.1⟩).mono ?_
 rintro x X5 ⟨rfl,hlr⟩
 obtain⟨K5,I5,S5⟩:=S4.step (J:=[]) (λj hj=>by cases hj) (by rw[List.append_nil];exact hlr)
 have ok5:=ok3.name 2
 have hnn:((x1.2.reg.put ⟨1,x1.2.regs,[],0⟩).name 1).name 1=(x1.2.mk' 1 0 []).name 2:=Lw.name_name _ 1 1
 have hl4:((x1.2.reg.put ⟨1,x1.2.regs,[],0⟩).name 1).bs.length=t+1:=by rw[Lw.name_len,hl3]
 rw[hnn] at S5
 have ok5:((x1.2.mk' 1 0 []).name 2).Ok _:=ok5
 simp-implicitDefEqProofs[-AV.cells,-AV.isCell,aE,ag,ah,am,aj,aD,af,an,al,aa,hl3,hl4]
 obtain⟨f1,f2⟩:=S5.fresh
 have hm5:=mi G (S5.ls.more [.row 1 ([(t:Int),(t:Int)+1].map λn=>[AV.p (.int .i64 n)])]) ok5 2 x1.1 t [(t:Int),(t:Int)+1] (gk X5 [(t:Int),(t:Int)+1] rfl) (by simp) f2
 simp only[List.map_cons,List.map_nil,List.length_cons,List.length_nil] at hm5
 refine hm5.mono ?_
 rintro x X6 ⟨rfl,hlr⟩
 obtain⟨K6,I6,S6⟩:=(S5.more _).step f1 hlr
 have ok6:=ok5.fin 2 x1.1 (g:=t) (by simp only[Lw.name_len,Lw.mk'_len,←ht];omega) [(t:Int),(t:Int)+1]
 obtain⟨y0,yV,yd⟩:=kE S6
 have h2c:=hb _ X6 K6 I6 _ S6.ls ok6 (by omega) yV yd
 obtain⟨ok7,len7⟩:=nK (faI l) (rgV vs) b _ _ ok6
 generalize lwE (faI l) (rgV vs) b (((x1.2.mk' 1 0 []).name 2).fin 2 x1.1 t [(t:Int),(t:Int)+1])=x2 at*
 rw[hbc] at h2c
 simp-implicitDefEqProofs[-AV.cells,-AV.isCell,aE,ag,ah,am,aj,aD,af,an,al,aa,y0]
 refine h2c.mono ?_
 rintro x X7 ⟨rfl,hlr⟩
 obtain⟨K7,I7,S7⟩:=S6.step (J:=[]) (λj hj=>by cases hj) (by rw[List.append_nil];exact hlr)
 simp-implicitDefEqProofs[-AV.cells,-AV.isCell,aE,ag,ah,am,aj,aD,af,an,al,aa]
 refine(jH G S7.ls (by have:=ok7.regs;omega)).mono ?_
 rintro x X8 ⟨rfl,hlr⟩
 obtain⟨K8,I8,S8⟩:=S7.step (J:=[]) (λj hj=>by cases hj) (by rw[List.append_nil];exact hlr)
 have ok8:=ok7.reg
 simp-implicitDefEqProofs[-AV.cells,-AV.isCell,aE,ag,ah,am,aj,aD,af,an,al,aa]
 obtain⟨f1,f2⟩:=S8.fresh
 have hm8:=nJ G (S8.ls.more [.row 1 ([x2.1].map λn=>[AV.p (.int .i64 n)])]) ok8 (by omega) ⟨10,x2.2.regs,[x2.1],0⟩ (gk X8 [x2.1] rfl) (by simp) f2
 simp only[List.map_cons,List.map_nil,List.length_cons,List.length_nil] at hm8
 refine hm8.mono ?_
 rintro x X9 ⟨rfl,hlr⟩
 obtain⟨K9,I9,S9⟩:=(S8.more _).step f1 hlr
 have ok9:=ok8.put ⟨10,x2.2.regs,[x2.1],0⟩
 simp-implicitDefEqProofs[-AV.cells,-AV.isCell,aE,ag,ah,am,aj,aD,af,an,al,aa]
 obtain⟨f1,f2⟩:=S9.fresh
 have hm9:=nJ G (S9.ls.more [.row 1 ([(x2.2.regs:Int)].map λn=>[AV.p (.int .i64 n)])]) ok9 (by omega) ⟨10,x1.2.regs,[(x2.2.regs:Int)],0⟩ (gk X9 [(x2.2.regs:Int)] rfl) (by simp) f2
 simp only[List.map_cons,List.map_nil,List.length_cons,List.length_nil] at hm9
 refine hm9.mono ?_
 rintro x X10 ⟨rfl,hlr⟩
 obtain⟨K10,I10,S10⟩:=(S9.more _).step f1 hlr
 have ok10:=ok9.put ⟨10,x1.2.regs,[(x2.2.regs:Int)],0⟩
 simp-implicitDefEqProofs[-AV.cells,-AV.isCell,aE,ag,ah,am,aj,aD,af,an,al,aa]
 obtain⟨f1,f2⟩:=S10.fresh
 have hm10:=mi G (S10.ls.more [.row 1 ([(t:Int)+1].map λn=>[AV.p (.int .i64 n)])]) ok10 1 0 (t+1) [(t:Int)+1] (gk X10 [(t:Int)+1] rfl) (by simp) f2
 simp only[List.map_cons,List.map_nil,List.length_cons,List.length_nil] at hm10
 rw[show((t+1:Nat):Int)=(t:Int)+1 by omega] at hm10
 refine hm10.mono ?_
 rintro x X11 ⟨rfl,hlr⟩
 obtain⟨K11,I11,S11⟩:=(S10.more _).step f1 hlr
 simp-implicitDefEqProofs[-AV.cells,-AV.isCell,aE,ag,ah,am,aj,aD,af,an,al,aa]
 exact S11.lr
theorem DE(l:List Fd)(hl:l.length<=1073741824)(pr:Int)(L:Nat)(V:AV)(nx:Nat)(vs:Vs)(hvl:vs.length<=1073741824):∀(d:Nat) (e:Ex),bU d e=true->ExR G l pr L V nx vs e:=by
 intro d
 induction d with
 |zero=>intro e h;cases h
 |succ d ih=>
 intro e hf w h K I B H hok hB hV hVd
 have hc:=e.cs_eq
 have hzz:=e.sz_eq
 have hLl:=H.lt
 have hxl:∀l,exL l= .lst 4 (l.map Ex.cs):=λ_=>rfl
 obtain⟨v1,v2,v3⟩:=hV.is
 obtain⟨E,hE⟩:∃E,E=h.length::vi V:=⟨_,rfl⟩
 obtain⟨bo,hbo⟩:∃bo,bo=AO.row 4 [[.p (.int .i64 e.op),.p (.int .i64 e.n),.p (.str e.name),.p (exL e.kids)]]:=⟨_,rfl⟩
 have hS0:Stg (lwR l pr V nx) L I E h (h++[bo]) w (h++[bo]) K I:=Stg.of H [bo] (λi hi=>by
  rw[hE] at hi
  rcases List.mem_cons.1 hi with rfl|hi
  ·refine⟨by simp,?_⟩
   simp only[List.mem_cons,not_or]
   exact⟨by have:=H.lt;omega,λhm=>by have:=H.own.lt hm;omega⟩
  ·exact⟨by have:=hV.lt i hi;simp;omega,hVd i hi⟩)
 have hb0:(h++[bo])[h.length]?=some bo:=by simp
 have kE:∀{w2:Lw} {X:List AO} {K2:AV} {I2:List Nat},Stg (lwR l pr V nx) L I E h (h++[bo]) w2 X K2 I2->X[h.length]?=some bo/\VAt X V vs/\(∀i∈vi V,i∉L::I2):=λ{w2 X K2 I2} S=>⟨(S.keep _ (by rw[hE];simp)).trans hb0,(hV.more [bo]).frame λi hi=>S.keep i (by rw[hE];simp[hi]),λi hi=>(S.ap i (by rw[hE];simp[hi])).2⟩
 have lp:∀{w2:Lw} {X:List AO} {K2:AV} {I2:List Nat},Stg (lwR l pr V nx) L I E h (h++[bo]) w2 X K2 I2->∀t,(X++t)[L]?=some (lwR l pr V nx w2 K2):=λS t=>by rw[List.getElem?_append_left S.ls.lt];exact S.ls.here
 have hfE:=KN (faI l) (rgV vs) e w
 refine AC.go oO ?_
 rw[hc]
 by_cases o1:e.op=1
 ·rw[if_pos o1] at hfE
  rw[hfE]
  rw[o1] at hbo
  have hF:=jH G hS0.ls (by have:=hok.regs;omega)
  have h0:∀t,(h++[bo]++t)[h.length]?=some bo:=λt=>by simp
  simp-implicitDefEqProofs[-AV.cells,-AV.isCell,aE,ag,ah,am,aj,aD,af,an,al,bZ,o1]
  rw[←hbo]
  refine hF.mono ?_
  rintro x X1 ⟨rfl,hlr⟩
  obtain⟨K1,I1,S1⟩:=hS0.step (J:=[]) (λj hj=>by cases hj) (by rw[List.append_nil];exact hlr)
  have ok1:=hok.reg
  have y0:=(kE S1).1
  rw[hbo] at y0
  simp-implicitDefEqProofs[-AV.cells,-AV.isCell,aE,ag,ah,am,aj,aD,af,an,al,aa,y0]
  refine(nJ G S1.ls ok1 (by omega) ⟨1,w.regs,[],e.n⟩ (A:= .p (aC [])) (J:=[]) (.p _ (λh=>by cases h) .nil) List.nodup_nil (λj hj=>by cases hj)).mono ?_
  rintro x X2 ⟨rfl,hlr⟩
  obtain⟨K2,I2,S2⟩:=S1.step (J:=[]) (λj hj=>by cases hj) hlr
  simp-implicitDefEqProofs[aa]
  exact S2.lr
 by_cases o2:e.op=2
 ·rw[if_neg o1,if_pos o2] at hfE
  rw[hfE]
  rw[o2] at hbo
  have hF:=Fb G hS0.ls.here (hV.more [bo]) hvl e.name
  simp-implicitDefEqProofs[-AV.cells,-AV.isCell,aE,ag,ah,am,aj,aD,af,an,al,bZ,o1,o2]
  rw[←hbo]
  refine hF.mono ?_
  rintro x h1 ⟨rfl,rfl⟩
  simp-implicitDefEqProofs[aa]
  exact hS0.lr
 by_cases o10:e.op=10
 ·rw[if_neg o1,if_neg o2,if_pos o10] at hfE
  rw[hfE]
  obtain⟨a,b,hk⟩:=EI hf o10
  have hF:=Kq G hk (ih a (nM hf (by rw[hk];simp))) (ih b (nM hf (by rw[hk];simp))) hS0.ls hok hB (kE hS0).2.1 (kE hS0).2.2
  rw[hc] at hF
  rw[o10] at hbo hF
  simp-implicitDefEqProofs[-AV.cells,-AV.isCell,aE,ag,ah,am,aj,aD,af,an,al,bZ,o1,o2,o10]
  rw[←hbo]
  refine hF.mono ?_
  rintro x X1 ⟨rfl,hlr⟩
  obtain⟨K1,I1,S1⟩:=hS0.step (J:=[]) (λj hj=>by cases hj) (by rw[List.append_nil];exact hlr)
  simp-implicitDefEqProofs[aa]
  exact S1.lr
 rw[if_neg o1,if_neg o2,if_neg o10] at hfE
 have hal:=fI e.kids
 have hbl:(h++[bo]).length=h.length+1:=by simp
 simp-implicitDefEqProofs[-AV.cells,-AV.isCell,aE,ag,ah,am,aj,aD,af,an,al,bZ,o1,o2,o10,hxl]
 refine JK 1 (λts' X=>∃oid K1 I1,Stg (lwR l pr V nx) L I E h (h++[bo]) (bF (faI l) (rgV vs) e.kids w).2 X K1 I1/\X[oid]?=some (rW (bF (faI l) (rgV vs) e.kids w).1)/\h.length<oid/\oid∉E/\oid∉L::I1/\∃z,ts'=aw 84 ((34,z)::(33,.p (.int .i64 e.kids.length))::(32,.p (.lst 4 (e.kids.map Ex.cs)))::(31,.ptr h.length 4 0 3)::(30,.p (.int .i64 e.kids.length))::[(5,.sl oid 1 0 e.kids.length),(6,.p (.int .i64 e.kids.length)),(3,.ptr h.length 4 0 0),(0,.ptr L 8 0 0)])) (λQ' qE=>?_) ?_
 ·clear hfE
  rw[hxl] at hbo
  have S00:Stg (lwR l pr V nx) L I E h (h++[bo]) w (h++[bo]++[.row 1 []]) K I:=hS0.more _
  have e0:h++[bo]++[AO.row 1 []]=h++[bo,.row 1 []]:=by simp
  rw[e0] at S00
  have hvE:h.length+1∉E:=λhm=>by have:=(hS0.ap _ hm).1;simp at this
  refine aH (λa:MpQ=>aw 84 [(5,.sl a.o 1 0 a.i),(6,.p (.int .i64 a.i)),(3,.ptr h.length 4 0 0),(0,.ptr L 8 0 0)]) (λa=>a.X)
   (λa=>a.i<=e.kids.length/\∃K1 I1,Stg (lwR l pr V nx) L I E h (h++[bo]) (bF (faI l) (rgV vs) (e.kids.take a.i) w).2 a.X K1 I1/\a.X[a.o]?=some (rW (bF (faI l) (rgV vs) (e.kids.take a.i) w).1)/\h.length<a.o/\a.o∉E/\a.o∉L::I1) (λa=>e.kids.length-a.i) ⟨0,h++[bo,.row 1 []],h.length+1⟩ ⟨Nat.zero_le _,K,I,by rw[List.take_zero,bF];exact S00,by rw[List.take_zero,bF,←e0,List.getElem?_append_right (by simp)];simp[rW],by simp,hvE,by
     simp only[List.mem_cons,not_or]
     exact⟨by omega,λhm=>by have:=H.own.lt hm;omega⟩⟩ ?_ ?_
  ·rw[hbo]
   exact ab (by simp) (by simp[below];omega)
  rintro⟨i,X,o⟩ ⟨hi,K1,I1,S,hx,ho,hoE,hoI⟩
  simp only at hi S hx ho hoE hoI
  have hXl:=S.fr.1
  have hXL:=S.ls.lt
  have hox:o<X.length:=(List.getElem?_eq_some_iff.1 hx).1
  have hlen:(bF (faI l) (rgV vs) (e.kids.take i) w).1.length=i:=by rw[gU,List.length_take];omega
  obtain⟨y0,yV,yd⟩:=kE S
  rw[hbo] at y0
  have hbX:h.length<X.length:=(List.getElem?_eq_some_iff.1 y0).1
  simp-implicitDefEqProofs[y0]
  refine aF (λhc1=>?_) (λhc1=>?_)
  ·simp at hc1
   have hg:=List.getElem?_eq_getElem hc1
   have hm:=List.getElem_mem hc1
   have htk:=vY (fa:=faI l) (sc:=rgV vs) hc1 w
   have hok1:=(kr (faI l) (rgV vs) (e.kids.take i) w B hok).1
   have hzt:aS (e.kids.take i)+e.kids[i].sz<=aS e.kids:=by
    have h1:=List.take_append_drop (i+1) e.kids
    have h2:aS e.kids=aS (e.kids.take (i+1))+aS (e.kids.drop (i+1)):=by
     conv=>lhs;rw[←h1]
     rw[dX]
    rw[ay hc1,dX] at h2
    simp only[aS] at h2
    omega
   have hcall:=ih e.kids[i] (nM hf hm) _ _ K1 I1 _ S.ls hok1 (by omega) yV yd
   generalize e.kids[i]=k at*
   have hkc:=k.cs_eq
   generalize bF (faI l) (rgV vs) (e.kids.take i) w=cur at*
   obtain⟨out,w1⟩:=cur
   simp only at htk hcall hok1 S hx hlen
   rw[hkc] at hcall
   simp-implicitDefEqProofs[-AV.cells,-AV.isCell,aE,ag,ah,am,aj,aD,af,an,al,y0,hg,hkc]
   refine hcall.mono ?_
   rintro r X2 ⟨rfl,hlr⟩
   have hl2:X.length<=X2.length:=by obtain⟨_,_,_,a,_⟩:=hlr;exact a.1
   have hx2:X2[o]?=some (rW out):=by
    obtain⟨_,_,_,a,_⟩:=hlr
    rw[a.2 o hox hoI];exact hx
   have hE2:∀j∈o::E,j<X.length/\j∉L::I1:=λj hj=>by
    rcases List.mem_cons.1 hj with rfl|hj
    ·exact⟨hox,hoI⟩
    ·exact S.ap j hj
   obtain⟨K2,I2,S2o⟩:=(show Stg (lwR l pr V nx) L I (o::E) h X w1 X K1 I1 from⟨S.ls,S.fr,S.sub,λ_ _=>rfl,hE2,Nat.le_refl _⟩).step (J:=[]) (λj hj=>by cases hj) (by rw[List.append_nil];exact hlr)
   have hoI2:o∉L::I2:=(S2o.ap o (by simp)).2
   have S2:Stg (lwR l pr V nx) L I E h (h++[bo]) _ X2 K2 I2:=⟨S2o.ls,S2o.fr,S2o.sub,λj hj=>(S2o.keep j (by simp[hj])).trans (S.keep j hj),λj hj=>S2o.ap j (by simp[hj]),Nat.le_trans S.ge hl2⟩
   have hx2':∀t,(X2++t)[o]?=some (.row 1 (out.map λn=>[AV.p (.int .i64 n)])):=λt=>by rw[List.getElem?_append_left (by omega)];exact hx2
   have hot:List.take i (out.map λn=>[AV.p (.int .i64 n)])=out.map λn=>[AV.p (.int .i64 n)]:=List.take_of_length_le (by simp;omega)
   simp-implicitDefEqProofs[-AV.cells,-AV.isCell,aE,ag,ah,am,aj,aD,af,an,al,aa,hx2',hlen,hot]
   refine⟨by omega,⟨i+1,_,X2.length+1⟩,⟨by simp only;omega,K2,I2,by
    rw[htk]
    exact S2.upd (oid:=o) (by simp;omega) (λj hj hn=>by rw[List.getElem?_append_left (by simp;omega),List.getElem?_set_ne (Ne.symm hn),List.getElem?_append_left hj]) (by omega) hoE hoI2,?_,by simp only;omega,λhm=>by have:=(S2.ap _ hm).1;simp only at this;omega,?_⟩,by simp only;omega,ab (by simp;omega) ?_⟩
   ·rw[htk,List.getElem?_append_right (by simp)];simp[rW]
   ·simp only[List.mem_cons,not_or]
    exact⟨by have:=S2.ls.lt;omega,λhm=>by have:=S2.ls.own.lt hm;omega⟩
   ·simp[below,show IntKind.i64.wrap ((i:Int)+1)=(i:Int)+1 from ae (by omega) (by omega)]
    omega
  ·simp at hc1
   have hie:i=e.kids.length:=by omega
   subst hie
   rw[List.take_length] at S hx hlen
   simp-implicitDefEqProofs[]
   exact qE _ _ ⟨o,K1,I1,S,hx,ho,hoE,hoI,_,rfl⟩
 ·rintro ts' X ⟨oid,K1,I1,S,hx,ho,hoE,hoI,z,rfl⟩
  obtain⟨y0,yV,yd⟩:=kE S
  rw[hbo] at y0
  obtain⟨okM,lenM⟩:=kr (faI l) (rgV vs) e.kids w B hok
  have hlm:=gU (faI l) (rgV vs) e.kids w
  rw[hfE]
  generalize bF (faI l) (rgV vs) e.kids w=m at*
  have hA:OwnL false X [.sl oid 1 0 e.kids.length] [aC m.1] [oid]:=tq hx hlm.symm
  have hJE:∀j∈[oid],h.length<=j/\j∉E:=λj hj=>by rw[List.mem_singleton.1 hj];exact⟨by omega,hoE⟩
  have hF:AC Tryz.prog G bv [.ptr L 8 0 0] X λx X1=>x= .ret (.p (.int .i64 m.2.regs))/\X1[h.length]?=some bo/\(∃K2,X1[L]?=some (lwR l pr V nx m.2.reg K2))/\∀q,AC Tryz.prog G bR [.ptr L 8 0 0,.p (.int .i64 (mz e.op)),.p (.int .i64 m.2.regs),.p (.int .i64 q),.sl oid 1 0 e.kids.length] X1 λx X2=>x= .ret (.p (.int .i64 m.2.regs))/\LR (lwR l pr V nx) L (m.2.mk' (mz e.op) q m.1) I h X2:=by
   refine(jH G S.ls (by have:=okM.regs;omega)).mono ?_
   rintro x X1 ⟨rfl,hlr⟩
   have S1:Stg (lwR l pr V nx) L I (oid::E) h X m.2 X K1 I1:=⟨S.ls,S.fr,S.sub,λ_ _=>rfl,λj hj=>by
    rcases List.mem_cons.1 hj with rfl|hj
    ·exact⟨(List.getElem?_eq_some_iff.1 hx).1,hoI⟩
    ·exact S.ap j hj,Nat.le_refl _⟩
   obtain⟨K2,I2,S2⟩:=S1.step (J:=[]) (λj hj=>by cases hj) (by rw[List.append_nil];exact hlr)
   refine⟨rfl,by rw[S2.keep h.length (by rw[hE];simp),y0,←hbo],⟨K2,S2.ls.here⟩,λq=>?_⟩
   refine(nJ G S2.ls okM.reg (by omega) ⟨mz e.op,m.2.regs,m.1,q⟩ (hA.frame λj hj=>S2.keep j (by rw[List.mem_singleton.1 hj];simp)) (by simp) (λj hj=>by
    have:=(S2.ap oid (by simp)).2
    rw[List.mem_singleton.1 hj]
    simpa using this)).mono ?_
   rintro x X3 ⟨rfl,hlr⟩
   have S2':Stg (lwR l pr V nx) L I E h X m.2.reg X1 K2 I2:=⟨S2.ls,S2.fr,S2.sub,λj hj=>S2.keep j (by simp[hj]),λj hj=>S2.ap j (by simp[hj]),S2.ge⟩
   obtain⟨K3,I3,S3⟩:=S2'.step hJE hlr
   exact⟨rfl,S3.lr⟩
  simp-implicitDefEqProofs[-AV.cells,-AV.isCell,aE,ag,ah,am,aj,aD,af,an,al,y0,hbo]
  refine aF (λc11=>?_) (λc11=>?_)
  ·have c11:e.op=11:=by simpa using c11
   have hq:(if e.op=13 then faI l e.name else 0)=0:=if_neg (by omega)
   rw[hq]
   rw[show mz e.op=10 by rw[c11];rfl] at hF⊢
   simp-implicitDefEqProofs[-AV.cells,-AV.isCell,aE,ag,ah,am,aj,aD,af,an,al]
   refine hF.mono ?_
   rintro x X1 ⟨rfl,y1,⟨K2,yL2⟩,hP⟩
   simp-implicitDefEqProofs[-AV.cells,-AV.isCell,aE,ag,ah,am,aj,aD,af,an,al,aa]
   refine(hP 0).mono ?_
   rintro x X2 ⟨rfl,hlr⟩
   simp-implicitDefEqProofs[aa]
   exact hlr
  have c11:¬e.op=11:=by simpa using c11
  simp-implicitDefEqProofs[-AV.cells,-AV.isCell,aE,ag,ah,am,aj,aD,af,an,al]
  refine aF (λc12=>?_) (λc12=>?_)
  ·have c12:e.op=12:=by simpa using c12
   have hq:(if e.op=13 then faI l e.name else 0)=0:=if_neg (by omega)
   rw[hq]
   rw[show mz e.op=11 by rw[c12];rfl] at hF⊢
   simp-implicitDefEqProofs[-AV.cells,-AV.isCell,aE,ag,ah,am,aj,aD,af,an,al]
   refine hF.mono ?_
   rintro x X1 ⟨rfl,y1,⟨K2,yL2⟩,hP⟩
   simp-implicitDefEqProofs[-AV.cells,-AV.isCell,aE,ag,ah,am,aj,aD,af,an,al,aa]
   refine(hP 0).mono ?_
   rintro x X2 ⟨rfl,hlr⟩
   simp-implicitDefEqProofs[aa]
   exact hlr
  have c12:¬e.op=12:=by simpa using c12
  simp-implicitDefEqProofs[-AV.cells,-AV.isCell,aE,ag,ah,am,aj,aD,af,an,al]
  have yL:=S.ls.here
  simp only[lwR] at yL
  refine aF (λc13=>?_) (λc13=>?_)
  ·have c13:e.op=13:=by simpa using c13
   have hq:(if e.op=13 then faI l e.name else 0)=ixI (uT l e.name):=by rw[if_pos c13,KZ]
   rw[hq]
   rw[show mz e.op=14 by rw[c13];rfl] at hF⊢
   simp-implicitDefEqProofs[-AV.cells,-AV.isCell,aE,ag,ah,am,aj,aD,af,an,al,y0,yL]
   refine hF.mono ?_
   rintro x X1 ⟨rfl,y1,⟨K2,yL2⟩,hP⟩
   rw[hbo] at y1
   simp only[lwR] at yL2
   simp-implicitDefEqProofs[-AV.cells,-AV.isCell,aE,ag,ah,am,aj,aD,af,an,al,aa,y1,yL2]
   refine((Kv G l e.name (by omega)).ac (by simp[below]) (by simp[below]) _).mono ?_
   rintro x X1' ⟨rfl,rfl⟩
   simp-implicitDefEqProofs[-AV.cells,-AV.isCell,aE,ag,ah,am,aj,aD,af,an,al,aa,y1,yL2]
   refine(hP _).mono ?_
   rintro x X2 ⟨rfl,hlr⟩
   simp-implicitDefEqProofs[aa]
   exact hlr
  ·have c13:¬e.op=13:=by simpa using c13
   have hq:(if e.op=13 then faI l e.name else 0)=0:=if_neg c13
   rw[hq]
   rw[show mz e.op=e.op by rw[mz,if_neg c11,if_neg c12,if_neg c13]] at hF⊢
   simp-implicitDefEqProofs[-AV.cells,-AV.isCell,aE,ag,ah,am,aj,aD,af,an,al,y0,yL]
   refine hF.mono ?_
   rintro x X1 ⟨rfl,y1,⟨K2,yL2⟩,hP⟩
   rw[hbo] at y1
   simp-implicitDefEqProofs[-AV.cells,-AV.isCell,aE,ag,ah,am,aj,aD,af,an,al,aa,y1]
   refine(hP 0).mono ?_
   rintro x X2 ⟨rfl,hlr⟩
   simp-implicitDefEqProofs[aa]
   exact hlr
end
section
structure RS (l:List Fd) (pr:Int) (L:Nat) (S I0 E:List Nat) (h:List AO) (w:Lw) (nx:Nat) (vs:Vs) (X:List AO) (K V:AV) (I:List Nat):Prop where
 stb:Stb (lwR l pr V nx) L S I0 (vi V++E) h w X K I
 va:VAt X V vs
 vE:∀i∈vi V,i∉E/\(i∈S\/h.length<=i)
section
variable {l:List Fd} {pr:Int} {L:Nat} {S I0 E E2:List Nat} {h:List AO} {w w2:Lw} {nx nx2:Nat} {vs vs2:Vs} {X X2:List AO} {K K2 V V2:AV} {I I2 J:List Nat}
theorem RS.more(T:RS l pr L S I0 E h w nx vs X K V I)(os:List AO):RS l pr L S I0 E h w nx vs (X++os) K V I:=⟨T.stb.more os,T.va.more os,T.vE⟩
theorem RS.few(T:RS l pr L S I0 E h w nx vs X K V I)(hE:∀i∈E2,i∈E):RS l pr L S I0 E2 h w nx vs X K V I:=
 ⟨⟨T.stb.ls,T.stb.fr,T.stb.hL,T.stb.hS,T.stb.sub,λi hi=>T.stb.ap i (by
   rcases List.mem_append.1 hi with h|h
   ·exact List.mem_append.2 (.inl h)
   ·exact List.mem_append.2 (.inr (hE i h)))⟩,T.va,λi hi=>⟨λh=>(T.vE i hi).1 (hE i h),(T.vE i hi).2⟩⟩
theorem RS.add(T:RS l pr L S I0 E h w nx vs X K V I){j:Nat}(h1:j<X.length)(h2:j∉L::I)(h3:j∉vi V):RS l pr L S I0 (j::E) h w nx vs X K V I:=
 ⟨⟨T.stb.ls,T.stb.fr,T.stb.hL,T.stb.hS,T.stb.sub,λi hi=>by
   rcases List.mem_append.1 hi with h|h
   ·exact T.stb.ap i (List.mem_append.2 (.inl h))
   ·rcases List.mem_cons.1 h with rfl|h
    ·exact⟨h1,h2⟩
    ·exact T.stb.ap i (List.mem_append.2 (.inr h))⟩,T.va,λi hi=>⟨λh=>by
   rcases List.mem_cons.1 h with rfl|h
   ·exact h3 hi
   ·exact(T.vE i hi).1 h,(T.vE i hi).2⟩⟩
theorem RS.box(T:RS l pr L S I0 E h w nx vs X K V I)(o:AO):RS l pr L S I0 (X.length::E) h w nx vs (X++[o]) K V I:=
 (T.more [o]).add (by simp) (by
   simp only[List.mem_cons,not_or]
   exact⟨by have:=T.stb.ls.lt;omega,λhm=>by have:=T.stb.ls.own.lt hm;omega⟩) (λhm=>by have:=T.va.lt _ hm;omega)
theorem RS.start(T:RS l pr L S I0 E h w nx vs X K V I):RS l pr L (L::(vi V++I)) I [] X w nx vs X K V I:=
 ⟨⟨T.stb.ls,Frm.refl _ _,by simp,λj hj=>by simp[hj],λj hj=> .inl hj,λi hi=>T.stb.ap i (by rw[List.append_nil] at hi;exact List.mem_append.2 (.inl hi))⟩,T.va,λi hi=>⟨by simp,.inl (by simp[hi])⟩⟩
theorem RS.of(H:LS (lwR l pr V nx) L w h K I)(hV:VAt h V vs)(hVd:∀i∈vi V,i∉L::I):RS l pr L (L::(vi V++I)) I [] h w nx vs h K V I:=
 ⟨⟨H,Frm.refl _ _,by simp,λj hj=>by simp[hj],λj hj=> .inl hj,λi hi=>by rw[List.append_nil] at hi;exact⟨hV.lt i hi,hVd i hi⟩⟩,hV,λi hi=>⟨by simp,.inl (by simp[hi])⟩⟩
theorem RS.at(T:RS l pr L S I0 E h w nx vs X K V I):(∀i∈E,i<X.length/\i∉L::I)/\(∀i∈vi V,i<X.length/\i∉L::I):=
 ⟨λi hi=>T.stb.ap i (by simp[hi]),λi hi=>T.stb.ap i (by simp[hi])⟩
theorem RS.fresh(T:RS l pr L S I0 E h w nx vs X K V I):(∀j∈[X.length],h.length<=j/\j∉vi V++E)/\(∀j∈[X.length],j≠L/\j∉I):=T.stb.fresh
theorem RS.step(T:RS l pr L S I0 E h w nx vs X K V I)(hJ:∀j∈J,h.length<=j/\j∉vi V++E)(H:LR (lwR l pr V nx) L w2 (I++J) X X2):∃K2 I2,RS l pr L S I0 E h w2 nx vs X2 K2 V I2/\∀i∈E,X2[i]?=X[i]?:=by
 obtain⟨K2,I2,a1,a2⟩:=T.stb.step hJ H
 exact⟨K2,I2,⟨a1,T.va.frame λi hi=>a2 i (by simp[hi]),T.vE⟩,λi hi=>a2 i (by simp[hi])⟩
theorem RS.lift(T:RS l pr L S I0 E h w nx vs X K V I)(T2:RS l pr L (L::(vi V++I)) I [] X w2 nx2 vs2 X2 K2 V2 I2):RS l pr L S I0 E h w2 nx2 vs2 X2 K2 V2 I2/\∀i∈E,X2[i]?=X[i]?:=by
 have hX:=T.stb.fr.1
 have hX2:=T2.stb.fr.1
 refine⟨⟨⟨T2.stb.ls,T.stb.fr.trans T2.stb.fr λj hj=>?_,T.stb.hL,T.stb.hS,λj hj=>?_,λi hi=>?_⟩,T2.va,λi hi=>⟨λhE=>?_,?_⟩⟩,λi hi=>?_⟩
 ·simp only[List.mem_cons,List.mem_append] at hj
  rcases hj with rfl|hj|hj
  ·exact .inl T.stb.hL
  ·exact(T.vE j hj).2
  ·rcases T.stb.sub j hj with h|h
   ·exact .inl (T.stb.hS j h)
   ·exact .inr h
 ·rcases T2.stb.sub j hj with h|h
  ·exact T.stb.sub j h
  ·exact .inr (by omega)
 ·rcases List.mem_append.1 hi with h|h
  ·exact T2.stb.ap i (by simp[h])
  ·have h1:=T.at.1 i h
   refine⟨by omega,λhm=>?_⟩
   have h2:=h1.2
   simp only[List.mem_cons,not_or] at h2 hm
   rcases hm with hm|hm
   ·exact h2.1 hm
   ·rcases T2.stb.sub i hm with h|h
    ·exact h2.2 h
    ·omega
 ·have h1:=T.at.1 i hE
  rcases(T2.vE i hi).2 with h|h
  ·simp only[List.mem_cons,List.mem_append] at h
   rcases h with rfl|h|h
   ·exact h1.2 (by simp)
   ·exact(T.vE i h).1 hE
   ·exact h1.2 (by simp[h])
  ·omega
 ·rcases(T2.vE i hi).2 with h|h
  ·simp only[List.mem_cons,List.mem_append] at h
   rcases h with rfl|h|h
   ·exact .inl T.stb.hL
   ·exact(T.vE i h).2
   ·rcases T.stb.sub i h with h|h
    ·exact .inl (T.stb.hS i h)
    ·exact .inr h
  ·exact .inr (by omega)
 ·have h1:=T.at.1 i hi
  have h2:=h1.2
  simp only[List.mem_cons,not_or] at h2
  refine T2.stb.fr.2 i h1.1 ?_
  simp only[List.mem_cons,List.mem_append,not_or]
  exact⟨h2.1,λhm=>(T.vE i hm).1 hi,h2.2⟩
theorem RS.alt(T:RS l pr L S I0 E h w nx vs X K V I)(hX:X.length<=X2.length)(hL:X2[L]?=some (lwR l pr V2 nx2 w K))(e:∀i,i<X.length->i≠L->i∉vi V->X2[i]?=X[i]?)(hv:VAt X2 V2 vs2)(hv2:∀i∈vi V2,i∈vi V\/X.length<=i):RS l pr L S I0 E h w nx2 vs2 X2 K V2 I/\∀i∈E,X2[i]?=X[i]?:=by
 have hXl:=T.stb.fr.1
 have hI:∀i∈I,X2[i]?=X[i]?:=λi hi=>e i (T.stb.ls.own.lt hi) (λe=>(List.nodup_cons.1 T.stb.ls.nd).1 (e▸hi)) λhm=>(T.at.2 i hm).2 (by simp[hi])
 refine⟨⟨⟨⟨hL,T.stb.ls.own.frame hI,T.stb.ls.nd,T.stb.ls.noc.1,λkid n rows eK hg=>?_⟩,T.stb.fr.trans (T:=L::vi V) ⟨hX,λi hi hn=>?_⟩ λj hj=>?_,T.stb.hL,T.stb.hS,T.stb.sub,λi hi=>?_⟩,hv,λi hi=>⟨λhE=>?_,?_⟩⟩,λi hi=>?_⟩
 ·have ho:=T.stb.ls.own
  rw[eK] at ho
  rw[hI kid (ss ho)] at hg
  exact T.stb.ls.noc.2 kid n rows eK hg
 ·simp only[List.mem_cons,not_or] at hn
  exact e i hi hn.1 hn.2
 ·rcases List.mem_cons.1 hj with rfl|hj
  ·exact .inl T.stb.hL
  ·exact(T.vE j hj).2
 ·rcases List.mem_append.1 hi with h|h
  ·refine⟨hv.lt i h,?_⟩
   rcases hv2 i h with h|h
   ·exact(T.at.2 i h).2
   ·simp only[List.mem_cons,not_or]
    exact⟨by have:=T.stb.ls.lt;omega,λhm=>by have:=T.stb.ls.own.lt hm;omega⟩
  ·have:=T.at.1 i h
   exact⟨by omega,this.2⟩
 ·rcases hv2 i hi with h|h
  ·exact(T.vE i h).1 hE
  ·have:=(T.at.1 i hE).1;omega
 ·rcases hv2 i hi with h|h
  ·exact(T.vE i h).2
  ·exact .inr (by omega)
 ·have h1:=T.at.1 i hi
  refine e i h1.1 (λe=>h1.2 (by simp[e])) λhm=>(T.vE i hm).1 hi
theorem VAt.form(H:VAt X V vs):(V= .nils/\vs=[])\/∃vid,V= .sl vid 3 0 vs.length:=by
 cases H with
 |nil=>exact .inl ⟨rfl,rfl⟩
 |sl vid rows _ _ _=>exact .inr ⟨vid,rfl⟩
variable (G:az)
theorem ki(T:RS l pr L S I0 E h w nx vs X K V I){B:Nat}(hok:w.Ok B)(hB:B<=1073741824):
 AC Tryz.prog G bT [.ptr L 8 0 0] X λr h'=>r= .ret (.p (.int .i64 w.bs.length))/\∃K' I',RS l pr L S I0 E h (w.name 1) nx vs h' K' V I'/\∀i∈E,h'[i]?=X[i]?:=
 (tT G T.stb.ls hok hB ⟨T.va.is.1,T.va.is.2.1⟩).mono λr h' ⟨a,b⟩=>⟨a,T.step (J:=[]) (λj hj=>by cases hj) (by rw[List.append_nil];exact b)⟩
theorem sr(T:RS l pr L S I0 E h w nx vs X K V I){B:Nat}(hok:w.Ok B)(j o:Int)(a:Int)(g:Nat){gI:Int}(hg:gI=(g:Int)):
 AC Tryz.prog G bp [.ptr L 8 0 0,.p (.int .i64 j),.p (.int .i64 o),.sl X.length 1 0 1,.p (.int .i64 gI)] (X++[.row 1 [[.p (.int .i64 a)]]]) λr h'=>r= .ret (.tup [])/\∃K' I',RS l pr L S I0 E h (w.fin j o g [a]) nx vs h' K' V I'/\∀i∈E,h'[i]?=X[i]?:=by
 obtain⟨f1,f2⟩:=T.fresh
 have hm:=mi G (T.stb.ls.more [.row 1 ([a].map λn=>[AV.p (.int .i64 n)])]) hok j o g [a] (gk X [a] rfl) (by simp) f2
 simp only[List.map_cons,List.map_nil,List.length_cons,List.length_nil] at hm
 rw[hg]
 refine hm.mono λr h' ⟨e,b⟩=>⟨e,?_⟩
 obtain⟨K2,I2,a1,a2⟩:=(T.more [_]).step f1 b
 exact⟨K2,I2,a1,λi hi=>(a2 i hi).trans (List.getElem?_append_left (T.at.1 i hi).1)⟩
theorem Dk(T:RS l pr L S I0 E h w nx vs X K V I){B:Nat}(hok:w.Ok B)(j o:Int)(a b:Int)(g:Nat){gI:Int}(hg:gI=(g:Int)):
 AC Tryz.prog G bp [.ptr L 8 0 0,.p (.int .i64 j),.p (.int .i64 o),.sl X.length 1 0 2,.p (.int .i64 gI)] (X++[.row 1 [[.p (.int .i64 a)],[.p (.int .i64 b)]]]) λr h'=>r= .ret (.tup [])/\∃K' I',RS l pr L S I0 E h (w.fin j o g [a,b]) nx vs h' K' V I'/\∀i∈E,h'[i]?=X[i]?:=by
 obtain⟨f1,f2⟩:=T.fresh
 have hm:=mi G (T.stb.ls.more [.row 1 ([a,b].map λn=>[AV.p (.int .i64 n)])]) hok j o g [a,b] (gk X [a,b] rfl) (by simp) f2
 simp only[List.map_cons,List.map_nil,List.length_cons,List.length_nil] at hm
 rw[hg]
 refine hm.mono λr h' ⟨e,b⟩=>⟨e,?_⟩
 obtain⟨K2,I2,a1,a2⟩:=(T.more [_]).step f1 b
 exact⟨K2,I2,a1,λi hi=>(a2 i hi).trans (List.getElem?_append_left (T.at.1 i hi).1)⟩
theorem Jc(T:RS l pr L S I0 E h w nx vs X K V I){B:Nat}(hok:w.Ok B)(j o:Int)(g:Nat){gI:Int}(hg:gI=(g:Int)):
 AC Tryz.prog G bp [.ptr L 8 0 0,.p (.int .i64 j),.p (.int .i64 o),.p (aC []),.p (.int .i64 gI)] X λr h'=>r= .ret (.tup [])/\∃K' I',RS l pr L S I0 E h (w.fin j o g []) nx vs h' K' V I'/\∀i∈E,h'[i]?=X[i]?:=by
 rw[hg]
 exact(mi G T.stb.ls hok j o g [] (Y:= .p (aC [])) (J:=[]) (.p _ (λh=>by cases h) .nil) List.nodup_nil (λj hj=>by cases hj)).mono λr h' ⟨e,b⟩=>⟨e,T.step (J:=[]) (λj hj=>by cases hj) b⟩
theorem Dp(T:RS l pr L S I0 E h w nx vs X K V I){B:Nat}(hok:w.Ok B)(hB:B<=1073741824)(x:Ii){A:AV}(hA:OwnL false X [A] [aC x.args] J)(ndJ:J.Nodup)(hJ:∀j∈J,h.length<=j/\j∉vi V++E)(hJ2:∀j∈J,j≠L/\j∉I):
 AC Tryz.prog G bR [.ptr L 8 0 0,.p (.int .i64 x.op),.p (.int .i64 x.to),.p (.int .i64 x.n),A] X λr h'=>r= .ret (.p (.int .i64 x.to))/\∃K' I',RS l pr L S I0 E h (w.put x) nx vs h' K' V I'/\∀i∈E,h'[i]?=X[i]?:=
 (nJ G T.stb.ls hok hB x hA ndJ hJ2).mono λr h' ⟨e,b⟩=>⟨e,T.step hJ b⟩
theorem KI(T:RS l pr L S I0 E h w nx vs X K V I){B:Nat}(hok:w.Ok B){e:Ex}(hB:B+8*e.sz<=1073741823)(he:ExR G l pr L V nx vs e):
 AC Tryz.prog G bc [.ptr L 8 0 0,.agg (e.cs.map .p)] X λx h'=>x= .ret (.p (.int .i64 (lwE (faI l) (rgV vs) e w).1))/\∃K' I',RS l pr L S I0 E h (lwE (faI l) (rgV vs) e w).2 nx vs h' K' V I'/\∀i∈E,h'[i]?=X[i]?:=
 (he w X K I B T.stb.ls hok hB T.va (λi hi=>(T.at.2 i hi).2)).mono λr h' ⟨e,b⟩=>⟨e,T.step (J:=[]) (λj hj=>by cases hj) (by rw[List.append_nil];exact b)⟩
def Ew(l0:List Fd)(pr:Int)(L:Nat)(l:List Sm):Prop:=∀(w:Lw) (h:List AO) (K V:AV) (I:List Nat) (B:Nat) (vs:Vs) (nx:Nat) (m:Scp) (up:List Scp),RS l0 pr L (L::(vi V++I)) I [] h w nx vs h K V I->w.Ok B->B+20*aO l<=1073741000->nx+aO l<=1073741000->vs.length+aO l<=1073741000->rgV vs=scF (-1) (m::up)->
 AC Tryz.prog G bg [.ptr L 8 0 0,.p (smL l)] h λx h'=>x= .ret (.tup [])/\∃K' V' I',RS l0 pr L (L::(vi V++I)) I [] h (aZ (faI l0) (-1) l m up nx w).2.2 (aZ (faI l0) (-1) l m up nx w).2.1 vs h' K' V' I'
def StR(l0:List Fd)(pr:Int)(L:Nat)(s:Sm):Prop:=∀(w:Lw) (h:List AO) (K V:AV) (I:List Nat) (B:Nat) (vs:Vs) (nx:Nat) (m:Scp) (up:List Scp),RS l0 pr L (L::(vi V++I)) I [] h w nx vs h K V I->w.Ok B->B+20*s.sz<=1073741000->nx+s.sz<=1073741000->vs.length+s.sz<=1073741000->rgV vs=scF (-1) (m::up)->
 AC Tryz.prog G ey [.ptr L 8 0 0,.agg (s.cs.map .p)] h λx h'=>x= .ret (.tup [])/\∃vs' K' V' I',RS l0 pr L (L::(vi V++I)) I [] h (lwS (faI l0) (-1) s m up nx w).2.2 (lwS (faI l0) (-1) s m up nx w).2.1 vs' h' K' V' I'/\vs'.take vs.length=vs/\vs.length<=vs'.length/\vs'.length<=vs.length+1/\rgV vs'=scF (-1) ((lwS (faI l0) (-1) s m up nx w).1::up)
theorem sf{b:List Sm}(hb:Ew G l pr L b)(T:RS l pr L S I0 E h w nx vs X K V I){B:Nat}{m:Scp}{up:List Scp}(hok:w.Ok B)(h1:B+20*aO b<=1073741000)(h2:nx+aO b<=1073741000)(h3:vs.length+aO b<=1073741000)(h4:rgV vs=scF (-1) (m::up)):
 AC Tryz.prog G bg [.ptr L 8 0 0,.p (smL b)] X λx h'=>x= .ret (.tup [])/\∃K' V' I',RS l pr L S I0 E h (aZ (faI l) (-1) b m up nx w).2.2 (aZ (faI l) (-1) b m up nx w).2.1 vs h' K' V' I'/\∀i∈E,h'[i]?=X[i]?:=
 (hb w X K V I B vs nx m up T.start hok h1 h2 h3 h4).mono λr h' ⟨e,K',V',I',T2⟩=>⟨e,K',V',I',T.lift T2⟩
end
end
section
theorem Ka{fa:List UInt8->Int}{d:Int}{s:Sm}(h:s.op=6){a0:Ex}{ar:List Ex}(ha:s.args=a0::ar)(m:Scp)(up:List Scp)(nx:Nat)(w:Lw){x:Int × Lw}(hx:x=lwE fa (scF d (m::up)) a0 ((w.name 3).fin 1 0 w.bs.length [(w.bs.length:Int)])){y:Scp × Nat × Lw}(hy:y=aZ fa d s.body [] (m::up) nx (x.2.fin 2 x.1 (w.bs.length+1) [(w.bs.length:Int)+1,(w.bs.length:Int)+2])):
 lwS fa d s m up nx w=(m,y.2.1,y.2.2.fin 1 0 (w.bs.length+2) [(w.bs.length:Int)]):=by
 subst hy;subst hx
 obtain⟨o,n,a,bd,el⟩:=s
 simp only[Sm.op,Sm.args] at h ha
 rw[lwS,if_pos h,ha];rfl
theorem KM{fa:List UInt8->Int}{d:Int}{s:Sm}(h:¬s.op=6)(m:Scp)(up:List Scp)(nx:Nat)(w:Lw){x:List Int × Lw}(hx:x=bF fa (scF d (m::up)) s.args w):
 lwS fa d s m up nx w=if s.op=1 then(nP m s.name nx,nx+1,x.2.put ⟨2,nx,x.1,0⟩)
  else if s.op=2 then(m,nx,x.2.put ⟨2,scF d (m::up) s.name,x.1,0⟩)
  else if s.op=3 then(m,nx,x.2.put ⟨13,-1,x.1,0⟩)
  else if s.op=4 then(m,nx,x.2.put ⟨12,-1,x.1,0⟩)
  else if s.op=5 then
   let t:=x.2.bs.length
   let y:=aZ fa d s.body [] (m::up) nx ((x.2.name 3).fin 2 (x.1.headD 0) t [(t:Int),(t:Int)+1])
   let z:=aZ fa d s.els [] (m::up) y.2.1 (y.2.2.fin 1 0 (t+1) [(t:Int)+2])
   (m,z.2.1,z.2.2.fin 1 0 (t+2) [(t:Int)+2])
  else if s.op=7 then(m,nx,(x.2.name 1).fin 3 (x.1.headD 0) x.2.bs.length [])
  else(m,nx,x.2):=by
 subst hx
 obtain⟨o,n,a,bd,el⟩:=s
 simp only[Sm.op] at h
 rw[lwS,if_neg h];rfl
variable (G:az)
end
section
theorem RS.ofStg{l:List Fd}{pr:Int}{L:Nat}{I:List Nat}{h hB:List AO}{w:Lw}{nx:Nat}{vs:Vs}{X:List AO}{K V:AV}{I1:List Nat}{oid:Nat}(S:Stg (lwR l pr V nx) L I (h.length::vi V) h hB w X K I1)(hv:VAt X V vs)(hV:∀i∈vi V,i<h.length)(ho:oid<X.length)(hoE:oid∉h.length::vi V)(hoI:oid∉L::I1):RS l pr L (L::(vi V++I)) I [oid,h.length] h w nx vs X K V I1:=by
 refine⟨⟨S.ls,⟨S.fr.1,λi hi hn=>S.fr.2 i hi λhm=>hn ?_⟩,by simp,λj hj=>by simp[hj],S.sub,λi hi=>?_⟩,hv,λi hi=>⟨λhm=>?_,.inl (by simp[hi])⟩⟩
 ·rcases List.mem_cons.1 hm with rfl|hm
  ·simp
  ·simp[hm]
 ·simp only[List.mem_append,List.mem_cons,List.not_mem_nil,or_false] at hi
  rcases hi with hi|rfl|rfl
  ·exact S.ap i (by simp[hi])
  ·exact⟨ho,hoI⟩
  ·exact S.ap _ (by simp)
 ·simp only[List.mem_cons,List.not_mem_nil,or_false] at hm
  rcases hm with rfl|rfl
  ·exact hoE (by simp[hi])
  ·have:=hV _ hi;omega
variable (G:az)
theorem ID(l0:List Fd)(hl0:l0.length<=1073741824)(pr:Int)(L:Nat)(s:Sm)(o6:s.op=6)(hne:s.args≠[])(ha:∀a∈s.args,bU 6 a=true)(hb:Ew G l0 pr L s.body){w:Lw}{h:List AO}{K V:AV}{I:List Nat}{B:Nat}{vs:Vs}{nx:Nat}{m:Scp}{up:List Scp}(T:RS l0 pr L (L::(vi V++I)) I [] h w nx vs h K V I)(hok:w.Ok B)(hB:B+20*s.sz<=1073741000)(hnx:nx+s.sz<=1073741000)(hvl:vs.length+s.sz<=1073741000)(hrg:rgV vs=scF (-1) (m::up)):
 AC Tryz.prog G er [.ptr L 8 0 0,.agg (s.cs.map .p)] h λx h'=>x= .ret (.tup [])/\∃K' V' I',RS l0 pr L (L::(vi V++I)) I [] h (lwS (faI l0) (-1) s m up nx w).2.2 (lwS (faI l0) (-1) s m up nx w).2.1 vs h' K' V' I'/\(lwS (faI l0) (-1) s m up nx w).1=m:=by
 have hsc:=s.cs_eq
 have hsz:=s.sz_eq
 obtain⟨a0,ar,ha0⟩:∃a r,s.args=a::r:=by
  match hx:s.args,hne with
  |a::r,_=>exact⟨a,r,rfl⟩
 obtain⟨t,ht⟩:∃t,t=w.bs.length:=⟨_,rfl⟩
 have hac:=a0.cs_eq
 have hkx:exL s.args= .lst 4 ([.int .i64 a0.op,.int .i64 a0.n,.str a0.name,exL a0.kids]::ar.map Ex.cs):=by rw[ha0,←hac];rfl
 have haz:aS s.args=a0.sz+aS ar:=by rw[ha0,aS]
 have htb:t<=B:=by rw[ht];exact hok.bs
 have T0:=T.box (AO.row 5 [[.p (.int .i64 6),.p (.str s.name),.p (exL s.args),.p (smL s.body),.p (smL s.els)]])
 have r0:(h++[AO.row 5 [[.p (.int .i64 6),.p (.str s.name),.p (exL s.args),.p (smL s.body),.p (smL s.els)]]])[h.length]?=some (AO.row 5 [[.p (.int .i64 6),.p (.str s.name),.p (exL s.args),.p (smL s.body),.p (smL s.els)]]):=by simp
 rw[hkx] at T0 r0
 refine AC.go ou ?_
 rw[hsc,o6,hkx]
 simp-implicitDefEqProofs[-AV.cells,-AV.isCell,aE,ag,ah,am,aj,aD,af,an,al,-Lw.name_len,iO]
 refine(ki G T0 hok (by omega)).mono ?_
 rintro x X1 ⟨rfl,K1,I1,T1,e1⟩
 have r1:=(e1 h.length (by simp)).trans r0
 have ok1:=hok.name 1
 have hl1:(w.name 1).bs.length=t+1:=by rw[Lw.name_len,ht]
 simp-implicitDefEqProofs[-AV.cells,-AV.isCell,aE,ag,ah,am,aj,aD,af,an,al,-Lw.name_len,aa,←ht]
 refine(ki G T1 ok1 (by omega)).mono ?_
 rintro x X2 ⟨rfl,K2,I2,T2,e2⟩
 have r2:=(e2 h.length (by simp)).trans r1
 have ok2:=ok1.name 1
 have hl2:((w.name 1).name 1).bs.length=t+2:=by rw[Lw.name_len,hl1]
 simp-implicitDefEqProofs[-AV.cells,-AV.isCell,aE,ag,ah,am,aj,aD,af,an,al,-Lw.name_len,aa,hl1]
 refine(ki G T2 ok2 (by omega)).mono ?_
 rintro x X3 ⟨rfl,K3,I3,T3,e3⟩
 have r3:=(e3 h.length (by simp)).trans r2
 have ok3:(w.name 3).Ok (B+3):=hok.name 3
 have hn3:((w.name 1).name 1).name 1=w.name 3:=by rw[Lw.name_name,Lw.name_name]
 rw[hn3] at T3
 simp-implicitDefEqProofs[-AV.cells,-AV.isCell,aE,ag,ah,am,aj,aD,af,an,al,-Lw.name_len,aa,hl2]
 refine(sr G T3 ok3 1 0 t t rfl).mono ?_
 rintro x X4 ⟨rfl,K4,I4,T4,e4⟩
 have r4:=(e4 h.length (by simp)).trans r3
 have ok4:=ok3.fin 1 0 (g:=t) (by rw[Lw.name_len,ht];omega) [(t:Int)]
 simp-implicitDefEqProofs[-AV.cells,-AV.isCell,aE,ag,ah,am,aj,aD,af,an,al,-Lw.name_len,aa,r4]
 have h5:=KI G T4 ok4 (e:=a0) (by omega) (DE G l0 hl0 pr L V nx vs (by omega) 6 a0 (ha a0 (by rw[ha0];simp)))
 obtain⟨ok5,len5⟩:=nK (faI l0) (rgV vs) a0 _ _ ok4
 obtain⟨x5,hx5⟩:∃x5,x5=lwE (faI l0) (rgV vs) a0 ((w.name 3).fin 1 0 t [(t:Int)]):=⟨_,rfl⟩
 rw[hac,←hx5] at h5
 rw[←hx5] at ok5 len5
 simp only[Lw.fin_len,Lw.name_len,←ht] at len5
 refine h5.mono ?_
 rintro x X5 ⟨rfl,K5,I5,T5,e5⟩
 have r5:=(e5 h.length (by simp)).trans r4
 simp-implicitDefEqProofs[-AV.cells,-AV.isCell,aE,ag,ah,am,aj,aD,af,an,al,-Lw.name_len,aa]
 refine(Dk G T5 ok5 2 x5.1 ((t:Int)+1) ((t:Int)+2) (t+1) (by omega)).mono ?_
 rintro x X6 ⟨rfl,K6,I6,T6,e6⟩
 have r6:=(e6 h.length (by simp)).trans r5
 have ok6:=ok5.fin 2 x5.1 (g:=t+1) (by omega) [(t:Int)+1,(t:Int)+2]
 simp-implicitDefEqProofs[-AV.cells,-AV.isCell,aE,ag,ah,am,aj,aD,af,an,al,-Lw.name_len,aa,r6]
 have h7:=sf G hb T6 (m:=[]) (up:=m::up) ok6 (by omega) (by omega) (by omega) (by rw[hrg];rfl)
 have okb:=eu (faI l0) (-1) s.body [] (m::up) nx _ _ ok6
 obtain⟨y7,hy7⟩:∃y,y=aZ (faI l0) (-1) s.body [] (m::up) nx (x5.2.fin 2 x5.1 (t+1) [(t:Int)+1,(t:Int)+2]):=⟨_,rfl⟩
 rw[←hy7] at h7 okb
 refine h7.mono ?_
 rintro x X7 ⟨rfl,K7,V7,I7,T7,e7⟩
 obtain⟨ok7,len7,nx7,nxx7⟩:=okb
 simp-implicitDefEqProofs[-AV.cells,-AV.isCell,aE,ag,ah,am,aj,aD,af,an,al,-Lw.name_len,aa]
 refine(sr G T7 ok7 1 0 t (t+2) (by omega)).mono ?_
 rintro x X8 ⟨rfl,K8,I8,T8,e8⟩
 simp-implicitDefEqProofs[-AV.cells,-AV.isCell,aE,ag,ah,am,aj,aD,af,an,al,-Lw.name_len,aa]
 subst ht
 rw[hrg] at hx5
 rw[Ka o6 ha0 m up nx w hx5 hy7]
 exact⟨⟨K8,V7,I8,T8.few (λi hi=>by cases hi)⟩,rfl⟩
theorem IF(l0:List Fd)(hl0:l0.length<=1073741824)(pr:Int)(L:Nat)(s:Sm)(hne:s.args≠[])(ha:∀a∈s.args,bU 6 a=true)(hb:Ew G l0 pr L s.body)(he:Ew G l0 pr L s.els):StR G l0 pr L s:=by
 intro w h K V I B vs nx m up T hok hB hnx hvl hrg
 have hsc:=s.cs_eq
 have hsz:=s.sz_eq
 have H:=T.stb.ls
 have hV:=T.va
 have hVd:=λi hi=>(T.at.2 i hi).2
 have hLl:=H.lt
 have hxl:∀l,exL l= .lst 4 (l.map Ex.cs):=λ_=>rfl
 obtain⟨v1,v2,v3⟩:=hV.is
 obtain⟨E,hE⟩:∃E,E=h.length::vi V:=⟨_,rfl⟩
 obtain⟨bo,hbo⟩:∃bo,bo=AO.row 5 [[.p (.int .i64 s.op),.p (.str s.name),.p (exL s.args),.p (smL s.body),.p (smL s.els)]]:=⟨_,rfl⟩
 refine AC.go oW ?_
 rw[hsc]
 by_cases o6:s.op=6
 ·have T0:=T.box bo
  have hF:=ID G l0 hl0 pr L s o6 hne ha hb T0.start hok hB hnx hvl hrg
  rw[hsc] at hF
  rw[o6] at hbo hF
  simp-implicitDefEqProofs[-AV.cells,-AV.isCell,aE,ag,ah,am,aj,aD,af,an,al,-Lw.name_len,eG,o6]
  rw[←hbo]
  refine hF.mono ?_
  rintro x X1 ⟨rfl,K1,V1,I1,T1,hm1⟩
  simp-implicitDefEqProofs[-AV.cells,-AV.isCell,aE,ag,ah,am,aj,aD,af,an,al,-Lw.name_len,aa]
  exact⟨vs,⟨K1,V1,I1,(T0.lift T1).1.few (λi hi=>by cases hi)⟩,by rw[List.take_length],Nat.le_refl _,by omega,by rw[hm1];exact hrg⟩
 have hS0:Stg (lwR l0 pr V nx) L I E h (h++[bo]) w (h++[bo]) K I:=Stg.of H [bo] (λi hi=>by
  rw[hE] at hi
  rcases List.mem_cons.1 hi with rfl|hi
  ·refine⟨by simp,?_⟩
   simp only[List.mem_cons,not_or]
   exact⟨by have:=H.lt;omega,λhm=>by have:=H.own.lt hm;omega⟩
  ·exact⟨by have:=hV.lt i hi;simp;omega,hVd i hi⟩)
 have hb0:(h++[bo])[h.length]?=some bo:=by simp
 have kE:∀{w2:Lw} {X:List AO} {K2:AV} {I2:List Nat},Stg (lwR l0 pr V nx) L I E h (h++[bo]) w2 X K2 I2->X[h.length]?=some bo/\VAt X V vs/\(∀i∈vi V,i∉L::I2):=λ{w2 X K2 I2} S=>⟨(S.keep _ (by rw[hE];simp)).trans hb0,(hV.more [bo]).frame λi hi=>S.keep i (by rw[hE];simp[hi]),λi hi=>(S.ap i (by rw[hE];simp[hi])).2⟩
 have hal:=fI s.args
 have hbl:(h++[bo]).length=h.length+1:=by simp
 simp-implicitDefEqProofs[-AV.cells,-AV.isCell,aE,ag,ah,am,aj,aD,af,an,al,-Lw.name_len,eG,o6,hxl]
 refine JK 0 (λts' X=>∃oid K1 I1,Stg (lwR l0 pr V nx) L I E h (h++[bo]) (bF (faI l0) (rgV vs) s.args w).2 X K1 I1/\X[oid]?=some (rW (bF (faI l0) (rgV vs) s.args w).1)/\h.length<oid/\oid∉E/\oid∉L::I1/\∃z,ts'=aw 132 ((20,z)::(19,.p (.int .i64 s.args.length))::(18,.p (.lst 4 (s.args.map Ex.cs)))::(17,.ptr h.length 5 0 2)::(16,.p (.int .i64 s.args.length))::[(4,.sl oid 1 0 s.args.length),(5,.p (.int .i64 s.args.length)),(3,.ptr h.length 5 0 0),(0,.ptr L 8 0 0)])) (λQ' qE=>?_) ?_
 ·rw[hxl] at hbo
  have S00:Stg (lwR l0 pr V nx) L I E h (h++[bo]) w (h++[bo]++[.row 1 []]) K I:=hS0.more _
  have e0:h++[bo]++[AO.row 1 []]=h++[bo,.row 1 []]:=by simp
  rw[e0] at S00
  have hvE:h.length+1∉E:=λhm=>by have:=(hS0.ap _ hm).1;simp at this
  refine aH (λa:MpQ=>aw 132 [(4,.sl a.o 1 0 a.i),(5,.p (.int .i64 a.i)),(3,.ptr h.length 5 0 0),(0,.ptr L 8 0 0)]) (λa=>a.X)
   (λa=>a.i<=s.args.length/\∃K1 I1,Stg (lwR l0 pr V nx) L I E h (h++[bo]) (bF (faI l0) (rgV vs) (s.args.take a.i) w).2 a.X K1 I1/\a.X[a.o]?=some (rW (bF (faI l0) (rgV vs) (s.args.take a.i) w).1)/\h.length<a.o/\a.o∉E/\a.o∉L::I1) (λa=>s.args.length-a.i) ⟨0,h++[bo,.row 1 []],h.length+1⟩ ⟨Nat.zero_le _,K,I,by rw[List.take_zero,bF];exact S00,by rw[List.take_zero,bF,←e0,List.getElem?_append_right (by simp)];simp[rW],by simp,hvE,by
     simp only[List.mem_cons,not_or]
     exact⟨by omega,λhm=>by have:=H.own.lt hm;omega⟩⟩ ?_ ?_
  ·rw[hbo]
   exact ab (by simp) (by simp[below];omega)
  rintro⟨i,X,o⟩ ⟨hi,K1,I1,S,hx,ho,hoE,hoI⟩
  simp only at hi S hx ho hoE hoI
  have hXl:=S.fr.1
  have hXL:=S.ls.lt
  have hox:o<X.length:=(List.getElem?_eq_some_iff.1 hx).1
  have hlen:(bF (faI l0) (rgV vs) (s.args.take i) w).1.length=i:=by rw[gU,List.length_take];omega
  obtain⟨y0,yV,yd⟩:=kE S
  rw[hbo] at y0
  have hbX:h.length<X.length:=(List.getElem?_eq_some_iff.1 y0).1
  simp-implicitDefEqProofs[y0]
  refine aF (λhc1=>?_) (λhc1=>?_)
  ·simp at hc1
   have hg:=List.getElem?_eq_getElem hc1
   have hm:=List.getElem_mem hc1
   have htk:=vY (fa:=faI l0) (sc:=rgV vs) hc1 w
   have hok1:=(kr (faI l0) (rgV vs) (s.args.take i) w B hok).1
   have hzt:aS (s.args.take i)+s.args[i].sz<=aS s.args:=by
    have h1:=List.take_append_drop (i+1) s.args
    have h2:aS s.args=aS (s.args.take (i+1))+aS (s.args.drop (i+1)):=by
     conv=>lhs;rw[←h1]
     rw[dX]
    rw[ay hc1,dX] at h2
    simp only[aS] at h2
    omega
   have hcall:=DE G l0 hl0 pr L V nx vs (by omega) 6 s.args[i] (ha _ hm) _ _ K1 I1 _ S.ls hok1 (by omega) yV yd
   generalize s.args[i]=k at*
   have hkc:=k.cs_eq
   generalize bF (faI l0) (rgV vs) (s.args.take i) w=cur at*
   obtain⟨out,w1⟩:=cur
   simp only at htk hcall hok1 S hx hlen
   rw[hkc] at hcall
   simp-implicitDefEqProofs[-AV.cells,-AV.isCell,aE,ag,ah,am,aj,aD,af,an,al,-Lw.name_len,y0,hg,hkc]
   refine hcall.mono ?_
   rintro r X2 ⟨rfl,hlr⟩
   have hl2:X.length<=X2.length:=by obtain⟨_,_,_,a,_⟩:=hlr;exact a.1
   have hx2:X2[o]?=some (rW out):=by
    obtain⟨_,_,_,a,_⟩:=hlr
    rw[a.2 o hox hoI];exact hx
   have hE2:∀j∈o::E,j<X.length/\j∉L::I1:=λj hj=>by
    rcases List.mem_cons.1 hj with rfl|hj
    ·exact⟨hox,hoI⟩
    ·exact S.ap j hj
   obtain⟨K2,I2,S2o⟩:=(show Stg (lwR l0 pr V nx) L I (o::E) h X w1 X K1 I1 from⟨S.ls,S.fr,S.sub,λ_ _=>rfl,hE2,Nat.le_refl _⟩).step (J:=[]) (λj hj=>by cases hj) (by rw[List.append_nil];exact hlr)
   have hoI2:o∉L::I2:=(S2o.ap o (by simp)).2
   have S2:Stg (lwR l0 pr V nx) L I E h (h++[bo]) _ X2 K2 I2:=⟨S2o.ls,S2o.fr,S2o.sub,λj hj=>(S2o.keep j (by simp[hj])).trans (S.keep j hj),λj hj=>S2o.ap j (by simp[hj]),Nat.le_trans S.ge hl2⟩
   have hx2':∀t,(X2++t)[o]?=some (.row 1 (out.map λn=>[AV.p (.int .i64 n)])):=λt=>by rw[List.getElem?_append_left (by omega)];exact hx2
   have hot:List.take i (out.map λn=>[AV.p (.int .i64 n)])=out.map λn=>[AV.p (.int .i64 n)]:=List.take_of_length_le (by simp;omega)
   simp-implicitDefEqProofs[-AV.cells,-AV.isCell,aE,ag,ah,am,aj,aD,af,an,al,-Lw.name_len,aa,hx2',hlen,hot]
   refine⟨by omega,⟨i+1,_,X2.length+1⟩,⟨by simp only;omega,K2,I2,by
    rw[htk]
    exact S2.upd (oid:=o) (by simp;omega) (λj hj hn=>by rw[List.getElem?_append_left (by simp;omega),List.getElem?_set_ne (Ne.symm hn),List.getElem?_append_left hj]) (by omega) hoE hoI2,?_,by simp only;omega,λhm=>by have:=(S2.ap _ hm).1;simp only at this;omega,?_⟩,by simp only;omega,ab (by simp;omega) ?_⟩
   ·rw[htk,List.getElem?_append_right (by simp)];simp[rW]
   ·simp only[List.mem_cons,not_or]
    exact⟨by have:=S2.ls.lt;omega,λhm=>by have:=S2.ls.own.lt hm;omega⟩
   ·simp[below,show IntKind.i64.wrap ((i:Int)+1)=(i:Int)+1 from ae (by omega) (by omega)]
    omega
  ·simp at hc1
   have hie:i=s.args.length:=by omega
   subst hie
   rw[List.take_length] at S hx hlen
   simp-implicitDefEqProofs[]
   exact qE _ _ ⟨o,K1,I1,S,hx,ho,hoE,hoI,_,rfl⟩
 ·rintro ts' X ⟨oid,K1,I1,S,hx,ho,hoE,hoI,z,rfl⟩
  obtain⟨y0,yV,yd⟩:=kE S
  rw[hbo] at y0
  obtain⟨okm,lenm⟩:=kr (faI l0) (rgV vs) s.args w B hok
  have hlm:=gU (faI l0) (rgV vs) s.args w
  obtain⟨t1,ht1⟩:∃x,x=bF (faI l0) (rgV vs) s.args w:=⟨_,rfl⟩
  have heq:=KM (fa:=faI l0) (d:= -1) o6 m up nx w (x:=t1) (by rw[←hrg];exact ht1)
  rw[←ht1] at S hx okm lenm hlm
  have hA:OwnL false X [.sl oid 1 0 s.args.length] [aC t1.1] [oid]:=tq hx hlm.symm
  have hox:=(List.getElem?_eq_some_iff.1 hx).1
  rw[hE] at S hoE
  have To:RS l0 pr L (L::(vi V++I)) I [oid,h.length] h t1.2 nx vs X K1 V I1:=RS.ofStg S yV hV.lt hox hoE hoI
  have Tq:RS l0 pr L (L::(vi V++I)) I [h.length] h t1.2 nx vs X K1 V I1:=To.few (by simp)
  have hJ:∀j∈[oid],h.length<=j/\j∉vi V++[h.length]:=λj hj=>by
   rw[List.mem_singleton.1 hj]
   refine⟨by omega,λhm=>hoE ?_⟩
   rcases List.mem_append.1 hm with hm|hm
   ·simp[hm]
   ·rw[List.mem_singleton.1 hm];simp
  have hJ2:∀j∈[oid],j≠L/\j∉I1:=λj hj=>by
   rw[List.mem_singleton.1 hj]
   simpa only[List.mem_cons,not_or] using hoI
  have r1:=y0
  have yL:=S.ls.here
  simp only[lwR] at yL
  clear ht1
  have hsl0:0<s.args.length:=List.length_pos_iff.2 hne
  have hq:∃q0 qr,t1.1=q0::qr:=by
   match hx:t1.1,s.args,hne,hlm with
   |q::r,_,_,_=>exact⟨q,r,rfl⟩
   |[],[],h,_=>exact(h rfl).elim
   |[],_::_,_,h=>simp at h
  simp-implicitDefEqProofs[-AV.cells,-AV.isCell,aE,ag,ah,am,aj,aD,af,an,al,-Lw.name_len,r1]
  refine aF (λo1=>?_) (λo1=>?_)
  ·have o1:s.op=1:=by simpa using o1
   simp-implicitDefEqProofs[-AV.cells,-AV.isCell,aE,ag,ah,am,aj,aD,af,an,al,-Lw.name_len,r1,yL]
   refine(Dp G Tq okm (by omega) ⟨2,nx,t1.1,0⟩ hA (by simp) hJ hJ2).mono ?_
   rintro x X1 ⟨rfl,K2,I2,T2,e2⟩
   simp-implicitDefEqProofs[-AV.cells,-AV.isCell,aE,ag,ah,am,aj,aD,af,an,al,-Lw.name_len,aa]
   have vform:=T2.va
   have dl:=(T2.at.2)
   have yL2:=T2.stb.ls.here
   simp only[lwR] at yL2
   have r2:=(e2 h.length (by simp)).trans r1
   have hrgn:rgV (vs++[(s.name,nx)])=scF (-1) (nP m s.name nx::up):=by
    funext t
    rw[uc,hrg,scF,scF,yO,yO,om]
    by_cases hst:s.name=t
    ·simp[hst]
    ·simp[hst]
   have hwn:IntKind.i64.wrap ((nx:Int)+1)=(nx:Int)+1:=ae (by omega) (by omega)
   have hLX:=T2.stb.ls.lt
   cases vform with
   |nil=>
    have hLs:∀t o,((X1++t).set L o)[L]?=some o:=λt o=>List.getElem?_set_self (by simp;omega)
    have hLm:∀t,(X1++t)[L]?=X1[L]?:=λt=>List.getElem?_append_left hLX
    have hrm:∀t o,((X1++t).set L o)[h.length]?=X1[h.length]?:=λt o=>by
     rw[List.getElem?_set_ne (λe=>(T2.at.1 h.length (by simp)).2 (by rw[e];simp)),List.getElem?_append_left (T2.at.1 h.length (by simp)).1]
    simp-implicitDefEqProofs[-AV.cells,-AV.isCell,aE,ag,ah,am,aj,aD,af,an,al,-Lw.name_len,r2,yL2,hLm, ↓hLs,hwn,hrm]
    obtain⟨V2,hV2⟩:∃V2,V2=AV.sl X1.length 3 0 1:=⟨_,rfl⟩
    rw[heq,if_pos o1]
    have hX2:∀X2,X2=(X1++[AO.row 3 [[.p (.str s.name),.p (.int .i64 nx),.p (.int .i64 0)]]]).set L (.row 8 [[.p (fdL l0),.p (.int .i64 pr),.p (.int .i64 (t1.2.put ⟨2,nx,t1.1,0⟩).regs),K2,.p (.int .i64 (t1.2.put ⟨2,nx,t1.1,0⟩).pos),.sl X1.length 3 0 1,.p (.int .i64 ((nx:Int)+1)),.nils]])->RS l0 pr L (L::(vi .nils++I)) I [h.length] h (t1.2.put ⟨2,nx,t1.1,0⟩) (nx+1) [(s.name,nx)] X2 K2 (.sl X1.length 3 0 1) I2:=λX2 e=>by
     subst e
     refine(T2.alt (by simp) (by rw[hLs,lwR];simp) (λi hi hn _=>by rw[List.getElem?_set_ne (Ne.symm hn),List.getElem?_append_left hi]) (.sl _ [nN (s.name,nx)] [(s.name,nx)] (by rw[List.getElem?_set_ne (by omega),List.getElem?_append_right (Nat.le_refl _)];simp[nN]) rfl) (λi hi=> .inr (by rw[List.mem_singleton.1 hi];exact Nat.le_refl _))).1
    refine⟨[(s.name,nx)],⟨_,_,_,(hX2 _ (by simp[List.set_set])).few (E2:=[]) (λi hi=>by cases hi)⟩,?_⟩
    simpa using hrgn
   |sl vid rows _ hv1 hv2=>
    have hvX:=(List.getElem?_eq_some_iff.1 hv1).1
    have hvd:=(T2.at.2 vid (by simp[vi])).2
    simp only[List.mem_cons,not_or] at hvd
    have hLs:∀t u o,(((X1++t).set vid .dead++u).set L o)[L]?=some o:=λt u o=>List.getElem?_set_self (by simp;omega)
    have hLm:∀t u,((X1++t).set vid .dead++u)[L]?=X1[L]?:=λt u=>by rw[List.getElem?_append_left (by simp;omega),List.getElem?_set_ne hvd.1,List.getElem?_append_left hLX]
    have hLs0:∀u o,((X1.set vid .dead++u).set L o)[L]?=some o:=λu o=>List.getElem?_set_self (by simp;omega)
    have hLm0:∀u,(X1.set vid .dead++u)[L]?=X1[L]?:=λu=>by rw[List.getElem?_append_left (by simp;omega),List.getElem?_set_ne hvd.1]
    have hvk:vs.length<=rows.length:=by
     have:=congrArg List.length hv2
     rw[List.length_take,List.length_map] at this
     omega
    simp-implicitDefEqProofs[-AV.cells,-AV.isCell,aE,ag,ah,am,aj,aD,af,an,al,-Lw.name_len,r2,yL2,hv1,hv2, ↓hLs, ↓hLm, ↓hLs0, ↓hLm0,hwn]
    rw[heq,if_pos o1]
    have hX2:∀X2,X2=(X1.set vid .dead++[AO.row 3 (vs.map nN++[[.p (.str s.name),.p (.int .i64 nx),.p (.int .i64 0)]])]).set L (.row 8 [[.p (fdL l0),.p (.int .i64 pr),.p (.int .i64 (t1.2.put ⟨2,nx,t1.1,0⟩).regs),K2,.p (.int .i64 (t1.2.put ⟨2,nx,t1.1,0⟩).pos),.sl X1.length 3 0 (vs.length+1),.p (.int .i64 ((nx:Int)+1)),.nils]])->RS l0 pr L (L::(vi (.sl vid 3 0 vs.length)++I)) I [h.length] h (t1.2.put ⟨2,nx,t1.1,0⟩) (nx+1) (vs++[(s.name,nx)]) X2 K2 (.sl X1.length 3 0 (vs.length+1)) I2:=λX2 e=>by
     subst e
     have hlv:(vs++[(s.name,nx)]).length=vs.length+1:=by simp
     refine(T2.alt (by simp) (by rw[hLs0,lwR];simp) (λi hi hn hv=>by
      rw[List.getElem?_set_ne (Ne.symm hn),List.getElem?_append_left (by simpa using hi),List.getElem?_set_ne (λe=>hv (by rw[←e];simp[vi]))]) (hlv▸ .sl _ (vs.map nN++[nN (s.name,nx)]) (vs++[(s.name,nx)]) (by rw[List.getElem?_set_ne (by omega),List.getElem?_append_right (by simp)];simp[nN]) (by rw[List.take_of_length_le (by simp)];simp)) (λi hi=> .inr (by rw[List.mem_singleton.1 hi];exact Nat.le_refl _))).1
    refine⟨⟨by omega,by omega⟩,vs++[(s.name,nx)],⟨_,_,_,(hX2 _ (by simp[List.set_set])).few (E2:=[]) (λi hi=>by cases hi)⟩,?_⟩
    simpa using hrgn
  have o1:¬s.op=1:=by simpa using o1
  simp-implicitDefEqProofs[-AV.cells,-AV.isCell,aE,ag,ah,am,aj,aD,af,an,al,-Lw.name_len,r1]
  refine aF (λo2=>?_) (λo2=>?_)
  ·have o2:s.op=2:=by simpa using o2
   simp-implicitDefEqProofs[-AV.cells,-AV.isCell,aE,ag,ah,am,aj,aD,af,an,al,-Lw.name_len,r1,yL]
   refine(Fb G S.ls.here yV (by omega) s.name).mono ?_
   rintro x X' ⟨rfl,rfl⟩
   simp-implicitDefEqProofs[-AV.cells,-AV.isCell,aE,ag,ah,am,aj,aD,af,an,al,-Lw.name_len,aa,r1]
   refine(Dp G Tq okm (by omega) ⟨2,rgV vs s.name,t1.1,0⟩ hA (by simp) hJ hJ2).mono ?_
   rintro x X1 ⟨rfl,K2,I2,T2,e2⟩
   simp-implicitDefEqProofs[-AV.cells,-AV.isCell,aE,ag,ah,am,aj,aD,af,an,al,-Lw.name_len,aa]
   rw[hrg] at T2
   rw[heq,if_neg o1,if_pos o2]
   exact⟨vs,⟨_,_,_,T2.few (λi hi=>by cases hi)⟩,by rw[List.take_length],Nat.le_refl _,by omega,hrg⟩
  have o2:¬s.op=2:=by simpa using o2
  simp-implicitDefEqProofs[-AV.cells,-AV.isCell,aE,ag,ah,am,aj,aD,af,an,al,-Lw.name_len,r1]
  refine aF (λo3=>?_) (λo3=>?_)
  ·have o3:s.op=3:=by simpa using o3
   simp-implicitDefEqProofs[-AV.cells,-AV.isCell,aE,ag,ah,am,aj,aD,af,an,al,-Lw.name_len,r1,yL]
   refine(Dp G Tq okm (by omega) ⟨13,-1,t1.1,0⟩ hA (by simp) hJ hJ2).mono ?_
   rintro x X1 ⟨rfl,K2,I2,T2,e2⟩
   simp-implicitDefEqProofs[-AV.cells,-AV.isCell,aE,ag,ah,am,aj,aD,af,an,al,-Lw.name_len,aa]
   rw[heq,if_neg o1,if_neg o2,if_pos o3]
   exact⟨vs,⟨_,_,_,T2.few (λi hi=>by cases hi)⟩,by rw[List.take_length],Nat.le_refl _,by omega,hrg⟩
  have o3:¬s.op=3:=by simpa using o3
  simp-implicitDefEqProofs[-AV.cells,-AV.isCell,aE,ag,ah,am,aj,aD,af,an,al,-Lw.name_len,r1]
  refine aF (λo4=>?_) (λo4=>?_)
  ·have o4:s.op=4:=by simpa using o4
   simp-implicitDefEqProofs[-AV.cells,-AV.isCell,aE,ag,ah,am,aj,aD,af,an,al,-Lw.name_len,r1,yL]
   refine(Dp G Tq okm (by omega) ⟨12,-1,t1.1,0⟩ hA (by simp) hJ hJ2).mono ?_
   rintro x X1 ⟨rfl,K2,I2,T2,e2⟩
   simp-implicitDefEqProofs[-AV.cells,-AV.isCell,aE,ag,ah,am,aj,aD,af,an,al,-Lw.name_len,aa]
   rw[heq,if_neg o1,if_neg o2,if_neg o3,if_pos o4]
   exact⟨vs,⟨_,_,_,T2.few (λi hi=>by cases hi)⟩,by rw[List.take_length],Nat.le_refl _,by omega,hrg⟩
  have o4:¬s.op=4:=by simpa using o4
  simp-implicitDefEqProofs[-AV.cells,-AV.isCell,aE,ag,ah,am,aj,aD,af,an,al,-Lw.name_len,r1]
  refine aF (λo7=>?_) (λo7=>?_)
  ·have o7:s.op=7:=by simpa using o7
   obtain⟨q0,qr,hq⟩:=hq
   obtain⟨t,ht⟩:∃t,t=t1.2.bs.length:=⟨_,rfl⟩
   have htb:t<=B+8*aS s.args:=by rw[ht];exact okm.bs
   have ho1:X[oid]?=some (.row 1 ([.p (.int .i64 q0)]::qr.map λn=>[AV.p (.int .i64 n)])):=by rw[hx,rW,hq];rfl
   have hhd:t1.1.headD 0=q0:=by rw[hq];rfl
   simp-implicitDefEqProofs[-AV.cells,-AV.isCell,aE,ag,ah,am,aj,aD,af,an,al,-Lw.name_len,r1,ho1,hsl0]
   refine(ki G To okm (by omega)).mono ?_
   rintro x X2 ⟨rfl,K2,I2,T2,e2⟩
   have o2':=(e2 oid (by simp)).trans ho1
   have r2:=(e2 h.length (by simp)).trans r1
   have ok2:=okm.name 1
   simp-implicitDefEqProofs[-AV.cells,-AV.isCell,aE,ag,ah,am,aj,aD,af,an,al,-Lw.name_len,aa,←ht,o2',hsl0,r2]
   refine(Jc G T2 ok2 3 q0 t rfl).mono ?_
   rintro x X3 ⟨rfl,K3,I3,T3,e3⟩
   simp-implicitDefEqProofs[-AV.cells,-AV.isCell,aE,ag,ah,am,aj,aD,af,an,al,-Lw.name_len,aa]
   rw[heq,if_neg o1,if_neg o2,if_neg o3,if_neg o4,if_neg (by omega),if_pos o7,hhd,←ht]
   exact⟨vs,⟨_,_,_,T3.few (λi hi=>by cases hi)⟩,by rw[List.take_length],Nat.le_refl _,by omega,hrg⟩
  have o7:¬s.op=7:=by simpa using o7
  simp-implicitDefEqProofs[-AV.cells,-AV.isCell,aE,ag,ah,am,aj,aD,af,an,al,-Lw.name_len,r1]
  refine aF (λo5=>?_) (λo5=>?_)
  ·have o5:s.op=5:=by simpa using o5
   obtain⟨q0,qr,hq⟩:=hq
   obtain⟨t,ht⟩:∃t,t=t1.2.bs.length:=⟨_,rfl⟩
   have htb:t<=B+8*aS s.args:=by rw[ht];exact okm.bs
   have ho1:X[oid]?=some (.row 1 ([.p (.int .i64 q0)]::qr.map λn=>[AV.p (.int .i64 n)])):=by rw[hx,rW,hq];rfl
   have hhd:t1.1.headD 0=q0:=by rw[hq];rfl
   simp-implicitDefEqProofs[-AV.cells,-AV.isCell,aE,ag,ah,am,aj,aD,af,an,al,-Lw.name_len,r1]
   refine(ki G To okm (by omega)).mono ?_
   rintro x X2 ⟨rfl,K2,I2,T2,e2⟩
   have r2:=(e2 h.length (by simp)).trans r1
   have ok2:=okm.name 1
   have hl2:(t1.2.name 1).bs.length=t+1:=by rw[Lw.name_len,ht]
   simp-implicitDefEqProofs[-AV.cells,-AV.isCell,aE,ag,ah,am,aj,aD,af,an,al,-Lw.name_len,aa,←ht,r2]
   refine(ki G T2 ok2 (by omega)).mono ?_
   rintro x X3 ⟨rfl,K3,I3,T3,e3⟩
   have r3:=(e3 h.length (by simp)).trans r2
   have ok3:=ok2.name 1
   have hl3:((t1.2.name 1).name 1).bs.length=t+2:=by rw[Lw.name_len,hl2]
   simp-implicitDefEqProofs[-AV.cells,-AV.isCell,aE,ag,ah,am,aj,aD,af,an,al,-Lw.name_len,aa,hl2,r3]
   refine(ki G T3 ok3 (by omega)).mono ?_
   rintro x X4 ⟨rfl,K4,I4,T4,e4⟩
   have r4:=(e4 h.length (by simp)).trans r3
   have ok4:(t1.2.name 3).Ok _:=okm.name 3
   have hn4:((t1.2.name 1).name 1).name 1=t1.2.name 3:=by rw[Lw.name_name,Lw.name_name]
   rw[hn4] at T4
   have o4':=(e4 oid (by simp)).trans ((e3 oid (by simp)).trans ((e2 oid (by simp)).trans ho1))
   simp-implicitDefEqProofs[-AV.cells,-AV.isCell,aE,ag,ah,am,aj,aD,af,an,al,-Lw.name_len,aa,hl3,r4,o4',hsl0]
   refine(Dk G T4 ok4 2 q0 t ((t:Int)+1) t rfl).mono ?_
   rintro x X5 ⟨rfl,K5,I5,T5,e5⟩
   have r5:=(e5 h.length (by simp)).trans r4
   have ok5:=ok4.fin 2 q0 (g:=t) (by rw[Lw.name_len,ht];omega) [(t:Int),(t:Int)+1]
   simp-implicitDefEqProofs[-AV.cells,-AV.isCell,aE,ag,ah,am,aj,aD,af,an,al,-Lw.name_len,aa,r5]
   have h6:=sf G hb T5 (m:=[]) (up:=m::up) ok5 (by omega) (by omega) (by omega) (by rw[hrg];rfl)
   have okb:=eu (faI l0) (-1) s.body [] (m::up) nx _ _ ok5
   obtain⟨y6,hy6⟩:∃y,y=aZ (faI l0) (-1) s.body [] (m::up) nx ((t1.2.name 3).fin 2 q0 t [(t:Int),(t:Int)+1]):=⟨_,rfl⟩
   rw[←hy6] at h6 okb
   refine h6.mono ?_
   rintro x X6 ⟨rfl,K6,V6,I6,T6,e6⟩
   obtain⟨ok6,len6,nx6,nxx6⟩:=okb
   simp only[Lw.fin_len,Lw.name_len,←ht] at len6
   have r6:=(e6 h.length (by simp)).trans r5
   simp-implicitDefEqProofs[-AV.cells,-AV.isCell,aE,ag,ah,am,aj,aD,af,an,al,-Lw.name_len,aa,r6]
   refine(sr G T6 ok6 1 0 ((t:Int)+2) (t+1) (by omega)).mono ?_
   rintro x X7 ⟨rfl,K7,I7,T7,e7⟩
   have r7:=(e7 h.length (by simp)).trans r6
   have ok7:=ok6.fin 1 0 (g:=t+1) (by omega) [(t:Int)+2]
   simp-implicitDefEqProofs[-AV.cells,-AV.isCell,aE,ag,ah,am,aj,aD,af,an,al,-Lw.name_len,aa,r7]
   have h8:=sf G he T7 (m:=[]) (up:=m::up) ok7 (by omega) (by omega) (by omega) (by rw[hrg];rfl)
   have okb:=eu (faI l0) (-1) s.els [] (m::up) y6.2.1 _ _ ok7
   obtain⟨y8,hy8⟩:∃y,y=aZ (faI l0) (-1) s.els [] (m::up) y6.2.1 (y6.2.2.fin 1 0 (t+1) [(t:Int)+2]):=⟨_,rfl⟩
   rw[←hy8] at h8 okb
   refine h8.mono ?_
   rintro x X8 ⟨rfl,K8,V8,I8,T8,e8⟩
   obtain⟨ok8,len8,nx8,nxx8⟩:=okb
   simp only[Lw.fin_len] at len8
   have r8:=(e8 h.length (by simp)).trans r7
   simp-implicitDefEqProofs[-AV.cells,-AV.isCell,aE,ag,ah,am,aj,aD,af,an,al,-Lw.name_len,aa,r8]
   refine(sr G T8 ok8 1 0 ((t:Int)+2) (t+2) (by omega)).mono ?_
   rintro x X9 ⟨rfl,K9,I9,T9,e9⟩
   simp-implicitDefEqProofs[-AV.cells,-AV.isCell,aE,ag,ah,am,aj,aD,af,an,al,-Lw.name_len,aa]
   have hE5:lwS (faI l0) (-1) s m up nx w=(m,y8.2.1,y8.2.2.fin 1 0 (t+2) [(t:Int)+2]):=by
    rw[heq,if_neg o1,if_neg o2,if_neg o3,if_neg o4,if_pos o5]
    simp only[hhd,←ht]
    rw[←hy6,←hy8]
   rw[hE5]
   exact⟨vs,⟨_,_,_,T9.few (λi hi=>by cases hi)⟩,by rw[List.take_length],Nat.le_refl _,by omega,hrg⟩
  have o5:¬s.op=5:=by simpa using o5
  simp-implicitDefEqProofs[-AV.cells,-AV.isCell,aE,ag,ah,am,aj,aD,af,an,al,-Lw.name_len,r1]
  rw[heq,if_neg o1,if_neg o2,if_neg o3,if_neg o4,if_neg o5,if_neg o7]
  exact⟨vs,⟨_,_,_,Tq.few (λi hi=>by cases hi)⟩,by rw[List.take_length],Nat.le_refl _,by omega,hrg⟩
structure SlS where (i:Nat) (X:List AO)
theorem uk(l0:List Fd)(pr:Int)(L:Nat)(b:List Sm)(hs:∀s∈b,StR G l0 pr L s):Ew G l0 pr L b:=by
 intro w h K V I B vs nx m up T hok hB hnx hvl hrg
 have hsl:∀l,smL l= .lst 5 (l.map Sm.cs):=λ_=>rfl
 have hll:=dY b
 have yL0:=T.stb.ls.here
 simp only[lwR] at yL0
 refine AC.go mZ ?_
 rcases T.va.form with⟨hVe,hve⟩|⟨vid0,hVe⟩
 ·have hv00:vs.length=0:=by rw[hve];rfl
  rw[hVe] at yL0
  simp-implicitDefEqProofs[dU,yL0,hsl]
  refine aH (λa:SlS=>aw 32 [(5,.p (.int .i64 a.i)),(4,.p (.int .i64 0)),(0,.ptr L 8 0 0),(1,.p (smL b))]) (λa=>a.X)
   (λa=>a.i<=b.length/\∃vs1 K1 V1 I1,RS l0 pr L (L::(vi V++I)) I [] h (aZ (faI l0) (-1) (b.take a.i) m up nx w).2.2 (aZ (faI l0) (-1) (b.take a.i) m up nx w).2.1 vs1 a.X K1 V1 I1/\vs1.take vs.length=vs/\vs.length<=vs1.length/\vs1.length<=vs.length+a.i/\rgV vs1=scF (-1) ((aZ (faI l0) (-1) (b.take a.i) m up nx w).1::up)) (λa=>b.length-a.i) ⟨0,h⟩ ⟨Nat.zero_le _,vs,K,V,I,by rw[List.take_zero,aZ];exact T,by rw[List.take_length],Nat.le_refl _,by simp,by rw[List.take_zero,aZ];exact hrg⟩ ?_ ?_
  ·exact ab (Nat.le_refl _) (by simp[below,hsl,T.stb.ls.lt])
  rintro⟨i,X⟩ ⟨hi,vs1,K1,V1,I1,T1,p1,p2,p3,p4⟩
  simp only at hi T1 p3 p4
  have hXL:=T1.stb.ls.lt
  simp-implicitDefEqProofs[hsl]
  refine aF (λhc=>?_) (λhc=>?_)
  ·simp at hc
   have hg:=List.getElem?_eq_getElem hc
   have hm:=List.getElem_mem hc
   have htk:=vD (fa:=faI l0) (d:= -1) hc m up nx w
   have hok1:=eu (faI l0) (-1) (b.take i) m up nx w B hok
   have hzt:aO (b.take i)+b[i].sz<=aO b:=by
    have h1:=List.take_append_drop (i+1) b
    have h2:aO b=aO (b.take (i+1))+aO (b.drop (i+1)):=by
     conv=>lhs;rw[←h1]
     rw[cz]
    rw[ay hc,cz] at h2
    simp only[aO] at h2
    omega
   have htl:i<=aO (b.take i):=by
    have:=dY (b.take i)
    rw[List.length_take] at this
    omega
   have hst:=hs b[i] hm
   generalize b[i]=s at hg hm htk hzt hst
   have hsc:=s.cs_eq
   generalize aZ (faI l0) (-1) (b.take i) m up nx w=cur at*
   obtain⟨mc,nc,wc⟩:=cur
   simp only at htk hok1 T1 p4
   obtain⟨okc,_,_,hnc⟩:=hok1
   have hcall:=hst wc X K1 V1 I1 _ vs1 nc mc up T1.start okc (by omega) (by omega) (by omega) p4
   rw[hsc] at hcall
   simp-implicitDefEqProofs[hg,hsc]
   refine hcall.mono ?_
   rintro r X2 ⟨rfl,vs2,K2,V2,I2,T2,q1,q2,q3,q4⟩
   obtain⟨T3,_⟩:=T1.lift T2
   simp-implicitDefEqProofs[aa]
   refine⟨⟨i+1,X2⟩,⟨by simp only;omega,vs2,⟨K2,V2,I2,by rw[htk];exact T3⟩,?_,by omega,by simp only;omega,by rw[htk];exact q4⟩,by simp only;omega,ab (Nat.le_trans T1.stb.fr.1 T2.stb.fr.1) ?_⟩
   ·rw[←q1,List.take_take,Nat.min_eq_left p2] at p1
    exact p1
   ·simp[below,hsl,show IntKind.i64.wrap ((i:Int)+1)=(i:Int)+1 from ae (by omega) (by omega)]
    exact T3.stb.ls.lt
  ·simp at hc
   have hie:i=b.length:=by omega
   subst hie
   rw[List.take_length] at T1
   have yL:=T1.stb.ls.here
   simp only[lwR] at yL
   have fin:∀V2,VAt (X.set L (lwR l0 pr V2 (aZ (faI l0) (-1) b m up nx w).2.1 (aZ (faI l0) (-1) b m up nx w).2.2 K1)) V2 vs->(∀i∈vi V2,i∈vi V1)->RS l0 pr L (L::(vi V++I)) I [] h (aZ (faI l0) (-1) b m up nx w).2.2 (aZ (faI l0) (-1) b m up nx w).2.1 vs (X.set L (lwR l0 pr V2 (aZ (faI l0) (-1) b m up nx w).2.1 (aZ (faI l0) (-1) b m up nx w).2.2 K1)) K1 V2 I1:=λV2 hv2 hs2=>(T1.alt (by simp) (List.getElem?_set_self T1.stb.ls.lt) (λi hi hn _=>List.getElem?_set_ne (Ne.symm hn)) hv2 (λi hi=> .inl (hs2 i hi))).1
   have va:=T1.va
   have vd:=T1.at.2
   cases va with
   |nil=>
    have hv0:vs=[]:=List.length_eq_zero_iff.1 (by simpa using p2)
    have hv1:vs.length=0:=by rw[hv0];rfl
    simp-implicitDefEqProofs[yL,hv1]
    exact⟨K1,.nils,I1,by have:=fin .nils (by rw[hv0];exact .nil) (λi hi=>hi);simpa only[lwR] using this⟩
   |sl vid rows _ h1 h2=>
    have hvl2:vs1.length<=rows.length:=by
     have:=congrArg List.length h2
     rw[List.length_take,List.length_map] at this
     omega
    have hne:vid≠L:=λe=>(vd vid (by simp[vi])).2 (by rw[e];simp)
    simp-implicitDefEqProofs[yL,h1,p2]
    refine⟨K1,.sl vid 3 0 0,I1,?_⟩
    have:=fin (.sl vid 3 0 vs.length) (.sl vid rows vs (by rw[List.getElem?_set_ne (Ne.symm hne)];exact h1) (by
     have e:=congrArg (List.take vs.length) h2
     rw[List.take_take,Nat.min_eq_left p2,←List.map_take,p1] at e
     exact e)) (λi hi=>by simpa[vi] using hi)
    rw[hv00] at this
    simpa only[lwR] using this
 ·rw[hVe] at yL0
  simp-implicitDefEqProofs[dU,yL0,hsl]
  refine aH (λa:SlS=>aw 32 [(5,.p (.int .i64 a.i)),(4,.p (.int .i64 vs.length)),(0,.ptr L 8 0 0),(1,.p (smL b))]) (λa=>a.X)
   (λa=>a.i<=b.length/\∃vs1 K1 V1 I1,RS l0 pr L (L::(vi V++I)) I [] h (aZ (faI l0) (-1) (b.take a.i) m up nx w).2.2 (aZ (faI l0) (-1) (b.take a.i) m up nx w).2.1 vs1 a.X K1 V1 I1/\vs1.take vs.length=vs/\vs.length<=vs1.length/\vs1.length<=vs.length+a.i/\rgV vs1=scF (-1) ((aZ (faI l0) (-1) (b.take a.i) m up nx w).1::up)) (λa=>b.length-a.i) ⟨0,h⟩ ⟨Nat.zero_le _,vs,K,V,I,by rw[List.take_zero,aZ];exact T,by rw[List.take_length],Nat.le_refl _,by simp,by rw[List.take_zero,aZ];exact hrg⟩ ?_ ?_
  ·exact ab (Nat.le_refl _) (by simp[below,hsl,T.stb.ls.lt])
  rintro⟨i,X⟩ ⟨hi,vs1,K1,V1,I1,T1,p1,p2,p3,p4⟩
  simp only at hi T1 p3 p4
  have hXL:=T1.stb.ls.lt
  simp-implicitDefEqProofs[hsl]
  refine aF (λhc=>?_) (λhc=>?_)
  ·simp at hc
   have hg:=List.getElem?_eq_getElem hc
   have hm:=List.getElem_mem hc
   have htk:=vD (fa:=faI l0) (d:= -1) hc m up nx w
   have hok1:=eu (faI l0) (-1) (b.take i) m up nx w B hok
   have hzt:aO (b.take i)+b[i].sz<=aO b:=by
    have h1:=List.take_append_drop (i+1) b
    have h2:aO b=aO (b.take (i+1))+aO (b.drop (i+1)):=by
     conv=>lhs;rw[←h1]
     rw[cz]
    rw[ay hc,cz] at h2
    simp only[aO] at h2
    omega
   have htl:i<=aO (b.take i):=by
    have:=dY (b.take i)
    rw[List.length_take] at this
    omega
   have hst:=hs b[i] hm
   generalize b[i]=s at hg hm htk hzt hst
   have hsc:=s.cs_eq
   generalize aZ (faI l0) (-1) (b.take i) m up nx w=cur at*
   obtain⟨mc,nc,wc⟩:=cur
   simp only at htk hok1 T1 p4
   obtain⟨okc,_,_,hnc⟩:=hok1
   have hcall:=hst wc X K1 V1 I1 _ vs1 nc mc up T1.start okc (by omega) (by omega) (by omega) p4
   rw[hsc] at hcall
   simp-implicitDefEqProofs[hg,hsc]
   refine hcall.mono ?_
   rintro r X2 ⟨rfl,vs2,K2,V2,I2,T2,q1,q2,q3,q4⟩
   obtain⟨T3,_⟩:=T1.lift T2
   simp-implicitDefEqProofs[aa]
   refine⟨⟨i+1,X2⟩,⟨by simp only;omega,vs2,⟨K2,V2,I2,by rw[htk];exact T3⟩,?_,by omega,by simp only;omega,by rw[htk];exact q4⟩,by simp only;omega,ab (Nat.le_trans T1.stb.fr.1 T2.stb.fr.1) ?_⟩
   ·rw[←q1,List.take_take,Nat.min_eq_left p2] at p1
    exact p1
   ·simp[below,hsl,show IntKind.i64.wrap ((i:Int)+1)=(i:Int)+1 from ae (by omega) (by omega)]
    exact T3.stb.ls.lt
  ·simp at hc
   have hie:i=b.length:=by omega
   subst hie
   rw[List.take_length] at T1
   have yL:=T1.stb.ls.here
   simp only[lwR] at yL
   have fin:∀V2,VAt (X.set L (lwR l0 pr V2 (aZ (faI l0) (-1) b m up nx w).2.1 (aZ (faI l0) (-1) b m up nx w).2.2 K1)) V2 vs->(∀i∈vi V2,i∈vi V1)->RS l0 pr L (L::(vi V++I)) I [] h (aZ (faI l0) (-1) b m up nx w).2.2 (aZ (faI l0) (-1) b m up nx w).2.1 vs (X.set L (lwR l0 pr V2 (aZ (faI l0) (-1) b m up nx w).2.1 (aZ (faI l0) (-1) b m up nx w).2.2 K1)) K1 V2 I1:=λV2 hv2 hs2=>(T1.alt (by simp) (List.getElem?_set_self T1.stb.ls.lt) (λi hi hn _=>List.getElem?_set_ne (Ne.symm hn)) hv2 (λi hi=> .inl (hs2 i hi))).1
   have va:=T1.va
   have vd:=T1.at.2
   cases va with
   |nil=>
    have hv0:vs=[]:=List.length_eq_zero_iff.1 (by simpa using p2)
    have hv1:vs.length=0:=by rw[hv0];rfl
    simp-implicitDefEqProofs[yL,hv1]
    exact⟨K1,.nils,I1,by have:=fin .nils (by rw[hv0];exact .nil) (λi hi=>hi);simpa only[lwR] using this⟩
   |sl vid rows _ h1 h2=>
    have hvl2:vs1.length<=rows.length:=by
     have:=congrArg List.length h2
     rw[List.length_take,List.length_map] at this
     omega
    have hne:vid≠L:=λe=>(vd vid (by simp[vi])).2 (by rw[e];simp)
    simp-implicitDefEqProofs[yL,h1,p2]
    refine⟨K1,.sl vid 3 0 vs.length,I1,?_⟩
    have:=fin (.sl vid 3 0 vs.length) (.sl vid rows vs (by rw[List.getElem?_set_ne (Ne.symm hne)];exact h1) (by
     have e:=congrArg (List.take vs.length) h2
     rw[List.take_take,Nat.min_eq_left p2,←List.map_take,p1] at e
     exact e)) (λi hi=>by simpa[vi] using hi)
    simpa only[lwR] using this
theorem FP(l0:List Fd)(hl0:l0.length<=1073741824)(pr:Int)(L:Nat):∀(d:Nat) (b:List Sm),(∀s∈b,aR d s=true)->Ew G l0 pr L b:=by
 intro d
 induction d with
 |zero=>
  intro b hb
  refine uk G l0 pr L b λs hs=>?_
  have:=hb s hs
  cases this
 |succ d ih=>
  intro b hb
  refine uk G l0 pr L b λs hs=>?_
  have hf:=hb s hs
  exact IF G l0 hl0 pr L s (Lh hf) (GJ hf) (ih s.body (GQ hf)) (ih s.els (IC hf))
end
section
theorem BE(nf:Bool)(id n:Nat):(vaC nf id n).isCell=true:=by cases nf<;>rfl
theorem EB(nf:Bool)(id n:Nat):(vaC nf id n).cells=[vaC nf id n]:=by cases nf<;>rfl
attribute [simp ↓] BE EB
variable (G:az)
end
section
def w0(fns:List Fd)(k:Nat)(f:Fd):WS:=⟨[],0,if uT fns f.name=some k then 0 else 2⟩
variable (G:az)
end
section
def AX(b0:AO)(fns:List Fd)(k:Nat)(up:List GS)(gap:List AO)(c:Int):List AO:=b0::cO fns k c::(scH up++gap)
variable (G:az)
end
section
abbrev BL:Nat:=9223372036854775807
theorem Fd.cs_eq'(f:Fd):f.cs=[.str f.name,bO f.params,smL f.body]:=rfl
variable (G:az)
end
section
theorem DO:∀(a b:List (List UInt8)) (m:Scp) (i:Nat),psS (a++b) m i=psS b (psS a m i) (i+a.length)
 |[],b,m,i=>by simp[psS]
 |p::r,b,m,i=>by rw[List.cons_append,psS,psS,DO r];simp;congr 1;omega
theorem Fa{l:List (List UInt8)}{i:Nat}(h:i<l.length)(m:Scp):psS (l.take (i+1)) m 0=nP (psS (l.take i) m 0) l[i] i:=by
 rw[ay h,DO,psS,psS,List.length_take,Nat.min_eq_left (by omega),Nat.zero_add]
variable (G:az)
end
section
def rL(l:List Cd):List (List AV):=l.map λc=>c.cs.map .p
theorem Cd.cs_eq'(c:Cd):c.cs=[.int .i64 c.params,.int .i64 c.regs,bkL c.blocks]:=rfl
variable (G:az)
end
section
variable (G:az)
theorem pW(b:Bool):VF Tryz.prog G en [.p (.bool b)] (.p (.int .i64 (if b then 1 else 0))):=by
 refine AC.go uy ?_
 cases b<;>simp-implicitDefEqProofs[lh]
end
section
theorem pO:∀a b:List Sm,bj (a++b)=bj a+bj b
 |[],b=>by simp[bj]
 |s::r,b=>by rw[List.cons_append,bj,bj,pO r b,Nat.add_assoc]
theorem CD{l:List Sm}{i:Nat}(h:i<l.length):bj (l.take (i+1))=bj (l.take i)+EQ l[i]:=by rw[ay h,pO,bj,bj];rfl
theorem AF(l:List Sm)(i:Nat):bj (l.take i)<=bj l:=by
 have:=pO (l.take i) (l.drop i)
 rw[List.take_append_drop] at this
 omega
variable (G:az)
theorem Ho:∀(k:Nat) (l:List Sm),aO l<=k->k<=1099511627776->VF Tryz.prog G dI [.p (smL l)] (.p (.int .i64 (bj l))):=by
 intro k
 induction k with
 |zero=>
  intro l hl _
  have:l=[]:=by
   cases l with
   |nil=>rfl
   |cons s r=>have:=s.sz_eq;simp only[aO] at hl;omega
  subst this
  refine AC.go mP ?_
  have hsl:smL []= .lst 5 []:=rfl
  simp-implicitDefEqProofs[jk,hsl]
  refine aH (λ_:Unit=>aw 35 [(0,.p (.lst 5 [])),(3,.p (.int .i64 0)),(4,.p (.int .i64 0))]) (λ_=>[]) (λ_=>True) (λ_=>0) () trivial (aU rfl (by simp[below])) ?_
  intro _ _
  simp-implicitDefEqProofs[bj]
 |succ k ih=>
  intro l hl hk
  have hll:=dY l
  have hnz:=Nat.le_trans (jv l) (iI l)
  refine AC.go mP ?_
  have hsl:∀l,smL l= .lst 5 (l.map Sm.cs):=λ_=>rfl
  simp-implicitDefEqProofs[jk,hsl]
  refine aH (λi:Nat=>aw 35 [(0,.p (smL l)),(3,.p (.int .i64 (bj (l.take i)))),(4,.p (.int .i64 i))]) (λ_=>[]) (λi=>i<=l.length) (λi=>l.length-i) 0 (by simp) (aU rfl (by simp[below,hsl,bj])) ?_
  intro i hi
  have k2:=AF l i
  simp-implicitDefEqProofs[hsl]
  refine aF (λh=>?_) (λh=>?_)
  ·simp at h
   have hg:=List.getElem?_eq_getElem h
   have hks:=oA (List.getElem_mem h)
   have hse:=l[i].sz_eq
   have hce:=l[i].cs_eq
   have k1:=CD h
   have k4:=AF l (i+1)
   have k5:=HY l[i]
   have hb:=ih l[i].body (by omega) (by omega)
   have he:=ih l[i].els (by omega) (by omega)
   generalize l[i]=s at*
   generalize bj (l.take i)=n at*
   obtain⟨n2,hn2⟩:∃n2,n2=bj (l.take (i+1)):=⟨_,rfl⟩
   rw[←hn2] at k1 k4
   by_cases ho:s.op=1
   ·rw[if_pos ho] at k5
    simp-implicitDefEqProofs[hg,hce,ho]
    refine(pW G true).use ?_
    have w0':IntKind.i64.wrap ((n:Int)+1)=(n:Int)+1:=ae (by omega) (by omega)
    simp-implicitDefEqProofs[hg,hce,w0']
    refine hb.use ?_
    have w1':IntKind.i64.wrap ((n:Int)+1+(bj s.body:Int))=(n:Int)+1+(bj s.body:Int):=ae (by omega) (by omega)
    simp-implicitDefEqProofs[hg,hce,w1']
    refine he.use ?_
    have w2':IntKind.i64.wrap ((n:Int)+1+(bj s.body:Int)+(bj s.els:Int))=(n2:Int):=by rw[ae (by omega) (by omega)];omega
    simp-implicitDefEqProofs[w2']
    exact⟨i+1,h,by omega,aU rfl (by simp[below,hsl,←hn2,w1 (i:=i) (by omega)])⟩
   ·rw[if_neg ho] at k5
    simp-implicitDefEqProofs[hg,hce,ho]
    refine(pW G false).use ?_
    have w0':IntKind.i64.wrap (n:Int)=(n:Int):=ae (by omega) (by omega)
    simp-implicitDefEqProofs[hg,hce,w0']
    refine hb.use ?_
    have w1':IntKind.i64.wrap ((n:Int)+(bj s.body:Int))=(n:Int)+(bj s.body:Int):=ae (by omega) (by omega)
    simp-implicitDefEqProofs[hg,hce,w1']
    refine he.use ?_
    have w2':IntKind.i64.wrap ((n:Int)+(bj s.body:Int)+(bj s.els:Int))=(n2:Int):=by rw[ae (by omega) (by omega)];omega
    simp-implicitDefEqProofs[w2']
    exact⟨i+1,h,by omega,aU rfl (by simp[below,hsl,←hn2,w1 (i:=i) (by omega)])⟩
  ·simp at h
   rw[List.take_of_length_le h]
   simp-implicitDefEqProofs[]
section
variable {l:List Fd} {pr:Int} {L:Nat} {S I0 E:List Nat} {h:List AO} {w:Lw} {nx:Nat} {vs:Vs} {X:List AO} {K V:AV} {I:List Nat}
theorem Ib(T:RS l pr L S I0 E h w nx vs X K V I)(hw:w.regs<=1073741824):
 AC Tryz.prog G bv [.ptr L 8 0 0] X λx h'=>x= .ret (.p (.int .i64 w.regs))/\∃K' I',RS l pr L S I0 E h w.reg nx vs h' K' V I'/\∀i∈E,h'[i]?=X[i]?:=
 (jH G T.stb.ls hw).mono λx h' ⟨a,b⟩=>⟨a,T.step (J:=[]) (λj hj=>by cases hj) (by rw[List.append_nil];exact b)⟩
theorem Le(T:RS l pr L S I0 E h w nx vs X K V I){B:Nat}(hok:w.Ok B)(hB:B<=1073741824)(op to n:Int):
 AC Tryz.prog G bR [.ptr L 8 0 0,.p (.int .i64 op),.p (.int .i64 to),.p (.int .i64 n),.sl X.length 1 0 0] (X++[.row 1 []]) λr h'=>r= .ret (.p (.int .i64 to))/\∃K' I',RS l pr L S I0 E h (w.put ⟨op,to,[],n⟩) nx vs h' K' V I'/\∀i∈E,h'[i]?=X[i]?:=by
 obtain⟨f1,f2⟩:=T.fresh
 refine(nJ G (T.stb.ls.more [.row 1 []]) hok hB ⟨op,to,[],n⟩ (gk X ([]:List Int) rfl) (by simp) f2).mono λr h' ⟨e,b⟩=>⟨e,?_⟩
 obtain⟨K2,I2,a1,a2⟩:=(T.more [_]).step f1 b
 exact⟨K2,I2,a1,λi hi=>(a2 i hi).trans (List.getElem?_append_left (T.at.1 i hi).1)⟩
theorem Ie(T:RS l pr L S I0 E h w nx vs X K V I){B:Nat}(hok:w.Ok B)(j o:Int)(g:Nat){gI:Int}(hg:gI=(g:Int)):
 AC Tryz.prog G bp [.ptr L 8 0 0,.p (.int .i64 j),.p (.int .i64 o),.sl X.length 1 0 0,.p (.int .i64 gI)] (X++[.row 1 []]) λr h'=>r= .ret (.tup [])/\∃K' I',RS l pr L S I0 E h (w.fin j o g []) nx vs h' K' V I'/\∀i∈E,h'[i]?=X[i]?:=by
 obtain⟨f1,f2⟩:=T.fresh
 rw[hg]
 refine(mi G (T.stb.ls.more [.row 1 []]) hok j o g [] (gk X ([]:List Int) rfl) (by simp) f2).mono λr h' ⟨e,b⟩=>⟨e,?_⟩
 obtain⟨K2,I2,a1,a2⟩:=(T.more [_]).step f1 b
 exact⟨K2,I2,a1,λi hi=>(a2 i hi).trans (List.getElem?_append_left (T.at.1 i hi).1)⟩
theorem EG{n:Nat}(hg:X[L]?=some (.row 8 [[.p (fdL l),.p (.int .i64 pr),.p (.int .i64 n),.nils,.p (.int .i64 0),V,.p (.int .i64 nx),.nils]]))(hV:V.cells=[V]/\V.isCell=true):
 AC Tryz.prog G bT [.ptr L 8 0 0] X λr h'=>r= .ret (.p (.int .i64 0))/\∃K I,LS (lwR l pr V nx) L ⟨n,[bk0],0⟩ h' K I/\Frm [L] X h'/\∀j∈I,X.length<=j:=by
 have hLl:=(List.getElem?_eq_some_iff.1 hg).1
 obtain⟨v1,v2⟩:=hV
 have hgt:∀t,(X++t)[L]?=some (.row 8 [[.p (fdL l),.p (.int .i64 pr),.p (.int .i64 n),.nils,.p (.int .i64 0),V,.p (.int .i64 nx),.nils]]):=λt=>by rw[List.getElem?_append_left hLl];exact hg
 have hs3:∀t o,((X++t).set L o)[L]?=some o:=λt o=>List.getElem?_set_self (by simp;omega)
 refine AC.go gS ?_
 simp-implicitDefEqProofs[-AV.cells,-AV.isCell,aE,ag,ah,am,aj,aD,af,an,al,v1,v2,dR,hg,hgt, ↓hs3]
 have key:∀o1:AO,∃K I,LS (lwR l pr V nx) L ⟨n,[bk0],0⟩ ((X++[.row 2 [],.row 4 [],.row 1 [],o1,.row 5 [[.sl X.length 2 0 0,.sl (X.length+1) 4 0 0,.p (.int .i64 0),.p (.int .i64 0),.sl (X.length+2) 1 0 0]]]).set L (lwR l pr V nx ⟨n,[bk0],0⟩ (.sl (X.length+4) 5 0 1))) K I/\Frm [L] X ((X++[.row 2 [],.row 4 [],.row 1 [],o1,.row 5 [[.sl X.length 2 0 0,.sl (X.length+1) 4 0 0,.p (.int .i64 0),.p (.int .i64 0),.sl (X.length+2) 1 0 0]]]).set L (lwR l pr V nx ⟨n,[bk0],0⟩ (.sl (X.length+4) 5 0 1)))/\∀j∈I,X.length<=j:=λo1=>by
  obtain⟨H,hH⟩:∃H,H=((X++[.row 2 [],.row 4 [],.row 1 [],o1,.row 5 [[.sl X.length 2 0 0,.sl (X.length+1) 4 0 0,.p (.int .i64 0),.p (.int .i64 0),.sl (X.length+2) 1 0 0]]]).set L (lwR l pr V nx ⟨n,[bk0],0⟩ (.sl (X.length+4) 5 0 1))):=⟨_,rfl⟩
  have g:∀k,H[X.length+k]?=[AO.row 2 [],.row 4 [],.row 1 [],o1,.row 5 [[.sl X.length 2 0 0,.sl (X.length+1) 4 0 0,.p (.int .i64 0),.p (.int .i64 0),.sl (X.length+2) 1 0 0]]][k]?:=λk=>by
   rw[hH,List.getElem?_set_ne (by omega),List.getElem?_append_right (by omega)]
   rw[Nat.add_sub_cancel_left]
  rw[←hH]
  have hr:RowOwn false H (X.length+4) 5 [[.sl X.length 2 0 0,.sl (X.length+1) 4 0 0,.p (.int .i64 0),.p (.int .i64 0),.sl (X.length+2) 1 0 0]] [bk0.cs] [X.length,X.length+1,X.length+2]:=
   ⟨g 4,rfl,by simp,by simp[bk0,Bk.cs],by rw[List.flatten_singleton,List.flatten_singleton];exact DA (g 0) (g 1) (g 2),by simp⟩
  refine⟨_,_,⟨by rw[hH];exact List.getElem?_set_self (by simp;omega),hr.tree rfl,by simp;omega,λq e=>(by cases e),λkid n2 rows2 eK hg2 r hr2=>?_⟩,⟨by rw[hH];simp,λi hi hn=>?_⟩,λj hj=>?_⟩
  ·cases eK
   rw[hr.here] at hg2
   cases hg2
   rw[List.mem_singleton.1 hr2]
   intro q;simp
  ·rw[hH,List.getElem?_set_ne (λe=>hn (by simp[e])),List.getElem?_append_left hi]
  ·simp only[List.mem_cons,List.not_mem_nil,or_false] at hj
   omega
 have e:=key (.row 5 [[.sl X.length 2 0 0,.sl (X.length+1) 4 0 0,.p (.int .i64 0),.p (.int .i64 0),.sl (X.length+2) 1 0 0]])
 exact⟨ae (by omega) (by omega),e⟩
end
structure PvS where (i:Nat) (X:List AO)
theorem IY{vs:Vs}{ps:List (List UInt8)}{i:Nat}(hi:i<ps.length)(hl:vs.length=i)(h:rgV vs=scF (-1) [psS (ps.take i) [] 0]):rgV (vs++[(ps[i],i)])=scF (-1) [psS (ps.take (i+1)) [] 0]:=by
 funext t
 simp only[uc,h,Fa hi,scF,yO,om]
 by_cases hst:ps[i]=t
 ·simp[hst]
 ·simp[hst]
theorem JZ(l:List Fd)(hl:l.length<=1073741824)(k:Nat)(f:Fd)(hk:l[k]?=some f)(hz:f.sz<=16777216)(hf:∀x∈f.body,aR 4 x=true):AC Tryz.prog G iR [.agg [.p (fdL l)],.p (.int .i64 k)] [] (MkW .agg false (lwF l (-1) f).cs):=by
 have hfc:=f.cs_eq'
 have hfl:fdL l= .lst 3 (l.map Fd.cs):=rfl
 have hlk:=(List.getElem?_eq_some_iff.1 hk).1
 have hfz:f.sz=1+f.name.length+(f.params.length+(f.params.map List.length).sum)+aO f.body:=rfl
 have hst:bO f.params= .lst 1 (f.params.map λw=>[.str w]):=rfl
 have hlet:=Nat.le_trans (jv f.body) (iI f.body)
 refine AC.go Al ?_
 simp-implicitDefEqProofs[ro,hfl,hk,hfc,hst]
 rw[←hfl]
 refine(Ho G _ f.body (Nat.le_refl _) (by omega)).use ?_
 have hwl:IntKind.i64.wrap ((f.params.length:Int)+(bj f.body:Int))=((f.params.length+bj f.body:Nat):Int):=by rw[ae (by omega) (by omega)];omega
 simp-implicitDefEqProofs[hst,hwl]
 obtain⟨n,hn⟩:∃n:Nat,n=f.params.length+bj f.body:=⟨_,rfl⟩
 have hnI:(f.params.length:Int)+(bj f.body:Int)=n:=by omega
 rw[hnI]
 refine aH (λa:PvS=>aw 80 [(4,.ptr 1 3 0 0),(5,.ptr 2 3 0 0),(6,.ptr 3 8 0 0),(7,.p (.int .i64 a.i))]) (λa=>a.X)
  (λa=>a.i<=f.params.length/\4<=a.X.length/\a.X[1]?=some (.row 3 [[.p (.int .i64 0),.p (.int .i64 0),.nils]])/\a.X[2]?=some (.row 3 [[.p (.str f.name),.p (.lst 1 (f.params.map λw=>[.str w])),.p (smL f.body)]])/\∃V vs,a.X[3]?=some (.row 8 [[.p (fdL l),.p (.int .i64 f.params.length),.p (.int .i64 n),.nils,.p (.int .i64 0),V,.p (.int .i64 f.params.length),.nils]])/\VAt a.X V vs/\(∀i∈vi V,4<=i)/\vs.length=a.i/\rgV vs=scF (-1) [psS (f.params.take a.i) [] 0]) (λa=>f.params.length-a.i)
  ⟨0,[.row 1 [[.p (fdL l)]],.row 3 [[.p (.int .i64 0),.p (.int .i64 0),.nils]],.row 3 [[.p (.str f.name),.p (.lst 1 (f.params.map λw=>[.str w])),.p (smL f.body)]],.row 8 [[.p (fdL l),.p (.int .i64 f.params.length),.p (.int .i64 n),.nils,.p (.int .i64 0),.nils,.p (.int .i64 f.params.length),.nils]]]⟩ ⟨Nat.zero_le _,by simp,rfl,rfl,.nils,[],rfl,.nil,(λi hi=>by cases hi),rfl,rfl⟩ ?_ ?_
 ·exact ab (by simp) (by simp[below])
 rintro⟨i,X⟩ ⟨hi,hX4,hx1,hx2,V,vs,hx3,hV,hVi,hvl,hrg⟩
 simp only at hi hX4 hx1 hx2 hx3 hV hvl hrg
 obtain⟨v1,v2,v3⟩:=hV.is
 simp-implicitDefEqProofs[hx2]
 refine aF (λhc=>?_) (λhc=>?_)
 ·simp at hc
  have hg:=List.getElem?_eq_getElem hc
  have hrg2:=IY hc hvl hrg
  generalize f.params[i]=p at hg hrg2
  have hwi:=w1 (i:=i) (by omega)
  have hX2m:∀t,(X++t)[2]?=some (.row 3 [[.p (.str f.name),.p (.lst 1 (f.params.map λw=>[.str w])),.p (smL f.body)]]):=λt=>by rw[List.getElem?_append_left (by omega)];exact hx2
  cases hV with
  |nil=>
   have hvi:i=0:=hvl.symm
   subst hvi
   have hX3m:∀t,(X++t)[3]?=some (.row 8 [[.p (fdL l),.p (.int .i64 f.params.length),.p (.int .i64 n),.nils,.p (.int .i64 0),.nils,.p (.int .i64 f.params.length),.nils]]):=λt=>by rw[List.getElem?_append_left (by omega)];exact hx3
   simp-implicitDefEqProofs[hx2,hx3,hg,hX3m,hX2m]
   have hw11:IntKind.i64.wrap 1=1:=ae (by omega) (by omega)
   refine⟨⟨1,_⟩,⟨by simp only;omega,?_,?_,?_,.sl X.length 3 0 1,?_,[(p,0)],?_,?_,rfl,by simpa using hrg2⟩,by simp only;omega,ab ?_ ?_⟩
   rotate_left 6
   ·exact Nat.zero_le _
   ·simp[below,hw11]
    omega
   ·simp;omega
   ·rw[List.getElem?_set_ne (by omega),List.getElem?_append_left (by omega)];exact hx1
   ·rw[List.getElem?_set_ne (by omega),List.getElem?_append_left (by omega)];exact hx2
   ·exact List.getElem?_set_self (by simp;omega)
   ·exact .sl _ [nN (p,0)] [(p,0)] (by rw[List.getElem?_set_ne (by omega),List.getElem?_append_right (Nat.le_refl _)];simp[nN]) rfl
   ·intro j hj;rw[List.mem_singleton.1 hj];exact hX4
  |sl vid rows _ hv1 hv2=>
   have hvX:=(List.getElem?_eq_some_iff.1 hv1).1
   have hv4:=hVi vid (by simp[vi])
   have hvk:vs.length<=rows.length:=by
    have:=congrArg List.length hv2
    rw[List.length_take,List.length_map] at this
    omega
   have hX3m:∀t,(X.set vid .dead++t)[3]?=X[3]?:=λt=>by rw[List.getElem?_append_left (by simp;omega),List.getElem?_set_ne (by omega)]
   have hX2n:∀t,(X.set vid .dead++t)[2]?=X[2]?:=λt=>by rw[List.getElem?_append_left (by simp;omega),List.getElem?_set_ne (by omega)]
   simp-implicitDefEqProofs[hx2,hx3,hg,hv1,hv2, ↓hX3m, ↓hX2n,hwi]
   refine⟨⟨by omega,by omega⟩,⟨i+1,_⟩,⟨by simp only;omega,?_,?_,?_,.sl X.length 3 0 (vs.length+1),?_,vs++[(p,i)],?_,?_,by simp;omega,hrg2⟩,by simp only;omega,ab ?_ ?_⟩
   rotate_left 6
   ·exact Nat.zero_le _
   ·simp[below,hwi]
    omega
   ·simp;omega
   ·rw[List.getElem?_set_ne (by omega),List.getElem?_append_left (by simp;omega),List.getElem?_set_ne (by omega)];exact hx1
   ·rw[List.getElem?_set_ne (by omega),List.getElem?_append_left (by simp;omega),List.getElem?_set_ne (by omega)];exact hx2
   ·exact List.getElem?_set_self (by simp;omega)
   ·have hlv:(vs++[(p,i)]).length=vs.length+1:=by simp
    exact hlv▸ .sl _ (vs.map nN++[nN (p,i)]) (vs++[(p,i)]) (by rw[List.getElem?_set_ne (by omega),List.getElem?_append_right (by simp)];simp[nN]) (by rw[List.take_of_length_le (by simp)];simp)
   ·intro j hj;rw[List.mem_singleton.1 hj];exact hX4
 ·simp at hc
  have hie:i=f.params.length:=by omega
  subst hie
  rw[List.take_length] at hrg
  simp-implicitDefEqProofs[]
  refine(EG G hx3 ⟨v1,v2⟩).mono ?_
  rintro x X1 ⟨rfl,K1,I1,H1,hfr,hI1⟩
  have hl1:=hfr.1
  have va1:VAt X1 V vs:=hV.frame λi hi=>hfr.2 i (hV.lt i hi) (by have:=hVi i hi;simp;omega)
  have T1':=RS.of H1 va1 (λi hi=>by
   have h4:=hVi i hi
   have h5:=hV.lt i hi
   simp only[List.mem_cons,not_or]
   exact⟨by omega,λhm=>by have:=hI1 i hm;omega⟩)
  have T1:=T1'.add (j:=1) (by omega) (by
   simp only[List.mem_cons,not_or]
   exact⟨by omega,λhm=>by have:=hI1 1 hm;omega⟩) (λhm=>by have:=hVi 1 hm;omega)
  have b1:X1[1]?=some (.row 3 [[.p (.int .i64 0),.p (.int .i64 0),.nils]]):=(hfr.2 1 (by omega) (by simp)).trans hx1
  have b2:X1[2]?=some (.row 3 [[.p (.str f.name),.p (.lst 1 (f.params.map λw=>[.str w])),.p (smL f.body)]]):=(hfr.2 2 (by omega) (by simp)).trans hx2
  have ok1:(⟨n,[bk0],0⟩:Lw).Ok (f.sz+1):=⟨by show n<=_;omega,by show 1<=_;omega,λb hb=>by rw[List.mem_singleton.1 hb];show 0<=_;omega,by show 0<1;omega⟩
  simp-implicitDefEqProofs[aa,b2]
  obtain⟨y,hy⟩:∃y,y=aZ (faI l) (-1) f.body (psS f.params [] 0) [] f.params.length ⟨n,[bk0],0⟩:=⟨_,rfl⟩
  have h2:=sf G (FP G l hl f.params.length 3 4 f.body hf) T1 ok1 (by omega) (by omega) (by omega) hrg
  have ok2:=eu (faI l) (-1) f.body (psS f.params [] 0) [] f.params.length ⟨n,[bk0],0⟩ _ ok1
  rw[←hy] at h2 ok2
  refine h2.mono ?_
  rintro x X2 ⟨rfl,K2,V2,I2,T2,e2⟩
  obtain⟨ok2,_,_,_⟩:=ok2
  have b1:=(e2 1 (by simp)).trans b1
  simp-implicitDefEqProofs[aa]
  refine(Ib G T2 (by have:=ok2.regs;omega)).mono ?_
  rintro x X3 ⟨rfl,K3,I3,T3,e3⟩
  have b1:=(e3 1 (by simp)).trans b1
  have ok3:=ok2.reg
  simp-implicitDefEqProofs[aa]
  refine(Le G T3 ok3 (by omega) 1 y.2.2.regs 0).mono ?_
  rintro x X4 ⟨rfl,K4,I4,T4,e4⟩
  have b1:=(e4 1 (by simp)).trans b1
  have ok4:=ok3.put ⟨1,y.2.2.regs,[],0⟩
  simp-implicitDefEqProofs[aa]
  refine(Ie G T4 ok4 3 y.2.2.regs 0 rfl).mono ?_
  rintro x X5 ⟨rfl,K5,I5,T5,e5⟩
  have b1:=(e5 1 (by simp)).trans b1
  have l5:=T5.stb.ls.here
  simp only[lwR] at l5
  obtain⟨k1,k2⟩:=kx T5.stb.ls.own
  have hs1:∀o,(X5.set 1 o)[1]?=some o:=λo=>List.getElem?_set_self (T5.at.1 1 (by simp)).1
  simp-implicitDefEqProofs[-AV.cells,-AV.isCell,aE,ag,ah,am,aj,aD,af,an,al,k1,k2,aa,l5,b1, ↓hs1]
  have hres:lwF l (-1) f=⟨f.params.length,((y.2.2.reg.put ⟨1,y.2.2.regs,[],0⟩).fin 3 y.2.2.regs 0 []).regs,((y.2.2.reg.put ⟨1,y.2.2.regs,[],0⟩).fin 3 y.2.2.regs 0 []).bs⟩:=by
   rw[lwF,←hn,←hy];rfl
  rw[hres]
  refine⟨_,I5,rfl,.p _ (λ_=>rfl) (.p _ (λ_=>rfl) (T5.stb.ls.own.frame λi hi=>List.getElem?_set_ne λe=>(T5.at.1 1 (by simp)).2 (by rw[e];exact List.mem_cons_of_mem _ hi))),(List.nodup_cons.1 T5.stb.ls.nd).2⟩
theorem Jz(l:List Fd)(hl:l.length<=1073741824)(k:Nat)(f:Fd)(hk:l[k]?=some f)(hz:f.sz<=16777216)(hf:∀x∈f.body,aR 4 x=true):VF Tryz.prog G iR [.agg [.p (fdL l)],.p (.int .i64 k)] (.agg ((lwF l (-1) f).cs.map .p)):=
 AC.mkFreeze sk (JZ G l hl k f hk hz hf)
def unR(l:List Fd):List Cd:=l.map (lwF l (-1))
structure UnS where (i:Nat) (X:List AO)
theorem Hq(l:List Fd)(hz:cw l<=16777216)(hf:∀f∈l,∀x∈f.body,aR 4 x=true):VF Tryz.prog G fu [.agg [.p (fdL l)]] (.agg [.p (cdL (unR l))]):=by
 have hfl:fdL l= .lst 3 (l.map Fd.cs):=rfl
 have hll:l.length<=cw l:=pf l
 have key:AC Tryz.prog G fu [.agg [.p (fdL l)]] [] λx h=>∃V,x= .ret (.agg [V])/\((V= .nils/\l=[])\/∃id,V= .sl id 3 0 l.length/\h[id]?=some (.row 3 (rL (unR l)))):=by
  refine AC.go uR ?_
  simp-implicitDefEqProofs[mD]
  refine aH (λa:UnS=>aw 22 [(1,.ptr 0 1 0 0),(2,.ptr 1 1 0 0),(3,.ptr 2 1 0 0),(4,.p (.int .i64 a.i))]) (λa=>a.X)
   (λa=>a.i<=l.length/\3<=a.X.length/\a.X[0]?=some (.row 1 [[.p (fdL l)]])/\a.X[1]?=some (.row 1 [[.nils]])/\∃V,a.X[2]?=some (.row 1 [[V]])/\((V= .nils/\a.i=0)\/∃id,V= .sl id 3 0 a.i/\3<=id/\a.X[id]?=some (.row 3 (rL (unR l|>.take a.i))))) (λa=>l.length-a.i)
   ⟨0,[.row 1 [[.p (fdL l)]],.row 1 [[.nils]],.row 1 [[.nils]]]⟩ ⟨Nat.zero_le _,by simp,rfl,rfl,.nils,rfl,.inl ⟨rfl,rfl⟩⟩ ?_ ?_
  ·exact ab (by simp) (by simp[below])
  rintro⟨i,X⟩ ⟨hi,hX3,hx0,hx1,V,hx2,hV⟩
  simp only at hi hX3 hx0 hx1 hx2 hV
  simp-implicitDefEqProofs[hx0,hfl]
  refine aF (λhc=>?_) (λhc=>?_)
  ·simp at hc
   have hg:=List.getElem?_eq_getElem hc
   have hm:=List.getElem_mem hc
   have hfz:=oS hm
   have hcall:=Jz G l (by omega) i l[i] hg (by omega) (hf _ hm)
   have htk:(unR l).take (i+1)=(unR l).take i++[lwF l (-1) l[i]]:=by
    rw[unR,←List.map_take,←List.map_take,ay hc,List.map_append];rfl
   have hcs:=(lwF l (-1) l[i]).cs_eq'
   have hlt:((unR l).take i).length=i:=by simp[unR];omega
   have hwi:=w1 (i:=i) (by omega)
   generalize lwF l (-1) l[i]=c at hcall htk hcs
   rw[hcs] at hcall
   rw[hfl] at hcall
   have hX2:∀t,(X++t)[2]?=some (.row 1 [[V]]):=λt=>by rw[List.getElem?_append_left (by omega)];exact hx2
   rcases hV with⟨rfl,rfl⟩|⟨id,rfl,hid,hxi⟩
   ·simp-implicitDefEqProofs[hx2,hx0,hfl]
    refine hcall.use ?_
    simp-implicitDefEqProofs[hx2,hX2]
    have hw11:IntKind.i64.wrap 1=1:=ae (by omega) (by omega)
    refine⟨⟨1,_⟩,⟨by simp only;omega,?_,?_,?_,.sl (X.length+1) 3 0 1,?_,.inr ⟨X.length+1,rfl,by omega,?_⟩⟩,by simp only;omega,ab ?_ ?_⟩
    rotate_left 5
    ·exact Nat.zero_le _
    ·simp[below,hw11];omega
    ·simp;omega
    ·rw[List.getElem?_set_ne (by omega),List.getElem?_append_left (by omega)];exact hx0
    ·rw[List.getElem?_set_ne (by omega),List.getElem?_append_left (by omega)];exact hx1
    ·exact List.getElem?_set_self (by simp;omega)
    ·rw[htk,List.getElem?_set_ne (by omega),List.getElem?_append_right (by omega)]
     simp[rL,hcs]
   ·have hiX:=(List.getElem?_eq_some_iff.1 hxi).1
    have hX2n:∀t u,((X++t).set id .dead++u)[2]?=X[2]?:=λt u=>by rw[List.getElem?_append_left (by simp;omega),List.getElem?_set_ne (by omega),List.getElem?_append_left (by omega)]
    have hxim:∀t,(X++t)[id]?=some (.row 3 (rL (List.take i (unR l)))):=λt=>by rw[List.getElem?_append_left hiX];exact hxi
    have htl:List.take i (rL (List.take i (unR l)))=rL (List.take i (unR l)):=List.take_of_length_le (by simp[rL];omega)
    have hcl:(rL (List.take i (unR l))).length=i:=by simp only[rL,List.length_map];exact hlt
    simp-implicitDefEqProofs[hx2,hx0,hfl]
    refine hcall.use ?_
    simp-implicitDefEqProofs[hx2,hX2,hxi,hxim, ↓hX2n,htl,hcl,hwi]
    refine⟨⟨by omega,by omega⟩,⟨i+1,_⟩,⟨by simp only;omega,?_,?_,?_,.sl (X.length+1) 3 0 (i+1),?_,.inr ⟨X.length+1,rfl,by omega,?_⟩⟩,by simp only;omega,ab ?_ ?_⟩
    rotate_left 5
    ·exact Nat.zero_le _
    ·simp[below,hwi];omega
    ·simp;omega
    ·rw[List.getElem?_set_ne (by omega),List.getElem?_append_left (by simp),List.getElem?_set_ne (by omega),List.getElem?_append_left (by omega)];exact hx0
    ·rw[List.getElem?_set_ne (by omega),List.getElem?_append_left (by simp;omega),List.getElem?_set_ne (by omega),List.getElem?_append_left (by omega)];exact hx1
    ·exact List.getElem?_set_self (by simp;omega)
    ·rw[htk,List.getElem?_set_ne (by omega),List.getElem?_append_right (by simp)]
     simp[rL,hcs]
  ·simp at hc
   have hie:i=l.length:=by omega
   subst hie
   have hx1s:∀o,(X.set 1 o)[1]?=some o:=λo=>List.getElem?_set_self (by omega)
   have hul:(unR l).take l.length=unR l:=List.take_of_length_le (by simp[unR])
   rw[hul] at hV
   rcases hV with⟨rfl,h0⟩|⟨id,rfl,hid,hxi⟩
   ·simp-implicitDefEqProofs[hx2,hx1, ↓hx1s]
    exact List.length_eq_zero_iff.1 h0
   ·simp-implicitDefEqProofs[hx2,hx1, ↓hx1s]
    rw[List.getElem?_set_ne (by omega)]
    exact hxi
 refine key.freezeR (λt v h ⟨V,e,_⟩=>by cases e) ?_
 rintro v h ⟨V,e,hV⟩
 cases e
 refine .agg ?_ .nil
 rcases hV with⟨rfl,rfl⟩|⟨id,rfl,hid⟩
 ·exact .one (View.nils 3) .nil
 ·have hh:rL (unR l)=((unR l).map Cd.cs).map (·.map .p):=by simp[rL]
  rw[hh] at hid
  have:=eb (n:=l.length) hid (by simp[unR]) (λx hx=>by obtain⟨b,_,rfl⟩:=List.mem_map.1 hx;rfl)
  exact .one this .nil
end
section
theorem CA{d:Nat}{e:Ex}(h:bU (d+1) e=true):(∀a∈e.kids,bU d a=true)/\(e.op=1\/e.op=2->e.kids=[])/\(e.op=10->∃a b,e.kids=[a,b]):=by
 rw[bU,Bool.and_eq_true] at h
 refine⟨λa ha=>List.all_eq_true.1 h.2 a ha,λho=>?_,λho=>?_⟩
 ·have h:=h.1
  simp only[ln,Bool.and_eq_true,inR,decide_eq_true_eq] at h
  obtain⟨⟨⟨⟨⟨_,h2⟩,_⟩,_⟩,_⟩,_⟩:=h
  rw[loK,if_pos ho,hiK,if_pos ho] at h2
  exact List.length_eq_zero_iff.1 (by omega)
 ·have h:=h.1
  simp only[ln,Bool.and_eq_true,inR,decide_eq_true_eq] at h
  obtain⟨⟨⟨⟨⟨_,h2⟩,_⟩,_⟩,_⟩,_⟩:=h
  rw[ho,show loK 10=2 from rfl,show hiK 10=2 from rfl] at h2
  match e.kids,h2 with
  |[a,b],_=>exact⟨a,b,rfl⟩
  |[],h=>simp at h
  |[_],h=>simp at h
  |_::_::_::r,h=>simp only[List.length_cons] at h;omega
theorem FG{d:Nat}{s:Sm}(h:aR (d+1) s=true):(∀a∈s.args,bU 6 a=true)/\(∀x∈s.body,aR d x=true)/\(∀x∈s.els,aR d x=true)/\(s.op=6->∃a,s.args=[a])/\(¬s.op=5->s.els=[])/\(¬s.op=5->¬s.op=6->s.body=[]):=by
 rw[aR,Bool.and_eq_true,Bool.and_eq_true] at h
 obtain⟨⟨hh,hb⟩,he⟩:=h
 simp only[gd,Bool.and_eq_true,List.all_eq_true,Bool.or_eq_true,decide_eq_true_eq,List.isEmpty_iff] at hh
 refine⟨λa ha=>?_,λx hx=>List.all_eq_true.1 hb x hx,λx hx=>List.all_eq_true.1 he x hx,λh6=>?_,λh5=>?_,λh5 h6=>?_⟩
 ·have:=hh.1.1.1.2 a ha
  rw[rG,Bool.and_eq_true] at this
  exact this.1
 ·have h1:=hh.1.1.1.1.1.1.2
  rw[ky,if_neg (by omega)] at h1
  exact List.length_eq_one_iff.1 h1
 ·rcases hh.1.2 with h|h
  ·exact h
  ·exact(h5 h).elim
 ·rcases hh.2 with(h|h)|h
  ·exact h
  ·exact(h5 h).elim
  ·exact(h6 h).elim
end
section
theorem kb{s:List UInt8}(h:cu s=true):s.length<=4:=by
 simp only[cu,Bool.and_eq_true,decide_eq_true_eq] at h
 exact h.1.2
theorem Cq{e:Ex}(h:ln e=true):e.name.length<=4:=by
 simp only[ln,Bool.and_eq_true] at h
 have h1:=h.1.1.1.2
 have h2:=h.1.1.2
 cases hn:BS e.op with
 |true=>
  rw[hn] at h1
  exact kb (by simpa using h1)
 |false=>
  rw[hn] at h2
  have:e.name=[]:=by simpa using h2
  rw[this];simp
theorem Cs{l:List Ex}(h:∀e∈l,e.sz<=5*e.parts):aS l<=5*iT l:=by
 induction l with
 |nil=>simp[aS]
 |cons e r ih=>
  have h1:=h e (by simp)
  have h2:=ih λx hx=>h x (by simp[hx])
  simp only[aS,iT]
  omega
theorem Fe:∀(d:Nat) (e:Ex),bU d e=true->e.sz<=5*e.parts:=by
 intro d
 induction d with
 |zero=>intro e h;cases h
 |succ d ih=>
  intro e h
  have hk:=(CA h).1
  rw[bU,Bool.and_eq_true] at h
  have hn:=Cq h.1
  have hz:=Cs (l:=e.kids) λa ha=>ih a (hk a ha)
  rw[e.sz_eq,e.parts_eq]
  omega
theorem Is{e:Ex}(h:rG e=true):e.sz<=150:=by
 simp only[rG,Bool.and_eq_true,decide_eq_true_eq] at h
 have:=Fe 6 e h.1
 omega
theorem tZ:∀{l:List Ex},(∀e∈l,e.sz<=150)->aS l<=150*l.length
 |[],_=>by simp[aS]
 |e::r,h=>by
  have h1:=h e (by simp)
  have h2:=tZ (l:=r) λx hx=>h x (by simp[hx])
  simp only[aS,List.length_cons]
  omega
theorem Ff{s:Sm}(h:gd s=true):s.name.length<=4/\aS s.args<=300:=by
 simp only[gd,Bool.and_eq_true] at h
 have ha:=h.1.1.1.2
 have hl:=h.1.1.1.1.1.1.2
 have h1:=h.1.1.1.1.1.2
 have h2:=h.1.1.1.1.2
 refine⟨?_,?_⟩
 ·cases hn:zq s.op with
  |true=>
   rw[hn] at h1
   exact kb (by simpa using h1)
  |false=>
   rw[hn] at h2
   have:s.name=[]:=by simpa using h2
   rw[this];simp
 ·have:=tZ (l:=s.args) λe he=>Is (List.all_eq_true.1 ha e he)
  have hl2:s.args.length<=2:=by
   simp only[decide_eq_true_eq] at hl
   rw[hl,ky];split<;>omega
  omega
theorem sG{l:List Sm}(h:∀s∈l,s.sz<=305*s.cnt):aO l<=305*cF l:=by
 induction l with
 |nil=>simp[aO]
 |cons e r ih=>
  have h1:=h e (by simp)
  have h2:=ih λx hx=>h x (by simp[hx])
  simp only[aO,cF]
  omega
theorem Gi:∀(d:Nat) (s:Sm),aR d s=true->s.sz<=305*s.cnt:=by
 intro d
 induction d with
 |zero=>intro e h;cases h
 |succ d ih=>
  intro s h
  obtain⟨_,hb,he,_⟩:=FG h
  rw[aR,Bool.and_eq_true,Bool.and_eq_true] at h
  obtain⟨hn,ha⟩:=Ff h.1.1
  have h1:=sG (l:=s.body) λx hx=>ih x (hb x hx)
  have h2:=sG (l:=s.els) λx hx=>ih x (he x hx)
  rw[s.sz_eq,s.cnt_eq]
  omega
theorem CN:∀{l:List (List UInt8)},(∀w∈l,w.length<=4)->(l.map List.length).sum<=4*l.length
 |[],_=>by simp
 |w::r,h=>by
  have h1:=h w (by simp)
  have h2:=CN (l:=r) λx hx=>h x (by simp[hx])
  simp only[List.map_cons,List.sum_cons,List.length_cons]
  omega
theorem HO{f:Fd}(h:kO f=true):f.sz<=20+305*cF f.body:=by
 simp only[kO,Bool.and_eq_true,decide_eq_true_eq,List.all_eq_true] at h
 obtain⟨⟨⟨hp,hn⟩,h3⟩,hb⟩:=h
 have h1:=kb hn
 have h2:=CN (l:=f.params) λw hw=>kb (hp w hw)
 have h4:=sG (l:=f.body) λx hx=>Gi 4 x (hb x hx)
 rw[Fd.sz]
 omega
theorem sV:∀{l:List Fd},(∀f∈l,kO f=true)->cw l<=20*l.length+305*py l
 |[],_=>by simp[cw]
 |f::r,h=>by
  have h1:=HO (h f (by simp))
  have h2:=sV (l:=r) λx hx=>h x (by simp[hx])
  simp only[cw,py,List.map_cons,List.sum_cons,List.length_cons] at h2⊢
  omega
theorem yN{l:List Fd}(h:cP l=true):cw l<=12280:=by
 rw[nA] at h
 obtain⟨⟨_,h4⟩,hf,hn⟩:=h
 have:=sV hf
 omega
theorem Aq{l:List Fd}(h:cP l=true):∀f∈l,∀x∈f.body,aR 4 x=true:=λf hf x hx=>by
 rw[nA] at h
 have h1:=h.2.1 f hf
 simp only[kO,Bool.and_eq_true,List.all_eq_true] at h1
 exact h1.2 x hx
def Lw.Ar(A:Nat)(w:Lw):Prop:=∀b∈w.bs,b.phis=[]/\b.next.length<=2/\∀x∈b.ins,x.args.length<=A
theorem Ae{f:Bk->Bk}{l:List Bk}{i:Nat}{b:Bk}(h:b∈modB f l i):b∈l\/∃c∈l,b=f c:=by
 unfold modB at h
 split at h
 ·rename_i c hc
  rcases List.mem_or_eq_of_mem_set h with h|h
  ·exact .inl h
  ·exact .inr ⟨c,List.mem_of_getElem? hc,h⟩
 ·exact .inl h
theorem Lw.Ar.put{A:Nat}{w:Lw}(H:w.Ar A){x:Ii}(hx:x.args.length<=A):(w.put x).Ar A:=λb hb=>by
 rcases Ae hb with h|⟨c,hc,rfl⟩
 ·exact H b h
 ·obtain⟨h1,h2,h3⟩:=H c hc
  refine⟨h1,h2,λy hy=>?_⟩
  rcases List.mem_append.1 hy with h|h
  ·exact h3 y h
  ·rw[List.mem_singleton.1 h];exact hx
theorem Lw.Ar.mk'{A:Nat}{w:Lw}(H:w.Ar A){op n:Int}{args:List Int}(hx:args.length<=A):(w.mk' op n args).Ar A:=Lw.Ar.put (w:=w.reg) H hx
theorem Lw.Ar.name{A:Nat}{w:Lw}(H:w.Ar A)(n:Nat):(w.name n).Ar A:=λb hb=>by
 rcases List.mem_append.1 hb with h|h
 ·exact H b h
 ·rw[(List.mem_replicate.1 h).2];simp[bk0]
theorem Lw.Ar.fin{A:Nat}{w:Lw}(H:w.Ar A){j o:Int}{g:Nat}{nx:List Int}(hx:nx.length<=2):(w.fin j o g nx).Ar A:=λb hb=>by
 rcases Ae hb with h|⟨c,hc,rfl⟩
 ·exact H b h
 ·obtain⟨h1,h2,h3⟩:=H c hc
  exact⟨h1,hx,h3⟩
mutual
theorem yJ(fa sc:List UInt8->Int){A:Nat}(hA:1<=A):∀(e:Ex) (w:Lw),w.Ar A->e.sz<=A->(lwE fa sc e w).2.Ar A
 | .mk o n s ks,w,H,hz=>by
   simp only[Ex.sz] at hz
   have hkl:=fI ks
   rw[lwE]
   split
   ·exact H.mk' (by simp)
   split
   ·exact H
   split
   ·exact Ld fa sc hA ks w H (by omega)
   ·refine(zg fa sc hA ks w H (by omega)).mk' ?_
    rw[gU];omega
theorem Ld(fa sc:List UInt8->Int){A:Nat}(hA:1<=A):∀(l:List Ex) (w:Lw),w.Ar A->aS l<=A->(lwA fa sc l w).2.Ar A
 |[],w,H,_=>by rw[lwA];exact H;intro a b h;cases h
 |[a],w,H,_=>by rw[lwA];exact H;intro a b h;cases h
 |a::b::c::r,w,H,_=>by rw[lwA];exact H;intro a b h;cases h
 |[a,b],w,H,hz=>by
  simp only[aS] at hz
  have h1:=yJ fa sc hA a w H (by omega)
  rw[lwA]
  simp only
  have h2:=((h1.mk' (op:=1) (n:=0) (args:=[]) (by simp)).name 2).fin (j:=2) (o:=(lwE fa sc a w).1) (g:=((lwE fa sc a w).2.mk' 1 0 []).bs.length) (nx:=[(((lwE fa sc a w).2.mk' 1 0 []).bs.length:Int),(((lwE fa sc a w).2.mk' 1 0 []).bs.length:Int)+1]) (by simp)
  exact(((yJ fa sc hA b _ h2 (by omega)).mk' (by simpa using hA)).put (by simpa using hA)).fin (by simp)
theorem zg(fa sc:List UInt8->Int){A:Nat}(hA:1<=A):∀(l:List Ex) (w:Lw),w.Ar A->aS l<=A->(bF fa sc l w).2.Ar A
 |[],w,H,_=>by rw[bF];exact H
 |e::r,w,H,hz=>by
  simp only[aS] at hz
  rw[bF]
  exact zg fa sc hA r _ (yJ fa sc hA e w H (by omega)) (by omega)
end
mutual
theorem Kw(fa:List UInt8->Int)(q:Int){A:Nat}(hA:1<=A):∀(s:Sm) (m:Scp) (up:List Scp) (nx:Nat) (w:Lw),w.Ar A->s.sz<=A->(lwS fa q s m up nx w).2.2.Ar A
 | .mk o n a bd el,m,up,nx,w,H,hz=>by
   simp only[Sm.sz] at hz
   have hhd:=AH a
   have hal:=fI a
   rw[lwS]
   simp only
   split
   ·have h1:=yJ fa (scF q (m::up)) hA (a.headD (.mk 0 0 [] [])) _ ((H.name 3).fin (j:=1) (o:=0) (g:=w.bs.length) (nx:=[(w.bs.length:Int)]) (by simp)) (by omega)
    exact(oZ fa q hA bd [] (m::up) nx _ (h1.fin (by simp)) (by omega)).fin (by simp)
   ·have h1:=zg fa (scF q (m::up)) hA a w H (by omega)
    have hl:(bF fa (scF q (m::up)) a w).1.length<=A:=by rw[gU];omega
    split
    ·exact h1.put hl
    split
    ·exact h1.put hl
    split
    ·exact h1.put hl
    split
    ·exact h1.put hl
    split
    ·exact(oZ fa q hA el [] (m::up) _ _ ((oZ fa q hA bd [] (m::up) nx _ ((h1.name 3).fin (by simp)) (by omega)).fin (by simp)) (by omega)).fin (by simp)
    split
    ·exact(h1.name 1).fin (by simp)
    ·exact h1
theorem oZ(fa:List UInt8->Int)(q:Int){A:Nat}(hA:1<=A):∀(l:List Sm) (m:Scp) (up:List Scp) (nx:Nat) (w:Lw),w.Ar A->aO l<=A->(aZ fa q l m up nx w).2.2.Ar A
 |[],m,up,nx,w,H,_=>by rw[aZ];exact H
 |s::r,m,up,nx,w,H,hz=>by
  simp only[aO] at hz
  rw[aZ]
  exact oZ fa q hA r _ up _ _ (Kw fa q hA s m up nx w H (by omega)) (by omega)
end
theorem HD(l:List Fd)(q:Int)(f:Fd)(hz:f.sz<=16777216):JL 1073741824 (lwF l q f)/\0<=(lwF l q f).regs/\(lwF l q f).regs<=1073741824/\0<(lwF l q f).blocks.length:=by
 have hfz:f.sz=1+f.name.length+(f.params.length+(f.params.map List.length).sum)+aO f.body:=rfl
 have hlet:=Nat.le_trans (jv f.body) (iI f.body)
 have hok:(⟨f.params.length+bj f.body,[bk0],0⟩:Lw).Ok (f.sz+1):=⟨by show f.params.length+bj f.body<=_;omega,by show 1<=_;omega,λb hb=>by rw[List.mem_singleton.1 hb];show 0<=_;omega,by show 0<1;omega⟩
 have har:(⟨f.params.length+bj f.body,[bk0],0⟩:Lw).Ar 16777217:=λb hb=>by rw[List.mem_singleton.1 hb];simp[bk0]
 obtain⟨h1,h2,_,_⟩:=eu (faI l) q f.body (psS f.params [] 0) [] f.params.length _ _ hok
 have h3:=oZ (faI l) q (A:=16777217) (by omega) f.body (psS f.params [] 0) [] f.params.length _ har (by omega)
 rw[lwF]
 simp only
 generalize aZ (faI l) q f.body (psS f.params [] 0) [] f.params.length _=y at*
 have k1:=(h1.mk' 1 0 []).fin 3 y.2.2.regs (g:=0) (by
  have:=h1.pos
  rw[Lw.mk'_len];omega) []
 have k3:=(h3.mk' (op:=1) (n:=0) (args:=[]) (by simp)).fin (j:=3) (o:=y.2.2.regs) (g:=0) (nx:=[]) (by simp)
 refine⟨⟨by have:=k1.bs;show((y.2.2.mk' 1 0 []).fin 3 y.2.2.regs 0 []).bs.length<=_;omega,λb hb=>?_⟩,by show(0:Int)<=((y.2.2.mk' 1 0 []).regs:Int);omega,by have:=k1.regs;show((y.2.2.mk' 1 0 []).regs:Int)<=_;have h:((y.2.2.mk' 1 0 []).fin 3 y.2.2.regs 0 []).regs=(y.2.2.mk' 1 0 []).regs:=rfl;omega,by have:=k1.pos;show 0<((y.2.2.mk' 1 0 []).fin 3 y.2.2.regs 0 []).bs.length;omega⟩
 obtain⟨a1,a2,a3⟩:=k3 b hb
 have a4:=k1.ins b hb
 exact⟨by rw[a1];simp,by omega,by omega,by rw[a1];simp,λx hx=>by have:=a3 x hx;omega⟩
theorem vF:∀{l:List Fd} {f:Fd},f∈l->f.sz<=cw l
 |x::r,f,h=>by
  simp only[cw,List.map_cons,List.sum_cons]
  rcases List.mem_cons.1 h with rfl|h
  ·omega
  ·have:=vF h
   simp only[cw] at this
   omega
theorem Jg(l:List Fd)(q:Int)(hz:cw l<=16777216)(hl:l.length<=1073741824):Kk 1073741824 (l.map (lwF l q)):=
 ⟨by rw[List.length_map];exact hl,λc hc=>by
   obtain⟨f,hf,rfl⟩:=List.mem_map.1 hc
   have:=vF hf
   exact(HD l q f (by omega)).1⟩
end
section
variable (G:az)
def PshF(s:Bool)(sz:Nat)(D:List (List PV))(h0:List AO)(a:PshS):Prop:=a.i<=D.length/\h0.length<=a.id/\h0.length<=a.h.length/\(∀j,j<h0.length->a.h[j]?=h0[j]?)/\∃rows J,RowOwn s a.h a.id sz rows (D.take a.i) J/\∀j∈J,h0.length<=j
theorem CC{h h2:List AO}(hl:h.length<=h2.length)(hf:∀j,j<h.length->h2[j]?=h[j]?):h2=h++h2.drop h.length:=by
 have e:h2.take h.length=h:=by
  apply List.ext_getElem?
  intro j
  by_cases hj:j<h.length
  ·rw[List.getElem?_take_of_lt hj];exact hf j hj
  ·rw[List.getElem?_eq_none (by rw[List.length_take];omega),List.getElem?_eq_none (by omega)]
 have e2:=List.take_append_drop h.length h2
 rw[e] at e2
 exact e2.symm
theorem PshF.step{s:Bool}{sz i id:Nat}{D:List (List PV)}{h0 h:List AO}(H:PshF s sz D h0 ⟨i,id,h⟩){e:List PV}(hi:D[i]?=some e){h2:List AO}(hl:h.length<=h2.length)(hf:∀j,j<h.length->h2[j]?=h[j]?){r':List AV}{I2:List Nat}(ho:OwnL s h2 r' e I2)(nd2:I2.Nodup)(hn:∀j∈I2,h.length<=j)(he:e.length=sz):
 ∃rows,(∀os,(h2++os)[id]?=some (.row sz rows))/\rows.length=i/\i<D.length/\id<h2.length/\∀os1 os2,PshF s sz D h0 ⟨i+1,(h2++os1).length,(h2++os1).set id .dead++ .row sz (rows++[r'])::os2⟩:=by
 obtain⟨h1,h3,h4,h5,rows,J,hr,hJ⟩:=H
 have hil:i<D.length:=(List.getElem?_eq_some_iff.1 hi).1
 have hlen:=hr.len
 simp only at h1 h3 h4 h5 hlen hr
 rw[List.length_take,Nat.min_eq_left h1] at hlen
 have e2:=CC hl hf
 have hid:=hr.lt
 have h2e:h2[id]?=some (.row sz rows):=by rw[hf id hid];exact hr.here
 refine⟨rows,λos=>by rw[List.getElem?_append_left (by omega)];exact h2e,hlen,hil,by omega,λos1 os2=>⟨hil,by simp only[List.length_append];omega,by simp;omega,λj hj=>?_,rows++[r'],J++I2,?_,λj hj=>?_⟩⟩
 ·simp only
  rw[List.getElem?_append_left (by simp only[List.length_set,List.length_append,List.length_cons];omega),List.getElem?_set_ne (by omega),List.getElem?_append_left (by omega),hf j (by omega)]
  exact h5 j hj
 ·have hp:=(hr.push (h2:=h2++os1) (os:=h2.drop h.length++os1) (by rw[←List.append_assoc,←e2]) (ho.more os1) nd2 hn he).more os2
  have hd:D.take i++[e]=D.take (i+1):=by rw[List.take_add_one,hi];rfl
  rw[hd,List.append_assoc] at hp
  exact hp
 ·rcases List.mem_append.1 hj with hj|hj
  ·exact hJ j hj
  ·have:=hn j hj;omega
theorem PshF.done{s:Bool}{sz i id:Nat}{D:List (List PV)}{h0 h:List AO}(H:PshF s sz D h0 ⟨i,id,h⟩)(hi:D.length<=i):h0.length<=h.length/\(∀j,j<h0.length->h[j]?=h0[j]?)/\∃I,OwnL s h [.sl id sz 0 i] [.lst sz D] I/\I.Nodup/\∀j∈I,h0.length<=j:=by
 obtain⟨h1,h3,h4,h5,rows,J,hr,hJ⟩:=H
 simp only at h1 h3 h4 h5 hr
 rw[List.take_of_length_le hi] at hr
 exact⟨h4,h5,id::J,hr.tree (by omega),hr.nd,λj hj=>by
  rcases List.mem_cons.1 hj with rfl|hj
  ·exact h3
  ·exact hJ j hj⟩
end
section
variable (G:az)
theorem GZ{ρ:List Nat}:∀{args:List AV},aA 0 args->TW ρ args args
 |[],_=>trivial
 |v::r,h=>⟨.inr ⟨(bx (Nat.zero_le _) [v] ⟨h.1,trivial⟩).1,by have:=jO ρ [v] ⟨h.1,trivial⟩;simpa[bn] using this⟩,GZ h.2⟩
theorem KE{f:FuncId}{args:List AV}{b:List Int}{p:Nat}{Q:AV->Nat->Prop}(H:AC Tryz.prog G f (.ptr 0 2 0 0::args) [rdO b p] λx h=>∃v q,x= .ret v/\h=[rdO b q]/\Q v q)(hq:∀v q,Q v q->below 0 v){h:List AO}{k:Nat}(hk:h[k]?=some (rdO b p))(ha:aA 0 args):
 AC Tryz.prog G f (.ptr k 2 0 0::args) h λx h'=>∃v q,x= .ret v/\h'=h.set k (rdO b q)/\Q v q:=by
 refine(H.frame (h:=h) (args:= .ptr k 2 0 0::args) [k] (by simp) ⟨.inr ⟨by simp[below],by simp[ren]⟩,GZ ha⟩ (iC hk (bW _ _ _) jb)).mono ?_
 rintro x h' ⟨x0,h0,⟨v,q,rfl,rfl,r⟩,hl,rfl,rfl⟩
 refine⟨v,q,?_,?_,r⟩
 ·simp only[Cj]
  have:=jO ([k]++List.range' h.length ([rdO b q].length-[rdO b p].length)) [v] ⟨hq v q r,trivial⟩
  simpa[bn] using this
 ·have hp2:∀σ,eZ σ (rdO b q)=rdO b q:=λσ=>by simp[rdO,eZ,bn,ren]
  simp[mrg,hp2]
theorem tQ{l:List Int}(h:Byt l)(n:Nat):Byt (l.take n):=λx hx=>h x (List.mem_of_mem_take hx)
theorem zN{f:FuncId}{args:List AV}{R:ARes->Prop}(H:AC Tryz.prog G f args [] λx _=>R x)(hR:∀x,R x->∃v,x= .ret v/\below 0 v)(ha:aA 0 args)(h:List AO):AC Tryz.prog G f args h λx h'=>R x/\h'=h:=by
 have H2:AC Tryz.prog G f args [] λx h'=>R x/\h'=[]:=by
  refine H.wk (λt v h' r=>by obtain⟨_,e,_⟩:=hR _ r;cases e) λv h' r=>?_
  obtain⟨v',e,hv⟩:=hR _ r
  cases e
  exact⟨v,[],Gg rfl ⟨.inr ⟨hv,rfl⟩,trivial⟩,r,rfl⟩
 refine(H2.pre h ha (λo ho=>by cases ho) (λx h' r=>by rw[r.2])).mono ?_
 rintro x h' ⟨h1,⟨r,rfl⟩,rfl⟩
 exact⟨r,rfl⟩
variable (hK:G Cm=some BW) (hS:G Bh=some [.tbl opK opV])
include hK hS
end
section
theorem MX{u:List Cd}(h:unB u=true):GU u:=by
 simp only[unB,Bool.and_eq_true,decide_eq_true_eq] at h
 obtain⟨⟨h1,h2⟩,_⟩:=h
 simp only[inR,Bool.and_eq_true,decide_eq_true_eq] at h1
 refine⟨⟨λe=>by rw[e] at h1;simp at h1,by omega⟩,λc hc=>?_⟩
 obtain⟨i,hi⟩:=List.getElem?_of_mem hc
 have h3:=allI_iff.1 h2 i c hi
 simp only[cdB,Bool.and_eq_true,inR,decide_eq_true_eq] at h3
 obtain⟨⟨⟨_,_⟩,h4⟩,h5⟩:=h3
 refine⟨by omega,by omega,λx hx=>?_⟩
 obtain⟨j,hj⟩:=List.getElem?_of_mem hx
 have h6:=allI_iff.1 h5 j x hj
 simp only[bkB,Bool.and_eq_true] at h6
 have h7:=h6.1.1.1.1
 rw[decide_eq_true_eq] at h7
 have h8:nxN x.jump<=2:=by
  unfold nxN
  split
  ·decide
  ·split
   ·decide
   ·split<;>decide
 omega
variable (G:az)
theorem Ek{b:List Int}(hb:Byt b)(hl:b.length<=2000){p:Nat}(hp:p<=9000000000):AC Tryz.prog G gx [.ptr 0 2 0 0] [rdO b p] λx h=>∃v q,x= .ret v/\h=[rdO b q]/\(∃cs,v= .agg [.p (cdL cs)]/\GU cs)/\p<=q/\q<=p+200010000:=by
 refine gi G (AC.go ur ?_)
 obtain⟨p1,hp1⟩:∃p1,p1=p+1:=⟨_,rfl⟩
 have hprog:AC Tryz.prog G fy [.ptr 0 2 0 0] [rdO b p1] λx h=>∃v q,x= .ret v/\h=[rdO b q]/\((∃l:List Fd,v= .agg [.p (fdL l)]/\cP l=true)/\p1<=q/\q<=p1+200000000):=
  (Ko G hb hl (by omega)).mono λx h ⟨l,q,e1,e2,e3,e4,e5,e6⟩=>⟨_,q,e1,e2,⟨l,rfl,e3⟩,e5,e6⟩
 simp-implicitDefEqProofs[lB]
 refine(aG G b hb hl p (by omega) 2 _).mono ?_
 rintro r h ⟨k1,rfl,rfl,_⟩
 rw[←hp1]
 simp-implicitDefEqProofs[aa]
 have alt:∀(rest:List AO) (q:Nat),p<=q->q<=p+200000001->AC Tryz.prog G dD [.ptr 0 2 0 0] (rdO b q::rest) λx h=>∃v q2,x= .ret v/\h=rdO b q2::rest/\(∃cs,v= .agg [.p (cdL cs)]/\SmU cs)/\q<=q2/\q2<=q+4000:=λrest q _ _=>gZ G (Bj G hb hl (p:=q) (by omega)) rest (by simp[below])
 refine aF (λhc=>?_) (λhc=>?_)
 ·simp-implicitDefEqProofs[]
  refine(gZ G hprog _ (by simp[below])).mono ?_
  rintro r h ⟨v,q,rfl,rfl,⟨l,rfl,hok⟩,h1,h2⟩
  have hz:=yN hok
  have hll:l.length<=4:=((nA l).1 hok).1.2
  simp-implicitDefEqProofs[aa]
  refine(Hq G l (by omega) (Aq hok)).use ?_
  have hu:=Aj G (unR l) (Jg l (-1) (by omega) (by omega))
  simp-implicitDefEqProofs[]
  refine hu.use ?_
  simp-implicitDefEqProofs[]
  refine aF (λhv=>?_) (λhv=>?_)
  ·simp-implicitDefEqProofs[]
   exact⟨_,_,q,.agg [.p (cdL (unR l))],rfl,rfl,.keep (by simp) .nil,⟨_,rfl,MX hv⟩,by omega,by omega⟩
  ·simp-implicitDefEqProofs[]
   refine(alt _ q (by omega) (by omega)).mono ?_
   rintro r h ⟨v,q2,rfl,rfl,⟨cs,rfl,hs⟩,h3,h4⟩
   simp-implicitDefEqProofs[aa]
   exact⟨_,_,q2,.agg [.p (cdL cs)],rfl,rfl,.keep (by simp) .nil,⟨cs,rfl,⟨hs.1,by have:=hs.2.1;omega⟩,λc hc=>(hs.2.2 c hc).g⟩,by omega,by omega⟩
 ·simp-implicitDefEqProofs[]
  refine(alt _ p1 (by omega) (by omega)).mono ?_
  rintro r h ⟨v,q2,rfl,rfl,⟨cs,rfl,hs⟩,h3,h4⟩
  simp-implicitDefEqProofs[aa]
  exact⟨_,_,q2,.agg [.p (cdL cs)],rfl,rfl,.keep (by simp) .nil,⟨cs,rfl,⟨hs.1,by have:=hs.2.1;omega⟩,λc hc=>(hs.2.2 c hc).g⟩,by omega,by omega⟩
theorem Ep{b:List Int}(hb:Byt b)(hl:b.length<=2000){p:Nat}(hp:p<=8000000000):AC Tryz.prog G gF [.ptr 0 2 0 0] [rdO b p] λx h=>∃v q,x= .ret v/\h=[rdO b q]/\(∃cs,v= .agg [.p (cdL cs)]/\GU cs)/\p<=q/\q<=p+200020000:=by
 refine gi G (AC.go tS ?_)
 obtain⟨p1,hp1⟩:∃p1,p1=p+1:=⟨_,rfl⟩
 simp-implicitDefEqProofs[lT]
 refine(aG G b hb hl p (by omega) 12 _).mono ?_
 rintro r h ⟨k1,rfl,rfl,_⟩
 rw[←hp1]
 simp-implicitDefEqProofs[aa]
 refine aF (λhc=>?_) (λhc=>?_)
 ·simp-implicitDefEqProofs[]
  refine(gZ G (Hh G hb hl (p:=p1) (by omega)) _ (by simp[below])).mono ?_
  rintro r h ⟨v,q,rfl,rfl,⟨cs,rfl,hs⟩,h1,h2⟩
  simp-implicitDefEqProofs[aa]
  exact⟨_,_,q,.agg [.p (cdL cs)],rfl,rfl,.keep (by simp) .nil,⟨cs,rfl,hs⟩,by omega,by omega⟩
 ·simp-implicitDefEqProofs[]
  refine(gZ G (Ek G hb hl (p:=p1) (by omega)) _ (by simp[below])).mono ?_
  rintro r h ⟨v,q,rfl,rfl,⟨cs,rfl,hs⟩,h1,h2⟩
  simp-implicitDefEqProofs[aa]
  exact⟨_,_,q,.agg [.p (cdL cs)],rfl,rfl,.keep (by simp) .nil,⟨cs,rfl,hs⟩,by omega,by omega⟩
def CdQ(p n:Nat)(v:AV)(q:Nat):Prop:=(∃c:Cd,v= .agg (c.cs.map .p)/\GCd c)/\p<=q/\q<=p+n
theorem vR{b:List Int}(hb:Byt b)(hl:b.length<=2000){p:Nat}(hp:p<=7000000000):AC Tryz.prog G dZ [.ptr 0 2 0 0] [rdO b p] λx h=>∃v q,x= .ret v/\h=[rdO b q]/\CdQ p 200020000 v q:=by
 refine gi G (AC.go tp ?_)
 simp-implicitDefEqProofs[lK]
 refine(gZ G (Ep G hb hl (p:=p) (by omega)) _ (by simp[below])).mono ?_
 rintro r h ⟨v,q,rfl,rfl,⟨cs,rfl,hs⟩,h1,h2⟩
 have hcl:cdL cs= .lst 3 (cs.map Cd.cs):=rfl
 have hpos:=List.length_pos_iff.2 hs.1.1
 obtain⟨m,hm⟩:∃m,cs.length=m+1:=⟨cs.length-1,by omega⟩
 have hm4:=hs.1.2
 have hw:IntKind.i64.wrap (m:Int)=(m:Int):=ae (by omega) (by omega)
 have hg:cs[m]?=some cs[m]:=List.getElem?_eq_getElem (by omega)
 have hgc:=hs.2 _ (List.mem_of_getElem? hg)
 generalize cs[m]=c at hg hgc
 have hge:=λhh=>fJ hg hh
 have hcc:=c.cs_eq2
 simp-implicitDefEqProofs[aa,hcl,hm,hw,hg,hge,hcc]
 exact⟨_,_,q,.agg (c.cs.map .p),rfl,rfl,.keep (by simp[hcc]) .nil,⟨c,rfl,hgc⟩,h1,h2⟩
theorem Ax{b:List Int}(hb:Byt b)(hl:b.length<=2000){p:Nat}(hp:p<=6500000000):AC Tryz.prog G fA [.ptr 0 2 0 0] [rdO b p] λx h=>∃v q,x= .ret v/\h=[rdO b q]/\((∃(c:Cd) (m n:Int),v= .tup [.agg (c.cs.map .p),.p (.int .i64 m),.p (.int .i64 n)]/\GCd c)/\p<=q/\q<=p+200020010):=by
 refine gi G (AC.go ve ?_)
 simp-implicitDefEqProofs[mQ]
 refine(gZ G (vR G hb hl (p:=p) (by omega)) _ (by simp[below])).mono ?_
 rintro r h ⟨v,q,rfl,rfl,⟨c,rfl,hg⟩,h1,h2⟩
 have hcc:=c.cs_eq2
 have hbl:bkL c.blocks= .lst 5 (c.blocks.map Bk.cs):=rfl
 have hw:IntKind.i64.wrap ((c.blocks.length:Int)-1)=(c.blocks.length:Int)-1:=ae (by have:=hg.1;omega) (by have:=hg.2.1;omega)
 simp-implicitDefEqProofs[aa,hcc,hbl]
 refine(aG G b hb hl q (by omega) _ _).mono ?_
 rintro r h ⟨k1,rfl,rfl,_⟩
 simp-implicitDefEqProofs[aa]
 refine(aG G b hb hl (q+1) (by omega) _ _).mono ?_
 rintro r h ⟨k2,rfl,rfl,_⟩
 simp-implicitDefEqProofs[aa,hw]
 refine(aG G b hb hl (q+1+1) (by omega) _ _).mono ?_
 rintro r h ⟨k3,rfl,rfl,_⟩
 simp-implicitDefEqProofs[aa]
 refine(ig G hb hl (by omega) [(k1:Int),k2,0,(c.blocks.length:Int)-1,k3,-1,c.blocks.length] (by simp) (by simp) (by omega) rfl rfl).mono ?_
 rintro r h ⟨m,_,rfl,rfl⟩
 simp-implicitDefEqProofs[aa]
 refine(ig G hb hl (by omega) [(k1:Int),k2,0,(c.blocks.length:Int)-1,k3,-1,c.blocks.length] (by simp) (by simp) (by omega) rfl rfl).mono ?_
 rintro r h ⟨n,_,rfl,rfl⟩
 simp-implicitDefEqProofs[aa]
 exact⟨_,_,q+1+1+1+1+1,.tup [.agg (c.cs.map .p),.p (.int .i64 m),.p (.int .i64 n)],rfl,rfl,.keep (by simp) .nil,⟨c,⟨m,n,rfl⟩,hg⟩,by omega,by omega⟩
def DrC(x:ARes):Prop:=∃c:Cd,x= .ret (.agg (c.cs.map .p))/\GCd c
def Ox(x:ARes):Prop:=∃(c:Cd) (m n:Int),x= .ret (.tup [.agg (c.cs.map .p),.p (.int .i64 m),.p (.int .i64 n)])/\GCd c
theorem Cr(n:Nat)(b:List Int)(q:Nat):cL n (rdO b q)=rdO b q:=by simp[rdO,cL,cK,bz]
end
section
theorem GCd.csm{c:Cd}(h:GCd c):CSm c:=by
 obtain⟨_,h2,h3⟩:=h
 refine⟨⟨by omega,λx hx=>by have:=h3 x hx;omega⟩,?_⟩
 have key:∀l:List Bk,(∀x∈l,x.next.length<=2)->(l.map λx=>x.next.length).sum<=2*l.length:=by
  intro l
  induction l with
  |nil=>intro _;simp
  |cons a r ih=>
   intro h
   have h1:=h a (by simp)
   have h2:=ih λx hx=>h x (by simp[hx])
   simp only[List.map_cons,List.sum_cons,List.length_cons]
   omega
 have:=key _ h3
 omega
variable (G:az)
end
section
def Out(h:List AO)(V:AV)(L:List Int):Prop:=(V= .nils/\L=[])\/∃id,V= .sl id 1 0 L.length/\h[id]?=some (.row 1 (au L))
theorem Out.view{h:List AO}{V:AV}{L:List Int}(o:Out h V L):View h V (aC L):=by
 rcases o with⟨rfl,rfl⟩|⟨id,rfl,e⟩
 ·exact .nils 1
 ·exact bw e
theorem Out.app{h:List AO}{V:AV}{L:List Int}(o:Out h V L)(t:List AO):Out (h++t) V L:=by
 rcases o with h1|⟨id,h1,h2⟩
 ·exact .inl h1
 ·exact .inr ⟨id,h1,by rw[List.getElem?_append_left (List.getElem?_eq_some_iff.1 h2).1];exact h2⟩
theorem Out.below{h:List AO}{V:AV}{L:List Int}(o:Out h V L):Aw.below h.length V:=by
 rcases o with⟨rfl,_⟩|⟨id,rfl,h2⟩
 ·simp[Aw.below]
 ·simp only[Aw.below];exact(List.getElem?_eq_some_iff.1 h2).1
theorem pB{c:Cd}{x:Nat}(h:x<c.blocks.length):ik c x=aI c.blocks x:=by
 have:inR (x:Int) 0 ((c.blocks.length:Int)-1)=true:=by simp only[inR,Bool.and_eq_true,decide_eq_true_eq];omega
 rw[ik,this,if_pos rfl]
structure FrS where (i:Nat) (X:List AO) (V:AV)
variable (G:az)
theorem vu{p:Nat->Bool}:∀{n:Nat},(∀i,i<n->p i=false)->aX p n=[]
 |0,_=>rfl
 |n+1,h=>by rw[vQ,vu (λi hi=>h i (by omega)),h n (by omega)];rfl
theorem Eo{h:List AO}{q0 q1 x:Nat}(c:Cd)(hc:CBd c)(h0:h[q0]?=some (.row 1 [[dmV c]]))(h1:h[q1]?=some (.row 1 [[.p (.int .i64 x)]]))(p:Int):
 AC Tryz.prog G ck [.p (.int .i64 p),.ptr q0 1 0 0,.ptr q1 1 0 0] h λr h'=>r= .ret (.p (.bool (yP c.blocks x p)))/\h'=h:=by
 have hd:=rB G c hc x p
 have hb:=zJ c 0
 refine AC.go mu ?_
 cases hfit:aV c.blocks with
 |false=>
  have hdm:dmV c= .nilp:=by rw[dmV,hfit];rfl
  rw[hdm] at h0 hd
  simp-implicitDefEqProofs[dw,h0,h1]
  refine hd.use ?_
  simp-implicitDefEqProofs[]
 |true=>
  have hdm:dmV c= .eptr (dmE c) 0:=by rw[dmV,hfit];rfl
  rw[hdm] at h0 hd
  simp-implicitDefEqProofs[dw,h0,h1]
  refine hd.use ?_
  simp-implicitDefEqProofs[]
theorem Io{bs:List Bk}(hfit:aV bs=true){i:Nat}(hi:i<bs.length){r:Int}(h0:0<=r)(h1:r.toNat<bs.length):yP bs i r=co bs i r.toNat:=by
 have a1:inC bs (i:Int)=true:=by rw[og hfit];simp only[inR,Bool.and_eq_true,decide_eq_true_eq];omega
 have a2:inC bs r=true:=by rw[og hfit];simp only[inR,Bool.and_eq_true,decide_eq_true_eq];omega
 rw[yP,a1,a2];rfl
theorem Bq(c:Cd)(hc:CSm c)(hfit:aV c.blocks=true):AC Tryz.prog G bH [dmV c] [] λr h=>∃V,r= .ret V/\Out h V (aX (fK c.blocks) c.blocks.length):=by
 have hl1:=hc.1.1
 have hcs:=c.cs_eq2
 have hd:dmV c= .eptr (dmE c) 0:=by rw[dmV,hfit];rfl
 have hf1:=λ(h:List AO) q x h0 h1=>Eo (h:=h) (q0:=0) (q1:=q) (x:=x) G c hc.1 h0 h1
 have hpr:=λx=>pR G c x hl1 hc.1.2
 rw[hcs] at hpr
 obtain⟨DL,BL,RL,e,hDl,hDg,hBl,hBg,hRl,hRg⟩:=sY c
 rw[hd,e] at hf1
 rw[hd,e]
 have hF:=λn x=>Dc (p:=fK c.blocks) (n:=n) (x:=x)
 have hFl:=dE (fK c.blocks)
 have hFs:=DF (fK c.blocks)
 have hF0:=vA (fK c.blocks)
 generalize aX (fK c.blocks)=F at hF hFl hFs hF0
 refine AC.go oB ?_
 simp-implicitDefEqProofs[iJ,hRl]
 refine aH (λa:FrS=>aw 27 [(10,.p (.int .i64 a.i)),(9,.p (.int .i64 c.blocks.length)),(3,a.V),(1,.ptr 0 1 0 0)]) (λa=>a.X)
  (λa=>a.i<=c.blocks.length/\a.X[0]?=some (.row 1 [[.eptr [.int .i64 c.params,.int .i64 c.regs,bkL c.blocks,.lst 1 DL,.lst 1 RL] 0]])/\((a.V= .nils/\F a.i=[])\/∃id,2<=id/\a.V= .sl id 1 0 (F a.i).length/\a.X[id]?=some (.row 1 (au (F a.i))))) (λa=>c.blocks.length-a.i) ⟨0,_,.nils⟩ ⟨Nat.zero_le _,rfl,.inl ⟨rfl,hF0⟩⟩ (ab (Nat.zero_le _) (by simp[Aw.below])) ?_
 rintro⟨i,X,V⟩ ⟨hi,g0,hV⟩
 simp only at hi g0 hV
 have h1l:=(List.getElem?_eq_some_iff.1 g0).1
 simp-implicitDefEqProofs[]
 refine aF (λhc1=>?_) (λhc1=>?_)
 ·simp at hc1
  have hw1:=w1 (i:=i) (by omega)
  have hFi:=hFs i
  have hfr:fK c.blocks i=(aI c.blocks i).any (λr=>co c.blocks i r.toNat):=rfl
  have hVb:Aw.below X.length V:=by
   rcases hV with⟨rfl,_⟩|⟨id,_,rfl,h2⟩
   ·simp[Aw.below]
   ·simp only[Aw.below];exact(List.getElem?_eq_some_iff.1 h2).1
  have hpi:=pB hc1
  have hpr1:=hpr i
  rw[hpi] at hpr1
  have hpin:=λr=>sy (bs:=c.blocks) (b:=i) (r:=r)
  have hpl:=eU c.blocks (i:Int)
  rw[hfr] at hFi
  generalize aI c.blocks i=P at hpr1 hpin hpl hFi
  have hX0:∀t,(X++t)[0]?=some (.row 1 [[.eptr [.int .i64 c.params,.int .i64 c.regs,bkL c.blocks,.lst 1 DL,.lst 1 RL] 0]]):=λt=>by rw[List.getElem?_append_left (by omega)];exact g0
  have hXe:=λt hh=>Jo (hX0 t) hh
  have hcf:=tn (h:=X++[.row 1 [[.p (.int .i64 i)]]]) (f:=ck) (caps:=[.ptr 0 1 0 0,.ptr X.length 1 0 0]) G P (λr=>co c.blocks i r.toNat) (by omega) (by simp[Aw.below]) (λr hr=>by
   have h2:=hf1 (X++[.row 1 [[.p (.int .i64 i)]]]) X.length i (hX0 _) (by rw[List.getElem?_append_right (Nat.le_refl _)];simp) r
   rw[Io hfit hc1 (hpin r hr).1 (hpin r hr).2] at h2
   exact h2)
  simp-implicitDefEqProofs[hX0,hXe]
  refine hpr1.use ?_
  simp-implicitDefEqProofs[]
  refine hcf.mono ?_
  rintro r h' ⟨rfl,rfl⟩
  cases hany:P.any (λr=>co c.blocks i r.toNat) with
  |false=>
   rw[hany] at hFi
   simp only[bI,Bool.false_eq_true,if_false,List.append_nil] at hFi
   simp-implicitDefEqProofs[aa]
   refine⟨⟨i+1,_,V⟩,⟨hc1,hX0 _,?_⟩,by simp only;omega,ab (Nat.zero_le _) (by simp[Aw.below,hVb,hw1];exact(bx (by simp) [V] ⟨hVb,trivial⟩).1)⟩
   simp only[hFi]
   rcases hV with h|⟨id,hid,h1,h2⟩
   ·exact .inl h
   ·exact .inr ⟨id,hid,h1,by rw[List.getElem?_append_left (List.getElem?_eq_some_iff.1 h2).1];exact h2⟩
  |true=>
   rw[hany] at hFi
   have hFi:F (i+1)=F i++[(i:Int)]:=hFi
   have hfl:=hFl i
   rcases hV with⟨rfl,hn⟩|⟨id,hid,rfl,h2⟩
   ·rw[hn] at hFi
    simp-implicitDefEqProofs[aa]
    refine⟨⟨i+1,_,.sl (X.length+2) 1 0 1⟩,⟨hc1,hX0 _,.inr ⟨X.length+2,by omega,by rw[hFi];rfl,?_⟩⟩,by simp only;omega,ab (Nat.zero_le _) (by simp[Aw.below,hw1])⟩
    simp only;rw[List.getElem?_append_right (by omega),hFi];simp[au]
   ·have hidl:=(List.getElem?_eq_some_iff.1 h2).1
    have hxm:∀t,(X++t)[id]?=some (.row 1 (au (F i))):=λt=>by rw[List.getElem?_append_left hidl];exact h2
    have htl:List.take (F i).length (au (F i))=au (F i):=List.take_of_length_le (by simp[au])
    have hrl:(au (F i)).length=(F i).length:=by simp[au]
    simp-implicitDefEqProofs[aa,hxm,htl,hrl]
    refine⟨⟨by omega,by omega⟩,⟨i+1,_,.sl (X.length+2) 1 0 ((F i).length+1)⟩,⟨hc1,?_,.inr ⟨X.length+2,by omega,by rw[hFi];simp,?_⟩⟩,by simp only;omega,ab (Nat.zero_le _) (by simp[Aw.below,hw1])⟩
    ·simp only;rw[List.getElem?_append_left (by simp),List.getElem?_set_ne (by omega)];exact hX0 _
    ·simp only;rw[List.getElem?_append_right (by simp),hFi];simp[au]
 ·simp at hc1
  have hie:i=c.blocks.length:=by omega
  subst hie
  simp-implicitDefEqProofs[]
  rcases hV with h|⟨id,_,h1,h2⟩
  ·exact .inl h
  ·exact .inr ⟨id,h1,h2⟩
theorem Bo(c:Cd)(hc:CSm c):VF Tryz.prog G dk [.agg (c.cs.map .p)] (.p (aC (be c.blocks))):=by
 have hcs:=c.cs_eq2
 have hbl:bkL c.blocks= .lst 5 (c.blocks.map Bk.cs):=rfl
 have hd:=tg G c hc
 rw[hcs,hbl] at hd
 refine dr G ?_
 refine AC.go pq ?_
 simp-implicitDefEqProofs[jx,hcs,hbl]
 cases hfit:aV c.blocks with
 |false=>
  have hdm:dmV c= .nilp:=by rw[dmV,hfit];rfl
  have hm:be c.blocks=[]:=by rw[be,hfit];rfl
  rw[hdm] at hd
  rw[hm]
  refine hd.use ?_
  simp-implicitDefEqProofs[]
  exact .nils 1
 |true=>
  have hdm:dmV c= .eptr (dmE c) 0:=by rw[dmV,hfit];rfl
  have hF:=dr G ((Bq G c hc hfit).mono λr h ⟨V,e,o⟩=>⟨V,e,o.view⟩)
  have hm:be c.blocks=aX (fK c.blocks) c.blocks.length:=by rw[be,if_pos hfit]
  rw[hm]
  rw[hdm] at hd hF
  generalize dmE c=E at hd hF
  refine hd.use ?_
  simp-implicitDefEqProofs[]
  refine hF.use ?_
  simp-implicitDefEqProofs[]
  exact .p _
end
section
variable (G:az)
def KA(x:ARes):Prop:=∃(c:Cd) (m:Int),x= .ret (.tup [.agg (c.cs.map .p),.p (.int .i64 m)])/\GCd c
theorem vW(x:ARes)(h:KA x):∃v,x= .ret v/\below 0 v:=by
 obtain⟨c,m,rfl,_⟩:=h
 exact⟨_,rfl,by simp[below,c.cs_eq2]⟩
end
section
variable (G:az)
theorem HC(code:List Int)(hb:Byt code):AC Tryz.prog G im [.p (mt code)] [] λx _=>DrC x:=by
 refine AC.go mW ?_
 simp-implicitDefEqProofs[gX]
 refine(AC.lift (Co G code) (by simp) rfl rfl).mono ?_
 rintro r h ⟨rfl,rfl⟩
 have hbt:=tQ hb 2000
 have hbl:(code.take 2000).length<=2000:=by rw[List.length_take];omega
 generalize code.take 2000=b at hbt hbl
 simp-implicitDefEqProofs[aa,bz,Cr]
 refine(KE G (vR G hbt hbl (p:=0) (by omega)) (λv q ⟨⟨c,e,_⟩,_⟩=>by rw[e];simp[below,c.cs_eq2]) (h:=[.row 3 [[.p (.int .i64 0),.p (.int .i64 0),.nils]],rdO b 0]) (k:=1) rfl trivial).mono ?_
 rintro r h ⟨v,q,rfl,rfl,⟨c,rfl,hg⟩,_⟩
 have hcc:=c.cs_eq2
 simp-implicitDefEqProofs[aa,hcc]
 exact⟨c,rfl,hg⟩
theorem EX(code:List Int)(hb:Byt code):AC Tryz.prog G fH [.p (mt code)] [] λx _=>Ox x:=by
 refine AC.go lq ?_
 simp-implicitDefEqProofs[fN]
 refine(AC.lift (Co G code) (by simp) rfl rfl).mono ?_
 rintro r h ⟨rfl,rfl⟩
 have hbt:=tQ hb 2000
 have hbl:(code.take 2000).length<=2000:=by rw[List.length_take];omega
 generalize code.take 2000=b at hbt hbl
 simp-implicitDefEqProofs[aa,bz,Cr]
 refine(KE G (Ax G hbt hbl (p:=0) (by omega)) (λv q ⟨⟨c,m,n,e,_⟩,_⟩=>by rw[e];simp[below,c.cs_eq2]) (h:=[.row 3 [[.p (.int .i64 0),.p (.int .i64 0),.nils]],rdO b 0]) (k:=1) rfl trivial).mono ?_
 rintro r h ⟨v,q,rfl,rfl,⟨c,m,n,rfl,hg⟩,_⟩
 have hcc:=c.cs_eq2
 simp-implicitDefEqProofs[aa,hcc]
 exact⟨c,m,n,rfl,hg⟩
theorem tt(code:List Int)(hb:Byt code):AC Tryz.prog G dA [.p (mt code)] [] λx _=>KA x:=by
 refine AC.go mo ?_
 simp-implicitDefEqProofs[gf]
 refine(AC.lift (Co G code) (by simp) rfl rfl).mono ?_
 rintro r h ⟨rfl,rfl⟩
 have hbt:=tQ hb 2000
 have hbl:(code.take 2000).length<=2000:=by rw[List.length_take];omega
 generalize code.take 2000=b at hbt hbl
 simp-implicitDefEqProofs[aa,bz,Cr]
 refine(KE G (Ax G hbt hbl (p:=0) (by omega)) (λv q ⟨⟨c,m,n,e,_⟩,_⟩=>by rw[e];simp[below,c.cs_eq2]) (h:=[.row 3 [[.p (.int .i64 0),.p (.int .i64 0),.nils]],rdO b 0]) (k:=1) rfl trivial).mono ?_
 rintro r h ⟨v,q,rfl,rfl,⟨c,m,n,rfl,hg⟩,_⟩
 have hcc:=c.cs_eq2
 simp-implicitDefEqProofs[aa,hcc]
 exact⟨c,m,rfl,hg⟩
theorem sa(code:List Int)(hb:Byt code):AC Tryz.prog G cT [.p (mt code)] [] λx _=>KA x:=by
 refine AC.go lF ?_
 simp-implicitDefEqProofs[fO]
 have hd:=zN G (tt G code hb) vW (by simp) [.row 3 [[.p (.int .i64 0),.p (.int .i64 0),.nils]]]
 refine hd.mono ?_
 rintro r h ⟨⟨c,m,rfl,hg⟩,rfl⟩
 have hcc:=c.cs_eq2
 simp-implicitDefEqProofs[aa,hcc]
 exact⟨c,m,rfl,hg⟩
end
end Go.Proofs.YtdfplkcigiblcaaGreat
namespace Go.Proofs.YtdfplkcigiblcaaGreat
open Go
def lays189_ren:Go.Shelf.Ren:=⟨λ|125=>123|128=>138|129=>139|189=>101|215=>151|216=>135|257=>122|294=>129|295=>130|296=>131|297=>132|298=>133|299=>134|300=>136|301=>137|328=>146|329=>147|330=>148|331=>149|332=>150|343=>167|n=>n,λ|0=>0|3=>3|4=>4|5=>5|9=>9|28=>30|46=>101|51=>124|53=>126|131=>121|182=>116|183=>117|218=>145|222=>149|228=>171|229=>172|n=>n,λn=>n⟩
theorem Do:Lays.n189 Tryz.prog lays189_ren where
 mixed:=by kernel_rfl
 f125:=Tryz.func123.trans (congrArg some (by kernel_rfl))
 f128:=Tryz.func138.trans (congrArg some (by kernel_rfl))
 f129:=Tryz.func139.trans (congrArg some (by kernel_rfl))
 f189:=Tryz.func101.trans (congrArg some (by kernel_rfl))
 f215:=Tryz.func151.trans (congrArg some (by kernel_rfl))
 f216:=Tryz.func135.trans (congrArg some (by kernel_rfl))
 f257:=Tryz.func122.trans (congrArg some (by kernel_rfl))
 f294:=Tryz.func129.trans (congrArg some (by kernel_rfl))
 f295:=Tryz.func130.trans (congrArg some (by kernel_rfl))
 f296:=Tryz.func131.trans (congrArg some (by kernel_rfl))
 f297:=Tryz.func132.trans (congrArg some (by kernel_rfl))
 f298:=Tryz.func133.trans (congrArg some (by kernel_rfl))
 f299:=Tryz.func134.trans (congrArg some (by kernel_rfl))
 f300:=Tryz.func136.trans (congrArg some (by kernel_rfl))
 f301:=Tryz.func137.trans (congrArg some (by kernel_rfl))
 f328:=Tryz.func146.trans (congrArg some (by kernel_rfl))
 f329:=Tryz.func147.trans (congrArg some (by kernel_rfl))
 f330:=Tryz.func148.trans (congrArg some (by kernel_rfl))
 f331:=Tryz.func149.trans (congrArg some (by kernel_rfl))
 f332:=Tryz.func150.trans (congrArg some (by kernel_rfl))
 f343:=Tryz.func167.trans (congrArg some (by kernel_rfl))
 t0:=Tryz.underlying0
 a0:=Tryz.isAgg0
 z0:=Tryz.sizeOf0
 v0:=Tryz.zeroValue0
 t3:=Tryz.underlying3
 a3:=Tryz.isAgg3
 z3:=Tryz.sizeOf3
 v3:=Tryz.zeroValue3
 t4:=Tryz.underlying4
 a4:=Tryz.isAgg4
 z4:=Tryz.sizeOf4
 v4:=Tryz.zeroValue4
 t5:=Tryz.underlying5
 a5:=Tryz.isAgg5
 z5:=Tryz.sizeOf5
 v5:=Tryz.zeroValue5
 t9:=Tryz.underlying9
 a9:=Tryz.isAgg9
 z9:=Tryz.sizeOf9
 v9:=Tryz.zeroValue9
 t28:=Tryz.underlying30
 a28:=Tryz.isAgg30
 z28:=Tryz.sizeOf30
 v28:=Tryz.zeroValue30
 t46:=Tryz.underlying101
 a46:=Tryz.isAgg101
 z46:=Tryz.sizeOf101
 v46:=Tryz.zeroValue101
 t51:=Tryz.underlying124
 a51:=Tryz.isAgg124
 z51:=Tryz.sizeOf124
 v51:=Tryz.zeroValue124
 t53:=Tryz.underlying126
 a53:=Tryz.isAgg126
 z53:=Tryz.sizeOf126
 v53:=Tryz.zeroValue126
 t131:=Tryz.underlying121
 a131:=Tryz.isAgg121
 z131:=Tryz.sizeOf121
 v131:=Tryz.zeroValue121
 t182:=Tryz.underlying116
 a182:=Tryz.isAgg116
 z182:=Tryz.sizeOf116
 v182:=Tryz.zeroValue116
 t183:=Tryz.underlying117
 a183:=Tryz.isAgg117
 z183:=Tryz.sizeOf117
 v183:=Tryz.zeroValue117
 t218:=Tryz.underlying145
 a218:=Tryz.isAgg145
 z218:=Tryz.sizeOf145
 v218:=Tryz.zeroValue145
 t222:=Tryz.underlying149
 a222:=Tryz.isAgg149
 z222:=Tryz.sizeOf149
 v222:=Tryz.zeroValue149
 t228:=Tryz.underlying171
 a228:=Tryz.isAgg171
 z228:=Tryz.sizeOf171
 v228:=Tryz.zeroValue171
 t229:=Tryz.underlying172
 a229:=Tryz.isAgg172
 z229:=Tryz.sizeOf172
 v229:=Tryz.zeroValue172
end Go.Proofs.YtdfplkcigiblcaaGreat
namespace Go.Proofs.YtdfplkcigiblcaaGreat
open Go Go.Aw
set_option maxRecDepth 100000
set_option maxHeartbeats 4000000
section
variable (G:az)
def tu(bs:List Bk):List Nat:=(dfs (nxC bs) bs.length (List.replicate bs.length false,[]) 0).2
theorem zM{α:Type}{l:List α}{k:Nat}{x:α}(h:l[k]?=some x):l.set k x=l:=by
 obtain⟨hk,rfl⟩:=List.getElem?_eq_some_iff.1 h
 exact List.set_getElem_self hk
def Hw(bs:List Bk):List Int:=if aV bs then(aT (tu bs)).reverse else[]
end
section
theorem Kc{l:List Nat}(nd:l.Nodup){i j x:Nat}(hi:l[i]?=some x)(hj:l[j]?=some x):i=j:=by
 obtain⟨h1,e1⟩:=List.getElem?_eq_some_iff.1 hi
 obtain⟨h2,e2⟩:=List.getElem?_eq_some_iff.1 hj
 have hp:=List.pairwise_iff_getElem.1 nd
 rcases Nat.lt_trichotomy i j with h|h|h
 ·exact absurd (e1.trans e2.symm) (hp i j h1 h2 h)
 ·exact h
 ·exact absurd (e2.trans e1.symm) (hp j i h2 h1 h)
theorem Gl{l:List Nat}(nd:l.Nodup):l.reverse.Nodup:=List.pairwise_reverse.2 (List.Pairwise.imp Ne.symm nd)
theorem DB{bs:List Bk}(h:aV bs=true):sn (List.replicate bs.length false) 0=false:=by
 rw[eM]
 have:=cG h
 have e1:¬bs.length<=0:=by omega
 simp only[e1,decide_false]
theorem Kd{bs:List Bk}(h:aV bs=true):∃l,tu bs=l++[0]/\(l++[0]).Nodup/\(∀x,x∈l++[0]↔bP bs x=true)/\∀x∈l,∃p,Aft (l++[0]) x p/\x∈nxC bs p:=by
 obtain⟨l,o,hl⟩:=tz (nx:=nxC bs) [] (DB h) (f:=bs.length) (by rw[jZ];exact Nat.le_refl _)
 have h0:0∉l:=by
  have:=o.nodup
  rw[List.nodup_append] at this
  exact λhm=>this.2.2 0 hm 0 (by simp) rfl
 refine⟨l,by rw[tu,o.outE];rfl,o.nodup,λx=>?_,λx hx=>?_⟩
 ·rw[hl x,rchB_iff]
  have e:(λy=>sn (List.replicate bs.length false) y=true)=λy=>False\/bs.length<=y:=by
   funext y;rw[eM];simp
  rw[e]
  exact GI h
 ·rcases o.par x (by simp[hx]) with h1|h1
  ·rw[List.mem_singleton] at h1
   subst h1;exact absurd hx h0
  ·exact h1
def jg(bs:List Bk):List Nat:=(tu bs).reverse
theorem GH{bs:List Bk}(h:aV bs=true):Hw bs=aT (jg bs):=by rw[Hw,if_pos h,jg,aT,aT,List.map_reverse]
theorem Jt{bs:List Bk}(h:aV bs=false):Hw bs=[]:=by rw[Hw,h];rfl
structure OrdOk (bs:List Bk) (l:List Nat):Prop where
 head:∃t,l=0::t
 nd:l.Nodup
 mem:∀x,x∈l↔bP bs x=true
 par:∀(i:Nat) x,l[i+1]?=some x->∃p∈l.take (i+1),x∈nxC bs p
theorem zA{bs:List Bk}(h:aV bs=true):OrdOk bs (jg bs):=by
 obtain⟨l,e,nd,hm,hp⟩:=Kd h
 have e2:jg bs=0::l.reverse:=by rw[jg,e];simp
 refine⟨⟨_,e2⟩,?_,λx=>?_,λi x hi=>?_⟩
 ·rw[jg,e];exact Gl nd
 ·rw[jg,List.mem_reverse,e];exact hm x
 ·rw[e2,List.getElem?_cons_succ] at hi
  have hx:x∈l:=List.mem_reverse.1 (List.mem_of_getElem? hi)
  obtain⟨p,⟨u,v,e3,hv⟩,hn⟩:=hp x hx
  refine⟨p,?_,hn⟩
  rw[jg,e,e3,List.reverse_append,List.reverse_cons,List.append_assoc]
  have hil:i+1<((l++[0]).reverse).length:=by
   have:=(List.getElem?_eq_some_iff.1 hi).1
   simp at this⊢;omega
  have hg:(v.reverse++([x]++u.reverse))[i+1]?=some x:=by
   rw[←hi]
   have:v.reverse++([x]++u.reverse)=0::l.reverse:=by
    rw[←e2,jg,e,e3,List.reverse_append,List.reverse_cons,List.append_assoc]
   rw[this,List.getElem?_cons_succ]
  have hnd:(v.reverse++([x]++u.reverse)).Nodup:=by
   have:=Gl nd
   rwa[e3,List.reverse_append,List.reverse_cons,List.append_assoc] at this
  have hlv:v.length=i+1:=by
   have h1:(v.reverse++([x]++u.reverse))[v.length]?=some x:=by
    rw[List.getElem?_append_right (by simp)];simp
   exact Kc hnd h1 hg
  rw[←hlv,List.take_append_of_le_length (by simp)]
  rw[List.take_of_length_le (by simp)]
  exact List.mem_reverse.2 hv
theorem vP{l:List Nat}{p:Nat->Bool}{n:Nat}(nd:l.Nodup)(h:∀x,x∈l↔x<n/\p x=true):l.length=((List.range n).filter p).length:=by
 have h2:((List.range n).filter p).Nodup:=List.Nodup.sublist List.filter_sublist List.nodup_range
 exact((List.perm_ext_iff_of_nodup nd h2).2 λx=>by rw[h x,List.mem_filter,List.mem_range]).length_eq
theorem Dd{bs:List Bk}(h:aV bs=true):(jg bs).length=(aX (bP bs) bs.length).length:=by
 rw[aX,List.length_map]
 exact vP (zA h).nd λx=>by
  rw[(zA h).mem x]
  exact⟨λhx=>⟨Ct h (rchB_iff.1 hx),hx⟩,λhx=>hx.2⟩
theorem vH{l:List Nat}{x:Nat}:(x:Int)∈aT l↔x∈l:=by
 simp only[aT,List.mem_map]
 constructor
 ·rintro⟨y,hy,e⟩
  have:y=x:=by have e:(y:Int)=(x:Int):=e;omega
  exact this▸hy
 ·exact λh=>⟨x,h,rfl⟩
theorem mem_fltI{p:Nat->Bool}{n x:Nat}:(x:Int)∈aX p n↔x<n/\p x=true:=by
 rw[aX]
 have:= @vH ((List.range n).filter p) x
 rw[aT] at this
 rw[this,List.mem_filter,List.mem_range]
theorem ti{p:Nat->Bool}{n:Nat}{x:Int}(h:x∈aX p n):0<=x/\x.toNat<n/\p x.toNat=true/\((x.toNat:Nat):Int)=x:=by
 rw[aX,List.mem_map] at h
 obtain⟨y,hy,rfl⟩:=h
 rw[List.mem_filter,List.mem_range] at hy
 exact⟨Int.natCast_nonneg y,by simpa using hy.1,by simpa using hy.2,by simp⟩
end
section
theorem Fp(xs:List Int):(xs.mergeSort λx y=>decide (x<=y)).Pairwise (· <= ·):=by
 have:=List.pairwise_mergeSort (le:=λx y:Int=>decide (x<=y)) (λa b c h1 h2=>by simp at*;omega) (λa b=>by simp;omega) xs
 exact this.imp λh=>by simpa using h
theorem mX{a b:List Int}(ha:a.Pairwise (· < ·))(hb:b.Pairwise (· < ·))(hm:∀x,x∈a↔x∈b):a=b:=by
 refine List.Perm.eq_of_pairwise (le:=(· < ·)) (λx y _ _ h1 h2=>by omega) ha hb ?_
 exact(List.perm_ext_iff_of_nodup (ha.imp λh=>by omega) (hb.imp λh=>by omega)).2 hm
theorem si(p:Nat->Bool)(n:Nat):(aX p n).Pairwise (· < ·):=by
 rw[aX,List.pairwise_map]
 exact(List.Pairwise.filter _ List.pairwise_lt_range).imp λh=>by
  have h:_<_:=h
  exact Int.ofNat_lt.2 h
theorem lW{p:Nat->Bool}{n:Nat}{x:Int}:x∈aX p n↔0<=x/\x.toNat<n/\p x.toNat=true:=by
 constructor
 ·intro h
  obtain⟨h1,h2,h3,_⟩:=ti h
  exact⟨h1,h2,h3⟩
 ·rintro⟨h1,h2,h3⟩
  have:=(mem_fltI (p:=p) (n:=n) (x:=x.toNat)).2 ⟨h2,h3⟩
  rwa[show((x.toNat:Nat):Int)=x by omega] at this
def inI(l:List Int)(k:Nat):Bool:=decide ((k:Int)∈l)
theorem Dt(x:Int):∀xs:List Int,∃k,k<=xs.length/\(∀y∈xs.take k,y<x)/\∀y,xs[k]?=some y->¬y<x
 |[]=>⟨0,Nat.le_refl _,by simp,by simp⟩
 |a::r=>by
  by_cases h:a<x
  ·obtain⟨k,h1,h2,h3⟩:=Dt x r
   refine⟨k+1,by simp;omega,λy hy=>?_,λy hy=>h3 y (by simpa using hy)⟩
   rw[List.take_succ_cons] at hy
   rcases List.mem_cons.1 hy with rfl|hy
   ·exact h
   ·exact h2 y hy
  ·exact⟨0,Nat.zero_le _,by simp,λy hy=>by simp at hy;rw[←hy];exact h⟩
theorem JC{xs:List Int}(hp:xs.Pairwise (· < ·)){k:Nat}{x:Int}(hk:k<=xs.length)(h1:∀y∈xs.take k,y<x)(h2:∀y,xs[k]?=some y->¬y<x):(mq xs k x).Pairwise (· < ·)/\∀y,y∈mq xs k x↔y∈xs\/y=x:=by
 rw[mq]
 split
 ·rename_i he
  refine⟨hp,λy=>⟨λh=> .inl h,λh=>h.elim id λe=>e▸List.mem_of_getElem? he⟩⟩
 ·rename_i he
  have e:xs=xs.take k++xs.drop k:=(List.take_append_drop k xs).symm
  have hd:∀y∈xs.drop k,x<y:=by
   intro y hy
   have hpd:(xs.drop k).Pairwise (· < ·):=hp.sublist (List.drop_sublist k xs)
   cases hdr:xs.drop k with
   |nil=>rw[hdr] at hy;cases hy
   |cons a r=>
    have ha:xs[k]?=some a:=by
     have:=List.getElem?_drop (xs:=xs) (i:=k) (j:=0)
     rw[hdr] at this
     simpa using this.symm
    have hna:=h2 a ha
    have hne:a≠x:=λe=>he (by rw[ha,e])
    rw[hdr] at hy hpd
    rcases List.mem_cons.1 hy with rfl|hy
    ·omega
    ·have:=(List.pairwise_cons.1 hpd).1 y hy;omega
  have hpt:(xs.take k).Pairwise (· < ·):=hp.sublist (List.take_sublist k xs)
  have hpd:(xs.drop k).Pairwise (· < ·):=hp.sublist (List.drop_sublist k xs)
  refine⟨?_,λy=>?_⟩
  ·rw[List.pairwise_append,List.pairwise_cons]
   refine⟨hpt,⟨hd,hpd⟩,λa ha b hb=>?_⟩
   rcases List.mem_cons.1 hb with rfl|hb
   ·exact h1 a ha
   ·have:=h1 a ha;have:=hd b hb;omega
  ·conv=>rhs;rw[e]
   simp only[List.mem_append,List.mem_cons]
   constructor
   ·rintro(h|h|h)
    ·exact .inl (.inl h)
    ·exact .inr h
    ·exact .inl (.inr h)
   ·rintro((h|h)|h)
    ·exact .inl h
    ·exact .inr (.inr h)
    ·exact .inr (.inl h)
theorem GL(l:List Int)(x:Int)(k:Nat):inI (l++[x]) k=(inI l k||decide ((k:Int)=x)):=by
 simp[inI]
theorem Iy{l:List Int}{n:Nat}{x:Int}(hx:0<=x/\x.toNat<n){k:Nat}(hk:k<=(aX (inI l) n).length)(h1:∀y∈(aX (inI l) n).take k,y<x)(h2:∀y,(aX (inI l) n)[k]?=some y->¬y<x):mq (aX (inI l) n) k x=aX (inI (l++[x])) n:=by
 obtain⟨a,b⟩:=JC (si (inI l) n) hk h1 h2
 refine mX a (si _ _) λy=>?_
 rw[b,lW,lW,GL,Bool.or_eq_true,decide_eq_true_iff]
 constructor
 ·rintro(⟨g1,g2,g3⟩|rfl)
  ·exact⟨g1,g2,.inl g3⟩
  ·exact⟨hx.1,hx.2,.inr (by omega)⟩
 ·rintro⟨g1,g2,g3|g3⟩
  ·exact .inl ⟨g1,g2,g3⟩
  ·exact .inr (by omega)
end
section
theorem AC.shelfNil{P:Program}{G:az}{f:FuncId}{h:List AO}{rv:AV}{r:Value}(hf:eg P f=true)(hr:∀(W:World) (S:Nat->Prop) (φ:Aw.Place) (n:Nat),VRel W S φ n rv r)
 (H:∀W:World,Calls P f #[.slice none 0 0] W λe W'=>e= .returned r/\W'=W):AC P G f [.nils] h λx h'=>x= .ret rv/\h'=h:=by
 refine⟨hf,λW S φ vs hH hA=>?_⟩
 have hs1:vs.size=1:=hA.1
 obtain⟨v0,rfl⟩:∃v0,vs=#[v0]:=⟨vs[0],by
  apply Array.ext
  ·simp[hs1]
  ·intro i h1 h2
   have:i=0:=by omega
   subst this;rfl⟩
 have hv:=hA.2 0 _ v0 rfl rfl
 cases hv
 refine(H W).mono ?_
 rintro e W' ⟨rfl,rfl⟩
 exact⟨.ret rv,S,φ,h,⟨rfl,rfl⟩,hH,.ret _ _ (hr _ _ _ _),Keep.refl hH⟩
variable (G:az)
theorem Lf{h:List AO}{id:Nat}{xs:List Int}(hid:h[id]?=some (kM xs))(hx:xs≠[])(hb:xs.length<4611686018427387904):
 AC Tryz.prog G (lays189_ren.f 189) [.sl id 1 0 xs.length] h λx h'=>x= .ret (.tup [])/\h'=h.set id (kM (xs.mergeSort λx y=>decide (x<=y))):=
 AC.shelfInts (r:=λ_ _ _=> .tuple #[]) (by kernel_rfl) hid hx (by simp) (λ_ _ _ _ _ _ _ _=> .tup [] #[] rfl (λj c v e=>by simp at e))
  λblk off cap W hH hbk _=>Any.slices_Sort_int Do blk off cap xs W hH hbk hb
theorem ED(h:List AO):AC Tryz.prog G (lays189_ren.f 189) [.nils] h λx h'=>x= .ret (.tup [])/\h'=h:=
 AC.shelfNil (r:= .tuple #[]) (by kernel_rfl) (λ_ _ _ _=> .tup [] #[] rfl (λj c v e=>by simp at e)) λW=>Any.slices_Sort_int_none Do none 0 W
end
section
theorem rO:AK.whole fW=FK.ak fP:=rfl
noncomputable def cQ (bs:List Bk):List Int:=if aV bs then aX (bP bs) bs.length else[]
theorem nq{bs:List Bk}(h:aV bs=true):cQ bs=aX (bP bs) bs.length:=by rw[cQ,if_pos h]
theorem mj{bs:List Bk}(h:aV bs=false):cQ bs=[]:=by rw[cQ,h];rfl
theorem IW{bs:List Bk}(h:aV bs=true){x:Nat}(hx:x∈jg bs):x<bs.length:=Ct h (rchB_iff.1 (((zA h).mem x).1 hx))
theorem kh{p q:Nat->Bool}{n:Nat}(h:∀k,k<n->p k=q k):aX p n=aX q n:=by
 rw[aX,aX,List.filter_congr λk hk=>h k (List.mem_range.1 hk)]
theorem IS{bs:List Bk}(h:aV bs=true){l:List Int}(hm:∀x:Nat,(x:Int)∈l↔x∈jg bs):aX (inI l) bs.length=cQ bs:=by
 rw[nq h]
 refine kh λk _=>?_
 rw[inI,Bool.eq_iff_iff,decide_eq_true_iff,hm,(zA h).mem]
variable (G:az)
theorem ru(l:List Int)(n:Nat)(x:Int)(hn:n<=1073741824)(hx:0<=x/\x.toNat<n):VF Tryz.prog G aN [.p (aC (aX (inI l) n)),.p (.int .i64 x)] (.p (aC (aX (inI (l++[x])) n))):=by
 obtain⟨k,h1,h2,h3⟩:=Dt x (aX (inI l) n)
 have:=lH G (aX (inI l) n) k x (by have:=dE (inI l) n;omega) h1 h2 h3
 rwa[Iy hx h1 h2 h3] at this
theorem AA(l:List Int)(n:Nat)(hn:n<=1073741824)(hl:l.length<=1073741824)(hx:∀x∈l,0<=x/\x.toNat<n):VF Tryz.prog G fg [.p (aC l)] (.p (aC (aX (inI l) n))):=by
 have hnl:aC l= .lst 1 (l.map λw=>[.int .i64 w]):=rfl
 have hT:∀i,i<l.length->∀x,l[i]?=some x->VF Tryz.prog G aN [.p (aC (aX (inI (l.take i)) n)),.p (.int .i64 x)] (.p (aC (aX (inI (l.take (i+1))) n))):=λi hi x hg=>by
  have h1:l.take (i+1)=l.take i++[x]:=by rw[List.take_add_one,hg];rfl
  rw[h1]
  exact ru G (l.take i) n x hn (hx x (List.mem_of_getElem? hg))
 obtain⟨F,hF⟩:∃F:Nat->List Int,F=λi=>aX (inI (l.take i)) n:=⟨_,rfl⟩
 have hF0:F 0=[]:=by
  rw[hF]
  refine vu λi _=>?_
  simp[inI]
 have hFe:F l.length=aX (inI l) n:=by rw[hF];simp only[List.take_length]
 have hFi:∀i,aX (inI (l.take i)) n=F i:=λi=>by rw[hF]
 simp only[hFi] at hT
 rw[←hFe]
 refine AC.go pK ?_
 simp-implicitDefEqProofs[jN,hnl]
 refine aH (λi:Nat=>aw 19 [(4,.p (.int .i64 i)),(3,.p (aC (F i))),(0,.p (.lst 1 (l.map λw=>[.int .i64 w])))]) (λ_=>[]) (λi=>i<=l.length) (λi=>l.length-i) 0 (Nat.zero_le _) ?_ ?_
 ·refine lX 0 (Nat.le_refl _) (by simp) rfl (.nil _) ?_
  rw[hF0]
  exact⟨.keep (by simp[below]) .nil,.one (bw (l:=[]) rfl) .nil,.keep (by simp[below]) .nil,trivial⟩
 intro i hi
 simp-implicitDefEqProofs[]
 refine aF (λhc=>?_) (λhc=>?_)
 ·have hc:i<l.length:=by simpa using hc
  have hg:=List.getElem?_eq_getElem hc
  have hcall:=hT i hc _ hg
  generalize l[i]=x at hg hcall
  have hwi:=w1 (i:=i) (by omega)
  simp-implicitDefEqProofs[hg]
  refine hcall.use ?_
  simp-implicitDefEqProofs[]
  exact⟨i+1,hc,by omega,aU rfl (by simp[below,hwi])⟩
 ·have hc:i=l.length:=by simp at hc;omega
  subst hc
  simp-implicitDefEqProofs[]
structure OrS where (m id:Nat) (Y:List AO)
theorem rj(c:Cd)(hc:CBd c)(hfit:aV c.blocks=true):AC Tryz.prog G dL [.agg (c.cs.map .p)] [] λx h=>∃id,x= .ret (.sl id 1 0 (jg c.blocks).length)/\h[id]?=some (.row 1 (au (aT (jg c.blocks)))):=by
 have hcs:=c.cs_eq2
 have hbl:bkL c.blocks= .lst 5 (c.blocks.map Bk.cs):=rfl
 have hpos:=cG hfit
 have hc1:=hc.1
 have hvl:(tu c.blocks).length<=1073741824:=by
  have:=Dd hfit
  have:=dE (bP c.blocks) c.blocks.length
  rw[jg,List.length_reverse] at*
  omega
 have hrep:List.replicate c.blocks.length [AV.p (.bool false)]=bM (List.replicate c.blocks.length false):=vp _
 have hlr:(List.replicate c.blocks.length false).length=c.blocks.length:=List.length_replicate
 have hv:∀(h:List AO) (sid oid:Nat),sid≠oid->h[sid]?=some (.row 1 (bM (List.replicate c.blocks.length false)))->h[oid]?=some (.row 1 [])->AC Tryz.prog G bq [.agg (c.cs.map .p),.p (.int .i64 0),.sl sid 1 0 c.blocks.length,.sl oid 1 0 0] h λx h'=>∃id,x= .ret (.sl id 1 0 (tu c.blocks).length)/\h'[id]?=some (.row 1 (au (aT (tu c.blocks))))/\id<h'.length:=λh sid oid hne h1 h2=>by
  have:=nD G c hc hfit c.blocks.length h 0 sid oid (List.replicate c.blocks.length false) [] hpos hlr (DB hfit) (by rw[jZ];exact Nat.le_refl _) hne h1 h2 (by rw[jZ];simp;omega)
  rw[hlr] at this
  exact this.mono λx h' ⟨id,e1,e2,_⟩=>⟨id,e1,e2,(List.getElem?_eq_some_iff.1 e2).1⟩
 rw[hcs,hbl] at hv
 refine AC.goK rZ rO ?_
 simp-implicitDefEqProofs[fW,fP,hcs,hbl]
 refine fR (λa:OrS=>aw 29 [(3,.sl a.id 1 0 (tu c.blocks).length)]) (λa=>a.Y) (λa=>a.Y[a.id]?=some (.row 1 (au (aT (tu c.blocks))))) ?_ ?_
 ·simp-implicitDefEqProofs[hrep]
  refine⟨⟨by omega,?_⟩,by omega,?_⟩
  ·refine(hv _ 1 2 (by decide) rfl rfl).mono ?_
   rintro r h ⟨id,rfl,h1,h2⟩
   simp-implicitDefEqProofs[aa]
   exact⟨⟨0,id,h⟩,h1,ab (Nat.zero_le _) (by simp[below];omega)⟩
  ·refine(hv _ 2 1 (by decide) rfl rfl).mono ?_
   rintro r h ⟨id,rfl,h1,h2⟩
   simp-implicitDefEqProofs[aa]
   exact⟨⟨0,id,h⟩,h1,ab (Nat.zero_le _) (by simp[below];omega)⟩
 rintro⟨_,vid,Y⟩ hY
 simp only at hY⊢
 have hvd:=(List.getElem?_eq_some_iff.1 hY).1
 have hor:jg c.blocks=(tu c.blocks).reverse:=rfl
 rw[hor]
 generalize tu c.blocks=v at hY hvl
 have hw0:IntKind.i64.wrap ((v.length:Int)-1)=(v.length:Int)-1:=ae (by omega) (by omega)
 simp-implicitDefEqProofs[hw0]
 refine aH (λa:OrS=>aw 29 [(5,.p (.int .i64 ((v.length:Int)-1-a.m))),(4,.sl a.id 1 0 a.m),(3,.sl vid 1 0 v.length)]) (λa=>a.Y) (λa=>a.m<=v.length/\a.id≠vid/\a.Y[vid]?=some (.row 1 (au (aT v)))/\a.Y[a.id]?=some (.row 1 (au (aT (v.reverse.take a.m))))) (λa=>v.length-a.m) ⟨0,Y.length,_⟩ ⟨Nat.zero_le _,by simp only;omega,?_,?_⟩ (ab (Nat.zero_le _) (by simp[below];omega)) ?_
 ·simp only;rw[List.getElem?_append_left hvd];exact hY
 ·simp only;rw[List.getElem?_append_right (Nat.le_refl _),Nat.sub_self];rfl
 clear hY
 rintro⟨m,id,Z⟩ ⟨hm,hne,hz1,hz2⟩
 simp only at hm hne hz1 hz2⊢
 have hid:=(List.getElem?_eq_some_iff.1 hz2).1
 have hvd:=(List.getElem?_eq_some_iff.1 hz1).1
 simp-implicitDefEqProofs[]
 refine aF (λhcc=>?_) (λhcc=>?_)
 ·have hcc:m<v.length:=by simp at hcc;omega
  obtain⟨j,hj⟩:∃j,j=v.length-1-m:=⟨_,rfl⟩
  have hjI:(v.length:Int)-1-m=(j:Int):=by omega
  have hjl:j<v.length:=by omega
  have hgj:=List.getElem?_eq_getElem hjl
  generalize v[j]=x at hgj
  have hrj:(au (aT v))[j]?=some [.p (.int .i64 x)]:=by simp[au,aT,hgj]
  have htk:v.reverse.take (m+1)=v.reverse.take m++[x]:=by
   rw[List.take_add_one,List.getElem?_reverse hcc,show v.length-1-m=j by omega,hgj];rfl
  have hlt:(v.reverse.take m).length=m:=by simp;omega
  have hlr2:(au (aT (v.reverse.take m))).length=m:=by simp[au,aT];omega
  have htk2:List.take m (au (aT (v.reverse.take m)))=au (aT (v.reverse.take m)):=List.take_of_length_le (by omega)
  have hzm:∀t,(Z++t)[id]?=some (.row 1 (au (aT (v.reverse.take m)))):=λt=>by rw[List.getElem?_append_left hid];exact hz2
  have hze:=λt hh=>fJ (hzm t) hh
  have hw2:IntKind.i64.wrap ((j:Int)-1)=(v.length:Int)-1-((m+1:Nat):Int):=by rw[ae (by omega) (by omega)];omega
  rw[hjI]
  simp-implicitDefEqProofs[hz1,hjl,hrj,hzm,hze,htk2,hlr2]
  refine⟨⟨by omega,by omega⟩,⟨m+1,Z.length+1,_⟩,⟨hcc,by simp only;omega,?_,?_⟩,by simp only;omega,ab (Nat.zero_le _) ?_⟩
  ·simp only
   rw[List.getElem?_append_left (by simp;omega),List.getElem?_set_ne hne,List.getElem?_append_left hvd];exact hz1
  ·simp only
   rw[List.getElem?_append_right (by simp),htk,lU];simp[au,aT]
  ·simp[below,hw2];omega
 ·have hcc:m=v.length:=by simp at hcc;omega
  subst hcc
  rw[List.take_of_length_le (by simp)] at hz2
  simp-implicitDefEqProofs[hz2]
theorem Lv(c:Cd)(hc:CBd c):VF Tryz.prog G lw [.agg (c.cs.map .p)] (.p (aC (Hw c.blocks))):=by
 have hcs:=c.cs_eq2
 have hbl:bkL c.blocks= .lst 5 (c.blocks.map Bk.cs):=rfl
 have h1:=pP G c hc
 have h2:=λhf=>dr G ((rj G c hc hf).mono λr h ⟨id,e1,e2⟩=>⟨_,e1,by rw[←pA (jg c.blocks)];exact bw e2⟩)
 rw[hcs,hbl] at h1 h2
 refine dr G ?_
 refine AC.go sJ ?_
 simp-implicitDefEqProofs[kW,hcs,hbl]
 refine h1.use ?_
 cases e1:aV c.blocks with
 |false=>
  rw[Jt e1]
  simp-implicitDefEqProofs[]
  exact bw (l:=[]) rfl
 |true=>
  rw[GH e1]
  simp-implicitDefEqProofs[]
  refine(h2 e1).use ?_
  simp-implicitDefEqProofs[]
  exact .p _
theorem Ay(c:Cd)(hc:CBd c):VF Tryz.prog G fh [.agg (c.cs.map .p)] (.p (aC (cQ c.blocks))):=by
 have hcs:=c.cs_eq2
 have hbl:bkL c.blocks= .lst 5 (c.blocks.map Bk.cs):=rfl
 have h1:=pP G c hc
 have h2:=λhf=>dr G ((rj G c hc hf).mono λr h ⟨id,e1,e2⟩=>⟨_,e1,by rw[←pA (jg c.blocks)];exact bw e2⟩)
 rw[hcs,hbl] at h1 h2
 refine dr G ?_
 refine AC.go pS ?_
 simp-implicitDefEqProofs[jw,hcs,hbl]
 refine h1.use ?_
 cases e1:aV c.blocks with
 |false=>
  rw[mj e1]
  simp-implicitDefEqProofs[]
  exact bw (l:=[]) rfl
 |true=>
  have hin:∀x∈aT (jg c.blocks),0<=x/\x.toNat<c.blocks.length:=λx hx=>by
   obtain⟨y,hy,rfl⟩:=List.mem_map.1 hx
   exact⟨Int.natCast_nonneg y,by simpa using IW e1 hy⟩
  have hle:(aT (jg c.blocks)).length<=1073741824:=by
   have:=Dd e1
   have:=dE (bP c.blocks) c.blocks.length
   have:=hc.1
   rw[pA];omega
  have h3:=AA G (aT (jg c.blocks)) c.blocks.length hc.1 hle hin
  rw[IS e1 λx=>vH] at h3
  simp-implicitDefEqProofs[]
  refine(h2 e1).use ?_
  simp-implicitDefEqProofs[]
  refine h3.use ?_
  simp-implicitDefEqProofs[]
  exact .p _
end
section
variable (G:az)
theorem MT(xs:List Int)(hb:xs.length<=1073741824):VF Tryz.prog G mw [.p (aC xs),.p (aC xs)] (.p (.bool true)):=by
 refine AC.go uQ ?_
 have hsl:∀l,aC l= .lst 1 (l.map λw=>[.int .i64 w]):=λ_=>rfl
 simp-implicitDefEqProofs[mS,hsl]
 refine aH (λi:Nat=>aw 29 [(0,.p (aC xs)),(1,.p (aC xs)),(10,.p (.int .i64 xs.length)),(11,.p (.int .i64 i))]) (λ_=>[]) (λi=>i<=xs.length) (λi=>xs.length-i) 0 (by simp) ?_ ?_
 ·exact aU rfl (by simp[below,aC])
 intro i hi
 simp-implicitDefEqProofs[hsl]
 refine aF (λh1=>?_) (λh1=>?_)
 ·simp at h1
  have hg:xs[i]?=some xs[i]:=List.getElem?_eq_getElem h1
  generalize xs[i]=x at hg
  simp-implicitDefEqProofs[hg]
  refine⟨i+1,by omega,by omega,aU rfl ?_⟩
  simp[below,aC,w1 (i:=i) (by omega)]
 ·simp at h1
  simp-implicitDefEqProofs[]
theorem IH(xs:List Int)(k:Int)(hb:xs.length<=1073741824):VF Tryz.prog G ku [.p (aC xs),.p (.int .i64 k)] (.p (.bool (decide (k∈xs)))):=by
 refine AC.go zE ?_
 have hsl:∀l,aC l= .lst 1 (l.map λw=>[.int .i64 w]):=λ_=>rfl
 simp-implicitDefEqProofs[oI,hsl]
 refine aH (λi:Nat=>aw 17 [(1,.p (.int .i64 k)),(7,.p (aC xs)),(8,.p (.int .i64 xs.length)),(9,.p (.int .i64 i))]) (λ_=>[]) (λi=>i<=xs.length/\k∉xs.take i) (λi=>xs.length-i) 0 (by simp) ?_ ?_
 ·exact aU rfl (by simp[below,aC])
 intro i ⟨hi,hn⟩
 simp-implicitDefEqProofs[hsl]
 refine aF (λh1=>?_) (λh1=>?_)
 ·simp at h1
  have hg:xs[i]?=some xs[i]:=List.getElem?_eq_getElem h1
  have hT:xs.take (i+1)=xs.take i++[xs[i]]:=ay h1
  have hm:=List.getElem_mem h1
  generalize xs[i]=x at hg hT hm
  by_cases hx:x=k
  ·subst hx
   simp-implicitDefEqProofs[hg,hm]
  ·simp-implicitDefEqProofs[hg,hx]
   refine⟨i+1,⟨by omega,?_⟩,by omega,aU rfl ?_⟩
   ·rw[hT,List.mem_append]
    rintro(h|h)
    ·exact hn h
    ·exact hx (List.mem_singleton.1 h).symm
   ·simp[below,aC,w1 (i:=i) (by omega)]
 ·simp at h1
  rw[List.take_of_length_le h1] at hn
  simp-implicitDefEqProofs[hn]
end
section
theorem rq(bs:List Bk)(b:Int):(aI bs b).length<=bs.length:=by
 rw[aI,List.length_map]
 exact Nat.le_trans (List.length_filter_le _ _) (by simp)
theorem Eh{bs:List Bk}:(cQ bs).length<=bs.length:=by
 rw[cQ]
 split
 ·exact dE _ _
 ·simp
variable (G:az)
end
section
theorem BQ{bs:List Bk}{x:Nat}:(x:Int)∈cQ bs↔aV bs=true/\bP bs x=true:=by
 cases h:aV bs with
 |false=>rw[mj h];simp
 |true=>
  rw[nq h,mem_fltI]
  exact⟨λh1=>⟨rfl,h1.2⟩,λh1=>⟨Ct h (rchB_iff.1 h1.2),h1.2⟩⟩
theorem sH{bs:List Bk}{v:Int}(h:v∈cQ bs):aV bs=true/\∃x:Nat,v=(x:Int)/\x<bs.length/\bP bs x=true:=by
 cases hf:aV bs with
 |false=>rw[mj hf] at h;simp at h
 |true=>
  rw[nq hf] at h
  obtain⟨h1,h2,h3,h4⟩:=ti h
  exact⟨rfl,v.toNat,h4.symm,h2,h3⟩
variable (G:az)
end
section
theorem Em{bs:List Bk}(hfit:aV bs=true)(x:Nat):decide ((x:Int)∈cQ bs)=bP bs x:=by
 rw[Bool.eq_iff_iff,decide_eq_true_iff,BQ]
 simp[hfit]
variable (G:az)
end
section
theorem CE{bs:List Bk}(b:Int):decide (b∈cQ bs)=(inC bs b&&bP bs b.toNat):=by
 cases hf:aV bs with
 |false=>rw[mj hf,zo hf];simp
 |true=>
  cases hi:inC bs b with
  |false=>
   rw[Bool.false_and,decide_eq_false_iff_not]
   intro hm
   obtain⟨_,x,rfl,hx,_⟩:=sH hm
   rw[zG hf hx] at hi;cases hi
  |true=>
   obtain⟨_,h0,h1,h2⟩:=sg hi
   rw[Bool.true_and,←Em hf,h2]
variable (G:az)
end
section
inductive Cl (bs:List Bk) (B:List Int):Nat->Prop
 |base {x f:Nat}:(x:Int)∈B->x<bs.length->f<bs.length->frB bs x f=true->Cl bs B f
 |step {x f:Nat}:Cl bs B x->x<bs.length->f<bs.length->frB bs x f=true->Cl bs B f
noncomputable def clB (bs:List Bk) (B:List Int) (f:Nat):Bool:= @decide (Cl bs B f) (Classical.propDecidable _)
theorem HM{bs:List Bk}{B:List Int}{f:Nat}:clB bs B f=true↔Cl bs B f:= @decide_eq_true_iff _ (Classical.propDecidable _)
structure WkI (bs:List Bk) (B:List Int) (l W:List Int):Prop where
 nd:l.Nodup
 inl:∀v∈l,∃x:Nat,v=(x:Int)/\x<bs.length/\Cl bs B x
 inW:∀v∈W,v∈B\/v∈l
 all:∀x:Nat,x<bs.length->((x:Int)∈B\/(x:Int)∈l)->(x:Int)∈W\/∀f,f<bs.length->frB bs x f=true->(f:Int)∈l
theorem WkI.start(bs:List Bk)(B:List Int):WkI bs B [] B:=⟨List.nodup_nil,λ_ h=>(by cases h),λ_ h=> .inl h,λx _ h=> .inl (h.resolve_right (by simp))⟩
theorem nT:∀{l:List Int} {n:Nat},l.Nodup->(∀v∈l,∃x:Nat,v=(x:Int)/\x<n)->l.length<=n:=by
 intro l n nd h
 have h1:(l.map Int.toNat).Nodup:=by
  rw[List.nodup_iff_pairwise_ne,List.pairwise_map]
  have h2:=List.Pairwise.and_mem.1 nd
  refine h2.imp λ{a b} ⟨ha,hb,hne⟩ e=>?_
  obtain⟨x,rfl,_⟩:=h a ha
  obtain⟨y,rfl,_⟩:=h b hb
  exact hne (by omega)
 have h3:=vP (p:=λk=>decide (k∈l.map Int.toNat)) (n:=n) h1 λx=>by
  rw[decide_eq_true_iff]
  refine⟨λhx=>⟨?_,hx⟩,λhx=>hx.2⟩
  obtain⟨v,hv,rfl⟩:=List.mem_map.1 hx
  obtain⟨y,rfl,hy⟩:=h v hv
  simpa using hy
 rw[List.length_map] at h3
 rw[h3]
 have:=List.length_filter_le (λk=>decide (k∈l.map Int.toNat)) (List.range n)
 rwa[List.length_range] at this
theorem WkI.len{bs:List Bk}{B l W:List Int}(h:WkI bs B l W):l.length<=bs.length:=nT h.nd λv hv=>by
 obtain⟨x,h1,h2,_⟩:=h.inl v hv
 exact⟨x,h1,h2⟩
theorem WkI.done{bs:List Bk}{B l:List Int}(h:WkI bs B l []):aX (inI l) bs.length=aX (clB bs B) bs.length:=by
 refine kh λk hk=>?_
 rw[inI,Bool.eq_iff_iff,decide_eq_true_iff,HM]
 constructor
 ·intro hm
  obtain⟨x,e,_,hx⟩:=h.inl _ hm
  have:x=k:=by omega
  exact this▸hx
 ·intro hc
  induction hc with
  |base hB hx hf he=>exact(h.all _ hx (.inl hB)).resolve_left (by simp) _ hf he
  |step _ hx hf he ih=>exact(h.all _ hx (.inr (ih hx))).resolve_left (by simp) _ hf he
structure WkJ (bs:List Bk) (B:List Int) (x:Nat) (F:List Int) (l W:List Int):Prop where
 nd:l.Nodup
 inl:∀v∈l,∃x:Nat,v=(x:Int)/\x<bs.length/\Cl bs B x
 inW:∀v∈W,v∈B\/v∈l
 all:∀y:Nat,y<bs.length->y≠x->((y:Int)∈B\/(y:Int)∈l)->(y:Int)∈W\/∀f,f<bs.length->frB bs y f=true->(f:Int)∈l
 me:(x:Int)∈B\/(x:Int)∈l
 fin:∀v∈F,v∈l
theorem WkI.skip{bs:List Bk}{B l W:List Int}{v:Int}(h:WkI bs B l (v::W))(hv:∀x:Nat,v=(x:Int)->x<bs.length->∀f,f<bs.length->frB bs x f=false):WkI bs B l W:=by
 refine⟨h.nd,h.inl,λw hw=>h.inW w (by simp[hw]),λx hx hm=>?_⟩
 rcases h.all x hx hm with h1|h1
 ·rcases List.mem_cons.1 h1 with h2|h2
  ·right
   intro f hf he
   rw[hv x h2.symm hx f hf] at he;cases he
  ·exact .inl h2
 ·exact .inr h1
theorem WkI.take{bs:List Bk}{B l W:List Int}{x:Nat}(h:WkI bs B l ((x:Int)::W)):WkJ bs B x [] l W:=by
 refine⟨h.nd,h.inl,λw hw=>h.inW w (by simp[hw]),λy hy hne hm=>?_,h.inW _ (by simp),λ_ h=>(by cases h)⟩
 rcases h.all y hy hm with h1|h1
 ·rcases List.mem_cons.1 h1 with h2|h2
  ·exact absurd (by omega) hne
  ·exact .inl h2
 ·exact .inr h1
theorem WkJ.new{bs:List Bk}{B F l W:List Int}{x f:Nat}(h:WkJ bs B x F l W)(hv:(f:Int)∉l)(hx:x<bs.length)(hf:f<bs.length)(he:frB bs x f=true):WkJ bs B x (F++[(f:Int)]) (l++[(f:Int)]) (W++[(f:Int)]):=by
 have hcl:Cl bs B f:=by
  rcases h.me with h1|h1
  ·exact .base h1 hx hf he
  ·obtain⟨y,e,_,hy⟩:=h.inl _ h1
   have:y=x:=by omega
   exact .step (this▸hy) hx hf he
 refine⟨?_,λv hv2=>?_,λv hv2=>?_,λy hy hne hm=>?_,h.me.imp id λh1=>by simp[h1],λv hv2=>?_⟩
 ·rw[List.nodup_append]
  exact⟨h.nd,by simp,λa ha b hb e=>hv (by rw[List.mem_singleton] at hb;rw[←hb,←e];exact ha)⟩
 ·rcases List.mem_append.1 hv2 with h1|h1
  ·exact h.inl v h1
  ·exact⟨f,List.mem_singleton.1 h1,hf,hcl⟩
 ·rcases List.mem_append.1 hv2 with h1|h1
  ·exact(h.inW v h1).imp id λh2=>by simp[h2]
  ·exact .inr (by simp[List.mem_singleton.1 h1])
 ·have hm2:((y:Int)∈B\/(y:Int)∈l)\/(y:Int)=f:=by
   rcases hm with h1|h1
   ·exact .inl (.inl h1)
   ·rcases List.mem_append.1 h1 with h2|h2
    ·exact .inl (.inr h2)
    ·exact .inr (List.mem_singleton.1 h2)
  rcases hm2 with h1|h1
  ·rcases h.all y hy hne h1 with h2|h2
   ·exact .inl (by simp[h2])
   ·exact .inr λg hg hge=>by simp[h2 g hg hge]
  ·exact .inl (by simp[h1])
 ·rcases List.mem_append.1 hv2 with h1|h1
  ·simp[h.fin v h1]
  ·simp[List.mem_singleton.1 h1]
theorem WkJ.done{bs:List Bk}{B l W:List Int}{x:Nat}(h:WkJ bs B x (aX (frB bs x) bs.length) l W):WkI bs B l W:=by
 refine⟨h.nd,h.inl,h.inW,λy hy hm=>?_⟩
 by_cases e:y=x
 ·subst e
  exact .inr λf hf he=>h.fin _ (mem_fltI.2 ⟨hf,he⟩)
 ·exact h.all y hy e hm
theorem WkJ.len{bs:List Bk}{B F l W:List Int}{x:Nat}(h:WkJ bs B x F l W):l.length<=bs.length:=nT h.nd λv hv=>by
 obtain⟨x,h1,h2,_⟩:=h.inl v hv
 exact⟨x,h1,h2⟩
variable (G:az)
theorem sh(l:List Int)(v:Int)(hl:l.length<=1073741824):VF Tryz.prog G dh [.p (aC l),.p (.int .i64 v)] (.p (.int .i64 (ixI (l.findIdx? λx=>decide (x=v))))):=by
 have hLn:aC l= .lst 1 (l.map λn=>[.int .i64 n]):=rfl
 refine AC.go yB ?_
 simp-implicitDefEqProofs[oC,hLn]
 refine aH (λi:Nat=>aw 19 [(5,.p (.int .i64 i)),(0,.p (.lst 1 (l.map λn=>[.int .i64 n]))),(1,.p (.int .i64 v))]) (λ_=>[]) (λi=>i<=l.length/\v∉l.take i) (λi=>l.length-i) 0 ⟨Nat.zero_le _,by simp⟩ (aU rfl (by simp[below])) ?_
 rintro i ⟨hi,hn⟩
 simp-implicitDefEqProofs[]
 refine aF (λhc=>?_) (λhc=>?_)
 ·have hc:i<l.length:=by simpa using hc
  have hwi:=w1 (i:=i) (by omega)
  have hg:=List.getElem?_eq_getElem hc
  generalize hx:l[i]=x at hg
  by_cases he:x=v
  ·have hf:(l.findIdx? λx=>decide (x=v))=some i:=by
    rw[List.findIdx?_eq_some_iff_getElem]
    exact⟨hc,by simp[hx,he],λj hj=>by
     have:¬l[j]=v:=λe=>hn (List.mem_take_iff_getElem.2 ⟨j,by omega,e⟩)
     simpa using this⟩
   simp-implicitDefEqProofs[hg,he,hf,ixI]
  ·simp-implicitDefEqProofs[hg,he]
   refine⟨i+1,⟨hc,λhm=>?_⟩,by omega,aU rfl (by simp[below,hwi])⟩
   rw[List.take_add_one,hg,List.mem_append] at hm
   rcases hm with hm|hm
   ·exact hn hm
   ·simp at hm;exact he hm.symm
 ·have hie:l.length<=i:=by simpa using hc
  rw[List.take_of_length_le hie] at hn
  have hf:(l.findIdx? λx=>decide (x=v))=none:=by
   rw[List.findIdx?_eq_none_iff]
   intro x hx
   have:¬x=v:=λe=>hn (e▸hx)
   simpa using this
  simp-implicitDefEqProofs[hf,ixI]
theorem zr(l:List Int)(v:Int):decide (ixI (l.findIdx? λx=>decide (x=v))<0)= !decide (v∈l):=by
 cases e:(l.findIdx? λx=>decide (x=v)) with
 |none=>
  rw[List.findIdx?_eq_none_iff] at e
  have:v∉l:=λh=>by have:=e v h;simp at this
  simp[ixI,this]
 |some i=>
  obtain⟨h1,h2,_⟩:=List.findIdx?_eq_some_iff_getElem.1 e
  have:v∈l:=by
   have h2:l[i]=v:=by simpa using h2
   exact h2▸List.getElem_mem h1
  simp[ixI,this]
end
section
structure FwS where (l W:List Int) (pre:List (List AV)) (id:Nat) (X:List AO)
structure FvS where (j:Nat) (l W:List Int) (pre:List (List AV)) (id:Nat) (X:List AO)
def WrI(X:List AO)(id:Nat)(pre:List (List AV))(W:List Int):Prop:=X[id]?=some (AO.row 1 (pre++au W))
variable (G:az)
end
section
noncomputable def bkE (bs:List Bk) (h x p:Nat):Bool:=if x=h then co bs h p else bP bs p
theorem MJ{bs:List Bk}{h x p:Nat}(e:bkE bs h x p=true):bP bs p=true:=by
 rw[bkE] at e
 split at e
 ·exact(vG e).2
 ·exact e
inductive Bd2 (bs:List Bk) (h:Nat):Nat->Prop
 |head:Bd2 bs h h
 |step {x p:Nat}:Bd2 bs h x->(p:Int)∈aI bs (x:Int)->bkE bs h x p=true->Bd2 bs h p
noncomputable def bdB (bs:List Bk) (h x:Nat):Bool:= @decide (Bd2 bs h x) (Classical.propDecidable _)
theorem Dy{bs:List Bk}{h x:Nat}:bdB bs h x=true↔Bd2 bs h x:= @decide_eq_true_iff _ (Classical.propDecidable _)
structure WbI (bs:List Bk) (h:Nat) (l W:List Int):Prop where
 nd:l.Nodup
 inl:∀v∈l,∃x:Nat,v=(x:Int)/\x<bs.length/\Bd2 bs h x
 inW:∀v∈W,∃x:Nat,v=(x:Int)/\x<bs.length/\(bP bs x=true->Bd2 bs h x)
 hd:(h:Int)∈l
 all:∀x p:Nat,(x:Int)∈l->(p:Int)∈aI bs (x:Int)->bkE bs h x p=true->(p:Int)∈l\/(p:Int)∈W
theorem WbI.len{bs:List Bk}{h:Nat}{l W:List Int}(H:WbI bs h l W):l.length<=bs.length:=nT H.nd λv hv=>by
 obtain⟨x,h1,h2,_⟩:=H.inl v hv
 exact⟨x,h1,h2⟩
theorem WbI.done{bs:List Bk}{h:Nat}{l:List Int}(H:WbI bs h l []):aX (inI l) bs.length=aX (bdB bs h) bs.length:=by
 refine kh λk hk=>?_
 rw[inI,Bool.eq_iff_iff,decide_eq_true_iff,Dy]
 constructor
 ·intro hm
  obtain⟨x,e,_,hx⟩:=H.inl _ hm
  have:x=k:=by omega
  exact this▸hx
 ·intro hc
  clear hk
  induction hc with
  |head=>exact H.hd
  |step _ hp hd ih=>exact(H.all _ _ ih hp hd).resolve_right (by simp)
theorem jK{bs:List Bk}{b v:Int}(h:v∈aI bs b):∃x:Nat,v=(x:Int)/\x<bs.length:=by
 obtain⟨h1,h2⟩:=sy h
 exact⟨v.toNat,by omega,h2⟩
theorem WbI.start{bs:List Bk}{h:Nat}(hl:h<bs.length):WbI bs h [(h:Int)] ((aI bs (h:Int)).filter λp=>co bs h p.toNat):=by
 refine⟨by simp,λv hv=>⟨h,List.mem_singleton.1 hv,hl,.head⟩,λv hv=>?_,by simp,λx p hx hp hd=> .inr ?_⟩
 ·rw[List.mem_filter] at hv
  obtain⟨x,rfl,hx⟩:=jK hv.1
  exact⟨x,rfl,hx,λ_=> .step .head hv.1 (by rw[bkE,if_pos rfl];simpa using hv.2)⟩
 ·have:x=h:=by have:=List.mem_singleton.1 hx;omega
  subst this
  rw[List.mem_filter]
  rw[bkE,if_pos rfl] at hd
  exact⟨hp,by simpa using hd⟩
theorem WbI.skip{bs:List Bk}{h:Nat}{l W:List Int}{v:Int}(H:WbI bs h l (v::W))(hv:v∈l\/bP bs v.toNat=false):WbI bs h l W:=by
 refine⟨H.nd,H.inl,λw hw=>H.inW w (by simp[hw]),H.hd,λx p hx hp hd=>?_⟩
 rcases H.all x p hx hp hd with h1|h1
 ·exact .inl h1
 ·rcases List.mem_cons.1 h1 with h2|h2
  ·subst h2
   rcases hv with h3|h3
   ·exact .inl h3
   ·rw[Int.toNat_natCast,MJ hd] at h3;cases h3
  ·exact .inr h2
theorem WbI.new{bs:List Bk}{h:Nat}{l W:List Int}{x:Nat}(H:WbI bs h l ((x:Int)::W))(hv:(x:Int)∉l)(hd:bP bs x=true):WbI bs h (l++[(x:Int)]) (W++aI bs (x:Int)):=by
 obtain⟨x',e,hxl,hb⟩:=H.inW (x:Int) (by simp)
 have:x'=x:=by omega
 subst this
 have hbd:=hb hd
 refine⟨?_,λv hv2=>?_,λv hv2=>?_,by simp[H.hd],λy p hy hp hdp=>?_⟩
 ·rw[List.nodup_append]
  exact⟨H.nd,by simp,λa ha b hb e=>hv (by rw[List.mem_singleton] at hb;rw[←hb,←e];exact ha)⟩
 ·rcases List.mem_append.1 hv2 with h1|h1
  ·exact H.inl v h1
  ·exact⟨x',List.mem_singleton.1 h1,hxl,hbd⟩
 ·rcases List.mem_append.1 hv2 with h1|h1
  ·exact H.inW v (by simp[h1])
  ·obtain⟨p,rfl,hp⟩:=jK h1
   have hxh:¬x'=h:=λe=>hv (e▸H.hd)
   exact⟨p,rfl,hp,λhdp=> .step hbd h1 (by rw[bkE,if_neg hxh];exact hdp)⟩
 ·rcases List.mem_append.1 hy with h1|h1
  ·rcases H.all y p h1 hp hdp with h2|h2
   ·exact .inl (by simp[h2])
   ·rcases List.mem_cons.1 h2 with h3|h3
    ·exact .inl (by simp[h3])
    ·exact .inr (by simp[h3])
  ·have:y=x':=by have:=List.mem_singleton.1 h1;omega
   subst this
   exact .inr (by simp[hp])
theorem tP:AK.whole gY=FK.ak gG:=rfl
variable (G:az)
theorem Eb(c:Cd)(hc:CBd c)(h160:c.blocks.length<=160)(h:Nat)(hh:h<c.blocks.length):VF Tryz.prog G gJ [.agg (c.cs.map .p),.p (Hr c.blocks),.p (.int .i64 h)] (.p (aC (aX (bdB c.blocks h) c.blocks.length))):=by
 have hcs:=c.cs_eq2
 have hbl:bkL c.blocks= .lst 5 (c.blocks.map Bk.cs):=rfl
 have hP:=λb=>pU G c b hc.1 hc.2
 rw[hcs,hbl] at hP
 obtain⟨DL,BL,hd,hdl,hdg,hbll,hbg⟩:=pt c.blocks
 rw[hd]
 have hpl:∀b,(aI c.blocks b).length<=c.blocks.length:=λb=>by
  rw[aI,List.length_map]
  exact Nat.le_trans (List.length_filter_le _ _) (by simp)
 have hDh:=hdg h hh
 have hBh:=hbg h
 refine AC.goK ue tP ?_
 simp-implicitDefEqProofs[gY,gG,hcs,hbl]
 refine Jp (aw 72 [(7,.p (aC (aX (inI [(h:Int)]) c.blocks.length))),(3,.ptr 0 3 0 0),(1,.p (.lst 1 DL)),(2,.p (.int .i64 h))]) [.row 3 [[.p (.int .i64 c.params),.p (.int .i64 c.regs),.p (.lst 5 (c.blocks.map Bk.cs))]]] ?_ ?_
 ·have h0:aX (inI [(h:Int)]) c.blocks.length=[(h:Int)]:=mX (si _ _) (by simp) λx=>by
   rw[lW,inI,decide_eq_true_iff,List.mem_singleton,List.mem_singleton]
   constructor
   ·rintro⟨a1,_,a3⟩;omega
   ·rintro rfl;simp[hh]
  rw[h0]
  simp-implicitDefEqProofs[]
  refine lX 1 (Nat.zero_le _) (by simp) rfl (.same (by simp[okO,below]) (.nil _)) ?_
  exact⟨.one (bw (l:=[(h:Int)]) rfl) .nil,.keep (by simp[below]) .nil,.keep (by simp[below]) .nil,.keep (by simp[below]) .nil,trivial⟩
 have hPh:=hP (h:Int)
 have hst:=WbI.start hh
 have hplh:=hpl (h:Int)
 have hin:=λv hv=> @jK c.blocks (h:Int) v hv
 generalize hP0:aI c.blocks (h:Int)=P at hPh hst hplh hin
 have hPn:aC P= .lst 1 (P.map λn=>[.int .i64 n]):=rfl
 simp-implicitDefEqProofs[]
 refine hPh.use ?_
 simp-implicitDefEqProofs[hPn]
 refine aH (λa:FvS=>aw 72 [(10,.p (.int .i64 a.j)),(9,.p (.lst 1 (P.map λn=>[.int .i64 n]))),(8,.sl a.id 1 0 a.W.length),(7,.p (aC (aX (inI [(h:Int)]) c.blocks.length))),(3,.ptr 0 3 0 0),(1,.p (.lst 1 DL)),(2,.p (.int .i64 h))]) (λa=>a.X)
  (λa=>a.j<=P.length/\a.X[0]?=some (AO.row 3 [[.p (.int .i64 c.params),.p (.int .i64 c.regs),.p (.lst 5 (c.blocks.map Bk.cs))]])/\WrI a.X a.id [] a.W/\a.W=(P.take a.j).filter λp=>co c.blocks h p.toNat) (λa=>P.length-a.j) ⟨0,[],[],[],1,[AO.row 3 [[.p (.int .i64 c.params),.p (.int .i64 c.regs),.p (.lst 5 (c.blocks.map Bk.cs))]],.row 1 []]⟩ ⟨Nat.zero_le _,rfl,by rw[WrI];rfl,rfl⟩ (ab (Nat.zero_le _) (by simp[below])) ?_
 rintro⟨j,l0,W,pre0,id,X⟩ ⟨hj,g0,hX,hWe⟩
 simp only at hj g0 hX hWe⊢
 have h0l:=(List.getElem?_eq_some_iff.1 g0).1
 have hXe:X[id]?=some (AO.row 1 (au W)):=hX
 have hidl:=(List.getElem?_eq_some_iff.1 hXe).1
 have hWl:(au W).length=W.length:=by simp[au]
 simp-implicitDefEqProofs[]
 refine aF (λhc2=>?_) (λhc2=>?_)
 ·have hc2:j<P.length:=by simpa using hc2
  have hwj:=w1 (i:=j) (by omega)
  have hgj:=List.getElem?_eq_getElem hc2
  obtain⟨p,hpe,hpn⟩:=hin _ (List.getElem_mem hc2)
  rw[hpe] at hgj
  have x2:=hbg h p hpn
  have htk:(P.take (j+1)).filter (λp=>co c.blocks h p.toNat)=W++if co c.blocks h p then[(p:Int)] else[]:=by
   rw[List.take_add_one,hgj,List.filter_append,←hWe]
   cases e:co c.blocks h p<;>simp[List.filter_cons,e]
  have hWle:W.length<=j:=by
   rw[hWe]
   refine Nat.le_trans (List.length_filter_le _ _) ?_
   rw[List.length_take];omega
  cases hdp:co c.blocks h p with
  |false=>
   rw[hdp] at x2 htk
   simp-implicitDefEqProofs[hgj,hDh,x2]
   exact⟨⟨j+1,l0,W,pre0,id,X⟩,⟨hc2,g0,hX,by simp only[htk];simp⟩,by simp only;omega,ab (Nat.zero_le _) (by simp[below,hwj];omega)⟩
  |true=>
   rw[hdp] at x2 htk
   have hgm:∀t,(X++t)[id]?=some (.row 1 (au W)):=λt=>by rw[List.getElem?_append_left hidl];exact hXe
   have hgme:=λt hh=>fJ (hgm t) hh
   have htt:List.take W.length (au W)=au W:=List.take_of_length_le (by omega)
   simp-implicitDefEqProofs[hgj,hDh,x2,hgm,hgme,hWl,htt]
   refine⟨⟨by omega,by omega⟩,⟨j+1,l0,W++[(p:Int)],pre0,X.length+1,_⟩,⟨hc2,?_,?_,by simp only[htk];simp⟩,by simp only;omega,ab (Nat.zero_le _) (by simp[below,hwj])⟩
   ·have hid0:id≠0:=by
     rintro rfl
     rw[hXe] at g0
     simp at g0
    simp only
    rw[List.getElem?_append_left (by simp),List.getElem?_set_ne hid0,List.getElem?_append_left h0l];exact g0
   ·rw[WrI]
    simp only
    rw[List.getElem?_append_right (by simp)];simp[au]
 have hje:P.length<=j:=by simpa using hc2
 rw[List.take_of_length_le hje] at hWe
 rw[←hWe] at hst
 have hWle:W.length<=c.blocks.length:=by
  rw[hWe]
  exact Nat.le_trans (List.length_filter_le _ _) hplh
 refine aH (λa:FwS=>aw 72 [(8,.sl a.id 1 a.pre.length a.W.length),(7,.p (aC (aX (inI a.l) c.blocks.length))),(3,.ptr 0 3 0 0),(1,.p (.lst 1 DL)),(2,.p (.int .i64 h))]) (λa=>a.X)
  (λa=>a.X[0]?=some (AO.row 3 [[.p (.int .i64 c.params),.p (.int .i64 c.regs),.p (.lst 5 (c.blocks.map Bk.cs))]])/\WrI a.X a.id a.pre a.W/\WbI c.blocks h a.l a.W/\a.W.length<=160*a.l.length) (λa=>161*(c.blocks.length-a.l.length)+a.W.length) ⟨[(h:Int)],W,[],id,X⟩ ⟨g0,hX,hst,by simp only[List.length_singleton];omega⟩ (ab (Nat.zero_le _) (by simp[below];omega)) ?_
 clear hst hWe hX hXe hidl hWl g0 h0l hin hPh hP0 hplh hWle
 rintro⟨l,W,pre,id,X⟩ ⟨g0,hX,hW,hsz⟩
 simp only at g0 hX hW hsz⊢
 have h0l:=(List.getElem?_eq_some_iff.1 g0).1
 have hll:=hW.len
 have hXe:X[id]?=some (AO.row 1 (pre++au W)):=hX
 have hidl:=(List.getElem?_eq_some_iff.1 hXe).1
 cases W with
 |nil=>
  rw[←hW.done]
  simp-implicitDefEqProofs[]
 |cons v W=>
  obtain⟨x,rfl,hxl,hbx⟩:=hW.inW v (by simp)
  have hpre2:pre++au ((x:Int)::W)=(pre++[[.p (.int .i64 x)]])++au W:=by simp[au]
  have hX2:WrI X id (pre++[[.p (.int .i64 x)]]) W:=by rw[WrI,←hpre2];exact hX
  have hc0:au ((x:Int)::W)=[AV.p (.int .i64 x)]::au W:=rfl
  have hWl:(au W).length=W.length:=by simp[au]
  have hlen2:=dE (inI l) c.blocks.length
  have hAt:=sh G (aX (inI l) c.blocks.length) x (by omega)
  have han:=zr (aX (inI l) c.blocks.length) x
  have hmf:decide ((x:Int)∈aX (inI l) c.blocks.length)=decide ((x:Int)∈l):=by
   rw[Bool.eq_iff_iff,decide_eq_true_iff,decide_eq_true_iff,mem_fltI,inI,decide_eq_true_iff]
   exact⟨λh=>h.2,λh=>⟨hxl,h⟩⟩
  rw[hmf] at han
  generalize ixI ((aX (inI l) c.blocks.length).findIdx? λy=>decide (y=(x:Int)))=z at hAt han
  have x1:=hdg x hxl
  have x2:=hbg x x hxl
  have hxx:co c.blocks x x=bP c.blocks x:=by
   cases e:bP c.blocks x with
   |true=>exact DZ e
   |false=>exact vr e
  rw[hxx] at x2
  simp-implicitDefEqProofs[hXe,hc0,hWl]
  refine hAt.use ?_
  cases hm:decide ((x:Int)∈l) with
  |true=>
   rw[hm] at han
   have hz:0<=z:=by simpa using han
   have hm:(x:Int)∈l:=by simpa using hm
   simp-implicitDefEqProofs[hz]
   exact⟨⟨l,W,pre++[[.p (.int .i64 x)]],id,X⟩,⟨g0,hX2,hW.skip (.inl hm),by simp only[List.length_cons] at hsz⊢;omega⟩,by simp only[List.length_cons];omega,ab (Nat.zero_le _) (by simp[below];omega)⟩
  |false=>
   rw[hm] at han
   have hz:¬0<=z:=by
    have:z<0:=by simpa using han
    omega
   have hm:(x:Int)∉l:=by simpa using hm
   cases hdx:bP c.blocks x with
   |false=>
    rw[hdx] at x2
    simp-implicitDefEqProofs[hz,x1,x2]
    exact⟨⟨l,W,pre++[[.p (.int .i64 x)]],id,X⟩,⟨g0,hX2,hW.skip (.inr (by simpa using hdx)),by simp only[List.length_cons] at hsz⊢;omega⟩,by simp only[List.length_cons];omega,ab (Nat.zero_le _) (by simp[below];omega)⟩
   |true=>
    rw[hdx] at x2
    have hnw:=hW.new hm hdx
    have hln:=hnw.len
    have hplx:=hpl (x:Int)
    have hPx:=hP (x:Int)
    have hIns:=ru G l c.blocks.length x hc.1 ⟨Int.natCast_nonneg x,by simpa using hxl⟩
    generalize aI c.blocks (x:Int)=Q at hnw hplx hPx
    have hQn:aC Q= .lst 1 (Q.map λn=>[.int .i64 n]):=rfl
    have hQw:List.map ((λx=>List.map AV.p x)∘λn=>[PV.int IntKind.i64 n]) Q=au Q:=by simp[au]
    have hQl:(au Q).length=Q.length:=by simp[au]
    have htt:List.take W.length (au W)=au W:=List.take_of_length_le (by omega)
    simp-implicitDefEqProofs[hz,x1,x2]
    refine hIns.use ?_
    simp-implicitDefEqProofs[g0]
    refine hPx.use ?_
    simp-implicitDefEqProofs[hQn,hQw,hQl,hXe,hc0,hWl,htt]
    have hsz3:W.length+1<=160*l.length:=by simpa using hsz
    refine⟨⟨by omega,by omega⟩,⟨l++[(x:Int)],W++Q,[],X.length,_⟩,⟨?_,?_,hnw,by simp only[List.length_append,List.length_cons] at hsz⊢;simp;omega⟩,by simp only[List.length_append,List.length_cons] at hln⊢;simp at hln⊢;omega,ab (Nat.zero_le _) ?_⟩
    ·have hid0:id≠0:=by
      rintro rfl
      rw[hXe] at g0
      simp at g0
     simp only
     rw[List.getElem?_append_left (by simp;omega),List.getElem?_set_ne hid0];exact g0
    ·rw[WrI]
     simp only
     rw[List.getElem?_append_right (by simp)];simp[au]
    ·simp[below]
end
section
variable (G:az)
def uI(e:MapEntry):Int:=match e.key with| .int _ n=>n|_=>0
def JQ(ents:Array MapEntry)(r:Nat)(w:World):Nat:=match w.heap[r]? with|some (.mapIter _ _ seen _)=>(leftOf ents seen).size|_=>0
structure SkInv (G:az) (W:World) (S:Nat->Prop) (φ:Aw.Place) (h1:List AO) (ks:List Int) (ents:Array MapEntry) (clock b r:Nat) (a:Act) (w:World) (S':Nat->Prop) (φ':Aw.Place) (hh d:List AO) (xs:List Int) (o:AV) (seen:Array Nat) (c0:Nat):Prop where
 st:St G W S φ h1 w S' φ' a (aw 18 [(6,.gp r 0),(3,o)]) hh
 hb:w.heap[b]?=some (.map ents clock)
 hr:w.heap[r]?=some (.mapIter (some b) clock seen c0)
 hc:clock<=c0
 fb:Free w S' φ' hh b
 fr:Free w S' φ' hh r
 pre:hh=h1++d
 out:(xs=[]/\o= .nils)\/∃j,xs≠[]/\o= .sl j 1 0 xs.length/\h1.length<=j/\hh[j]?=some (kM xs)
 perm:(xs++(leftOf ents seen).toList.map uI).Perm ks
def skR(ks:List Int)(h1:List AO)(x:ARes)(h':List AO):Prop:=∃xs d,xs.Perm ks/\h'=h1++d/\((xs=[]/\x= .ret .nils)\/∃j,x= .ret (.sl j 1 0 xs.length)/\h1.length<=j/\h'[j]?=some (kM (xs.mergeSort λx y=>decide (x<=y))))
def skQ(h1:List AO)(r:Nat)(xs:List Int)(x:Aw.AX)(ts':List AV)(h2:List AO):Prop:=∃(l:List (Nat × AV)) (d:List AO) (j:Nat),x= .normal/\ts'=aw 18 l/\Aw.look l 6= .gp r 0/\Aw.look l 3= .sl j 1 0 xs.length/\h2=h1++d/\h1.length<=j/\h2[j]?=some (kM xs)
theorem yI{h:List AO}{id:Nat}{es:List (PV × AV)}{ks:List Int}(hid:h[id]?=some (.mp es))(hk:es.map (·.1)=ks.map (PV.int .i64))(hb:ks.length<=1099511627776):
 AC Tryz.prog G eJ [.mp id] h (skR ks (h.set id .dead)):=by
 refine AC.enterC Tryz.func111 rfl (rs:=[.t 2]) (by kernel_rfl) (by kernel_rfl) λW S φ a hH s0=>?_
 obtain⟨ents,clock,hbl,hm1,hm2,hm3,hm4⟩:=hH.oobj id _ hid trivial
 generalize hbb:(φ id).1=b at hbl
 have hidl:=(List.getElem?_eq_some_iff.1 hid).1
 have F0:Free W S φ (h.set id .dead) b:=⟨by rw[←hbb];exact hH.bnd id hidl,λi li e=>(cy li).1 (hH.inj i id (cy li).2 (oR hid) (e.trans hbb.symm)),λhS=>(hH.sep b hS).2 id (oR hid) hbb⟩
 have s1:St G W S φ (h.set id .dead) W S φ a (aw 18 [(0,.mp id)]) (h.set id .dead):=⟨hH.forget id,by rw[List.length_set];exact s0.trel,s0.defers,Keep.refl (hH.forget id)⟩
 refine wp_mono (Q:=vj G W S φ (h.set id .dead) (pz G [.t 2] _)) ?_ λe a' W' ⟨x,ts,h',S',φ',q1,q2,q3⟩=>⟨x,ts,h',S',φ',q1,q2,q3.forget⟩
 have hl1:(h.set id .dead).length=h.length:=List.length_set
 generalize hh1:h.set id .dead=h1 at*
 refine wp_seq (DH (k:= .reg [⟨some 2,none,.mov (.c .nils)⟩]) (by kernel_rfl) s1 (Q:=λx ts' h'=>x= .normal/\ts'=aw 18 [(2,.nils),(0,.mp id)]/\h'=h1) (by simp) ?_)
 rintro x ts' h' S2 φ2 e a2 W2 ⟨rfl,rfl,rfl⟩ hx s2 K2
 cases hx
 refine wp_seq (DH (k:= .reg [⟨some 3,none,.mov (.c .nils)⟩]) (by kernel_rfl) s2 (Q:=λx ts' h2=>x= .normal/\ts'=aw 18 [(3,.nils),(2,.nils),(0,.mp id)]/\h2=h') (by simp) ?_)
 rintro x ts' h1 S3 φ3 e a3 W3 ⟨rfl,rfl,rfl⟩ hx s3 K3
 cases hx
 have F3:=(F0.keep s3.keep).1
 have e3:=(F0.keep s3.keep).2
 rw[hbl] at e3
 have hbeq:φ3 id=φ id:=s3.keep.same id (by rw[hl1];exact hidl)
 have hm0:a3.tmps.getD 0 undef= .map (some b):=by
  have:=s3.trel.get 0 (.mp id) rfl
  generalize a3.tmps.getD 0 undef=x at this
  cases this with
  |mp _ _=>rw[hbeq,hbb]
 refine wp_seq (wp_seq (wp_region_list (eH (v:= .map (some b)) (w':=W3) rfl ?_ (eH (v:= .pointer (some ⟨W3.heap.size,0,none⟩)) (w':=W3.alloc (.mapIter (some b) clock #[] clock)) rfl ?_ (wpList_nil ?_)))))
 ·simp[execOp,Act.eval,hm0]
 ·have hr0:(Instr.range (Tryz.f111.params.getD 0 0) (.map (some b))).run Tryz.prog W3=_:=run_range_map W3 _ _ _ b ents clock (show Tryz.prog.underlying (Tryz.f111.params.getD 0 0)=some (.map (match Tryz.prog.underlying (Tryz.f111.params.getD 0 0) with|some (.map k _)=>k|_=>0) (match Tryz.prog.underlying (Tryz.f111.params.getD 0 0) with|some (.map _ e)=>e|_=>0)) by kernel_rfl) e3
  have hev:(a3.put (some 5) (.map (some b))).eval (.tmp 5)= .map (some b):=ic (by rw[s3.size];decide)
  refine uz (m:=Instr.range (Tryz.f111.params.getD 0 0) ((a3.put (some 5) (.map (some b))).eval (.tmp 5))) ?_
  rw[hev]
  exact hr0
 have hG:=s3.hrel.grown #[.mapIter (some b) clock #[] clock]
 rw[←BH] at hG
 generalize hr3:W3.heap.size=r
 have s4:St G W S φ h1 (W3.alloc (.mapIter (some b) clock #[] clock)) S3 φ3 ((a3.put (some 5) (.map (some b))).put (some 6) (.pointer (some ⟨r,0,none⟩))) (aw 18 [(6,.gp r 0),(3,.nils)]) h1:=by
  have q:St G W S φ h1 (W3.alloc (.mapIter (some b) clock #[] clock)) S3 φ3 a3 (aw 18 [(3,.nils),(2,.nils),(0,.mp id)]) h1:=⟨hG.1,s3.trel.kept hG.2.toKept,s3.defers,s3.keep.trans hG.2⟩
  exact((q.set (.any _) 5).set (.gp r 0) 6).less (by simp[Aw.look])
 have F4:=F3.keep hG.2
 have hrl:∀i,Live h1 i->(φ3 i).1≠r:=λi li e=>by have:=s3.hrel.bnd i li.lt;omega
 have hrS:¬S3 r:=λhS=>by have:=(s3.hrel.sep r hS).1;omega
 have hr4:(W3.alloc (.mapIter (some b) clock #[] clock)).heap[r]?=some (.mapIter (some b) clock #[] clock):=by
  rw[←hr3];exact heap_alloc_new _ _
 have hr4l:r<(W3.alloc (.mapIter (some b) clock #[] clock)).heap.size:=(Array.getElem?_eq_some_iff.1 hr4).1
 have hWr:W.heap.size<=r:=by have:=s3.keep.size;omega
 have hborn:=BD hm4
 have hold:∀x∈ents.toList,x.born<clock:=λx hx=>by
  obtain⟨j,hj,e⟩:=List.mem_iff_getElem.1 hx
  exact hm3 j x (by rw[←Array.getElem?_toList,List.getElem?_eq_getElem hj,e])
 have hkey:∀e∈ents.toList,e.key= .int .i64 (uI e):=λe he=>by
  obtain⟨j,hj,hje⟩:=List.mem_iff_getElem.1 he
  have hje':ents[j]?=some e:=by rw[←Array.getElem?_toList,List.getElem?_eq_getElem hj,hje]
  have hjl:j<es.length:=by rw[←hm1];simpa using hj
  obtain⟨e',k1,k2,_⟩:=hm2 j es[j].1 es[j].2 (List.getElem?_eq_getElem hjl)
  rw[hje'] at k1;cases k1
  have h2:(es.map (·.1))[j]?=(ks.map (PV.int .i64))[j]?:=by rw[hk]
  rw[List.getElem?_map,List.getElem?_map,List.getElem?_eq_getElem hjl] at h2
  simp only[Option.map_some] at h2
  rw[eq_comm,Option.map_eq_some_iff] at h2
  obtain⟨n,_,h3⟩:=h2
  rw[←h3] at k2
  simp only[pX,Option.some.injEq] at k2
  rw[uI,←k2]
 have hkeys:ents.toList.map uI=ks:=by
  refine List.ext_getElem? λj=>?_
  rw[List.getElem?_map]
  have h2:(es.map (·.1))[j]?=(ks.map (PV.int .i64))[j]?:=by rw[hk]
  rw[List.getElem?_map,List.getElem?_map] at h2
  cases hj:es[j]? with
  |none=>
   rw[hj] at h2
   have:es.length<=j:=List.getElem?_eq_none_iff.1 hj
   have hn:ents.toList[j]?=none:=List.getElem?_eq_none (by simpa[hm1] using this)
   rw[hn]
   cases hq:ks[j]? with
   |none=>rfl
   |some n=>rw[hq] at h2;cases h2
  |some p=>
   rw[hj] at h2
   obtain⟨e',k1,k2,_⟩:=hm2 j p.1 p.2 hj
   rw[Array.getElem?_toList,k1]
   cases hq:ks[j]? with
   |none=>rw[hq] at h2;cases h2
   |some n=>
    rw[hq] at h2
    simp only[Option.map_some,Option.some.injEq] at h2
    rw[h2] at k2
    simp only[pX,Option.some.injEq] at k2
    simp only[Option.map_some,uI,←k2]
 have I0:SkInv G W S φ h1 ks ents clock b r ((a3.put (some 5) (.map (some b))).put (some 6) (.pointer (some ⟨r,0,none⟩))) (W3.alloc (.mapIter (some b) clock #[] clock)) S3 φ3 h1 [] [] .nils #[] clock:=
  ⟨s4,by rw[F4.2];exact e3,hr4,Nat.le_refl _,F4.1,⟨hr4l,hrl,hrS⟩,by simp,.inl ⟨rfl,rfl⟩,by
    have:leftOf ents #[]=ents:=by simp[leftOf]
    rw[List.nil_append,this,hkeys]⟩
 refine wp_block (wp_loop (λa w=>∃S' φ' hh d xs o seen c0,SkInv G W S φ h1 ks ents clock b r a w S' φ' hh d xs o seen c0) (λ_ w=>JQ ents r w) ⟨_,_,_,_,_,_,_,_,I0⟩ ?_)
 clear I0 s4 hr4 hr4l F4 hG hrl hrS hr3 hm0 F3 e3 s3 K3 s2 K2 s1 s0
 rintro a w ⟨S',φ',hh,d,xs,o,seen,c0,I⟩
 have h6:a.tmps.getD 6 undef= .pointer (some ⟨r,0,none⟩):=by
  have:VRel w S' φ' hh.length (.gp r 0) (a.tmps.getD 6 undef):=I.st.look 6 (by omega)
  generalize a.tmps.getD 6 undef=x at this
  cases this;rfl
 have hasz:=I.st.size
 rcases run_next_at (P:=Tryz.prog) w 0 r b clock c0 seen ents clock I.hr I.hb hold I.hc with⟨h0,hrun⟩|⟨e,he,w1,hw1,hrun⟩
 ·refine wp_seq (wp_region_list (eH (v:= .tuple #[.bool false]) (w':=w) rfl ?_ (eH (v:= .bool false) (w':=w) rfl ?_ (wpList_nil ?_))))
  ·refine uz (m:=Instr.next (a.eval (.tmp 6)) false 0) ?_
   rw[show a.eval (.tmp 6)= .pointer (some ⟨r,0,none⟩) from h6]
   exact hrun
  ·refine uz (m:=Instr.extract ((a.put (some 7) (.tuple #[.bool false])).eval (.tmp 7)) 0) ?_
   rw[ic (by rw[hasz];decide)]
   rfl
  have hperm:xs.Perm ks:=by
   have e0:leftOf ents seen=#[]:=Array.eq_empty_of_size_eq_zero h0
   have:=I.perm
   rw[e0] at this
   simpa using this
  refine wp_seq (wp_cond (t:=false) (ic (by rw[sE,hasz];decide)) (wp_exit ?_))
  have s5:St G W S φ h1 w S' φ' ((a.put (some 7) (.tuple #[.bool false])).put (some 8) (.bool false)) (aw 18 [(3,o)]) hh:=((I.st.set (.any _) 7).set (.any _) 8).less (by simp[Aw.look])
  have hxl:xs.length<=1099511627776:=by rw[hperm.length_eq];exact hb
  show Code.wp _ _ _ _ _
  refine DH (k:= .seq (.reg [⟨some 15,none,.mov (.t 3)⟩,⟨some 16,none,.call oF [.t 15]⟩]) (.seq (.reg [⟨some 17,none,.mov (.t 3)⟩,⟨some 2,none,.mov (.t 17)⟩]) .ret)) (by kernel_rfl) s5 (Q:=pz G [.t 2] (skR ks h1)) ?_ ?_
  ·rcases I.out with⟨rfl,rfl⟩|⟨j,hne,rfl,hj,hgj⟩
   ·simp-implicitDefEqProofs[]
    refine(ED G hh).mono ?_
    rintro x h2 ⟨rfl,rfl⟩
    simp-implicitDefEqProofs[aa]
    exact⟨[],d,hperm,I.pre,.inl ⟨rfl,rfl⟩⟩
   ·simp-implicitDefEqProofs[]
    refine(Lf G hgj hne (by omega)).mono ?_
    rintro x h2 ⟨rfl,rfl⟩
    simp-implicitDefEqProofs[aa]
    have hjl:=(List.getElem?_eq_some_iff.1 hgj).1
    refine⟨xs,d.set (j-h1.length) (kM (xs.mergeSort λx y=>decide (x<=y))),hperm,?_,.inr ⟨j,rfl,hj,by simp[hjl]⟩⟩
    rw[I.pre,List.set_append_right _ _ hj]
  ·intro x ts' h' S5 φ5 e a5 W5 q1 q2 q3 _
   exact⟨x,ts',h',S5,φ5,q1,q2,q3⟩
 have hel:=mem_left he
 have hA:=EE (r:=r) (o:= .mapIter (some b) clock (seen.push e.born) clock) hw1 (λ_ _ _ h=>by cases h)
 have s6:=I.st.aside hA I.fr.live I.fr.notS hWr
 generalize hw':Go.ChangeMaps.setBlock w1 r (.mapIter (some b) clock (seen.push e.born) clock)=w' at*
 have hrb:r≠b:=λq=>by have h1:=I.hr;rw[q,I.hb] at h1;cases h1
 have hb6:w'.heap[b]?=some (.map ents clock):=by rw[hA.other b λq=>hrb q.symm];exact I.hb
 have hr6:w'.heap[r]?=some (.mapIter (some b) clock (seen.push e.born) clock):=by
  have hh:w1.heap=w.heap:=by rcases hw1 with rfl|rfl<;>rfl
  rw[←hw']
  simp only[Go.ChangeMaps.setBlock,hh]
  rw[Array.getElem?_setIfInBounds,if_pos rfl,if_pos I.fr.lt]
 have fb6:Free w' S' φ' hh b:=⟨by rw[hA.size];exact I.fb.lt,I.fb.live,I.fb.notS⟩
 have fr6:Free w' S' φ' hh r:=⟨by rw[hA.size];exact I.fr.lt,I.fr.live,I.fr.notS⟩
 refine wp_seq (wp_region_list (eH (v:= .tuple #[.bool true,e.key,e.val]) (w':=w') rfl ?_ (eH (v:= .bool true) (w':=w') rfl ?_ (wpList_nil ?_))))
 ·refine uz (m:=Instr.next (a.eval (.tmp 6)) false 0) ?_
  rw[show a.eval (.tmp 6)= .pointer (some ⟨r,0,none⟩) from h6]
  exact hrun
 ·refine uz (m:=Instr.extract ((a.put (some 7) (.tuple #[.bool true,e.key,e.val])).eval (.tmp 7)) 0) ?_
  rw[ic (by rw[hasz];decide)]
  rfl
 refine wp_seq (wp_cond (t:=true) (ic (by rw[sE,hasz];decide)) (wp_skip ?_))
 have s7:St G W S φ h1 w' S' φ' ((a.put (some 7) (.tuple #[.bool true,e.key,e.val])).put (some 8) (.bool true)) (aw 18 [(6,.gp r 0),(3,o)]) hh:=((s6.set (.any _) 7).set (.any _) 8).less (by simp[Aw.look])
 have h66:((a.put (some 7) (.tuple #[.bool true,e.key,e.val])).put (some 8) (.bool true)).eval (.tmp 6)= .pointer (some ⟨r,0,none⟩):=by
  have:VRel w' S' φ' hh.length (.gp r 0) (((a.put (some 7) (.tuple #[.bool true,e.key,e.val])).put (some 8) (.bool true)).tmps.getD 6 undef):=s7.look 6 (by omega)
  show((a.put (some 7) (.tuple #[.bool true,e.key,e.val])).put (some 8) (.bool true)).tmps.getD 6 undef=_
  generalize ((a.put (some 7) (.tuple #[.bool true,e.key,e.val])).put (some 8) (.bool true)).tmps.getD 6 undef=x at this
  cases this;rfl
 generalize ((a.put (some 7) (.tuple #[.bool true,e.key,e.val])).put (some 8) (.bool true))=a7 at*
 have hasz7:=s7.size
 show Code.wp _ _ _ _ _
 refine wp_block (wp_seq (wp_region_list (eH (v:= .tuple #[e.key,e.val]) (w':=w') rfl ?_ (eH (v:=e.key) (w':=w') rfl ?_ (eH (v:=e.key) (w':=w') rfl ?_ (wpList_nil ?_))))))
 ·refine uz (m:=Instr.entry (a7.eval (.tmp 6))) ?_
  rw[h66]
  exact run_entry_at w' r b clock seen ents clock e hr6 hb6 hel.1 (List.pairwise_map.2 hborn)
 ·refine uz (m:=Instr.extract ((a7.put (some 9) (.tuple #[e.key,e.val])).eval (.tmp 9)) 0) ?_
  rw[ic (by rw[hasz7];decide)]
  rfl
 ·have hev:(((a7.put (some 9) (.tuple #[e.key,e.val])).put (some 10) e.key).eval (.tmp 10))=e.key:=ic (by rw[sE,hasz7];decide)
  simp only[execOp]
  rw[hev]
  rfl
 have hke:=hkey e hel.1
 have hpp:(xs++(leftOf ents seen).toList.map uI).Perm ((xs++[uI e])++(leftOf ents (seen.push e.born)).toList.map uI):=by
  rw[List.append_assoc]
  exact List.Perm.append_left xs ((vU hborn he).map uI)
 have hsz2:=(vU hborn he).length_eq
 have hlen:=I.perm.length_eq
 rw[List.length_append,List.length_map] at hlen
 simp only[List.length_cons,Array.length_toList] at hsz2 hlen
 rw[hke]
 generalize uI e=n at*
 have s8:St G W S φ h1 w' S' φ' (((a7.put (some 9) (.tuple #[.int .i64 n,e.val])).put (some 10) (.int .i64 n)).put (some 4) (.int .i64 n)) (aw 18 [(4,.p (.int .i64 n)),(6,.gp r 0),(3,o)]) hh:=
  (((s7.set (.any _) 9).set (.any _) 10).set (.p _ _ (.int _ _)) 4).less (by simp[Aw.look])
 show Code.wp _ _ _ _ _
 refine DH (k:= .reg [⟨some 11,none,.mov (.t 3)⟩,⟨some 12,none,.mov (.t 4)⟩,⟨some 13,none,.bsl 1 [.p (.int .i64 0)] 1 [(0,1,.t 12)]⟩,⟨some 14,none,.app 1 8 (.t 11) (.t 13)⟩,⟨some 3,none,.mov (.t 14)⟩]) (by kernel_rfl) s8 (Q:=skQ h1 r (xs++[n])) ?_ ?_
 ·rcases I.out with⟨rfl,rfl⟩|⟨j,hne,rfl,hj,hgj⟩
  ·simp-implicitDefEqProofs[]
   refine⟨_,d++[.row 1 [[.p (.int .i64 n)]],.row 1 [[.p (.int .i64 n)]]],hh.length+1,rfl,rfl,rfl,rfl,by rw[I.pre];simp,by rw[I.pre];simp;omega,by simp[kM]⟩
  ·have hjl:=(List.getElem?_eq_some_iff.1 hgj).1
   have gr:∀t,(hh++t)[j]?=some (.row 1 (xs.map λx=>[.p (.int .i64 x)])):=λt=>by rw[List.getElem?_append_left hjl];exact hgj
   have ht:List.take xs.length (xs.map λx=>[AV.p (.int .i64 x)])=xs.map λx=>[AV.p (.int .i64 x)]:=List.take_of_length_le (by simp)
   simp-implicitDefEqProofs[gr]
   refine⟨⟨by omega,by omega⟩,?_⟩
   refine⟨_,(d++[AO.row 1 [[AV.p (.int .i64 n)]]]).set (j-h1.length) AO.dead++[AO.row 1 ((xs.map λx=>[AV.p (.int .i64 x)])++[[AV.p (.int .i64 n)]])],hh.length+1,rfl,rfl,rfl,by simp[Aw.look],?_,by rw[I.pre];simp;omega,?_⟩
   ·rw[ht,I.pre,List.append_assoc,List.set_append_right _ _ hj,List.append_assoc]
   ·simp[kM,ht]
 rintro x ts' h2 S8 φ8 e8 a8 w8 ⟨l,d2,j2,rfl,rfl,l6,l3,e2,hj2,hg2⟩ hx s9 K9
 cases hx
 have fb9:=fb6.keep K9
 have fr9:=fr6.keep K9
 refine⟨⟨S8,φ8,h2,d2,xs++[n],.sl j2 1 0 (xs++[n]).length,seen.push e.born,clock,⟨s9.less ?_,by rw[fb9.2];exact hb6,by rw[fr9.2];exact hr6,Nat.le_refl _,fb9.1,fr9.1,e2,.inr ⟨j2,by simp,rfl,hj2,hg2⟩,hpp.symm.trans I.perm⟩⟩,?_⟩
 ·intro y hy
  rcases List.mem_cons.1 hy with rfl|hy
  ·exact l6
  ·rw[List.mem_singleton.1 hy];exact l3
 ·simp only[JQ,I.hr,fr9.2,hr6]
  omega
end
end Go.Proofs.YtdfplkcigiblcaaGreat
