/-
  Contracts and lemmas that the card needs, part 8.
-/
import Derived.Test.YtdfplkcigiblcaaGreatFx7
import Derived.Test.YtdfplkcigiblcaaGreatChecked
import Derived.Shelf.Sort.AssemblyIn
import Derived.Shelf.Slices.CompactI
import Derived.Lib.SlicesCompact
import Derived.Shelf.Sort.Plain
import Derived.Shelf.Slices.In.SortNone
namespace Go.Proofs.YtdfplkcigiblcaaGreat
open Go Go.Aw
set_option maxRecDepth 100000
set_option maxHeartbeats 4000000
section
theorem Ij{fa:List UInt8->Int}{d:Int}{s:Sm}(h:s.op=6){a0:Ex}{ar:List Ex}(ha:s.args=a0::ar)(m:Scp)(up:List Scp)(nx:Nat)(w:Lw){x:Int × Lw}(hx:x=lwE fa (scF d (m::up)) a0 ((w.name 3).fin 1 0 w.bs.length [(w.bs.length:Int)])){y:Scp × Nat × Lw}(hy:y=aU fa d s.body [] (m::up) nx (x.2.fin 2 x.1 (w.bs.length+1) [(w.bs.length:Int)+1,(w.bs.length:Int)+2])):
 lwS fa d s m up nx w=(m,y.2.1,y.2.2.fin 1 0 (w.bs.length+2) [(w.bs.length:Int)]):=by
 subst hy;subst hx
 obtain⟨o,n,a,bd,el⟩:=s
 simp only[Sm.op,Sm.args] at h ha
 rw[lwS,if_pos h,ha];rfl
theorem HQ{fa:List UInt8->Int}{d:Int}{s:Sm}(h:¬s.op=6)(m:Scp)(up:List Scp)(nx:Nat)(w:Lw){x:List Int × Lw}(hx:x=bv fa (scF d (m::up)) s.args w):
 lwS fa d s m up nx w=if s.op=1 then(mw m s.name nx,nx+1,x.2.put ⟨2,nx,x.1,0⟩)
  else if s.op=2 then(m,nx,x.2.put ⟨2,scF d (m::up) s.name,x.1,0⟩)
  else if s.op=3 then(m,nx,x.2.put ⟨13,-1,x.1,0⟩)
  else if s.op=4 then(m,nx,x.2.put ⟨12,-1,x.1,0⟩)
  else if s.op=5 then
   let t:=x.2.bs.length
   let y:=aU fa d s.body [] (m::up) nx ((x.2.name 3).fin 2 (x.1.headD 0) t [(t:Int),(t:Int)+1])
   let z:=aU fa d s.els [] (m::up) y.2.1 (y.2.2.fin 1 0 (t+1) [(t:Int)+2])
   (m,z.2.1,z.2.2.fin 1 0 (t+2) [(t:Int)+2])
  else if s.op=7 then(m,nx,(x.2.name 1).fin 3 (x.1.headD 0) x.2.bs.length [])
  else(m,nx,x.2):=by
 subst hx
 obtain⟨o,n,a,bd,el⟩:=s
 simp only[Sm.op] at h
 rw[lwS,if_neg h];rfl
variable (G:az)
end
section
theorem RS.ofStg{l:List Fd}{pr:Int}{L:Nat}{I:List Nat}{h hB:List AO}{w:Lw}{nx:Nat}{vs:Vs}{X:List AO}{K V:AV}{I1:List Nat}{oid:Nat}(S:Stg (lwR l pr V nx) L I (h.length::vi V) h hB w X K I1)(hv:VAt X V vs)(hV:∀i∈vi V,i<h.length)(ho:oid<X.length)(hoE:oid∉h.length::vi V)(hoI:oid∉L::I1):RS l pr L (L::(vi V++I)) I [oid,h.length] h w nx vs X K V I1:=by
 refine⟨⟨S.ls,⟨S.fr.1,λi hi hn=>S.fr.2 i hi λhm=>hn ?_⟩,by simp,λj hj=>by simp[hj],S.sub,λi hi=>?_⟩,hv,λi hi=>⟨λhm=>?_,.inl (by simp[hi])⟩⟩
 ·rcases List.mem_cons.1 hm with rfl|hm
  ·simp
  ·simp[hm]
 ·simp only[List.mem_append,List.mem_cons,List.not_mem_nil,or_false] at hi
  rcases hi with hi|rfl|rfl
  ·exact S.ap i (by simp[hi])
  ·exact⟨ho,hoI⟩
  ·exact S.ap _ (by simp)
 ·simp only[List.mem_cons,List.not_mem_nil,or_false] at hm
  rcases hm with rfl|rfl
  ·exact hoE (by simp[hi])
  ·have:=hV _ hi;omega
variable (G:az)
theorem Gm(l0:List Fd)(hl0:l0.length<=1073741824)(pr:Int)(L:Nat)(s:Sm)(o6:s.op=6)(hne:s.args≠[])(ha:∀a∈s.args,bK 6 a=true)(hb:Cb G l0 pr L s.body){w:Lw}{h:List AO}{K V:AV}{I:List Nat}{B:Nat}{vs:Vs}{nx:Nat}{m:Scp}{up:List Scp}(T:RS l0 pr L (L::(vi V++I)) I [] h w nx vs h K V I)(hok:w.Ok B)(hB:B+20*s.sz<=1073741000)(hnx:nx+s.sz<=1073741000)(hvl:vs.length+s.sz<=1073741000)(hrg:rgV vs=scF (-1) (m::up)):
 AC Tryz.prog G dO [.ptr L 8 0 0,.agg (s.cs.map .p)] h λx h'=>x= .ret (.tup [])/\∃K' V' I',RS l0 pr L (L::(vi V++I)) I [] h (lwS (faI l0) (-1) s m up nx w).2.2 (lwS (faI l0) (-1) s m up nx w).2.1 vs h' K' V' I'/\(lwS (faI l0) (-1) s m up nx w).1=m:=by
 have hsc:=s.cs_eq
 have hsz:=s.sz_eq
 obtain⟨a0,ar,ha0⟩:∃a r,s.args=a::r:=by
  match hx:s.args,hne with
  |a::r,_=>exact⟨a,r,rfl⟩
 obtain⟨t,ht⟩:∃t,t=w.bs.length:=⟨_,rfl⟩
 have hac:=a0.cs_eq
 have hkx:exL s.args= .lst 4 ([.int .i64 a0.op,.int .i64 a0.n,.str a0.name,exL a0.kids]::ar.map Ex.cs):=by rw[ha0,←hac];rfl
 have haz:aP s.args=a0.sz+aP ar:=by rw[ha0,aP]
 have htb:t<=B:=by rw[ht];exact hok.bs
 have T0:=T.box (AO.row 5 [[.p (.int .i64 6),.p (.str s.name),.p (exL s.args),.p (smL s.body),.p (smL s.els)]])
 have r0:(h++[AO.row 5 [[.p (.int .i64 6),.p (.str s.name),.p (exL s.args),.p (smL s.body),.p (smL s.els)]]])[h.length]?=some (AO.row 5 [[.p (.int .i64 6),.p (.str s.name),.p (exL s.args),.p (smL s.body),.p (smL s.els)]]):=by simp
 rw[hkx] at T0 r0
 refine AC.go nk ?_
 rw[hsc,o6,hkx]
 simp-implicitDefEqProofs[-AV.cells,-AV.isCell,aD,ae,ah,an,aj,aC,af,am,al,-Lw.name_len,gY]
 refine(js G T0 hok (by omega)).mono ?_
 rintro x X1 ⟨rfl,K1,I1,T1,e1⟩
 have r1:=(e1 h.length (by simp)).trans r0
 have ok1:=hok.name 1
 have hl1:(w.name 1).bs.length=t+1:=by rw[Lw.name_len,ht]
 simp-implicitDefEqProofs[-AV.cells,-AV.isCell,aD,ae,ah,an,aj,aC,af,am,al,-Lw.name_len,aa,←ht]
 refine(js G T1 ok1 (by omega)).mono ?_
 rintro x X2 ⟨rfl,K2,I2,T2,e2⟩
 have r2:=(e2 h.length (by simp)).trans r1
 have ok2:=ok1.name 1
 have hl2:((w.name 1).name 1).bs.length=t+2:=by rw[Lw.name_len,hl1]
 simp-implicitDefEqProofs[-AV.cells,-AV.isCell,aD,ae,ah,an,aj,aC,af,am,al,-Lw.name_len,aa,hl1]
 refine(js G T2 ok2 (by omega)).mono ?_
 rintro x X3 ⟨rfl,K3,I3,T3,e3⟩
 have r3:=(e3 h.length (by simp)).trans r2
 have ok3:(w.name 3).Ok (B+3):=hok.name 3
 have hn3:((w.name 1).name 1).name 1=w.name 3:=by rw[Lw.name_name,Lw.name_name]
 rw[hn3] at T3
 simp-implicitDefEqProofs[-AV.cells,-AV.isCell,aD,ae,ah,an,aj,aC,af,am,al,-Lw.name_len,aa,hl2]
 refine(pR G T3 ok3 1 0 t t rfl).mono ?_
 rintro x X4 ⟨rfl,K4,I4,T4,e4⟩
 have r4:=(e4 h.length (by simp)).trans r3
 have ok4:=ok3.fin 1 0 (g:=t) (by rw[Lw.name_len,ht];omega) [(t:Int)]
 simp-implicitDefEqProofs[-AV.cells,-AV.isCell,aD,ae,ah,an,aj,aC,af,am,al,-Lw.name_len,aa,r4]
 have h5:=IG G T4 ok4 (e:=a0) (by omega) (Bs G l0 hl0 pr L V nx vs (by omega) 6 a0 (ha a0 (by rw[ha0];simp)))
 obtain⟨ok5,len5⟩:=mA (faI l0) (rgV vs) a0 _ _ ok4
 obtain⟨x5,hx5⟩:∃x5,x5=lwE (faI l0) (rgV vs) a0 ((w.name 3).fin 1 0 t [(t:Int)]):=⟨_,rfl⟩
 rw[hac,←hx5] at h5
 rw[←hx5] at ok5 len5
 simp only[Lw.fin_len,Lw.name_len,←ht] at len5
 refine h5.mono ?_
 rintro x X5 ⟨rfl,K5,I5,T5,e5⟩
 have r5:=(e5 h.length (by simp)).trans r4
 simp-implicitDefEqProofs[-AV.cells,-AV.isCell,aD,ae,ah,an,aj,aC,af,am,al,-Lw.name_len,aa]
 refine(BC G T5 ok5 2 x5.1 ((t:Int)+1) ((t:Int)+2) (t+1) (by omega)).mono ?_
 rintro x X6 ⟨rfl,K6,I6,T6,e6⟩
 have r6:=(e6 h.length (by simp)).trans r5
 have ok6:=ok5.fin 2 x5.1 (g:=t+1) (by omega) [(t:Int)+1,(t:Int)+2]
 simp-implicitDefEqProofs[-AV.cells,-AV.isCell,aD,ae,ah,an,aj,aC,af,am,al,-Lw.name_len,aa,r6]
 have h7:=pU G hb T6 (m:=[]) (up:=m::up) ok6 (by omega) (by omega) (by omega) (by rw[hrg];rfl)
 have okb:=dR (faI l0) (-1) s.body [] (m::up) nx _ _ ok6
 obtain⟨y7,hy7⟩:∃y,y=aU (faI l0) (-1) s.body [] (m::up) nx (x5.2.fin 2 x5.1 (t+1) [(t:Int)+1,(t:Int)+2]):=⟨_,rfl⟩
 rw[←hy7] at h7 okb
 refine h7.mono ?_
 rintro x X7 ⟨rfl,K7,V7,I7,T7,e7⟩
 obtain⟨ok7,len7,nx7,nxx7⟩:=okb
 simp-implicitDefEqProofs[-AV.cells,-AV.isCell,aD,ae,ah,an,aj,aC,af,am,al,-Lw.name_len,aa]
 refine(pR G T7 ok7 1 0 t (t+2) (by omega)).mono ?_
 rintro x X8 ⟨rfl,K8,I8,T8,e8⟩
 simp-implicitDefEqProofs[-AV.cells,-AV.isCell,aD,ae,ah,an,aj,aC,af,am,al,-Lw.name_len,aa]
 subst ht
 rw[hrg] at hx5
 rw[Ij o6 ha0 m up nx w hx5 hy7]
 exact⟨⟨K8,V7,I8,T8.few (λi hi=>by cases hi)⟩,rfl⟩
theorem Gf(l0:List Fd)(hl0:l0.length<=1073741824)(pr:Int)(L:Nat)(s:Sm)(hne:s.args≠[])(ha:∀a∈s.args,bK 6 a=true)(hb:Cb G l0 pr L s.body)(he:Cb G l0 pr L s.els):StR G l0 pr L s:=by
 intro w h K V I B vs nx m up T hok hB hnx hvl hrg
 have hsc:=s.cs_eq
 have hsz:=s.sz_eq
 have H:=T.stb.ls
 have hV:=T.va
 have hVd:=λi hi=>(T.at.2 i hi).2
 have hLl:=H.lt
 have hxl:∀l,exL l= .lst 4 (l.map Ex.cs):=λ_=>rfl
 obtain⟨v1,v2,v3⟩:=hV.is
 obtain⟨E,hE⟩:∃E,E=h.length::vi V:=⟨_,rfl⟩
 obtain⟨bo,hbo⟩:∃bo,bo=AO.row 5 [[.p (.int .i64 s.op),.p (.str s.name),.p (exL s.args),.p (smL s.body),.p (smL s.els)]]:=⟨_,rfl⟩
 refine AC.go oc ?_
 rw[hsc]
 by_cases o6:s.op=6
 ·have T0:=T.box bo
  have hF:=Gm G l0 hl0 pr L s o6 hne ha hb T0.start hok hB hnx hvl hrg
  rw[hsc] at hF
  rw[o6] at hbo hF
  simp-implicitDefEqProofs[-AV.cells,-AV.isCell,aD,ae,ah,an,aj,aC,af,am,al,-Lw.name_len,dQ,o6]
  rw[←hbo]
  refine hF.mono ?_
  rintro x X1 ⟨rfl,K1,V1,I1,T1,hm1⟩
  simp-implicitDefEqProofs[-AV.cells,-AV.isCell,aD,ae,ah,an,aj,aC,af,am,al,-Lw.name_len,aa]
  exact⟨vs,⟨K1,V1,I1,(T0.lift T1).1.few (λi hi=>by cases hi)⟩,by rw[List.take_length],Nat.le_refl _,by omega,by rw[hm1];exact hrg⟩
 have hS0:Stg (lwR l0 pr V nx) L I E h (h++[bo]) w (h++[bo]) K I:=Stg.of H [bo] (λi hi=>by
  rw[hE] at hi
  rcases List.mem_cons.1 hi with rfl|hi
  ·refine⟨by simp,?_⟩
   simp only[List.mem_cons,not_or]
   exact⟨by have:=H.lt;omega,λhm=>by have:=H.own.lt hm;omega⟩
  ·exact⟨by have:=hV.lt i hi;simp;omega,hVd i hi⟩)
 have hb0:(h++[bo])[h.length]?=some bo:=by simp
 have kE:∀{w2:Lw} {X:List AO} {K2:AV} {I2:List Nat},Stg (lwR l0 pr V nx) L I E h (h++[bo]) w2 X K2 I2->X[h.length]?=some bo/\VAt X V vs/\(∀i∈vi V,i∉L::I2):=λ{w2 X K2 I2} S=>⟨(S.keep _ (by rw[hE];simp)).trans hb0,(hV.more [bo]).frame λi hi=>S.keep i (by rw[hE];simp[hi]),λi hi=>(S.ap i (by rw[hE];simp[hi])).2⟩
 have hal:=eX s.args
 have hbl:(h++[bo]).length=h.length+1:=by simp
 simp-implicitDefEqProofs[-AV.cells,-AV.isCell,aD,ae,ah,an,aj,aC,af,am,al,-Lw.name_len,dQ,o6,hxl]
 refine HD 0 (λts' X=>∃oid K1 I1,Stg (lwR l0 pr V nx) L I E h (h++[bo]) (bv (faI l0) (rgV vs) s.args w).2 X K1 I1/\X[oid]?=some (pQ (bv (faI l0) (rgV vs) s.args w).1)/\h.length<oid/\oid∉E/\oid∉L::I1/\∃z,ts'=aA 132 ((20,z)::(19,.p (.int .i64 s.args.length))::(18,.p (.lst 4 (s.args.map Ex.cs)))::(17,.ptr h.length 5 0 2)::(16,.p (.int .i64 s.args.length))::[(4,.sl oid 1 0 s.args.length),(5,.p (.int .i64 s.args.length)),(3,.ptr h.length 5 0 0),(0,.ptr L 8 0 0)])) (λQ' qE=>?_) ?_
 ·rw[hxl] at hbo
  have S00:Stg (lwR l0 pr V nx) L I E h (h++[bo]) w (h++[bo]++[.row 1 []]) K I:=hS0.more _
  have e0:h++[bo]++[AO.row 1 []]=h++[bo,.row 1 []]:=by simp
  rw[e0] at S00
  have hvE:h.length+1∉E:=λhm=>by have:=(hS0.ap _ hm).1;simp at this
  refine aJ (λa:MpQ=>aA 132 [(4,.sl a.o 1 0 a.i),(5,.p (.int .i64 a.i)),(3,.ptr h.length 5 0 0),(0,.ptr L 8 0 0)]) (λa=>a.X)
   (λa=>a.i<=s.args.length/\∃K1 I1,Stg (lwR l0 pr V nx) L I E h (h++[bo]) (bv (faI l0) (rgV vs) (s.args.take a.i) w).2 a.X K1 I1/\a.X[a.o]?=some (pQ (bv (faI l0) (rgV vs) (s.args.take a.i) w).1)/\h.length<a.o/\a.o∉E/\a.o∉L::I1) (λa=>s.args.length-a.i) ⟨0,h++[bo,.row 1 []],h.length+1⟩ ⟨Nat.zero_le _,K,I,by rw[List.take_zero,bv];exact S00,by rw[List.take_zero,bv,←e0,List.getElem?_append_right (by simp)];simp[pQ],by simp,hvE,by
     simp only[List.mem_cons,not_or]
     exact⟨by omega,λhm=>by have:=H.own.lt hm;omega⟩⟩ ?_ ?_
  ·rw[hbo]
   exact ab (by simp) (by simp[below];omega)
  rintro⟨i,X,o⟩ ⟨hi,K1,I1,S,hx,ho,hoE,hoI⟩
  simp only at hi S hx ho hoE hoI
  have hXl:=S.fr.1
  have hXL:=S.ls.lt
  have hox:o<X.length:=(List.getElem?_eq_some_iff.1 hx).1
  have hlen:(bv (faI l0) (rgV vs) (s.args.take i) w).1.length=i:=by rw[fS,List.length_take];omega
  obtain⟨y0,yV,yd⟩:=kE S
  rw[hbo] at y0
  have hbX:h.length<X.length:=(List.getElem?_eq_some_iff.1 y0).1
  simp-implicitDefEqProofs[y0]
  refine aG (λhc1=>?_) (λhc1=>?_)
  ·simp at hc1
   have hg:=List.getElem?_eq_getElem hc1
   have hm:=List.getElem_mem hc1
   have htk:=ui (fa:=faI l0) (sc:=rgV vs) hc1 w
   have hok1:=(jy (faI l0) (rgV vs) (s.args.take i) w B hok).1
   have hzt:aP (s.args.take i)+s.args[i].sz<=aP s.args:=by
    have h1:=List.take_append_drop (i+1) s.args
    have h2:aP s.args=aP (s.args.take (i+1))+aP (s.args.drop (i+1)):=by
     conv=>lhs;rw[←h1]
     rw[dG]
    rw[aw hc1,dG] at h2
    simp only[aP] at h2
    omega
   have hcall:=Bs G l0 hl0 pr L V nx vs (by omega) 6 s.args[i] (ha _ hm) _ _ K1 I1 _ S.ls hok1 (by omega) yV yd
   generalize s.args[i]=k at*
   have hkc:=k.cs_eq
   generalize bv (faI l0) (rgV vs) (s.args.take i) w=cur at*
   obtain⟨out,w1⟩:=cur
   simp only at htk hcall hok1 S hx hlen
   rw[hkc] at hcall
   simp-implicitDefEqProofs[-AV.cells,-AV.isCell,aD,ae,ah,an,aj,aC,af,am,al,-Lw.name_len,y0,hg,hkc]
   refine hcall.mono ?_
   rintro r X2 ⟨rfl,hlr⟩
   have hl2:X.length<=X2.length:=by obtain⟨_,_,_,a,_⟩:=hlr;exact a.1
   have hx2:X2[o]?=some (pQ out):=by
    obtain⟨_,_,_,a,_⟩:=hlr
    rw[a.2 o hox hoI];exact hx
   have hE2:∀j∈o::E,j<X.length/\j∉L::I1:=λj hj=>by
    rcases List.mem_cons.1 hj with rfl|hj
    ·exact⟨hox,hoI⟩
    ·exact S.ap j hj
   obtain⟨K2,I2,S2o⟩:=(show Stg (lwR l0 pr V nx) L I (o::E) h X w1 X K1 I1 from⟨S.ls,S.fr,S.sub,λ_ _=>rfl,hE2,Nat.le_refl _⟩).step (J:=[]) (λj hj=>by cases hj) (by rw[List.append_nil];exact hlr)
   have hoI2:o∉L::I2:=(S2o.ap o (by simp)).2
   have S2:Stg (lwR l0 pr V nx) L I E h (h++[bo]) _ X2 K2 I2:=⟨S2o.ls,S2o.fr,S2o.sub,λj hj=>(S2o.keep j (by simp[hj])).trans (S.keep j hj),λj hj=>S2o.ap j (by simp[hj]),Nat.le_trans S.ge hl2⟩
   have hx2':∀t,(X2++t)[o]?=some (.row 1 (out.map λn=>[AV.p (.int .i64 n)])):=λt=>by rw[List.getElem?_append_left (by omega)];exact hx2
   have hot:List.take i (out.map λn=>[AV.p (.int .i64 n)])=out.map λn=>[AV.p (.int .i64 n)]:=List.take_of_length_le (by simp;omega)
   simp-implicitDefEqProofs[-AV.cells,-AV.isCell,aD,ae,ah,an,aj,aC,af,am,al,-Lw.name_len,aa,hx2',hlen,hot]
   refine⟨by omega,⟨i+1,_,X2.length+1⟩,⟨by simp only;omega,K2,I2,by
    rw[htk]
    exact S2.upd (oid:=o) (by simp;omega) (λj hj hn=>by rw[List.getElem?_append_left (by simp;omega),List.getElem?_set_ne (Ne.symm hn),List.getElem?_append_left hj]) (by omega) hoE hoI2,?_,by simp only;omega,λhm=>by have:=(S2.ap _ hm).1;simp only at this;omega,?_⟩,by simp only;omega,ab (by simp;omega) ?_⟩
   ·rw[htk,List.getElem?_append_right (by simp)];simp[pQ]
   ·simp only[List.mem_cons,not_or]
    exact⟨by have:=S2.ls.lt;omega,λhm=>by have:=S2.ls.own.lt hm;omega⟩
   ·simp[below,show IntKind.i64.wrap ((i:Int)+1)=(i:Int)+1 from ag (by omega) (by omega)]
    omega
  ·simp at hc1
   have hie:i=s.args.length:=by omega
   subst hie
   rw[List.take_length] at S hx hlen
   simp-implicitDefEqProofs[]
   exact qE _ _ ⟨o,K1,I1,S,hx,ho,hoE,hoI,_,rfl⟩
 ·rintro ts' X ⟨oid,K1,I1,S,hx,ho,hoE,hoI,z,rfl⟩
  obtain⟨y0,yV,yd⟩:=kE S
  rw[hbo] at y0
  obtain⟨okm,lenm⟩:=jy (faI l0) (rgV vs) s.args w B hok
  have hlm:=fS (faI l0) (rgV vs) s.args w
  obtain⟨t1,ht1⟩:∃x,x=bv (faI l0) (rgV vs) s.args w:=⟨_,rfl⟩
  have heq:=HQ (fa:=faI l0) (d:= -1) o6 m up nx w (x:=t1) (by rw[←hrg];exact ht1)
  rw[←ht1] at S hx okm lenm hlm
  have hA:OwnL false X [.sl oid 1 0 s.args.length] [aE t1.1] [oid]:=rI hx hlm.symm
  have hox:=(List.getElem?_eq_some_iff.1 hx).1
  rw[hE] at S hoE
  have To:RS l0 pr L (L::(vi V++I)) I [oid,h.length] h t1.2 nx vs X K1 V I1:=RS.ofStg S yV hV.lt hox hoE hoI
  have Tq:RS l0 pr L (L::(vi V++I)) I [h.length] h t1.2 nx vs X K1 V I1:=To.few (by simp)
  have hJ:∀j∈[oid],h.length<=j/\j∉vi V++[h.length]:=λj hj=>by
   rw[List.mem_singleton.1 hj]
   refine⟨by omega,λhm=>hoE ?_⟩
   rcases List.mem_append.1 hm with hm|hm
   ·simp[hm]
   ·rw[List.mem_singleton.1 hm];simp
  have hJ2:∀j∈[oid],j≠L/\j∉I1:=λj hj=>by
   rw[List.mem_singleton.1 hj]
   simpa only[List.mem_cons,not_or] using hoI
  have r1:=y0
  have yL:=S.ls.here
  simp only[lwR] at yL
  clear ht1
  have hsl0:0<s.args.length:=List.length_pos_iff.2 hne
  have hq:∃q0 qr,t1.1=q0::qr:=by
   match hx:t1.1,s.args,hne,hlm with
   |q::r,_,_,_=>exact⟨q,r,rfl⟩
   |[],[],h,_=>exact(h rfl).elim
   |[],_::_,_,h=>simp at h
  simp-implicitDefEqProofs[-AV.cells,-AV.isCell,aD,ae,ah,an,aj,aC,af,am,al,-Lw.name_len,r1]
  refine aG (λo1=>?_) (λo1=>?_)
  ·have o1:s.op=1:=by simpa using o1
   simp-implicitDefEqProofs[-AV.cells,-AV.isCell,aD,ae,ah,an,aj,aC,af,am,al,-Lw.name_len,r1,yL]
   refine(BE G Tq okm (by omega) ⟨2,nx,t1.1,0⟩ hA (by simp) hJ hJ2).mono ?_
   rintro x X1 ⟨rfl,K2,I2,T2,e2⟩
   simp-implicitDefEqProofs[-AV.cells,-AV.isCell,aD,ae,ah,an,aj,aC,af,am,al,-Lw.name_len,aa]
   have vform:=T2.va
   have dl:=(T2.at.2)
   have yL2:=T2.stb.ls.here
   simp only[lwR] at yL2
   have r2:=(e2 h.length (by simp)).trans r1
   have hrgn:rgV (vs++[(s.name,nx)])=scF (-1) (mw m s.name nx::up):=by
    funext t
    rw[rE,hrg,scF,scF,uV,uV,mN]
    by_cases hst:s.name=t
    ·simp[hst]
    ·simp[hst]
   have hwn:IntKind.i64.wrap ((nx:Int)+1)=(nx:Int)+1:=ag (by omega) (by omega)
   have hLX:=T2.stb.ls.lt
   cases vform with
   |nil=>
    have hLs:∀t o,((X1++t).set L o)[L]?=some o:=λt o=>List.getElem?_set_self (by simp;omega)
    have hLm:∀t,(X1++t)[L]?=X1[L]?:=λt=>List.getElem?_append_left hLX
    have hrm:∀t o,((X1++t).set L o)[h.length]?=X1[h.length]?:=λt o=>by
     rw[List.getElem?_set_ne (λe=>(T2.at.1 h.length (by simp)).2 (by rw[e];simp)),List.getElem?_append_left (T2.at.1 h.length (by simp)).1]
    simp-implicitDefEqProofs[-AV.cells,-AV.isCell,aD,ae,ah,an,aj,aC,af,am,al,-Lw.name_len,r2,yL2,hLm, ↓hLs,hwn,hrm]
    obtain⟨V2,hV2⟩:∃V2,V2=AV.sl X1.length 3 0 1:=⟨_,rfl⟩
    rw[heq,if_pos o1]
    have hX2:∀X2,X2=(X1++[AO.row 3 [[.p (.str s.name),.p (.int .i64 nx),.p (.int .i64 0)]]]).set L (.row 8 [[.p (fdL l0),.p (.int .i64 pr),.p (.int .i64 (t1.2.put ⟨2,nx,t1.1,0⟩).regs),K2,.p (.int .i64 (t1.2.put ⟨2,nx,t1.1,0⟩).pos),.sl X1.length 3 0 1,.p (.int .i64 ((nx:Int)+1)),.nils]])->RS l0 pr L (L::(vi .nils++I)) I [h.length] h (t1.2.put ⟨2,nx,t1.1,0⟩) (nx+1) [(s.name,nx)] X2 K2 (.sl X1.length 3 0 1) I2:=λX2 e=>by
     subst e
     refine(T2.alt (by simp) (by rw[hLs,lwR];simp) (λi hi hn _=>by rw[List.getElem?_set_ne (Ne.symm hn),List.getElem?_append_left hi]) (.sl _ [mz (s.name,nx)] [(s.name,nx)] (by rw[List.getElem?_set_ne (by omega),List.getElem?_append_right (Nat.le_refl _)];simp[mz]) rfl) (λi hi=> .inr (by rw[List.mem_singleton.1 hi];exact Nat.le_refl _))).1
    refine⟨[(s.name,nx)],⟨_,_,_,(hX2 _ (by simp[List.set_set])).few (E2:=[]) (λi hi=>by cases hi)⟩,?_⟩
    simpa using hrgn
   |sl vid rows _ hv1 hv2=>
    have hvX:=(List.getElem?_eq_some_iff.1 hv1).1
    have hvd:=(T2.at.2 vid (by simp[vi])).2
    simp only[List.mem_cons,not_or] at hvd
    have hLs:∀t u o,(((X1++t).set vid .dead++u).set L o)[L]?=some o:=λt u o=>List.getElem?_set_self (by simp;omega)
    have hLm:∀t u,((X1++t).set vid .dead++u)[L]?=X1[L]?:=λt u=>by rw[List.getElem?_append_left (by simp;omega),List.getElem?_set_ne hvd.1,List.getElem?_append_left hLX]
    have hLs0:∀u o,((X1.set vid .dead++u).set L o)[L]?=some o:=λu o=>List.getElem?_set_self (by simp;omega)
    have hLm0:∀u,(X1.set vid .dead++u)[L]?=X1[L]?:=λu=>by rw[List.getElem?_append_left (by simp;omega),List.getElem?_set_ne hvd.1]
    have hvk:vs.length<=rows.length:=by
     have:=congrArg List.length hv2
     rw[List.length_take,List.length_map] at this
     omega
    simp-implicitDefEqProofs[-AV.cells,-AV.isCell,aD,ae,ah,an,aj,aC,af,am,al,-Lw.name_len,r2,yL2,hv1,hv2, ↓hLs, ↓hLm, ↓hLs0, ↓hLm0,hwn]
    rw[heq,if_pos o1]
    have hX2:∀X2,X2=(X1.set vid .dead++[AO.row 3 (vs.map mz++[[.p (.str s.name),.p (.int .i64 nx),.p (.int .i64 0)]])]).set L (.row 8 [[.p (fdL l0),.p (.int .i64 pr),.p (.int .i64 (t1.2.put ⟨2,nx,t1.1,0⟩).regs),K2,.p (.int .i64 (t1.2.put ⟨2,nx,t1.1,0⟩).pos),.sl X1.length 3 0 (vs.length+1),.p (.int .i64 ((nx:Int)+1)),.nils]])->RS l0 pr L (L::(vi (.sl vid 3 0 vs.length)++I)) I [h.length] h (t1.2.put ⟨2,nx,t1.1,0⟩) (nx+1) (vs++[(s.name,nx)]) X2 K2 (.sl X1.length 3 0 (vs.length+1)) I2:=λX2 e=>by
     subst e
     have hlv:(vs++[(s.name,nx)]).length=vs.length+1:=by simp
     refine(T2.alt (by simp) (by rw[hLs0,lwR];simp) (λi hi hn hv=>by
      rw[List.getElem?_set_ne (Ne.symm hn),List.getElem?_append_left (by simpa using hi),List.getElem?_set_ne (λe=>hv (by rw[←e];simp[vi]))]) (hlv▸ .sl _ (vs.map mz++[mz (s.name,nx)]) (vs++[(s.name,nx)]) (by rw[List.getElem?_set_ne (by omega),List.getElem?_append_right (by simp)];simp[mz]) (by rw[List.take_of_length_le (by simp)];simp)) (λi hi=> .inr (by rw[List.mem_singleton.1 hi];exact Nat.le_refl _))).1
    refine⟨⟨by omega,by omega⟩,vs++[(s.name,nx)],⟨_,_,_,(hX2 _ (by simp[List.set_set])).few (E2:=[]) (λi hi=>by cases hi)⟩,?_⟩
    simpa using hrgn
  have o1:¬s.op=1:=by simpa using o1
  simp-implicitDefEqProofs[-AV.cells,-AV.isCell,aD,ae,ah,an,aj,aC,af,am,al,-Lw.name_len,r1]
  refine aG (λo2=>?_) (λo2=>?_)
  ·have o2:s.op=2:=by simpa using o2
   simp-implicitDefEqProofs[-AV.cells,-AV.isCell,aD,ae,ah,an,aj,aC,af,am,al,-Lw.name_len,r1,yL]
   refine(Ej G S.ls.here yV (by omega) s.name).mono ?_
   rintro x X' ⟨rfl,rfl⟩
   simp-implicitDefEqProofs[-AV.cells,-AV.isCell,aD,ae,ah,an,aj,aC,af,am,al,-Lw.name_len,aa,r1]
   refine(BE G Tq okm (by omega) ⟨2,rgV vs s.name,t1.1,0⟩ hA (by simp) hJ hJ2).mono ?_
   rintro x X1 ⟨rfl,K2,I2,T2,e2⟩
   simp-implicitDefEqProofs[-AV.cells,-AV.isCell,aD,ae,ah,an,aj,aC,af,am,al,-Lw.name_len,aa]
   rw[hrg] at T2
   rw[heq,if_neg o1,if_pos o2]
   exact⟨vs,⟨_,_,_,T2.few (λi hi=>by cases hi)⟩,by rw[List.take_length],Nat.le_refl _,by omega,hrg⟩
  have o2:¬s.op=2:=by simpa using o2
  simp-implicitDefEqProofs[-AV.cells,-AV.isCell,aD,ae,ah,an,aj,aC,af,am,al,-Lw.name_len,r1]
  refine aG (λo3=>?_) (λo3=>?_)
  ·have o3:s.op=3:=by simpa using o3
   simp-implicitDefEqProofs[-AV.cells,-AV.isCell,aD,ae,ah,an,aj,aC,af,am,al,-Lw.name_len,r1,yL]
   refine(BE G Tq okm (by omega) ⟨13,-1,t1.1,0⟩ hA (by simp) hJ hJ2).mono ?_
   rintro x X1 ⟨rfl,K2,I2,T2,e2⟩
   simp-implicitDefEqProofs[-AV.cells,-AV.isCell,aD,ae,ah,an,aj,aC,af,am,al,-Lw.name_len,aa]
   rw[heq,if_neg o1,if_neg o2,if_pos o3]
   exact⟨vs,⟨_,_,_,T2.few (λi hi=>by cases hi)⟩,by rw[List.take_length],Nat.le_refl _,by omega,hrg⟩
  have o3:¬s.op=3:=by simpa using o3
  simp-implicitDefEqProofs[-AV.cells,-AV.isCell,aD,ae,ah,an,aj,aC,af,am,al,-Lw.name_len,r1]
  refine aG (λo4=>?_) (λo4=>?_)
  ·have o4:s.op=4:=by simpa using o4
   simp-implicitDefEqProofs[-AV.cells,-AV.isCell,aD,ae,ah,an,aj,aC,af,am,al,-Lw.name_len,r1,yL]
   refine(BE G Tq okm (by omega) ⟨12,-1,t1.1,0⟩ hA (by simp) hJ hJ2).mono ?_
   rintro x X1 ⟨rfl,K2,I2,T2,e2⟩
   simp-implicitDefEqProofs[-AV.cells,-AV.isCell,aD,ae,ah,an,aj,aC,af,am,al,-Lw.name_len,aa]
   rw[heq,if_neg o1,if_neg o2,if_neg o3,if_pos o4]
   exact⟨vs,⟨_,_,_,T2.few (λi hi=>by cases hi)⟩,by rw[List.take_length],Nat.le_refl _,by omega,hrg⟩
  have o4:¬s.op=4:=by simpa using o4
  simp-implicitDefEqProofs[-AV.cells,-AV.isCell,aD,ae,ah,an,aj,aC,af,am,al,-Lw.name_len,r1]
  refine aG (λo7=>?_) (λo7=>?_)
  ·have o7:s.op=7:=by simpa using o7
   obtain⟨q0,qr,hq⟩:=hq
   obtain⟨t,ht⟩:∃t,t=t1.2.bs.length:=⟨_,rfl⟩
   have htb:t<=B+8*aP s.args:=by rw[ht];exact okm.bs
   have ho1:X[oid]?=some (.row 1 ([.p (.int .i64 q0)]::qr.map λn=>[AV.p (.int .i64 n)])):=by rw[hx,pQ,hq];rfl
   have hhd:t1.1.headD 0=q0:=by rw[hq];rfl
   simp-implicitDefEqProofs[-AV.cells,-AV.isCell,aD,ae,ah,an,aj,aC,af,am,al,-Lw.name_len,r1,ho1,hsl0]
   refine(js G To okm (by omega)).mono ?_
   rintro x X2 ⟨rfl,K2,I2,T2,e2⟩
   have o2':=(e2 oid (by simp)).trans ho1
   have r2:=(e2 h.length (by simp)).trans r1
   have ok2:=okm.name 1
   simp-implicitDefEqProofs[-AV.cells,-AV.isCell,aD,ae,ah,an,aj,aC,af,am,al,-Lw.name_len,aa,←ht,o2',hsl0,r2]
   refine(FW G T2 ok2 3 q0 t rfl).mono ?_
   rintro x X3 ⟨rfl,K3,I3,T3,e3⟩
   simp-implicitDefEqProofs[-AV.cells,-AV.isCell,aD,ae,ah,an,aj,aC,af,am,al,-Lw.name_len,aa]
   rw[heq,if_neg o1,if_neg o2,if_neg o3,if_neg o4,if_neg (by omega),if_pos o7,hhd,←ht]
   exact⟨vs,⟨_,_,_,T3.few (λi hi=>by cases hi)⟩,by rw[List.take_length],Nat.le_refl _,by omega,hrg⟩
  have o7:¬s.op=7:=by simpa using o7
  simp-implicitDefEqProofs[-AV.cells,-AV.isCell,aD,ae,ah,an,aj,aC,af,am,al,-Lw.name_len,r1]
  refine aG (λo5=>?_) (λo5=>?_)
  ·have o5:s.op=5:=by simpa using o5
   obtain⟨q0,qr,hq⟩:=hq
   obtain⟨t,ht⟩:∃t,t=t1.2.bs.length:=⟨_,rfl⟩
   have htb:t<=B+8*aP s.args:=by rw[ht];exact okm.bs
   have ho1:X[oid]?=some (.row 1 ([.p (.int .i64 q0)]::qr.map λn=>[AV.p (.int .i64 n)])):=by rw[hx,pQ,hq];rfl
   have hhd:t1.1.headD 0=q0:=by rw[hq];rfl
   simp-implicitDefEqProofs[-AV.cells,-AV.isCell,aD,ae,ah,an,aj,aC,af,am,al,-Lw.name_len,r1]
   refine(js G To okm (by omega)).mono ?_
   rintro x X2 ⟨rfl,K2,I2,T2,e2⟩
   have r2:=(e2 h.length (by simp)).trans r1
   have ok2:=okm.name 1
   have hl2:(t1.2.name 1).bs.length=t+1:=by rw[Lw.name_len,ht]
   simp-implicitDefEqProofs[-AV.cells,-AV.isCell,aD,ae,ah,an,aj,aC,af,am,al,-Lw.name_len,aa,←ht,r2]
   refine(js G T2 ok2 (by omega)).mono ?_
   rintro x X3 ⟨rfl,K3,I3,T3,e3⟩
   have r3:=(e3 h.length (by simp)).trans r2
   have ok3:=ok2.name 1
   have hl3:((t1.2.name 1).name 1).bs.length=t+2:=by rw[Lw.name_len,hl2]
   simp-implicitDefEqProofs[-AV.cells,-AV.isCell,aD,ae,ah,an,aj,aC,af,am,al,-Lw.name_len,aa,hl2,r3]
   refine(js G T3 ok3 (by omega)).mono ?_
   rintro x X4 ⟨rfl,K4,I4,T4,e4⟩
   have r4:=(e4 h.length (by simp)).trans r3
   have ok4:(t1.2.name 3).Ok _:=okm.name 3
   have hn4:((t1.2.name 1).name 1).name 1=t1.2.name 3:=by rw[Lw.name_name,Lw.name_name]
   rw[hn4] at T4
   have o4':=(e4 oid (by simp)).trans ((e3 oid (by simp)).trans ((e2 oid (by simp)).trans ho1))
   simp-implicitDefEqProofs[-AV.cells,-AV.isCell,aD,ae,ah,an,aj,aC,af,am,al,-Lw.name_len,aa,hl3,r4,o4',hsl0]
   refine(BC G T4 ok4 2 q0 t ((t:Int)+1) t rfl).mono ?_
   rintro x X5 ⟨rfl,K5,I5,T5,e5⟩
   have r5:=(e5 h.length (by simp)).trans r4
   have ok5:=ok4.fin 2 q0 (g:=t) (by rw[Lw.name_len,ht];omega) [(t:Int),(t:Int)+1]
   simp-implicitDefEqProofs[-AV.cells,-AV.isCell,aD,ae,ah,an,aj,aC,af,am,al,-Lw.name_len,aa,r5]
   have h6:=pU G hb T5 (m:=[]) (up:=m::up) ok5 (by omega) (by omega) (by omega) (by rw[hrg];rfl)
   have okb:=dR (faI l0) (-1) s.body [] (m::up) nx _ _ ok5
   obtain⟨y6,hy6⟩:∃y,y=aU (faI l0) (-1) s.body [] (m::up) nx ((t1.2.name 3).fin 2 q0 t [(t:Int),(t:Int)+1]):=⟨_,rfl⟩
   rw[←hy6] at h6 okb
   refine h6.mono ?_
   rintro x X6 ⟨rfl,K6,V6,I6,T6,e6⟩
   obtain⟨ok6,len6,nx6,nxx6⟩:=okb
   simp only[Lw.fin_len,Lw.name_len,←ht] at len6
   have r6:=(e6 h.length (by simp)).trans r5
   simp-implicitDefEqProofs[-AV.cells,-AV.isCell,aD,ae,ah,an,aj,aC,af,am,al,-Lw.name_len,aa,r6]
   refine(pR G T6 ok6 1 0 ((t:Int)+2) (t+1) (by omega)).mono ?_
   rintro x X7 ⟨rfl,K7,I7,T7,e7⟩
   have r7:=(e7 h.length (by simp)).trans r6
   have ok7:=ok6.fin 1 0 (g:=t+1) (by omega) [(t:Int)+2]
   simp-implicitDefEqProofs[-AV.cells,-AV.isCell,aD,ae,ah,an,aj,aC,af,am,al,-Lw.name_len,aa,r7]
   have h8:=pU G he T7 (m:=[]) (up:=m::up) ok7 (by omega) (by omega) (by omega) (by rw[hrg];rfl)
   have okb:=dR (faI l0) (-1) s.els [] (m::up) y6.2.1 _ _ ok7
   obtain⟨y8,hy8⟩:∃y,y=aU (faI l0) (-1) s.els [] (m::up) y6.2.1 (y6.2.2.fin 1 0 (t+1) [(t:Int)+2]):=⟨_,rfl⟩
   rw[←hy8] at h8 okb
   refine h8.mono ?_
   rintro x X8 ⟨rfl,K8,V8,I8,T8,e8⟩
   obtain⟨ok8,len8,nx8,nxx8⟩:=okb
   simp only[Lw.fin_len] at len8
   have r8:=(e8 h.length (by simp)).trans r7
   simp-implicitDefEqProofs[-AV.cells,-AV.isCell,aD,ae,ah,an,aj,aC,af,am,al,-Lw.name_len,aa,r8]
   refine(pR G T8 ok8 1 0 ((t:Int)+2) (t+2) (by omega)).mono ?_
   rintro x X9 ⟨rfl,K9,I9,T9,e9⟩
   simp-implicitDefEqProofs[-AV.cells,-AV.isCell,aD,ae,ah,an,aj,aC,af,am,al,-Lw.name_len,aa]
   have hE5:lwS (faI l0) (-1) s m up nx w=(m,y8.2.1,y8.2.2.fin 1 0 (t+2) [(t:Int)+2]):=by
    rw[heq,if_neg o1,if_neg o2,if_neg o3,if_neg o4,if_pos o5]
    simp only[hhd,←ht]
    rw[←hy6,←hy8]
   rw[hE5]
   exact⟨vs,⟨_,_,_,T9.few (λi hi=>by cases hi)⟩,by rw[List.take_length],Nat.le_refl _,by omega,hrg⟩
  have o5:¬s.op=5:=by simpa using o5
  simp-implicitDefEqProofs[-AV.cells,-AV.isCell,aD,ae,ah,an,aj,aC,af,am,al,-Lw.name_len,r1]
  rw[heq,if_neg o1,if_neg o2,if_neg o3,if_neg o4,if_neg o5,if_neg o7]
  exact⟨vs,⟨_,_,_,Tq.few (λi hi=>by cases hi)⟩,by rw[List.take_length],Nat.le_refl _,by omega,hrg⟩
structure SlS where (i:Nat) (X:List AO)
theorem sT(l0:List Fd)(pr:Int)(L:Nat)(b:List Sm)(hs:∀s∈b,StR G l0 pr L s):Cb G l0 pr L b:=by
 intro w h K V I B vs nx m up T hok hB hnx hvl hrg
 have hsl:∀l,smL l= .lst 5 (l.map Sm.cs):=λ_=>rfl
 have hll:=dH b
 have yL0:=T.stb.ls.here
 simp only[lwR] at yL0
 refine AC.go mH ?_
 rcases T.va.form with⟨hVe,hve⟩|⟨vid0,hVe⟩
 ·have hv00:vs.length=0:=by rw[hve];rfl
  rw[hVe] at yL0
  simp-implicitDefEqProofs[dz,yL0,hsl]
  refine aJ (λa:SlS=>aA 32 [(5,.p (.int .i64 a.i)),(4,.p (.int .i64 0)),(0,.ptr L 8 0 0),(1,.p (smL b))]) (λa=>a.X)
   (λa=>a.i<=b.length/\∃vs1 K1 V1 I1,RS l0 pr L (L::(vi V++I)) I [] h (aU (faI l0) (-1) (b.take a.i) m up nx w).2.2 (aU (faI l0) (-1) (b.take a.i) m up nx w).2.1 vs1 a.X K1 V1 I1/\vs1.take vs.length=vs/\vs.length<=vs1.length/\vs1.length<=vs.length+a.i/\rgV vs1=scF (-1) ((aU (faI l0) (-1) (b.take a.i) m up nx w).1::up)) (λa=>b.length-a.i) ⟨0,h⟩ ⟨Nat.zero_le _,vs,K,V,I,by rw[List.take_zero,aU];exact T,by rw[List.take_length],Nat.le_refl _,by simp,by rw[List.take_zero,aU];exact hrg⟩ ?_ ?_
  ·exact ab (Nat.le_refl _) (by simp[below,hsl,T.stb.ls.lt])
  rintro⟨i,X⟩ ⟨hi,vs1,K1,V1,I1,T1,p1,p2,p3,p4⟩
  simp only at hi T1 p3 p4
  have hXL:=T1.stb.ls.lt
  simp-implicitDefEqProofs[hsl]
  refine aG (λhc=>?_) (λhc=>?_)
  ·simp at hc
   have hg:=List.getElem?_eq_getElem hc
   have hm:=List.getElem_mem hc
   have htk:=tS (fa:=faI l0) (d:= -1) hc m up nx w
   have hok1:=dR (faI l0) (-1) (b.take i) m up nx w B hok
   have hzt:aM (b.take i)+b[i].sz<=aM b:=by
    have h1:=List.take_append_drop (i+1) b
    have h2:aM b=aM (b.take (i+1))+aM (b.drop (i+1)):=by
     conv=>lhs;rw[←h1]
     rw[cm]
    rw[aw hc,cm] at h2
    simp only[aM] at h2
    omega
   have htl:i<=aM (b.take i):=by
    have:=dH (b.take i)
    rw[List.length_take] at this
    omega
   have hst:=hs b[i] hm
   generalize b[i]=s at hg hm htk hzt hst
   have hsc:=s.cs_eq
   generalize aU (faI l0) (-1) (b.take i) m up nx w=cur at*
   obtain⟨mc,nc,wc⟩:=cur
   simp only at htk hok1 T1 p4
   obtain⟨okc,_,_,hnc⟩:=hok1
   have hcall:=hst wc X K1 V1 I1 _ vs1 nc mc up T1.start okc (by omega) (by omega) (by omega) p4
   rw[hsc] at hcall
   simp-implicitDefEqProofs[hg,hsc]
   refine hcall.mono ?_
   rintro r X2 ⟨rfl,vs2,K2,V2,I2,T2,q1,q2,q3,q4⟩
   obtain⟨T3,_⟩:=T1.lift T2
   simp-implicitDefEqProofs[aa]
   refine⟨⟨i+1,X2⟩,⟨by simp only;omega,vs2,⟨K2,V2,I2,by rw[htk];exact T3⟩,?_,by omega,by simp only;omega,by rw[htk];exact q4⟩,by simp only;omega,ab (Nat.le_trans T1.stb.fr.1 T2.stb.fr.1) ?_⟩
   ·rw[←q1,List.take_take,Nat.min_eq_left p2] at p1
    exact p1
   ·simp[below,hsl,show IntKind.i64.wrap ((i:Int)+1)=(i:Int)+1 from ag (by omega) (by omega)]
    exact T3.stb.ls.lt
  ·simp at hc
   have hie:i=b.length:=by omega
   subst hie
   rw[List.take_length] at T1
   have yL:=T1.stb.ls.here
   simp only[lwR] at yL
   have fin:∀V2,VAt (X.set L (lwR l0 pr V2 (aU (faI l0) (-1) b m up nx w).2.1 (aU (faI l0) (-1) b m up nx w).2.2 K1)) V2 vs->(∀i∈vi V2,i∈vi V1)->RS l0 pr L (L::(vi V++I)) I [] h (aU (faI l0) (-1) b m up nx w).2.2 (aU (faI l0) (-1) b m up nx w).2.1 vs (X.set L (lwR l0 pr V2 (aU (faI l0) (-1) b m up nx w).2.1 (aU (faI l0) (-1) b m up nx w).2.2 K1)) K1 V2 I1:=λV2 hv2 hs2=>(T1.alt (by simp) (List.getElem?_set_self T1.stb.ls.lt) (λi hi hn _=>List.getElem?_set_ne (Ne.symm hn)) hv2 (λi hi=> .inl (hs2 i hi))).1
   have va:=T1.va
   have vd:=T1.at.2
   cases va with
   |nil=>
    have hv0:vs=[]:=List.length_eq_zero_iff.1 (by simpa using p2)
    have hv1:vs.length=0:=by rw[hv0];rfl
    simp-implicitDefEqProofs[yL,hv1]
    exact⟨K1,.nils,I1,by have:=fin .nils (by rw[hv0];exact .nil) (λi hi=>hi);simpa only[lwR] using this⟩
   |sl vid rows _ h1 h2=>
    have hvl2:vs1.length<=rows.length:=by
     have:=congrArg List.length h2
     rw[List.length_take,List.length_map] at this
     omega
    have hne:vid≠L:=λe=>(vd vid (by simp[vi])).2 (by rw[e];simp)
    simp-implicitDefEqProofs[yL,h1,p2]
    refine⟨K1,.sl vid 3 0 0,I1,?_⟩
    have:=fin (.sl vid 3 0 vs.length) (.sl vid rows vs (by rw[List.getElem?_set_ne (Ne.symm hne)];exact h1) (by
     have e:=congrArg (List.take vs.length) h2
     rw[List.take_take,Nat.min_eq_left p2,←List.map_take,p1] at e
     exact e)) (λi hi=>by simpa[vi] using hi)
    rw[hv00] at this
    simpa only[lwR] using this
 ·rw[hVe] at yL0
  simp-implicitDefEqProofs[dz,yL0,hsl]
  refine aJ (λa:SlS=>aA 32 [(5,.p (.int .i64 a.i)),(4,.p (.int .i64 vs.length)),(0,.ptr L 8 0 0),(1,.p (smL b))]) (λa=>a.X)
   (λa=>a.i<=b.length/\∃vs1 K1 V1 I1,RS l0 pr L (L::(vi V++I)) I [] h (aU (faI l0) (-1) (b.take a.i) m up nx w).2.2 (aU (faI l0) (-1) (b.take a.i) m up nx w).2.1 vs1 a.X K1 V1 I1/\vs1.take vs.length=vs/\vs.length<=vs1.length/\vs1.length<=vs.length+a.i/\rgV vs1=scF (-1) ((aU (faI l0) (-1) (b.take a.i) m up nx w).1::up)) (λa=>b.length-a.i) ⟨0,h⟩ ⟨Nat.zero_le _,vs,K,V,I,by rw[List.take_zero,aU];exact T,by rw[List.take_length],Nat.le_refl _,by simp,by rw[List.take_zero,aU];exact hrg⟩ ?_ ?_
  ·exact ab (Nat.le_refl _) (by simp[below,hsl,T.stb.ls.lt])
  rintro⟨i,X⟩ ⟨hi,vs1,K1,V1,I1,T1,p1,p2,p3,p4⟩
  simp only at hi T1 p3 p4
  have hXL:=T1.stb.ls.lt
  simp-implicitDefEqProofs[hsl]
  refine aG (λhc=>?_) (λhc=>?_)
  ·simp at hc
   have hg:=List.getElem?_eq_getElem hc
   have hm:=List.getElem_mem hc
   have htk:=tS (fa:=faI l0) (d:= -1) hc m up nx w
   have hok1:=dR (faI l0) (-1) (b.take i) m up nx w B hok
   have hzt:aM (b.take i)+b[i].sz<=aM b:=by
    have h1:=List.take_append_drop (i+1) b
    have h2:aM b=aM (b.take (i+1))+aM (b.drop (i+1)):=by
     conv=>lhs;rw[←h1]
     rw[cm]
    rw[aw hc,cm] at h2
    simp only[aM] at h2
    omega
   have htl:i<=aM (b.take i):=by
    have:=dH (b.take i)
    rw[List.length_take] at this
    omega
   have hst:=hs b[i] hm
   generalize b[i]=s at hg hm htk hzt hst
   have hsc:=s.cs_eq
   generalize aU (faI l0) (-1) (b.take i) m up nx w=cur at*
   obtain⟨mc,nc,wc⟩:=cur
   simp only at htk hok1 T1 p4
   obtain⟨okc,_,_,hnc⟩:=hok1
   have hcall:=hst wc X K1 V1 I1 _ vs1 nc mc up T1.start okc (by omega) (by omega) (by omega) p4
   rw[hsc] at hcall
   simp-implicitDefEqProofs[hg,hsc]
   refine hcall.mono ?_
   rintro r X2 ⟨rfl,vs2,K2,V2,I2,T2,q1,q2,q3,q4⟩
   obtain⟨T3,_⟩:=T1.lift T2
   simp-implicitDefEqProofs[aa]
   refine⟨⟨i+1,X2⟩,⟨by simp only;omega,vs2,⟨K2,V2,I2,by rw[htk];exact T3⟩,?_,by omega,by simp only;omega,by rw[htk];exact q4⟩,by simp only;omega,ab (Nat.le_trans T1.stb.fr.1 T2.stb.fr.1) ?_⟩
   ·rw[←q1,List.take_take,Nat.min_eq_left p2] at p1
    exact p1
   ·simp[below,hsl,show IntKind.i64.wrap ((i:Int)+1)=(i:Int)+1 from ag (by omega) (by omega)]
    exact T3.stb.ls.lt
  ·simp at hc
   have hie:i=b.length:=by omega
   subst hie
   rw[List.take_length] at T1
   have yL:=T1.stb.ls.here
   simp only[lwR] at yL
   have fin:∀V2,VAt (X.set L (lwR l0 pr V2 (aU (faI l0) (-1) b m up nx w).2.1 (aU (faI l0) (-1) b m up nx w).2.2 K1)) V2 vs->(∀i∈vi V2,i∈vi V1)->RS l0 pr L (L::(vi V++I)) I [] h (aU (faI l0) (-1) b m up nx w).2.2 (aU (faI l0) (-1) b m up nx w).2.1 vs (X.set L (lwR l0 pr V2 (aU (faI l0) (-1) b m up nx w).2.1 (aU (faI l0) (-1) b m up nx w).2.2 K1)) K1 V2 I1:=λV2 hv2 hs2=>(T1.alt (by simp) (List.getElem?_set_self T1.stb.ls.lt) (λi hi hn _=>List.getElem?_set_ne (Ne.symm hn)) hv2 (λi hi=> .inl (hs2 i hi))).1
   have va:=T1.va
   have vd:=T1.at.2
   cases va with
   |nil=>
    have hv0:vs=[]:=List.length_eq_zero_iff.1 (by simpa using p2)
    have hv1:vs.length=0:=by rw[hv0];rfl
    simp-implicitDefEqProofs[yL,hv1]
    exact⟨K1,.nils,I1,by have:=fin .nils (by rw[hv0];exact .nil) (λi hi=>hi);simpa only[lwR] using this⟩
   |sl vid rows _ h1 h2=>
    have hvl2:vs1.length<=rows.length:=by
     have:=congrArg List.length h2
     rw[List.length_take,List.length_map] at this
     omega
    have hne:vid≠L:=λe=>(vd vid (by simp[vi])).2 (by rw[e];simp)
    simp-implicitDefEqProofs[yL,h1,p2]
    refine⟨K1,.sl vid 3 0 vs.length,I1,?_⟩
    have:=fin (.sl vid 3 0 vs.length) (.sl vid rows vs (by rw[List.getElem?_set_ne (Ne.symm hne)];exact h1) (by
     have e:=congrArg (List.take vs.length) h2
     rw[List.take_take,Nat.min_eq_left p2,←List.map_take,p1] at e
     exact e)) (λi hi=>by simpa[vi] using hi)
    simpa only[lwR] using this
theorem FD(l0:List Fd)(hl0:l0.length<=1073741824)(pr:Int)(L:Nat):∀(d:Nat) (b:List Sm),(∀s∈b,aO d s=true)->Cb G l0 pr L b:=by
 intro d
 induction d with
 |zero=>
  intro b hb
  refine sT G l0 pr L b λs hs=>?_
  have:=hb s hs
  cases this
 |succ d ih=>
  intro b hb
  refine sT G l0 pr L b λs hs=>?_
  have hf:=hb s hs
  exact Gf G l0 hl0 pr L s (Jc hf) (EC hf) (ih s.body (EJ hf)) (ih s.els (Gh hf))
end
section
theorem zR(nf:Bool)(id n:Nat):(vaC nf id n).isCell=true:=by cases nf<;>rfl
theorem CV(nf:Bool)(id n:Nat):(vaC nf id n).cells=[vaC nf id n]:=by cases nf<;>rfl
attribute [simp ↓] zR CV
variable (G:az)
end
section
def w0(fns:List Fd)(k:Nat)(f:Fd):WS:=⟨[],0,if tK fns f.name=some k then 0 else 2⟩
variable (G:az)
end
section
def AX(b0:AO)(fns:List Fd)(k:Nat)(up:List GS)(gap:List AO)(c:Int):List AO:=b0::cO fns k c::(scH up++gap)
variable (G:az)
end
section
abbrev BL:Nat:=9223372036854775807
theorem Fd.cs_eq'(f:Fd):f.cs=[.str f.name,bB f.params,smL f.body]:=rfl
variable (G:az)
end
section
theorem Br:∀(a b:List (List UInt8)) (m:Scp) (i:Nat),psS (a++b) m i=psS b (psS a m i) (i+a.length)
 |[],b,m,i=>by simp[psS]
 |p::r,b,m,i=>by rw[List.cons_append,psS,psS,Br r];simp;congr 1;omega
theorem DX{l:List (List UInt8)}{i:Nat}(h:i<l.length)(m:Scp):psS (l.take (i+1)) m 0=mw (psS (l.take i) m 0) l[i] i:=by
 rw[aw h,Br,psS,psS,List.length_take,Nat.min_eq_left (by omega),Nat.zero_add]
variable (G:az)
end
section
def pD(l:List Cd):List (List AV):=l.map λc=>c.cs.map .p
theorem Cd.cs_eq'(c:Cd):c.cs=[.int .i64 c.params,.int .i64 c.regs,bkL c.blocks]:=rfl
variable (G:az)
end
section
variable (G:az)
theorem uk(b:Bool):VF Tryz.prog G fJ [.p (.bool b)] (.p (.int .i64 (if b then 1 else 0))):=by
 refine AC.go rn ?_
 cases b<;>simp-implicitDefEqProofs[ky]
end
section
theorem oz:∀a b:List Sm,aZ (a++b)=aZ a+aZ b
 |[],b=>by simp[aZ]
 |s::r,b=>by rw[List.cons_append,aZ,aZ,oz r b,Nat.add_assoc]
theorem zK{l:List Sm}{i:Nat}(h:i<l.length):aZ (l.take (i+1))=aZ (l.take i)+CD l[i]:=by rw[aw h,oz,aZ,aZ];rfl
theorem yx(l:List Sm)(i:Nat):aZ (l.take i)<=aZ l:=by
 have:=oz (l.take i) (l.drop i)
 rw[List.take_append_drop] at this
 omega
variable (G:az)
theorem Fq:∀(k:Nat) (l:List Sm),aM l<=k->k<=1099511627776->VF Tryz.prog G dh [.p (smL l)] (.p (.int .i64 (aZ l))):=by
 intro k
 induction k with
 |zero=>
  intro l hl _
  have:l=[]:=by
   cases l with
   |nil=>rfl
   |cons s r=>have:=s.sz_eq;simp only[aM] at hl;omega
  subst this
  refine AC.go lI ?_
  have hsl:smL []= .lst 5 []:=rfl
  simp-implicitDefEqProofs[ir,hsl]
  refine aJ (λ_:Unit=>aA 35 [(0,.p (.lst 5 [])),(3,.p (.int .i64 0)),(4,.p (.int .i64 0))]) (λ_=>[]) (λ_=>True) (λ_=>0) () trivial (bp rfl (by simp[below])) ?_
  intro _ _
  simp-implicitDefEqProofs[aZ]
 |succ k ih=>
  intro l hl hk
  have hll:=dH l
  have hnz:=Nat.le_trans (jb l) (ij l)
  refine AC.go lI ?_
  have hsl:∀l,smL l= .lst 5 (l.map Sm.cs):=λ_=>rfl
  simp-implicitDefEqProofs[ir,hsl]
  refine aJ (λi:Nat=>aA 35 [(0,.p (smL l)),(3,.p (.int .i64 (aZ (l.take i)))),(4,.p (.int .i64 i))]) (λ_=>[]) (λi=>i<=l.length) (λi=>l.length-i) 0 (by simp) (bp rfl (by simp[below,hsl,aZ])) ?_
  intro i hi
  have k2:=yx l i
  simp-implicitDefEqProofs[hsl]
  refine aG (λh=>?_) (λh=>?_)
  ·simp at h
   have hg:=List.getElem?_eq_getElem h
   have hks:=nE (List.getElem_mem h)
   have hse:=l[i].sz_eq
   have hce:=l[i].cs_eq
   have k1:=zK h
   have k4:=yx l (i+1)
   have k5:=FQ l[i]
   have hb:=ih l[i].body (by omega) (by omega)
   have he:=ih l[i].els (by omega) (by omega)
   generalize l[i]=s at*
   generalize aZ (l.take i)=n at*
   obtain⟨n2,hn2⟩:∃n2,n2=aZ (l.take (i+1)):=⟨_,rfl⟩
   rw[←hn2] at k1 k4
   by_cases ho:s.op=1
   ·rw[if_pos ho] at k5
    simp-implicitDefEqProofs[hg,hce,ho]
    refine(uk G true).use ?_
    have w0':IntKind.i64.wrap ((n:Int)+1)=(n:Int)+1:=ag (by omega) (by omega)
    simp-implicitDefEqProofs[hg,hce,w0']
    refine hb.use ?_
    have w1':IntKind.i64.wrap ((n:Int)+1+(aZ s.body:Int))=(n:Int)+1+(aZ s.body:Int):=ag (by omega) (by omega)
    simp-implicitDefEqProofs[hg,hce,w1']
    refine he.use ?_
    have w2':IntKind.i64.wrap ((n:Int)+1+(aZ s.body:Int)+(aZ s.els:Int))=(n2:Int):=by rw[ag (by omega) (by omega)];omega
    simp-implicitDefEqProofs[w2']
    exact⟨i+1,h,by omega,bp rfl (by simp[below,hsl,←hn2,w1 (i:=i) (by omega)])⟩
   ·rw[if_neg ho] at k5
    simp-implicitDefEqProofs[hg,hce,ho]
    refine(uk G false).use ?_
    have w0':IntKind.i64.wrap (n:Int)=(n:Int):=ag (by omega) (by omega)
    simp-implicitDefEqProofs[hg,hce,w0']
    refine hb.use ?_
    have w1':IntKind.i64.wrap ((n:Int)+(aZ s.body:Int))=(n:Int)+(aZ s.body:Int):=ag (by omega) (by omega)
    simp-implicitDefEqProofs[hg,hce,w1']
    refine he.use ?_
    have w2':IntKind.i64.wrap ((n:Int)+(aZ s.body:Int)+(aZ s.els:Int))=(n2:Int):=by rw[ag (by omega) (by omega)];omega
    simp-implicitDefEqProofs[w2']
    exact⟨i+1,h,by omega,bp rfl (by simp[below,hsl,←hn2,w1 (i:=i) (by omega)])⟩
  ·simp at h
   rw[List.take_of_length_le h]
   simp-implicitDefEqProofs[]
section
variable {l:List Fd} {pr:Int} {L:Nat} {S I0 E:List Nat} {h:List AO} {w:Lw} {nx:Nat} {vs:Vs} {X:List AO} {K V:AV} {I:List Nat}
theorem GH(T:RS l pr L S I0 E h w nx vs X K V I)(hw:w.regs<=1073741824):
 AC Tryz.prog G bn [.ptr L 8 0 0] X λx h'=>x= .ret (.p (.int .i64 w.regs))/\∃K' I',RS l pr L S I0 E h w.reg nx vs h' K' V I'/\∀i∈E,h'[i]?=X[i]?:=
 (iV G T.stb.ls hw).mono λx h' ⟨a,b⟩=>⟨a,T.step (J:=[]) (λj hj=>by cases hj) (by rw[List.append_nil];exact b)⟩
theorem Iz(T:RS l pr L S I0 E h w nx vs X K V I){B:Nat}(hok:w.Ok B)(hB:B<=1073741824)(op to n:Int):
 AC Tryz.prog G bG [.ptr L 8 0 0,.p (.int .i64 op),.p (.int .i64 to),.p (.int .i64 n),.sl X.length 1 0 0] (X++[.row 1 []]) λr h'=>r= .ret (.p (.int .i64 to))/\∃K' I',RS l pr L S I0 E h (w.put ⟨op,to,[],n⟩) nx vs h' K' V I'/\∀i∈E,h'[i]?=X[i]?:=by
 obtain⟨f1,f2⟩:=T.fresh
 refine(mI G (T.stb.ls.more [.row 1 []]) hok hB ⟨op,to,[],n⟩ (fB X ([]:List Int) rfl) (by simp) f2).mono λr h' ⟨e,b⟩=>⟨e,?_⟩
 obtain⟨K2,I2,a1,a2⟩:=(T.more [_]).step f1 b
 exact⟨K2,I2,a1,λi hi=>(a2 i hi).trans (List.getElem?_append_left (T.at.1 i hi).1)⟩
theorem GP(T:RS l pr L S I0 E h w nx vs X K V I){B:Nat}(hok:w.Ok B)(j o:Int)(g:Nat){gI:Int}(hg:gI=(g:Int)):
 AC Tryz.prog G bi [.ptr L 8 0 0,.p (.int .i64 j),.p (.int .i64 o),.sl X.length 1 0 0,.p (.int .i64 gI)] (X++[.row 1 []]) λr h'=>r= .ret (.tup [])/\∃K' I',RS l pr L S I0 E h (w.fin j o g []) nx vs h' K' V I'/\∀i∈E,h'[i]?=X[i]?:=by
 obtain⟨f1,f2⟩:=T.fresh
 rw[hg]
 refine(kV G (T.stb.ls.more [.row 1 []]) hok j o g [] (fB X ([]:List Int) rfl) (by simp) f2).mono λr h' ⟨e,b⟩=>⟨e,?_⟩
 obtain⟨K2,I2,a1,a2⟩:=(T.more [_]).step f1 b
 exact⟨K2,I2,a1,λi hi=>(a2 i hi).trans (List.getElem?_append_left (T.at.1 i hi).1)⟩
theorem BY{n:Nat}(hg:X[L]?=some (.row 8 [[.p (fdL l),.p (.int .i64 pr),.p (.int .i64 n),.nils,.p (.int .i64 0),V,.p (.int .i64 nx),.nils]]))(hV:V.cells=[V]/\V.isCell=true):
 AC Tryz.prog G bH [.ptr L 8 0 0] X λr h'=>r= .ret (.p (.int .i64 0))/\∃K I,LS (lwR l pr V nx) L ⟨n,[bk0],0⟩ h' K I/\Frm [L] X h'/\∀j∈I,X.length<=j:=by
 have hLl:=(List.getElem?_eq_some_iff.1 hg).1
 obtain⟨v1,v2⟩:=hV
 have hgt:∀t,(X++t)[L]?=some (.row 8 [[.p (fdL l),.p (.int .i64 pr),.p (.int .i64 n),.nils,.p (.int .i64 0),V,.p (.int .i64 nx),.nils]]):=λt=>by rw[List.getElem?_append_left hLl];exact hg
 have hs3:∀t o,((X++t).set L o)[L]?=some o:=λt o=>List.getElem?_set_self (by simp;omega)
 refine AC.go gm ?_
 simp-implicitDefEqProofs[-AV.cells,-AV.isCell,aD,ae,ah,an,aj,aC,af,am,al,v1,v2,dD,hg,hgt, ↓hs3]
 have key:∀o1:AO,∃K I,LS (lwR l pr V nx) L ⟨n,[bk0],0⟩ ((X++[.row 2 [],.row 4 [],.row 1 [],o1,.row 5 [[.sl X.length 2 0 0,.sl (X.length+1) 4 0 0,.p (.int .i64 0),.p (.int .i64 0),.sl (X.length+2) 1 0 0]]]).set L (lwR l pr V nx ⟨n,[bk0],0⟩ (.sl (X.length+4) 5 0 1))) K I/\Frm [L] X ((X++[.row 2 [],.row 4 [],.row 1 [],o1,.row 5 [[.sl X.length 2 0 0,.sl (X.length+1) 4 0 0,.p (.int .i64 0),.p (.int .i64 0),.sl (X.length+2) 1 0 0]]]).set L (lwR l pr V nx ⟨n,[bk0],0⟩ (.sl (X.length+4) 5 0 1)))/\∀j∈I,X.length<=j:=λo1=>by
  obtain⟨H,hH⟩:∃H,H=((X++[.row 2 [],.row 4 [],.row 1 [],o1,.row 5 [[.sl X.length 2 0 0,.sl (X.length+1) 4 0 0,.p (.int .i64 0),.p (.int .i64 0),.sl (X.length+2) 1 0 0]]]).set L (lwR l pr V nx ⟨n,[bk0],0⟩ (.sl (X.length+4) 5 0 1))):=⟨_,rfl⟩
  have g:∀k,H[X.length+k]?=[AO.row 2 [],.row 4 [],.row 1 [],o1,.row 5 [[.sl X.length 2 0 0,.sl (X.length+1) 4 0 0,.p (.int .i64 0),.p (.int .i64 0),.sl (X.length+2) 1 0 0]]][k]?:=λk=>by
   rw[hH,List.getElem?_set_ne (by omega),List.getElem?_append_right (by omega)]
   rw[Nat.add_sub_cancel_left]
  rw[←hH]
  have hr:RowOwn false H (X.length+4) 5 [[.sl X.length 2 0 0,.sl (X.length+1) 4 0 0,.p (.int .i64 0),.p (.int .i64 0),.sl (X.length+2) 1 0 0]] [bk0.cs] [X.length,X.length+1,X.length+2]:=
   ⟨g 4,rfl,by simp,by simp[bk0,Bk.cs],by rw[List.flatten_singleton,List.flatten_singleton];exact BF (g 0) (g 1) (g 2),by simp⟩
  refine⟨_,_,⟨by rw[hH];exact List.getElem?_set_self (by simp;omega),hr.tree rfl,by simp;omega,λq e=>(by cases e),λkid n2 rows2 eK hg2 r hr2=>?_⟩,⟨by rw[hH];simp,λi hi hn=>?_⟩,λj hj=>?_⟩
  ·cases eK
   rw[hr.here] at hg2
   cases hg2
   rw[List.mem_singleton.1 hr2]
   intro q;simp
  ·rw[hH,List.getElem?_set_ne (λe=>hn (by simp[e])),List.getElem?_append_left hi]
  ·simp only[List.mem_cons,List.not_mem_nil,or_false] at hj
   omega
 have e:=key (.row 5 [[.sl X.length 2 0 0,.sl (X.length+1) 4 0 0,.p (.int .i64 0),.p (.int .i64 0),.sl (X.length+2) 1 0 0]])
 exact⟨ag (by omega) (by omega),e⟩
end
structure PvS where (i:Nat) (X:List AO)
theorem Gy{vs:Vs}{ps:List (List UInt8)}{i:Nat}(hi:i<ps.length)(hl:vs.length=i)(h:rgV vs=scF (-1) [psS (ps.take i) [] 0]):rgV (vs++[(ps[i],i)])=scF (-1) [psS (ps.take (i+1)) [] 0]:=by
 funext t
 simp only[rE,h,DX hi,scF,uV,mN]
 by_cases hst:ps[i]=t
 ·simp[hst]
 ·simp[hst]
theorem IL(l:List Fd)(hl:l.length<=1073741824)(k:Nat)(f:Fd)(hk:l[k]?=some f)(hz:f.sz<=16777216)(hf:∀x∈f.body,aO 4 x=true):AC Tryz.prog G gX [.agg [.p (fdL l)],.p (.int .i64 k)] [] (MkW .agg false (lwF l (-1) f).cs):=by
 have hfc:=f.cs_eq'
 have hfl:fdL l= .lst 3 (l.map Fd.cs):=rfl
 have hlk:=(List.getElem?_eq_some_iff.1 hk).1
 have hfz:f.sz=1+f.name.length+(f.params.length+(f.params.map List.length).sum)+aM f.body:=rfl
 have hst:bB f.params= .lst 1 (f.params.map λw=>[.str w]):=rfl
 have hlet:=Nat.le_trans (jb f.body) (ij f.body)
 refine AC.go yT ?_
 simp-implicitDefEqProofs[pt,hfl,hk,hfc,hst]
 rw[←hfl]
 refine(Fq G _ f.body (Nat.le_refl _) (by omega)).use ?_
 have hwl:IntKind.i64.wrap ((f.params.length:Int)+(aZ f.body:Int))=((f.params.length+aZ f.body:Nat):Int):=by rw[ag (by omega) (by omega)];omega
 simp-implicitDefEqProofs[hst,hwl]
 obtain⟨n,hn⟩:∃n:Nat,n=f.params.length+aZ f.body:=⟨_,rfl⟩
 have hnI:(f.params.length:Int)+(aZ f.body:Int)=n:=by omega
 rw[hnI]
 refine aJ (λa:PvS=>aA 80 [(4,.ptr 1 3 0 0),(5,.ptr 2 3 0 0),(6,.ptr 3 8 0 0),(7,.p (.int .i64 a.i))]) (λa=>a.X)
  (λa=>a.i<=f.params.length/\4<=a.X.length/\a.X[1]?=some (.row 3 [[.p (.int .i64 0),.p (.int .i64 0),.nils]])/\a.X[2]?=some (.row 3 [[.p (.str f.name),.p (.lst 1 (f.params.map λw=>[.str w])),.p (smL f.body)]])/\∃V vs,a.X[3]?=some (.row 8 [[.p (fdL l),.p (.int .i64 f.params.length),.p (.int .i64 n),.nils,.p (.int .i64 0),V,.p (.int .i64 f.params.length),.nils]])/\VAt a.X V vs/\(∀i∈vi V,4<=i)/\vs.length=a.i/\rgV vs=scF (-1) [psS (f.params.take a.i) [] 0]) (λa=>f.params.length-a.i)
  ⟨0,[.row 1 [[.p (fdL l)]],.row 3 [[.p (.int .i64 0),.p (.int .i64 0),.nils]],.row 3 [[.p (.str f.name),.p (.lst 1 (f.params.map λw=>[.str w])),.p (smL f.body)]],.row 8 [[.p (fdL l),.p (.int .i64 f.params.length),.p (.int .i64 n),.nils,.p (.int .i64 0),.nils,.p (.int .i64 f.params.length),.nils]]]⟩ ⟨Nat.zero_le _,by simp,rfl,rfl,.nils,[],rfl,.nil,(λi hi=>by cases hi),rfl,rfl⟩ ?_ ?_
 ·exact ab (by simp) (by simp[below])
 rintro⟨i,X⟩ ⟨hi,hX4,hx1,hx2,V,vs,hx3,hV,hVi,hvl,hrg⟩
 simp only at hi hX4 hx1 hx2 hx3 hV hvl hrg
 obtain⟨v1,v2,v3⟩:=hV.is
 simp-implicitDefEqProofs[hx2]
 refine aG (λhc=>?_) (λhc=>?_)
 ·simp at hc
  have hg:=List.getElem?_eq_getElem hc
  have hrg2:=Gy hc hvl hrg
  generalize f.params[i]=p at hg hrg2
  have hwi:=w1 (i:=i) (by omega)
  have hX2m:∀t,(X++t)[2]?=some (.row 3 [[.p (.str f.name),.p (.lst 1 (f.params.map λw=>[.str w])),.p (smL f.body)]]):=λt=>by rw[List.getElem?_append_left (by omega)];exact hx2
  cases hV with
  |nil=>
   have hvi:i=0:=hvl.symm
   subst hvi
   have hX3m:∀t,(X++t)[3]?=some (.row 8 [[.p (fdL l),.p (.int .i64 f.params.length),.p (.int .i64 n),.nils,.p (.int .i64 0),.nils,.p (.int .i64 f.params.length),.nils]]):=λt=>by rw[List.getElem?_append_left (by omega)];exact hx3
   simp-implicitDefEqProofs[hx2,hx3,hg,hX3m,hX2m]
   have hw11:IntKind.i64.wrap 1=1:=ag (by omega) (by omega)
   refine⟨⟨1,_⟩,⟨by simp only;omega,?_,?_,?_,.sl X.length 3 0 1,?_,[(p,0)],?_,?_,rfl,by simpa using hrg2⟩,by simp only;omega,ab ?_ ?_⟩
   rotate_left 6
   ·exact Nat.zero_le _
   ·simp[below,hw11]
    omega
   ·simp;omega
   ·rw[List.getElem?_set_ne (by omega),List.getElem?_append_left (by omega)];exact hx1
   ·rw[List.getElem?_set_ne (by omega),List.getElem?_append_left (by omega)];exact hx2
   ·exact List.getElem?_set_self (by simp;omega)
   ·exact .sl _ [mz (p,0)] [(p,0)] (by rw[List.getElem?_set_ne (by omega),List.getElem?_append_right (Nat.le_refl _)];simp[mz]) rfl
   ·intro j hj;rw[List.mem_singleton.1 hj];exact hX4
  |sl vid rows _ hv1 hv2=>
   have hvX:=(List.getElem?_eq_some_iff.1 hv1).1
   have hv4:=hVi vid (by simp[vi])
   have hvk:vs.length<=rows.length:=by
    have:=congrArg List.length hv2
    rw[List.length_take,List.length_map] at this
    omega
   have hX3m:∀t,(X.set vid .dead++t)[3]?=X[3]?:=λt=>by rw[List.getElem?_append_left (by simp;omega),List.getElem?_set_ne (by omega)]
   have hX2n:∀t,(X.set vid .dead++t)[2]?=X[2]?:=λt=>by rw[List.getElem?_append_left (by simp;omega),List.getElem?_set_ne (by omega)]
   simp-implicitDefEqProofs[hx2,hx3,hg,hv1,hv2, ↓hX3m, ↓hX2n,hwi]
   refine⟨⟨by omega,by omega⟩,⟨i+1,_⟩,⟨by simp only;omega,?_,?_,?_,.sl X.length 3 0 (vs.length+1),?_,vs++[(p,i)],?_,?_,by simp;omega,hrg2⟩,by simp only;omega,ab ?_ ?_⟩
   rotate_left 6
   ·exact Nat.zero_le _
   ·simp[below,hwi]
    omega
   ·simp;omega
   ·rw[List.getElem?_set_ne (by omega),List.getElem?_append_left (by simp;omega),List.getElem?_set_ne (by omega)];exact hx1
   ·rw[List.getElem?_set_ne (by omega),List.getElem?_append_left (by simp;omega),List.getElem?_set_ne (by omega)];exact hx2
   ·exact List.getElem?_set_self (by simp;omega)
   ·have hlv:(vs++[(p,i)]).length=vs.length+1:=by simp
    exact hlv▸ .sl _ (vs.map mz++[mz (p,i)]) (vs++[(p,i)]) (by rw[List.getElem?_set_ne (by omega),List.getElem?_append_right (by simp)];simp[mz]) (by rw[List.take_of_length_le (by simp)];simp)
   ·intro j hj;rw[List.mem_singleton.1 hj];exact hX4
 ·simp at hc
  have hie:i=f.params.length:=by omega
  subst hie
  rw[List.take_length] at hrg
  simp-implicitDefEqProofs[]
  refine(BY G hx3 ⟨v1,v2⟩).mono ?_
  rintro x X1 ⟨rfl,K1,I1,H1,hfr,hI1⟩
  have hl1:=hfr.1
  have va1:VAt X1 V vs:=hV.frame λi hi=>hfr.2 i (hV.lt i hi) (by have:=hVi i hi;simp;omega)
  have T1':=RS.of H1 va1 (λi hi=>by
   have h4:=hVi i hi
   have h5:=hV.lt i hi
   simp only[List.mem_cons,not_or]
   exact⟨by omega,λhm=>by have:=hI1 i hm;omega⟩)
  have T1:=T1'.add (j:=1) (by omega) (by
   simp only[List.mem_cons,not_or]
   exact⟨by omega,λhm=>by have:=hI1 1 hm;omega⟩) (λhm=>by have:=hVi 1 hm;omega)
  have b1:X1[1]?=some (.row 3 [[.p (.int .i64 0),.p (.int .i64 0),.nils]]):=(hfr.2 1 (by omega) (by simp)).trans hx1
  have b2:X1[2]?=some (.row 3 [[.p (.str f.name),.p (.lst 1 (f.params.map λw=>[.str w])),.p (smL f.body)]]):=(hfr.2 2 (by omega) (by simp)).trans hx2
  have ok1:(⟨n,[bk0],0⟩:Lw).Ok (f.sz+1):=⟨by show n<=_;omega,by show 1<=_;omega,λb hb=>by rw[List.mem_singleton.1 hb];show 0<=_;omega,by show 0<1;omega⟩
  simp-implicitDefEqProofs[aa,b2]
  obtain⟨y,hy⟩:∃y,y=aU (faI l) (-1) f.body (psS f.params [] 0) [] f.params.length ⟨n,[bk0],0⟩:=⟨_,rfl⟩
  have h2:=pU G (FD G l hl f.params.length 3 4 f.body hf) T1 ok1 (by omega) (by omega) (by omega) hrg
  have ok2:=dR (faI l) (-1) f.body (psS f.params [] 0) [] f.params.length ⟨n,[bk0],0⟩ _ ok1
  rw[←hy] at h2 ok2
  refine h2.mono ?_
  rintro x X2 ⟨rfl,K2,V2,I2,T2,e2⟩
  obtain⟨ok2,_,_,_⟩:=ok2
  have b1:=(e2 1 (by simp)).trans b1
  simp-implicitDefEqProofs[aa]
  refine(GH G T2 (by have:=ok2.regs;omega)).mono ?_
  rintro x X3 ⟨rfl,K3,I3,T3,e3⟩
  have b1:=(e3 1 (by simp)).trans b1
  have ok3:=ok2.reg
  simp-implicitDefEqProofs[aa]
  refine(Iz G T3 ok3 (by omega) 1 y.2.2.regs 0).mono ?_
  rintro x X4 ⟨rfl,K4,I4,T4,e4⟩
  have b1:=(e4 1 (by simp)).trans b1
  have ok4:=ok3.put ⟨1,y.2.2.regs,[],0⟩
  simp-implicitDefEqProofs[aa]
  refine(GP G T4 ok4 3 y.2.2.regs 0 rfl).mono ?_
  rintro x X5 ⟨rfl,K5,I5,T5,e5⟩
  have b1:=(e5 1 (by simp)).trans b1
  have l5:=T5.stb.ls.here
  simp only[lwR] at l5
  obtain⟨k1,k2⟩:=jr T5.stb.ls.own
  have hs1:∀o,(X5.set 1 o)[1]?=some o:=λo=>List.getElem?_set_self (T5.at.1 1 (by simp)).1
  simp-implicitDefEqProofs[-AV.cells,-AV.isCell,aD,ae,ah,an,aj,aC,af,am,al,k1,k2,aa,l5,b1, ↓hs1]
  have hres:lwF l (-1) f=⟨f.params.length,((y.2.2.reg.put ⟨1,y.2.2.regs,[],0⟩).fin 3 y.2.2.regs 0 []).regs,((y.2.2.reg.put ⟨1,y.2.2.regs,[],0⟩).fin 3 y.2.2.regs 0 []).bs⟩:=by
   rw[lwF,←hn,←hy];rfl
  rw[hres]
  refine⟨_,I5,rfl,.p _ (λ_=>rfl) (.p _ (λ_=>rfl) (T5.stb.ls.own.frame λi hi=>List.getElem?_set_ne λe=>(T5.at.1 1 (by simp)).2 (by rw[e];exact List.mem_cons_of_mem _ hi))),(List.nodup_cons.1 T5.stb.ls.nd).2⟩
theorem FI(l:List Fd)(hl:l.length<=1073741824)(k:Nat)(f:Fd)(hk:l[k]?=some f)(hz:f.sz<=16777216)(hf:∀x∈f.body,aO 4 x=true):VF Tryz.prog G gX [.agg [.p (fdL l)],.p (.int .i64 k)] (.agg ((lwF l (-1) f).cs.map .p)):=
 AC.mkFreeze pT (IL G l hl k f hk hz hf)
def unR(l:List Fd):List Cd:=l.map (lwF l (-1))
structure UnS where (i:Nat) (X:List AO)
theorem DC(l:List Fd)(hz:cg l<=16777216)(hf:∀f∈l,∀x∈f.body,aO 4 x=true):VF Tryz.prog G eP [.agg [.p (fdL l)]] (.agg [.p (cdL (unR l))]):=by
 have hfl:fdL l= .lst 3 (l.map Fd.cs):=rfl
 have hll:l.length<=cg l:=mV l
 have key:AC Tryz.prog G eP [.agg [.p (fdL l)]] [] λx h=>∃V,x= .ret (.agg [V])/\((V= .nils/\l=[])\/∃id,V= .sl id 3 0 l.length/\h[id]?=some (.row 3 (pD (unR l)))):=by
  refine AC.go tq ?_
  simp-implicitDefEqProofs[lz]
  refine aJ (λa:UnS=>aA 22 [(1,.ptr 0 1 0 0),(2,.ptr 1 1 0 0),(3,.ptr 2 1 0 0),(4,.p (.int .i64 a.i))]) (λa=>a.X)
   (λa=>a.i<=l.length/\3<=a.X.length/\a.X[0]?=some (.row 1 [[.p (fdL l)]])/\a.X[1]?=some (.row 1 [[.nils]])/\∃V,a.X[2]?=some (.row 1 [[V]])/\((V= .nils/\a.i=0)\/∃id,V= .sl id 3 0 a.i/\3<=id/\a.X[id]?=some (.row 3 (pD (unR l|>.take a.i))))) (λa=>l.length-a.i)
   ⟨0,[.row 1 [[.p (fdL l)]],.row 1 [[.nils]],.row 1 [[.nils]]]⟩ ⟨Nat.zero_le _,by simp,rfl,rfl,.nils,rfl,.inl ⟨rfl,rfl⟩⟩ ?_ ?_
  ·exact ab (by simp) (by simp[below])
  rintro⟨i,X⟩ ⟨hi,hX3,hx0,hx1,V,hx2,hV⟩
  simp only at hi hX3 hx0 hx1 hx2 hV
  simp-implicitDefEqProofs[hx0,hfl]
  refine aG (λhc=>?_) (λhc=>?_)
  ·simp at hc
   have hg:=List.getElem?_eq_getElem hc
   have hm:=List.getElem_mem hc
   have hfz:=nX hm
   have hcall:=FI G l (by omega) i l[i] hg (by omega) (hf _ hm)
   have htk:(unR l).take (i+1)=(unR l).take i++[lwF l (-1) l[i]]:=by
    rw[unR,←List.map_take,←List.map_take,aw hc,List.map_append];rfl
   have hcs:=(lwF l (-1) l[i]).cs_eq'
   have hlt:((unR l).take i).length=i:=by simp[unR];omega
   have hwi:=w1 (i:=i) (by omega)
   generalize lwF l (-1) l[i]=c at hcall htk hcs
   rw[hcs] at hcall
   rw[hfl] at hcall
   have hX2:∀t,(X++t)[2]?=some (.row 1 [[V]]):=λt=>by rw[List.getElem?_append_left (by omega)];exact hx2
   rcases hV with⟨rfl,rfl⟩|⟨id,rfl,hid,hxi⟩
   ·simp-implicitDefEqProofs[hx2,hx0,hfl]
    refine hcall.use ?_
    simp-implicitDefEqProofs[hx2,hX2]
    have hw11:IntKind.i64.wrap 1=1:=ag (by omega) (by omega)
    refine⟨⟨1,_⟩,⟨by simp only;omega,?_,?_,?_,.sl (X.length+1) 3 0 1,?_,.inr ⟨X.length+1,rfl,by omega,?_⟩⟩,by simp only;omega,ab ?_ ?_⟩
    rotate_left 5
    ·exact Nat.zero_le _
    ·simp[below,hw11];omega
    ·simp;omega
    ·rw[List.getElem?_set_ne (by omega),List.getElem?_append_left (by omega)];exact hx0
    ·rw[List.getElem?_set_ne (by omega),List.getElem?_append_left (by omega)];exact hx1
    ·exact List.getElem?_set_self (by simp;omega)
    ·rw[htk,List.getElem?_set_ne (by omega),List.getElem?_append_right (by omega)]
     simp[pD,hcs]
   ·have hiX:=(List.getElem?_eq_some_iff.1 hxi).1
    have hX2n:∀t u,((X++t).set id .dead++u)[2]?=X[2]?:=λt u=>by rw[List.getElem?_append_left (by simp;omega),List.getElem?_set_ne (by omega),List.getElem?_append_left (by omega)]
    have hxim:∀t,(X++t)[id]?=some (.row 3 (pD (List.take i (unR l)))):=λt=>by rw[List.getElem?_append_left hiX];exact hxi
    have htl:List.take i (pD (List.take i (unR l)))=pD (List.take i (unR l)):=List.take_of_length_le (by simp[pD];omega)
    have hcl:(pD (List.take i (unR l))).length=i:=by simp only[pD,List.length_map];exact hlt
    simp-implicitDefEqProofs[hx2,hx0,hfl]
    refine hcall.use ?_
    simp-implicitDefEqProofs[hx2,hX2,hxi,hxim, ↓hX2n,htl,hcl,hwi]
    refine⟨⟨by omega,by omega⟩,⟨i+1,_⟩,⟨by simp only;omega,?_,?_,?_,.sl (X.length+1) 3 0 (i+1),?_,.inr ⟨X.length+1,rfl,by omega,?_⟩⟩,by simp only;omega,ab ?_ ?_⟩
    rotate_left 5
    ·exact Nat.zero_le _
    ·simp[below,hwi];omega
    ·simp;omega
    ·rw[List.getElem?_set_ne (by omega),List.getElem?_append_left (by simp),List.getElem?_set_ne (by omega),List.getElem?_append_left (by omega)];exact hx0
    ·rw[List.getElem?_set_ne (by omega),List.getElem?_append_left (by simp;omega),List.getElem?_set_ne (by omega),List.getElem?_append_left (by omega)];exact hx1
    ·exact List.getElem?_set_self (by simp;omega)
    ·rw[htk,List.getElem?_set_ne (by omega),List.getElem?_append_right (by simp)]
     simp[pD,hcs]
  ·simp at hc
   have hie:i=l.length:=by omega
   subst hie
   have hx1s:∀o,(X.set 1 o)[1]?=some o:=λo=>List.getElem?_set_self (by omega)
   have hul:(unR l).take l.length=unR l:=List.take_of_length_le (by simp[unR])
   rw[hul] at hV
   rcases hV with⟨rfl,h0⟩|⟨id,rfl,hid,hxi⟩
   ·simp-implicitDefEqProofs[hx2,hx1, ↓hx1s]
    exact List.length_eq_zero_iff.1 h0
   ·simp-implicitDefEqProofs[hx2,hx1, ↓hx1s]
    rw[List.getElem?_set_ne (by omega)]
    exact hxi
 refine key.freezeR (λt v h ⟨V,e,_⟩=>by cases e) ?_
 rintro v h ⟨V,e,hV⟩
 cases e
 refine .agg ?_ .nil
 rcases hV with⟨rfl,rfl⟩|⟨id,rfl,hid⟩
 ·exact .one (View.nils 3) .nil
 ·have hh:pD (unR l)=((unR l).map Cd.cs).map (·.map .p):=by simp[pD]
  rw[hh] at hid
  have:=eg (n:=l.length) hid (by simp[unR]) (λx hx=>by obtain⟨b,_,rfl⟩:=List.mem_map.1 hx;rfl)
  exact .one this .nil
end
section
theorem zY{d:Nat}{e:Ex}(h:bK (d+1) e=true):(∀a∈e.kids,bK d a=true)/\(e.op=1\/e.op=2->e.kids=[])/\(e.op=10->∃a b,e.kids=[a,b]):=by
 rw[bK,Bool.and_eq_true] at h
 refine⟨λa ha=>List.all_eq_true.1 h.2 a ha,λho=>?_,λho=>?_⟩
 ·have h:=h.1
  simp only[kH,Bool.and_eq_true,inR,decide_eq_true_eq] at h
  obtain⟨⟨⟨⟨⟨_,h2⟩,_⟩,_⟩,_⟩,_⟩:=h
  rw[loK,if_pos ho,hiK,if_pos ho] at h2
  exact List.length_eq_zero_iff.1 (by omega)
 ·have h:=h.1
  simp only[kH,Bool.and_eq_true,inR,decide_eq_true_eq] at h
  obtain⟨⟨⟨⟨⟨_,h2⟩,_⟩,_⟩,_⟩,_⟩:=h
  rw[ho,show loK 10=2 from rfl,show hiK 10=2 from rfl] at h2
  match e.kids,h2 with
  |[a,b],_=>exact⟨a,b,rfl⟩
  |[],h=>simp at h
  |[_],h=>simp at h
  |_::_::_::r,h=>simp only[List.length_cons] at h;omega
theorem Fh{d:Nat}{s:Sm}(h:aO (d+1) s=true):(∀a∈s.args,bK 6 a=true)/\(∀x∈s.body,aO d x=true)/\(∀x∈s.els,aO d x=true)/\(s.op=6->∃a,s.args=[a])/\(¬s.op=5->s.els=[])/\(¬s.op=5->¬s.op=6->s.body=[]):=by
 rw[aO,Bool.and_eq_true,Bool.and_eq_true] at h
 obtain⟨⟨hh,hb⟩,he⟩:=h
 simp only[fv,Bool.and_eq_true,List.all_eq_true,Bool.or_eq_true,decide_eq_true_eq,List.isEmpty_iff] at hh
 refine⟨λa ha=>?_,λx hx=>List.all_eq_true.1 hb x hx,λx hx=>List.all_eq_true.1 he x hx,λh6=>?_,λh5=>?_,λh5 h6=>?_⟩
 ·have:=hh.1.1.1.2 a ha
  rw[pM,Bool.and_eq_true] at this
  exact this.1
 ·have h1:=hh.1.1.1.1.1.1.2
  rw[jG,if_neg (by omega)] at h1
  exact List.length_eq_one_iff.1 h1
 ·rcases hh.1.2 with h|h
  ·exact h
  ·exact(h5 h).elim
 ·rcases hh.2 with(h|h)|h
  ·exact h
  ·exact(h5 h).elim
  ·exact(h6 h).elim
end
section
theorem jC{s:List UInt8}(h:ce s=true):s.length<=4:=by
 simp only[ce,Bool.and_eq_true,decide_eq_true_eq] at h
 exact h.1.2
theorem zF{e:Ex}(h:kH e=true):e.name.length<=4:=by
 simp only[kH,Bool.and_eq_true] at h
 have h1:=h.1.1.1.2
 have h2:=h.1.1.2
 cases hn:Ag e.op with
 |true=>
  rw[hn] at h1
  exact jC (by simpa using h1)
 |false=>
  rw[hn] at h2
  have:e.name=[]:=by simpa using h2
  rw[this];simp
theorem AE{l:List Ex}(h:∀e∈l,e.sz<=5*e.parts):aP l<=5*iy l:=by
 induction l with
 |nil=>simp[aP]
 |cons e r ih=>
  have h1:=h e (by simp)
  have h2:=ih λx hx=>h x (by simp[hx])
  simp only[aP,iy]
  omega
theorem Ey:∀(d:Nat) (e:Ex),bK d e=true->e.sz<=5*e.parts:=by
 intro d
 induction d with
 |zero=>intro e h;cases h
 |succ d ih=>
  intro e h
  have hk:=(zY h).1
  rw[bK,Bool.and_eq_true] at h
  have hn:=zF h.1
  have hz:=AE (l:=e.kids) λa ha=>ih a (hk a ha)
  rw[e.sz_eq,e.parts_eq]
  omega
theorem FL{e:Ex}(h:pM e=true):e.sz<=150:=by
 simp only[pM,Bool.and_eq_true,decide_eq_true_eq] at h
 have:=Ey 6 e h.1
 omega
theorem rz:∀{l:List Ex},(∀e∈l,e.sz<=150)->aP l<=150*l.length
 |[],_=>by simp[aP]
 |e::r,h=>by
  have h1:=h e (by simp)
  have h2:=rz (l:=r) λx hx=>h x (by simp[hx])
  simp only[aP,List.length_cons]
  omega
theorem Dr{s:Sm}(h:fv s=true):s.name.length<=4/\aP s.args<=300:=by
 simp only[fv,Bool.and_eq_true] at h
 have ha:=h.1.1.1.2
 have hl:=h.1.1.1.1.1.1.2
 have h1:=h.1.1.1.1.1.2
 have h2:=h.1.1.1.1.2
 refine⟨?_,?_⟩
 ·cases hn:vn s.op with
  |true=>
   rw[hn] at h1
   exact jC (by simpa using h1)
  |false=>
   rw[hn] at h2
   have:s.name=[]:=by simpa using h2
   rw[this];simp
 ·have:=rz (l:=s.args) λe he=>FL (List.all_eq_true.1 ha e he)
  have hl2:s.args.length<=2:=by
   simp only[decide_eq_true_eq] at hl
   rw[hl,jG];split<;>omega
  omega
theorem sB{l:List Sm}(h:∀s∈l,s.sz<=305*s.cnt):aM l<=305*cx l:=by
 induction l with
 |nil=>simp[aM]
 |cons e r ih=>
  have h1:=h e (by simp)
  have h2:=ih λx hx=>h x (by simp[hx])
  simp only[aM,cx]
  omega
theorem ET:∀(d:Nat) (s:Sm),aO d s=true->s.sz<=305*s.cnt:=by
 intro d
 induction d with
 |zero=>intro e h;cases h
 |succ d ih=>
  intro s h
  obtain⟨_,hb,he,_⟩:=Fh h
  rw[aO,Bool.and_eq_true,Bool.and_eq_true] at h
  obtain⟨hn,ha⟩:=Dr h.1.1
  have h1:=sB (l:=s.body) λx hx=>ih x (hb x hx)
  have h2:=sB (l:=s.els) λx hx=>ih x (he x hx)
  rw[s.sz_eq,s.cnt_eq]
  omega
theorem BT:∀{l:List (List UInt8)},(∀w∈l,w.length<=4)->(l.map List.length).sum<=4*l.length
 |[],_=>by simp
 |w::r,h=>by
  have h1:=h w (by simp)
  have h2:=BT (l:=r) λx hx=>h x (by simp[hx])
  simp only[List.map_cons,List.sum_cons,List.length_cons]
  omega
theorem GO{f:Fd}(h:kw f=true):f.sz<=20+305*cx f.body:=by
 simp only[kw,Bool.and_eq_true,decide_eq_true_eq,List.all_eq_true] at h
 obtain⟨⟨⟨hp,hn⟩,h3⟩,hb⟩:=h
 have h1:=jC hn
 have h2:=BT (l:=f.params) λw hw=>jC (hp w hw)
 have h4:=sB (l:=f.body) λx hx=>ET 4 x (hb x hx)
 rw[Fd.sz]
 omega
theorem ro:∀{l:List Fd},(∀f∈l,kw f=true)->cg l<=20*l.length+305*oN l
 |[],_=>by simp[cg]
 |f::r,h=>by
  have h1:=GO (h f (by simp))
  have h2:=ro (l:=r) λx hx=>h x (by simp[hx])
  simp only[cg,oN,List.map_cons,List.sum_cons,List.length_cons] at h2⊢
  omega
theorem vh{l:List Fd}(h:cA l=true):cg l<=12280:=by
 rw[mr] at h
 obtain⟨⟨_,h4⟩,hf,hn⟩:=h
 have:=ro hf
 omega
theorem yU{l:List Fd}(h:cA l=true):∀f∈l,∀x∈f.body,aO 4 x=true:=λf hf x hx=>by
 rw[mr] at h
 have h1:=h.2.1 f hf
 simp only[kw,Bool.and_eq_true,List.all_eq_true] at h1
 exact h1.2 x hx
def Lw.Ar(A:Nat)(w:Lw):Prop:=∀b∈w.bs,b.phis=[]/\b.next.length<=2/\∀x∈b.ins,x.args.length<=A
theorem yR{f:Bk->Bk}{l:List Bk}{i:Nat}{b:Bk}(h:b∈modB f l i):b∈l\/∃c∈l,b=f c:=by
 unfold modB at h
 split at h
 ·rename_i c hc
  rcases List.mem_or_eq_of_mem_set h with h|h
  ·exact .inl h
  ·exact .inr ⟨c,List.mem_of_getElem? hc,h⟩
 ·exact .inl h
theorem Lw.Ar.put{A:Nat}{w:Lw}(H:w.Ar A){x:Ii}(hx:x.args.length<=A):(w.put x).Ar A:=λb hb=>by
 rcases yR hb with h|⟨c,hc,rfl⟩
 ·exact H b h
 ·obtain⟨h1,h2,h3⟩:=H c hc
  refine⟨h1,h2,λy hy=>?_⟩
  rcases List.mem_append.1 hy with h|h
  ·exact h3 y h
  ·rw[List.mem_singleton.1 h];exact hx
theorem Lw.Ar.mk'{A:Nat}{w:Lw}(H:w.Ar A){op n:Int}{args:List Int}(hx:args.length<=A):(w.mk' op n args).Ar A:=Lw.Ar.put (w:=w.reg) H hx
theorem Lw.Ar.name{A:Nat}{w:Lw}(H:w.Ar A)(n:Nat):(w.name n).Ar A:=λb hb=>by
 rcases List.mem_append.1 hb with h|h
 ·exact H b h
 ·rw[(List.mem_replicate.1 h).2];simp[bk0]
theorem Lw.Ar.fin{A:Nat}{w:Lw}(H:w.Ar A){j o:Int}{g:Nat}{nx:List Int}(hx:nx.length<=2):(w.fin j o g nx).Ar A:=λb hb=>by
 rcases yR hb with h|⟨c,hc,rfl⟩
 ·exact H b h
 ·obtain⟨h1,h2,h3⟩:=H c hc
  exact⟨h1,hx,h3⟩
mutual
theorem uW(fa sc:List UInt8->Int){A:Nat}(hA:1<=A):∀(e:Ex) (w:Lw),w.Ar A->e.sz<=A->(lwE fa sc e w).2.Ar A
 | .mk o n s ks,w,H,hz=>by
   simp only[Ex.sz] at hz
   have hkl:=eX ks
   rw[lwE]
   split
   ·exact H.mk' (by simp)
   split
   ·exact H
   split
   ·exact HP fa sc hA ks w H (by omega)
   ·refine(vl fa sc hA ks w H (by omega)).mk' ?_
    rw[fS];omega
theorem HP(fa sc:List UInt8->Int){A:Nat}(hA:1<=A):∀(l:List Ex) (w:Lw),w.Ar A->aP l<=A->(lwA fa sc l w).2.Ar A
 |[],w,H,_=>by rw[lwA];exact H;intro a b h;cases h
 |[a],w,H,_=>by rw[lwA];exact H;intro a b h;cases h
 |a::b::c::r,w,H,_=>by rw[lwA];exact H;intro a b h;cases h
 |[a,b],w,H,hz=>by
  simp only[aP] at hz
  have h1:=uW fa sc hA a w H (by omega)
  rw[lwA]
  simp only
  have h2:=((h1.mk' (op:=1) (n:=0) (args:=[]) (by simp)).name 2).fin (j:=2) (o:=(lwE fa sc a w).1) (g:=((lwE fa sc a w).2.mk' 1 0 []).bs.length) (nx:=[(((lwE fa sc a w).2.mk' 1 0 []).bs.length:Int),(((lwE fa sc a w).2.mk' 1 0 []).bs.length:Int)+1]) (by simp)
  exact(((uW fa sc hA b _ h2 (by omega)).mk' (by simpa using hA)).put (by simpa using hA)).fin (by simp)
theorem vl(fa sc:List UInt8->Int){A:Nat}(hA:1<=A):∀(l:List Ex) (w:Lw),w.Ar A->aP l<=A->(bv fa sc l w).2.Ar A
 |[],w,H,_=>by rw[bv];exact H
 |e::r,w,H,hz=>by
  simp only[aP] at hz
  rw[bv]
  exact vl fa sc hA r _ (uW fa sc hA e w H (by omega)) (by omega)
end
mutual
theorem IK(fa:List UInt8->Int)(q:Int){A:Nat}(hA:1<=A):∀(s:Sm) (m:Scp) (up:List Scp) (nx:Nat) (w:Lw),w.Ar A->s.sz<=A->(lwS fa q s m up nx w).2.2.Ar A
 | .mk o n a bd el,m,up,nx,w,H,hz=>by
   simp only[Sm.sz] at hz
   have hhd:=zq a
   have hal:=eX a
   rw[lwS]
   simp only
   split
   ·have h1:=uW fa (scF q (m::up)) hA (a.headD (.mk 0 0 [] [])) _ ((H.name 3).fin (j:=1) (o:=0) (g:=w.bs.length) (nx:=[(w.bs.length:Int)]) (by simp)) (by omega)
    exact(nT fa q hA bd [] (m::up) nx _ (h1.fin (by simp)) (by omega)).fin (by simp)
   ·have h1:=vl fa (scF q (m::up)) hA a w H (by omega)
    have hl:(bv fa (scF q (m::up)) a w).1.length<=A:=by rw[fS];omega
    split
    ·exact h1.put hl
    split
    ·exact h1.put hl
    split
    ·exact h1.put hl
    split
    ·exact h1.put hl
    split
    ·exact(nT fa q hA el [] (m::up) _ _ ((nT fa q hA bd [] (m::up) nx _ ((h1.name 3).fin (by simp)) (by omega)).fin (by simp)) (by omega)).fin (by simp)
    split
    ·exact(h1.name 1).fin (by simp)
    ·exact h1
theorem nT(fa:List UInt8->Int)(q:Int){A:Nat}(hA:1<=A):∀(l:List Sm) (m:Scp) (up:List Scp) (nx:Nat) (w:Lw),w.Ar A->aM l<=A->(aU fa q l m up nx w).2.2.Ar A
 |[],m,up,nx,w,H,_=>by rw[aU];exact H
 |s::r,m,up,nx,w,H,hz=>by
  simp only[aM] at hz
  rw[aU]
  exact nT fa q hA r _ up _ _ (IK fa q hA s m up nx w H (by omega)) (by omega)
end
theorem Gz(l:List Fd)(q:Int)(f:Fd)(hz:f.sz<=16777216):HI 1073741824 (lwF l q f)/\0<=(lwF l q f).regs/\(lwF l q f).regs<=1073741824/\0<(lwF l q f).blocks.length:=by
 have hfz:f.sz=1+f.name.length+(f.params.length+(f.params.map List.length).sum)+aM f.body:=rfl
 have hlet:=Nat.le_trans (jb f.body) (ij f.body)
 have hok:(⟨f.params.length+aZ f.body,[bk0],0⟩:Lw).Ok (f.sz+1):=⟨by show f.params.length+aZ f.body<=_;omega,by show 1<=_;omega,λb hb=>by rw[List.mem_singleton.1 hb];show 0<=_;omega,by show 0<1;omega⟩
 have har:(⟨f.params.length+aZ f.body,[bk0],0⟩:Lw).Ar 16777217:=λb hb=>by rw[List.mem_singleton.1 hb];simp[bk0]
 obtain⟨h1,h2,_,_⟩:=dR (faI l) q f.body (psS f.params [] 0) [] f.params.length _ _ hok
 have h3:=nT (faI l) q (A:=16777217) (by omega) f.body (psS f.params [] 0) [] f.params.length _ har (by omega)
 rw[lwF]
 simp only
 generalize aU (faI l) q f.body (psS f.params [] 0) [] f.params.length _=y at*
 have k1:=(h1.mk' 1 0 []).fin 3 y.2.2.regs (g:=0) (by
  have:=h1.pos
  rw[Lw.mk'_len];omega) []
 have k3:=(h3.mk' (op:=1) (n:=0) (args:=[]) (by simp)).fin (j:=3) (o:=y.2.2.regs) (g:=0) (nx:=[]) (by simp)
 refine⟨⟨by have:=k1.bs;show((y.2.2.mk' 1 0 []).fin 3 y.2.2.regs 0 []).bs.length<=_;omega,λb hb=>?_⟩,by show(0:Int)<=((y.2.2.mk' 1 0 []).regs:Int);omega,by have:=k1.regs;show((y.2.2.mk' 1 0 []).regs:Int)<=_;have h:((y.2.2.mk' 1 0 []).fin 3 y.2.2.regs 0 []).regs=(y.2.2.mk' 1 0 []).regs:=rfl;omega,by have:=k1.pos;show 0<((y.2.2.mk' 1 0 []).fin 3 y.2.2.regs 0 []).bs.length;omega⟩
 obtain⟨a1,a2,a3⟩:=k3 b hb
 have a4:=k1.ins b hb
 exact⟨by rw[a1];simp,by omega,by omega,by rw[a1];simp,λx hx=>by have:=a3 x hx;omega⟩
theorem uc:∀{l:List Fd} {f:Fd},f∈l->f.sz<=cg l
 |x::r,f,h=>by
  simp only[cg,List.map_cons,List.sum_cons]
  rcases List.mem_cons.1 h with rfl|h
  ·omega
  ·have:=uc h
   simp only[cg] at this
   omega
theorem Gv(l:List Fd)(q:Int)(hz:cg l<=16777216)(hl:l.length<=1073741824):Ih 1073741824 (l.map (lwF l q)):=
 ⟨by rw[List.length_map];exact hl,λc hc=>by
   obtain⟨f,hf,rfl⟩:=List.mem_map.1 hc
   have:=uc hf
   exact(Gz l q f (by omega)).1⟩
end
section
variable (G:az)
def PshF(s:Bool)(sz:Nat)(D:List (List PV))(h0:List AO)(a:PshS):Prop:=a.i<=D.length/\h0.length<=a.id/\h0.length<=a.h.length/\(∀j,j<h0.length->a.h[j]?=h0[j]?)/\∃rows J,RowOwn s a.h a.id sz rows (D.take a.i) J/\∀j∈J,h0.length<=j
theorem Au{h h2:List AO}(hl:h.length<=h2.length)(hf:∀j,j<h.length->h2[j]?=h[j]?):h2=h++h2.drop h.length:=by
 have e:h2.take h.length=h:=by
  apply List.ext_getElem?
  intro j
  by_cases hj:j<h.length
  ·rw[List.getElem?_take_of_lt hj];exact hf j hj
  ·rw[List.getElem?_eq_none (by rw[List.length_take];omega),List.getElem?_eq_none (by omega)]
 have e2:=List.take_append_drop h.length h2
 rw[e] at e2
 exact e2.symm
theorem PshF.step{s:Bool}{sz i id:Nat}{D:List (List PV)}{h0 h:List AO}(H:PshF s sz D h0 ⟨i,id,h⟩){e:List PV}(hi:D[i]?=some e){h2:List AO}(hl:h.length<=h2.length)(hf:∀j,j<h.length->h2[j]?=h[j]?){r':List AV}{I2:List Nat}(ho:OwnL s h2 r' e I2)(nd2:I2.Nodup)(hn:∀j∈I2,h.length<=j)(he:e.length=sz):
 ∃rows,(∀os,(h2++os)[id]?=some (.row sz rows))/\rows.length=i/\i<D.length/\id<h2.length/\∀os1 os2,PshF s sz D h0 ⟨i+1,(h2++os1).length,(h2++os1).set id .dead++ .row sz (rows++[r'])::os2⟩:=by
 obtain⟨h1,h3,h4,h5,rows,J,hr,hJ⟩:=H
 have hil:i<D.length:=(List.getElem?_eq_some_iff.1 hi).1
 have hlen:=hr.len
 simp only at h1 h3 h4 h5 hlen hr
 rw[List.length_take,Nat.min_eq_left h1] at hlen
 have e2:=Au hl hf
 have hid:=hr.lt
 have h2e:h2[id]?=some (.row sz rows):=by rw[hf id hid];exact hr.here
 refine⟨rows,λos=>by rw[List.getElem?_append_left (by omega)];exact h2e,hlen,hil,by omega,λos1 os2=>⟨hil,by simp only[List.length_append];omega,by simp;omega,λj hj=>?_,rows++[r'],J++I2,?_,λj hj=>?_⟩⟩
 ·simp only
  rw[List.getElem?_append_left (by simp only[List.length_set,List.length_append,List.length_cons];omega),List.getElem?_set_ne (by omega),List.getElem?_append_left (by omega),hf j (by omega)]
  exact h5 j hj
 ·have hp:=(hr.push (h2:=h2++os1) (os:=h2.drop h.length++os1) (by rw[←List.append_assoc,←e2]) (ho.more os1) nd2 hn he).more os2
  have hd:D.take i++[e]=D.take (i+1):=by rw[List.take_add_one,hi];rfl
  rw[hd,List.append_assoc] at hp
  exact hp
 ·rcases List.mem_append.1 hj with hj|hj
  ·exact hJ j hj
  ·have:=hn j hj;omega
theorem PshF.done{s:Bool}{sz i id:Nat}{D:List (List PV)}{h0 h:List AO}(H:PshF s sz D h0 ⟨i,id,h⟩)(hi:D.length<=i):h0.length<=h.length/\(∀j,j<h0.length->h[j]?=h0[j]?)/\∃I,OwnL s h [.sl id sz 0 i] [.lst sz D] I/\I.Nodup/\∀j∈I,h0.length<=j:=by
 obtain⟨h1,h3,h4,h5,rows,J,hr,hJ⟩:=H
 simp only at h1 h3 h4 h5 hr
 rw[List.take_of_length_le hi] at hr
 exact⟨h4,h5,id::J,hr.tree (by omega),hr.nd,λj hj=>by
  rcases List.mem_cons.1 hj with rfl|hj
  ·exact h3
  ·exact hJ j hj⟩
end
section
variable (G:az)
theorem DU{ρ:List Nat}:∀{args:List AV},aq 0 args->TW ρ args args
 |[],_=>trivial
 |v::r,h=>⟨.inr ⟨(bE (Nat.zero_le _) [v] ⟨h.1,trivial⟩).1,by have:=iQ ρ [v] ⟨h.1,trivial⟩;simpa[bj] using this⟩,DU h.2⟩
theorem KV{f:FuncId}{args:List AV}{b:List Int}{p:Nat}{Q:AV->Nat->Prop}(H:AC Tryz.prog G f (.ptr 0 2 0 0::args) [rdO b p] λx h=>∃v q,x= .ret v/\h=[rdO b q]/\Q v q)(hq:∀v q,Q v q->below 0 v){h:List AO}{k:Nat}(hk:h[k]?=some (rdO b p))(ha:aq 0 args):
 AC Tryz.prog G f (.ptr k 2 0 0::args) h λx h'=>∃v q,x= .ret v/\h'=h.set k (rdO b q)/\Q v q:=by
 refine(H.frame (h:=h) (args:= .ptr k 2 0 0::args) [k] (by simp) ⟨.inr ⟨by simp[below],by simp[ren]⟩,DU ha⟩ (ib hk (bR _ _ _) gq)).mono ?_
 rintro x h' ⟨x0,h0,⟨v,q,rfl,rfl,r⟩,hl,rfl,rfl⟩
 refine⟨v,q,?_,?_,r⟩
 ·simp only[zE]
  have:=iQ ([k]++List.range' h.length ([rdO b q].length-[rdO b p].length)) [v] ⟨hq v q r,trivial⟩
  simpa[bj] using this
 ·have hp2:∀σ,ew σ (rdO b q)=rdO b q:=λσ=>by simp[rdO,ew,bj,ren]
  simp[mrg,hp2]
theorem yG{l:List Int}(h:Byt l)(n:Nat):Byt (l.take n):=λx hx=>h x (List.mem_of_mem_take hx)
theorem Eo{f:FuncId}{args:List AV}{R:ARes->Prop}(H:AC Tryz.prog G f args [] λx _=>R x)(hR:∀x,R x->∃v,x= .ret v/\below 0 v)(ha:aq 0 args)(h:List AO):AC Tryz.prog G f args h λx h'=>R x/\h'=h:=by
 have H2:AC Tryz.prog G f args [] λx h'=>R x/\h'=[]:=by
  refine H.wk (λt v h' r=>by obtain⟨_,e,_⟩:=hR _ r;cases e) λv h' r=>?_
  obtain⟨v',e,hv⟩:=hR _ r
  cases e
  exact⟨v,[],DB rfl ⟨.inr ⟨hv,rfl⟩,trivial⟩,r,rfl⟩
 refine(H2.pre h ha (λo ho=>by cases ho) (λx h' r=>by rw[r.2])).mono ?_
 rintro x h' ⟨h1,⟨r,rfl⟩,rfl⟩
 exact⟨r,rfl⟩
variable (hK:G At=some zW) (hS:G zi=some [.tbl opK opV])
include hK hS
end
section
theorem Kp{u:List Cd}(h:unB u=true):GU u:=by
 simp only[unB,Bool.and_eq_true,decide_eq_true_eq] at h
 obtain⟨⟨h1,h2⟩,_⟩:=h
 simp only[inR,Bool.and_eq_true,decide_eq_true_eq] at h1
 refine⟨⟨λe=>by rw[e] at h1;simp at h1,by omega⟩,λc hc=>?_⟩
 obtain⟨i,hi⟩:=List.getElem?_of_mem hc
 have h3:=allI_iff.1 h2 i c hi
 simp only[cdB,Bool.and_eq_true,inR,decide_eq_true_eq] at h3
 obtain⟨⟨⟨_,_⟩,h4⟩,h5⟩:=h3
 refine⟨by omega,by omega,λx hx=>?_⟩
 obtain⟨j,hj⟩:=List.getElem?_of_mem hx
 have h6:=allI_iff.1 h5 j x hj
 simp only[bkB,Bool.and_eq_true] at h6
 have h7:=h6.1.1.1.1
 rw[decide_eq_true_eq] at h7
 have h8:nxN x.jump<=2:=by
  unfold nxN
  split
  ·decide
  ·split
   ·decide
   ·split<;>decide
 omega
variable (G:az)
theorem CA{b:List Int}(hb:Byt b)(hl:b.length<=2000){p:Nat}(hp:p<=9000000000):AC Tryz.prog G gi [.ptr 0 2 0 0] [rdO b p] λx h=>∃v q,x= .ret v/\h=[rdO b q]/\(∃cs,v= .agg [.p (cdL cs)]/\GU cs)/\p<=q/\q<=p+200010000:=by
 refine fA G (AC.go rV ?_)
 obtain⟨p1,hp1⟩:∃p1,p1=p+1:=⟨_,rfl⟩
 have hprog:AC Tryz.prog G eV [.ptr 0 2 0 0] [rdO b p1] λx h=>∃v q,x= .ret v/\h=[rdO b q]/\((∃l:List Fd,v= .agg [.p (fdL l)]/\cA l=true)/\p1<=q/\q<=p1+200000000):=
  (Jk G hb hl (by omega)).mono λx h ⟨l,q,e1,e2,e3,e4,e5,e6⟩=>⟨_,q,e1,e2,⟨l,rfl,e3⟩,e5,e6⟩
 simp-implicitDefEqProofs[kB]
 refine(aF G b hb hl p (by omega) 2 _).mono ?_
 rintro r h ⟨k1,rfl,rfl,_⟩
 rw[←hp1]
 simp-implicitDefEqProofs[aa]
 have alt:∀(rest:List AO) (q:Nat),p<=q->q<=p+200000001->AC Tryz.prog G dd [.ptr 0 2 0 0] (rdO b q::rest) λx h=>∃v q2,x= .ret v/\h=rdO b q2::rest/\(∃cs,v= .agg [.p (cdL cs)]/\SmU cs)/\q<=q2/\q2<=q+4000:=λrest q _ _=>fI G (vW G hb hl (p:=q) (by omega)) rest (by simp[below])
 refine aG (λhc=>?_) (λhc=>?_)
 ·simp-implicitDefEqProofs[]
  refine(fI G hprog _ (by simp[below])).mono ?_
  rintro r h ⟨v,q,rfl,rfl,⟨l,rfl,hok⟩,h1,h2⟩
  have hz:=vh hok
  have hll:l.length<=4:=((mr l).1 hok).1.2
  simp-implicitDefEqProofs[aa]
  refine(DC G l (by omega) (yU hok)).use ?_
  have hu:=zr G (unR l) (Gv l (-1) (by omega) (by omega))
  simp-implicitDefEqProofs[]
  refine hu.use ?_
  simp-implicitDefEqProofs[]
  refine aG (λhv=>?_) (λhv=>?_)
  ·simp-implicitDefEqProofs[]
   exact⟨_,_,q,.agg [.p (cdL (unR l))],rfl,rfl,.keep (by simp) .nil,⟨_,rfl,Kp hv⟩,by omega,by omega⟩
  ·simp-implicitDefEqProofs[]
   refine(alt _ q (by omega) (by omega)).mono ?_
   rintro r h ⟨v,q2,rfl,rfl,⟨cs,rfl,hs⟩,h3,h4⟩
   simp-implicitDefEqProofs[aa]
   exact⟨_,_,q2,.agg [.p (cdL cs)],rfl,rfl,.keep (by simp) .nil,⟨cs,rfl,⟨hs.1,by have:=hs.2.1;omega⟩,λc hc=>(hs.2.2 c hc).g⟩,by omega,by omega⟩
 ·simp-implicitDefEqProofs[]
  refine(alt _ p1 (by omega) (by omega)).mono ?_
  rintro r h ⟨v,q2,rfl,rfl,⟨cs,rfl,hs⟩,h3,h4⟩
  simp-implicitDefEqProofs[aa]
  exact⟨_,_,q2,.agg [.p (cdL cs)],rfl,rfl,.keep (by simp) .nil,⟨cs,rfl,⟨hs.1,by have:=hs.2.1;omega⟩,λc hc=>(hs.2.2 c hc).g⟩,by omega,by omega⟩
theorem Ce{b:List Int}(hb:Byt b)(hl:b.length<=2000){p:Nat}(hp:p<=8000000000):AC Tryz.prog G gf [.ptr 0 2 0 0] [rdO b p] λx h=>∃v q,x= .ret v/\h=[rdO b q]/\(∃cs,v= .agg [.p (cdL cs)]/\GU cs)/\p<=q/\q<=p+200020000:=by
 refine fA G (AC.go rZ ?_)
 obtain⟨p1,hp1⟩:∃p1,p1=p+1:=⟨_,rfl⟩
 simp-implicitDefEqProofs[jX]
 refine(aF G b hb hl p (by omega) 12 _).mono ?_
 rintro r h ⟨k1,rfl,rfl,_⟩
 rw[←hp1]
 simp-implicitDefEqProofs[aa]
 refine aG (λhc=>?_) (λhc=>?_)
 ·simp-implicitDefEqProofs[]
  refine(fI G (DH G hb hl (p:=p1) (by omega)) _ (by simp[below])).mono ?_
  rintro r h ⟨v,q,rfl,rfl,⟨cs,rfl,hs⟩,h1,h2⟩
  simp-implicitDefEqProofs[aa]
  exact⟨_,_,q,.agg [.p (cdL cs)],rfl,rfl,.keep (by simp) .nil,⟨cs,rfl,hs⟩,by omega,by omega⟩
 ·simp-implicitDefEqProofs[]
  refine(fI G (CA G hb hl (p:=p1) (by omega)) _ (by simp[below])).mono ?_
  rintro r h ⟨v,q,rfl,rfl,⟨cs,rfl,hs⟩,h1,h2⟩
  simp-implicitDefEqProofs[aa]
  exact⟨_,_,q,.agg [.p (cdL cs)],rfl,rfl,.keep (by simp) .nil,⟨cs,rfl,hs⟩,by omega,by omega⟩
def CdQ(p n:Nat)(v:AV)(q:Nat):Prop:=(∃c:Cd,v= .agg (c.cs.map .p)/\GCd c)/\p<=q/\q<=p+n
theorem ud{b:List Int}(hb:Byt b)(hl:b.length<=2000){p:Nat}(hp:p<=7000000000):AC Tryz.prog G dS [.ptr 0 2 0 0] [rdO b p] λx h=>∃v q,x= .ret v/\h=[rdO b q]/\CdQ p 200020000 v q:=by
 refine fA G (AC.go ru ?_)
 simp-implicitDefEqProofs[jU]
 refine(fI G (Ce G hb hl (p:=p) (by omega)) _ (by simp[below])).mono ?_
 rintro r h ⟨v,q,rfl,rfl,⟨cs,rfl,hs⟩,h1,h2⟩
 have hcl:cdL cs= .lst 3 (cs.map Cd.cs):=rfl
 have hpos:=List.length_pos_iff.2 hs.1.1
 obtain⟨m,hm⟩:∃m,cs.length=m+1:=⟨cs.length-1,by omega⟩
 have hm4:=hs.1.2
 have hw:IntKind.i64.wrap (m:Int)=(m:Int):=ag (by omega) (by omega)
 have hg:cs[m]?=some cs[m]:=List.getElem?_eq_getElem (by omega)
 have hgc:=hs.2 _ (List.mem_of_getElem? hg)
 generalize cs[m]=c at hg hgc
 have hge:=λhh=>fm hg hh
 have hcc:=c.cs_eq2
 simp-implicitDefEqProofs[aa,hcl,hm,hw,hg,hge,hcc]
 exact⟨_,_,q,.agg (c.cs.map .p),rfl,rfl,.keep (by simp[hcc]) .nil,⟨c,rfl,hgc⟩,h1,h2⟩
theorem EG{b:List Int}(hb:Byt b)(hl:b.length<=2000){p:Nat}(hp:p<=6500000000):AC Tryz.prog G il [.ptr 0 2 0 0] [rdO b p] λx h=>∃v q,x= .ret v/\h=[rdO b q]/\((∃(c:Cd) (m n:Int),v= .tup [.agg (c.cs.map .p),.p (.int .i64 m),.p (.int .i64 n)]/\GCd c)/\p<=q/\q<=p+200020010):=by
 refine fA G (AC.go tz ?_)
 simp-implicitDefEqProofs[lE]
 refine(fI G (ud G hb hl (p:=p) (by omega)) _ (by simp[below])).mono ?_
 rintro r h ⟨v,q,rfl,rfl,⟨c,rfl,hg⟩,h1,h2⟩
 have hcc:=c.cs_eq2
 have hbl:bkL c.blocks= .lst 5 (c.blocks.map Bk.cs):=rfl
 have hw:IntKind.i64.wrap ((c.blocks.length:Int)-1)=(c.blocks.length:Int)-1:=ag (by have:=hg.1;omega) (by have:=hg.2.1;omega)
 simp-implicitDefEqProofs[aa,hcc,hbl]
 refine(aF G b hb hl q (by omega) _ _).mono ?_
 rintro r h ⟨k1,rfl,rfl,_⟩
 simp-implicitDefEqProofs[aa]
 refine(aF G b hb hl (q+1) (by omega) _ _).mono ?_
 rintro r h ⟨k2,rfl,rfl,_⟩
 simp-implicitDefEqProofs[aa,hw]
 refine(aF G b hb hl (q+1+1) (by omega) _ _).mono ?_
 rintro r h ⟨k3,rfl,rfl,_⟩
 simp-implicitDefEqProofs[aa]
 refine(gr G hb hl (by omega) [(k1:Int),k2,0,(c.blocks.length:Int)-1,k3,-1,c.blocks.length] (by simp) (by simp) (by omega) rfl rfl).mono ?_
 rintro r h ⟨m,_,rfl,rfl⟩
 simp-implicitDefEqProofs[aa]
 refine(gr G hb hl (by omega) [(k1:Int),k2,0,(c.blocks.length:Int)-1,k3,-1,c.blocks.length] (by simp) (by simp) (by omega) rfl rfl).mono ?_
 rintro r h ⟨n,_,rfl,rfl⟩
 simp-implicitDefEqProofs[aa]
 exact⟨_,_,q+1+1+1+1+1,.tup [.agg (c.cs.map .p),.p (.int .i64 m),.p (.int .i64 n)],rfl,rfl,.keep (by simp) .nil,⟨c,⟨m,n,rfl⟩,hg⟩,by omega,by omega⟩
def DrC(x:ARes):Prop:=∃c:Cd,x= .ret (.agg (c.cs.map .p))/\GCd c
def KG(x:ARes):Prop:=∃(c:Cd) (m n:Int),x= .ret (.tup [.agg (c.cs.map .p),.p (.int .i64 m),.p (.int .i64 n)])/\GCd c
theorem Cr(x:ARes)(h:KG x):∃v,x= .ret v/\below 0 v:=by
 obtain⟨c,m,n,rfl,_⟩:=h
 exact⟨_,rfl,by simp[below,c.cs_eq2]⟩
theorem DD(n:Nat)(b:List Int)(q:Nat):bO n (rdO b q)=rdO b q:=by simp[rdO,bO,cd,bh]
end
section
theorem GCd.csm{c:Cd}(h:GCd c):CSm c:=by
 obtain⟨_,h2,h3⟩:=h
 refine⟨⟨by omega,λx hx=>by have:=h3 x hx;omega⟩,?_⟩
 have key:∀l:List Bk,(∀x∈l,x.next.length<=2)->(l.map λx=>x.next.length).sum<=2*l.length:=by
  intro l
  induction l with
  |nil=>intro _;simp
  |cons a r ih=>
   intro h
   have h1:=h a (by simp)
   have h2:=ih λx hx=>h x (by simp[hx])
   simp only[List.map_cons,List.sum_cons,List.length_cons]
   omega
 have:=key _ h3
 omega
variable (G:az)
end
section
def Out(h:List AO)(V:AV)(L:List Int):Prop:=(V= .nils/\L=[])\/∃id,V= .sl id 1 0 L.length/\h[id]?=some (.row 1 (aB L))
theorem Out.view{h:List AO}{V:AV}{L:List Int}(o:Out h V L):View h V (aE L):=by
 rcases o with⟨rfl,rfl⟩|⟨id,rfl,e⟩
 ·exact .nils 1
 ·exact oP e
theorem Out.app{h:List AO}{V:AV}{L:List Int}(o:Out h V L)(t:List AO):Out (h++t) V L:=by
 rcases o with h1|⟨id,h1,h2⟩
 ·exact .inl h1
 ·exact .inr ⟨id,h1,by rw[List.getElem?_append_left (List.getElem?_eq_some_iff.1 h2).1];exact h2⟩
theorem Out.below{h:List AO}{V:AV}{L:List Int}(o:Out h V L):Aw.below h.length V:=by
 rcases o with⟨rfl,_⟩|⟨id,rfl,h2⟩
 ·simp[Aw.below]
 ·simp only[Aw.below];exact(List.getElem?_eq_some_iff.1 h2).1
variable (G:az)
end
section
variable (G:az)
theorem FH(code:List Int)(hb:Byt code):AC Tryz.prog G fU [.p (mX code)] [] λx _=>DrC x:=by
 refine AC.go mg ?_
 simp-implicitDefEqProofs[gt]
 refine(AC.lift (EA G code) (by simp) rfl rfl).mono ?_
 rintro r h ⟨rfl,rfl⟩
 have hbt:=yG hb 2000
 have hbl:(code.take 2000).length<=2000:=by rw[List.length_take];omega
 generalize code.take 2000=b at hbt hbl
 simp-implicitDefEqProofs[aa,bh,DD]
 refine(KV G (ud G hbt hbl (p:=0) (by omega)) (λv q ⟨⟨c,e,_⟩,_⟩=>by rw[e];simp[below,c.cs_eq2]) (h:=[.row 3 [[.p (.int .i64 0),.p (.int .i64 0),.nils]],rdO b 0]) (k:=1) rfl trivial).mono ?_
 rintro r h ⟨v,q,rfl,rfl,⟨c,rfl,hg⟩,_⟩
 have hcc:=c.cs_eq2
 simp-implicitDefEqProofs[aa,hcc]
 exact⟨c,rfl,hg⟩
theorem pA(code:List Int)(hb:Byt code):AC Tryz.prog G cK [.p (mX code)] [] λx _=>KG x:=by
 refine AC.go kF ?_
 simp-implicitDefEqProofs[ff]
 refine(AC.lift (EA G code) (by simp) rfl rfl).mono ?_
 rintro r h ⟨rfl,rfl⟩
 have hbt:=yG hb 2000
 have hbl:(code.take 2000).length<=2000:=by rw[List.length_take];omega
 generalize code.take 2000=b at hbt hbl
 simp-implicitDefEqProofs[aa,bh,DD]
 refine(KV G (EG G hbt hbl (p:=0) (by omega)) (λv q ⟨⟨c,m,n,e,_⟩,_⟩=>by rw[e];simp[below,c.cs_eq2]) (h:=[.row 3 [[.p (.int .i64 0),.p (.int .i64 0),.nils]],rdO b 0]) (k:=1) rfl trivial).mono ?_
 rintro r h ⟨v,q,rfl,rfl,⟨c,m,n,rfl,hg⟩,_⟩
 have hcc:=c.cs_eq2
 simp-implicitDefEqProofs[aa,hcc]
 exact⟨c,m,n,rfl,hg⟩
end
end Go.Proofs.YtdfplkcigiblcaaGreat
namespace Go.Proofs.YtdfplkcigiblcaaGreat
open Go
def lays189_ren:Go.Shelf.Ren:=⟨λ|125=>123|128=>138|129=>139|189=>101|215=>151|216=>135|257=>122|294=>129|295=>130|296=>131|297=>132|298=>133|299=>134|300=>136|301=>137|328=>146|329=>147|330=>148|331=>149|332=>150|343=>167|n=>n,λ|0=>0|3=>3|4=>4|5=>5|9=>9|28=>30|46=>101|51=>124|53=>126|131=>121|182=>116|183=>117|218=>145|222=>149|228=>171|229=>172|n=>n,λn=>n⟩
theorem vt:Lays.n189 Tryz.prog lays189_ren where
 mixed:=by kernel_rfl
 f125:=Tryz.func123.trans (congrArg some (by kernel_rfl))
 f128:=Tryz.func138.trans (congrArg some (by kernel_rfl))
 f129:=Tryz.func139.trans (congrArg some (by kernel_rfl))
 f189:=Tryz.func101.trans (congrArg some (by kernel_rfl))
 f215:=Tryz.func151.trans (congrArg some (by kernel_rfl))
 f216:=Tryz.func135.trans (congrArg some (by kernel_rfl))
 f257:=Tryz.func122.trans (congrArg some (by kernel_rfl))
 f294:=Tryz.func129.trans (congrArg some (by kernel_rfl))
 f295:=Tryz.func130.trans (congrArg some (by kernel_rfl))
 f296:=Tryz.func131.trans (congrArg some (by kernel_rfl))
 f297:=Tryz.func132.trans (congrArg some (by kernel_rfl))
 f298:=Tryz.func133.trans (congrArg some (by kernel_rfl))
 f299:=Tryz.func134.trans (congrArg some (by kernel_rfl))
 f300:=Tryz.func136.trans (congrArg some (by kernel_rfl))
 f301:=Tryz.func137.trans (congrArg some (by kernel_rfl))
 f328:=Tryz.func146.trans (congrArg some (by kernel_rfl))
 f329:=Tryz.func147.trans (congrArg some (by kernel_rfl))
 f330:=Tryz.func148.trans (congrArg some (by kernel_rfl))
 f331:=Tryz.func149.trans (congrArg some (by kernel_rfl))
 f332:=Tryz.func150.trans (congrArg some (by kernel_rfl))
 f343:=Tryz.func167.trans (congrArg some (by kernel_rfl))
 t0:=Tryz.underlying0
 a0:=Tryz.isAgg0
 z0:=Tryz.sizeOf0
 v0:=Tryz.zeroValue0
 t3:=Tryz.underlying3
 a3:=Tryz.isAgg3
 z3:=Tryz.sizeOf3
 v3:=Tryz.zeroValue3
 t4:=Tryz.underlying4
 a4:=Tryz.isAgg4
 z4:=Tryz.sizeOf4
 v4:=Tryz.zeroValue4
 t5:=Tryz.underlying5
 a5:=Tryz.isAgg5
 z5:=Tryz.sizeOf5
 v5:=Tryz.zeroValue5
 t9:=Tryz.underlying9
 a9:=Tryz.isAgg9
 z9:=Tryz.sizeOf9
 v9:=Tryz.zeroValue9
 t28:=Tryz.underlying30
 a28:=Tryz.isAgg30
 z28:=Tryz.sizeOf30
 v28:=Tryz.zeroValue30
 t46:=Tryz.underlying101
 a46:=Tryz.isAgg101
 z46:=Tryz.sizeOf101
 v46:=Tryz.zeroValue101
 t51:=Tryz.underlying124
 a51:=Tryz.isAgg124
 z51:=Tryz.sizeOf124
 v51:=Tryz.zeroValue124
 t53:=Tryz.underlying126
 a53:=Tryz.isAgg126
 z53:=Tryz.sizeOf126
 v53:=Tryz.zeroValue126
 t131:=Tryz.underlying121
 a131:=Tryz.isAgg121
 z131:=Tryz.sizeOf121
 v131:=Tryz.zeroValue121
 t182:=Tryz.underlying116
 a182:=Tryz.isAgg116
 z182:=Tryz.sizeOf116
 v182:=Tryz.zeroValue116
 t183:=Tryz.underlying117
 a183:=Tryz.isAgg117
 z183:=Tryz.sizeOf117
 v183:=Tryz.zeroValue117
 t218:=Tryz.underlying145
 a218:=Tryz.isAgg145
 z218:=Tryz.sizeOf145
 v218:=Tryz.zeroValue145
 t222:=Tryz.underlying149
 a222:=Tryz.isAgg149
 z222:=Tryz.sizeOf149
 v222:=Tryz.zeroValue149
 t228:=Tryz.underlying171
 a228:=Tryz.isAgg171
 z228:=Tryz.sizeOf171
 v228:=Tryz.zeroValue171
 t229:=Tryz.underlying172
 a229:=Tryz.isAgg172
 z229:=Tryz.sizeOf172
 v229:=Tryz.zeroValue172
def lays20_ren:Go.Shelf.Ren:=⟨λ|20=>102|n=>n,λ|0=>0|3=>3|4=>4|22=>30|n=>n,λn=>n⟩
theorem zV:Lays2.n20 Tryz.prog lays20_ren where
 mixed:=by kernel_rfl
 f20:=Tryz.func102.trans (congrArg some (by kernel_rfl))
 t0:=Tryz.underlying0
 a0:=Tryz.isAgg0
 z0:=Tryz.sizeOf0
 v0:=Tryz.zeroValue0
 t3:=Tryz.underlying3
 a3:=Tryz.isAgg3
 z3:=Tryz.sizeOf3
 v3:=Tryz.zeroValue3
 t4:=Tryz.underlying4
 a4:=Tryz.isAgg4
 z4:=Tryz.sizeOf4
 v4:=Tryz.zeroValue4
 t22:=Tryz.underlying30
 a22:=Tryz.isAgg30
 z22:=Tryz.sizeOf30
 v22:=Tryz.zeroValue30
 i3:=by kernel_rfl
end Go.Proofs.YtdfplkcigiblcaaGreat
namespace Go.Proofs.YtdfplkcigiblcaaGreat
open Go Go.Aw
set_option maxRecDepth 100000
set_option maxHeartbeats 4000000
section
structure VH (c:Cd) (X:List AO) (seen:List Bool) (out:List Nat):Prop where
 len:5<=X.length
 code:X[0]?=some (.row 3 [[.p (.int .i64 c.params),.p (.int .i64 c.regs),.p (bkL c.blocks)]])
 se:X[2]?=some (.row 1 (bm seen))
 sb:X[3]?=some (.row 1 [[.sl 2 1 0 c.blocks.length]])
 fn:X[4]?=some (.row 1 [[.fn (.func cu) [.ptr 3 1 0 0,.ptr 0 3 0 0,.ptr 4 1 0 0,.ptr 1 1 0 0]]])
 ou:∃V,X[1]?=some (.row 1 [[V]])/\((V= .nils/\out=[])\/∃id,5<=id/\V= .sl id 1 0 out.length/\X[id]?=some (.row 1 (aB (aQ out))))
 sl:seen.length=c.blocks.length
structure VsS where (i:Nat) (X:List AO)
variable (G:az)
theorem zS(c:Cd)(hc:CBd c)(hfit:aV c.blocks=true):∀(f:Nat) (X:List AO) (b:Nat) (seen:List Bool) (out:List Nat),b<c.blocks.length->sn seen b=false->fls seen<=f->VH c X seen out->out.length+fls seen<=1073741824->
 AC Tryz.prog G cu [.p (.int .i64 b),.ptr 3 1 0 0,.ptr 0 3 0 0,.ptr 4 1 0 0,.ptr 1 1 0 0] X λx X'=>x= .ret (.tup [])/\X.length<=X'.length/\VH c X' (dfs (nxC c.blocks) f (seen,out) b).1 (dfs (nxC c.blocks) f (seen,out) b).2:=by
 intro f
 induction f with
 |zero=>
  intro X b seen out hb hsb hf
  have:=fw hsb
  omega
 |succ f ih=>
  intro X b seen out hb hsb hf hX hsz
  have hsl:=hX.sl
  have hbl:bkL c.blocks= .lst 5 (c.blocks.map Bk.cs):=rfl
  have hl1:=hc.1
  have hgb:=List.getElem?_eq_getElem hb
  have hmb:=List.getElem_mem hb
  generalize c.blocks[b]=x at hgb hmb
  have hnx:=hc.2 _ hmb
  have hxs:=x.cs_eq2
  have hnl:aE x.next= .lst 1 (x.next.map λn=>[.int .i64 n]):=rfl
  have hset:=fw hsb
  have hD0:∀i,(bX (nxC c.blocks) f (seen.set b true,out) ((nxC c.blocks b).take i)).2.length+fls (bX (nxC c.blocks) f (seen.set b true,out) ((nxC c.blocks b).take i)).1+1=out.length+fls seen/\(bX (nxC c.blocks) f (seen.set b true,out) ((nxC c.blocks b).take i)).1.length=seen.length/\fls (bX (nxC c.blocks) f (seen.set b true,out) ((nxC c.blocks b).take i)).1<=f:=λi=>by
   have:=(nP (nxC c.blocks) f).1 ((nxC c.blocks b).take i) (seen.set b true,out) (by simp only;omega)
   simp only[List.length_set] at this
   omega
  obtain⟨D,hD⟩:∃D:Nat->List Bool × List Nat,D=λi=>bX (nxC c.blocks) f (seen.set b true,out) ((nxC c.blocks b).take i):=⟨_,rfl⟩
  have hDz:D 0=(seen.set b true,out):=by rw[hD];rfl
  have hDs:∀(i:Nat) (m:Nat),(nxC c.blocks b)[i]?=some m->D (i+1)=if sn (D i).1 m then D i else dfs (nxC c.blocks) f (D i) m:=λi m h=>by
   rw[hD];exact tN h
  have hDe:dfs (nxC c.blocks) (f+1) (seen,out) b=((D x.next.length).1,(D x.next.length).2++[b]):=by
   rw[jW,hD]
   have:(nxC c.blocks b).take x.next.length=nxC c.blocks b:=by rw[ja hgb,List.take_of_length_le (by simp)]
   simp only[this]
  have hD1:∀i,(D i).2.length+fls (D i).1+1=out.length+fls seen/\(D i).1.length=seen.length/\fls (D i).1<=f:=λi=>by rw[hD];exact hD0 i
  clear hD0 hD
  have hXl:=hX.len
  have hrow:(bm seen)[b]?=some [.p (.bool false)]:=by rw[←hsb];exact cM (jq (by omega))
  refine AC.go pJ ?_
  have e0:∀t,(X.set 2 t)[0]?=some (.row 3 [[.p (.int .i64 c.params),.p (.int .i64 c.regs),.p (bkL c.blocks)]]):=λt=>by rw[List.getElem?_set_ne (by omega)];exact hX.code
  simp-implicitDefEqProofs[jJ,hX.sb,hX.se,hrow,cN,e0,hbl,hgb,hxs,hnl]
  refine⟨hb,?_⟩
  have hVz:VH c (X.set 2 (.row 1 (bm (seen.set b true)))) (D 0).1 (D 0).2:=by
   rw[hDz]
   refine⟨by simp;omega,e0 _,by rw[List.getElem?_set_self (by omega)],by rw[List.getElem?_set_ne (by omega)];exact hX.sb,by rw[List.getElem?_set_ne (by omega)];exact hX.fn,?_,by rw[List.length_set];exact hsl⟩
   obtain⟨V,h1,h2⟩:=hX.ou
   refine⟨V,by rw[List.getElem?_set_ne (by omega)];exact h1,h2.imp id λ⟨id,a1,a2,a3⟩=>⟨id,a1,a2,by rw[List.getElem?_set_ne (by omega)];exact a3⟩⟩
  have hlz:X.length<=(X.set 2 (.row 1 (bm (seen.set b true)))).length:=by simp
  generalize X.set 2 (.row 1 (bm (seen.set b true)))=X0 at hVz hlz
  refine aJ (λa:VsS=>aA 35 [(18,.p (.int .i64 a.i)),(17,.p (.int .i64 x.next.length)),(16,.p (.lst 1 (x.next.map λn=>[.int .i64 n]))),(0,.p (.int .i64 b)),(1,.ptr 3 1 0 0),(2,.ptr 0 3 0 0),(3,.ptr 4 1 0 0),(4,.ptr 1 1 0 0)]) (λa=>a.X)
   (λa=>a.i<=x.next.length/\X.length<=a.X.length/\VH c a.X (D a.i).1 (D a.i).2) (λa=>x.next.length-a.i) ⟨0,X0⟩ ⟨Nat.zero_le _,hlz,hVz⟩ (ab hlz (by have:=hVz.len;simp[below];omega)) ?_
  clear hVz hlz X0 e0
  rintro⟨i,Y⟩ ⟨hi,hYl,hY⟩
  simp only at hi hYl hY
  have hY5:=hY.len
  simp-implicitDefEqProofs[]
  refine aG (λhc1=>?_) (λhc1=>?_)
  ·simp at hc1
   have hg2:=List.getElem?_eq_getElem hc1
   generalize x.next[i]=r at hg2
   have hr:=nM hfit hgb (List.mem_of_getElem? hg2)
   have hrn:((r.toNat:Nat):Int)=r:=by omega
   have hDn:=hDs i r.toNat (BJ hgb hg2)
   generalize hm:r.toNat=m at hrn hDn
   subst hrn
   have hml:m<c.blocks.length:=by omega
   have⟨q1,q2,q3⟩:=hD1 i
   have hrw:(bm (D i).1)[m]?=some [.p (.bool (sn (D i).1 m))]:=cM (jq (by omega))
   have hw1:=w1 (i:=i) (by omega)
   simp-implicitDefEqProofs[hg2,hY.sb,hY.se,hrw,hml]
   refine aG (λhe=>?_) (λhe=>?_)
   ·have he:sn (D i).1 m=false:=by simpa using he
    simp only[he,Bool.false_eq_true,if_false] at hDn
    have hcall:=ih Y m (D i).1 (D i).2 hml he q3 hY (by omega)
    simp-implicitDefEqProofs[hY.fn]
    refine hcall.mono ?_
    rintro rr Z ⟨rfl,z1,z2⟩
    rw[show((D i).1,(D i).2)=D i from rfl,←hDn] at z2
    simp-implicitDefEqProofs[aa]
    exact⟨⟨i+1,Z⟩,⟨by simp only;omega,by simp only;omega,z2⟩,by simp only;omega,ab (by omega) (by have:=z2.len;simp[below,hw1];omega)⟩
   ·have he:sn (D i).1 m=true:=by simpa using he
    simp only[he,if_true] at hDn
    simp-implicitDefEqProofs[]
    exact⟨⟨i+1,Y⟩,⟨by simp only;omega,hYl,by simp only[hDn];exact hY⟩,by simp only;omega,ab (by omega) (by simp[below,hw1];omega)⟩
  ·simp at hc1
   have hie:i=x.next.length:=by omega
   subst hie
   rw[hDe]
   have⟨q1,q2,q3⟩:=hD1 x.next.length
   generalize D x.next.length=Z at*
   obtain⟨V,v1,v2⟩:=hY.ou
   have v1':∀t,(Y++t)[1]?=some (.row 1 [[V]]):=λt=>by rw[List.getElem?_append_left (by omega)];exact v1
   have v1e:=λt hh=>ED (v1' t) hh
   rcases v2 with⟨rfl,hn⟩|⟨id,hid,rfl,v3⟩
   ·simp-implicitDefEqProofs[v1,v1',v1e]
    refine⟨by omega,by simp;omega,?_,?_,?_,?_,⟨.sl (Y.length+1) 1 0 1,?_,.inr ⟨Y.length+1,by omega,by rw[hn];rfl,?_⟩⟩,by rw[q2];exact hsl⟩
    ·rw[List.getElem?_set_ne (by omega),List.getElem?_append_left (by omega)];exact hY.code
    ·rw[List.getElem?_set_ne (by omega),List.getElem?_append_left (by omega)];exact hY.se
    ·rw[List.getElem?_set_ne (by omega),List.getElem?_append_left (by omega)];exact hY.sb
    ·rw[List.getElem?_set_ne (by omega),List.getElem?_append_left (by omega)];exact hY.fn
    ·rw[List.getElem?_set_self (by simp)]
    ·rw[List.getElem?_set_ne (by omega),List.getElem?_append_right (by omega),hn];simp[aB,aQ]
   ·have hol:=(List.getElem?_eq_some_iff.1 v3).1
    have htl:List.take Z.2.length (aB (aQ Z.2))=aB (aQ Z.2):=List.take_of_length_le (by simp[aB,aQ])
    have hrl:(aB (aQ Z.2)).length=Z.2.length:=by simp[aB,aQ]
    have hxm:∀t,(Y++t)[id]?=some (.row 1 (aB (aQ Z.2))):=λt=>by rw[List.getElem?_append_left hol];exact v3
    have v4:∀t t',((Y++t).set id .dead++t')[1]?=some (.row 1 [[.sl id 1 0 Z.2.length]]):=λt t'=>by
     rw[List.getElem?_append_left (by simp;omega),List.getElem?_set_ne (by omega)];exact v1' t
    have v4e:=λt t' hh=>ED (v4 t t') hh
    simp-implicitDefEqProofs[v1,v1',v1e,hxm,htl,hrl,v4,v4e]
    refine⟨⟨by omega,by omega⟩,by omega,by simp;omega,?_,?_,?_,?_,⟨.sl (Y.length+1) 1 0 (Z.2.length+1),?_,.inr ⟨Y.length+1,by omega,by simp,?_⟩⟩,by rw[q2];exact hsl⟩
    ·rw[List.getElem?_set_ne (by omega),List.getElem?_append_left (by simp<;>omega),List.getElem?_set_ne (by omega),List.getElem?_append_left (by omega)];exact hY.code
    ·rw[List.getElem?_set_ne (by omega),List.getElem?_append_left (by simp;omega),List.getElem?_set_ne (by omega),List.getElem?_append_left (by omega)];exact hY.se
    ·rw[List.getElem?_set_ne (by omega),List.getElem?_append_left (by simp;omega),List.getElem?_set_ne (by omega),List.getElem?_append_left (by omega)];exact hY.sb
    ·rw[List.getElem?_set_ne (by omega),List.getElem?_append_left (by simp;omega),List.getElem?_set_ne (by omega),List.getElem?_append_left (by omega)];exact hY.fn
    ·rw[List.getElem?_set_self (by simp)]
    ·rw[List.getElem?_set_ne (by omega),List.getElem?_append_right (by simp),kS];simp[aB,aQ]
def fy(bs:List Bk):List Nat:=(dfs (nxC bs) bs.length (List.replicate bs.length false,[]) 0).2
theorem tR(c:Cd)(hc:CBd c)(hfit:aV c.blocks=true):AC Tryz.prog G eO [.agg (c.cs.map .p)] [] λr h=>∃id,fy c.blocks≠[]/\r= .ret (.sl id 1 0 (fy c.blocks).length)/\h[id]?=some (.row 1 (aB (aQ (fy c.blocks)))):=by
 have hcs:=c.cs_eq2
 have hbl:bkL c.blocks= .lst 5 (c.blocks.map Bk.cs):=rfl
 have hl1:=hc.1
 have hpos:=bL hfit
 have hsl:(List.replicate c.blocks.length false).length=c.blocks.length:=List.length_replicate
 have h0:sn (List.replicate c.blocks.length false) 0=false:=by rw[dc];exact decide_eq_false (by omega)
 have hne:fy c.blocks≠[]:=by
  rw[fy]
  obtain⟨n,hn⟩:∃n,c.blocks.length=n+1:=⟨c.blocks.length-1,by omega⟩
  rw[hn,jW]
  simp
 have hv:=zS G c hc hfit c.blocks.length [.row 3 [[.p (.int .i64 c.params),.p (.int .i64 c.regs),.p (bkL c.blocks)]],.row 1 [[.nils]],.row 1 (bm (List.replicate c.blocks.length false)),.row 1 [[.sl 2 1 0 c.blocks.length]],.row 1 [[.fn (.func cu) [.ptr 3 1 0 0,.ptr 0 3 0 0,.ptr 4 1 0 0,.ptr 1 1 0 0]]]] 0 (List.replicate c.blocks.length false) [] hpos h0 (by rw[fC];exact Nat.le_refl _) ⟨by simp,rfl,rfl,rfl,rfl,⟨_,rfl,.inl ⟨rfl,rfl⟩⟩,hsl⟩ (by rw[fC];simp;omega)
 rw[hbl] at hv
 refine AC.go tw ?_
 simp-implicitDefEqProofs[lP,hcs,hbl,tV]
 refine⟨by omega,?_⟩
 refine hv.mono ?_
 rintro r Y ⟨rfl,hYl,hY⟩
 obtain⟨V,v1,v2⟩:=hY.ou
 have hY5:=hY.len
 change (V= .nils/\fy c.blocks=[])\/∃id,5<=id/\V= .sl id 1 0 (fy c.blocks).length/\Y[id]?=some (.row 1 (aB (aQ (fy c.blocks)))) at v2
 rcases v2 with⟨_,hn⟩|⟨id,hid,rfl,v3⟩
 ·exact absurd hn hne
 ·simp-implicitDefEqProofs[aa,v1]
  exact⟨hne,v3⟩
def rvK(l:List Int)(k:Nat):List Int:=(List.range l.length).map λj=>if j<k\/l.length-k<=j then l.getD (l.length-1-j) 0 else l.getD j 0
theorem jB(l:List Int)(k:Nat):(rvK l k).length=l.length:=by simp[rvK]
theorem kY{l:List Int}{k j:Nat}(h:j<l.length):(rvK l k)[j]?=some (if j<k\/l.length-k<=j then l.getD (l.length-1-j) 0 else l.getD j 0):=by simp[rvK,h]
theorem Dm(l:List Int):rvK l 0=l:=by
 refine List.ext_getElem? λj=>?_
 by_cases h:j<l.length
 ·rw[kY h,if_neg (by omega),List.getD_eq_getElem?_getD,List.getElem?_eq_getElem h];rfl
 ·rw[List.getElem?_eq_none (by rw[jB];omega),List.getElem?_eq_none (by omega)]
theorem GM{l:List Int}{k:Nat}(h:l.length<=2*k+1):rvK l k=l.reverse:=by
 refine List.ext_getElem? λj=>?_
 by_cases hj:j<l.length
 ·rw[kY hj,List.getElem?_reverse hj]
  by_cases h2:j<k\/l.length-k<=j
  ·rw[if_pos h2,List.getD_eq_getElem?_getD,List.getElem?_eq_getElem (by omega)];rfl
  ·rw[if_neg h2,List.getD_eq_getElem?_getD,show l.length-1-j=j by omega,List.getElem?_eq_getElem (by omega)];rfl
 ·rw[List.getElem?_eq_none (by rw[jB];omega),List.getElem?_eq_none (by simp;omega)]
theorem EI{l:List Int}{k:Nat}(h:2*k+1<l.length):((rvK l k).set k (l.getD (l.length-1-k) 0)).set (l.length-1-k) (l.getD k 0)=rvK l (k+1):=by
 refine List.ext_getElem? λj=>?_
 by_cases hj:j<l.length
 ·rw[kY hj]
  by_cases e1:l.length-1-k=j
  ·subst e1
   rw[List.getElem?_set_self (by rw[List.length_set,jB];omega),if_pos (by omega)]
   congr 2;omega
  ·rw[List.getElem?_set_ne e1]
   by_cases e2:k=j
   ·subst e2
    rw[List.getElem?_set_self (by rw[jB];omega),if_pos (by omega)]
   ·rw[List.getElem?_set_ne e2,kY hj]
    by_cases h3:j<k\/l.length-k<=j
    ·rw[if_pos h3,if_pos (by omega)]
    ·rw[if_neg h3,if_neg (by omega)]
 ·rw[List.getElem?_eq_none (by simp[jB];omega),List.getElem?_eq_none (by rw[jB];omega)]
theorem oE{l:List Int}{i:Nat}{x:Int}(h:l[i]?=some x):(aB l)[i]?=some [.p (.int .i64 x)]:=by simp[aB,h]
theorem Ci(l:List Int)(i:Nat)(x:Int):(aB l).set i [.p (.int .i64 x)]=aB (l.set i x):=by simp[aB,List.map_set]
theorem rS{α:Type}{l:List α}{k:Nat}{x:α}(h:l[k]?=some x):l.set k x=l:=by
 obtain⟨hk,rfl⟩:=List.getElem?_eq_some_iff.1 h
 exact List.set_getElem_self hk
theorem Cw{h:List AO}{id:Nat}(l:List Int)(hl:l.length<=1073741824)(hh:h[id]?=some (.row 1 (aB l))):AC Tryz.prog G cI [.sl id 1 0 l.length] h λr h'=>r= .ret (.tup [])/\h'=h.set id (.row 1 (aB l.reverse)):=by
 have hid:=(List.getElem?_eq_some_iff.1 hh).1
 refine AC.go kN ?_
 have hw0:IntKind.i64.wrap ((l.length:Int)-1)=(l.length:Int)-1:=ag (by omega) (by omega)
 simp-implicitDefEqProofs[eZ,hw0]
 refine aJ (λk:Nat=>aA 28 [(2,.p (.int .i64 k)),(3,.p (.int .i64 ((l.length:Int)-1-k))),(0,.sl id 1 0 l.length)]) (λk=>h.set id (.row 1 (aB (rvK l k)))) (λk=>2*k<=l.length+1) (λk=>l.length-2*k+1) 0 (by omega) ?_ ?_
 ·have:h.set id (.row 1 (aB (rvK l 0)))=h:=by rw[Dm];exact rS hh
  rw[this]
  exact ab (Nat.le_refl _) (by simp[below,hid])
 intro k hk
 by_cases hkn:2*k+1<l.length
 ·obtain⟨m,hm⟩:∃m,m=l.length-1-k:=⟨_,rfl⟩
  have hmi:(l.length:Int)-1-k=(m:Int):=by omega
  have hkm:(k:Int)<(m:Int):=by omega
  have hkl:k<l.length:=by omega
  have hml:m<l.length:=by omega
  have g1:(rvK l k)[k]?=some (l.getD k 0):=by rw[kY hkl,if_neg (by omega)]
  have g2:(rvK l k)[m]?=some (l.getD m 0):=by rw[kY hml,if_neg (by omega)]
  have hs:=EI hkn
  rw[←hm] at hs
  have hL:=jB l k
  have hw1:=w1 (i:=k) (by omega)
  have hw2:IntKind.i64.wrap ((m:Int)-1)=(l.length:Int)-1-((k+1:Nat):Int):=by rw[ag (by omega) (by omega)];omega
  generalize l.getD k 0=a at g1 hs
  generalize l.getD m 0=b at g2 hs
  have r1:(aB (rvK l k))[k]?=some [.p (.int .i64 a)]:=oE g1
  have r2:(aB (rvK l k))[m]?=some [.p (.int .i64 b)]:=oE g2
  have r3:(aB ((rvK l k).set k b))[m]?=some [.p (.int .i64 b)]:=oE (by rw[List.getElem?_set_ne (by omega)];exact g2)
  have e1:∀t,(h.set id t)[id]?=some t:=λt=>List.getElem?_set_self hid
  rw[hmi]
  simp-implicitDefEqProofs[hkm,e1,hkl,hml,r1,r2,r3,Ci,hs]
  exact⟨k+1,by omega,by omega,ab (by simp) (by simp[below,hw1,hw2,hid])⟩
 ·have hcf:¬(k:Int)<(l.length:Int)-1-k:=by omega
  rw[GM (by omega)]
  simp-implicitDefEqProofs[hcf]
theorem BH{f:FuncId}{args:List AV}{l:List Int}(H:AC Tryz.prog G f args [] λr h=>∃id,r= .ret (.sl id 1 0 l.length)/\h[id]?=some (.row 1 (aB l))):AC Tryz.prog G f args [] λr h=>r= .ret (.sl 0 1 0 l.length)/\h=[.row 1 (aB l)]:=
 H.gc (λt v h ⟨_,e,_⟩=>by cases e) λv h ⟨id,e1,e2⟩=>by
  cases e1
  refine⟨.sl 0 1 0 l.length,[.row 1 (aB l)],⟨[id],by simp,λi hi=>by simp at hi,by simp,by simp[below],by simp[ren],cP e2 (λx hx=>by obtain⟨n,_,rfl⟩:=List.mem_map.1 hx;simp[below]) gq⟩,rfl,rfl⟩
def uQ(bs:List Bk):List Int:=if aV bs then(aQ (fy bs)).reverse else[]
theorem Cg(c:Cd)(hc:CBd c):VF Tryz.prog G fN [.agg (c.cs.map .p)] (.p (aE (uQ c.blocks))):=by
 have hcs:=c.cs_eq2
 have hbl:bkL c.blocks= .lst 5 (c.blocks.map Bk.cs):=rfl
 have hl1:=hc.1
 have hg:=kU G c hc
 rw[hcs,hbl] at hg
 refine pY G ?_
 refine AC.go sG ?_
 simp-implicitDefEqProofs[ka,hcs,hbl]
 refine hg.use ?_
 cases hfit:aV c.blocks with
 |false=>
  have hm:uQ c.blocks=[]:=by rw[uQ,hfit];rfl
  rw[hm]
  simp-implicitDefEqProofs[]
  exact .nils 1
 |true=>
  have hm:uQ c.blocks=(aQ (fy c.blocks)).reverse:=by rw[uQ,if_pos hfit]
  have hvl:(fy c.blocks).length<=1073741824:=by
   have h0:sn (List.replicate c.blocks.length false) 0=false:=by rw[dc];have:=bL hfit;exact decide_eq_false (by omega)
   have:=((nP (nxC c.blocks) c.blocks.length).2 0 (List.replicate c.blocks.length false,[]) h0 (by rw[fC];exact Nat.le_refl _)).1
   simp only[fC,List.length_nil] at this
   rw[fy];omega
  have hv:=BH (l:=aQ (fy c.blocks)) G ((tR G c hc hfit).mono λr h ⟨id,_,h1,h2⟩=>⟨id,by rw[iZ];exact h1,h2⟩)
  rw[hcs,hbl] at hv
  generalize hL:aQ (fy c.blocks)=L at hv hm
  have hLl:L.length<=1073741824:=by rw[←hL,iZ];exact hvl
  rw[hm]
  simp-implicitDefEqProofs[]
  refine(AC.lift hv (by simp[below]) rfl (by simp[zx,aB,pB,nA])).mono ?_
  rintro r h ⟨rfl,rfl⟩
  have hsh:∀n,bO n (.row 1 (aB L))= .row 1 (aB L):=λn=>by simp[bO,aB,cd,bh]
  simp-implicitDefEqProofs[aa,bh,hsh]
  refine(Cw G (id:=1) L hLl rfl).mono ?_
  rintro r h ⟨rfl,rfl⟩
  simp-implicitDefEqProofs[aa]
  exact Out.view (.inr ⟨1,by simp,rfl⟩)
end
section
theorem Im{l:List Nat}(nd:l.Nodup){i j x:Nat}(hi:l[i]?=some x)(hj:l[j]?=some x):i=j:=by
 obtain⟨h1,e1⟩:=List.getElem?_eq_some_iff.1 hi
 obtain⟨h2,e2⟩:=List.getElem?_eq_some_iff.1 hj
 have hp:=List.pairwise_iff_getElem.1 nd
 rcases Nat.lt_trichotomy i j with h|h|h
 ·exact absurd (e1.trans e2.symm) (hp i j h1 h2 h)
 ·exact h
 ·exact absurd (e2.trans e1.symm) (hp j i h2 h1 h)
theorem Fy{l:List Nat}(nd:l.Nodup):l.reverse.Nodup:=List.pairwise_reverse.2 (List.Pairwise.imp Ne.symm nd)
theorem Gp{bs:List Bk}(h:aV bs=true):sn (List.replicate bs.length false) 0=false:=by
 rw[dc]
 have:=bL h
 have e1:¬bs.length<=0:=by omega
 simp only[e1,decide_false]
theorem Iy{bs:List Bk}(h:aV bs=true):∃l,fy bs=l++[0]/\(l++[0]).Nodup/\(∀x,x∈l++[0]↔dE bs x=true)/\∀x∈l,∃p,Aft (l++[0]) x p/\x∈nxC bs p:=by
 obtain⟨l,o,hl⟩:=rG (nx:=nxC bs) [] (Gp h) (f:=bs.length) (by rw[fC];exact Nat.le_refl _)
 have h0:0∉l:=by
  have:=o.nodup
  rw[List.nodup_append] at this
  exact λhm=>this.2.2 0 hm 0 (by simp) rfl
 refine⟨l,by rw[fy,o.outE];rfl,o.nodup,λx=>?_,λx hx=>?_⟩
 ·rw[hl x,rchB_iff]
  have e:(λy=>sn (List.replicate bs.length false) y=true)=λy=>False\/bs.length<=y:=by
   funext y;rw[dc];simp
  rw[e]
  exact Fw h
 ·rcases o.par x (by simp[hx]) with h1|h1
  ·rw[List.mem_singleton] at h1
   subst h1;exact absurd hx h0
  ·exact h1
def lZ(bs:List Bk):List Nat:=(fy bs).reverse
theorem FU{bs:List Bk}(h:aV bs=false):uQ bs=[]:=by rw[uQ,h];rfl
structure OrdOk (bs:List Bk) (l:List Nat):Prop where
 head:∃t,l=0::t
 nd:l.Nodup
 mem:∀x,x∈l↔dE bs x=true
 par:∀(i:Nat) x,l[i+1]?=some x->∃p∈l.take (i+1),x∈nxC bs p
theorem sR{bs:List Bk}(h:aV bs=true):OrdOk bs (lZ bs):=by
 obtain⟨l,e,nd,hm,hp⟩:=Iy h
 have e2:lZ bs=0::l.reverse:=by rw[lZ,e];simp
 refine⟨⟨_,e2⟩,?_,λx=>?_,λi x hi=>?_⟩
 ·rw[lZ,e];exact Fy nd
 ·rw[lZ,List.mem_reverse,e];exact hm x
 ·rw[e2,List.getElem?_cons_succ] at hi
  have hx:x∈l:=List.mem_reverse.1 (List.mem_of_getElem? hi)
  obtain⟨p,⟨u,v,e3,hv⟩,hn⟩:=hp x hx
  refine⟨p,?_,hn⟩
  rw[lZ,e,e3,List.reverse_append,List.reverse_cons,List.append_assoc]
  have hil:i+1<((l++[0]).reverse).length:=by
   have:=(List.getElem?_eq_some_iff.1 hi).1
   simp at this⊢;omega
  have hg:(v.reverse++([x]++u.reverse))[i+1]?=some x:=by
   rw[←hi]
   have:v.reverse++([x]++u.reverse)=0::l.reverse:=by
    rw[←e2,lZ,e,e3,List.reverse_append,List.reverse_cons,List.append_assoc]
   rw[this,List.getElem?_cons_succ]
  have hnd:(v.reverse++([x]++u.reverse)).Nodup:=by
   have:=Fy nd
   rwa[e3,List.reverse_append,List.reverse_cons,List.append_assoc] at this
  have hlv:v.length=i+1:=by
   have h1:(v.reverse++([x]++u.reverse))[v.length]?=some x:=by
    rw[List.getElem?_append_right (by simp)];simp
   exact Im hnd h1 hg
  rw[←hlv,List.take_append_of_le_length (by simp)]
  rw[List.take_of_length_le (by simp)]
  exact List.mem_reverse.2 hv
theorem Cm{l:List Nat}{p:Nat->Bool}{n:Nat}(nd:l.Nodup)(h:∀x,x∈l↔x<n/\p x=true):l.length=((List.range n).filter p).length:=by
 have h2:((List.range n).filter p).Nodup:=List.Nodup.sublist List.filter_sublist List.nodup_range
 exact((List.perm_ext_iff_of_nodup nd h2).2 λx=>by rw[h x,List.mem_filter,List.mem_range]).length_eq
theorem Hn{bs:List Bk}(h:aV bs=true):(lZ bs).length=(jA (dE bs) bs.length).length:=by
 rw[jA,List.length_map]
 exact Cm (sR h).nd λx=>by
  rw[(sR h).mem x]
  exact⟨λhx=>⟨zU h (rchB_iff.1 hx),hx⟩,λhx=>hx.2⟩
theorem tZ{l:List Nat}{x:Nat}:(x:Int)∈aQ l↔x∈l:=by
 simp only[aQ,List.mem_map]
 constructor
 ·rintro⟨y,hy,e⟩
  have:y=x:=by have e:(y:Int)=(x:Int):=e;omega
  exact this▸hy
 ·exact λh=>⟨x,h,rfl⟩
theorem vT{p:Nat->Bool}{n x:Nat}:(x:Int)∈jA p n↔x<n/\p x=true:=by
 rw[jA]
 have:= @tZ ((List.range n).filter p) x
 rw[aQ] at this
 rw[this,List.mem_filter,List.mem_range]
theorem yK{p:Nat->Bool}{n:Nat}{x:Int}(h:x∈jA p n):0<=x/\x.toNat<n/\p x.toNat=true/\((x.toNat:Nat):Int)=x:=by
 rw[jA,List.mem_map] at h
 obtain⟨y,hy,rfl⟩:=h
 rw[List.mem_filter,List.mem_range] at hy
 exact⟨Int.natCast_nonneg y,by simpa using hy.1,by simpa using hy.2,by simp⟩
end
section
theorem pG{xs:List Int}(hp:xs.Pairwise (· <= ·)):∀j,j<xs.length->∃i,i<=j/\Lib.keeps xs.toArray i=true/\xs[i]! =xs[j]! :=by
 intro j
 induction j with
 |zero=>intro h;exact⟨0,Nat.le_refl _,Lib.keeps_lt_one _ 0 (by omega),rfl⟩
 |succ j ih=>
  intro h
  by_cases e:xs.toArray[j+1]! =xs.toArray[j+1-1]!
  ·obtain⟨i,h1,h2,h3⟩:=ih (by omega)
   refine⟨i,by omega,h2,?_⟩
   have e':xs[j+1]! =xs[j]! :=by simpa using e
   rw[h3,e']
  ·exact⟨j+1,Nat.le_refl _,Lib.keeps_pos e,rfl⟩
theorem uR(xs:List Int):(Lib.compact xs).length<=xs.length:=by
 unfold Lib.compact Lib.compactUpTo
 rw[List.length_map]
 have:=List.length_filter_le (Lib.keeps xs.toArray) (List.range xs.length)
 rwa[List.length_range] at this
theorem uY{xs:List Int}(hp:xs.Pairwise (· <= ·))(x:Int):x∈Lib.compact xs↔x∈xs:=by
 unfold Lib.compact Lib.compactUpTo
 simp only[List.mem_map,List.mem_filter,List.mem_range]
 constructor
 ·rintro⟨j,⟨h1,_⟩,rfl⟩
  have e:xs.toArray[j]! =xs[j]:=by simp[h1]
  rw[e]
  exact List.getElem_mem h1
 ·intro h
  obtain⟨j,hj,rfl⟩:=List.mem_iff_getElem.1 h
  obtain⟨i,h1,h2,h3⟩:=pG hp j hj
  refine⟨i,⟨by omega,h2⟩,?_⟩
  have e:xs.toArray[i]! =xs[i]! :=by simp
  rw[e,h3]
  simp[hj]
theorem yE{xs:List Int}(hp:xs.Pairwise (· <= ·)):(Lib.compact xs).Pairwise (· < ·):=by
 unfold Lib.compact Lib.compactUpTo
 rw[List.pairwise_map]
 have hr:((List.range xs.length).filter (Lib.keeps xs.toArray)).Pairwise (· < ·):=List.Pairwise.filter _ List.pairwise_lt_range
 refine List.Pairwise.imp_of_mem (λ{a b} ha hb hab=>?_) hr
 simp only[List.mem_filter,List.mem_range] at ha hb
 obtain⟨hbl,hbk⟩:=hb
 unfold Lib.keeps at hbk
 have hne:xs.toArray[b]! ≠xs.toArray[b-1]! :=by
  rcases of_decide_eq_true hbk with h|h
  ·omega
  ·exact h
 have h1:xs.toArray[b]! =xs[b]:=by simp[hbl]
 have h2:xs.toArray[b-1]! =xs[b-1]:=by simp[show b-1<xs.length by omega]
 have h3:xs.toArray[a]! =xs[a]:=by simp[ha.1]
 rw[h1,h2] at hne
 rw[h1,h3]
 have k1:xs[b-1]<=xs[b]:=List.pairwise_iff_getElem.1 hp (b-1) b (by omega) hbl (by omega)
 have k2:xs[a]<=xs[b-1]:=by
  by_cases e:a=b-1
  ·subst e;exact Int.le_refl _
  ·exact List.pairwise_iff_getElem.1 hp a (b-1) ha.1 (by omega) (by omega)
 omega
theorem yp(xs:List Int):(xs.mergeSort λx y=>decide (x<=y)).Pairwise (· <= ·):=by
 have:=List.pairwise_mergeSort (le:=λx y:Int=>decide (x<=y)) (λa b c h1 h2=>by simp at*;omega) (λa b=>by simp;omega) xs
 exact this.imp λh=>by simpa using h
theorem AH{a b:List Int}(ha:a.Pairwise (· < ·))(hb:b.Pairwise (· < ·))(hm:∀x,x∈a↔x∈b):a=b:=by
 refine List.Perm.eq_of_pairwise (le:=(· < ·)) (λx y _ _ h1 h2=>by omega) ha hb ?_
 exact(List.perm_ext_iff_of_nodup (ha.imp λh=>by omega) (hb.imp λh=>by omega)).2 hm
theorem Hg(p:Nat->Bool)(n:Nat):(jA p n).Pairwise (· < ·):=by
 rw[jA,List.pairwise_map]
 exact(List.Pairwise.filter _ List.pairwise_lt_range).imp λh=>by
  have h:_<_:=h
  exact Int.ofNat_lt.2 h
theorem CM{p:Nat->Bool}{n:Nat}{x:Int}:x∈jA p n↔0<=x/\x.toNat<n/\p x.toNat=true:=by
 constructor
 ·intro h
  obtain⟨h1,h2,h3,_⟩:=yK h
  exact⟨h1,h2,h3⟩
 ·rintro⟨h1,h2,h3⟩
  have:=(vT (p:=p) (n:=n) (x:=x.toNat)).2 ⟨h2,h3⟩
  rwa[show((x.toNat:Nat):Int)=x by omega] at this
def inI(l:List Int)(k:Nat):Bool:=decide ((k:Int)∈l)
def pc(l:List Int):List Int:=Lib.compact (l.mergeSort λx y=>decide (x<=y))
theorem Fz{l:List Int}{n:Nat}(h:∀x∈l,0<=x/\x.toNat<n):pc l=jA (inI l) n:=by
 refine AH (yE (yp l)) (Hg _ _) λx=>?_
 rw[pc,uY (yp l),List.mem_mergeSort,CM,inI,decide_eq_true_iff]
 constructor
 ·intro hx
  obtain⟨h1,h2⟩:=h x hx
  exact⟨h1,h2,by rwa[show((x.toNat:Nat):Int)=x by omega]⟩
 ·rintro⟨h1,_,h3⟩
  rwa[show((x.toNat:Nat):Int)=x by omega] at h3
end
section
theorem AC.shelfNil{P:Program}{G:az}{f:FuncId}{h:List AO}{rv:AV}{r:Value}(hf:ee P f=true)(hr:∀(W:World) (S:Nat->Prop) (φ:Aw.Place) (n:Nat),VRel W S φ n rv r)
 (H:∀W:World,Calls P f #[.slice none 0 0] W λe W'=>e= .returned r/\W'=W):AC P G f [.nils] h λx h'=>x= .ret rv/\h'=h:=by
 refine⟨hf,λW S φ vs hH hA=>?_⟩
 have hs1:vs.size=1:=hA.1
 obtain⟨v0,rfl⟩:∃v0,vs=#[v0]:=⟨vs[0],by
  apply Array.ext
  ·simp[hs1]
  ·intro i h1 h2
   have:i=0:=by omega
   subst this;rfl⟩
 have hv:=hA.2 0 _ v0 rfl rfl
 cases hv
 refine(H W).mono ?_
 rintro e W' ⟨rfl,rfl⟩
 exact⟨.ret rv,S,φ,h,⟨rfl,rfl⟩,hH,.ret _ _ (hr _ _ _ _),Keep.refl hH⟩
theorem AC.shelfEmpty{P:Program}{G:az}{f:FuncId}{h:List AO}{id sz off:Nat}{rv:AV}{r:Option Addr->Nat->Value}(hf:ee P f=true)(hr:∀(W:World) (S:Nat->Prop) (φ:Aw.Place) (n:Nat) (p:Option Addr) (cap:Nat),VRel W S φ n (.sl id sz off 0) (.slice p 0 cap)->VRel W S φ n rv (r p cap))
 (H:∀(W:World) (p:Option Addr) (cap:Nat),Calls P f #[.slice p 0 cap] W λe W'=>e= .returned (r p cap)/\W'=W):AC P G f [.sl id sz off 0] h λx h'=>x= .ret rv/\h'=h:=by
 refine⟨hf,λW S φ vs hH hA=>?_⟩
 have hs1:vs.size=1:=hA.1
 obtain⟨v0,rfl⟩:∃v0,vs=#[v0]:=⟨vs[0],by
  apply Array.ext
  ·simp[hs1]
  ·intro i h1 h2
   have:i=0:=by omega
   subst this;rfl⟩
 have hv:=hA.2 0 _ v0 rfl rfl
 have hv2:=hv
 cases hv with
 |sl _ _ _ _ cap ba _ hl hb hc=>
  refine(H W ba cap).mono ?_
  rintro e W' ⟨rfl,rfl⟩
  exact⟨.ret rv,S,φ,h,⟨rfl,rfl⟩,hH,.ret _ _ (hr _ _ _ _ _ _ hv2),Keep.refl hH⟩
variable (G:az)
theorem Ip{h:List AO}{id:Nat}{xs:List Int}(hid:h[id]?=some (iS xs))(hx:xs≠[])(hb:xs.length<4611686018427387904):
 AC Tryz.prog G (lays189_ren.f 189) [.sl id 1 0 xs.length] h λx h'=>x= .ret (.tup [])/\h'=h.set id (iS (xs.mergeSort λx y=>decide (x<=y))):=
 AC.shelfInts (r:=λ_ _ _=> .tuple #[]) (by kernel_rfl) hid hx (by simp) (λ_ _ _ _ _ _ _ _=> .tup [] #[] rfl (λj c v e=>by simp at e))
  λblk off cap W hH hbk _=>Any.slices_Sort_int vt blk off cap xs W hH hbk hb
theorem Cq{h:List AO}{id:Nat}{xs:List Int}(hid:h[id]?=some (iS xs))(hx:xs≠[])(hb:xs.length<=9223372036854775807)(hl:(Lib.compact xs).length<=xs.length):
 AC Tryz.prog G (lays20_ren.f 20) [.sl id 1 0 xs.length] h λx h'=>x= .ret (.sl id 1 0 (Lib.compact xs).length)/\h'=h.set id (iS (Lib.compact xs++List.replicate (xs.length-(Lib.compact xs).length) 0)):=by
 refine AC.shelfInts (r:=λblk off cap=> .slice (some ⟨blk,off,none⟩) (Lib.compact xs).length cap) (by kernel_rfl) hid hx (by simp;omega) (λW S φ n cap hi hc hs=>?_) λblk off cap W hH hbk hcap=>?_
 ·exact .sl id 1 0 _ cap _ hi (by omega) (λ_=>by simp) (λc t fr e=>by have:=hs c t fr e;omega)
 ·refine(Any.slices_Compact_int zV blk off cap xs W hH hb hcap).mono ?_
  rintro e W' ⟨rfl,q,rfl⟩
  exact⟨rfl,q,#[],by simp⟩
theorem yN(id:Nat)(h:List AO):AC Tryz.prog G (lays189_ren.f 189) [.sl id 1 0 0] h λx h'=>x= .ret (.tup [])/\h'=h:=
 AC.shelfEmpty (r:=λ_ _=> .tuple #[]) (by kernel_rfl) (λ_ _ _ _ _ _ _=> .tup [] #[] rfl (λj c v e=>by simp at e)) λW p cap=>Any.slices_Sort_int_none vt p cap W
theorem sF(id:Nat)(h:List AO):AC Tryz.prog G (lays20_ren.f 20) [.sl id 1 0 0] h λx h'=>x= .ret (.sl id 1 0 0)/\h'=h:=
 AC.shelfEmpty (r:=λp cap=> .slice p 0 cap) (by kernel_rfl) (λ_ _ _ _ _ _ h=>h) λW p cap=>Any.slices_Compact_int_empty zV p cap W
theorem CS(h:List AO):AC Tryz.prog G (lays189_ren.f 189) [.nils] h λx h'=>x= .ret (.tup [])/\h'=h:=
 AC.shelfNil (r:= .tuple #[]) (by kernel_rfl) (λ_ _ _ _=> .tup [] #[] rfl (λj c v e=>by simp at e)) λW=>Any.slices_Sort_int_none vt none 0 W
theorem uH(h:List AO):AC Tryz.prog G (lays20_ren.f 20) [.nils] h λx h'=>x= .ret .nils/\h'=h:=
 AC.shelfNil (r:= .slice none 0 0) (by kernel_rfl) (λ_ _ _ _=> .nils) λW=>Any.slices_Compact_int_empty zV none 0 W
theorem yt{h:List AO}{id m:Nat}{l:List Int}{t:List Int}(e:h[id]?=some (iS (l++t)))(hm:m=l.length):View h (.sl id 1 0 m) (aE l):=by
 have:=View.fl (h:=h) id 1 0 ((l++t).map λn=>[AV.p (.int .i64 n)]) (l.map λn=>PV.int .i64 n) e (λi q hq=>by
  rw[oV,Nat.zero_add,List.map_append,List.getElem?_append_left (by have:=(List.getElem?_eq_some_iff.1 hq).1;simpa using this),List.getElem?_map]
  rw[List.getElem?_map] at hq
  cases hh:l[i]? with
  |none=>rw[hh] at hq;cases hq
  |some x=>rw[hh] at hq;cases hq;rfl)
 rw[List.length_map,List.map_map] at this
 rw[hm]
 exact this
theorem DM{h:List AO}{id:Nat}(l:List Int)(hl:l.length<=1073741824)(hn:l≠[])(hg:h[id]?=some (iS l)):AC Tryz.prog G cq [.sl id 1 0 l.length] h λx h'=>∃V os,x= .ret V/\h'=h++os/\((V= .nils/\l=[])\/∃id,V= .sl id 1 0 l.length/\h.length<=id/\h'[id]?=some (iS l)):=by
 have hil:=(List.getElem?_eq_some_iff.1 hg).1
 have hgm:∀t,(h++t)[id]?=some (.row 1 (l.map λx=>[.p (.int .i64 x)])):=λt=>by rw[List.getElem?_append_left hil];exact hg
 have hge:=λt hh=>fm (hgm t) hh
 refine AC.go mE ?_
 have htk:List.take l.length (l.map λx=>[AV.p (.int .i64 x)])=l.map λx=>[AV.p (.int .i64 x)]:=List.take_of_length_le (by simp)
 have hll:(l.map λx=>[AV.p (.int .i64 x)]).length=l.length:=by simp
 simp-implicitDefEqProofs[gD,hgm,hge,htk,hll]
 exact⟨List.length_pos_iff.2 hn,⟨by omega,by omega⟩,rfl⟩
theorem Ha(A:AV)(l:List Int)(hl:l.length<=1073741824)(h:List AO)(hclone:AC Tryz.prog G cq [A] h λx h'=>∃V os,x= .ret V/\h'=h++os/\((V= .nils/\l=[])\/∃id,V= .sl id 1 0 l.length/\h.length<=id/\h'[id]?=some (iS l))):
 AC Tryz.prog G kP [A] h λx h'=>h.length<=h'.length/\(∀i,i<h.length->h'[i]?=h[i]?)/\((x= .ret .nils/\pc l=[])\/∃id t,h.length<=id/\x= .ret (.sl id 1 0 (pc l).length)/\h'[id]?=some (iS (pc l++t))):=by
 generalize hS:l.mergeSort (λx y=>decide (x<=y))=S
 have hSl:S.length=l.length:=by rw[←hS,List.length_mergeSort]
 have hcl:=uR S
 have hO:pc l=Lib.compact S:=by rw[pc,hS]
 rw[hO]
 refine AC.go yw ?_
 simp-implicitDefEqProofs[pu]
 refine hclone.mono ?_
 rintro r h1 ⟨V,os,rfl,rfl,⟨rfl,hn⟩|⟨id,rfl,hid,hr⟩⟩
 ·have hS0:S=[]:=by rw[hn] at hSl;exact List.length_eq_zero_iff.1 (by simpa using hSl)
  simp-implicitDefEqProofs[aa]
  refine(CS G _).mono ?_
  rintro r h' ⟨rfl,rfl⟩
  simp-implicitDefEqProofs[aa]
  refine(uH G _).mono ?_
  rintro r h'' ⟨rfl,rfl⟩
  simp-implicitDefEqProofs[aa]
  rw[hS0]
  exact⟨λi hi=>List.getElem?_append_left hi,rfl⟩
 ·have hidl:=(List.getElem?_eq_some_iff.1 hr).1
  by_cases hn:l=[]
  ·subst hn
   have hS0:S=[]:=List.length_eq_zero_iff.1 (by simpa using hSl)
   subst hS0
   simp-implicitDefEqProofs[aa]
   refine(yN G id _).mono ?_
   rintro r h' ⟨rfl,rfl⟩
   simp-implicitDefEqProofs[aa]
   refine(sF G id _).mono ?_
   rintro r h'' ⟨rfl,rfl⟩
   simp-implicitDefEqProofs[aa]
   exact⟨λi hi=>List.getElem?_append_left hi,id,hid,⟨rfl,rfl⟩,[],hr⟩
  simp-implicitDefEqProofs[aa]
  refine(Ip G hr hn (by omega)).mono ?_
  rintro r h' ⟨rfl,rfl⟩
  rw[hS]
  have hC:=Cq G (h:=(h++os).set id (iS S)) (id:=id) (xs:=S) (List.getElem?_set_self hidl) (by intro e;rw[e] at hSl;simp at hSl;exact hn (List.length_eq_zero_iff.1 hSl.symm)) (by omega) hcl
  rw[hSl] at hC
  simp-implicitDefEqProofs[aa]
  refine hC.mono ?_
  rintro r h'' ⟨rfl,rfl⟩
  simp-implicitDefEqProofs[aa]
  refine⟨λi hi=>?_,id,hid,rfl,_,List.getElem?_set_self (by simpa using hidl)⟩
  rw[List.getElem?_set_ne (by omega),List.getElem?_append_left hi]
end
section
noncomputable def bP (bs:List Bk):List Int:=if aV bs then jA (dE bs) bs.length else[]
theorem ml{bs:List Bk}(h:aV bs=true):bP bs=jA (dE bs) bs.length:=by rw[bP,if_pos h]
theorem kX{bs:List Bk}(h:aV bs=false):bP bs=[]:=by rw[bP,h];rfl
theorem GR{bs:List Bk}(h:aV bs=true){x:Nat}(hx:x∈lZ bs):x<bs.length:=zU h (rchB_iff.1 (((sR h).mem x).1 hx))
theorem zL{p q:Nat->Bool}{n:Nat}(h:∀k,k<n->p k=q k):jA p n=jA q n:=by
 rw[jA,jA,List.filter_congr λk hk=>h k (List.mem_range.1 hk)]
theorem GN{bs:List Bk}(h:aV bs=true){l:List Int}(hm:∀x:Nat,(x:Int)∈l↔x∈lZ bs):jA (inI l) bs.length=bP bs:=by
 rw[ml h]
 refine zL λk _=>?_
 rw[inI,Bool.eq_iff_iff,decide_eq_true_iff,hm,(sR h).mem]
theorem vL{bs:List Bk}(x:Nat):(x:Int)∈aQ (fy bs)↔x∈lZ bs:=by
 rw[tZ,lZ,List.mem_reverse]
variable (G:az)
theorem py(c:Cd)(hc:CBd c):VF Tryz.prog G bF [.agg (c.cs.map .p)] (.p (aE (bP c.blocks))):=by
 have hcs:=c.cs_eq2
 have hbl:bkL c.blocks= .lst 5 (c.blocks.map Bk.cs):=rfl
 have hgk:=kU G c hc
 rw[hcs,hbl] at hgk
 refine pY G ?_
 refine AC.go oy ?_
 simp-implicitDefEqProofs[iY,hcs,hbl]
 refine hgk.use ?_
 cases e1:aV c.blocks with
 |false=>
  rw[kX e1]
  simp-implicitDefEqProofs[]
  exact .nils 1
 |true=>
  have hv:=BH (l:=aQ (fy c.blocks)) G ((tR G c hc e1).mono λr h ⟨id,_,h1,h2⟩=>⟨id,by rw[iZ];exact h1,h2⟩)
  rw[hcs,hbl] at hv
  have hne:aQ (fy c.blocks)≠[]:=by
   obtain⟨t,e⟩:=(sR e1).head
   intro h0
   have:=congrArg List.length h0
   rw[iZ,←List.length_reverse,show(fy c.blocks).reverse=lZ c.blocks from rfl,e] at this
   simp at this
  have hon:pc (aQ (fy c.blocks))=bP c.blocks:=by
   rw[Fz (n:=c.blocks.length) λx hx=>by
    obtain⟨y,hy,rfl⟩:=List.mem_map.1 hx
    exact⟨Int.natCast_nonneg y,by simpa using GR e1 (by rw[lZ];exact List.mem_reverse.2 hy)⟩]
   exact GN e1 λx=>vL x
  have hle:(aQ (fy c.blocks)).length<=1073741824:=by
   have:=Hn e1
   have:=yQ (dE c.blocks) c.blocks.length
   have:=hc.1
   rw[lZ,List.length_reverse] at*
   rw[iZ];omega
  rw[←hon]
  generalize aQ (fy c.blocks)=L at hv hne hle
  have hsh:∀n,bO n (.row 1 (aB L))= .row 1 (aB L):=λn=>by simp[bO,aB,cd,bh]
  simp-implicitDefEqProofs[]
  refine(AC.lift hv (by simp[below]) rfl (by simp[zx,aB,pB,nA])).mono ?_
  rintro r h ⟨rfl,rfl⟩
  simp-implicitDefEqProofs[aa,bh,hsh]
  refine(Ha G (.sl 1 1 0 L.length) L hle _ (DM G L hle hne rfl)).mono ?_
  rintro r h ⟨_,_,⟨rfl,hn⟩|⟨id,t,_,rfl,hid⟩⟩
  ·simp-implicitDefEqProofs[aa]
   rw[hn]
   exact .nils 1
  ·simp-implicitDefEqProofs[aa]
   exact yt hid rfl
end
section
variable (G:az)
theorem Kn(xs:List Int)(hb:xs.length<=1073741824):VF Tryz.prog G lV [.p (aE xs),.p (aE xs)] (.p (.bool true)):=by
 refine AC.go ty ?_
 have hsl:∀l,aE l= .lst 1 (l.map λw=>[.int .i64 w]):=λ_=>rfl
 simp-implicitDefEqProofs[lL,hsl]
 refine aJ (λi:Nat=>aA 29 [(0,.p (aE xs)),(1,.p (aE xs)),(10,.p (.int .i64 xs.length)),(11,.p (.int .i64 i))]) (λ_=>[]) (λi=>i<=xs.length) (λi=>xs.length-i) 0 (by simp) ?_ ?_
 ·exact bp rfl (by simp[below,aE])
 intro i hi
 simp-implicitDefEqProofs[hsl]
 refine aG (λh1=>?_) (λh1=>?_)
 ·simp at h1
  have hg:xs[i]?=some xs[i]:=List.getElem?_eq_getElem h1
  generalize xs[i]=x at hg
  simp-implicitDefEqProofs[hg]
  refine⟨i+1,by omega,by omega,bp rfl ?_⟩
  simp[below,aE,w1 (i:=i) (by omega)]
 ·simp at h1
  simp-implicitDefEqProofs[]
theorem Bb(xs:List Int)(k:Int)(hb:xs.length<=1073741824):VF Tryz.prog G ec [.p (aE xs),.p (.int .i64 k)] (.p (.bool (decide (k∈xs)))):=by
 refine AC.go uT ?_
 have hsl:∀l,aE l= .lst 1 (l.map λw=>[.int .i64 w]):=λ_=>rfl
 simp-implicitDefEqProofs[nR,hsl]
 refine aJ (λi:Nat=>aA 17 [(1,.p (.int .i64 k)),(7,.p (aE xs)),(8,.p (.int .i64 xs.length)),(9,.p (.int .i64 i))]) (λ_=>[]) (λi=>i<=xs.length/\k∉xs.take i) (λi=>xs.length-i) 0 (by simp) ?_ ?_
 ·exact bp rfl (by simp[below,aE])
 intro i ⟨hi,hn⟩
 simp-implicitDefEqProofs[hsl]
 refine aG (λh1=>?_) (λh1=>?_)
 ·simp at h1
  have hg:xs[i]?=some xs[i]:=List.getElem?_eq_getElem h1
  have hT:xs.take (i+1)=xs.take i++[xs[i]]:=aw h1
  have hm:=List.getElem_mem h1
  generalize xs[i]=x at hg hT hm
  by_cases hx:x=k
  ·subst hx
   simp-implicitDefEqProofs[hg,hm]
  ·simp-implicitDefEqProofs[hg,hx]
   refine⟨i+1,⟨by omega,?_⟩,by omega,bp rfl ?_⟩
   ·rw[hT,List.mem_append]
    rintro(h|h)
    ·exact hn h
    ·exact hx (List.mem_singleton.1 h).symm
   ·simp[below,aE,w1 (i:=i) (by omega)]
 ·simp at h1
  rw[List.take_of_length_le h1] at hn
  simp-implicitDefEqProofs[hn]
end
section
theorem tX{bs:List Bk}:(bP bs).length<=bs.length:=by
 rw[bP]
 split
 ·exact yQ _ _
 ·simp
variable (G:az)
end
section
theorem Ay{bs:List Bk}{x:Nat}:(x:Int)∈bP bs↔aV bs=true/\dE bs x=true:=by
 cases h:aV bs with
 |false=>rw[kX h];simp
 |true=>
  rw[ml h,vT]
  exact⟨λh1=>⟨rfl,h1.2⟩,λh1=>⟨zU h (rchB_iff.1 h1.2),h1.2⟩⟩
theorem zO{bs:List Bk}{v:Int}(h:v∈bP bs):aV bs=true/\∃x:Nat,v=(x:Int)/\x<bs.length/\dE bs x=true:=by
 cases hf:aV bs with
 |false=>rw[kX hf] at h;simp at h
 |true=>
  rw[ml hf] at h
  obtain⟨h1,h2,h3,h4⟩:=yK h
  exact⟨rfl,v.toNat,h4.symm,h2,h3⟩
structure FqS where (i:Nat)
variable (G:az)
end
section
theorem Cc{bs:List Bk}(hfit:aV bs=true)(x:Nat):decide ((x:Int)∈bP bs)=dE bs x:=by
 rw[Bool.eq_iff_iff,decide_eq_true_iff,Ay]
 simp[hfit]
variable (G:az)
end
section
theorem mo{bs:List Bk}(b:Int):decide (b∈bP bs)=(inC bs b&&dE bs b.toNat):=by
 cases hf:aV bs with
 |false=>rw[kX hf,vo hf];simp
 |true=>
  cases hi:inC bs b with
  |false=>
   rw[Bool.false_and,decide_eq_false_iff_not]
   intro hm
   obtain⟨_,x,rfl,hx,_⟩:=zO hm
   rw[BR hf hx] at hi;cases hi
  |true=>
   obtain⟨_,h0,h1,h2⟩:=jt hi
   rw[Bool.true_and,←Cc hf,h2]
variable (G:az)
end
section
theorem mt:AK.whole dt=FK.ak dA:=rfl
variable (G:az)
theorem zD(c:Cd)(hc:CBd c)(a b:Int):VF Tryz.prog G cU [.agg (c.cs.map .p),.p (.int .i64 a),.p (.int .i64 b)] (.p (.bool (nY c.blocks a b))):=by
 have hcs:=c.cs_eq2
 have hbl:bkL c.blocks= .lst 5 (c.blocks.map Bk.cs):=rfl
 have h1:=λb=>Hk G c hc b
 have h2:=λhf=>Df G c hc hf
 rw[hcs,hbl] at h1 h2
 refine AC.go oL ?_
 simp-implicitDefEqProofs[iT,hcs,hbl]
 refine(h1 a).use ?_
 cases e1:inC c.blocks a with
 |false=>
  rw[nY,e1]
  simp-implicitDefEqProofs[]
 |true=>
  simp-implicitDefEqProofs[]
  refine(h1 b).use ?_
  cases e2:inC c.blocks b with
  |false=>
   rw[nY,e1,e2]
   simp-implicitDefEqProofs[]
  |true=>
   obtain⟨hfit,ha0,ha1,ha2⟩:=jt e1
   obtain⟨_,hb0,hb1,hb2⟩:=jt e2
   rw[nY,e1,e2]
   obtain⟨DL,BL,hd,hdl,hdg,hbll,hbg⟩:=uj c.blocks
   have x1:=hdg _ ha1
   have x2:=hbg a.toNat b.toNat hb1
   simp-implicitDefEqProofs[]
   refine(h2 hfit).use ?_
   rw[hd]
   simp-implicitDefEqProofs[x1,x2,ha0,hb0]
structure DxS where (i:Nat) (V:AV) (W:List AO)
def NOk(W:List AO)(N:AV)(l:List Int):Prop:=(N= .nils/\l=[])\/∃v,N= .sl (v+2) 1 0 l.length/\W[v]?=some (.row 1 (aB l))
def pN(a:Int)(k:Nat)(x:Bk):List Int:=if(k:Int)=a then[] else x.next
def jc(a:Int)(bs:List Bk):List Bk:=bs.zipIdx.map λx=>{x.1 with next:=pN a x.2 x.1}
def DmI(bs:List Bk)(a:Int)(i:Nat)(V:AV)(W:List AO):Prop:=(V= .nils/\i=0)\/∃w rows,V= .sl (w+2) 5 0 i/\W[w]?=some (.row 5 rows)/\rows.length=i/\∀k x,k<i->bs[k]?=some x->∃N,rows[k]?=some [.p (phL x.phis),.p (inL x.ins),.p (.int .i64 x.jump),.p (.int .i64 x.on),N]/\NOk W N (pN a k x)
structure NnS where (N:AV)
theorem NOk.mono{W W':List AO}{N:AV}{l:List Int}(h:NOk W N l)(hm:∀(v:Nat) (r:List (List AV)),W[v]?=some (AO.row 1 r)->W'[v]?=some (AO.row 1 r)):NOk W' N l:=by
 rcases h with h|⟨v,h1,h2⟩
 ·exact .inl h
 ·exact .inr ⟨v,h1,hm v _ h2⟩
theorem NOk.below{W:List AO}{N:AV}{l:List Int}(h:NOk W N l):Aw.below (W.length+2) N:=by
 rcases h with⟨rfl,_⟩|⟨v,rfl,h2⟩
 ·simp[Aw.below]
 ·have:=(List.getElem?_eq_some_iff.1 h2).1
  simp only[Aw.below];omega
theorem Ml{α:Type}(W:List α)(a b c d e:α):W++[a,b,c,d,e]=(W++[a,b,c])++[d,e]:=by simp
theorem MI{α:Type}(W:List α)(a b c d:α):W++[a,b,c,d]=(W++[a,b,c])++[d]:=by simp
theorem rc(a:Int)(bs:List Bk)(k:Nat):(jc a bs)[k]?=bs[k]?.map λx=>{x with next:=pN a k x}:=by
 rw[jc,List.getElem?_map,List.getElem?_zipIdx]
 cases bs[k]?<;>simp
theorem jf(a:Int)(bs:List Bk):(jc a bs).length=bs.length:=by simp[jc]
theorem Gi{bs:List Bk}{a:Int}{V:AV}{W:List AO}(h:DmI bs a bs.length V W)(h0:0<bs.length):View (.dead:: .dead::W) V (bkL (jc a bs)):=by
 rcases h with⟨_,h⟩|⟨w,rows,rfl,hw,hl,hr⟩
 ·omega
 refine oT (es:=(jc a bs).map Bk.cs) (by exact hw) (by simp[jf,hl]) (λe he=>?_) (λi j e q e' v a1 a2 a3 a4=>?_) (by simp[jf])
 ·obtain⟨y,_,rfl⟩:=List.mem_map.1 he
  rw[y.cs_eq2];rfl
 ·rw[List.getElem?_map,rc] at a1
  cases hx:bs[i]? with
  |none=>rw[hx] at a1;simp at a1
  |some x=>
   rw[hx] at a1
   simp only[Option.map_some,Option.some.injEq] at a1
   subst a1
   obtain⟨N,g1,g2⟩:=hr i x (List.getElem?_eq_some_iff.1 hx).1 hx
   rw[g1] at a3
   cases a3
   rw[Bk.cs_eq2] at a2
   match j with
   |0=>simp at a2 a4;subst a2;subst a4;exact .p _
   |1=>simp at a2 a4;subst a2;subst a4;exact .p _
   |2=>simp at a2 a4;subst a2;subst a4;exact .p _
   |3=>simp at a2 a4;subst a2;subst a4;exact .p _
   |4=>
    simp at a2 a4;subst a2;subst a4
    rcases g2 with⟨rfl,e⟩|⟨v,rfl,e⟩
    ·rw[e];exact .nils 1
    ·exact oP e
   |j+5=>simp at a2
theorem Gc{bs:List Bk}{a:Int}(h:aV bs=true):aV (jc a bs)=true:=by
 have h0:=bL h
 rw[pV,jf,Bool.and_eq_true,decide_eq_true_iff]
 refine⟨h0,?_⟩
 rw[tg,List.all_eq_true]
 intro y hy
 obtain⟨k,hk⟩:=List.getElem?_of_mem hy
 rw[rc,Option.map_eq_some_iff] at hk
 obtain⟨x,hx,rfl⟩:=hk
 rw[pC,List.all_eq_true]
 intro n hn
 have hn:n∈pN a k x:=hn
 rw[pN] at hn
 split at hn
 ·cases hn
 ·have:=nM h hx hn
  simp only[inR,Bool.and_eq_true,decide_eq_true_eq];omega
theorem Gw{bs:List Bk}{m b:Nat}(hab:m≠b)(hm:m≠0):dE (jc (m:Int) bs) b=rwB bs m b:=by
 rw[Bool.eq_iff_iff,rchB_iff,kZ,←Ho hab hm]
 have:stC (jc (m:Int) bs)=λx y=>x≠m/\stC bs x y:=by
  funext x y
  apply propext
  rw[stC,nxC,rc,stC,nxC]
  cases hx:bs[x]? with
  |none=>simp
  |some z=>
   simp only[Option.map_some,pN]
   by_cases e:x=m
   ·subst e;simp
   ·have:¬(x:Int)=(m:Int):=by omega
    simp[this,e]
 rw[this]
theorem Hp{bs:List Bk}{a b:Int}(hfit:aV bs=true)(ha0:a≠0)(hab:¬a=b)(ha1:0<=a)(ha2:a<bs.length):(decide (a∈bP bs)&&decide (b∈bP bs)&& !decide (b∈bP (jc a bs)))=nY bs a b:=by
 obtain⟨m,rfl⟩:∃m:Nat,a=(m:Int):=⟨a.toNat,by omega⟩
 have hml:m<bs.length:=by omega
 rw[mo,mo,mo,nY,BR hfit hml,nV,kT (Gc hfit),jf,kT hfit]
 cases e:inR b 0 ((bs.length:Int)-1) with
 |false=>simp
 |true=>
  obtain⟨_,h0,h1,h2⟩:=jt (bs:=bs) (b:=b) (by rw[kT hfit];exact e)
  rw[Gw (by omega) (by omega),Int.toNat_natCast]
  simp
theorem Bo{W t t2:List AO}{w:Nat}{d:AO}{rs:List (List AV)}(hw:W[w]?=some (AO.row 5 rs))(v:Nat)(r:List (List AV))(h:W[v]?=some (AO.row 1 r)):((W++t).set w d++t2)[v]?=some (.row 1 r):=by
 have hv:=(List.getElem?_eq_some_iff.1 h).1
 have hne:w≠v:=by
  rintro rfl
  rw[hw] at h
  simp at h
 rw[List.getElem?_append_left (by simp;omega),List.getElem?_set_ne hne,List.getElem?_append_left hv];exact h
theorem pz(code:List Int)(hb:Byt code)(hl:code.length<=9223372036854775807):VF Tryz.prog G gy [.p (mX code)] (.p (.bool true)):=by
 have hbl:mX code= .lst 1 (code.map λn=>[.int .u8 n]):=rfl
 refine AC.goK mu mt ?_
 simp-implicitDefEqProofs[dt,dA,hbl]
 refine aG (λ_=>?_) (λ_=>?_)
 ·simp-implicitDefEqProofs[]
 simp-implicitDefEqProofs[]
 have hd:=Eo G (pA G code hb) Cr (by simp) []
 rw[hbl] at hd
 refine hd.mono ?_
 rintro r h ⟨⟨c,a,b,rfl,hg⟩,rfl⟩
 have hcs:=hg.csm
 have h160:=hg.2.1
 have hcc:=c.cs_eq2
 have hbk:bkL c.blocks= .lst 5 (c.blocks.map Bk.cs):=rfl
 have hN:=vO G c hcs a b
 have hS:=zD G c hcs.1 a b
 have hO:=Cg G c hcs.1
 have hR:=py G c hcs.1
 rw[hcc,hbk] at hN hS hO hR
 have hrl:= @tX c.blocks
 have hHas:=λk=>Bb G (bP c.blocks) k (by omega)
 have hof:uQ c.blocks≠[]->aV c.blocks=true:=λh=>by
  cases e:aV c.blocks with
  |true=>rfl
  |false=>exact absurd (FU e) h
 generalize uQ c.blocks=Q at hO hof
 have hQn:aE Q= .lst 1 (Q.map λn=>[.int .i64 n]):=rfl
 simp-implicitDefEqProofs[aa,hcc,hbk]
 refine hN.use ?_
 simp-implicitDefEqProofs[]
 refine fc (λ_:FqS=>aA 105 [(6,.p (.bool (nY c.blocks a b))),(5,.p (.int .i64 b)),(4,.p (.int .i64 a)),(3,.ptr 0 3 0 0)]) (λ_=>[.row 3 [[.p (.int .i64 c.params),.p (.int .i64 c.regs),.p (.lst 5 (c.blocks.map Bk.cs))]]]) (λ_=>a≠0/\¬a=b/\0<=a/\a<c.blocks.length/\aV c.blocks=true) ?_ ?_
 ·simp-implicitDefEqProofs[]
  refine hS.use ?_
  by_cases ha0:a=0
  ·simp-implicitDefEqProofs[ha0]
   rw[←ha0]
   refine hS.use ?_
   simp-implicitDefEqProofs[]
  by_cases hab:a=b
  ·subst hab
   simp-implicitDefEqProofs[ha0]
   refine hS.use ?_
   simp-implicitDefEqProofs[]
  by_cases ha1:a<0
  ·simp-implicitDefEqProofs[ha0,hab,ha1]
   refine hS.use ?_
   simp-implicitDefEqProofs[]
  by_cases ha2:(c.blocks.length:Int)<=a
  ·simp-implicitDefEqProofs[ha0,hab,ha1,ha2]
   refine hS.use ?_
   simp-implicitDefEqProofs[]
  simp-implicitDefEqProofs[ha0,hab,ha1,ha2]
  refine hO.use ?_
  simp-implicitDefEqProofs[hQn]
  refine aG (λhz=>?_) (λhz=>?_)
  ·simp-implicitDefEqProofs[]
   refine hS.use ?_
   simp-implicitDefEqProofs[]
  ·have hfit:=hof (by simpa using hz)
   simp-implicitDefEqProofs[hfit]
   exact⟨⟨by omega,by omega⟩,⟨0⟩,ab (Nat.zero_le _) (by simp[below])⟩
 rintro⟨_⟩ ⟨ha0,hab,ha1,ha2,hfit⟩
 simp-implicitDefEqProofs[]
 refine Gd (aA 105 [(7,.ptr 1 3 0 0),(6,.p (.bool (nY c.blocks a b))),(5,.p (.int .i64 b)),(4,.p (.int .i64 a)),(3,.ptr 0 3 0 0)]) [.row 3 [[.p (.int .i64 c.params),.p (.int .i64 c.regs),.p (.lst 5 (c.blocks.map Bk.cs))]],.row 3 [[.p (.int .i64 0),.p (.int .i64 0),.p (bkL (jc a c.blocks))]]] ?_ ?_
 ·simp-implicitDefEqProofs[]
  refine aJ (λa1:DxS=>aA 105 [(65,.p (.int .i64 a1.i)),(64,.p (.int .i64 c.blocks.length)),(63,.p (.lst 5 (c.blocks.map Bk.cs))),(7,.ptr 1 3 0 0),(6,.p (.bool (nY c.blocks a b))),(5,.p (.int .i64 b)),(4,.p (.int .i64 a)),(3,.ptr 0 3 0 0)]) (λa=> .row 3 [[.p (.int .i64 c.params),.p (.int .i64 c.regs),.p (.lst 5 (c.blocks.map Bk.cs))]]:: .row 3 [[.p (.int .i64 0),.p (.int .i64 0),a.V]]::a.W) (λa1=>a1.i<=c.blocks.length/\DmI c.blocks a a1.i a1.V a1.W) (λa=>c.blocks.length-a.i) ⟨0,.nils,[]⟩ ⟨Nat.zero_le _,.inl ⟨rfl,rfl⟩⟩ (ab (Nat.zero_le _) (by simp[below])) ?_
  rintro⟨i,V,W⟩ ⟨hi,hV⟩
  simp only at hi hV⊢
  simp-implicitDefEqProofs[]
  refine aG (λhc=>?_) (λhc=>?_)
  ·have hc:i<c.blocks.length:=by simpa using hc
   have hwi:=w1 (i:=i) (by omega)
   have hx:=List.getElem?_eq_getElem hc
   have hmem:=List.getElem_mem hc
   generalize c.blocks[i]=x at hx hmem
   have hxs:=x.cs_eq2
   have hnl:aE x.next= .lst 1 (x.next.map λn=>[.int .i64 n]):=rfl
   have hx2:=hg.2.2 x hmem
   simp-implicitDefEqProofs[hx,hxs,hnl]
   refine⟨⟨by omega,by omega⟩,?_⟩
   have hrn:List.map ((λx=>List.map AV.p x)∘λn=>[PV.int IntKind.i64 n]) x.next=aB x.next:=by simp[aB]
   rw[hrn]
   refine fc (λa1:NnS=>aA 105 [(9,.ptr (W.length+1+1) 5 0 0),(65,.p (.int .i64 i)),(64,.p (.int .i64 c.blocks.length)),(63,.p (.lst 5 (c.blocks.map Bk.cs))),(7,.ptr 1 3 0 0),(6,.p (.bool (nY c.blocks a b))),(5,.p (.int .i64 b)),(4,.p (.int .i64 a)),(3,.ptr 0 3 0 0)]) (λa1=> .row 3 [[.p (.int .i64 c.params),.p (.int .i64 c.regs),.p (.lst 5 (c.blocks.map Bk.cs))]]:: .row 3 [[.p (.int .i64 0),.p (.int .i64 0),V]]::(W++[.row 5 [[.p (phL x.phis),.p (inL x.ins),.p (.int .i64 x.jump),.p (.int .i64 x.on),a1.N]],.dead,.row 1 (aB x.next)])) (λa1=>NOk (W++[.row 5 [[.p (phL x.phis),.p (inL x.ins),.p (.int .i64 x.jump),.p (.int .i64 x.on),a1.N]],.dead,.row 1 (aB x.next)]) a1.N (pN a i x)) ?_ ?_
   ·by_cases hia:(i:Int)=a
    ·simp-implicitDefEqProofs[hia]
     refine⟨⟨.nils⟩,.inl ⟨rfl,by rw[pN,if_pos hia]⟩,ab (Nat.zero_le _) ?_⟩
     simp[below,←hia]
    ·simp-implicitDefEqProofs[hia]
     refine⟨⟨.sl (W.length+2+1+1) 1 0 x.next.length⟩,.inr ⟨W.length+2,by rw[pN,if_neg hia],?_⟩,ab (Nat.zero_le _) ?_⟩
     ·simp only;rw[List.getElem?_append_right (by omega),Nat.add_sub_cancel_left,pN,if_neg hia];rfl
     ·simp[below]
   rintro⟨N⟩ hN
   simp only at hN⊢
   have hNb:=hN.below
   rcases hV with⟨rfl,rfl⟩|⟨w,rows,rfl,hw,hrl2,hrows⟩
   ·simp-implicitDefEqProofs[]
    refine⟨by rcases hN with⟨rfl,_⟩|⟨v,rfl,_⟩<;>rfl,⟨1,.sl (W.length+4+1+1) 5 0 1,_⟩,⟨by simp only;omega,.inr ⟨W.length+4,[[.p (phL x.phis),.p (inL x.ins),.p (.int .i64 x.jump),.p (.int .i64 x.on),N]],rfl,?_,rfl,λk y hk hy=>?_⟩⟩,by simp only;omega,ab (Nat.zero_le _) ?_⟩
    ·simp only;rw[List.getElem?_append_right (by omega),Nat.add_sub_cancel_left];rfl
    ·have hk0:k=0:=by simp only at hk;omega
     subst hk0
     rw[hx] at hy
     cases hy
     refine⟨N,rfl,hN.mono λv r h=>?_⟩
     have hv:=(List.getElem?_eq_some_iff.1 h).1
     rw[Ml,List.getElem?_append_left hv];exact h
    ·simp[below]
     exact hwi
   ·have hwl:=(List.getElem?_eq_some_iff.1 hw).1
    have hgm:∀t,(W++t)[w]?=some (.row 5 rows):=λt=>by rw[List.getElem?_append_left hwl];exact hw
    have htk:List.take i rows=rows:=List.take_of_length_le (by omega)
    simp-implicitDefEqProofs[hgm,hrl2,htk]
    refine⟨by rcases hN with⟨rfl,_⟩|⟨v,rfl,_⟩<;>rfl,⟨by omega,by omega⟩,⟨i+1,.sl (W.length+4+1+1) 5 0 (i+1),_⟩,⟨hc,.inr ⟨W.length+4,rows++[[.p (phL x.phis),.p (inL x.ins),.p (.int .i64 x.jump),.p (.int .i64 x.on),N]],rfl,?_,by simp[hrl2],λk y hk hy=>?_⟩⟩,by simp only;omega,ab (Nat.zero_le _) ?_⟩
    ·simp only;rw[List.getElem?_append_right (by simp),List.length_set,List.length_append];simp
    ·simp only at hk
     by_cases hki:k<i
     ·obtain⟨N2,g1,g2⟩:=hrows k y hki hy
      refine⟨N2,by rw[List.getElem?_append_left (by omega)];exact g1,g2.mono (Bo hw)⟩
     ·have hk0:k=i:=by omega
      subst hk0
      rw[hx] at hy
      cases hy
      refine⟨N,by rw[List.getElem?_append_right (by omega),hrl2,Nat.sub_self];rfl,hN.mono λv r h=>?_⟩
      simp only
      rw[MI]
      exact Bo (hgm _) v r h
    ·simp[below,hwi]
  ·have hie:i=c.blocks.length:=by simp at hc;omega
   subst hie
   have hvw:=Gi hV (bL hfit)
   simp-implicitDefEqProofs[]
   refine re 2 (Nat.zero_le _) (by simp) rfl (.same (by simp[okO,below]) (.one (.keep (by simp[below]) (.keep (by simp[below]) (.one ?_ .nil))) (.nil _))) ?_
   ·exact hvw
   ·exact⟨.keep (by simp[below]) .nil,.keep (by simp[below]) .nil,.keep (by simp[below]) .nil,.keep (by simp[below]) .nil,.keep (by simp[below]) .nil,trivial⟩
 have hcut:=Hp hfit ha0 hab ha1 ha2 (b:=b)
 have hbx:CBd ⟨0,0,jc a c.blocks⟩:=by
  refine⟨by rw[jf];exact hcs.1.1,λy hy=>?_⟩
  obtain⟨k,hk⟩:=List.getElem?_of_mem hy
  rw[rc,Option.map_eq_some_iff] at hk
  obtain⟨x,hx,rfl⟩:=hk
  show(pN a k x).length<=_
  rw[pN]
  split
  ·simp
  ·exact hcs.1.2 x (List.mem_of_getElem? hx)
 have hRx:=py G ⟨0,0,jc a c.blocks⟩ hbx
 have hcx:(⟨0,0,jc a c.blocks⟩:Cd).cs=[.int .i64 0,.int .i64 0,bkL (jc a c.blocks)]:=rfl
 rw[hcx] at hRx
 have hrlx:= @tX (jc a c.blocks)
 rw[jf] at hrlx
 have hHasx:=Bb G (bP (jc a c.blocks)) b (by omega)
 have hHa:=hHas a
 have hHb:=hHas b
 have hRx:VF Tryz.prog G bF [.agg (List.map .p [.int .i64 0,.int .i64 0,bkL (jc a c.blocks)])] (.p (aE (bP (jc a c.blocks)))):=hRx
 rw[←hcut]
 generalize decide (a∈bP c.blocks)=A at hHa
 generalize decide (b∈bP c.blocks)=B at hHb
 generalize decide (b∈bP (jc a c.blocks))=C at hHasx
 simp-implicitDefEqProofs[]
 refine hR.use ?_
 simp-implicitDefEqProofs[]
 refine hHa.use ?_
 cases A with
 |false=>
  simp-implicitDefEqProofs[]
 |true=>
  simp-implicitDefEqProofs[]
  refine hR.use ?_
  simp-implicitDefEqProofs[]
  refine hHb.use ?_
  cases B with
  |false=>
   simp-implicitDefEqProofs[]
  |true=>
   simp-implicitDefEqProofs[]
   refine hRx.use ?_
   simp-implicitDefEqProofs[]
   refine hHasx.use ?_
   simp-implicitDefEqProofs[]
end
end Go.Proofs.YtdfplkcigiblcaaGreat
namespace Go.Proofs.YtdfplkcigiblcaaGreat
open Go Go.Aw Go.ChangeShapes Go.WideShapes Go.ChangeAt Go.RowKit
set_option maxRecDepth 100000
abbrev Bq:TypeId:=22
abbrev vD:TypeId:=5
theorem KW:Kids Tryz.prog (· <Tryz.prog.types.size):=kids_rows (by kernel_rfl) (by kernel_rfl)
theorem KM:∀t e,t<Tryz.prog.types.size->Tryz.prog.underlying t=some (.slice e)->0<Tryz.prog.cellsOf e:=slices_full_of Tryz.prog (by kernel_rfl)
def Bc:List TypeId:=[Bq,vD]
theorem It:Plain Tryz.prog Bc=true:=by kernel_rfl
theorem Mi:ownKnob Tryz.prog.godebug=none:=by kernel_rfl
theorem sM{H:Type}:∀l:List (DataW H),Rows.uptoBulkAll l=(l.map Rows.uptoBulk).sum
 |[]=>by simp[Rows.uptoBulkAll]
 |d::r=>by simp[Rows.uptoBulkAll,sM r]
theorem Gr{H:Type}:BulkOk (Rows.uptoBulk (H:=H)) where
 lit:=λl=>by cases l<;>simp[Rows.uptoBulk]
 str:=λs=>by simp[Rows.uptoBulk]
 nil:=by simp[Rows.uptoBulk]
 slice:=λes sp=>by simp only[Rows.uptoBulk,sM];omega
 agg:=λps=>by simp only[Rows.uptoBulk,sM];omega
theorem DO{t e:TypeId}{vs:List PV}(h:Conf Tryz.prog t vs)(hu:Tryz.prog.underlying t=some (.slice e)):∃es,vs=[.lst (Tryz.prog.cellsOf e) es]/\es.length<=9223372036854775807/\∀x∈es,Conf Tryz.prog e x:=by
 cases h with
 |sl es e' hl hs=>rw[hu] at e';cases e';exact⟨es,rfl,hl,hs⟩
 |bool b e=>rw[e] at hu;cases hu
 |int n e=>rw[e] at hu;cases hu
 |str s e=>rw[e] at hu;cases hu
 |st vs e=>rw[e] at hu;cases hu
 |arr vs e=>rw[e] at hu;cases hu
theorem Ai{vs:List PV}(h:Conf Tryz.prog Bq vs):∃l:List Int,vs=[mX l]/\l.length<=9223372036854775807/\Byt l:=by
 obtain⟨es,rfl,hl,h4⟩:=DO h (e:=vD) (by kernel_rfl)
 have hk:∀x∈es,∃n:Int,x=[PV.int .u8 n]/\(Lit.int .u8 n).wf=true:=λx hx=>Fb (h4 x hx) (by kernel_rfl)
 obtain⟨l,rfl⟩:=AR (λn:Int=>[PV.int .u8 n]) (λx hx=>by obtain⟨n,e,_⟩:=hk x hx;exact⟨n,e⟩)
 rw[show Tryz.prog.cellsOf vD=1 by kernel_rfl]
 refine⟨l,rfl,by rwa[List.length_map] at hl,λn hn=>?_⟩
 obtain⟨m,e,hw⟩:=hk [PV.int .u8 n] (List.mem_map.2 ⟨n,hn,rfl⟩)
 cases e
 simp[Lit.wf,IntKind.min,IntKind.max,IntKind.bits,IntKind.signed] at hw
 omega
def G0:az:=λ_=>none
end Go.Proofs.YtdfplkcigiblcaaGreat
