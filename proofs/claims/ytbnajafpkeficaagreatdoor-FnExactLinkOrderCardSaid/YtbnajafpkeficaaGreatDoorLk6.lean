/-
  Contracts and lemmas that the card needs, part 6.
-/
import Derived.Test.YtbnajafpkeficaaGreatDoorLk5
namespace Go.Proofs.YtbnajafpkeficaaGreatDoor
open Go Go.Aw
set_option maxRecDepth 100000
set_option maxHeartbeats 4000000
section
theorem xS(n:Nat)(l:List PV):bi n (l.map .p)=l.map .p:=by
 rw[bn,List.map_map];rfl
theorem rn(n:Nat)(L:List Bool):aT n (aE L)=aE L:=by
 simp only[aT,aE,List.map_map];rfl
theorem rz(n:Nat)(L:List Nat):aT n (aw L)=aw L:=by
 simp only[aT,aw,List.map_map];rfl
theorem np(n:Nat)(L:List Int):aT n (bN L)=bN L:=by
 simp only[aT,bN,List.map_map];rfl
theorem uV(n:Nat)(f:Mfn):aT n (.row 3 [f.cs.map .p])= .row 3 [f.cs.map .p]:=by
 simp only[aT,List.map_cons,List.map_nil,xS]
theorem tV(n:Nat)(f:Mfn)(a b c la lb lc:Nat)(z:Int):aT n (.row 7 [aL f (.sl a 1 0 la) (.sl b 1 0 lb) (.sl c 1 0 lc) z])= .row 7 [aL f (.sl (n+a) 1 0 la) (.sl (n+b) 1 0 lb) (.sl (n+c) 1 0 lc) z]:=rfl
theorem Ab(l:List PV):iY (l.map .p)=true:=by
 induction l with
 |nil=>rfl
 |cons a r ih=>simp[iY,mD,ih]
theorem tS(L:List Bool):ir (aE L)=true:=by simp[ir,aE,iY,mD]
theorem sN(L:List Nat):ir (aw L)=true:=by simp[ir,aw,iY,mD]
variable (G:ay) (hG:G bX=some pvForms)
include hG
theorem rt(f:Mfn)(hn:f.ins.length<=1000000)(hlo:∀x∈f.ins,x.op=14-> -9223372036854775808<=x.n)(hc:aD f=true):AC Tryz.prog G cf [.agg (f.cs.map .p)] [] λr h=>
 r= .ret (.ptr 2 7 0 0)/\h=[.row 3 [f.cs.map .p],aE (bA f.ins),.row 7 [aL f (.sl 1 1 0 f.ins.length) (.sl 3 1 0 f.ins.length) (.sl 4 1 0 f.ins.length) (plc f.ins (bA f.ins) f.ins.length)],aw (szl f.ins (bA f.ins) f.ins.length),aw (cN f.ins (bA f.ins) f.ins.length)]:=
 (rq G hG f hn hlo).mono λr h e=>by rw[if_pos hc] at e;exact e
theorem rr(f:Mfn)(hn:f.ins.length<=1000000)(hlo:∀x∈f.ins,x.op=14-> -9223372036854775808<=x.n)(hc:¬aD f=true):VF Tryz.prog G cf [.agg (f.cs.map .p)] .nilp:=
 AC.freezeR ((rq G hG f hn hlo).mono (R':=λr _=>r= .ret .nilp) λr h e=>by rw[if_neg hc] at e;exact e) (λt v h e=>by cases e) λv h e=>by cases e;exact .keep (by simp[below]) .nil
def jT(f:Mfn)(L:List Bool):List AO:=[.row 3 [f.cs.map .p],.dead,aE L,.row 7 [aL f (.sl 2 1 0 f.ins.length) (.sl 4 1 0 f.ins.length) (.sl 5 1 0 f.ins.length) (plc f.ins L f.ins.length)],aw (szl f.ins L f.ins.length),aw (cN f.ins L f.ins.length)]
theorem yQ(f:Mfn)(hn:f.ins.length<=1000000)(hlo:∀x∈f.ins,x.op=14-> -9223372036854775808<=x.n)(hc:aD f=true):AC Tryz.prog G dr [.agg (f.cs.map .p)] [] λr h=>
 r= .ret (.tup [.sl 6 1 0 (gt f).length,.p (.bool true)])/\∃h0,h=h0++[bN (gt f)]/\h0.length=6:=by
 refine AC.go kN ?_
 have hal:bF (aV (cn f.ins) f)=true:=by simp[aD] at hc;exact hc.1
 have hf:=bS hal
 have hpos:=kw hal
 obtain⟨hn2,hfi⟩:=id hf
 simp-implicitDefEqProofs[gF]
 refine(AC.lift (rt G hG f hn hlo hc) (by simp[aa,below]) rfl ?_).mono ?_
 ·simp only[List.all_cons,List.all_nil,tS,sN];rfl
 rintro r h ⟨rfl,rfl⟩
 simp-implicitDefEqProofs[ag,rn,rz,uV,tV,aU,bi]
 simp-implicitDefEqProofs[Mfn.cs]
 have hL:=fb f.ins
 simp only[gt]
 generalize bA f.ins=L at hL⊢
 have hin:cT f.ins= .lst 5 (f.ins.map Mins.cs):=rfl
 refine az (λi:Nat=>aB 88 [(1,.ptr 0 3 0 0),(4,.ptr 3 7 0 0),(5,if i=0 then .nils else .sl 6 1 0 (kW f.ins L i).length),(15,.p (cT f.ins)),(16,.p (.int .i64 f.ins.length)),(17,.p (.int .i64 i))]) (λi=>if i=0 then jT f L else jT f L++[bN (kW f.ins L i)])
  (λi=>i<=f.ins.length) (λi=>f.ins.length-i) 0 (by simp) ?_ ?_
 ·rw[if_pos rfl,if_pos rfl]
  refine an [0,1,2,3,4,5] rfl (by decide) (af rfl (by simp[aa,Mfn.cs]) (bW (by simp) (am rfl (by simp[-Bool.exists_bool,-Bool.forall_bool,okO,aE]) (aC (by simp[aL,below]) (by simp[aL,ren,aF]) (am rfl (by simp[okO,aw]) (am rfl (by simp[okO,aw]) aj)))))) ?_
  simp[below,ren,hin]
 ·intro i hi
  simp-implicitDefEqProofs[hin]
  refine bf (λh1=>?_) (λh1=>?_)
  ·simp at h1
   have h2:i<L.length:=by omega
   obtain⟨q1,q2,q3,q4⟩:=hfi _ (List.getElem_mem h1)
   have hg1:=List.getElem?_eq_getElem h1
   have hg2:=List.getElem?_eq_getElem h2
   have hbo:∀l,bN l= .row 1 (l.map λn=>[.p (.int .u8 n)]):=λ_=>rfl
   have hbl:∀l,aN l= .lst 1 (l.map λn=>[.int .u8 n]):=λ_=>rfl
   have hoo:aE L= .row 1 (L.map λb=>[.p (.bool b)]):=rfl
   have hii:∀l,aw l= .row 1 (l.map λ(n:Nat)=>[.p (.int .i64 (n:Int))]):=λ_=>rfl
   have htk:∀l:List Int,List.take l.length (l.map λn=>[AV.p (.int .u8 n)])=l.map λn=>[AV.p (.int .u8 n)]:=λl=>List.take_of_length_le (by simp)
   have henc:=gX f.ins L i
   have hel:=tL f.ins L i
   have he0:kW f.ins L 0=[]:=by simp[kW]
   by_cases hj:jmp f.ins[i]=true
   rotate_left
   ·have hjo:(f.ins[i].op==20||f.ins[i].op==21)=false:=by simpa[jmp] using hj
    have he:ic f.ins L i=aM f.ins[i]:=by simp[ic,hg1,hg2,hj]
    have hl1:=eV f.ins[i]
    have hp0:¬aM f.ins[i]=[]:=λe=>by rw[e] at hl1;simp at hl1
    rcases Nat.eq_zero_or_pos i with rfl|hz
    ·simp-implicitDefEqProofs[hg1,jT]
     simp-implicitDefEqProofs[Mins.cs]
     refine(aY G _).use ?_
     simp-implicitDefEqProofs[hjo]
     refine(mq G f.ins[0] q3 (by simpa using hj) q1 q2).use ?_
     simp-implicitDefEqProofs[hbl,hbo,hp0,htk]
     refine⟨by omega,1,h1,by omega,?_⟩
     rw[if_neg (by omega),if_neg (by omega)]
     refine an [0,1,2,3,4,5,7] rfl (by decide) (af rfl (by simp[aa,Mfn.cs]) (bW (by simp) (am rfl (by simp[-Bool.exists_bool,-Bool.forall_bool,okO,aE]) (aC (by simp[aL,below]) (by simp[aL,ren,aF]) (am rfl (by simp[okO,aw]) (am rfl (by simp[okO,aw]) (af (by simp[henc,he,he0,Function.comp_def]) (by simp) aj))))))) ?_
     simp[below,ren,henc,he,he0,IntKind.wrap,IntKind.bits,IntKind.signed]
    ·have hz1:¬i=0:=by omega
     simp-implicitDefEqProofs[hz1,hg1,jT]
     simp-implicitDefEqProofs[Mins.cs]
     refine(aY G _).use ?_
     simp-implicitDefEqProofs[hjo]
     refine(mq G f.ins[i] q3 (by simpa using hj) q1 q2).use ?_
     simp-implicitDefEqProofs[hbl,hbo,hp0,htk]
     refine⟨by omega,i+1,h1,by omega,?_⟩
     rw[if_neg (by omega),if_neg (by omega)]
     refine an [0,1,2,3,4,5,8] rfl (by decide) (af rfl (by simp[aa,Mfn.cs]) (bW (by simp) (am rfl (by simp[-Bool.exists_bool,-Bool.forall_bool,okO,aE]) (aC (by simp[aL,below]) (by simp[aL,ren,aF]) (am rfl (by simp[okO,aw]) (am rfl (by simp[okO,aw]) (af (by simp[henc,he,Function.comp_def]) (by simp) aj))))))) ?_
     simp[below,ren,henc,he,w1 (i:=i) (by omega)]
   ·have hjo:(f.ins[i].op==20||f.ins[i].op==21)=true:=by simpa[jmp] using hj
    have q5:=q4 hj
    simp[inR] at q5
    have hnl:f.ins[i].n.toNat<f.ins.length:=by omega
    have hp1:=fx (ins:=f.ins) (L:=L) hnl
    have hle2:=js (ins:=f.ins) (L:=L) hL (i:=f.ins[i].n.toNat)
    have hoff:=λ(h:List AO) e0 e1 e2=>zp G (h:=h) (id:=3) (sid:=4) (pid:=5) (f:=f) (lv:= .sl 2 1 0 f.ins.length) (sz:=plc f.ins L f.ins.length) (L:=L) (i:=i) hL hf h1 hj e0 e1 e2
    generalize hp:plc f.ins L f.ins[i].n.toNat=p at hp1 hle2 hoff
    have htm:(p:Int).tmod 256=(p:Int)%256:=by rw[show(p:Int).tmod 256=((p%256:Nat):Int) from rfl];omega
    have htd:IntKind.i64.wrap ((p:Int)/256)=(p:Int)/256:=ab (by omega) (by omega)
    have w148:IntKind.u8.wrap 148=148:=rfl
    have w149:IntKind.u8.wrap 149=149:=rfl
    have w20:IntKind.u8.wrap 20=20:=rfl
    have w21:IntKind.u8.wrap 21=21:=rfl
    have hc2:f.ins[i].op=20\/f.ins[i].op=21:=by simpa[jmp] using hj
    cases hLi:L[i] with
    |true=>
     have he:ic f.ins L i=[u8 (f.ins[i].op+128)]++(if f.ins[i].op=21 then[u8 f.ins[i].a] else[])++[u8 (p%256:Nat),u8 (p/256:Nat)]:=by simp[ic,hg1,hg2,hj,hLi,hp]
     clear hoff
     rcases hc2 with e|e
     ·have hjt:(f.ins[i].op==20||f.ins[i].op==21)=true:=hjo
      rcases Nat.eq_zero_or_pos i with rfl|hz
      ·simp-implicitDefEqProofs[hg1,jT]
       simp-implicitDefEqProofs[Mins.cs]
       refine(aY G _).use ?_
       simp-implicitDefEqProofs[hjo,aL,hbo,hoo,hii,h1,hg2,hLi,hL,hnl,hp1,e,w20,w21,w148,w149,htm,htd,htk]
       refine⟨⟨by omega,by omega⟩,1,h1,by omega,?_⟩
       rw[if_neg (by omega),if_neg (by omega)]
       refine an [0,1,2,3,4,5,10] rfl (by decide) (af rfl (by simp[aa,Mfn.cs]) (bW (by simp) (am rfl (by simp[-Bool.exists_bool,-Bool.forall_bool,okO,aE]) (aC (by simp[aL,below]) (by simp[aL,ren,aF]) (am rfl (by simp[okO,aw]) (am rfl (by simp[okO,aw]) (af (by simp[w20,w21,w148,w149,henc,he,e,u8,htm,htd,List.take_of_length_le,he0]) (by simp) aj))))))) ?_
       simp[below,ren,henc,he,e,he0,IntKind.wrap,IntKind.bits,IntKind.signed]
      ·have hz1:¬i=0:=by omega
       simp-implicitDefEqProofs[hz1,hg1,jT]
       simp-implicitDefEqProofs[Mins.cs]
       refine(aY G _).use ?_
       simp-implicitDefEqProofs[hjo,aL,hbo,hoo,hii,h1,hg2,hLi,hL,hnl,hp1,e,w20,w21,w148,w149,htm,htd,htk]
       refine⟨by omega,⟨by omega,by omega⟩,by omega,i+1,h1,by omega,?_⟩
       rw[if_neg (by omega),if_neg (by omega)]
       refine an [0,1,2,3,4,5,11] rfl (by decide) (af rfl (by simp[aa,Mfn.cs]) (bW (by simp) (am rfl (by simp[-Bool.exists_bool,-Bool.forall_bool,okO,aE]) (aC (by simp[aL,below]) (by simp[aL,ren,aF]) (am rfl (by simp[okO,aw]) (am rfl (by simp[okO,aw]) (af (by simp[w20,w21,w148,w149,henc,he,e,u8,htm,htd,List.take_of_length_le]) (by simp) aj))))))) ?_
       simp[below,ren,henc,he,e,w1 (i:=i) (by omega)]
     ·have hjt:(f.ins[i].op==20||f.ins[i].op==21)=true:=hjo
      rcases Nat.eq_zero_or_pos i with rfl|hz
      ·simp-implicitDefEqProofs[hg1,jT]
       simp-implicitDefEqProofs[Mins.cs]
       refine(aY G _).use ?_
       simp-implicitDefEqProofs[hjo,aL,hbo,hoo,hii,h1,hg2,hLi,hL,hnl,hp1,e,w20,w21,w148,w149,htm,htd,htk]
       refine⟨⟨by omega,by omega⟩,1,h1,by omega,?_⟩
       rw[if_neg (by omega),if_neg (by omega)]
       refine an [0,1,2,3,4,5,12] rfl (by decide) (af rfl (by simp[aa,Mfn.cs]) (bW (by simp) (am rfl (by simp[-Bool.exists_bool,-Bool.forall_bool,okO,aE]) (aC (by simp[aL,below]) (by simp[aL,ren,aF]) (am rfl (by simp[okO,aw]) (am rfl (by simp[okO,aw]) (af (by simp[w20,w21,w148,w149,henc,he,e,u8,htm,htd,List.take_of_length_le,he0]) (by simp) aj))))))) ?_
       simp[below,ren,henc,he,e,he0,IntKind.wrap,IntKind.bits,IntKind.signed]
      ·have hz1:¬i=0:=by omega
       simp-implicitDefEqProofs[hz1,hg1,jT]
       simp-implicitDefEqProofs[Mins.cs]
       refine(aY G _).use ?_
       simp-implicitDefEqProofs[hjo,aL,hbo,hoo,hii,h1,hg2,hLi,hL,hnl,hp1,e,w20,w21,w148,w149,htm,htd,htk]
       refine⟨by omega,by omega,⟨by omega,by omega⟩,by omega,i+1,h1,by omega,?_⟩
       rw[if_neg (by omega),if_neg (by omega)]
       refine an [0,1,2,3,4,5,13] rfl (by decide) (af rfl (by simp[aa,Mfn.cs]) (bW (by simp) (am rfl (by simp[-Bool.exists_bool,-Bool.forall_bool,okO,aE]) (aC (by simp[aL,below]) (by simp[aL,ren,aF]) (am rfl (by simp[okO,aw]) (am rfl (by simp[okO,aw]) (af (by simp[w20,w21,w148,w149,henc,he,e,u8,htm,htd,List.take_of_length_le]) (by simp) aj))))))) ?_
       simp[below,ren,henc,he,e,w1 (i:=i) (by omega)]
    |false=>
     have he:ic f.ins L i=[u8 f.ins[i].op]++(if f.ins[i].op=21 then[u8 f.ins[i].a] else[])++[u8 ((p:Int)-plc f.ins L i-aK f.ins[i] false)]:=by simp[ic,hg1,hg2,hj,hLi,hp]
     rw[hLi] at hoff
     rcases hc2 with e|e
     ·have hjt:(f.ins[i].op==20||f.ins[i].op==21)=true:=hjo
      rcases Nat.eq_zero_or_pos i with rfl|hz
      ·simp-implicitDefEqProofs[hg1,jT]
       simp-implicitDefEqProofs[Mins.cs]
       refine(aY G _).use ?_
       simp-implicitDefEqProofs[hjo,aL,hbo,hoo,hii,h1,hg2,hLi,hL,hnl,hp1,e,w20,w21,w148,w149,htm,htd,htk]
       refine⟨⟨by omega,by omega⟩,?_⟩
       refine AC.mono (hoff _ rfl rfl rfl) ?_
       rintro r h ⟨rfl,rfl⟩
       simp-implicitDefEqProofs[ag,hbo,htk]
       refine⟨1,h1,by omega,?_⟩
       rw[if_neg (by omega),if_neg (by omega)]
       refine an [0,1,2,3,4,5,10] rfl (by decide) (af rfl (by simp[aa,Mfn.cs]) (bW (by simp) (am rfl (by simp[-Bool.exists_bool,-Bool.forall_bool,okO,aE]) (aC (by simp[aL,below]) (by simp[aL,ren,aF]) (am rfl (by simp[okO,aw]) (am rfl (by simp[okO,aw]) (af (by simp[w20,w21,w148,w149,henc,he,e,u8,htm,htd,List.take_of_length_le,he0]) (by simp) aj))))))) ?_
       simp[below,ren,henc,he,e,he0,IntKind.wrap,IntKind.bits,IntKind.signed]
      ·have hz1:¬i=0:=by omega
       simp-implicitDefEqProofs[hz1,hg1,jT]
       simp-implicitDefEqProofs[Mins.cs]
       refine(aY G _).use ?_
       simp-implicitDefEqProofs[hjo,aL,hbo,hoo,hii,h1,hg2,hLi,hL,hnl,hp1,e,w20,w21,w148,w149,htm,htd,htk]
       refine⟨by omega,⟨by omega,by omega⟩,?_⟩
       refine AC.mono (hoff _ rfl rfl rfl) ?_
       rintro r h ⟨rfl,rfl⟩
       simp-implicitDefEqProofs[ag,hbo,htk]
       refine⟨by omega,i+1,h1,by omega,?_⟩
       rw[if_neg (by omega),if_neg (by omega)]
       refine an [0,1,2,3,4,5,11] rfl (by decide) (af rfl (by simp[aa,Mfn.cs]) (bW (by simp) (am rfl (by simp[-Bool.exists_bool,-Bool.forall_bool,okO,aE]) (aC (by simp[aL,below]) (by simp[aL,ren,aF]) (am rfl (by simp[okO,aw]) (am rfl (by simp[okO,aw]) (af (by simp[w20,w21,w148,w149,henc,he,e,u8,htm,htd,List.take_of_length_le]) (by simp) aj))))))) ?_
       simp[below,ren,henc,he,e,w1 (i:=i) (by omega)]
     ·have hjt:(f.ins[i].op==20||f.ins[i].op==21)=true:=hjo
      rcases Nat.eq_zero_or_pos i with rfl|hz
      ·simp-implicitDefEqProofs[hg1,jT]
       simp-implicitDefEqProofs[Mins.cs]
       refine(aY G _).use ?_
       simp-implicitDefEqProofs[hjo,aL,hbo,hoo,hii,h1,hg2,hLi,hL,hnl,hp1,e,w20,w21,w148,w149,htm,htd,htk]
       refine⟨⟨by omega,by omega⟩,?_⟩
       refine AC.mono (hoff _ rfl rfl rfl) ?_
       rintro r h ⟨rfl,rfl⟩
       simp-implicitDefEqProofs[ag,hbo,htk]
       refine⟨1,h1,by omega,?_⟩
       rw[if_neg (by omega),if_neg (by omega)]
       refine an [0,1,2,3,4,5,12] rfl (by decide) (af rfl (by simp[aa,Mfn.cs]) (bW (by simp) (am rfl (by simp[-Bool.exists_bool,-Bool.forall_bool,okO,aE]) (aC (by simp[aL,below]) (by simp[aL,ren,aF]) (am rfl (by simp[okO,aw]) (am rfl (by simp[okO,aw]) (af (by simp[w20,w21,w148,w149,henc,he,e,u8,htm,htd,List.take_of_length_le,he0]) (by simp) aj))))))) ?_
       simp[below,ren,henc,he,e,he0,IntKind.wrap,IntKind.bits,IntKind.signed]
      ·have hz1:¬i=0:=by omega
       simp-implicitDefEqProofs[hz1,hg1,jT]
       simp-implicitDefEqProofs[Mins.cs]
       refine(aY G _).use ?_
       simp-implicitDefEqProofs[hjo,aL,hbo,hoo,hii,h1,hg2,hLi,hL,hnl,hp1,e,w20,w21,w148,w149,htm,htd,htk]
       refine⟨by omega,by omega,⟨by omega,by omega⟩,?_⟩
       refine AC.mono (hoff _ rfl rfl rfl) ?_
       rintro r h ⟨rfl,rfl⟩
       simp-implicitDefEqProofs[ag,hbo,htk]
       refine⟨by omega,i+1,h1,by omega,?_⟩
       rw[if_neg (by omega),if_neg (by omega)]
       refine an [0,1,2,3,4,5,13] rfl (by decide) (af rfl (by simp[aa,Mfn.cs]) (bW (by simp) (am rfl (by simp[-Bool.exists_bool,-Bool.forall_bool,okO,aE]) (aC (by simp[aL,below]) (by simp[aL,ren,aF]) (am rfl (by simp[okO,aw]) (am rfl (by simp[okO,aw]) (af (by simp[w20,w21,w148,w149,henc,he,e,u8,htm,htd,List.take_of_length_le]) (by simp) aj))))))) ?_
       simp[below,ren,henc,he,e,w1 (i:=i) (by omega)]
  ·simp at h1
   have hie:i=f.ins.length:=by omega
   subst hie
   have hz1:¬f.ins.length=0:=by omega
   simp-implicitDefEqProofs[hz1]
   simp[jT]
end
section
variable (G:ay) (hG:G bX=some pvForms)
section
include hG
theorem yw(f:Mfn)(hn:f.ins.length<=1000000)(hlo:∀x∈f.ins,x.op=14-> -9223372036854775808<=x.n)(hc:aD f=true):AC Tryz.prog G dr [.agg (f.cs.map .p)] [] λr h=>
 r= .ret (.tup [.sl 0 1 0 (gt f).length,.p (.bool true)])/\h=[bN (gt f)]:=by
 refine(yQ G hG f hn hlo hc).gc (λt v h ⟨e,_⟩=>by cases e) λv h ⟨e1,h0,e2,e3⟩=>?_
 cases e1;subst e2
 exact⟨.tup [.sl 0 1 0 (gt f).length,.p (.bool true)],[bN (gt f)],⟨[6],by simp,by simp,by simp,by simp[below],by simp[ren,aF],af (by rw[List.getElem?_append_right (by omega),e3];rfl) (by simp[bN]) aj⟩,rfl,rfl⟩
theorem yC(f:Mfn)(hn:f.ins.length<=1000000)(hlo:∀x∈f.ins,x.op=14-> -9223372036854775808<=x.n)(hc:¬aD f=true):VF Tryz.prog G dr [.agg (f.cs.map .p)] (.tup [.nils,.p (.bool false)]):=by
 refine AC.go kN ?_
 simp-implicitDefEqProofs[gF]
 refine(rr G hG f hn hlo hc).use ?_
 simp-implicitDefEqProofs[]
end
variable (hM:G Gq=some FU)
include hG hM
end
section
def LX(b:AO)(mid os:List AO):List AO:=b::(mid++os)
theorem GG(b:AO)(mid os:List AO){m:Nat}(hm:mid.length=m)(k:Nat):(LX b mid os)[m+1+k]?=os[k]?:=by
 subst hm
 rw[LX,show mid.length+1+k=(mid.length+k)+1 by omega,List.getElem?_cons_succ,List.getElem?_append_right (by omega)]
 congr 1;omega
theorem HP(b:AO)(mid os l:List AO):LX b mid os++l=LX b mid (os++l):=by simp[LX]
theorem FG(b:AO)(mid os:List AO){m:Nat}(hm:mid.length=m)(k:Nat)(o:AO):(LX b mid os).set (m+1+k) o=LX b mid (os.set k o):=by
 subst hm
 rw[LX,show mid.length+1+k=(mid.length+k)+1 by omega,List.set_cons_succ,List.set_append_right _ _ (by omega),LX]
 congr 3;omega
section
variable {b:AO} {mid:List AO} {n:Nat} (hm:mid.length=n+1)
include hm
@[simp high] theorem LG(o:AO)(os:List AO):(LX b mid (o::os))[n+2]?=some o:=GG b mid _ hm 0
@[simp high] theorem LK(o p:AO)(os:List AO):(LX b mid (o::p::os))[n+3]?=some p:=GG b mid _ hm 1
@[simp high] theorem LQ(o p q:AO)(os:List AO):(LX b mid (o::p::q::os))[n+4]?=some q:=GG b mid _ hm 2
@[simp high] theorem LY(o p q r:AO)(os:List AO):(LX b mid (o::p::q::r::os))[n+5]?=some r:=GG b mid _ hm 3
@[simp high] theorem LV(o o':AO)(os:List AO):(LX b mid (o::os)).set (n+2) o'=LX b mid (o'::os):=FG b mid _ hm 0 o'
@[simp high] theorem LL(o p o':AO)(os:List AO):(LX b mid (o::p::os)).set (n+3) o'=LX b mid (o::o'::os):=FG b mid _ hm 1 o'
end
@[simp high] theorem LP(b:AO)(mid os:List AO):(LX b mid os)[0]?=some b:=rfl
attribute [simp] HP
theorem tR(n:Nat)(L:List Mins):aT n (fE L)=fE L:=by
 simp only[aT,fE,List.map_map];rfl
variable (G:ay)
end
section
variable (G:ay)
def jW(l:List Int)(i:Nat):List Int:=l.take i++List.replicate (l.length-i) 0
theorem Cu{l:List Int}{i:Nat}(h:i<l.length):(jW l i).set i l[i]=jW l (i+1):=by
 have hl:(l.take i).length=i:=by simp;omega
 have e:l.length-i=(l.length-(i+1))+1:=by omega
 show(l.take i++List.replicate (l.length-i) 0).set i l[i]=l.take (i+1)++List.replicate (l.length-(i+1)) 0
 rw[List.set_append_right _ _ (by omega),hl,Nat.sub_self,e,List.replicate_succ,List.set_cons_zero,aq h,List.append_assoc]
 rfl
theorem Cm{l:List Int}{i:Nat}(h:i<l.length):(jW l i)[i]?=some 0:=by
 have hl:(l.take i).length=i:=by simp;omega
 rw[jW,List.getElem?_append_right (by omega),hl,Nat.sub_self,List.getElem?_replicate,if_pos (by omega)]
theorem CS{l:List Int}{i:Nat}(h:i<=l.length):(jW l i).length=l.length:=by simp[jW];omega
theorem CA(l:List Int)(hb:l.length<=1048576):AC Tryz.prog G iC [.p (aN l)] [] λx h=>x= .ret (.sl 0 1 0 l.length)/\h=[bN l]:=by
 refine AC.go sZ ?_
 have hbl:aN l= .lst 1 (l.map λn=>[.int .u8 n]):=rfl
 simp-implicitDefEqProofs[lX,hbl]
 refine⟨by omega,?_⟩
 refine az (λi:Nat=>aB 22 [(0,.p (aN l)),(3,.sl 0 1 0 l.length),(4,.p (.int .i64 i))]) (λi=>[bN (jW l i)]) (λi=>i<=l.length) (λi=>l.length-i) 0 (by simp) ?_ ?_
 ·refine an [0] rfl (by simp) (af (by simp[jW]) (by simp) aj) ?_
  simp[below,ren,aN]
 ·intro i hi
  have hlen:=CS hi
  simp-implicitDefEqProofs[hbl]
  refine bf (λh1=>?_) (λh1=>?_)
  ·simp at h1
   have hg:=List.getElem?_eq_getElem h1
   have hg2:=Cm h1
   have hset:((jW l i).map λn=>[AV.p (.int .u8 n)]).set i [.p (.int .u8 l[i])]=(jW l (i+1)).map λn=>[AV.p (.int .u8 n)]:=by rw[←Cu h1,List.map_set]
   have hbo:bN (jW l i)= .row 1 ((jW l i).map λn=>[.p (.int .u8 n)]):=rfl
   clear hlen
   simp-implicitDefEqProofs[hg,hbo,hg2,h1,hset]
   refine⟨i+1,h1,by omega,an [0] rfl (by simp) (af rfl (by simp) aj) ?_⟩
   simp[below,ren,aN,w1 (i:=i) (by omega)]
  ·simp at h1
   have:i=l.length:=by omega
   subst this
   simp-implicitDefEqProofs[jW]
end
section
variable (G:ay)
theorem Cz(xs:List Int)(left:Nat)(hl:left<=1048576)(hb:xs.length<=9223372036854775807):VF Tryz.prog G is [.p (aN xs),.p (.int .i64 left)] (.p (.int .i64 (if xs.length<=left then((left-xs.length:Nat):Int) else-1))):=by
 refine AC.go sM ?_
 have hw:IntKind.i64.wrap ((left:Int)-xs.length)=(left:Int)-xs.length:=ab (by omega) (by omega)
 by_cases h:xs.length<=left
 ·have h1:¬(left:Int)-xs.length<0:=by omega
  have h2:(left:Int)-xs.length=((left-xs.length:Nat):Int):=by omega
  simp-implicitDefEqProofs[iz,aN,hw,h1,h]
  omega
 ·have h1:(left:Int)-xs.length<0:=by omega
  simp-implicitDefEqProofs[iz,aN,hw,h1,h]
theorem FB(xs:List Int)(left:Nat)(hl:left<=1048576)(hb:xs.length<=9223372036854775807):VF Tryz.prog G jl [.p (bc xs),.p (.int .i64 left)] (.p (.int .i64 (if xs.length<=left then((left-xs.length:Nat):Int) else-1))):=by
 refine AC.go uF ?_
 have hw:IntKind.i64.wrap ((left:Int)-xs.length)=(left:Int)-xs.length:=ab (by omega) (by omega)
 by_cases h:xs.length<=left
 ·have h1:¬(left:Int)-xs.length<0:=by omega
  have h2:(left:Int)-xs.length=((left-xs.length:Nat):Int):=by omega
  simp-implicitDefEqProofs[jv,bc,hw,h1,h]
  omega
 ·have h1:(left:Int)-xs.length<0:=by omega
  simp-implicitDefEqProofs[jv,bc,hw,h1,h]
def le(xs:List (List UInt8))(i:Nat):Nat:=((xs.take i).map List.length).sum
theorem Cq{xs:List (List UInt8)}{i:Nat}(h:i<xs.length):le xs (i+1)=le xs i+xs[i].length:=by
 show((xs.take (i+1)).map List.length).sum=((xs.take i).map List.length).sum+xs[i].length
 rw[aq h,List.map_append,List.sum_append]
 rfl
theorem DZ{xs:List (List UInt8)}{i:Nat}(h:xs.length<=i):le xs i=(xs.map List.length).sum:=by rw[le,List.take_of_length_le h]
theorem FS{xs:List (List UInt8)}{i:Nat}:le xs i<=(xs.map List.length).sum:=by
 conv=>rhs;rw[←List.take_append_drop i xs,List.map_append,List.sum_append]
 simp[le]
def szW(xs:List (List UInt8)):Nat:=xs.length+(xs.map List.length).sum
theorem zM(xs:List (List UInt8))(left:Nat)(hl:left<=1048576)(hb:xs.length<=9223372036854775807)(hs:∀x∈xs,x.length<=9223372036854775807):VF Tryz.prog G gb [.p (aW xs),.p (.int .i64 left)] (.p (.int .i64 (if szW xs<=left then((left-szW xs:Nat):Int) else-1))):=by
 refine AC.go pP ?_
 have hw:IntKind.i64.wrap ((left:Int)-xs.length)=(left:Int)-xs.length:=ab (by omega) (by omega)
 have hsz:szW xs=xs.length+(xs.map List.length).sum:=rfl
 by_cases h:xs.length<=left
 case neg=>
  have h1:(left:Int)-xs.length<0:=by omega
  have h2:¬szW xs<=left:=by omega
  simp-implicitDefEqProofs[fY,aW,hw,h1,h2]
 have h1:¬(left:Int)-xs.length<0:=by omega
 simp-implicitDefEqProofs[fY,aW,hw,h1]
 refine az (λi:Nat=>aB 28 [(0,.p (aW xs)),(1,.p (.int .i64 ((left-xs.length-le xs i:Nat):Int))),(5,.p (.int .i64 i))]) (λ_=>[]) (λi=>i<=xs.length/\xs.length+le xs i<=left) (λi=>xs.length-i) 0 (by simp[le];omega) ?_ ?_
 ·refine aA rfl ?_
  simp[below,aW,le]
  omega
 ·intro i ⟨hi,hx⟩
  simp-implicitDefEqProofs[aW]
  refine bf (λh1=>?_) (λh1=>?_)
  ·simp at h1
   have hg:=List.getElem?_eq_getElem h1
   have hle:=hs _ (List.getElem_mem h1)
   have hsu:=Cq h1
   have hsl:=FS (xs:=xs) (i:=i+1)
   have hw2:IntKind.i64.wrap (((left-xs.length-le xs i:Nat):Int)-(xs[i].length:Int))=((left-xs.length-le xs i:Nat):Int)-(xs[i].length:Int):=ab (by omega) (by omega)
   by_cases h2:xs.length+le xs (i+1)<=left
   ·have h3:¬((left-xs.length-le xs i:Nat):Int)-(xs[i].length:Int)<0:=by omega
    have h4:((left-xs.length-le xs i:Nat):Int)-(xs[i].length:Int)=((left-xs.length-le xs (i+1):Nat):Int):=by omega
    rw[h4] at h3
    replace hw2:=hw2.trans h4
    clear hle hsu hsl
    simp-implicitDefEqProofs[hg,hw2,h3]
    refine⟨i+1,⟨h1,h2⟩,by omega,aA rfl (by simp[below,aW,w1 (i:=i) (by omega)])⟩
   ·have h3:((left-xs.length-le xs i:Nat):Int)-(xs[i].length:Int)<0:=by omega
    have h5:¬szW xs<=left:=by omega
    clear hle hsu hsl
    simp-implicitDefEqProofs[hg,hw2,h3,h5]
  ·simp at h1
   have hta:=DZ (xs:=xs) h1
   have h5:szW xs<=left:=by omega
   have h6:((left-xs.length-le xs i:Nat):Int)=((left-szW xs:Nat):Int):=by omega
   simp-implicitDefEqProofs[h5,h6]
def szO(o:Obj):Nat:=o.name.length+o.code.length+o.calls.length+szW o.names
structure ObjSm (o:Obj):Prop where
 name:o.name.length<=9223372036854775807
 code:o.code.length<=9223372036854775807
 calls:o.calls.length<=9223372036854775807
 names:o.names.length<=9223372036854775807
 words:∀x∈o.names,x.length<=9223372036854775807
 bytes:bO o.code
theorem Ax(o:Obj)(left:Nat)(hl:left<=1048576)(ho:ObjSm o):VF Tryz.prog G gH [.agg (o.cs.map .p),.p (.int .i64 left)] (.p (.int .i64 (if szO o<=left then((left-szO o:Nat):Int) else-1))):=by
 refine AC.go rZ ?_
 have hn:=ho.name
 have hw:IntKind.i64.wrap ((left:Int)-o.name.length)=(left:Int)-o.name.length:=ab (by omega) (by omega)
 have hsz:szO o=o.name.length+o.code.length+o.calls.length+szW o.names:=rfl
 by_cases h1:o.name.length<=left
 case neg=>
  have h2:(left:Int)-o.name.length<0:=by omega
  have h3:¬szO o<=left:=by omega
  simp-implicitDefEqProofs[gD,Obj.cs,hw,h2,h3]
 have h2:¬(left:Int)-o.name.length<0:=by omega
 have e2:(left:Int)-o.name.length=((left-o.name.length:Nat):Int):=by omega
 rw[e2] at h2
 replace hw:=hw.trans e2
 simp-implicitDefEqProofs[gD,Obj.cs,hw,h2]
 refine(Cz G o.code (left-o.name.length) (by omega) ho.code).use ?_
 by_cases h4:o.code.length<=left-o.name.length
 case neg=>
  have h3:¬szO o<=left:=by omega
  simp-implicitDefEqProofs[h4,h3]
 have n4:¬((left-o.name.length-o.code.length:Nat):Int)<0:=by omega
 simp-implicitDefEqProofs[h4,n4]
 refine(FB G o.calls (left-o.name.length-o.code.length) (by omega) ho.calls).use ?_
 by_cases h5:o.calls.length<=left-o.name.length-o.code.length
 case neg=>
  have h3:¬szO o<=left:=by omega
  simp-implicitDefEqProofs[h5,h3]
 have n5:¬((left-o.name.length-o.code.length-o.calls.length:Nat):Int)<0:=by omega
 simp-implicitDefEqProofs[h5,n5]
 refine(zM G o.names (left-o.name.length-o.code.length-o.calls.length) (by omega) ho.names ho.words).use ?_
 by_cases h6:szW o.names<=left-o.name.length-o.code.length-o.calls.length
 case neg=>
  have h3:¬szO o<=left:=by omega
  simp-implicitDefEqProofs[h6,h3]
 have n6:¬((left-o.name.length-o.code.length-o.calls.length-szW o.names:Nat):Int)<0:=by omega
 have h3:szO o<=left:=by omega
 simp-implicitDefEqProofs[h6,n6,h3]
 omega
def gy(l:List Int):AO:= .row 1 (l.map λn=>[.p (.int .i64 n)])
theorem vB{l:List Int}{id:Nat}{h:List AO}(e:h[id]?=some (gy l)):View h (.sl id 1 0 l.length) (bc l):=by
 have:=en (h:=h) (id:=id) (sz:=1) (n:=l.length) (ls:=l.map λn=>[.int .i64 n]) (by rw[e,gy];simp) (by simp) (λx hx=>by obtain⟨b,_,rfl⟩:=List.mem_map.1 hx;rfl)
 exact this
def jK(l:List Int)(i:Nat):List Int:=l.take i++List.replicate (l.length-i) 0
theorem CL{l:List Int}{i:Nat}(h:i<l.length):(jK l i).set i l[i]=jK l (i+1):=by
 have hl:(l.take i).length=i:=by simp;omega
 have e:l.length-i=(l.length-(i+1))+1:=by omega
 show(l.take i++List.replicate (l.length-i) 0).set i l[i]=l.take (i+1)++List.replicate (l.length-(i+1)) 0
 rw[List.set_append_right _ _ (by omega),hl,Nat.sub_self,e,List.replicate_succ,List.set_cons_zero,aq h,List.append_assoc]
 rfl
theorem CK{l:List Int}{i:Nat}(h:i<l.length):(jK l i)[i]?=some 0:=by
 have hl:(l.take i).length=i:=by simp;omega
 rw[jK,List.getElem?_append_right (by omega),hl,Nat.sub_self,List.getElem?_replicate,if_pos (by omega)]
theorem Do{l:List Int}{i:Nat}(h:i<=l.length):(jK l i).length=l.length:=by simp[jK];omega
theorem Fg(l:List Int)(hb:l.length<=1048576):AC Tryz.prog G jr [.p (bc l)] [] λx h=>x= .ret (.sl 0 1 0 l.length)/\h=[gy l]:=by
 refine AC.go ul ?_
 have hbl:bc l= .lst 1 (l.map λn=>[.int .i64 n]):=rfl
 simp-implicitDefEqProofs[mZ,hbl]
 refine⟨by omega,?_⟩
 refine az (λi:Nat=>aB 22 [(0,.p (bc l)),(3,.sl 0 1 0 l.length),(4,.p (.int .i64 i))]) (λi=>[gy (jK l i)]) (λi=>i<=l.length) (λi=>l.length-i) 0 (by simp) ?_ ?_
 ·refine an [0] rfl (by simp) (af (by simp[jK]) (by simp) aj) ?_
  simp[below,ren,bc]
 ·intro i hi
  have hlen:=Do hi
  simp-implicitDefEqProofs[hbl]
  refine bf (λh1=>?_) (λh1=>?_)
  ·simp at h1
   have hg:=List.getElem?_eq_getElem h1
   have hg2:=CK h1
   have hset:((jK l i).map λn=>[AV.p (.int .i64 n)]).set i [.p (.int .i64 l[i])]=(jK l (i+1)).map λn=>[AV.p (.int .i64 n)]:=by rw[←CL h1,List.map_set]
   have hbo:gy (jK l i)= .row 1 ((jK l i).map λn=>[.p (.int .i64 n)]):=rfl
   clear hlen
   simp-implicitDefEqProofs[hg,hbo,hg2,h1,hset]
   refine⟨i+1,h1,by omega,an [0] rfl (by simp) (af rfl (by simp) aj) ?_⟩
   simp[below,ren,bc,w1 (i:=i) (by omega)]
  ·simp at h1
   have:i=l.length:=by omega
   subst this
   simp-implicitDefEqProofs[jK]
def fv(l:List (List UInt8)):AO:= .row 1 (l.map λn=>[.p (.str n)])
theorem mu{l:List (List UInt8)}{id:Nat}{h:List AO}(e:h[id]?=some (fv l)):View h (.sl id 1 0 l.length) (aW l):=by
 have:=en (h:=h) (id:=id) (sz:=1) (n:=l.length) (ls:=l.map λn=>[.str n]) (by rw[e,fv];simp) (by simp) (λx hx=>by obtain⟨b,_,rfl⟩:=List.mem_map.1 hx;rfl)
 exact this
def jQ(l:List (List UInt8))(i:Nat):List (List UInt8):=l.take i++List.replicate (l.length-i) []
theorem CT{l:List (List UInt8)}{i:Nat}(h:i<l.length):(jQ l i).set i l[i]=jQ l (i+1):=by
 have hl:(l.take i).length=i:=by simp;omega
 have e:l.length-i=(l.length-(i+1))+1:=by omega
 show(l.take i++List.replicate (l.length-i) []).set i l[i]=l.take (i+1)++List.replicate (l.length-(i+1)) []
 rw[List.set_append_right _ _ (by omega),hl,Nat.sub_self,e,List.replicate_succ,List.set_cons_zero,aq h,List.append_assoc]
 rfl
theorem CB{l:List (List UInt8)}{i:Nat}(h:i<l.length):(jQ l i)[i]?=some []:=by
 have hl:(l.take i).length=i:=by simp;omega
 rw[jQ,List.getElem?_append_right (by omega),hl,Nat.sub_self,List.getElem?_replicate,if_pos (by omega)]
theorem Cj{l:List (List UInt8)}{i:Nat}(h:i<=l.length):(jQ l i).length=l.length:=by simp[jQ];omega
theorem zt(l:List (List UInt8))(hb:l.length<=1048576):AC Tryz.prog G gd [.p (aW l)] [] λx h=>x= .ret (.sl 0 1 0 l.length)/\h=[fv l]:=by
 refine AC.go pL ?_
 have hbl:aW l= .lst 1 (l.map λn=>[.str n]):=rfl
 simp-implicitDefEqProofs[jL,hbl]
 refine⟨by omega,?_⟩
 refine az (λi:Nat=>aB 22 [(0,.p (aW l)),(3,.sl 0 1 0 l.length),(4,.p (.int .i64 i))]) (λi=>[fv (jQ l i)]) (λi=>i<=l.length) (λi=>l.length-i) 0 (by simp) ?_ ?_
 ·refine an [0] rfl (by simp) (af (by simp[jQ]) (by simp) aj) ?_
  simp[below,ren,aW]
 ·intro i hi
  have hlen:=Cj hi
  simp-implicitDefEqProofs[hbl]
  refine bf (λh1=>?_) (λh1=>?_)
  ·simp at h1
   have hg:=List.getElem?_eq_getElem h1
   have hg2:=CB h1
   have hset:((jQ l i).map λn=>[AV.p (.str n)]).set i [.p (.str l[i])]=(jQ l (i+1)).map λn=>[AV.p (.str n)]:=by rw[←CT h1,List.map_set]
   have hbo:fv (jQ l i)= .row 1 ((jQ l i).map λn=>[.p (.str n)]):=rfl
   clear hlen
   simp-implicitDefEqProofs[hg,hbo,hg2,h1,hset]
   refine⟨i+1,h1,by omega,an [0] rfl (by simp) (af rfl (by simp) aj) ?_⟩
   simp[below,ren,aW,w1 (i:=i) (by omega)]
  ·simp at h1
   have:i=l.length:=by omega
   subst this
   simp-implicitDefEqProofs[jQ]
end
section
variable (G:ay)
theorem Av(n:Int):VF Tryz.prog G ce [.p (.int .i32 n)] (.p (.bool (decide (n<97)||decide (122<n)))):=by
 refine AC.go rI ?_
 simp-implicitDefEqProofs[kI]
 by_cases h:n<97
 ·simp-implicitDefEqProofs[h]
 ·simp-implicitDefEqProofs[h]
theorem Gp{s:List UInt8}{i:Nat}(h:i<s.length)(hl:cU s[i]=true):Utf8.decode ⟨⟨s⟩⟩ i=(s[i].toNat,1):=by
 simp only[cU,Bool.and_eq_true,decide_eq_true_eq] at hl
 exact decode_ascii ⟨⟨s⟩⟩ i h (by show(s[i]).toNat<128;omega)
theorem Ds{s:List UInt8}{i:Nat}(h:i<s.length)(hl:¬cU s[i]=true):(((Utf8.decode ⟨⟨s⟩⟩ i).1:Int)<97\/122<((Utf8.decode ⟨⟨s⟩⟩ i).1:Int)):=by
 rcases Nat.lt_or_ge s[i].toNat 128 with h1|h1
 ·rw[show Utf8.decode ⟨⟨s⟩⟩ i=(s[i].toNat,1) from decode_ascii ⟨⟨s⟩⟩ i h h1]
  simp[cU] at hl
  simp only
  omega
 ·have:=(decode_high ⟨⟨s⟩⟩ i h h1).1
  omega
theorem zy(s:List UInt8)(hb:s.length<=140737488355328):VF Tryz.prog G eh [.p (.str s),.fn (.func ce) [],.p (.bool true)] (.p (.int .i64 (xT s))):=by
 refine AC.go mJ ?_
 simp-implicitDefEqProofs[gO]
 refine az (λi:Nat=>aB 21 [(0,.p (.str s)),(1,.fn (.func ce) []),(2,.p (.bool true)),(10,.it 0)]) (λi=>[.sit s i]) (λi=>i<=s.length/\∀x∈s.take i,cU x=true) (λi=>s.length-i) 0 (by simp) ?_ ?_
 ·exact aZ (by simp) (by simp[okO]) (by simp[below,aa])
 ·intro i ⟨hi,hn⟩
  simp-implicitDefEqProofs[]
  by_cases h1:i<s.length
  ·have hg:=List.getElem?_eq_getElem h1
   simp-implicitDefEqProofs[h1]
   refine(Av G _).use ?_
   by_cases hl:cU s[i]=true
   ·have hd:=Gp h1 hl
    have hl':=hl
    simp only[cU,Bool.and_eq_true,decide_eq_true_eq] at hl'
    have e1:¬((s[i].toNat:Int)<97):=by omega
    have e2:¬(122<(s[i].toNat:Int)):=by omega
    rw[hd]
    simp-implicitDefEqProofs[e1,e2]
    refine⟨i+1,⟨h1,λp hp=>?_⟩,by omega,aZ (by simp) (by simp[okO]) (by simp[below,aa])⟩
    rw[aq h1] at hp
    rcases List.mem_append.1 hp with hp|hp
    ·exact hn p hp
    ·rw[List.mem_singleton.1 hp];exact hl
   ·have hd:=Ds h1 hl
    have hf:xT s=i:=by
     have:s.findIdx? (λx=> !cU x)=some i:=by
      rw[List.findIdx?_eq_some_iff_getElem]
      exact⟨h1,by simpa using hl,λj hj=>by have:=hn s[j] (List.mem_take_iff_getElem.2 ⟨j,by omega,rfl⟩);simpa using this⟩
     rw[xT,this]
    have hdb:(decide (((Utf8.decode ⟨⟨s⟩⟩ i).1:Int)<97)||decide (122<((Utf8.decode ⟨⟨s⟩⟩ i).1:Int)))=true:=by
     rcases hd with h|h<;>simp[h]
    rw[hdb]
    simp-implicitDefEqProofs[hf]
  ·have hn':=hn
   rw[List.take_of_length_le (by omega)] at hn'
   have hf:xT s= -1:=by
    have:s.findIdx? (λx=> !cU x)=none:=by
     rw[List.findIdx?_eq_none_iff];intro x hx;simpa using hn' x hx
    rw[xT,this]
   simp-implicitDefEqProofs[h1,hf]
theorem yP(s:List UInt8)(hb:s.length<=140737488355328):VF Tryz.prog G eb [.p (.str s),.fn (.func ce) []] (.p (.int .i64 (xT s))):=by
 refine AC.go mH ?_
 simp-implicitDefEqProofs[gQ]
 refine(zy G s hb).use ?_
 simp-implicitDefEqProofs[]
theorem Gs(L:List (List UInt8))(s:List UInt8)(hb:L.length<=1048576):VF Tryz.prog G dB [.p (aW L),.p (.str s)] (.p (.int .i64 (idxS L s))):=by
 refine AC.go lg ?_
 have hsl:aW L= .lst 1 (L.map λw=>[.str w]):=rfl
 simp-implicitDefEqProofs[fF,hsl]
 refine az (λi:Nat=>aB 19 [(0,.p (aW L)),(1,.p (.str s)),(6,.p (aW L)),(7,.p (.int .i64 L.length)),(8,.p (.int .i64 i))]) (λ_=>[]) (λi=>i<=L.length/\∀w∈L.take i,w≠s) (λi=>L.length-i) 0 (by simp) ?_ ?_
 ·exact aA rfl (by simp[below,aW])
 ·intro i ⟨hi,hn⟩
  simp-implicitDefEqProofs[hsl]
  refine bf (λh1=>?_) (λh1=>?_)
  ·simp at h1
   have hg:=List.getElem?_eq_getElem h1
   by_cases he:L[i]=s
   ·have hf:idxS L s=i:=by
     have:L.findIdx? (λw=>w==s)=some i:=by
      rw[List.findIdx?_eq_some_iff_getElem]
      exact⟨h1,by simpa using he,λj hj=>by have:=hn L[j] (List.mem_take_iff_getElem.2 ⟨j,by omega,rfl⟩);simpa using this⟩
     rw[idxS,this]
    have he':s=L[i]:=he.symm
    simp-implicitDefEqProofs[hg,hf,←he']
   ·have he':¬s=L[i]:=λe=>he e.symm
    simp-implicitDefEqProofs[hg,he']
    refine⟨i+1,⟨h1,λp hp=>?_⟩,by omega,aA rfl ?_⟩
    ·rw[aq h1] at hp
     rcases List.mem_append.1 hp with hp|hp
     ·exact hn p hp
     ·rw[List.mem_singleton.1 hp];exact he
    ·simp[below,aW,w1 (i:=i) (by omega)]
  ·simp at h1
   rw[List.take_of_length_le h1] at hn
   have hf:idxS L s= -1:=by
    have:L.findIdx? (λw=>w==s)=none:=by
     rw[List.findIdx?_eq_none_iff];intro x hx;simpa using hn x hx
    rw[idxS,this]
   simp-implicitDefEqProofs[hf]
theorem nv(L:List (List UInt8))(s:List UInt8)(hb:L.length<=1048576):VF Tryz.prog G bH [.p (aW L),.p (.str s)] (.p (.bool (L.contains s))):=by
 rw[←EN]
 refine AC.go jy ?_
 simp-implicitDefEqProofs[eu]
 refine(Gs G L s hb).use ?_
 simp-implicitDefEqProofs[]
abbrev ju:Nat:=0
def iu:List PV:=keyW.map .str
variable (hK:G ju=some iu)
include hK
theorem tc(s:List UInt8)(hb:s.length<=140737488355328):VF Tryz.prog G ey [.p (.str s)] (.p (.bool (aP s))):=by
 refine AC.go uk ?_
 dsimp only[ju] at hK
 simp-implicitDefEqProofs[mX]
 refine(dk G _ _ _).use ?_
 have hr:inR (s.length:Int) 1 4=(decide (0<s.length)&&decide (s.length<=4)):=by
  unfold inR
  by_cases h1:0<s.length<;>by_cases h2:s.length<=4<;>simp[h1,h2]<;>omega
 rw[hr]
 have hi:aP s=((decide (0<s.length)&&decide (s.length<=4))&&(s.all cU&& !keyW.contains s)):=by
  rw[aP];cases s.all cU<;>cases decide (0<s.length)<;>cases decide (s.length<=4)<;>rfl
 cases h1:(decide (0<s.length)&&decide (s.length<=4)) with
 |false=>
  rw[hi,h1]
  simp-implicitDefEqProofs[]
 |true=>
  rw[hi,h1]
  simp-implicitDefEqProofs[]
  refine(yP G s hb).use ?_
  rw[←Ev]
  by_cases hn:xT s<0
  ·simp-implicitDefEqProofs[hn,hK,iu,keyW]
   refine(nv G keyW s (by decide)).use ?_
   simp-implicitDefEqProofs[keyW]
  ·simp-implicitDefEqProofs[hn]
end
section
def sOf(op:Int):Int:=shpT.getD op.toNat 2
theorem Cg{op:Int}(h:inR op 1 22=true):
 (sOf op=0/\ff op=false/\(op==1||inR op 15 18)=true)\/
 (sOf op=1/\ff op=false/\(op==1||inR op 15 18)=false/\inR op 3 9=false/\(op==2||inR op 10 12)=true)\/
 (sOf op=2/\ff op=false/\(op==1||inR op 15 18)=false/\inR op 3 9=true)\/
 (sOf op=3/\ff op=false/\(op==1||inR op 15 18)=false/\inR op 3 9=false/\(op==2||inR op 10 12)=false/\(op==14)=false)\/
 (sOf op=4/\ff op=false/\(op==1||inR op 15 18)=false/\inR op 3 9=false/\(op==2||inR op 10 12)=false/\(op==14)=true)\/
 (sOf op=5/\ff op=true):=by
 rcases zz h with rfl|rfl|rfl|rfl|rfl|rfl|rfl|rfl|rfl|rfl|rfl|rfl|rfl|rfl|rfl|rfl|rfl|rfl|rfl|rfl|rfl|rfl<;>decide
variable (G:ay)
theorem zg(n:Int)(h:0<=n/\n<=255):VF Tryz.prog G bg [.p (.int .u8 n)] (.p (.int .i64 n)):=by
 refine AC.go pU ?_
 simp-implicitDefEqProofs[jN,ab (x:=n) (by omega) (by omega)]
def sV(l:List Int):PV:= .lst 1 (l.map λn=>[.int .i64 n])
def jz(l:List Int):List (List AV):=l.map λn=>[.p (.int .i64 n)]
theorem Cy(l:List Int):∀x∈jz l,aa 0 x:=by
 intro x hx;obtain⟨m,_,rfl⟩:=List.mem_map.1 hx;simp[aa,below]
theorem Eu(l:List Int)(hb:bO l)(hl:l.length<=1048576):VF Tryz.prog G cq [.p (aN l),.fn (.func bg) []] (.p (sV l)):=by
 have key:AC Tryz.prog G cq [.p (aN l),.fn (.func bg) []] [] λx h=>x= .ret (slE 0 1 (jz l))/\(l≠[]->h[0]?=some (.row 1 (jz l))):=by
  refine AC.go nW ?_
  have hbl:aN l= .lst 1 (l.map λn=>[.int .u8 n]):=rfl
  simp-implicitDefEqProofs[iT,hbl]
  refine az (λi:Nat=>aB 22 [(1,.fn (.func bg) []),(5,slE 0 1 (jz (l.take i))),(8,.p (aN l)),(9,.p (.int .i64 l.length)),(10,.p (.int .i64 i))])
   (λi=>if i=0 then[] else[.row 1 (jz (l.take i))]) (λi=>i<=l.length) (λi=>l.length-i) 0 (by simp) ?_ ?_
  ·exact aA rfl (by simp[below,aa,aN,jz,slE])
  ·intro i hi
   simp-implicitDefEqProofs[hbl]
   refine bf (λh1=>?_) (λh1=>?_)
   ·simp at h1
    have hg:=List.getElem?_eq_getElem h1
    have hnb:=hb _ (List.getElem_mem h1)
    simp-implicitDefEqProofs[hg]
    refine(zg G _ hnb).use ?_
    have hts:jz (l.take (i+1))=jz (l.take i)++[[.p (.int .i64 l[i])]]:=by rw[jz,aq h1,List.map_append];rfl
    have hne:([[.p (.int .i64 l[i])]]:List (List AV))≠[]:=by simp
    have hln:(jz (l.take i)).length=i:=by simp[jz];omega
    have fin:∀(l1:List (Nat × AV)) (h:List AO) (k:Nat),h[k]?=some (.row 1 (jz (l.take (i+1))))->TWA [k] l1 [(1,.fn (.func bg) []),(5,.sl 0 1 0 (i+1)),(8,.p (aN l)),(9,.p (.int .i64 l.length)),(10,.p (.int .i64 ((i+1:Nat):Int)))]->
     Wk 0 (aB 22 l1) h (aB 22 [(1,.fn (.func bg) []),(5,slE 0 1 (jz (l.take (i+1)))),(8,.p (aN l)),(9,.p (.int .i64 l.length)),(10,.p (.int .i64 ((i+1:Nat):Int)))]) (if i+1=0 then[] else[.row 1 (jz (l.take (i+1)))]):=λl1 h k hk hl1=>by
     rw[if_neg (by omega),show slE 0 1 (jz (l.take (i+1)))= .sl 0 1 0 (i+1) by rw[hts,sr _ hne,hln];rfl]
     exact an [k] rfl (by simp) (af hk (Cy _) aj) hl1
    rcases Nat.eq_zero_or_pos i with h0|h0
    ·subst h0
     have hsl0:slE 0 1 (jz ([]:List Int))= .nils:=rfl
     simp-implicitDefEqProofs[hsl0]
     refine⟨1,h1,by omega,?_⟩
     refine fin _ _ 1 ?_ ?_
     ·rw[hts];rfl
     ·simp[below,aa,ren,aF,aN]
      rfl
    ·have h0':¬i=0:=by omega
     have hsl:slE 0 1 (jz (l.take i))= .sl 0 1 0 i:=by rw[cM (by intro e;rw[e] at hln;simp at hln;omega),hln]
     simp-implicitDefEqProofs[h0',hsl,hln]
     refine⟨⟨by omega,by omega⟩,i+1,h1,by omega,fin _ _ 2 (by rw[hts];simp[List.take_of_length_le,hln]) (by simp[below,aa,ren,aF,aN,w1 (i:=i) (by omega)])⟩
   ·simp at h1
    have hie:i=l.length:=by omega
    subst hie
    simp-implicitDefEqProofs[List.take_length]
    intro hne
    simp[hne]
 refine key.freezeR (λt v h ⟨e,_⟩=>by cases e) λv h ⟨e1,e2⟩=>?_
 cases e1
 by_cases hne:l=[]
 ·subst hne;exact .one (View.nils 1) .nil
 ·have hn:jz l≠[]:=by simpa[jz] using hne
  have hm:jz l=(l.map λn=>[PV.int .i64 n]).map (·.map .p):=by simp[jz]
  have:=zZ (h:=h) (id:=0) (sz:=1) (ls:=l.map λn=>[PV.int .i64 n]) (by rw[←hm,dR hn];exact e2 hne) (by simp)
  rw[←hm] at this
  exact .one this .nil
def zMi:Mins:=⟨0,0,0,0,0⟩
theorem dC{code:List Int}{i n k:Nat}(hk:k<n)(h:i+n<=code.length):((code.drop i).take n)[k]?=some (aI code (i+k)):=by
 rw[List.getElem?_take,if_pos hk,List.getElem?_drop,cP (by omega)]
theorem fq(op:Int)(h:inR op 1 22=true):VF Tryz.prog G cR [.p (.int .i64 op)] (.p (.int .i64 (sOf op))):=uY G op h
theorem CX(code:List Int)(hb:bO code)(i:Nat)(hi:i<code.length)(hl:code.length<=1048576):
 VF Tryz.prog G iB [.p (aN code),.p (.int .i64 i)] (.tup [.agg ((if bj code i then bK code i else zMi).cs.map .p),.p (.int .i64 (if bj code i then aH code i else 0:Nat))]):=by
 refine AC.go sR ?_
 have hbl:aN code= .lst 1 (code.map λn=>[.int .u8 n]):=rfl
 have hg0:=cP hi
 have h0:=dG hb i
 have hcv:IntKind.i64.wrap (aI code i)=aI code i:=ab (by omega) (by omega)
 have hsz:aH code i=aK (dX (aO code i)) (dI code i):=rfl
 have hX:bK code i=mK code i (aO code i) (dI code i):=rfl
 have hil:(i:Int)<=code.length:=by omega
 have hdr:List.drop i (List.take code.length (code.map λn=>[PV.int .u8 n]))=(code.drop i).map λn=>[PV.int .u8 n]:=by rw[List.take_of_length_le (by simp),List.map_drop]
 simp-implicitDefEqProofs[ln,hbl,hg0,hcv,hil,hdr]
 refine⟨by omega,?_⟩
 have hbad:¬eQ code i=true->((if bj code i then bK code i else zMi)=zMi/\(if bj code i then aH code i else 0)=0):=λh=>by simp[bj,h]
 have hnofit:¬i+aH code i<=code.length->((if bj code i then bK code i else zMi)=zMi/\(if bj code i then aH code i else 0)=0):=λh=>by simp[bj,h]
 have hfine:eQ code i=true->i+aH code i<=code.length->bj code i=true:=λh1 h2=>by simp[bj,h1,h2]
 have hrest:(((code.drop i).length:Nat):Int)=(code.length:Int)-i:=by simp;omega
 have hmp:∀n,VF Tryz.prog G cq [.p (.lst 1 (List.take n (List.drop i (code.map λn=>[PV.int .u8 n])))),.fn (.func bg) []] (.p (sV ((code.drop i).take n))):=λn=>by
  have:=Eu G ((code.drop i).take n) (λx hx=>hb x (List.mem_of_mem_drop (List.mem_of_mem_take hx))) (by simp;omega)
  rw[aN,List.map_take,List.map_drop] at this;exact this
 have b1:=dG hb (i+1)
 have hm:(aI code (i+1)).tmod 8=aI code (i+1)%8:=Int.tmod_eq_emod_of_nonneg b1.1
 have hdd:(aI code (i+1)).tdiv 8=aI code (i+1)/8:=Int.tdiv_eq_ediv_of_nonneg b1.1
 have hdv:IntKind.i64.wrap (aI code (i+1)/8)=aI code (i+1)/8:=ab (by omega) (by omega)
 have hs8:∀k,IntKind.i8.wrap (aI code k)=s8 (aI code k):=λk=>by
  have:=dG hb k
  simp[IntKind.wrap,IntKind.bits,IntKind.signed,s8]
  split<;>split<;>omega
 have hr8:∀k,-128<=s8 (aI code k)/\s8 (aI code k)<=127:=λk=>by
  have:=dG hb k
  unfold s8;split<;>omega
 have hr64:∀k,IntKind.i64.wrap (s8 (aI code k))=s8 (aI code k):=λk=>ab (by have:=hr8 k;omega) (by have:=hr8 k;omega)
 have hsum:∀n k:Nat,n<=4->IntKind.i64.wrap (((i+n:Nat):Int)+s8 (aI code k))=((i+n:Nat):Int)+s8 (aI code k):=λn k hn=>ab (by have:=hr8 k;omega) (by have:=hr8 k;omega)
 have hwi:∀n:Nat,n<=4->IntKind.i64.wrap ((i:Int)+n)=((i+n:Nat):Int):=λn hn=>gR (by omega) (by omega)
 have hlong:∀k l:Nat,IntKind.i64.wrap (aI code k+IntKind.i64.wrap (256*aI code l))=aI code k+256*aI code l:=λk l=>by
  have:=dG hb k
  have:=dG hb l
  rw[ab (x:=256*_) (by omega) (by omega),ab (by omega) (by omega)]
 cases hL:dI code i with
 |false=>
  have hlt:aI code i<128:=by simpa[dI] using hL
  have hop:aO code i=aI code i:=by rw[aO];omega
  have hng:¬128<=aO code i:=by omega
  rw[hL] at hsz hX
  rw[←hop]
  simp-implicitDefEqProofs[hng]
  refine(dk G _ _ _).use ?_
  by_cases hr:inR (aO code i) 1 22=true
  rotate_left
  ·obtain⟨e1,e2⟩:=hbad (by simp[eQ,hr])
   simp-implicitDefEqProofs[hr,e1,e2]
   simp[zMi,Mins.cs]
  have hok:eQ code i=true:=by simp[eQ,hr,hL]
  simp-implicitDefEqProofs[hr,er,keq]
  refine(fq G _ hr).use ?_
  rcases Cg hr with⟨hs,hj,c1⟩|⟨hs,hj,c1,c2,c3⟩|⟨hs,hj,c1,c2⟩|⟨hs,hj,c1,c2,c3,c4⟩|⟨hs,hj,c1,c2,c3,c4⟩|⟨hs,hj⟩
  ·have h21:¬aO code i=21:=by intro e;simp[ff,e] at hj
   have hn:aH code i=3:=by rw[hsz,aK,if_neg (by simpa[jmp,dX,ff] using hj),aM];simp only[dX,c1,if_true];try rfl
   have hXe:bK code i=⟨aO code i,aI code (i+1),0,0,aI code (i+2)⟩:=by rw[hX];simp only[mK,hj,c1,if_true];try rfl
   simp-implicitDefEqProofs[hs,h21,bw,keq]
   refine bf (λh1=>?_) (λh1=>?_)
   ·obtain⟨e1,e2⟩:=hnofit (by rw[hn];simp at h1;omega)
    simp-implicitDefEqProofs[e1,e2]
    simp[zMi,Mins.cs]
   have hfit:i+3<=code.length:=by simp at h1;omega
   have hgd:=hfine hok (by rw[hn];exact hfit)
   have hll:3<=code.length-i:=by omega
   simp-implicitDefEqProofs[hll]
   refine(hmp 3).use ?_
   have g1:=dC (code:=code) (i:=i) (n:=3) (k:=1) (by omega) hfit
   have g2:=dC (code:=code) (i:=i) (n:=3) (k:=2) (by omega) hfit
   generalize ((code.drop i).take 3)=q at g1 g2⊢
   simp-implicitDefEqProofs[]
   refine(fq G _ hr).use ?_
   simp-implicitDefEqProofs[hs,sV,g1,g2]
   simp[hgd,hn,Mins.cs,hXe]
  ·have h21:¬aO code i=21:=by intro e;simp[ff,e] at hj
   have hn:aH code i=2:=by rw[hsz,aK,if_neg (by simpa[jmp,dX,ff] using hj),aM];simp only[dX,c1,c2,c3,if_true,if_false,Bool.false_eq_true];try rfl
   have hXe:bK code i=⟨aO code i,aI code (i+1)%8,aI code (i+1)/8,0,0⟩:=by rw[hX];simp only[mK,hj,c1,c2,c3,if_true,if_false,Bool.false_eq_true];try rfl
   simp-implicitDefEqProofs[hs,h21,bw,keq]
   refine bf (λh1=>?_) (λh1=>?_)
   ·obtain⟨e1,e2⟩:=hnofit (by rw[hn];simp at h1;omega)
    simp-implicitDefEqProofs[e1,e2]
    simp[zMi,Mins.cs]
   have hfit:i+2<=code.length:=by simp at h1;omega
   have hgd:=hfine hok (by rw[hn];exact hfit)
   have hll:2<=code.length-i:=by omega
   simp-implicitDefEqProofs[hll]
   refine(hmp 2).use ?_
   have g1:=dC (code:=code) (i:=i) (n:=2) (k:=1) (by omega) hfit
   generalize ((code.drop i).take 2)=q at g1⊢
   simp-implicitDefEqProofs[]
   refine(fq G _ hr).use ?_
   simp-implicitDefEqProofs[hs,sV,g1,hm,hdd,hdv]
   simp[hgd,hn,Mins.cs,hXe]
  ·have h21:¬aO code i=21:=by intro e;simp[ff,e] at hj
   have hn:aH code i=3:=by rw[hsz,aK,if_neg (by simpa[jmp,dX,ff] using hj),aM];simp only[dX,c1,c2,if_true,if_false,Bool.false_eq_true];try rfl
   have hXe:bK code i=⟨aO code i,aI code (i+1)%8,aI code (i+1)/8,aI code (i+2),0⟩:=by rw[hX];simp only[mK,hj,c1,c2,if_true,if_false,Bool.false_eq_true];try rfl
   simp-implicitDefEqProofs[hs,h21,bw,keq]
   refine bf (λh1=>?_) (λh1=>?_)
   ·obtain⟨e1,e2⟩:=hnofit (by rw[hn];simp at h1;omega)
    simp-implicitDefEqProofs[e1,e2]
    simp[zMi,Mins.cs]
   have hfit:i+3<=code.length:=by simp at h1;omega
   have hgd:=hfine hok (by rw[hn];exact hfit)
   have hll:3<=code.length-i:=by omega
   simp-implicitDefEqProofs[hll]
   refine(hmp 3).use ?_
   have g1:=dC (code:=code) (i:=i) (n:=3) (k:=1) (by omega) hfit
   have g2:=dC (code:=code) (i:=i) (n:=3) (k:=2) (by omega) hfit
   generalize ((code.drop i).take 3)=q at g1 g2⊢
   simp-implicitDefEqProofs[]
   refine(fq G _ hr).use ?_
   simp-implicitDefEqProofs[hs,sV,g1,g2,hm,hdd,hdv]
   simp[hgd,hn,Mins.cs,hXe]
  ·have h21:¬aO code i=21:=by intro e;simp[ff,e] at hj
   have hn:aH code i=2:=by rw[hsz,aK,if_neg (by simpa[jmp,dX,ff] using hj),aM];simp only[dX,c1,c2,c3,c4,if_true,if_false,Bool.false_eq_true];try rfl
   have hXe:bK code i=⟨aO code i,aI code (i+1),0,0,0⟩:=by rw[hX];simp only[mK,hj,c1,c2,c3,c4,if_true,if_false,Bool.false_eq_true];try rfl
   simp-implicitDefEqProofs[hs,h21,bw,keq]
   refine bf (λh1=>?_) (λh1=>?_)
   ·obtain⟨e1,e2⟩:=hnofit (by rw[hn];simp at h1;omega)
    simp-implicitDefEqProofs[e1,e2]
    simp[zMi,Mins.cs]
   have hfit:i+2<=code.length:=by simp at h1;omega
   have hgd:=hfine hok (by rw[hn];exact hfit)
   have hll:2<=code.length-i:=by omega
   simp-implicitDefEqProofs[hll]
   refine(hmp 2).use ?_
   have g1:=dC (code:=code) (i:=i) (n:=2) (k:=1) (by omega) hfit
   generalize ((code.drop i).take 2)=q at g1⊢
   simp-implicitDefEqProofs[]
   refine(fq G _ hr).use ?_
   simp-implicitDefEqProofs[hs,sV,g1]
   simp[hgd,hn,Mins.cs,hXe]
  ·have h21:¬aO code i=21:=by intro e;simp[ff,e] at hj
   have hn:aH code i=2:=by rw[hsz,aK,if_neg (by simpa[jmp,dX,ff] using hj),aM];simp only[dX,c1,c2,c3,c4,if_true,if_false,Bool.false_eq_true];try rfl
   have hXe:bK code i=⟨aO code i,0,0,0,aI code (i+1)⟩:=by rw[hX];simp only[mK,hj,c1,c2,c3,c4,if_true,if_false,Bool.false_eq_true];try rfl
   simp-implicitDefEqProofs[hs,h21,bw,keq]
   refine bf (λh1=>?_) (λh1=>?_)
   ·obtain⟨e1,e2⟩:=hnofit (by rw[hn];simp at h1;omega)
    simp-implicitDefEqProofs[e1,e2]
    simp[zMi,Mins.cs]
   have hfit:i+2<=code.length:=by simp at h1;omega
   have hgd:=hfine hok (by rw[hn];exact hfit)
   have hll:2<=code.length-i:=by omega
   simp-implicitDefEqProofs[hll]
   refine(hmp 2).use ?_
   have g1:=dC (code:=code) (i:=i) (n:=2) (k:=1) (by omega) hfit
   generalize ((code.drop i).take 2)=q at g1⊢
   simp-implicitDefEqProofs[]
   refine(fq G _ hr).use ?_
   simp-implicitDefEqProofs[hs,sV,g1]
   simp[hgd,hn,Mins.cs,hXe]
  ·have hc:aO code i=20\/aO code i=21:=by simpa[ff] using hj
   rcases hc with e|e
   ·skip
    have hn:aH code i=2:=by rw[hsz,e];rfl
    have hXe:bK code i=⟨20,0,0,0,((i+2:Nat):Int)+s8 (aI code (i+1))⟩:=by rw[hX,e];rfl
    simp-implicitDefEqProofs[show sOf 20=5 from rfl,show sOf 21=5 from rfl,e,bw,keq,show IntKind.i64.wrap 3=3 from rfl,show IntKind.i64.wrap 4=4 from rfl]
    refine bf (λh1=>?_) (λh1=>?_)
    ·obtain⟨e1,e2⟩:=hnofit (by rw[hn];simp at h1;omega)
     simp-implicitDefEqProofs[e1,e2]
     simp[zMi,Mins.cs]
    have hfit:i+2<=code.length:=by simp at h1;omega
    have hgd:=hfine hok (by rw[hn];exact hfit)
    have hll:2<=code.length-i:=by omega
    simp-implicitDefEqProofs[hll]
    refine(hmp 2).use ?_
    have gr:=cP (code:=code) (i:=i+1) (by omega)
    have g0:=dC (code:=code) (i:=i) (n:=2) (k:=0) (by omega) hfit
    generalize ((code.drop i).take 2)=q at g0⊢
    simp-implicitDefEqProofs[]
    refine(fq G 20 rfl).use ?_
    simp-implicitDefEqProofs[show sOf 20=5 from rfl,show sOf 21=5 from rfl,e,sV,g0,show IntKind.i64.wrap 1=1 from rfl,show IntKind.i64.wrap 2=2 from rfl,show IntKind.i64.wrap 3=3 from rfl,gr,hs8,hr64]
    simp[hgd,hn,Mins.cs,hXe,hsum]
    have:=hr8 (i+1)
    rw[ab (x:=(i:Int)+2) (by omega) (by omega),ab (by omega) (by omega)]
   ·skip
    have hn:aH code i=3:=by rw[hsz,e];rfl
    have hXe:bK code i=⟨21,aI code (i+1),0,0,((i+3:Nat):Int)+s8 (aI code (i+2))⟩:=by rw[hX,e];rfl
    simp-implicitDefEqProofs[show sOf 20=5 from rfl,show sOf 21=5 from rfl,e,bw,keq,show IntKind.i64.wrap 3=3 from rfl,show IntKind.i64.wrap 4=4 from rfl]
    refine bf (λh1=>?_) (λh1=>?_)
    ·obtain⟨e1,e2⟩:=hnofit (by rw[hn];simp at h1;omega)
     simp-implicitDefEqProofs[e1,e2]
     simp[zMi,Mins.cs]
    have hfit:i+3<=code.length:=by simp at h1;omega
    have hgd:=hfine hok (by rw[hn];exact hfit)
    have hll:3<=code.length-i:=by omega
    simp-implicitDefEqProofs[hll]
    refine(hmp 3).use ?_
    have g1:=dC (code:=code) (i:=i) (n:=3) (k:=1) (by omega) hfit
    have gr:=cP (code:=code) (i:=i+2) (by omega)
    generalize ((code.drop i).take 3)=q at g1⊢
    simp-implicitDefEqProofs[]
    refine(fq G 21 rfl).use ?_
    simp-implicitDefEqProofs[show sOf 20=5 from rfl,show sOf 21=5 from rfl,e,sV,g1,show IntKind.i64.wrap 1=1 from rfl,show IntKind.i64.wrap 2=2 from rfl,show IntKind.i64.wrap 3=3 from rfl,gr,hs8,hr64]
    simp[hgd,hn,Mins.cs,hXe,hsum]
    have:=hr8 (i+2)
    rw[ab (x:=(i:Int)+3) (by omega) (by omega),ab (by omega) (by omega)]
 |true=>
  have hge:128<=aI code i:=by simpa[dI] using hL
  have hop:aO code i=aI code i-128:=by rw[aO];omega
  have hwo:IntKind.i64.wrap (aI code i-128)=aO code i:=by rw[ab (by omega) (by omega),hop]
  rw[hL] at hsz hX
  simp-implicitDefEqProofs[hge,hwo]
  refine(dk G _ _ _).use ?_
  by_cases hr:inR (aO code i) 1 22=true
  rotate_left
  ·obtain⟨e1,e2⟩:=hbad (by simp[eQ,hr])
   simp-implicitDefEqProofs[hr,e1,e2]
   simp[zMi,Mins.cs]
  simp-implicitDefEqProofs[hr]
  refine(aY G _).use ?_
  have hjo:(aO code i==20||aO code i==21)=ff (aO code i):=rfl
  cases hj:ff (aO code i) with
  |false=>
   obtain⟨e1,e2⟩:=hbad (by simp[eQ,hL,hj])
   rw[hjo,hj]
   simp-implicitDefEqProofs[e1,e2]
   simp[zMi,Mins.cs]
  |true=>
  rw[hjo,hj]
  have hok:eQ code i=true:=by simp[eQ,hr,hL,hj]
  simp-implicitDefEqProofs[er,keq]
  refine(fq G _ hr).use ?_
  have hc:aO code i=20\/aO code i=21:=by simpa[ff] using hj
  have hs:sOf (aO code i)=5:=by rcases hc with e|e<;>rw[e]<;>rfl
  rcases hc with e|e
  ·skip
   have hn:aH code i=3:=by rw[hsz,e];rfl
   have hXe:bK code i=⟨20,0,0,0,aI code (i+1)+256*aI code (i+2)⟩:=by rw[hX,e];rfl
   simp-implicitDefEqProofs[show sOf 20=5 from rfl,show sOf 21=5 from rfl,e,bw,keq,show IntKind.i64.wrap 3=3 from rfl,show IntKind.i64.wrap 4=4 from rfl]
   refine bf (λh1=>?_) (λh1=>?_)
   ·obtain⟨e1,e2⟩:=hnofit (by rw[hn];simp at h1;omega)
    simp-implicitDefEqProofs[e1,e2]
    simp[zMi,Mins.cs]
   have hfit:i+3<=code.length:=by simp at h1;omega
   have hgd:=hfine hok (by rw[hn];exact hfit)
   have hll:3<=code.length-i:=by omega
   simp-implicitDefEqProofs[hll]
   refine(hmp 3).use ?_
   have g1:=dC (code:=code) (i:=i) (n:=3) (k:=1) (by omega) hfit
   have g2:=dC (code:=code) (i:=i) (n:=3) (k:=2) (by omega) hfit
   generalize ((code.drop i).take 3)=q at g1 g2⊢
   simp-implicitDefEqProofs[]
   refine(fq G 20 rfl).use ?_
   simp-implicitDefEqProofs[show sOf 20=5 from rfl,show sOf 21=5 from rfl,e,sV,g1,g2,show IntKind.i64.wrap 1=1 from rfl,show IntKind.i64.wrap 2=2 from rfl,show IntKind.i64.wrap 3=3 from rfl,hlong]
   simp[hgd,hn,Mins.cs,hXe]
  ·skip
   have hn:aH code i=4:=by rw[hsz,e];rfl
   have hXe:bK code i=⟨21,aI code (i+1),0,0,aI code (i+2)+256*aI code (i+3)⟩:=by rw[hX,e];rfl
   simp-implicitDefEqProofs[show sOf 20=5 from rfl,show sOf 21=5 from rfl,e,bw,keq,show IntKind.i64.wrap 3=3 from rfl,show IntKind.i64.wrap 4=4 from rfl]
   refine bf (λh1=>?_) (λh1=>?_)
   ·obtain⟨e1,e2⟩:=hnofit (by rw[hn];simp at h1;omega)
    simp-implicitDefEqProofs[e1,e2]
    simp[zMi,Mins.cs]
   have hfit:i+4<=code.length:=by simp at h1;omega
   have hgd:=hfine hok (by rw[hn];exact hfit)
   have hll:4<=code.length-i:=by omega
   simp-implicitDefEqProofs[hll]
   refine(hmp 4).use ?_
   have g1:=dC (code:=code) (i:=i) (n:=4) (k:=1) (by omega) hfit
   have g2:=dC (code:=code) (i:=i) (n:=4) (k:=2) (by omega) hfit
   have g3:=dC (code:=code) (i:=i) (n:=4) (k:=3) (by omega) hfit
   generalize ((code.drop i).take 4)=q at g1 g2 g3⊢
   simp-implicitDefEqProofs[]
   refine(fq G 21 rfl).use ?_
   simp-implicitDefEqProofs[show sOf 20=5 from rfl,show sOf 21=5 from rfl,e,sV,g1,g2,g3,show IntKind.i64.wrap 1=1 from rfl,show IntKind.i64.wrap 2=2 from rfl,show IntKind.i64.wrap 3=3 from rfl,hlong]
   simp[hgd,hn,Mins.cs,hXe]
end
section
variable (G:ay)
structure DS where
 ps:List Nat
 a:Nat
def sdH(p s:Int)(ins:List Mins)(ps:List Nat):List AO:=[.row 3 [dq],.row 3 [[.p (.int .i64 p),.p (.int .i64 s),slE 3 5 (ins.map Mins.av)]],aw ps,ki 5 (ins.map Mins.av)]
theorem dD(ins:List Mins):∀x∈ins.map Mins.av,aa 0 x:=by
 intro x hx;obtain⟨m,_,rfl⟩:=List.mem_map.1 hx;simp[Mins.av_eq,aa,below]
theorem Dk(ps:List Nat):∀x∈ps.map (λ(n:Nat)=>[AV.p (.int .i64 (n:Int))]),aa 0 x:=by
 intro x hx;obtain⟨m,_,rfl⟩:=List.mem_map.1 hx;simp[aa,below]
theorem BX(code:List Int)(ps:List Nat)(a:Nat):gA code (ps++[a])=gA code ps++[bK code a]:=by simp[gA]
theorem sb:AK.whole gL=FK.ak gE:=rfl
theorem zH(p s:Int)(code:List Int)(hb:bO code)(hl:code.length<=1048576):
 AC Tryz.prog G eK [.p (.int .i64 p),.p (.int .i64 s),.p (aN code)] [] λx h=>match ec p s code with
  |none=>x= .ret (.tup [.agg dq,.p (.bool false)])
  |some f=>∃id,x= .ret (.tup [.agg (f.ov id),.p (.bool true)])/\h[id]?=some (fE f.ins):=by
 refine AC.goK rM sb ?_
 have hbl:aN code= .lst 1 (code.map λn=>[.int .u8 n]):=rfl
 have hin:∀ps,aw ps= .row 1 (ps.map λ(n:Nat)=>[.p (.int .i64 (n:Int))]):=λ_=>rfl
 simp-implicitDefEqProofs[gL,gE]
 refine JB (λps:List Nat=>aB 95 [(0,.p (.int .i64 p)),(1,.p (.int .i64 s)),(2,.p (aN code)),(6,.ptr 0 3 0 0),(7,.p (.bool false)),(8,.ptr 1 3 0 0),(9,.sl 2 1 0 ps.length)])
  (λps=>sdH p s (gA code ps) ps) (λps=>(code.length<=8000->cB code 0=some ps)/\(¬code.length<=8000->ps=[])/\2*ps.length<=code.length) ?_ λps hps=>?_
 ·simp-implicitDefEqProofs
  refine az (λd:DS=>aB 95 [(0,.p (.int .i64 p)),(1,.p (.int .i64 s)),(2,.p (aN code)),(6,.ptr 0 3 0 0),(7,.p (.bool false)),(8,.ptr 1 3 0 0),(9,.sl 2 1 0 d.ps.length),(10,.p (.int .i64 d.a))])
   (λd=>sdH p s (gA code d.ps) d.ps) (λd=>(code.length<=8000->cB code 0=(cB code d.a).map (d.ps++ ·))/\(¬code.length<=8000->d.ps=[]/\d.a=0)/\2*d.ps.length<=d.a/\d.a<=code.length)
   (λd=>code.length-d.a) ⟨[],0⟩ (by simp) ?_ ?_
  ·simp only[sdH,gA,List.map_nil,sw,oO]
   exact su [0,1,2,0] (by simp) (by simp) (by simp[gP,aw]) (af rfl (by simp[dq,aa,below]) (af rfl (by simp[aa,below]) (af rfl (by simp) (bW (by simp) aj)))) (by simp[below,ren,aN])
  ·rintro⟨ps,a⟩ ⟨i1,i2,i3,i4⟩
   simp only at i1 i2 i3 i4
   simp-implicitDefEqProofs[sdH,hbl]
   by_cases h1:a<code.length
   ·by_cases h8:code.length<=8000
    ·have h8i:(code.length:Int)<=8000:=by omega
     simp-implicitDefEqProofs[h1,h8i]
     have hone:=Eg G code hb a h1 hl
     by_cases hg:bj code a=true
     ·rw[if_pos hg] at hone
      refine hone.use ?_
      have hlen:(gA code ps).length=ps.length:=kA _ _
      have hz2:=ml code a
      have hgl:=sG hg
      have hw:IntKind.i64.wrap ((a:Int)+aH code a)=((a+aH code a:Nat):Int):=gR (by omega) (by omega)
      simp-implicitDefEqProofs[hin,hlen,hw,Mins.cs]
      refine⟨⟨by omega,by omega⟩,⟨by omega,by omega⟩,⟨ps++[a],a+aH code a⟩,⟨?_,?_⟩,by simp only;omega,?_⟩
      ·intro _
       rw[i1 h8,oy h1 hg,Option.map_map]
       simp[Function.comp_def]
      ·constructor
       ·intro h;omega
       ·simp;omega
      ·simp only[sdH,BX,List.map_append,List.map_cons,List.map_nil]
       have hne:([(bK code a).av]:List (List AV))≠[]:=by simp
       rw[sr _ hne,tp _ hne]
       refine an [0,1,8,6] rfl (by decide) (af rfl (by simp[dq,aa,below]) (aC (by simp[below]) (by simp[ren,aF,hlen]) (af (by simp[List.take_of_length_le]) (by simpa using Dk (ps++[a])) (af rfl (by simpa[gA] using dD (gA code (ps++[a]))) aj)))) ?_
       simp[below,ren,aN]
     ·rw[if_neg hg] at hone
      refine hone.use ?_
      have hd:ec p s code=none:=by rw[ec,i1 h8,rd h1 hg];rfl
      simp-implicitDefEqProofs[hd,dq]
    ·obtain⟨rfl,rfl⟩:=i2 h8
     have h8i:¬(code.length:Int)<=8000:=by omega
     simp-implicitDefEqProofs[h1,h8i]
     refine⟨[],⟨λh=>by omega,by simp⟩,?_⟩
     refine su [0,1,2,3] (by simp) (by simp) (by simp[gP,aw,ki,gA]) (af rfl (by simp[dq,aa,below]) (aC (by simp[below]) (by simp[ren,aF]) (af rfl (by simp) (pj rfl (dD _) aj)))) ?_
     simp[below,ren,aN]
   ·simp-implicitDefEqProofs[h1]
    refine⟨ps,⟨λh8=>?_,λh8=>(i2 (by omega)).1,by omega⟩,?_⟩
    ·rw[i1 h8,rB (by omega)];simp
    refine cC [0,1,2,3] (by simp) (by simp) (by decide) (af rfl (by simp[dq,aa,below]) (aC (by simp[below]) (by simp[ren,aF]) (af rfl (by simp) (pj rfl (dD _) aj)))) ?_
    simp[below,ren,aN]
 obtain⟨p1,p2,p3⟩:=hps
 have hres:ec p s code=if eW code (cQ p s code ps) then some (cQ p s code ps) else none:=by
  by_cases h8:code.length<=8000
  ·rw[ec,p1 h8];rfl
  ·rw[Fq h8,p2 h8,if_neg]
   intro hk
   simp only[eW,Bool.and_eq_true] at hk
   have:=kh hk.1
   simp[cQ,dc,gA] at this
 have hrl:=kA code ps
 simp-implicitDefEqProofs[sdH]
 refine az (λi:Nat=>aB 95 [(0,.p (.int .i64 p)),(1,.p (.int .i64 s)),(2,.p (aN code)),(6,.ptr 0 3 0 0),(7,.p (.bool false)),(8,.ptr 1 3 0 0),(9,.sl 2 1 0 ps.length),(14,.p (.int .i64 i))])
  (λi=>sdH p s (bk code ps i) ps) (λi=>i<=ps.length) (λi=>ps.length-i) 0 (by simp) ?_ ?_
 ·simp only[sdH,rp]
  refine cC [0,1,2,3] (by simp) (by simp) (by decide) (af rfl (by simp[dq,aa,below]) (aC (by simp[below]) (by simp[ren,aF]) (af rfl (by simp) (pj rfl (dD _) aj)))) ?_
  simp[below,ren,aN]
 ·intro i hi
  have hll:=iJ (code:=code) hi
  simp-implicitDefEqProofs[sdH,hll]
  refine bf (λh1=>?_) (λh1=>?_)
  ·simp at h1
   have hne:(bk code ps i).map Mins.av≠[]:=by intro e;rw[List.map_eq_nil_iff] at e;rw[e] at hll;simp at hll;omega
   have hll1:=iJ (code:=code) (ps:=ps) (i:=i+1) h1
   have hne1:(bk code ps (i+1)).map Mins.av≠[]:=by intro e;rw[List.map_eq_nil_iff] at e;rw[e] at hll1;simp at hll1;omega
   have hg:=nG (code:=code) h1
   have hwk:∀l:List (Nat × AV),TWA [0,1,2,3] l [(0,.p (.int .i64 p)),(1,.p (.int .i64 s)),(2,.p (aN code)),(6,.ptr 0 3 0 0),(7,.p (.bool false)),(8,.ptr 1 3 0 0),(9,.sl 2 1 0 ps.length),(14,.p (.int .i64 ((i+1:Nat):Int)))]->
    Wk 0 (aB 95 l) [.row 3 [dq],.row 3 [[.p (.int .i64 p),.p (.int .i64 s),.sl 3 5 0 ps.length]],aw ps,.row 5 ((bk code ps (i+1)).map Mins.av)] (aB 95 [(0,.p (.int .i64 p)),(1,.p (.int .i64 s)),(2,.p (aN code)),(6,.ptr 0 3 0 0),(7,.p (.bool false)),(8,.ptr 1 3 0 0),(9,.sl 2 1 0 ps.length),(14,.p (.int .i64 ((i+1:Nat):Int)))]) (sdH p s (bk code ps (i+1)) ps):=λl hl=>by
    rw[sdH,cM hne1,dR hne1,List.length_map,hll1]
    exact an [0,1,2,3] rfl (by decide) (af rfl (by simp[dq,aa,below]) (aC (by simp[below]) (by simp[ren,aF]) (af rfl (by simp) (af rfl (dD _) aj)))) hl
   have hsl:slE 3 5 ((bk code ps i).map Mins.av)= .sl 3 5 0 ps.length:=by rw[cM hne,List.length_map,hll]
   have hrw:=dR (sz:=5) hne
   clear hll
   simp-implicitDefEqProofs[hsl,hrw,hg,h1,Mins.av_eq]
   refine(fJ G (bK code ps[i])).use ?_
   cases hj:jmp (bK code ps[i]) with
   |true=>
    have hset:=nN (code:=code) h1
    rw[nY,hj] at hset
    simp-implicitDefEqProofs[hg,h1,Mins.av_eq]
    refine(VF.lend (GV G ps (bK code ps[i]).n (by omega)) (.one (kr rfl) (.keep (by simp[below]) .nil)) rfl).mono ?_
    rintro r h ⟨rfl,rfl⟩
    have hs2:((bk code ps i).map Mins.av).set i [.p (.int .i64 (bK code ps[i]).op),.p (.int .i64 (bK code ps[i]).a),.p (.int .i64 (bK code ps[i]).b),.p (.int .i64 (bK code ps[i]).c),.p (.int .i64 (si ps (bK code ps[i]).n))]=(bk code ps (i+1)).map Mins.av:=by
     rw[←hset,List.map_set];rfl
    simp-implicitDefEqProofs[ag,hg,h1,Mins.av_eq,eS,hs2,w1 (i:=i) (by omega)]
    refine⟨i+1,h1,by omega,hwk _ (by simp[below,ren,aN])⟩
   |false=>
    have hnx:=ry h1 hj
    simp-implicitDefEqProofs[w1 (i:=i) (by omega)]
    refine⟨i+1,h1,by omega,?_⟩
    rw[hnx]
    exact hwk _ (by simp[below,ren,aN])
  ·simp at h1
   have hie:i=ps.length:=by omega
   subst hie
   simp only[tu]
   have hv:∀h:List AO,h[3]?=some (ki 5 ((dc code ps).map Mins.av))->View h (slE 3 5 ((dc code ps).map Mins.av)) (cT (dc code ps)):=λh e=>Kb e
   have hen:=zQ G (cQ p s code ps) (by rw[cQ];simp only;rw[dJ];omega)
   simp-implicitDefEqProofs[]
   refine(AC.lend hen (.agg (.keep (by simp[below]) (.keep (by simp[below]) (.one (hv _ rfl) .nil))) .nil) rfl (by simp[cleanO,bN,cY,clean])).mono ?_
   rintro r h ⟨rfl,rfl⟩
   by_cases hc:aD (cQ p s code ps)=true
   rotate_left
   ·have hd:ec p s code=none:=by rw[hres,if_neg];simp[eW,hc]
    simp-implicitDefEqProofs[ag,aU,bi,hc,hd,dq]
   have hbo:∀l,bN l= .row 1 (l.map λn=>[.p (.int .u8 n)]):=λ_=>rfl
   have htk:∀l:List Int,List.take l.length (l.map λn=>[AV.p (.int .u8 n)])=l.map λn=>[AV.p (.int .u8 n)]:=λl=>List.take_of_length_le (by simp)
   have hcm:∀l:List Int,List.map ((λx=>List.map AV.p x)∘λn=>[PV.int .u8 n]) l=l.map λn=>[AV.p (.int .u8 n)]:=λl=>rfl
   have hpos:=kh hc
   have hne:(dc code ps).map Mins.av≠[]:=by intro e;rw[List.map_eq_nil_iff] at e;simp[cQ,e] at hpos
   have hsi:=ua (Ce (cQ p s code ps)) hb
   simp-implicitDefEqProofs[ag,aU,bi,np,hc]
   simp-implicitDefEqProofs[hbo,hbl,htk,hcm,nS,hsi]
   by_cases he:gt (cQ p s code ps)=code
   ·have hd:ec p s code=some (cQ p s code ps):=by rw[hres,if_pos];simp[eW,hc,he]
    simp-implicitDefEqProofs[he,hd,cM hne,dR hne]
    exact⟨by simp[dq],3,rfl,rfl⟩
   ·have hd:ec p s code=none:=by rw[hres,if_neg];simp[eW,he]
    simp-implicitDefEqProofs[he,hd,dq]
def zF:Mfn:=⟨0,0,[]⟩
theorem pQ{h:List AO}{id:Nat}{ins:List Mins}(e:h[id]?=some (fE ins)):View h (.sl id 5 0 ins.length) (cT ins):=by
 have:=en (h:=h) (id:=id) (sz:=5) (n:=ins.length) (ls:=ins.map Mins.cs) (by rw[e,fE];simp[Mins.av]) (by simp) (λx hx=>by obtain⟨b,_,rfl⟩:=List.mem_map.1 hx;rfl)
 exact this
theorem AY(p s:Int)(code:List Int)(hb:bO code)(hl:code.length<=1048576):
 VF Tryz.prog G eK [.p (.int .i64 p),.p (.int .i64 s),.p (aN code)] (.tup [.agg (((ec p s code).getD zF).cs.map .p),.p (.bool (ec p s code).isSome)]):=by
 refine(zH G p s code hb hl).freezeR (λt v h e=>?_) λv h e=>?_
 ·cases hd:ec p s code<;>rw[hd] at e
  ·cases e
  ·obtain⟨_,e,_⟩:=e;cases e
 ·cases hd:ec p s code with
  |none=>
   rw[hd] at e
   cases e
   exact .tup (.agg (.keep (by simp) (.keep (by simp) (.one (View.nils 5) .nil))) (.keep (by simp) .nil)) .nil
  |some f=>
   rw[hd] at e
   obtain⟨id,e1,e2⟩:=e
   cases e1
   exact .tup (.agg (.keep (by simp) (.keep (by simp) (.one (pQ e2) .nil))) (.keep (by simp) .nil)) .nil
end
section
def mpF:Nat->List Nat->List (PV × AV)
 |_,[]=>[]
 |k,p::r=>(.int .i64 (p:Int),.p (.int .i64 (k:Int)))::mpF (k+1) r
theorem By(n:Int):∀(k:Nat) (ps:List Nat),bw (.int .i64 n) (mpF k ps)=some ((ps.findIdx? (λ(p:Nat)=>(p:Int)==n)).map λi=> .p (.int .i64 ((k+i:Nat):Int)))
 |k,[]=>rfl
 |k,p::r=>by
  simp only[mpF,bw,keq,if_true,List.findIdx?_cons]
  by_cases h:n=(p:Int)
  ·subst h;simp
  ·have h':¬(p:Int)=n:=λe=>h e.symm
   simp only[h,h',decide_false,beq_iff_eq,if_false,By n (k+1) r,Option.map_map]
   have:((λi=>AV.p (.int .i64 ((k+i:Nat):Int)))∘λi=>i+1)=λi=>AV.p (.int .i64 ((k+1+i:Nat):Int)):=by
    funext i
    simp only[Function.comp]
    rw[show k+(i+1)=k+1+i by omega]
   rw[this]
theorem BT(a:Nat)(v:AV):∀(k:Nat) (ps:List Nat),(∀p∈ps,p≠a)->er (.int .i64 (a:Int)) v (mpF k ps)=some (mpF k ps++[(.int .i64 (a:Int),v)])
 |k,[],_=>rfl
 |k,p::r,h=>by
  have h1:¬(a:Int)=(p:Int):=λe=>h p (by simp) (by omega)
  simp only[mpF,er,keq,if_true,h1,decide_false,BT a v (k+1) r (λq hq=>h q (by simp[hq])),Option.map_some,List.cons_append]
theorem vO(a:Nat):∀(k:Nat) (ps:List Nat),mpF k (ps++[a])=mpF k ps++[(.int .i64 (a:Int),.p (.int .i64 ((k+ps.length:Nat):Int)))]
 |k,[]=>rfl
 |k,p::r=>by
  simp only[List.cons_append,mpF,vO a (k+1) r,List.length_cons]
  congr 6
  omega
theorem pe:∀(k:Nat) (ps:List Nat),∀x∈mpF k ps,below 0 x.2
 |k,[],x,h=>by simp[mpF] at h
 |k,p::r,x,h=>by
  simp only[mpF,List.mem_cons] at h
  rcases h with rfl|h
  ·trivial
  ·exact pe (k+1) r x h
theorem CU{ps:List Nat}{n:Int}{i:Nat}(h:ps.findIdx? (λ(p:Nat)=>(p:Int)==n)=some i):si ps n=i:=by rw[si,h]
theorem DB{ps:List Nat}{n:Int}(h:ps.findIdx? (λ(p:Nat)=>(p:Int)==n)=none):si ps n= -1:=by rw[si,h]
theorem ur{p s:Int}{code:List Int}{ps:List Nat}{i:Nat}(h:i<ps.length)(hj:jmp (bK code ps[i])=true)(ha:si ps (bK code ps[i]).n= -1):eW code (cQ p s code ps)=false:=by
 cases hk:eW code (cQ p s code ps) with
 |false=>rfl
 |true=>
  exfalso
  simp only[eW,aD,Bool.and_eq_true] at hk
  have hf:=bS hk.1.1
  have hm:nY ps (bK code ps[i])∈(cQ p s code ps).ins:=by
   simp only[cQ,dc,gA,List.mem_map]
   exact⟨_,⟨_,List.getElem_mem h,rfl⟩,rfl⟩
  have hq:=(hf.2 _ hm).2.2.2
  rw[nY,if_pos hj,ha] at hq
  have:=hq hj
  simp[inR] at this
theorem vj{code:List Int}(hb:bO code){ps:List Nat}:∀x∈dc code ps,x.op=14-> -9223372036854775808<=x.n:=by
 intro x hx h14
 simp only[dc,gA,List.mem_map] at hx
 obtain⟨y,⟨a,_,rfl⟩,rfl⟩:=hx
 have hj:jmp (bK code a)=false:=by
  cases h:jmp (bK code a) with
  |false=>rfl
  |true=>
   rw[nY,if_pos h] at h14
   simp[jmp] at h
   simp only at h14
   omega
 rw[nY,hj] at h14⊢
 have b1:=dG hb (a+1)
 have b2:=dG hb (a+2)
 simp only[Bool.false_eq_true,if_false] at h14⊢
 have hjo:ff (aO code a)=false:=by
  have:(bK code a).op=aO code a:=by
   unfold bK mK;simp only;repeat' split
   all_goals rfl
  rw[←this];exact hj
 unfold bK mK
 simp only[hjo]
 repeat' split
 all_goals first|(simp only;omega)|contradiction
variable (G:ay)
theorem vY(a b:List Int)(ha:bO a)(hb:bO b):VF Tryz.prog G jc [.p (aN a),.p (aN b)] (.p (.bool (decide (a=b)))):=by
 refine AC.go uS ?_
 have hbl:∀l,aN l= .lst 1 (l.map λn=>[.int .u8 n]):=λ_=>rfl
 have hcm:∀l:List Int,List.map ((λx=>List.map AV.p x)∘λn=>[PV.int .u8 n]) l=l.map λn=>[AV.p (.int .u8 n)]:=λl=>rfl
 have hsi:=ua ha hb
 simp-implicitDefEqProofs[mM,hbl,hcm,nS,hsi]
def idH(p s:Int)(ins:List Mins)(ps:List Nat):List AO:=[.row 3 [dq],.row 3 [[.p (.int .i64 p),.p (.int .i64 s),slE 3 5 (ins.map Mins.av)]],.mp (mpF 0 ps),ki 5 (ins.map Mins.av)]
variable (hG:G bX=some pvForms)
include hG
theorem ru(p s:Int)(code:List Int)(hb:bO code)(hl:code.length<=1048576):
 AC Tryz.prog G cb [.p (.int .i64 p),.p (.int .i64 s),.p (aN code)] [] λx h=>match ec p s code with
  |none=>x= .ret (.tup [.agg dq,.p (.bool false)])
  |some f=>∃id,x= .ret (.tup [.agg (f.ov id),.p (.bool true)])/\h[id]?=some (fE f.ins):=by
 refine AC.go rO ?_
 have hbl:aN code= .lst 1 (code.map λn=>[.int .u8 n]):=rfl
 simp-implicitDefEqProofs[kQ]
 refine az (λd:DS=>aB 93 [(0,.p (.int .i64 p)),(1,.p (.int .i64 s)),(2,.p (aN code)),(6,.ptr 0 3 0 0),(7,.p (.bool false)),(8,.ptr 1 3 0 0),(9,.mp 2),(10,.p (.int .i64 d.a))])
  (λd=>idH p s (gA code d.ps) d.ps) (λd=>cB code 0=(cB code d.a).map (d.ps++ ·)/\2*d.ps.length<=d.a/\d.a<=code.length/\∀q∈d.ps,q<d.a)
  (λd=>code.length-d.a) ⟨[],0⟩ (by simp) ?_ ?_
 ·simp only[idH,gA,List.map_nil,sw,oO,mpF]
  exact su [0,1,2,0] (by simp) (by simp) (by simp[gP]) (af rfl (by simp[dq,aa,below]) (af rfl (by simp[aa,below]) (am rfl (by simp[okO]) (bW (by simp) aj)))) (by simp[below,ren,aN])
 ·rintro⟨ps,a⟩ ⟨i1,i2,i3,i4⟩
  simp only at i1 i2 i3 i4
  simp-implicitDefEqProofs[idH,hbl]
  refine bf (λh1=>?_) (λh1=>?_)
  ·simp at h1
   simp-implicitDefEqProofs[]
   have hone:=CX G code hb a h1 hl
   by_cases hg:bj code a=true
   ·rw[if_pos hg,if_pos hg] at hone
    refine hone.use ?_
    have hlen:(gA code ps).length=ps.length:=kA _ _
    have hz2:=ml code a
    have hgl:=sG hg
    have hw:IntKind.i64.wrap ((a:Int)+aH code a)=((a+aH code a:Nat):Int):=gR (by omega) (by omega)
    have hz:¬aH code a=0:=by omega
    have hnew:=BT a (.p (.int .i64 (ps.length:Int))) 0 ps (λq hq=>by have:=i4 q hq;omega)
    simp-implicitDefEqProofs[hlen,hw,hz,hnew,Mins.cs]
    refine⟨⟨by omega,by omega⟩,⟨ps++[a],a+aH code a⟩,⟨?_,?_,?_,?_⟩,by simp only;omega,?_⟩
    ·rw[i1,oy h1 hg,Option.map_map]
     simp[Function.comp_def]
    ·simp;omega
    ·simp only;omega
    ·intro q hq
     simp only[List.mem_append,List.mem_singleton] at hq⊢
     rcases hq with hq|rfl
     ·have:=i4 q hq;omega
     ·omega
    ·have hne:([(bK code a).av]:List (List AV))≠[]:=by simp
     simp only[idH,BX,List.map_append,List.map_cons,List.map_nil]
     rw[sr _ hne,tp _ hne,vO]
     refine an [0,1,2,6] rfl (by decide) (af rfl (by simp[dq,aa,below]) (aC (by simp[below]) (by simp[ren,aF,hlen]) (am (by simp) ?_ (af rfl (by simpa[gA] using dD (gA code (ps++[a]))) aj)))) ?_
     ·rw[←vO];exact pe _ _
     ·simp[below,ren,aN]
   ·rw[if_neg hg,if_neg hg] at hone
    refine hone.use ?_
    have hd:ec p s code=none:=by rw[ec,i1,rd h1 hg];rfl
    simp-implicitDefEqProofs[hd,dq,zMi,Mins.cs]
  ·simp at h1
   have hdf:cB code 0=some ps:=by rw[i1,rB (by omega)];simp
   have hres:ec p s code=if eW code (cQ p s code ps) then some (cQ p s code ps) else none:=by rw[ec,hdf];rfl
   have hrl:=kA code ps
   simp-implicitDefEqProofs[hrl]
   refine az (λi:Nat=>aB 93 [(0,.p (.int .i64 p)),(1,.p (.int .i64 s)),(2,.p (aN code)),(6,.ptr 0 3 0 0),(7,.p (.bool false)),(8,.ptr 1 3 0 0),(9,.mp 2),(51,slE 3 5 ((bk code ps i).map Mins.av)),(52,.p (.int .i64 ps.length)),(53,.p (.int .i64 i))])
    (λi=>idH p s (bk code ps i) ps) (λi=>i<=ps.length) (λi=>ps.length-i) 0 (by simp) ?_ ?_
   ·simp only[idH,rp]
    refine cC [0,1,2,3] (by simp) (by simp) (by decide) (af rfl (by simp[dq,aa,below]) (aC (by simp[below]) (by simp[ren,aF]) (am rfl (pe _ _) (pj rfl (dD _) aj)))) ?_
    simp[below,ren,aN]
   ·intro i hi
    have hll:=iJ (code:=code) hi
    simp-implicitDefEqProofs[idH,hll]
    refine bf (λh2=>?_) (λh2=>?_)
    ·simp at h2
     have hne:(bk code ps i).map Mins.av≠[]:=by intro e;rw[List.map_eq_nil_iff] at e;rw[e] at hll;simp at hll;omega
     have hll1:=iJ (code:=code) (ps:=ps) (i:=i+1) h2
     have hne1:(bk code ps (i+1)).map Mins.av≠[]:=by intro e;rw[List.map_eq_nil_iff] at e;rw[e] at hll1;simp at hll1;omega
     have hg:=nG (code:=code) h2
     have hwk:∀(l:List (Nat × AV)) (os:List AO),TWA [0,1,2,3] l [(0,.p (.int .i64 p)),(1,.p (.int .i64 s)),(2,.p (aN code)),(6,.ptr 0 3 0 0),(7,.p (.bool false)),(8,.ptr 1 3 0 0),(9,.mp 2),(51,.sl 3 5 0 ps.length),(52,.p (.int .i64 ps.length)),(53,.p (.int .i64 ((i+1:Nat):Int)))]->
      Wk 0 (aB 93 l) (.row 3 [dq]:: .row 3 [[.p (.int .i64 p),.p (.int .i64 s),.sl 3 5 0 ps.length]]:: .mp (mpF 0 ps):: .row 5 ((bk code ps (i+1)).map Mins.av)::os)
       (aB 93 [(0,.p (.int .i64 p)),(1,.p (.int .i64 s)),(2,.p (aN code)),(6,.ptr 0 3 0 0),(7,.p (.bool false)),(8,.ptr 1 3 0 0),(9,.mp 2),(51,slE 3 5 ((bk code ps (i+1)).map Mins.av)),(52,.p (.int .i64 ps.length)),(53,.p (.int .i64 ((i+1:Nat):Int)))]) (idH p s (bk code ps (i+1)) ps):=λl os hl=>by
      rw[idH,cM hne1,dR hne1,List.length_map,hll1]
      exact an [0,1,2,3] rfl (by decide) (af rfl (by simp[dq,aa,below]) (aC (by simp[below]) (by simp[ren,aF]) (am rfl (pe _ _) (af rfl (dD _) aj)))) hl
     have hsl:slE 3 5 ((bk code ps i).map Mins.av)= .sl 3 5 0 ps.length:=by rw[cM hne,List.length_map,hll]
     have hrw:=dR (sz:=5) hne
     clear hll
     simp-implicitDefEqProofs[hsl,hrw,hg,h2,Mins.av_eq]
     refine(aY G _).use ?_
     have hjj:((bK code ps[i]).op==20||(bK code ps[i]).op==21)=jmp (bK code ps[i]):=rfl
     rw[hjj]
     cases hj:jmp (bK code ps[i]) with
     |true=>
      have hset:=nN (code:=code) h2
      rw[nY,hj] at hset
      have hmg:=By (bK code ps[i]).n 0 ps
      cases hfi:ps.findIdx? (λ(p:Nat)=>(p:Int)==(bK code ps[i]).n) with
      |none=>
       have hd:ec p s code=none:=by rw[hres,ur h2 hj (DB hfi)];rfl
       rw[hfi] at hmg
       simp-implicitDefEqProofs[hmg,hd,dq]
      |some q=>
       have hat:=CU hfi
       rw[hfi] at hmg
       have hs2:((bk code ps i).map Mins.av).set i [.p (.int .i64 (bK code ps[i]).op),.p (.int .i64 (bK code ps[i]).a),.p (.int .i64 (bK code ps[i]).b),.p (.int .i64 (bK code ps[i]).c),.p (.int .i64 (q:Int))]=(bk code ps (i+1)).map Mins.av:=by
        rw[←hset,List.map_set,hat];rfl
       simp-implicitDefEqProofs[hmg,hg,h2,Mins.av_eq,eS,hs2,w1 (i:=i) (by omega)]
       refine⟨i+1,h2,by omega,hwk _ _ (by simp[below,ren,aN])⟩
     |false=>
      have hnx:=ry h2 hj
      simp-implicitDefEqProofs[w1 (i:=i) (by omega)]
      refine⟨i+1,h2,by omega,?_⟩
      rw[hnx]
      exact hwk _ _ (by simp[below,ren,aN])
    ·simp at h2
     have hie:i=ps.length:=by omega
     subst hie
     simp only[tu]
     have hv:∀h:List AO,h[3]?=some (ki 5 ((dc code ps).map Mins.av))->View h (slE 3 5 ((dc code ps).map Mins.av)) (cT (dc code ps)):=λh e=>Kb e
     have hlen:(cQ p s code ps).ins.length<=1000000:=by rw[cQ];simp only;rw[dJ];omega
     simp-implicitDefEqProofs[]
     by_cases hc:aD (cQ p s code ps)=true
     rotate_left
     ·have hd:ec p s code=none:=by rw[hres,if_neg];simp[eW,hc]
      refine(AC.lend ((yC G hG (cQ p s code ps) hlen (vj hb) hc).ac (by simp[aa,below]) (by simp[aa,below]) []) (.agg (.keep (by simp[below]) (.keep (by simp[below]) (.one (hv _ rfl) .nil))) .nil) rfl rfl).mono ?_
      rintro r h ⟨rfl,rfl⟩
      simp-implicitDefEqProofs[ag,aU,bi,hd,dq]
     refine(AC.lend (yw G hG (cQ p s code ps) hlen (vj hb) hc) (.agg (.keep (by simp[below]) (.keep (by simp[below]) (.one (hv _ rfl) .nil))) .nil) rfl (by simp[cleanO,bN,cY,clean])).mono ?_
     rintro r h ⟨rfl,rfl⟩
     have hpos:=kh hc
     have hne:(dc code ps).map Mins.av≠[]:=by intro e;rw[List.map_eq_nil_iff] at e;simp[cQ,e] at hpos
     simp-implicitDefEqProofs[ag,aU,bi,np]
     refine(VF.lend (vY G (gt (cQ p s code ps)) code (Ce _) hb) (.one (mr rfl) (.keep (by simp[below]) .nil)) rfl).mono ?_
     rintro r h ⟨rfl,rfl⟩
     by_cases he:gt (cQ p s code ps)=code
     ·have hd:ec p s code=some (cQ p s code ps):=by rw[hres,if_pos];simp[eW,hc,he]
      simp-implicitDefEqProofs[ag,he,hd,cM hne,dR hne]
      exact⟨by simp[dq],3,rfl,rfl⟩
     ·have hd:ec p s code=none:=by rw[hres,if_neg];simp[eW,he]
      simp-implicitDefEqProofs[ag,he,hd,dq]
theorem zO{p s:Int}{code:List Int}(hb:bO code)(hl:code.length<=1048576){f:Mfn}(hd:ec p s code=some f):
 AC Tryz.prog G cb [.p (.int .i64 p),.p (.int .i64 s),.p (aN code)] [] λx h=>x= .ret (.tup [.agg (f.ov 0),.p (.bool true)])/\h=[fE f.ins]:=by
 refine(ru G hG p s code hb hl).gc (λt v h e=>?_) λv h e=>?_
 ·rw[hd] at e
  obtain⟨_,e,_⟩:=e;cases e
 ·rw[hd] at e
  obtain⟨id,e1,e2⟩:=e
  cases e1
  exact⟨.tup [.agg (f.ov 0),.p (.bool true)],[fE f.ins],⟨[id],by simp,by simp,by simp,by simp[below,aa,Mfn.ov],by simp[ren,aF,Mfn.ov],af e2 (dD _) aj⟩,rfl,rfl⟩
theorem yN{p s:Int}{code:List Int}(hb:bO code)(hl:code.length<=1048576)(hd:ec p s code=none):
 VF Tryz.prog G cb [.p (.int .i64 p),.p (.int .i64 s),.p (aN code)] (.tup [.agg dq,.p (.bool false)]):=
 (ru G hG p s code hb hl).mono λx h e=>by rw[hd] at e;exact e
end
section
def bV(f:Mfn):List Nat:=if aD f then cN f.ins (bA f.ins) f.ins.length else[]
theorem Fs(f:Mfn):(bV f).length=if aD f then f.ins.length else 0:=by
 unfold bV;split
 ·exact ik ..
 ·rfl
def sg(x:Mins)(p:Nat):List Int:=if x.op=14 then[(p:Int)+1] else[]
def oL(f:Mfn)(i:Nat):List Int:=((List.zip f.ins (bV f)).take i).flatMap λx=>sg x.1 x.2
def cG(f:Mfn):List Int:=(List.zip f.ins (bV f)).flatMap λx=>sg x.1 x.2
theorem pV(f:Mfn):oL f 0=[]:=rfl
theorem vC{f:Mfn}{i:Nat}(h1:i<f.ins.length)(h2:i<(bV f).length):oL f (i+1)=oL f i++sg f.ins[i] (bV f)[i]:=by
 have hz:i<(List.zip f.ins (bV f)).length:=by rw[List.length_zip];omega
 rw[oL,aq hz,List.flatMap_append,List.getElem_zip]
 simp[oL]
theorem pb{f:Mfn}{i:Nat}(h:(bV f).length<=i):oL f i=cG f:=by
 rw[oL,List.take_of_length_le (by rw[List.length_zip];omega)];rfl
theorem nZ(f:Mfn)(i:Nat):(oL f i).length<=i:=by
 have key:∀l:List (Mins × Nat),(l.flatMap λx=>sg x.1 x.2).length<=l.length:=by
  intro l
  induction l with
  |nil=>simp
  |cons a r ih=>
   rw[List.flatMap_cons,List.length_append,List.length_cons]
   have:(sg a.1 a.2).length<=1:=by unfold sg;split<;>simp
   omega
 have:=key ((List.zip f.ins (bV f)).take i)
 rw[List.length_take] at this
 exact Nat.le_trans this (Nat.min_le_left ..)
theorem EQ(ins:List Mins)(L:List Bool){i k:Nat}(h:i<=k):plc ins L i<=plc ins L k:=by
 unfold plc
 generalize List.zipWith aK ins L=l
 have e:l.take i=(l.take k).take i:=by rw[List.take_take,Nat.min_eq_left h]
 rw[e]
 conv=>rhs;rw[←List.take_append_drop i (l.take k),List.sum_append]
 omega
theorem BO{f:Mfn}:∀p∈bV f,p<=8000:=by
 intro p hp
 by_cases hc:aD f=true
 ·rw[bV,if_pos hc] at hp
  have h8:plc f.ins (bA f.ins) f.ins.length<=8000:=by simp only[aD,Bool.and_eq_true,decide_eq_true_eq] at hc;exact hc.2
  obtain⟨i,hi,rfl⟩:=List.mem_map.1 hp
  rw[List.mem_range] at hi
  exact Nat.le_trans (EQ _ _ (Nat.le_of_lt hi)) h8
 ·rw[bV,if_neg hc] at hp;cases hp
variable (G:ay)
theorem vJ(f:Mfn)(hn:f.ins.length<=1000000):VF Tryz.prog G dF [.agg (f.cs.map .p)] (.p (iH (bV f))):=by
 have key:AC Tryz.prog G dF [.agg (f.cs.map .p)] [] λx h=>x= .ret (.p (iH (bV f)))\/(∃id,x= .ret (.sl id 1 0 0)/\h[id]?=some (aw [])/\bV f=[]):=by
  refine AC.go pg ?_
  simp-implicitDefEqProofs[iX]
  refine(zx G f hn).use ?_
  by_cases hc:aD f=true
  rotate_left
  ·have hp:bV f=[]:=by rw[bV,if_neg hc]
   simp-implicitDefEqProofs[hc,aw,hp]
  have hal:bF (aV (cn f.ins) f)=true:=by simp[aD] at hc;exact hc.1
  have hf:=bS hal
  have hp:bV f=cN f.ins (bA f.ins) f.ins.length:=by rw[bV,if_pos hc]
  simp-implicitDefEqProofs[hc]
  refine(po G f hf).use ?_
  simp-implicitDefEqProofs
  refine(lw G f _ (fb _) hf).use ?_
  simp-implicitDefEqProofs[hp]
 refine key.freezeR (λt v h e=>?_) λv h e=>?_
 ·rcases e with e|⟨_,e,_⟩<;>cases e
 ·rcases e with e|⟨id,e,e2,e3⟩
  ·cases e;exact .keep (by simp[below]) .nil
  ·cases e
   rw[e3]
   exact .one (by have:=kr e2;exact this) .nil
theorem sy(f:Mfn):(bV f).length<=f.ins.length:=by rw[Fs];split<;>omega
theorem AH(f:Mfn)(hn:f.ins.length<=1000000):AC Tryz.prog G eH [.agg (f.cs.map .p)] [] λx h=>∃id,x= .ret (.sl id 1 0 (cG f).length)/\h[id]?=some (gy (cG f)):=by
 refine AC.go rJ ?_
 have hpi:=sy f
 have hps:∀l,iH l= .lst 1 (l.map λ(n:Nat)=>[.int .i64 (n:Int)]):=λ_=>rfl
 have hin:cT f.ins= .lst 5 (f.ins.map Mins.cs):=rfl
 simp-implicitDefEqProofs[kM]
 refine(vJ G f hn).use ?_
 simp-implicitDefEqProofs[]
 refine az (λi:Nat=>aB 31 [(1,.ptr 0 3 0 0),(3,.sl 1 1 0 (oL f i).length),(4,.p (iH (bV f))),(5,.p (.int .i64 i))]) (λi=>[.row 3 [f.cs.map .p],gy (oL f i)])
  (λi=>i<=(bV f).length) (λi=>(bV f).length-i) 0 (by simp) ?_ ?_
 ·refine aZ ?_ ?_ ?_
  ·simp
  ·simp[okO,pV,gy]
  simp[below,pV]
 ·intro i hi
  simp-implicitDefEqProofs[hps]
  refine bf (λh1=>?_) (λh1=>?_)
  ·simp at h1
   have h2:i<f.ins.length:=by omega
   have hg1:=List.getElem?_eq_getElem h2
   have hg2:=List.getElem?_eq_getElem h1
   have hle:(bV f)[i]<=8000:=BO _ (List.getElem_mem h1)
   have hsu:=vC h2 h1
   have hcl:=nZ f i
   have hnb:∀l,gy l= .row 1 (l.map λn=>[.p (.int .i64 n)]):=λ_=>rfl
   simp-implicitDefEqProofs[Mfn.cs,hg1,Mins.cs]
   by_cases ho:f.ins[i].op=14
   ·have hw:IntKind.i64.wrap (((bV f)[i]:Int)+1)=((bV f)[i]:Int)+1:=ab (by omega) (by omega)
    rw[sg,if_pos ho] at hsu
    clear hle
    simp-implicitDefEqProofs[Mfn.cs,hg1,hg2,Mins.cs,ho,hw,hnb]
    refine⟨by omega,i+1,h1,by omega,an [0,3] rfl (by simp) (af rfl (by simp) (af (by simp[hnb,hsu,List.take_of_length_le]) (by simp) aj)) ?_⟩
    simp[below,ren,hps,hsu,w1 (i:=i) (by omega)]
   ·rw[sg,if_neg ho,List.append_nil] at hsu
    clear hle
    simp-implicitDefEqProofs[Mfn.cs,hg1,hg2,Mins.cs,ho]
    refine⟨i+1,h1,by omega,an [0,1] rfl (by simp) (af rfl (by simp) (af (by simp[gy,hsu];done) (by simp) aj)) ?_⟩
    simp[below,ren,hps,hsu,w1 (i:=i) (by omega)]
  ·simp at h1
   have:=pb (f:=f) (i:=i) h1
   simp-implicitDefEqProofs[this]
theorem AB(f:Mfn)(hn:f.ins.length<=1000000):VF Tryz.prog G eH [.agg (f.cs.map .p)] (.p (bc (cG f))):=by
 refine(AH G f hn).freezeR (λt v h ⟨id,e,_⟩=>by cases e) λv h ⟨id,e1,e2⟩=>?_
 cases e1
 exact .one (vB e2) .nil
end
section
theorem vG{f:Mfn}(hc:aD f=true):gm (cn f.ins) f=true:=by
 simp only[aD,Bool.and_eq_true] at hc
 have h:=hc.1
 simp only[bF,Bool.and_eq_true,decide_eq_true_eq] at h
 have:=jI h.2 (i:=cn f.ins) (f:=f) (by simp[aV])
 simpa using this
theorem Ef{f:Mfn}(hc:aD f=true){x:Mins}(hx:x∈f.ins)(ho:x.op=14):0<=x.n/\x.n<4:=by
 have h:=vG hc
 simp only[gm,Bool.and_eq_true,List.all_eq_true] at h
 have hi:=h.2 x hx
 simp only[gB,Bool.and_eq_true] at hi
 have h5:=hi.2
 have hm:cn f.ins<=4:=by have:=lW f.ins f.ins.length;rwa[dW,List.take_of_length_le (Nat.le_refl _)] at this
 simp[fN,re,ho,inR] at h5
 omega
theorem Gm{ins:List Mins}{L:List Bool}{i k:Nat}(h:i<=k):∃r,kW ins L k=kW ins L i++r:=by
 induction k with
 |zero=>exact⟨[],by rw[show i=0 by omega];simp⟩
 |succ k ih=>
  rcases Nat.lt_or_ge k i with h1|h1
  ·exact⟨[],by rw[show i=k+1 by omega];simp⟩
  ·obtain⟨r,e⟩:=ih h1
   exact⟨r++ic ins L k,by rw[gX,e,List.append_assoc]⟩
theorem xV{f:Mfn}{i:Nat}(h1:i<f.ins.length)(ho:f.ins[i].op=14):(gt f)[plc f.ins (bA f.ins) i+1]?=some (u8 f.ins[i].n):=by
 have hL:=fb f.ins
 obtain⟨r,e⟩:=Gm (ins:=f.ins) (L:=bA f.ins) (i:=i+1) (k:=f.ins.length) h1
 have hs:=pO hL i (Nat.le_of_lt h1)
 have hj:jmp f.ins[i]=false:=by simp[jmp,ho]
 have he:ic f.ins (bA f.ins) i=[u8 14,u8 f.ins[i].n]:=by
  have h2:i<(bA f.ins).length:=by omega
  simp only[ic,List.getElem?_eq_getElem h1,List.getElem?_eq_getElem h2,hj]
  simp[aM,ho,inR]
 rw[gt,e,gX,he,List.append_assoc,List.getElem?_append_right (by omega),hs]
 simp
theorem nQ{f:Mfn}(hc:aD f=true){c:Int}:c∈cG f↔∃(i:Nat) (h:i<f.ins.length),f.ins[i].op=14/\c=((plc f.ins (bA f.ins) i+1:Nat):Int):=by
 have hp:bV f=cN f.ins (bA f.ins) f.ins.length:=by rw[bV,if_pos hc]
 simp only[cG,List.mem_flatMap]
 constructor
 ·rintro⟨⟨x,p⟩,hm,hcl⟩
  obtain⟨i,hi,e⟩:=List.getElem_of_mem hm
  rw[List.getElem_zip,Prod.mk.injEq] at e
  rw[List.length_zip] at hi
  obtain⟨e1,e2⟩:=e
  simp only[sg] at hcl
  split at hcl
  ·rename_i ho
   refine⟨i,by omega,by rw[e1];exact ho,?_⟩
   rw[List.mem_singleton] at hcl
   have hg:(bV f)[i]?=some p:=by rw[List.getElem?_eq_getElem (by omega),e2]
   rw[hp,fx (by omega)] at hg
   cases hg
   rw[hcl];omega
  ·cases hcl
 ·rintro⟨i,h,ho,rfl⟩
  have hl:i<(bV f).length:=by rw[hp,ik];exact h
  have hg:(bV f)[i]?=some (plc f.ins (bA f.ins) i):=by rw[hp];exact fx h
  rw[List.getElem?_eq_getElem hl,Option.some.injEq] at hg
  refine⟨(f.ins[i],(bV f)[i]),?_,?_⟩
  ·have hz:i<(List.zip f.ins (bV f)).length:=by rw[List.length_zip];omega
   have:=List.getElem_mem hz
   rwa[List.getElem_zip] at this
  ·simp only[sg,if_pos ho,List.mem_singleton,hg];omega
def jh(x:Mins):Mins:=if x.op=14 then{x with n:=0} else x
def ee(f:Mfn):Mfn:={f with ins:=f.ins.map jh}
def md(code:List Int)(c:Int):Bool:=code[c.toNat]?==some 0
theorem DC{f:Mfn}:f=ee f↔∀x∈f.ins,x.op=14->x.n=0:=by
 constructor
 ·intro e x hx ho
  obtain⟨i,hi,rfl⟩:=List.getElem_of_mem hx
  have e2:f.ins[i]?=(ee f).ins[i]?:=congrArg (λg:Mfn=>g.ins[i]?) e
  rw[show(ee f).ins=f.ins.map jh from rfl,List.getElem?_map,List.getElem?_eq_getElem hi,Option.map_some,Option.some.injEq,jh,if_pos ho] at e2
  exact congrArg Mins.n e2
 ·intro h
  have:f.ins.map jh=f.ins:=by
   conv=>rhs;rw[←List.map_id f.ins]
   refine List.map_congr_left λx hx=>?_
   unfold jh
   split
   ·rename_i ho;have:=h x hx ho;cases x;simp_all
   ·rfl
  rw[ee,this]
theorem AT{f:Mfn}(hc:aD f=true):(cG f).all (md (gt f))=decide (f=ee f):=by
 rw[Bool.eq_iff_iff,List.all_eq_true,decide_eq_true_eq,DC]
 constructor
 ·intro h x hx ho
  obtain⟨i,hi,rfl⟩:=List.getElem_of_mem hx
  have h1:=h _ ((nQ hc).2 ⟨i,hi,ho,rfl⟩)
  simp only[md,Int.toNat_natCast,xV hi ho,beq_iff_eq,Option.some.injEq,pI] at h1
  have:=Ef hc hx ho
  omega
 ·intro h c hm
  obtain⟨i,hi,ho,rfl⟩:=(nQ hc).1 hm
  simp only[md,Int.toNat_natCast,xV hi ho,h _ (List.getElem_mem hi) ho]
  rfl
theorem vD{p s:Int}{code:List Int}{f:Mfn}(h:ec p s code=some f):aD f=true/\gt f=code:=by
 unfold ec at h
 rw[Option.bind_eq_some_iff] at h
 obtain⟨ps,_,h2⟩:=h
 split at h2
 ·rename_i hk
  cases h2
  simp only[eW,Bool.and_eq_true,decide_eq_true_eq] at hk
  exact hk
 ·cases h2
def bJ(o:Obj):Bool:=match ec o.params o.slots o.code with
 |none=>false
 |some f=>aP o.name&&decide (cG f=o.calls)&&decide (o.names.length=o.calls.length)&&o.names.all aP&&decide (f=ee f)
theorem Fh:∀{l:List (List UInt8)} {x:List UInt8},x∈l->x.length<=(l.map List.length).sum
 |y::r,x,h=>by
  rw[List.map_cons,List.sum_cons]
  rcases List.mem_cons.1 h with rfl|h
  ·omega
  ·have:=Fh h;omega
theorem yD{o:Obj}(hz:szO o<=1048576):∀x∈o.names,x.length<=140737488355328:=λx hx=>by
 have h:=Fh hx
 have hsz:szO o=o.name.length+o.code.length+o.calls.length+szW o.names:=rfl
 have hwz:szW o.names=o.names.length+(o.names.map List.length).sum:=rfl
 omega
variable (G:ay)
theorem nf(o:Obj)(ho:ObjSm o)(hz:szO o<=1048576):VF Tryz.prog G dd [.agg (o.cs.map .p)] (.p (.bool (bJ o))):=by
 refine AC.go nE ?_
 have hsz:szO o=o.name.length+o.code.length+o.calls.length+szW o.names:=rfl
 have hwz:szW o.names=o.names.length+(o.names.map List.length).sum:=rfl
 simp-implicitDefEqProofs[io,Obj.cs]
 refine(AY G o.params o.slots o.code ho.bytes (by omega)).use ?_
 cases hd:ec o.params o.slots o.code with
 |none=>
  have hob:bJ o=false:=by simp only[bJ,hd]
  simp-implicitDefEqProofs[Mfn.cs,hob]
 |some f=>
  obtain⟨hc,henc⟩:=vD hd
  have hob:bJ o=(aP o.name&&decide (cG f=o.calls)&&decide (o.names.length=o.calls.length)&&o.names.all aP&&decide (f=ee f)):=by simp only[bJ,hd]
  have hil:f.ins.length<=1000000:=by
   have:=(bS (by simp only[aD,Bool.and_eq_true] at hc;exact hc.1):gi f.ins).1
   omega
  have hcb:(cG f).length<=1048576:=by
   have h1:=nZ f (bV f).length
   have h2:=sy f
   rw[pb (Nat.le_refl _)] at h1
   omega
  simp-implicitDefEqProofs[Mfn.cs]
  refine(sL G o.name (by omega)).use ?_
  by_cases h1:aP o.name=true
  case neg=>simp-implicitDefEqProofs[h1,hob]
  have hl26:=AB G f hil
  rw[Mfn.cs] at hl26
  simp-implicitDefEqProofs[h1]
  refine hl26.useQ ?_
  simp-implicitDefEqProofs[]
  refine(DD G (cG f) o.calls hcb).use ?_
  by_cases h2:cG f=o.calls
  case neg=>simp-implicitDefEqProofs[h2,hob]
  have hnl:bc o.calls= .lst 1 (o.calls.map λn=>[.int .i64 n]):=rfl
  have hsl:aW o.names= .lst 1 (o.names.map λw=>[.str w]):=rfl
  simp-implicitDefEqProofs[h2,hnl,hsl]
  by_cases h3:o.names.length=o.calls.length
  case neg=>
   have h3':¬(o.names.length:Int)=(o.calls.length:Int):=by omega
   simp-implicitDefEqProofs[h3,h3',hob]
  simp-implicitDefEqProofs[h3]
  rw[←hnl,←hsl]
  have hzb:=AT hc
  rw[h2,henc] at hzb
  have hobj:bJ o=(o.names.all aP&&o.calls.all (md o.code)):=by
   rw[hob,h1,h2,hzb];simp[h3]
  refine az (λi:Nat=>aB 67 [(1,.ptr 0 6 0 0),(5,.p (.int .i64 i))]) (λi=>[.row 6 [o.cs.map .p],.row 3 [f.cs.map .p]])
   (λi=>i<=o.calls.length/\(o.names.take i).all aP=true/\(o.calls.take i).all (md o.code)=true) (λi=>o.calls.length-i) 0 (by simp) ?_ ?_
  ·refine aZ (by simp) (by simp[okO]) (by simp[below,aa])
  ·intro i ⟨hi,hn,hq⟩
   simp-implicitDefEqProofs[Obj.cs,hnl]
   refine bf (λh4=>?_) (λh4=>?_)
   ·simp at h4
    have h5:i<o.names.length:=by omega
    have hg1:=List.getElem?_eq_getElem h4
    have hg2:=List.getElem?_eq_getElem h5
    have hbl:aN o.code= .lst 1 (o.code.map λn=>[.int .u8 n]):=rfl
    simp-implicitDefEqProofs[Obj.cs,hnl,hsl,hg2]
    refine(sL G _ (yD hz _ (List.getElem_mem h5))).use ?_
    by_cases h6:aP o.names[i]=true
    case neg=>
     have hf:o.names.all aP=false:=List.all_eq_false.2 ⟨_,List.getElem_mem h5,h6⟩
     simp-implicitDefEqProofs[h6,hobj,hf]
    have hmem:o.calls[i]∈cG f:=by rw[h2];exact List.getElem_mem h4
    obtain⟨k,hk,hop,hce⟩:=(nQ hc).1 hmem
    have hca:=xV hk hop
    rw[henc] at hca
    generalize plc f.ins (bA f.ins) k+1=q at hce hca
    generalize u8 f.ins[k].n=b at hca
    have hqb:o.code[q]?=some b:=hca
    have hql:q<o.code.length:=(List.getElem?_eq_some_iff.1 hca).1
    have hgb:o.code[q]=b:=by rw[List.getElem?_eq_getElem hql] at hqb;exact Option.some.inj hqb
    have hza:md o.code o.calls[i]=(b==0):=by rw[md,hce,Int.toNat_natCast,hqb];rfl
    rw[hce] at hg1
    by_cases h7:b=0
    ·simp-implicitDefEqProofs[h6,hg1,hg2,hbl,hqb,hql,hgb,h7]
     refine⟨i+1,⟨h4,?_,?_⟩,by omega,aZ (by simp) (by simp[okO]) ?_⟩
     ·rw[List.all_eq_true] at hn
      intro x hx
      rw[aq h5] at hx
      rcases List.mem_append.1 hx with hx|hx
      ·exact hn x hx
      ·rw[List.mem_singleton.1 hx];exact h6
     ·rw[List.all_eq_true] at hq
      intro x hx
      rw[aq h4] at hx
      rcases List.mem_append.1 hx with hx|hx
      ·exact hq x hx
      ·rw[List.mem_singleton.1 hx,hza,h7];rfl
     ·simp[below,aa,w1 (i:=i) (by omega)]
    ·have hf:o.calls.all (md o.code)=false:=List.all_eq_false.2 ⟨_,List.getElem_mem h4,by rw[hza];simp[h7]⟩
     simp-implicitDefEqProofs[h6,hg1,hg2,hbl,hqb,hql,hgb,h7,hobj,hf]
   ·simp at h4
    rw[List.take_of_length_le (by omega)] at hn hq
    simp-implicitDefEqProofs[hobj,hn,hq]
end
section
variable (G:ay)
theorem rv(x y:Mins):fg [0,0,0,0,0] [.p (.int .i64 x.op),.p (.int .i64 x.a),.p (.int .i64 x.b),.p (.int .i64 x.c),.p (.int .i64 x.n)] [.p (.int .i64 y.op),.p (.int .i64 y.a),.p (.int .i64 y.b),.p (.int .i64 y.c),.p (.int .i64 y.n)]=some (decide (x=y)):=by
 have:fg [0,0,0,0,0] [.p (.int .i64 x.op),.p (.int .i64 x.a),.p (.int .i64 x.b),.p (.int .i64 x.c),.p (.int .i64 x.n)] [.p (.int .i64 y.op),.p (.int .i64 y.a),.p (.int .i64 y.b),.p (.int .i64 y.c),.p (.int .i64 y.n)]
  =some (decide (x.op=y.op)&&(decide (x.a=y.a)&&(decide (x.b=y.b)&&(decide (x.c=y.c)&&(decide (x.n=y.n)&&true))))):=rfl
 rw[this]
 cases x;cases y
 simp[Bool.eq_iff_iff]
theorem yT(xs ys:List Mins)(hb:xs.length<=1048576):VF Tryz.prog G cu [.p (cT xs),.p (cT ys)] (.p (.bool (decide (xs=ys)))):=by
 refine AC.go jo ?_
 simp-implicitDefEqProofs[ep,cT]
 refine bf (λh=>?_) (λh=>?_)
 ·have h':xs≠ys:=by rintro rfl;simp at h
  simp-implicitDefEqProofs[h']
 have h:xs.length=ys.length:=by simp at h;omega
 simp-implicitDefEqProofs[]
 refine az (λi:Nat=>aB 26 [(0,.p (cT xs)),(1,.p (cT ys)),(11,.p (cT xs)),(12,.p (.int .i64 xs.length)),(13,.p (.int .i64 i))]) (λ_=>[]) (λi=>i<=xs.length/\xs.take i=ys.take i) (λi=>xs.length-i) 0 (by simp) ?_ ?_
 ·exact aA rfl (by simp[below,cT,h])
 intro i ⟨hi,he⟩
 simp-implicitDefEqProofs[cT]
 refine bf (λh1=>?_) (λh1=>?_)
 ·simp at h1
  have h1:i<ys.length:=by omega
  have h1':i<xs.length:=by omega
  have hx:=List.getElem?_eq_getElem h1'
  have hy:=List.getElem?_eq_getElem h1
  by_cases h3:xs[i]=ys[i]
  ·simp-implicitDefEqProofs[hx,hy,h3,Mins.cs,rv]
   exact⟨i+1,⟨h1',dT h1' h1 h3 he⟩,by omega,aA rfl (by simp[below,cT,w1 (i:=i) (by omega)])⟩
  ·have h':xs≠ys:=by rintro rfl;exact h3 rfl
   simp-implicitDefEqProofs[hx,hy,h',h3,Mins.cs,rv]
 ·simp at h1
  have h1:ys.length<=i:=by omega
  have h':xs=ys:=il h h1 he
  simp-implicitDefEqProofs[h']
theorem CG(x y:Mfn)(hb:x.ins.length<=1048576):VF Tryz.prog G iF [.agg (x.cs.map .p),.agg (y.cs.map .p)] (.p (.bool (decide (x=y)))):=by
 refine AC.go tr ?_
 have hxy:(x=y)↔(x.params=y.params/\x.slots=y.slots/\x.ins=y.ins):=by cases x;cases y;simp
 have hil:∀f:Mfn,cT f.ins= .lst 5 (f.ins.map Mins.cs):=λ_=>rfl
 by_cases h1:x.params=y.params
 case neg=>simp-implicitDefEqProofs[fy,Mfn.cs,hxy,h1]
 by_cases h2:x.slots=y.slots
 case neg=>simp-implicitDefEqProofs[fy,Mfn.cs,hxy,h1,h2]
 simp-implicitDefEqProofs[fy,Mfn.cs,h1,h2]
 refine(yT G x.ins y.ins hb).use ?_
 simp-implicitDefEqProofs[hxy,h1,h2]
variable (hG:G bX=some pvForms)
include hG
theorem vZ(f:Mfn)(hn:f.ins.length<=1000000)(hlo:∀x∈f.ins,x.op=14-> -9223372036854775808<=x.n):VF Tryz.prog G ck [.agg (f.cs.map .p)] (.p (iH (bV f))):=by
 by_cases hc:aD f=true
 ·have key:AC Tryz.prog G ck [.agg (f.cs.map .p)] [] λx h=>∃id,x= .ret (.sl id 1 0 f.ins.length)/\h[id]?=some (aw (cN f.ins (bA f.ins) f.ins.length)):=by
   refine AC.go iV ?_
   simp-implicitDefEqProofs[fm]
   refine(AC.lift (rt G hG f hn hlo hc) (by simp[aa,below]) rfl ?_).mono ?_
   ·simp only[List.all_cons,List.all_nil,tS,sN];rfl
   rintro r h ⟨rfl,rfl⟩
   simp-implicitDefEqProofs[ag,rn,rz,uV,tV,aU,bi]
   simp-implicitDefEqProofs[Mfn.cs,aL]
  have hp:bV f=cN f.ins (bA f.ins) f.ins.length:=by rw[bV,if_pos hc]
  refine key.freezeR (λt v h ⟨id,e,_⟩=>by cases e) λv h ⟨id,e1,e2⟩=>?_
  cases e1
  rw[hp]
  exact .one (by have:=kr e2;rwa[ik] at this) .nil
 ·have hp:bV f=[]:=by rw[bV,if_neg hc]
  have key:AC Tryz.prog G ck [.agg (f.cs.map .p)] [] λx _=>x= .ret .nils:=by
   refine AC.go iV ?_
   simp-implicitDefEqProofs[fm]
   refine(rr G hG f hn hlo hc).use ?_
   simp-implicitDefEqProofs[]
  refine key.freezeR (λt v h e=>by cases e) λv h e=>?_
  cases e
  rw[hp]
  exact .one (View.nils 1) .nil
end
section
variable (G:ay)
def ku(l:List Int):List (List AV):=l.map λn=>[.p (.int .i64 n)]
theorem zh(a b:List Int):ku (a++b)=ku a++ku b:=by simp[ku]
theorem vc(l:List Int):∀x∈ku l,aa 0 x:=by
 intro x hx;obtain⟨m,_,rfl⟩:=List.mem_map.1 hx;simp[aa,below]
theorem Dp{h:List AO}{id:Nat}{l:List Int}(e:h[id]?=some (ki 1 (ku l))):View h (slE id 1 (ku l)) (bc l):=by
 have hh:ku l=(l.map λn=>[PV.int .i64 n]).map (·.map .p):=by simp[ku]
 rw[hh] at e⊢
 exact zZ e (λx hx=>by obtain⟨b,_,rfl⟩:=List.mem_map.1 hx;rfl)
theorem ui(l:List Mins):ir (fE l)=true:=by
 simp only[ir,fE,List.all_map,List.all_eq_true]
 intro m _
 exact Ab m.cs
section
theorem Gu(xs:List Mins)(hx:xs≠[])(hb:xs.length<=1000000):AC Tryz.prog G bI [.p (cT xs)] [] λx h=>∃id,x= .ret (.sl id 5 0 xs.length)/\h[id]?=some (fE xs):=by
 obtain⟨y,r,rfl⟩:∃y r,xs=y::r:=by cases xs with|nil=>exact absurd rfl hx|cons y r=>exact⟨y,r,rfl⟩
 refine AC.go jp ?_
 have hin:cT (y::r)= .lst 5 (y.cs::r.map Mins.cs):=rfl
 have hl:(y::r).length=r.length+1:=rfl
 rw[hl] at hb
 simp-implicitDefEqProofs[eC,hin]
 refine⟨by omega,?_⟩
 simp only[fE,List.map_cons]
 rfl
theorem FY(xs:List Mins)(hx:xs≠[])(hb:xs.length<=1000000):AC Tryz.prog G bI [.p (cT xs)] [] λx h=>x= .ret (.sl 0 5 0 xs.length)/\h=[fE xs]:=by
 refine(Gu G xs hx hb).gc (λt v h ⟨id,e,_⟩=>by cases e) λv h ⟨id,e1,e2⟩=>?_
 cases e1
 exact⟨.sl 0 5 0 xs.length,[fE xs],⟨[id],by simp,by simp,by simp,by simp[below],by simp[ren],af e2 (dD _) aj⟩,rfl,rfl⟩
theorem AN(f:Mfn)(hx:f.ins≠[])(hb:f.ins.length<=1000000):AC Tryz.prog G eF [.agg (f.cs.map .p)] [] λx h=>∃id,x= .ret (.agg (f.ov id))/\h[id]?=some (fE f.ins):=by
 refine AC.go rV ?_
 have hin:cT f.ins= .lst 5 (f.ins.map Mins.cs):=rfl
 simp-implicitDefEqProofs[kP,Mfn.cs,←hin]
 refine(AC.lift (FY G f.ins hx hb) (by simp[aa,below]) rfl ?_).mono ?_
 ·simp only[List.all_cons,List.all_nil,ui];rfl
 rintro r h ⟨rfl,rfl⟩
 simp-implicitDefEqProofs[ag,aU,bi,tR]
 exact⟨2,rfl,rfl⟩
theorem Au(f:Mfn)(hx:f.ins≠[])(hb:f.ins.length<=1000000):AC Tryz.prog G eF [.agg (f.cs.map .p)] [] λx h=>x= .ret (.agg (f.ov 0))/\h=[fE f.ins]:=by
 refine(AN G f hx hb).gc (λt v h ⟨id,e,_⟩=>by cases e) λv h ⟨id,e1,e2⟩=>?_
 cases e1
 exact⟨.agg (f.ov 0),[fE f.ins],⟨[id],by simp,by simp,by simp,by simp[below,aa,Mfn.ov],by simp[ren,aF,Mfn.ov],af e2 (dD _) aj⟩,rfl,rfl⟩
end
variable (hG:G bX=some pvForms)
include hG
theorem zi(f:Mfn)(hn:f.ins.length<=1000000)(hlo:∀x∈f.ins,x.op=14-> -9223372036854775808<=x.n):AC Tryz.prog G dO [.agg (f.cs.map .p)] [] λx h=>∃id,x= .ret (slE id 1 (ku (cG f)))/\h[id]?=some (ki 1 (ku (cG f))):=by
 refine AC.go pN ?_
 have hpi:=sy f
 have hps:∀l,iH l= .lst 1 (l.map λ(n:Nat)=>[.int .i64 (n:Int)]):=λ_=>rfl
 simp-implicitDefEqProofs[jO]
 refine(vZ G hG f hn hlo).use ?_
 simp-implicitDefEqProofs[hps]
 refine az (λi:Nat=>aB 28 [(1,.ptr 0 3 0 0),(3,slE 1 1 (ku (oL f i))),(7,.p (iH (bV f))),(8,.p (.int .i64 (bV f).length)),(9,.p (.int .i64 i))]) (λi=>[.row 3 [f.cs.map .p],ki 1 (ku (oL f i))])
  (λi=>i<=(bV f).length) (λi=>(bV f).length-i) 0 (by simp) ?_ ?_
 ·simp only[pV,ku,List.map_nil,sw,oO]
  exact su [0,0] (by simp) (by simp) (by simp[gP]) (af rfl (by simp) (bW (by simp) aj)) (by simp[below,ren,hps])
 ·intro i hi
  simp-implicitDefEqProofs[hps]
  refine bf (λh1=>?_) (λh1=>?_)
  ·simp at h1
   have h2:i<f.ins.length:=by omega
   have hg1:=List.getElem?_eq_getElem h2
   have hg2:=List.getElem?_eq_getElem h1
   have hle:(bV f)[i]<=8000:=BO _ (List.getElem_mem h1)
   have hsu:=vC h2 h1
   have hcl:=nZ f i
   have hnl:(ku (oL f i)).length=(oL f i).length:=by simp[ku]
   by_cases ho:f.ins[i].op=14
   ·have hw:IntKind.i64.wrap (((bV f)[i]:Int)+1)=((bV f)[i]:Int)+1:=ab (by omega) (by omega)
    rw[sg,if_pos ho] at hsu
    clear hle
    simp-implicitDefEqProofs[Mfn.cs,hg1,hg2,Mins.cs,ho,hw,hnl]
    refine⟨by omega,i+1,h1,by omega,?_⟩
    rw[hsu,zh,sr _ (by simp[ku]),tp _ (by simp[ku])]
    refine an [0,3] rfl (by decide) (af rfl (by simp) (af rfl (by rw[←zh];exact vc _) aj)) ?_
    simp[below,ren,hps,hnl,ku,w1 (i:=i) (by omega)]
   ·rw[sg,if_neg ho,List.append_nil] at hsu
    clear hle
    simp-implicitDefEqProofs[Mfn.cs,hg1,hg2,Mins.cs,ho]
    refine⟨i+1,h1,by omega,?_⟩
    rw[hsu]
    exact an [0,1] rfl (by decide) (af rfl (by simp) (pj rfl (vc _) aj)) (by simp[below,ren,hps,w1 (i:=i) (by omega)])
  ·simp at h1
   have:=pb (f:=f) (i:=i) h1
   simp-implicitDefEqProofs[this]
   exact⟨1,rfl,rfl⟩
theorem zR(f:Mfn)(hn:f.ins.length<=1000000)(hlo:∀x∈f.ins,x.op=14-> -9223372036854775808<=x.n):VF Tryz.prog G dO [.agg (f.cs.map .p)] (.p (bc (cG f))):=by
 refine(zi G hG f hn hlo).freezeR (λt v h ⟨id,e,_⟩=>by cases e) λv h ⟨id,e1,e2⟩=>?_
 cases e1
 exact .one (Dp e2) .nil
end
section
variable (G:ay)
def dh(f:Mfn)(i:Nat):List Mins:=(f.ins.take i).map jh++f.ins.drop i
theorem zC(f:Mfn):dh f 0=f.ins:=by simp[dh]
theorem zW(f:Mfn):dh f f.ins.length=(ee f).ins:=by simp[dh,ee]
theorem AF{f:Mfn}{i:Nat}(h:i<f.ins.length):(dh f i)[i]?=some f.ins[i]:=by
 rw[dh,List.getElem?_append_right (by simp;omega)]
 simp[Nat.min_eq_left (Nat.le_of_lt h),h]
theorem Bp{f:Mfn}{i:Nat}(h:i<f.ins.length):(dh f i).set i (jh f.ins[i])=dh f (i+1):=by
 have hl:((f.ins.take i).map jh).length=i:=by simp;omega
 rw[dh,List.set_append_right _ _ (by omega),hl,Nat.sub_self,List.drop_eq_getElem_cons h,List.set_cons_zero,dh,aq h,List.map_append,List.append_assoc]
 rfl
theorem yl{f:Mfn}{i:Nat}(h:i<f.ins.length)(ho:¬f.ins[i].op=14):dh f (i+1)=dh f i:=by
 rw[dh,aq h,List.map_append,List.append_assoc,dh,List.drop_eq_getElem_cons h,List.map_cons,jh,if_neg ho]
 rfl
theorem GS(f:Mfn)(hx:f.ins≠[])(hb:f.ins.length<=1000000):VF Tryz.prog G gT [.agg (f.cs.map .p)] (.agg ((ee f).cs.map .p)):=by
 have key:AC Tryz.prog G gT [.agg (f.cs.map .p)] [] λx h=>∃id,x= .ret (.agg ((ee f).ov id))/\h[id]?=some (fE (ee f).ins):=by
  refine AC.go vN ?_
  have hin:cT f.ins= .lst 5 (f.ins.map Mins.cs):=rfl
  simp-implicitDefEqProofs[oZ]
  refine(AC.lift (Au G f hx hb) (by simp[aa,below]) rfl ?_).mono ?_
  ·simp only[List.all_cons,List.all_nil,ui];rfl
  rintro r h ⟨rfl,rfl⟩
  simp-implicitDefEqProofs[ag,aU,bi,tR,Mfn.ov]
  refine az (λi:Nat=>aB 26 [(1,.ptr 0 3 0 0),(2,.ptr 1 3 0 0),(8,.p (.int .i64 f.ins.length)),(9,.p (.int .i64 i))]) (λi=>[.row 3 [[.p (.int .i64 f.params),.p (.int .i64 f.slots),.sl 2 5 0 f.ins.length]],.row 3 [dq],fE (dh f i)])
   (λi=>i<=f.ins.length) (λi=>f.ins.length-i) 0 (by simp) ?_ ?_
  ·rw[zC]
   refine an [0,1,2] rfl (by decide) (aC (by simp[below]) (by simp[ren,aF]) (af rfl (by simp[dq,aa,below]) (af rfl (dD _) aj))) ?_
   simp[below,ren]
  ·intro i hi
   simp-implicitDefEqProofs[]
   refine bf (λh1=>?_) (λh1=>?_)
   ·simp at h1
    have hg:=AF h1
    have hbo:fE (dh f i)= .row 5 ((dh f i).map Mins.av):=rfl
    by_cases ho:f.ins[i].op=14
    ·have hs:=Bp h1
     have hs2:((dh f i).map Mins.av).set i [.p (.int .i64 14),.p (.int .i64 f.ins[i].a),.p (.int .i64 f.ins[i].b),.p (.int .i64 f.ins[i].c),.p (.int .i64 0)]=(dh f (i+1)).map Mins.av:=by
      rw[←hs,List.map_set,jh,if_pos ho,Mins.av_eq,ho]
     simp-implicitDefEqProofs[hbo,hg,h1,Mins.av_eq,ho,eS,hs2]
     refine⟨i+1,h1,by omega,?_⟩
     refine an [0,1,2] rfl (by decide) (aC (by simp[below]) (by simp[ren,aF]) (af rfl (by simp[dq,aa,below]) (af rfl (dD _) aj))) ?_
     simp[below,ren,w1 (i:=i) (by omega)]
    ·have hs:=yl h1 ho
     simp-implicitDefEqProofs[hbo,hg,h1,Mins.av_eq,ho]
     refine⟨i+1,h1,by omega,?_⟩
     rw[hs]
     refine an [0,1,2] rfl (by decide) (aC (by simp[below]) (by simp[ren,aF]) (af rfl (by simp[dq,aa,below]) (af rfl (dD _) aj))) ?_
     simp[below,ren,w1 (i:=i) (by omega)]
   ·simp at h1
    have hie:i=f.ins.length:=by omega
    subst hie
    simp-implicitDefEqProofs[zW]
    exact⟨by simp[dq],2,⟨rfl,rfl,rfl,by simp[ee]⟩,rfl⟩
 refine key.freezeR (λt v h ⟨id,e,_⟩=>by cases e) λv h ⟨id,e1,e2⟩=>?_
 cases e1
 exact .agg (.keep (by simp[below]) (.keep (by simp[below]) (.one (pQ e2) .nil))) .nil
def Aj(L:List (List UInt8)):Int:=match L.findIdx? (λw=> !aP w) with|some i=>i|none=> -1
theorem DI(L:List (List UInt8)):decide (0<=Aj L)= !(L.all aP):=by
 unfold Aj
 cases h:L.findIdx? (λx=> !aP x) with
 |none=>
  rw[List.findIdx?_eq_none_iff] at h
  have:L.all aP=true:=List.all_eq_true.2 λx hx=>by have:=h x hx;simpa using this
  simp[this]
 |some i=>
  rw[List.findIdx?_eq_some_iff_getElem] at h
  obtain⟨h1,h2,_⟩:=h
  have:L.all aP=false:=List.all_eq_false.2 ⟨_,List.getElem_mem h1,by simpa using h2⟩
  rw[this];simp
variable (hK:G ju=some iu)
include hK
theorem FD(s:List UInt8)(hb:s.length<=140737488355328):VF Tryz.prog G dy [.p (.str s)] (.p (.bool (!aP s))):=by
 refine AC.go um ?_
 simp-implicitDefEqProofs[mW]
 refine(tc G hK s hb).use ?_
 simp-implicitDefEqProofs[]
theorem Af(L:List (List UInt8))(hb:L.length<=1048576)(hw:∀x∈L,x.length<=140737488355328):VF Tryz.prog G bZ [.p (aW L),.fn (.func dy) []] (.p (.int .i64 (Aj L))):=by
 refine AC.go iN ?_
 have hsl:aW L= .lst 1 (L.map λw=>[.str w]):=rfl
 simp-implicitDefEqProofs[dV,hsl]
 refine az (λi:Nat=>aB 19 [(0,.p (aW L)),(1,.fn (.func dy) []),(6,.p (aW L)),(7,.p (.int .i64 L.length)),(8,.p (.int .i64 i))]) (λ_=>[]) (λi=>i<=L.length/\∀w∈L.take i,aP w=true) (λi=>L.length-i) 0 (by simp) ?_ ?_
 ·exact aZ (by simp) (by simp[okO]) (by simp[below,aa,aW])
 ·intro i ⟨hi,hn⟩
  simp-implicitDefEqProofs[hsl]
  refine bf (λh1=>?_) (λh1=>?_)
  ·simp at h1
   have hg:=List.getElem?_eq_getElem h1
   simp-implicitDefEqProofs[hg]
   refine(FD G hK _ (hw _ (List.getElem_mem h1))).use ?_
   by_cases he:aP L[i]=true
   ·simp-implicitDefEqProofs[he]
    refine⟨i+1,⟨h1,λp hp=>?_⟩,by omega,aZ (by simp) (by simp[okO]) ?_⟩
    ·rw[aq h1] at hp
     rcases List.mem_append.1 hp with hp|hp
     ·exact hn p hp
     ·rw[List.mem_singleton.1 hp];exact he
    ·simp[below,aa,aW,w1 (i:=i) (by omega)]
   ·have hf:Aj L=i:=by
     have:L.findIdx? (λw=> !aP w)=some i:=by
      rw[List.findIdx?_eq_some_iff_getElem]
      exact⟨h1,by simpa using he,λj hj=>by have:=hn L[j] (List.mem_take_iff_getElem.2 ⟨j,by omega,rfl⟩);simpa using this⟩
     rw[Aj,this]
    simp-implicitDefEqProofs[he,hf]
  ·simp at h1
   rw[List.take_of_length_le h1] at hn
   have hf:Aj L= -1:=by
    have:L.findIdx? (λw=> !aP w)=none:=by
     rw[List.findIdx?_eq_none_iff];intro x hx;simpa using hn x hx
    rw[Aj,this]
   simp-implicitDefEqProofs[hf]
theorem uE(L:List (List UInt8))(hb:L.length<=1048576)(hw:∀x∈L,x.length<=140737488355328):VF Tryz.prog G bQ [.p (aW L),.fn (.func dy) []] (.p (.bool (!L.all aP))):=by
 rw[←DI]
 refine AC.go gN ?_
 simp-implicitDefEqProofs[dm]
 refine(Af G hK L hb hw).use ?_
 simp-implicitDefEqProofs[]
end
section
variable (G:ay)
def fnR(o:Obj):List AV:=match ec o.params o.slots o.code with
 |none=>dq
 |some f=>f.cs.map .p
section
variable (hG:G bX=some pvForms)
include hG
theorem ym{p s:Int}{code:List Int}(hb:bO code)(hl:code.length<=1048576){f:Mfn}(hd:ec p s code=some f):
 VF Tryz.prog G cb [.p (.int .i64 p),.p (.int .i64 s),.p (aN code)] (.tup [.agg (f.cs.map .p),.p (.bool true)]):=
 AC.freeze (zO G hG hb hl hd) (.tup (.agg (.keep (by simp) (.keep (by simp) (.one (pQ rfl) .nil))) (.keep (by simp) .nil)) .nil)
end
variable (hG:G bX=some pvForms) (hK:G ju=some iu)
include hG hK
theorem HM(o:Obj)(ho:ObjSm o)(hz:szO o<=1048576):VF Tryz.prog G lP [.agg (o.cs.map .p)] (.tup [.agg (fnR o),.p (.bool (bJ o))]):=by
 refine AC.go yV ?_
 have hsz:szO o=o.name.length+o.code.length+o.calls.length+szW o.names:=rfl
 have hwz:szW o.names=o.names.length+(o.names.map List.length).sum:=rfl
 simp-implicitDefEqProofs[rA,Obj.cs]
 cases hd:ec o.params o.slots o.code with
 |none=>
  have hob:bJ o=false:=by simp only[bJ,hd]
  have hfr:fnR o=dq:=by simp only[fnR,hd]
  have h2:=yN G hG ho.bytes (by omega) hd
  rw[dq] at h2
  refine h2.use ?_
  simp-implicitDefEqProofs[dq,hob,hfr]
 |some f=>
  obtain⟨hc,henc⟩:=vD hd
  have hob:bJ o=(aP o.name&&decide (cG f=o.calls)&&decide (o.names.length=o.calls.length)&&o.names.all aP&&decide (f=ee f)):=by simp only[bJ,hd]
  have hfr:fnR o=f.cs.map .p:=by simp only[fnR,hd]
  have hil:f.ins.length<=1000000:=by
   have:=(bS (by simp only[aD,Bool.and_eq_true] at hc;exact hc.1):gi f.ins).1
   omega
  have hne:f.ins≠[]:=by intro e;have:=kh hc;rw[e] at this;simp at this
  have hlo:∀x∈f.ins,x.op=14-> -9223372036854775808<=x.n:=λx hx h=>by have:=Ef hc hx h;omega
  have hcb:(cG f).length<=1048576:=by
   have h1:=nZ f (bV f).length
   have h2:=sy f
   rw[pb (Nat.le_refl _)] at h1
   omega
  refine(ym G hG ho.bytes (by omega) hd).use ?_
  simp-implicitDefEqProofs[]
  refine(tc G hK o.name (by omega)).use ?_
  by_cases h1:aP o.name=true
  case neg=>simp-implicitDefEqProofs[h1,hob,hfr,Mfn.cs]
  simp-implicitDefEqProofs[h1]
  refine(GS G f hne hil).useQ ?_
  simp-implicitDefEqProofs[]
  refine(CG G f (ee f) (by omega)).use ?_
  by_cases h2:f=ee f
  case neg=>simp-implicitDefEqProofs[h2,hob,hfr,Mfn.cs]
  simp-implicitDefEqProofs[←h2]
  refine(zR G hG f hil hlo).useQ ?_
  simp-implicitDefEqProofs[]
  refine(Bq G (cG f) o.calls hcb).use ?_
  by_cases h3:cG f=o.calls
  case neg=>simp-implicitDefEqProofs[h3,hob,hfr,Mfn.cs]
  have hnl:bc o.calls= .lst 1 (o.calls.map λn=>[.int .i64 n]):=rfl
  have hsl:aW o.names= .lst 1 (o.names.map λw=>[.str w]):=rfl
  simp-implicitDefEqProofs[h3,hnl,hsl]
  by_cases h4:o.names.length=o.calls.length
  case neg=>
   have h4':¬(o.names.length:Int)=(o.calls.length:Int):=by omega
   simp-implicitDefEqProofs[h4,h4',hob,hfr,Mfn.cs]
  simp-implicitDefEqProofs[h4]
  rw[←hsl]
  refine(uE G hK o.names (by omega) (yD hz)).use ?_
  simp-implicitDefEqProofs[hob,hfr,Mfn.cs,h1,h3,h4,←h2]
theorem uL(o:Obj)(ho:ObjSm o)(hz:szO o<=1048576):VF Tryz.prog G eT [.agg (o.cs.map .p)] (.p (.bool (bJ o))):=by
 refine AC.go nT ?_
 have hfn:=HM G hG hK o ho hz
 simp-implicitDefEqProofs[iD]
 rw[fnR] at hfn
 cases hd:ec o.params o.slots o.code with
 |none=>
  rw[hd] at hfn
  simp only[dq] at hfn
  refine hfn.use ?_
  simp-implicitDefEqProofs[]
 |some f=>
  rw[hd] at hfn
  simp only at hfn
  refine hfn.use ?_
  simp-implicitDefEqProofs[Mfn.cs]
end
section
def uK(n:Nat)(acc:List UInt8):List UInt8:=if n=0 then acc else uK (n/10) (UInt8.ofNat (48+n%10)::acc)
termination_by n
theorem CI(acc:List UInt8):uK 0 acc=acc:=by rw[uK,if_pos rfl]
theorem CZ{n:Nat}(h:¬n=0)(acc:List UInt8):uK n acc=uK (n/10) (UInt8.ofNat (48+n%10)::acc):=by rw[uK,if_neg h]
def iP(n:Nat):List UInt8:=if n=0 then[109,48] else 109::uK n []
structure DG where (n:Nat) (acc:List UInt8)
variable (G:ay)
theorem tY(n:Nat)(hn:n<=1152921504606846976):VF Tryz.prog G dw [.p (.int .i64 n)] (.p (.str (iP n))):=by
 refine AC.go se ?_
 by_cases h0:n=0
 ·subst h0
  simp-implicitDefEqProofs[gI,iP]
 have h1:¬(n:Int)<=0:=by omega
 simp-implicitDefEqProofs[gI,h1,h0]
 refine az (λd:DG=>aB 20 [(0,.p (.int .i64 d.n)),(3,.p (.str d.acc))]) (λ_=>[]) (λd=>uK d.n d.acc=uK n []/\d.acc.length+d.n<=n) (λd=>d.n) ⟨n,[]⟩ (by simp) ?_ ?_
 ·exact aA rfl (by simp[below])
 ·rintro⟨m,acc⟩ ⟨i1,i2⟩
  simp only at i1 i2
  simp-implicitDefEqProofs[]
  refine bf (λh2=>?_) (λh2=>?_)
  ·simp at h2
   have hm0:¬m=0:=by omega
   have e10:(m:Int).tmod 10=(m:Int)%10:=Int.tmod_eq_emod_of_nonneg (by omega)
   have ew:IntKind.i64.wrap (48+(m:Int)%10)=48+(m:Int)%10:=ab (by omega) (by omega)
   have e8:IntKind.u8.wrap (48+(m:Int)%10)=48+(m:Int)%10:=by have:=pI (48+(m:Int)%10);rw[u8] at this;rw[this];omega
   have et:(48+(m:Int)%10).toNat=48+m%10:=by omega
   have ed:IntKind.i64.wrap ((m:Int)/10)=((m/10:Nat):Int):=gR (by omega) (by omega)
   simp-implicitDefEqProofs[e10,ew,e8,et,ed]
   refine⟨by omega,⟨m/10,UInt8.ofNat (48+m%10)::acc⟩,⟨?_,?_⟩,by simp only;omega,aA rfl ?_⟩
   ·rw[←i1];exact(CZ hm0 acc).symm
   ·simp only[List.length_cons];omega
   ·simp[below]
  ·simp at h2
   have:m=0:=by omega
   subst this
   rw[CI] at i1
   have hl:1+(uK n []).length<=9223372036854775807:=by rw[←i1];omega
   simp-implicitDefEqProofs[iP,h0,i1]
   exact hl
def jd(k n:Nat):List Int:=(List.range n).map λj=>((k+j:Nat):Int)
def pt(k n:Nat):List (List UInt8):=(List.range n).map λj=>iP (k+j)
theorem DM(k n:Nat):(jd k n).length=n:=by simp[jd]
theorem zY{h:List AO}{id:Nat}{xs:List Int}{k:Nat}(hr:h[id]?=some (gy xs))(hk:k+xs.length<=1152921504606846976):
 AC Tryz.prog G dj [.sl id 1 0 xs.length,.p (.int .i64 k)] h λx h'=>x= .ret (.p (.int .i64 ((k+xs.length:Nat):Int)))/\h'=h.set id (gy (jd k xs.length)):=by
 refine AC.enterB eM λhb=>AC.go eM ?_
 have hid:id<h.length:=(List.getElem?_eq_some_iff.1 hr).1
 have hbs:∀ys:List Int,HB (h.set id (gy ys)):=λys=>hb.set_row λe he=>by
  obtain⟨x,_,rfl⟩:=List.mem_map.1 he
  simp
 simp-implicitDefEqProofs[eO]
 have e0:jd k 0++xs.drop 0=xs:=by simp[jd]
 refine az (λa:Nat × List Int=>aB 19 [(0,.sl id 1 0 xs.length),(1,.p (.int .i64 ((k+a.1:Nat):Int))),(5,.p (.int .i64 a.1))]) (λa=>h.set id (gy a.2)) (λa=>a.1<=xs.length/\a.2=jd k a.1++xs.drop a.1) (λa=>xs.length-a.1) (0,xs) ⟨by simp,e0.symm⟩ ?_ ?_
 ·have e:h.set id (gy xs)=h:=by
   obtain⟨hi,e⟩:=List.getElem?_eq_some_iff.1 hr
   rw[←e];simp
  rw[e]
  exact lD (by simp) hb (by simp-implicitDefEqProofs[below,hid])
 ·rintro⟨i,ys⟩ ⟨hi,hy⟩
  simp only at hi hy
  simp-implicitDefEqProofs[]
  refine bf (λh1=>?_) (λh1=>?_)
  ·simp at h1
   have hyl:ys.length=xs.length:=by rw[hy];simp[jd];omega
   have hys:ys.set i ((k+i:Nat):Int)=jd k (i+1)++xs.drop (i+1):=by
    rw[hy,List.set_append_right _ _ (by simp[jd])]
    simp only[jd,List.length_map,List.length_range,Nat.sub_self]
    rw[List.drop_eq_getElem_cons h1,List.set_cons_zero,List.range_succ]
    simp
   have hg:(List.map (λn=>[AV.p (.int .i64 n)]) ys)[i]?=some [AV.p (.int .i64 (ys[i]'(by omega)))]:=by rw[List.getElem?_map,List.getElem?_eq_getElem (by omega)];rfl
   have hw1:IntKind.i64.wrap ((k:Int)+(i:Int)+1)=(k:Int)+(i:Int)+1:=ab (by omega) (by omega)
   simp-implicitDefEqProofs[gy,hid,h1,hg,hw1]
   refine⟨i+1,ys.set i ((k+i:Nat):Int),⟨h1,hys⟩,by omega,?_⟩
   have e:(List.map (λn=>[AV.p (PV.int IntKind.i64 n)]) ys).set i [AV.p (PV.int IntKind.i64 (↑k+ ↑i))]=List.map (λn=>[AV.p (PV.int IntKind.i64 n)]) (ys.set i ((k+i:Nat):Int)):=by
    rw[List.map_set];simp
   rw[e]
   refine lD ?_ (hbs (ys.set i ((k+i:Nat):Int))) ?_
   ·simp
   simp[w1 (i:=i) (by omega),below,hid]
   omega
  ·simp at h1
   have:i=xs.length:=by omega
   subst this
   simp[hy]
end
section
variable (G:ay)
theorem yJ(k i:Nat)(hn:k+i<=1152921504606846976):VF Tryz.prog G dw [.p (.int .i64 ((k:Int)+(i:Int)))] (.p (.str (iP (k+i)))):=by
 have:=tY G (k+i) hn
 rwa[Int.natCast_add] at this
theorem uB{h:List AO}{id:Nat}{xs:List (List UInt8)}{k:Nat}(hr:h[id]?=some (fv xs))(hk:k+xs.length<=1152921504606846976):
 AC Tryz.prog G cW [.sl id 1 0 xs.length,.p (.int .i64 k)] h λx h'=>x= .ret (.p (.int .i64 ((k+xs.length:Nat):Int)))/\h'=h.set id (fv (pt k xs.length)):=by
 refine AC.enterB cX λhb=>AC.go cX ?_
 have hid:id<h.length:=(List.getElem?_eq_some_iff.1 hr).1
 have hbs:∀ys:List (List UInt8),HB (h.set id (fv ys)):=λys=>hb.set_row λe he=>by
  obtain⟨x,_,rfl⟩:=List.mem_map.1 he
  simp
 simp-implicitDefEqProofs[da]
 have e0:pt k 0++xs.drop 0=xs:=by simp[pt]
 refine az (λa:Nat × List (List UInt8)=>aB 20 [(0,.sl id 1 0 xs.length),(1,.p (.int .i64 ((k+a.1:Nat):Int))),(5,.p (.int .i64 a.1))]) (λa=>h.set id (fv a.2)) (λa=>a.1<=xs.length/\a.2=pt k a.1++xs.drop a.1) (λa=>xs.length-a.1) (0,xs) ⟨by simp,e0.symm⟩ ?_ ?_
 ·have e:h.set id (fv xs)=h:=by
   obtain⟨hi,e⟩:=List.getElem?_eq_some_iff.1 hr
   rw[←e];simp
  rw[e]
  exact lD (by simp) hb (by simp-implicitDefEqProofs[below,hid])
 ·rintro⟨i,ys⟩ ⟨hi,hy⟩
  simp only at hi hy
  simp-implicitDefEqProofs[]
  refine bf (λh1=>?_) (λh1=>?_)
  ·simp at h1
   have hyl:ys.length=xs.length:=by rw[hy];simp[pt];omega
   have hys:ys.set i (iP (k+i))=pt k (i+1)++xs.drop (i+1):=by
    rw[hy,List.set_append_right _ _ (by simp[pt])]
    simp only[pt,List.length_map,List.length_range,Nat.sub_self]
    rw[List.drop_eq_getElem_cons h1,List.set_cons_zero,List.range_succ]
    simp
   have hg:(List.map (λn=>[AV.p (.str n)]) ys)[i]?=some [AV.p (.str (ys[i]'(by omega)))]:=by rw[List.getElem?_map,List.getElem?_eq_getElem (by omega)];rfl
   have hw1:IntKind.i64.wrap ((k:Int)+(i:Int)+1)=(k:Int)+(i:Int)+1:=ab (by omega) (by omega)
   simp-implicitDefEqProofs[]
   refine(yJ G k i (by omega)).use ?_
   simp-implicitDefEqProofs[fv,hid,h1,hg,hw1]
   refine⟨i+1,ys.set i (iP (k+i)),⟨h1,hys⟩,by omega,?_⟩
   have e:(List.map (λn=>[AV.p (PV.str n)]) ys).set i [AV.p (PV.str (iP (k+i)))]=List.map (λn=>[AV.p (PV.str n)]) (ys.set i (iP (k+i))):=by
    rw[List.map_set]
   rw[e]
   refine lD ?_ (hbs (ys.set i (iP (k+i)))) ?_
   ·simp
   simp[w1 (i:=i) (by omega),below,hid]
   omega
  ·simp at h1
   have:i=xs.length:=by omega
   subst this
   simp[hy]
def Obj.ov(o:Obj)(a b c:Nat):List AV:=[.p (.str o.name),.p (.int .i64 o.params),.p (.int .i64 o.slots),.sl a 1 0 o.code.length,.sl b 1 0 o.calls.length,.sl c 1 0 o.names.length]
end
section
def xX(acc:List (List UInt8))(w:List UInt8):List (List UInt8):=if acc.contains w then acc else acc++[w]
def kV(l:List (List UInt8))(i:Nat):List (List UInt8):=(l.take i).foldl xX []
def ty(l:List (List UInt8)):List (List UInt8):=l.foldl xX []
theorem gZ(l:List (List UInt8)):kV l 0=[]:=rfl
theorem pm{l:List (List UInt8)}{i:Nat}(h:i<l.length):kV l (i+1)=xX (kV l i) l[i]:=by
 rw[kV,aq h,List.foldl_append];rfl
theorem sD{l:List (List UInt8)}{i:Nat}(h:l.length<=i):kV l i=ty l:=by rw[kV,List.take_of_length_le h];rfl
theorem Fo(acc:List (List UInt8))(w:List UInt8):(xX acc w).length<=acc.length+1:=by
 unfold xX;split<;>simp
theorem oh{l:List (List UInt8)}:∀{i:Nat},i<=l.length->(kV l i).length<=i
 |0,_=>by simp[gZ]
 |i+1,h=>by
  rw[pm h]
  have h1:=Fo (kV l i) l[i]
  have h2:=oh (l:=l) (i:=i) (by omega)
  omega
theorem yt(l:List (List UInt8)):(ty l).length<=l.length:=by
 have:=oh (l:=l) (Nat.le_refl _)
 rwa[sD (Nat.le_refl _)] at this
variable (G:ay)
theorem GA(L:List (List UInt8))(s:List UInt8)(hb:L.length<=1048576):VF Tryz.prog G kg [.p (aW L),.p (.str s)] (.p (.bool (L.contains s))):=by
 refine AC.go yg ?_
 have hsl:aW L= .lst 1 (L.map λw=>[.str w]):=rfl
 simp-implicitDefEqProofs[oC,hsl]
 refine az (λi:Nat=>aB 18 [(0,.p (aW L)),(1,.p (.str s)),(5,.p (.int .i64 i))]) (λ_=>[]) (λi=>i<=L.length/\∀w∈L.take i,w≠s) (λi=>L.length-i) 0 (by simp) ?_ ?_
 ·exact aA rfl (by simp[below,aW])
 ·intro i ⟨hi,hn⟩
  simp-implicitDefEqProofs[hsl]
  refine bf (λh1=>?_) (λh1=>?_)
  ·simp at h1
   have hg:=List.getElem?_eq_getElem h1
   by_cases he:L[i]=s
   ·have hf:L.contains s=true:=by rw[List.contains_iff_mem,←he];exact List.getElem_mem h1
    have hf':s∈L:=by rw[←he];exact List.getElem_mem h1
    simp-implicitDefEqProofs[hg,hf',he]
   ·simp-implicitDefEqProofs[hg,he]
    refine⟨i+1,⟨h1,λp hp=>?_⟩,by omega,aA rfl ?_⟩
    ·rw[aq h1] at hp
     rcases List.mem_append.1 hp with hp|hp
     ·exact hn p hp
     ·rw[List.mem_singleton.1 hp];exact he
    ·simp[below,aW,w1 (i:=i) (by omega)]
  ·simp at h1
   rw[List.take_of_length_le h1] at hn
   have hf:¬s∈L:=λhm=>absurd rfl (hn s hm)
   simp-implicitDefEqProofs[hf]
def kx(o:Obj):List (List UInt8):=if bJ o then ty o.names else[]
theorem gh(o:Obj)(ho:ObjSm o)(hz:szO o<=1048576):VF Tryz.prog G bm [.agg (o.cs.map .p)] (.p (aW (kx o))):=by
 have hsz:szO o=o.name.length+o.code.length+o.calls.length+szW o.names:=rfl
 have hwz:szW o.names=o.names.length+(o.names.map List.length).sum:=rfl
 have key:AC Tryz.prog G bm [.agg (o.cs.map .p)] [] λx h=>∃id,x= .ret (.sl id 1 0 (kx o).length)/\h[id]?=some (fv (kx o)):=by
  refine AC.go nP ?_
  have hsl:∀l,aW l= .lst 1 (l.map λw=>[.str w]):=λ_=>rfl
  have hso:∀l,fv l= .row 1 (l.map λw=>[.p (.str w)]):=λ_=>rfl
  simp-implicitDefEqProofs[iL]
  refine az (λi:Nat=>aB 34 [(1,.ptr 0 6 0 0),(3,.sl 1 1 0 (kV o.names i).length),(4,.p (.int .i64 i))]) (λi=>[.row 6 [o.cs.map .p],fv (kV o.names i)])
   (λi=>i<=o.names.length/\(0<i->bJ o=true)) (λi=>o.names.length-i) 0 (by simp) ?_ ?_
  ·exact aZ (by simp) (by simp[okO,gZ,hso]) (by simp[below,gZ])
  ·intro i ⟨hi,hob⟩
   by_cases h1:i<o.names.length
   ·have hg:=List.getElem?_eq_getElem h1
    have hv:=nf G o ho hz
    rw[Obj.cs,hsl] at hv
    have hul:=oh (l:=o.names) (i:=i) (Nat.le_of_lt h1)
    simp-implicitDefEqProofs[Obj.cs,hsl,h1]
    refine hv.use ?_
    by_cases hk:bJ o=true
    case neg=>
     have hi0:i=0:=by
      rcases Nat.eq_zero_or_pos i with e|e
      ·exact e
      ·exact absurd (hob e) hk
     subst hi0
     have hcl:kx o=[]:=by rw[kx,if_neg hk]
     simp-implicitDefEqProofs[hk,hcl,gZ]
    have hsu:=pm h1
    simp-implicitDefEqProofs[hk,hg]
    refine(VF.lend (GA G (kV o.names i) o.names[i] (by omega)) (.one (mu rfl) (.keep (by simp[below]) .nil)) rfl).mono ?_
    rintro r h ⟨rfl,rfl⟩
    by_cases hm:o.names[i]∈kV o.names i
    ·rw[xX,if_pos (by simpa using hm)] at hsu
     simp-implicitDefEqProofs[ag,hm]
     refine⟨i+1,h1,by omega,?_⟩
     rw[hsu]
     exact aZ (by simp) (by simp[okO,hso]) (by simp[below,w1 (i:=i) (by omega)])
    ·rw[xX,if_neg (by simpa using hm)] at hsu
     simp-implicitDefEqProofs[ag,hm,hg,hso]
     refine⟨by omega,i+1,h1,by omega,?_⟩
     rw[hsu]
     refine an [0,3] rfl (by decide) (af rfl (by simp) (af (by simp[hso,List.take_of_length_le]) (by intro x hx;simp at hx;rcases hx with⟨a,_,rfl⟩|rfl<;>simp[aa,below]) aj)) ?_
     simp[below,ren,w1 (i:=i) (by omega)]
   ·have hiN:¬(i:Int)<(o.names.length:Int):=by omega
    have hcl:kx o=kV o.names i:=by
     rcases Nat.eq_zero_or_pos i with e|e
     ·subst e
      have hn:o.names=[]:=List.eq_nil_of_length_eq_zero (by omega)
      rw[kx,hn,gZ];split<;>rfl
     ·rw[kx,if_pos (hob e),sD (by omega)]
    simp-implicitDefEqProofs[Obj.cs,hsl,h1,hiN,hcl]
 refine key.freezeR (λt v h ⟨id,e,_⟩=>by cases e) λv h ⟨id,e1,e2⟩=>?_
 cases e1
 exact .one (mu e2) .nil
theorem DU(l:List (List UInt8))(hb:l.length<=1048576):AC Tryz.prog G gv [.p (aW l)] [] λx h=>if l=[] then x= .ret .nils else∃id,x= .ret (.sl id 1 0 (ty l).length)/\h[id]?=some (fv (ty l)):=by
 refine AC.go yu ?_
 have hsl:∀l,aW l= .lst 1 (l.map λw=>[.str w]):=λ_=>rfl
 have hso:∀l,fv l= .row 1 (l.map λw=>[.p (.str w)]):=λ_=>rfl
 simp-implicitDefEqProofs[rE,hsl]
 refine az (λi:Nat=>aB 22 [(3,if i=0 then .nils else .sl 0 1 0 (kV l i).length),(6,.p (aW l)),(7,.p (.int .i64 l.length)),(8,.p (.int .i64 i))]) (λi=>if i=0 then[] else[fv (kV l i)])
  (λi=>i<=l.length) (λi=>l.length-i) 0 (by simp) ?_ ?_
 ·rw[if_pos rfl,if_pos rfl]
  exact aA rfl (by simp[below,hsl])
 ·intro i hi
  by_cases h1:i<l.length
  ·have hg:=List.getElem?_eq_getElem h1
   have hne:l≠[]:=by rintro rfl;simp at h1
   have hsu:=pm h1
   have hul:=oh (l:=l) (i:=i) (Nat.le_of_lt h1)
   have hi1:¬i+1=0:=by omega
   by_cases h0:i=0
   ·subst h0
    have hu1:kV l (0+1)=[l[0]]:=by rw[hsu,gZ];rfl
    simp-implicitDefEqProofs[hsl,h1,hg]
    refine(VF.lend (nv G [] l[0] (by simp)) (.one (View.nils 1) (.keep (by simp[below]) .nil)) rfl).mono ?_
    rintro r h ⟨rfl,rfl⟩
    simp-implicitDefEqProofs[ag]
    refine⟨0+1,h1,by omega,?_⟩
    rw[if_neg hi1,if_neg hi1,hu1]
    rw[show IntKind.i64.wrap 1=((0+1:Nat):Int) from rfl]
    refine an [1] rfl (by decide) (af rfl (by simp[aa,below]) aj) ?_
    simp[below,ren,hsl]
   ·rw[if_neg h0,if_neg h0]
    simp-implicitDefEqProofs[hsl,h1,hg]
    refine(VF.lend (nv G (kV l i) l[i] (by omega)) (.one (mu rfl) (.keep (by simp[below]) .nil)) rfl).mono ?_
    rintro r h ⟨rfl,rfl⟩
    by_cases hm:l[i]∈kV l i
    ·rw[xX,if_pos (by simpa using hm)] at hsu
     simp-implicitDefEqProofs[ag,hm]
     refine⟨i+1,h1,by omega,?_⟩
     rw[if_neg hi1,if_neg hi1,hsu]
     exact aZ (by simp) (by simp[okO,hso]) (by simp[below,hsl,w1 (i:=i) (by omega)])
    ·rw[xX,if_neg (by simpa using hm)] at hsu
     simp-implicitDefEqProofs[ag,hm,hso]
     refine⟨by omega,i+1,h1,by omega,?_⟩
     rw[if_neg hi1,if_neg hi1,hsu]
     refine an [2] rfl (by decide) (af (by simp[hso,List.take_of_length_le]) (by intro x hx;simp at hx;rcases hx with⟨a,_,rfl⟩|rfl<;>simp[aa,below]) aj) ?_
     simp[below,ren,hsl,w1 (i:=i) (by omega)]
  ·have hiN:¬(i:Int)<(l.length:Int):=by omega
   have hall:=sD (l:=l) (i:=i) (by omega)
   by_cases h0:i=0
   ·subst h0
    have hn:l=[]:=List.eq_nil_of_length_eq_zero (by omega)
    simp-implicitDefEqProofs[hsl,h1,hiN,hn]
   ·have hn:l≠[]:=by rintro rfl;simp at hi;omega
    rw[if_neg h0,if_neg h0]
    simp-implicitDefEqProofs[hsl,h1,hiN,hn,hall]
theorem vp(l:List (List UInt8)):∀x∈l.map (λw=>[AV.p (.str w)]),aa 0 x:=by
 intro x hx;obtain⟨m,_,rfl⟩:=List.mem_map.1 hx;simp[aa,below]
theorem CP(l:List (List UInt8)):ir (fv l)=true:=by simp[ir,fv,iY,mD]
theorem AS(n:Nat)(l:List (List UInt8)):aT n (fv l)=fv l:=by
 simp only[aT,fv,List.map_map];rfl
theorem Gw{l:List (List UInt8)}(hb:l.length<=1048576)(hn:l≠[]):AC Tryz.prog G gv [.p (aW l)] [] λx h=>x= .ret (.sl 0 1 0 (ty l).length)/\h=[fv (ty l)]:=by
 refine(DU G l hb).gc (λt v h e=>?_) λv h e=>?_
 ·rw[if_neg hn] at e;obtain⟨_,e,_⟩:=e;cases e
 ·rw[if_neg hn] at e
  obtain⟨id,e1,e2⟩:=e
  cases e1
  exact⟨.sl 0 1 0 (ty l).length,[fv (ty l)],⟨[id],by simp,by simp,by simp,by simp[below],by simp[ren],af e2 (vp _) aj⟩,rfl,rfl⟩
variable (hG:G bX=some pvForms) (hK:G ju=some iu)
include hG hK
end
section
inductive Ld {α:Type} (ix:α->Option Nat) (cs:Nat->List α) (k:Nat):Nat->Prop
 |refl:Ld ix cs k k
 |step {j m:Nat} {w:α}:Ld ix cs k j->w∈cs j->ix w=some m->Ld ix cs k m
def Lp{α:Type}(ix:α->Option Nat)(cs:Nat->List α)(k m:Nat):Prop:=∃(j:Nat) (w:α),Ld ix cs k j/\w∈cs j/\ix w=some m
def Ls{α:Type}(ix:α->Option Nat)(cs:Nat->List α)(k:Nat):Prop:=∃(j:Nat) (w:α),Ld ix cs k j/\w∈cs j/\ix w=none
section
variable {α:Type} {ix:α->Option Nat} {cs:Nat->List α}
theorem Ld.trans{a b c:Nat}(h1:Ld ix cs a b)(h2:Ld ix cs b c):Ld ix cs a c:=by
 induction h2 with
 |refl=>exact h1
 |step _ hw hm ih=>exact .step ih hw hm
theorem Ld.first{k j:Nat}{w:α}(hw:w∈cs k)(hj:ix w=some j){x:Nat}(h:Ld ix cs j x):Ld ix cs k x:=(Ld.step .refl hw hj).trans h
theorem Ld.lp{k j:Nat}{w:α}{a:Nat}(h:Ld ix cs a k)(hw:w∈cs k)(hj:ix w=some j){x:Nat}(h2:Ld ix cs j x):Lp ix cs a x:=by
 cases h2 with
 |refl=>exact⟨k,w,h,hw,hj⟩
 |step h3 hw3 hm=>exact⟨_,_,(Ld.step h hw hj).trans h3,hw3,hm⟩
theorem Ls.up{k j:Nat}{w:α}(hw:w∈cs k)(hj:ix w=some j)(h:Ls ix cs j):Ls ix cs k:=by
 obtain⟨a,v,h1,h2,h3⟩:=h
 exact⟨a,v,.first hw hj h1,h2,h3⟩
theorem Lp.ld{a b c:Nat}(h:Lp ix cs a b)(h2:Ld ix cs b c):Lp ix cs a c:=by
 obtain⟨j,w,h1,hw,hm⟩:=h
 exact h1.lp hw hm h2
theorem Ld.pl{a b c:Nat}(h2:Ld ix cs a b)(h:Lp ix cs b c):Lp ix cs a c:=by
 obtain⟨j,w,h1,hw,hm⟩:=h
 exact⟨j,w,h2.trans h1,hw,hm⟩
structure Lk where (mark:Nat->Nat) (out:List Nat) (lost round:Bool)
def ky(f:Nat->Nat)(k v:Nat):Nat->Nat:=λx=>if x=k then v else f x
def cr(ix:α->Option Nat)(cs:Nat->List α):Nat->α->Lk->Lk
 |0,_,s=>s
 |f+1,w,s=>match ix w with
  |none=>{s with lost:=true}
  |some k=>if s.mark k=1 then{s with round:=true} else if s.mark k=2 then s else
    let t:=(cs k).foldl (λs w=>cr ix cs f w s) {s with mark:=ky s.mark k 1}
    {t with mark:=ky t.mark k 2,out:=t.out++[k]}
def cO(ix:α->Option Nat)(cs:Nat->List α)(f:Nat)(ws:List α)(s:Lk):Lk:=ws.foldl (λs w=>cr ix cs f w s) s
theorem nx(f:Nat)(w:α)(ws:List α)(s:Lk):cO ix cs f (w::ws) s=cO ix cs f ws (cr ix cs f w s):=rfl
theorem Am(f:Nat)(w:α)(ws:List α)(s:Lk):cO ix cs f (ws++[w]) s=cr ix cs f w (cO ix cs f ws s):=by
 simp[cO,List.foldl_append]
theorem mo{f:Nat}{w:α}{s:Lk}(h:ix w=none):cr ix cs (f+1) w s={s with lost:=true}:=by rw[cr,h]
theorem pc{f:Nat}{w:α}{s:Lk}{k:Nat}(h:ix w=some k)(h1:s.mark k=1):cr ix cs (f+1) w s={s with round:=true}:=by rw[cr,h];simp only;rw[if_pos h1]
theorem oV{f:Nat}{w:α}{s:Lk}{k:Nat}(h:ix w=some k)(h1:s.mark k=2):cr ix cs (f+1) w s=s:=by rw[cr,h];simp only;rw[if_neg (by omega),if_pos h1]
def newS(s:Lk)(k:Nat):Lk:={s with mark:=ky s.mark k 1}
def lf(t:Lk)(k:Nat):Lk:={t with mark:=ky t.mark k 2,out:=t.out++[k]}
theorem ou{f:Nat}{w:α}{s:Lk}{k:Nat}(h:ix w=some k)(h1:s.mark k≠1)(h2:s.mark k≠2):cr ix cs (f+1) w s=lf (cO ix cs f (cs k) (newS s k)) k:=by rw[cr,h];simp only;rw[if_neg h1,if_neg h2];rfl
def dA(n:Nat)(s:Lk):Nat:=(List.range n).countP λx=>decide (s.mark x=0)
theorem gw{n:Nat}{s t:Lk}(h:∀x,s.mark x≠0->t.mark x≠0):dA n t<=dA n s:=by
 refine List.countP_mono_left λx _ hx=>?_
 rw[decide_eq_true_iff] at hx⊢
 exact Classical.byContradiction λh2=>h x h2 hx
theorem pT:∀{l:List Nat} {p q:Nat->Bool} {k:Nat},k∈l->(∀x∈l,p x=true->q x=true)->p k=false->q k=true->l.countP p<l.countP q
 |a::r,p,q,k,hk,h,h1,h2=>by
  have hr:r.countP p<=r.countP q:=List.countP_mono_left λx hx=>h x (by simp[hx])
  rw[List.countP_cons,List.countP_cons]
  rcases List.mem_cons.1 hk with e|e
  ·subst e
   rw[h1,h2];simp;omega
  ·have:=pT e (λx hx=>h x (by simp[hx])) h1 h2
   have h3:=h a (by simp)
   cases e1:p a with
   |false=>simp;omega
   |true=>rw[h3 e1];simp;omega
theorem sj{n:Nat}{s:Lk}{k:Nat}(hk:k<n)(h:s.mark k=0):dA n (newS s k)<dA n s:=by
 refine pT (k:=k) (List.mem_range.2 hk) (λx _ hx=>?_) (by simp[newS,ky]) (by simp[h])
 simp only[newS,ky,decide_eq_true_iff] at hx⊢
 split at hx
 ·cases hx
 ·simpa using hx
def CR(ix:α->Option Nat)(cs:Nat->List α)(out:List Nat):Prop:=∀(i x:Nat),out[i]?=some x->∀w∈cs x,∃j,j<i/\∃y,ix w=some y/\out[j]?=some y
def rj(ix:α->Option Nat)(cs:Nat->List α)(s:Lk):Prop:=(∀x,s.mark x=2↔x∈s.out)/\CR ix cs s.out/\s.out.Nodup
structure LI (ix:α->Option Nat) (cs:Nat->List α) (R:Nat->Prop) (L:Prop) (s t:Lk):Prop where
 old:∀x,s.mark x≠0->t.mark x=s.mark x
 new:∀x,s.mark x=0->t.mark x≠0->t.mark x=2/\R x/\∀v∈cs x,(ix v=none->t.lost=true)/\∀j,ix v=some j->t.mark j≠0
 lost:t.lost=true->s.lost=true\/L
 lostS:s.lost=true->t.lost=true
 roundS:s.round=true->t.round=true
 round:t.round=true->s.round=true\/∃y,R y/\(s.mark y=1\/Lp ix cs y y)
 good:t.lost=false->t.round=false->rj ix cs s->rj ix cs t
theorem LI.rfl'{R:Nat->Prop}{L:Prop}(s:Lk):LI ix cs R L s s:=⟨λ_ _=>rfl,λ_ h1 h2=>absurd h1 h2,.inl,id,id,.inl,λ_ _ h=>h⟩
theorem LI.trans{R:Nat->Prop}{L:Prop}{s t u:Lk}(h1:LI ix cs R L s t)(h2:LI ix cs R L t u):LI ix cs R L s u:=by
 have hk:∀x,t.mark x≠0->u.mark x≠0:=λx h=>by rw[h2.old x h];exact h
 refine⟨λx h=>?_,λx hs hu=>?_,λh=>?_,λh=>h2.lostS (h1.lostS h),λh=>h2.roundS (h1.roundS h),λh=>?_,λhl hr hg=>?_⟩
 ·have:=h1.old x h
  rw[h2.old x (by rw[this];exact h),this]
 ·by_cases ht:t.mark x=0
  ·exact h2.new x ht hu
  ·obtain⟨a,b,c⟩:=h1.new x hs ht
   refine⟨by rw[h2.old x ht];exact a,b,λv hv=>⟨λe=>h2.lostS ((c v hv).1 e),λj e=>hk j ((c v hv).2 j e)⟩⟩
 ·rcases h2.lost h with g|g
  ·exact h1.lost g
  ·exact .inr g
 ·rcases h2.round h with g|⟨y,g1,g2⟩
  ·exact h1.round g
  ·refine .inr ⟨y,g1,?_⟩
   rcases g2 with g2|g2
   ·by_cases hy:s.mark y=0
    ·have:=(h1.new y hy (by omega)).1;omega
    ·exact .inl (by rw[←h1.old y hy];exact g2)
   ·exact .inr g2
 ·have hl1:t.lost=false:=by
   cases e:t.lost with
   |false=>rfl
   |true=>rw[h2.lostS e] at hl;cases hl
  have hr1:t.round=false:=by
   cases e:t.round with
   |false=>rfl
   |true=>rw[h2.roundS e] at hr;cases hr
  exact h2.good hl hr (h1.good hl1 hr1 hg)
theorem LI.mono{R R':Nat->Prop}{L L':Prop}{s t:Lk}(h:LI ix cs R L s t)(hR:∀x,R x->R' x)(hL:L->L'):LI ix cs R' L' s t:=
 ⟨h.old,λx h1 h2=>⟨(h.new x h1 h2).1,hR x (h.new x h1 h2).2.1,(h.new x h1 h2).2.2⟩,λe=>(h.lost e).imp id hL,h.lostS,h.roundS,λe=>(h.round e).imp id λ⟨y,a,b⟩=>⟨y,hR y a,b⟩,h.good⟩
def RW(ix:α->Option Nat)(cs:Nat->List α)(w:α)(x:Nat):Prop:=∃k,ix w=some k/\Ld ix cs k x
def LW(ix:α->Option Nat)(cs:Nat->List α)(w:α):Prop:=ix w=none\/∃k,ix w=some k/\Ls ix cs k
def CW(ix:α->Option Nat)(w:α)(t:Lk):Prop:=(ix w=none->t.lost=true)/\∀k,ix w=some k->t.mark k≠0/\(t.round=false->t.mark k=2)
theorem CW.up{R:Nat->Prop}{L:Prop}{w:α}{s t:Lk}(h:CW ix w s)(h1:LI ix cs R L s t):CW ix w t:=by
 refine⟨λe=>h1.lostS (h.1 e),λk e=>?_⟩
 obtain⟨a,b⟩:=h.2 k e
 rw[h1.old k a]
 refine⟨a,λhr=>b ?_⟩
 cases e:s.round with
 |false=>rfl
 |true=>rw[h1.roundS e] at hr;cases hr
theorem LI.le2{R:Nat->Prop}{L:Prop}{s t:Lk}(h1:LI ix cs R L s t)(h:∀x,s.mark x<=2)(x:Nat):t.mark x<=2:=by
 by_cases hs:s.mark x=0
 ·by_cases ht:t.mark x=0
  ·omega
  ·rw[(h1.new x hs ht).1];omega
 ·rw[h1.old x hs];exact h x
theorem oo{f:Nat}{n:Nat}(hf:∀w s,dA n s<f->(∀x,s.mark x<=2)->LI ix cs (RW ix cs w) (LW ix cs w) s (cr ix cs f w s)/\CW ix w (cr ix cs f w s)):
 ∀(ws:List α) (s:Lk),dA n s<f->(∀x,s.mark x<=2)->LI ix cs (λx=>∃w∈ws,RW ix cs w x) (∃w∈ws,LW ix cs w) s (cO ix cs f ws s)/\∀w∈ws,CW ix w (cO ix cs f ws s)
 |[],s,_,_=>⟨.rfl' s,λw hw=>by cases hw⟩
 |w::ws,s,hc,hm=>by
  obtain⟨h1,h2⟩:=hf w s hc hm
  have hc2:dA n (cr ix cs f w s)<f:=Nat.lt_of_le_of_lt (gw λx hx=>by rw[h1.old x hx];exact hx) hc
  obtain⟨g1,g2⟩:=oo hf ws (cr ix cs f w s) hc2 (h1.le2 hm)
  rw[nx]
  refine⟨(h1.mono (λx hx=>⟨w,by simp,hx⟩) λhx=>⟨w,by simp,hx⟩).trans (g1.mono (λx ⟨v,hv,hx⟩=>⟨v,by simp[hv],hx⟩) λ⟨v,hv,hx⟩=>⟨v,by simp[hv],hx⟩),λv hv=>?_⟩
  rcases List.mem_cons.1 hv with e|e
  ·subst e;exact h2.up g1
  ·exact g2 v e
theorem CH{out:List Nat}{k:Nat}(h:CR ix cs out)(hk:∀w∈cs k,∃y,ix w=some y/\y∈out):CR ix cs (out++[k]):=by
 intro i x hi w hw
 rcases Nat.lt_or_ge i out.length with h1|h1
 ·rw[List.getElem?_append_left h1] at hi
  obtain⟨j,h2,y,h3,h4⟩:=h i x hi w hw
  exact⟨j,h2,y,h3,by rw[List.getElem?_append_left (by omega)];exact h4⟩
 ·rw[List.getElem?_append_right h1] at hi
  have hx:i-out.length=0/\k=x:=by
   rw[List.getElem?_singleton] at hi
   split at hi
   ·rename_i e;exact⟨e,by cases hi;rfl⟩
   ·cases hi
  obtain⟨h2,rfl⟩:=hx
  obtain⟨y,h3,h4⟩:=hk w hw
  obtain⟨j,h5,h6⟩:=List.getElem_of_mem h4
  exact⟨j,by omega,y,h3,by rw[List.getElem?_append_left h5,List.getElem?_eq_getElem h5,h6]⟩
theorem oR{n:Nat}(hn:∀w k,ix w=some k->k<n):∀(f:Nat) (w:α) (s:Lk),dA n s<f->(∀x,s.mark x<=2)->LI ix cs (RW ix cs w) (LW ix cs w) s (cr ix cs f w s)/\CW ix w (cr ix cs f w s):=by
 intro f
 induction f with
 |zero=>intro w s h;omega
 |succ f ih=>
  intro w s hc hm
  cases hk:ix w with
  |none=>
   rw[mo hk]
   exact⟨⟨λ_ _=>rfl,λ_ h1 h2=>absurd h1 h2,λ_=> .inr (.inl hk),λ_=>rfl,id,.inl,λh=>by cases h⟩,λ_=>rfl,λk e=>by rw[hk] at e;cases e⟩
  |some k=>
   by_cases h1:s.mark k=1
   ·rw[pc hk h1]
    refine⟨⟨λ_ _=>rfl,λ_ h1 h2=>absurd h1 h2,.inl,id,λ_=>rfl,λ_=> .inr ⟨k,⟨k,hk,.refl⟩,.inl h1⟩,λ_ h=>by cases h⟩,(λe=>by rw[hk] at e;cases e),λj e=>?_⟩
    rw[hk] at e
    cases e
    exact⟨by show s.mark k≠0;omega,λh=>by cases h⟩
   by_cases h2:s.mark k=2
   ·rw[oV hk h2]
    exact⟨.rfl' s,(λe=>by rw[hk] at e;cases e),λj e=>by rw[hk] at e;cases e;exact⟨by omega,λ_=>h2⟩⟩
   rw[ou hk h1 h2]
   have h0:s.mark k=0:=by have:=hm k;omega
   have hc1:dA n (newS s k)<f:=by have:=sj (hn w k hk) h0;omega
   have hm1:∀x,(newS s k).mark x<=2:=λx=>by
    simp only[newS,ky];split
    ·omega
    ·exact hm x
   have nk:(newS s k).mark k=1:=by simp[newS,ky]
   have no:∀x,x≠k->(newS s k).mark x=s.mark x:=λx hx=>by simp[newS,ky,hx]
   obtain⟨g1,g2⟩:=oo ih (cs k) (newS s k) hc1 hm1
   generalize cO ix cs f (cs k) (newS s k)=t at g1 g2
   have tk:t.mark k=1:=by rw[g1.old k (by omega),nk]
   have ek:(lf t k).mark k=2:=by simp[lf,ky]
   have eo:∀x,x≠k->(lf t k).mark x=t.mark x:=λx hx=>by simp[lf,ky,hx]
   have e0:∀x,t.mark x≠0->(lf t k).mark x≠0:=λx hx=>by
    by_cases e:x=k
    ·subst e;omega
    ·rw[eo x e];exact hx
   have hR:∀x,(∃w∈cs k,RW ix cs w x)->RW ix cs w x:=λx ⟨v,hv,j,hj,hx⟩=>⟨k,hk,.first hv hj hx⟩
   have hcs:∀v∈cs k,(ix v=none->(lf t k).lost=true)/\∀j,ix v=some j->(lf t k).mark j≠0:=λv hv=>⟨λe=>(g2 v hv).1 e,λj e=>e0 j ((g2 v hv).2 j e).1⟩
   refine⟨⟨λx hx=>?_,λx hx h=>?_,λh=>?_,λh=>g1.lostS h,λh=>g1.roundS h,λh=>?_,λhl hr hg=>?_⟩,(λe=>by rw[hk] at e;cases e),λj e=>by rw[hk] at e;cases e;exact⟨by omega,λ_=>ek⟩⟩
   ·have hxk:x≠k:=λe=>hx (e▸h0)
    rw[eo x hxk,g1.old x (by rw[no x hxk];exact hx),no x hxk]
   ·by_cases hxk:x=k
    ·subst hxk
     exact⟨ek,⟨x,hk,.refl⟩,hcs⟩
    ·rw[eo x hxk] at h⊢
     obtain⟨a,b,c⟩:=g1.new x (by rw[no x hxk];exact hx) h
     exact⟨a,hR x b,λv hv=>⟨λe=>(c v hv).1 e,λj e=>e0 j ((c v hv).2 j e)⟩⟩
   ·rcases g1.lost h with g|⟨v,hv,g⟩
    ·exact .inl g
    ·refine .inr (.inr ⟨k,hk,?_⟩)
     rcases g with g|⟨j,hj,g⟩
     ·exact⟨k,v,.refl,hv,g⟩
     ·exact g.up hv hj
   ·rcases g1.round h with g|⟨y,⟨v,hv,j,hj,hy⟩,g⟩
    ·exact .inl g
    ·refine .inr ⟨y,⟨k,hk,.first hv hj hy⟩,?_⟩
     rcases g with g|g
     ·by_cases e:y=k
      ·subst e
       exact .inr (Ld.lp .refl hv hj hy)
      ·exact .inl (by rw[←no y e];exact g)
     ·exact .inr g
   ·obtain⟨q1,q2,q3⟩:=hg
    have hgn:rj ix cs (newS s k):=by
     refine⟨λx=>?_,q2,q3⟩
     by_cases e:x=k
     ·subst e
      rw[nk]
      have:=q1 x
      rw[h0] at this
      exact⟨λh=>by omega,λh=>by have:=this.2 h;omega⟩
     ·rw[no x e];exact q1 x
    obtain⟨p1,p2,p3⟩:=g1.good hl hr hgn
    have hko:k∉t.out:=λh=>by have:=(p1 k).2 h;omega
    refine⟨λx=>?_,CH p2 λv hv=>?_,?_⟩
    ·show _↔x∈t.out++[k]
     by_cases e:x=k
     ·subst e;simp[ek]
     ·rw[eo x e,p1 x];simp[e]
    ·cases hv2:ix v with
     |none=>have h3:=(g2 v hv).1 hv2;rw[show t.lost=false from hl] at h3;cases h3
     |some y=>exact⟨y,rfl,(p1 y).1 (((g2 v hv).2 y hv2).2 hr)⟩
    ·show(t.out++[k]).Nodup
     rw[List.nodup_append]
     exact⟨p3,by simp,λa ha b hb e=>hko (by rw[List.mem_singleton] at hb;rw[←hb,←e];exact ha)⟩
def oJ(ix:α->Option Nat)(cs:Nat->List α):Nat->Nat->List Nat->List Nat
 |0,_,out=>out
 |f+1,k,out=>if k∈out then out else(cs k).foldl (λout w=>match ix w with|none=>out|some j=>oJ ix cs f j out) out++[k]
def pD(ix:α->Option Nat)(cs:Nat->List α)(f:Nat)(w:α)(out:List Nat):List Nat:=match ix w with|none=>out|some j=>oJ ix cs f j out
def kS(ix:α->Option Nat)(cs:Nat->List α)(f:Nat)(ws:List α)(out:List Nat):List Nat:=ws.foldl (λout w=>pD ix cs f w out) out
theorem ny(f:Nat)(w:α)(ws:List α)(out:List Nat):kS ix cs f (w::ws) out=kS ix cs f ws (pD ix cs f w out):=rfl
theorem AZ(f:Nat)(w:α)(ws:List α)(out:List Nat):kS ix cs f (ws++[w]) out=pD ix cs f w (kS ix cs f ws out):=by
 simp[kS,List.foldl_append]
theorem sn{f k:Nat}{out:List Nat}(h:k∈out):oJ ix cs f k out=out:=by
 cases f with
 |zero=>rfl
 |succ f=>rw[oJ,if_pos h]
theorem lR{f k:Nat}{out:List Nat}(h:k∉out):oJ ix cs (f+1) k out=kS ix cs f (cs k) out++[k]:=by rw[oJ,if_neg h];rfl
theorem LI.back{R:Nat->Prop}{L:Prop}{s t:Lk}(h:LI ix cs R L s t)(hl:t.lost=false)(hr:t.round=false):s.lost=false/\s.round=false:=by
 constructor
 ·cases e:s.lost with
  |false=>rfl
  |true=>rw[h.lostS e] at hl;cases hl
 ·cases e:s.round with
  |false=>rfl
  |true=>rw[h.roundS e] at hr;cases hr
theorem yY{n:Nat}(hn:∀w k,ix w=some k->k<n){f:Nat}(hf:∀w s,dA n s<f->(∀x,s.mark x<=2)->(cr ix cs f w s).lost=false->(cr ix cs f w s).round=false->rj ix cs s->(cr ix cs f w s).out=pD ix cs f w s.out):
 ∀(ws:List α) (s:Lk),dA n s<f->(∀x,s.mark x<=2)->(cO ix cs f ws s).lost=false->(cO ix cs f ws s).round=false->rj ix cs s->(cO ix cs f ws s).out=kS ix cs f ws s.out
 |[],s,_,_,_,_,_=>rfl
 |w::ws,s,hc,hm,hl,hr,hg=>by
  rw[nx] at hl hr⊢
  obtain⟨h1,h2⟩:=oR hn f w s hc hm
  have hc2:dA n (cr ix cs f w s)<f:=Nat.lt_of_le_of_lt (gw λx hx=>by rw[h1.old x hx];exact hx) hc
  obtain⟨g1,g2⟩:=oo (oR hn f) ws (cr ix cs f w s) hc2 (h1.le2 hm)
  obtain⟨hl1,hr1⟩:=g1.back hl hr
  have hg1:=h1.good hl1 hr1 hg
  rw[yY hn hf ws _ hc2 (h1.le2 hm) hl hr hg1,ny,hf w s hc hm hl1 hr1 hg]
theorem GM{n:Nat}(hn:∀w k,ix w=some k->k<n):∀(f:Nat) (w:α) (s:Lk),dA n s<f->(∀x,s.mark x<=2)->(cr ix cs f w s).lost=false->(cr ix cs f w s).round=false->rj ix cs s->(cr ix cs f w s).out=pD ix cs f w s.out:=by
 intro f
 induction f with
 |zero=>intro w s h;omega
 |succ f ih=>
  intro w s hc hm hl hr hg
  cases hk:ix w with
  |none=>rw[mo hk] at hl;cases hl
  |some k=>
   rw[pD,hk]
   simp only
   by_cases h1:s.mark k=1
   ·rw[pc hk h1] at hr;cases hr
   by_cases h2:s.mark k=2
   ·rw[oV hk h2,sn ((hg.1 k).1 h2)]
   rw[ou hk h1 h2] at hl hr⊢
   have h0:s.mark k=0:=by have:=hm k;omega
   have hko:k∉s.out:=λh=>h2 ((hg.1 k).2 h)
   have hc1:dA n (newS s k)<f:=by have:=sj (hn w k hk) h0;omega
   have hm1:∀x,(newS s k).mark x<=2:=λx=>by
    simp only[newS,ky];split
    ·omega
    ·exact hm x
   have hgn:rj ix cs (newS s k):=by
    refine⟨λx=>?_,hg.2.1,hg.2.2⟩
    by_cases e:x=k
    ·subst e
     have:=hg.1 x
     simp only[newS,ky,if_pos]
     exact⟨λh=>by omega,λh=>absurd h hko⟩
    ·simp only[newS,ky,if_neg e];exact hg.1 x
   have:=yY hn ih (cs k) (newS s k) hc1 hm1 hl hr hgn
   rw[lR hko]
   show(cO ix cs f (cs k) (newS s k)).out++[k]=_
   rw[this];rfl
theorem GD{out:List Nat}(h:CR ix cs out){k x:Nat}(hl:Ld ix cs k x){i:Nat}(hi:out[i]?=some k):∃j,j<=i/\out[j]?=some x:=by
 induction hl with
 |refl=>exact⟨i,Nat.le_refl _,hi⟩
 |step _ hw hm ih=>
  obtain⟨j,h1,h2⟩:=ih
  obtain⟨j2,h3,y,h4,h5⟩:=h j _ h2 _ hw
  rw[hm] at h4
  cases h4
  exact⟨j2,by omega,h5⟩
theorem Gd{out:List Nat}(h:CR ix cs out){k x:Nat}(hl:Lp ix cs k x){i:Nat}(hi:out[i]?=some k):∃j,j<i/\out[j]?=some x:=by
 obtain⟨a,w,h1,hw,hm⟩:=hl
 obtain⟨j,h3,h4⟩:=GD h h1 hi
 obtain⟨j2,h5,y,h6,h7⟩:=h j _ h4 _ hw
 rw[hm] at h6
 cases h6
 exact⟨j2,by omega,h7⟩
def lk0:Lk:=⟨λ_=>0,[],false,false⟩
theorem zd:rj ix cs lk0:=⟨λx=>by simp[lk0],λi x h=>by simp[lk0] at h,by simp[lk0]⟩
theorem vW(n:Nat):dA n lk0=n:=by
 simp[dA,lk0]
theorem ES{n:Nat}(hn:∀w k,ix w=some k->k<n)(w:α):((cr ix cs (n+1) w lk0).lost=true↔LW ix cs w)/\
 ((cr ix cs (n+1) w lk0).lost=false->((cr ix cs (n+1) w lk0).round=true↔∃y,RW ix cs w y/\Lp ix cs y y))/\
 ((cr ix cs (n+1) w lk0).lost=false->(cr ix cs (n+1) w lk0).round=false->(cr ix cs (n+1) w lk0).out=pD ix cs (n+1) w []/\(cr ix cs (n+1) w lk0).out.Nodup/\CR ix cs (cr ix cs (n+1) w lk0).out/\∀x∈(cr ix cs (n+1) w lk0).out,x<n):=by
 have hc:dA n lk0<n+1:=by rw[vW];omega
 have hm:∀x,lk0.mark x<=2:=λx=>Nat.zero_le _
 obtain⟨h1,h2⟩:=oR (cs:=cs) hn (n+1) w lk0 hc hm
 have h3:=GM (cs:=cs) hn (n+1) w lk0 hc hm
 generalize cr ix cs (n+1) w lk0=t at h1 h2 h3
 have hcl:∀x,RW ix cs w x->t.mark x≠0:=λx h=>by
  obtain⟨k,hk,hx⟩:=h
  induction hx with
  |refl=>exact(h2.2 k hk).1
  | @step j m v _ hv hm ih=>exact((h1.new j rfl ih).2.2 v hv).2 m hm
 have hgd:=λhl hr=>h1.good hl hr zd
 refine⟨⟨λh=>(h1.lost h).resolve_left (by simp[lk0]),λh=>?_⟩,λhl=>⟨λh=>?_,λ⟨y,hy,hp⟩=>?_⟩,λhl hr=>⟨h3 hl hr zd,(hgd hl hr).2.2,(hgd hl hr).2.1,λx hx=>?_⟩⟩
 ·rcases h with h|⟨k,hk,j,v,hj,hv,hm⟩
  ·exact h2.1 h
  ·exact((h1.new j rfl (hcl j ⟨k,hk,hj⟩)).2.2 v hv).1 hm
 ·rcases h1.round h with g|⟨y,g1,g2⟩
  ·simp[lk0] at g
  ·exact⟨y,g1,g2.resolve_left (by simp[lk0])⟩
 ·cases hr:t.round with
  |true=>rfl
  |false=>
   obtain⟨p1,p2,p3⟩:=hgd hl hr
   have hm:=(h1.new y rfl (hcl y hy)).1
   obtain⟨i,h4,h5⟩:=List.getElem_of_mem ((p1 y).1 hm)
   have h6:t.out[i]?=some y:=by rw[List.getElem?_eq_getElem h4,h5]
   obtain⟨j,h7,h8⟩:=Gd p2 hp h6
   obtain⟨h9,h10⟩:=List.getElem?_eq_some_iff.1 h8
   have:=(List.getElem_inj (h₀:=h9) (h₁:=h4) p3).1 (by rw[h10,h5])
   omega
 ·have hm:=((hgd hl hr).1 x).2 hx
  obtain⟨_,⟨k,hk,hx⟩,_⟩:=h1.new x rfl (by omega)
  cases hx with
  |refl=>exact hn w _ hk
  |step _ _ hm=>exact hn _ _ hm
end
end
section
section
variable {α:Type} {ix:α->Option Nat} {cs:Nat->List α}
def onB(S:List Bool)(x:Nat):Prop:=S[x]?=some true
theorem so{S:List Bool}{k x:Nat}(hk:k<S.length):onB (S.set k true) x↔x=k\/onB S x:=by
 unfold onB
 rw[List.getElem?_set]
 by_cases e:k=x
 ·subst e;simp[hk]
 ·have:¬x=k:=λh=>e h.symm
  simp[e,this]
theorem lE{n x:Nat}:¬onB (List.replicate n false) x:=by
 unfold onB
 intro h
 rw[List.getElem?_replicate] at h
 split at h<;>cases h
def ux(S:List Bool):Nat:=(List.range S.length).countP λx=> !decide (S[x]?=some true)
theorem BC{S:List Bool}:ux S<=S.length:=by
 have:=List.countP_le_length (p:=λx=> !decide (S[x]?=some true)) (l:=List.range S.length)
 rwa[List.length_range] at this
theorem CM{S T:List Bool}(hl:T.length=S.length)(h:∀x,onB S x->onB T x):ux T<=ux S:=by
 unfold ux
 rw[hl]
 refine List.countP_mono_left λx _ hx=>?_
 simp only[Bool.not_eq_true',decide_eq_false_iff_not] at hx⊢
 exact λh2=>hx (h x h2)
theorem yM{S:List Bool}{k:Nat}(hk:k<S.length)(h:¬onB S k):ux (S.set k true)<ux S:=by
 unfold ux
 rw[List.length_set]
 refine pT (k:=k) (List.mem_range.2 hk) (λx _ hx=>?_) ?_ ?_
 ·simp only[Bool.not_eq_true',decide_eq_false_iff_not] at hx⊢
  exact λh2=>hx ((so hk).2 (.inr h2))
 ·have:=(so (x:=k) hk).2 (.inl rfl)
  simp only[Bool.not_eq_false',decide_eq_true_iff]
  exact this
 ·simp only[Bool.not_eq_true',decide_eq_false_iff_not]
  exact h
theorem Hy{S:List Bool}{k:Nat}(hk:k<S.length):(onB S k/\S[k]?=some true)\/(¬onB S k/\S[k]?=some false):=by
 unfold onB
 rw[List.getElem?_eq_getElem hk]
 cases S[k]<;>simp
structure NdI (ix:α->Option Nat) (cs:Nat->List α) (R:Nat->Prop) (S T:List Bool):Prop where
 len:T.length=S.length
 sub:∀x,onB S x->onB T x
 new:∀x,onB T x->¬onB S x->R x/\∀v∈cs x,∃j,ix v=some j/\onB T j
theorem NdI.rfl'{R:Nat->Prop}(S:List Bool):NdI ix cs R S S:=⟨rfl,λ_ h=>h,λ_ h1 h2=>absurd h1 h2⟩
theorem NdI.trans{R:Nat->Prop}{S T U:List Bool}(h1:NdI ix cs R S T)(h2:NdI ix cs R T U):NdI ix cs R S U:=by
 refine⟨h2.len.trans h1.len,λx h=>h2.sub x (h1.sub x h),λx hu hs=>?_⟩
 by_cases ht:onB T x
 ·obtain⟨a,b⟩:=h1.new x ht hs
  exact⟨a,λv hv=>(b v hv).imp λj hj=>⟨hj.1,h2.sub j hj.2⟩⟩
 ·exact h2.new x hu ht
theorem NdI.mono{R R':Nat->Prop}{S T:List Bool}(h:NdI ix cs R S T)(hR:∀x,R x->R' x):NdI ix cs R' S T:=
 ⟨h.len,h.sub,λx h1 h2=>⟨hR x (h.new x h1 h2).1,(h.new x h1 h2).2⟩⟩
theorem NdI.close{S T:List Bool}{k:Nat}(hk:k<S.length)(h:NdI ix cs (Ld ix cs k) (S.set k true) T)(ht:∀v∈cs k,∃j,ix v=some j/\onB T j):NdI ix cs (Ld ix cs k) S T/\onB T k:=by
 have hon:=λx=>so (S:=S) (k:=k) (x:=x) hk
 refine⟨⟨by rw[h.len,List.length_set],λx hx=>h.sub x ((hon x).2 (.inr hx)),λx hx hs=>?_⟩,h.sub k ((hon k).2 (.inl rfl))⟩
 by_cases e:x=k
 ·subst e;exact⟨.refl,ht⟩
 ·exact h.new x hx λh2=>((hon x).1 h2).elim e hs
theorem NdI.done{n k:Nat}{T:List Bool}(h:NdI ix cs (Ld ix cs k) (List.replicate n false) T)(hk:onB T k):(∀x,onB T x↔Ld ix cs k x)/\¬Ls ix cs k:=by
 have hcl:∀x,Ld ix cs k x->onB T x:=λx hx=>by
  induction hx with
  |refl=>exact hk
  | @step j m w _ hw hm ih=>
    obtain⟨i,h1,h2⟩:=(h.new j ih lE).2 w hw
    rw[hm] at h1;cases h1;exact h2
 refine⟨λx=>⟨λhx=>(h.new x hx lE).1,hcl x⟩,λ⟨j,w,hj,hw,hm⟩=>?_⟩
 obtain⟨i,h1,_⟩:=(h.new j (hcl j hj) lE).2 w hw
 rw[hm] at h1;cases h1
structure RdI (ix:α->Option Nat) (cs:Nat->List α) (k:Nat) (S:List Bool) (W:List α):Prop where
 inS:∀x,onB S x->Lp ix cs k x
 inW:∀v∈W,∃j,Ld ix cs k j/\v∈cs j
 all:∀x,x=k\/onB S x->∀v∈cs x,v∈W\/∀j,ix v=some j->onB S j/\j≠k
theorem RdI.start(n k:Nat):RdI ix cs k (List.replicate n false) (cs k):=
 ⟨λx h=>absurd h lE,λv hv=>⟨k,.refl,hv⟩,λx h v hv=>by
   rcases h with e|h
   ·subst e;exact .inl hv
   ·exact absurd h lE⟩
theorem RdI.found{k:Nat}{S:List Bool}{W:List α}{v:α}(h:RdI ix cs k S (v::W))(hv:ix v=some k):Lp ix cs k k:=by
 obtain⟨j,h1,h2⟩:=h.inW v (by simp)
 exact⟨j,v,h1,h2,hv⟩
theorem RdI.skip{k:Nat}{S:List Bool}{W:List α}{v:α}(h:RdI ix cs k S (v::W))(hv:∀j,ix v=some j->onB S j/\j≠k):RdI ix cs k S W:=by
 refine⟨h.inS,λu hu=>h.inW u (by simp[hu]),λx hx u hu=>?_⟩
 rcases h.all x hx u hu with g|g
 ·rcases List.mem_cons.1 g with e|g
  ·subst e;exact .inr hv
  ·exact .inl g
 ·exact .inr g
theorem RdI.step{k:Nat}{S:List Bool}{W:List α}{v:α}{i:Nat}(h:RdI ix cs k S (v::W))(hv:ix v=some i)(hi:i<S.length)(hk:i≠k):RdI ix cs k (S.set i true) (W++cs i):=by
 have hon:=λx=>so (S:=S) (k:=i) (x:=x) hi
 obtain⟨j,h1,h2⟩:=h.inW v (by simp)
 have hlp:Lp ix cs k i:=⟨j,v,h1,h2,hv⟩
 have hld:Ld ix cs k i:= .step h1 h2 hv
 refine⟨λx hx=>?_,λu hu=>?_,λx hx u hu=>?_⟩
 ·rcases(hon x).1 hx with e|hx
  ·subst e;exact hlp
  ·exact h.inS x hx
 ·rcases List.mem_append.1 hu with hu|hu
  ·exact h.inW u (by simp[hu])
  ·exact⟨i,hld,hu⟩
 ·have key:x=i\/(x=k\/onB S x):=by
   rcases hx with e|hx
   ·exact .inr (.inl e)
   ·rcases(hon x).1 hx with e|hx
    ·exact .inl e
    ·exact .inr (.inr hx)
  rcases key with e|hx
  ·subst e;exact .inl (by simp[hu])
  ·rcases h.all x hx u hu with g|g
   ·rcases List.mem_cons.1 g with e|g
    ·subst e
     refine .inr λj hj=>?_
     rw[hv] at hj
     cases hj
     exact⟨(hon i).2 (.inl rfl),hk⟩
    ·exact .inl (by simp[g])
   ·exact .inr λj hj=>⟨(hon j).2 (.inr (g j hj).1),(g j hj).2⟩
theorem RdI.done{k:Nat}{S:List Bool}(h:RdI ix cs k S []):¬Lp ix cs k k:=by
 have hcl:∀x,Ld ix cs k x->x=k\/onB S x:=λx hx=>by
  induction hx with
  |refl=>exact .inl rfl
  | @step j m w _ hw hm ih=>
    rcases h.all j ih w hw with g|g
    ·cases g
    ·exact .inr (g m hm).1
 rintro⟨j,w,hj,hw,hm⟩
 rcases h.all j (hcl j hj) w hw with g|g
 ·cases g
 ·exact(g k hm).2 rfl
end
end
end Go.Proofs.YtbnajafpkeficaaGreatDoor
