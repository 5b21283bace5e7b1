/-
  Contracts and lemmas that the card needs, part 6.
-/
import Derived.Test.YthfklclcofcpiaaGreatDoorCq5
namespace Go.Proofs.YthfklclcofcpiaaGreatDoor
open Go Go.Aw
set_option maxRecDepth 100000
set_option maxHeartbeats 4000000
section
theorem yI:AK.whole bD=FK.ak bC:=rfl
variable (G:aq)
theorem sP(e:Ex)(h:e.op=1):VF Tryz.prog G dD [.agg (e.cs.map .p),.nils,.nils] (.tup [.p (.int .i64 e.n),.p (.int .i64 0)]):=by
 have hc:=e.cs_eq
 refine AC.go oe ?_
 simp-implicitDefEqProofs[kG,hc,h]
theorem Fi(e a b:Ex)(hk:e.kids=[a,b])(ha:a.op=1)(hb:b.op=1)(h3:3<=e.op)(h10:e.op<=10)(va:V5 a.n)(vb:V5 b.n):VF Tryz.prog G dD [.agg (e.cs.map .p),.nils,.nils] (nS (ar5 e.op a.n b.n)):=by
 have hc:=e.cs_eq
 refine AC.go oe ?_
 have hxl:∀l,exL l= .lst 4 (l.map Ex.cs):=λ_=>rfl
 have o1:¬e.op=1:=by omega
 have o2:¬e.op=2:=by omega
 have o11:¬e.op=11:=by omega
 simp-implicitDefEqProofs[kG,hc,o1,o2,hxl,hk]
 refine(sP G a ha).use ?_
 simp-implicitDefEqProofs[o11]
 by_cases o10:e.op=10
 ·by_cases a0:a.n=0
  ·simp-implicitDefEqProofs[o10,a0,ar5,nS,tr5]
  ·simp-implicitDefEqProofs[o10,a0]
   refine(sP G b hb).use ?_
   simp-implicitDefEqProofs[o10]
   refine(ny G _).use ?_
   simp-implicitDefEqProofs[ar5,nS,a0]
 ·simp-implicitDefEqProofs[o10]
  refine(sP G b hb).use ?_
  simp-implicitDefEqProofs[o10]
  have H:=JL G e.op a.n b.n h3 (by omega) va vb
  rw[ar5,if_neg o10]
  cases hq:FD e.op a.n b.n with
  |none=>
   rw[hq] at H
   simp only[nS] at H
   refine H.use ?_
   simp-implicitDefEqProofs[nS]
  |some q=>
   rw[hq] at H
   simp only[nS] at H
   refine H.use ?_
   simp-implicitDefEqProofs[nS]
theorem IV{d:Nat}{e:Ex}(hf:aR d e=true)(hz:e.sz<=1099511627776):VF Tryz.prog G gN [.agg (e.cs.map .p)] (.agg ((kJ e.op e.n e.name e.kids).cs.map .p)):=by
 have hc:=e.cs_eq
 have hxl:∀l,exL l= .lst 4 (l.map Ex.cs):=λ_=>rfl
 have hem:e= .mk e.op e.n e.name e.kids:=by cases e;rfl
 have hzz:=e.sz_eq
 obtain⟨d,rfl⟩:=zs hf
 have hkf:∀a∈e.kids,aR d a=true:=λa ha=>iQ hf ha
 have hks:∀a∈e.kids,a.sz<=1099511627776:=λa ha=>by have:=aF ha;omega
 have hnc:∀q,(rZ q).cs=[.int .i64 1,.int .i64 q,.str [],.lst 4 []]:=λq=>rfl
 refine AC.goK yd yI ?_
 by_cases o11:e.op=11
 ·obtain⟨l1,l2,_⟩:=gn hf
  rw[o11] at l1 l2
  have e1:loK 11=1:=rfl
  have e2:hiK 11=1:=rfl
  rw[e1] at l1
  rw[e2] at l2
  obtain⟨a,hk⟩:∃a,e.kids=[a]:=by
   match hx:e.kids,l1,l2 with
   |[x],_,_=>exact⟨x,rfl⟩
  have hac:=a.cs_eq
  have hp:kJ e.op e.n e.name e.kids=pC e.op e.n e.name a:=by
   unfold kJ
   rw[if_neg (by omega),hk]
  rw[hp]
  by_cases a1:a.op=1
  ·rw[pC,if_pos a1]
   simp-implicitDefEqProofs[bD,bC,hc,o11,hk,hxl,hac,a1]
   refine(ny G _).use ?_
   simp-implicitDefEqProofs[]
   refine(lP G _).use ?_
   simp-implicitDefEqProofs[hnc]
  ·have same:(∀c,a.kids=[c]->¬(e.op=11/\a.op=11/\c.op=11))->pC e.op e.n e.name a=e:=by
    intro h
    have h0:Ex.mk e.op e.n e.name [a]=e:=by rw[←hk];exact hem.symm
    unfold pC
    rw[if_neg a1]
    split
    ·rename_i c hc'
     split
     ·rename_i h3
      exact(h c hc' ⟨o11,h3⟩).elim
     ·exact h0
    ·exact h0
   by_cases a11:a.op=11
   ·have haf:=hkf a (by rw[hk];simp)
    obtain⟨l1,l2,_⟩:=gn haf
    rw[a11,e1] at l1
    rw[a11,e2] at l2
    obtain⟨c,hkc⟩:∃c,a.kids=[c]:=by
     match hx:a.kids,l1,l2 with
     |[x],_,_=>exact⟨x,rfl⟩
    have hcc:=c.cs_eq
    by_cases c11:c.op=11
    ·have hq:pC e.op e.n e.name a=c:=by
      unfold pC
      rw[if_neg a1,hkc]
      exact if_pos ⟨a11,c11⟩
     rw[hq]
     simp-implicitDefEqProofs[bD,bC,hc,o11,hk,hxl,hac,a11,hkc,hcc,c11]
    ·rw[same (λx hx h=>by rw[hkc] at hx;cases hx;exact c11 h.2.2)]
     simp-implicitDefEqProofs[bD,bC,hc,o11,hk,hxl,hac,a11,hkc,hcc,c11]
   ·rw[same (λx hx h=>a11 h.2.1)]
    simp-implicitDefEqProofs[bD,bC,hc,o11,hk,hxl,hac,a1,a11]
 by_cases hr:3<=e.op/\e.op<=10
 case neg=>
  have hp:kJ e.op e.n e.name e.kids=e:=by
   obtain⟨_,_,l3,l4⟩:=gn hf
   unfold kJ
   split
   ·exact hem.symm
   ·rename_i hn
    split
    ·rename_i a hk
     exact(o11 (Ju hf hk hn)).elim
    ·rename_i a b hk
     exact(hr (Hi hf hk hn)).elim
    ·exact hem.symm
  have hin:inR e.op 3 10=false:=by
   simp only[inR,Bool.and_eq_false_iff,decide_eq_false_iff_not];omega
  rw[hp]
  by_cases hl:e.kids.length=1
  ·simp-implicitDefEqProofs[bD,bC,hc,o11,hxl,hl]
   refine(ng G _ _ _).use ?_
   simp-implicitDefEqProofs[hin]
  ·have hl':¬(e.kids.length:Int)=1:=by omega
   simp-implicitDefEqProofs[bD,bC,hc,o11,hxl,hl']
   refine(ng G _ _ _).use ?_
   simp-implicitDefEqProofs[hin]
 obtain⟨h3,h10⟩:=hr
 obtain⟨a,b,hk⟩:∃a b,e.kids=[a,b]:=by
  obtain⟨l1,l2,_⟩:=gn hf
  have e1:loK e.op=2:=by rw[loK,if_neg (by omega),if_neg (by omega),if_neg (by omega)]
  have e2:hiK e.op=2:=by rw[hiK,if_neg (by omega),if_neg (by omega),if_neg (by omega)]
  rw[e1] at l1
  rw[e2] at l2
  match hx:e.kids,l1,l2 with
  |[a,b],_,_=>exact⟨a,b,rfl⟩
 have hac:=a.cs_eq
 have hbc:=b.cs_eq
 have haf:=hkf a (by rw[hk];simp)
 have hbf:=hkf b (by rw[hk];simp)
 have hp:kJ e.op e.n e.name e.kids=tC e.op e.n e.name a b:=by
  unfold kJ
  rw[if_neg (by omega),hk]
 have hin:inR e.op 3 10=true:=by
  simp only[inR,Qs,decide_eq_true_eq];omega
 rw[hp]
 simp-implicitDefEqProofs[bD,bC,hc,o11,hk,hxl]
 refine(ng G _ _ _).use ?_
 simp-implicitDefEqProofs[hin,hac,hbc]
 have HA0:=uK G a 0
 have HA1:=uK G a 1
 have HB0:=uK G b 0
 have HB1:=uK G b 1
 have HSA:=CG G d a haf (hks a (by rw[hk];simp))
 have HSB:=CG G d b hbf (hks b (by rw[hk];simp))
 rw[hac] at HA0 HA1 HSA
 rw[hbc] at HB0 HB1 HSB
 simp only[QI,List.map_nil] at HA0 HA1 HB0 HB1 HSA HSB
 refine sO (λ_:Unit=>ag 148 [(1,.ptr 0 4 0 0),(2,.ptr 1 4 0 0),(4,.ptr 2 4 0 0),(5,.ptr 3 4 0 0)])
  (λ_=>[.row 4 [[.p (.int .i64 e.op),.p (.int .i64 e.n),.p (.str e.name),.p (.lst 4 [a.cs,b.cs])]],.row 4 [[.p (.int .i64 0),.p (.int .i64 0),.p (.str []),.nils]],.row 4 [[.p (.int .i64 a.op),.p (.int .i64 a.n),.p (.str a.name),.p (exL a.kids)]],.row 4 [[.p (.int .i64 b.op),.p (.int .i64 b.n),.p (.str b.name),.p (exL b.kids)]]])
  (λ_=>(if a.op=1/\b.op=1 then ar5 e.op a.n b.n else none)=none) ?_ ?_
 ·
  by_cases a1:a.op=1
  ·by_cases b1:b.op=1
   ·have H:=Fi G e a b hk a1 b1 h3 h10 (zT (lM haf)) (zT (lM hbf))
    rw[hc,hxl,hk] at H
    simp only[QI,List.map_nil,hac,hbc,a1,b1] at H
    have hp2:∀q,ar5 e.op a.n b.n=some q->tC e.op e.n e.name a b=rZ q:=by
     intro q hq
     unfold tC
     rw[if_pos ⟨a1,b1⟩,hq]
    cases hq:ar5 e.op a.n b.n with
    |none=>
     rw[hq] at H
     simp only[nS] at H
     simp-implicitDefEqProofs[a1,b1,hac,hbc]
     refine H.use ?_
     simp-implicitDefEqProofs[hq]
     exact ab (by simp) (by simp[okO,below]) (by simp[below])
    |some q=>
     rw[hq] at H
     simp only[nS] at H
     rw[hp2 q hq]
     simp-implicitDefEqProofs[a1,b1,hac,hbc]
     refine H.use ?_
     simp-implicitDefEqProofs[]
     refine(lP G _).use ?_
     simp-implicitDefEqProofs[hnc]
   ·simp-implicitDefEqProofs[a1,b1,hac,hbc]
    exact ab (by simp) (by simp[okO,below]) (by simp[below])
  ·simp-implicitDefEqProofs[a1,hac,hbc]
   exact ab (by simp) (by simp[okO,below]) (by simp[below])
 intro _ hn
 have hp2:tC e.op e.n e.name a b=if e.op=10/\isN a 0=true then rZ 0 else if(e.op=3\/e.op=4)/\isN b 0=true\/(e.op=5\/e.op=6)/\isN b 1=true then a else if e.op=3/\isN a 0=true\/e.op=5/\isN a 1=true then b
  else if e.op=5/\(isN b 0=true/\fF a=true\/isN a 0=true/\fF b=true) then rZ 0 else e:=by
  unfold tC
  rw[hn]
  simp only
  rw[←hk,←hem]
 rw[hp2]
 simp only[hac,hbc]
 have ho:e.op=3\/e.op=4\/e.op=5\/e.op=6\/e.op=7\/e.op=8\/e.op=9\/e.op=10:=by omega
 rcases ho with ho|ho|ho|ho|ho|ho|ho|ho
 ·simp-implicitDefEqProofs[ho]
  refine HB0.use ?_
  by_cases hhb0:isN b 0=true
  ·simp-implicitDefEqProofs[hhb0,ho,hc,hxl,hk,hac,hbc]
  ·simp-implicitDefEqProofs[hhb0,ho,hc,hxl,hk,hac,hbc]
   refine HB1.use ?_
   by_cases hhb1:isN b 1=true
   ·simp-implicitDefEqProofs[hhb1,ho,hc,hxl,hk,hac,hbc]
    refine HA0.use ?_
    by_cases hha0:isN a 0=true
    ·simp-implicitDefEqProofs[hha0,ho,hc,hxl,hk,hac,hbc]
    ·simp-implicitDefEqProofs[hha0,ho,hc,hxl,hk,hac,hbc]
     refine HA1.use ?_
     by_cases hha1:isN a 1=true
     ·simp-implicitDefEqProofs[hha1,ho,hc,hxl,hk,hac,hbc]
     ·simp-implicitDefEqProofs[hha1,ho,hc,hxl,hk,hac,hbc]
   ·simp-implicitDefEqProofs[hhb1,ho,hc,hxl,hk,hac,hbc]
    refine HA0.use ?_
    by_cases hha0:isN a 0=true
    ·simp-implicitDefEqProofs[hha0,ho,hc,hxl,hk,hac,hbc]
    ·simp-implicitDefEqProofs[hha0,ho,hc,hxl,hk,hac,hbc]
     refine HA1.use ?_
     by_cases hha1:isN a 1=true
     ·simp-implicitDefEqProofs[hha1,ho,hc,hxl,hk,hac,hbc]
     ·simp-implicitDefEqProofs[hha1,ho,hc,hxl,hk,hac,hbc]
 ·simp-implicitDefEqProofs[ho]
  refine HB0.use ?_
  by_cases hhb0:isN b 0=true
  ·simp-implicitDefEqProofs[hhb0,ho,hc,hxl,hk,hac,hbc]
  ·simp-implicitDefEqProofs[hhb0,ho,hc,hxl,hk,hac,hbc]
   refine HB1.use ?_
   by_cases hhb1:isN b 1=true
   ·simp-implicitDefEqProofs[hhb1,ho,hc,hxl,hk,hac,hbc]
    refine HA0.use ?_
    by_cases hha0:isN a 0=true
    ·simp-implicitDefEqProofs[hha0,ho,hc,hxl,hk,hac,hbc]
     refine HA1.use ?_
     by_cases hha1:isN a 1=true
     ·simp-implicitDefEqProofs[hha1,ho,hc,hxl,hk,hac,hbc]
     ·simp-implicitDefEqProofs[hha1,ho,hc,hxl,hk,hac,hbc]
    ·simp-implicitDefEqProofs[hha0,ho,hc,hxl,hk,hac,hbc]
     refine HA1.use ?_
     by_cases hha1:isN a 1=true
     ·simp-implicitDefEqProofs[hha1,ho,hc,hxl,hk,hac,hbc]
     ·simp-implicitDefEqProofs[hha1,ho,hc,hxl,hk,hac,hbc]
   ·simp-implicitDefEqProofs[hhb1,ho,hc,hxl,hk,hac,hbc]
    refine HA0.use ?_
    by_cases hha0:isN a 0=true
    ·simp-implicitDefEqProofs[hha0,ho,hc,hxl,hk,hac,hbc]
     refine HA1.use ?_
     by_cases hha1:isN a 1=true
     ·simp-implicitDefEqProofs[hha1,ho,hc,hxl,hk,hac,hbc]
     ·simp-implicitDefEqProofs[hha1,ho,hc,hxl,hk,hac,hbc]
    ·simp-implicitDefEqProofs[hha0,ho,hc,hxl,hk,hac,hbc]
     refine HA1.use ?_
     by_cases hha1:isN a 1=true
     ·simp-implicitDefEqProofs[hha1,ho,hc,hxl,hk,hac,hbc]
     ·simp-implicitDefEqProofs[hha1,ho,hc,hxl,hk,hac,hbc]
 ·simp-implicitDefEqProofs[ho]
  refine HB0.use ?_
  by_cases hhb0:isN b 0=true
  ·simp-implicitDefEqProofs[hhb0,ho,hc,hxl,hk,hac,hbc]
   refine HB1.use ?_
   by_cases hhb1:isN b 1=true
   ·simp-implicitDefEqProofs[hhb1,ho,hc,hxl,hk,hac,hbc]
   ·simp-implicitDefEqProofs[hhb1,ho,hc,hxl,hk,hac,hbc]
    refine HA0.use ?_
    by_cases hha0:isN a 0=true
    ·simp-implicitDefEqProofs[hha0,ho,hc,hxl,hk,hac,hbc]
     refine HA1.use ?_
     by_cases hha1:isN a 1=true
     ·simp-implicitDefEqProofs[hha1,ho,hc,hxl,hk,hac,hbc]
     ·simp-implicitDefEqProofs[hha1,ho,hc,hxl,hk,hac,hbc]
      refine HB0.use ?_
      simp-implicitDefEqProofs[hhb0]
      refine HSA.use ?_
      by_cases hhsa:fF a=true
      ·simp-implicitDefEqProofs[hhsa,ho,hc,hxl,hk,hac,hbc]
       refine(lP G _).use ?_
       simp-implicitDefEqProofs[hnc]
      ·simp-implicitDefEqProofs[hhsa,ho,hc,hxl,hk,hac,hbc]
       refine HA0.use ?_
       simp-implicitDefEqProofs[hha0]
       refine HSB.use ?_
       by_cases hhsb:fF b=true
       ·simp-implicitDefEqProofs[hhsb,ho,hc,hxl,hk,hac,hbc]
        refine(lP G _).use ?_
        simp-implicitDefEqProofs[hnc]
       ·simp-implicitDefEqProofs[hhsb,ho,hc,hxl,hk,hac,hbc]
    ·simp-implicitDefEqProofs[hha0,ho,hc,hxl,hk,hac,hbc]
     refine HA1.use ?_
     by_cases hha1:isN a 1=true
     ·simp-implicitDefEqProofs[hha1,ho,hc,hxl,hk,hac,hbc]
     ·simp-implicitDefEqProofs[hha1,ho,hc,hxl,hk,hac,hbc]
      refine HB0.use ?_
      simp-implicitDefEqProofs[hhb0]
      refine HSA.use ?_
      by_cases hhsa:fF a=true
      ·simp-implicitDefEqProofs[hhsa,ho,hc,hxl,hk,hac,hbc]
       refine(lP G _).use ?_
       simp-implicitDefEqProofs[hnc]
      ·simp-implicitDefEqProofs[hhsa,ho,hc,hxl,hk,hac,hbc]
       refine HA0.use ?_
       simp-implicitDefEqProofs[hha0]
  ·simp-implicitDefEqProofs[hhb0,ho,hc,hxl,hk,hac,hbc]
   refine HB1.use ?_
   by_cases hhb1:isN b 1=true
   ·simp-implicitDefEqProofs[hhb1,ho,hc,hxl,hk,hac,hbc]
   ·simp-implicitDefEqProofs[hhb1,ho,hc,hxl,hk,hac,hbc]
    refine HA0.use ?_
    by_cases hha0:isN a 0=true
    ·simp-implicitDefEqProofs[hha0,ho,hc,hxl,hk,hac,hbc]
     refine HA1.use ?_
     by_cases hha1:isN a 1=true
     ·simp-implicitDefEqProofs[hha1,ho,hc,hxl,hk,hac,hbc]
     ·simp-implicitDefEqProofs[hha1,ho,hc,hxl,hk,hac,hbc]
      refine HB0.use ?_
      simp-implicitDefEqProofs[hhb0]
      refine HA0.use ?_
      simp-implicitDefEqProofs[hha0]
      refine HSB.use ?_
      by_cases hhsb:fF b=true
      ·simp-implicitDefEqProofs[hhsb,ho,hc,hxl,hk,hac,hbc]
       refine(lP G _).use ?_
       simp-implicitDefEqProofs[hnc]
      ·simp-implicitDefEqProofs[hhsb,ho,hc,hxl,hk,hac,hbc]
    ·simp-implicitDefEqProofs[hha0,ho,hc,hxl,hk,hac,hbc]
     refine HA1.use ?_
     by_cases hha1:isN a 1=true
     ·simp-implicitDefEqProofs[hha1,ho,hc,hxl,hk,hac,hbc]
     ·simp-implicitDefEqProofs[hha1,ho,hc,hxl,hk,hac,hbc]
      refine HB0.use ?_
      simp-implicitDefEqProofs[hhb0]
      refine HA0.use ?_
      simp-implicitDefEqProofs[hha0]
 ·simp-implicitDefEqProofs[ho]
  refine HB0.use ?_
  by_cases hhb0:isN b 0=true
  ·simp-implicitDefEqProofs[hhb0,ho,hc,hxl,hk,hac,hbc]
   refine HB1.use ?_
   by_cases hhb1:isN b 1=true
   ·simp-implicitDefEqProofs[hhb1,ho,hc,hxl,hk,hac,hbc]
   ·simp-implicitDefEqProofs[hhb1,ho,hc,hxl,hk,hac,hbc]
    refine HA0.use ?_
    by_cases hha0:isN a 0=true
    ·simp-implicitDefEqProofs[hha0,ho,hc,hxl,hk,hac,hbc]
     refine HA1.use ?_
     by_cases hha1:isN a 1=true
     ·simp-implicitDefEqProofs[hha1,ho,hc,hxl,hk,hac,hbc]
     ·simp-implicitDefEqProofs[hha1,ho,hc,hxl,hk,hac,hbc]
    ·simp-implicitDefEqProofs[hha0,ho,hc,hxl,hk,hac,hbc]
     refine HA1.use ?_
     by_cases hha1:isN a 1=true
     ·simp-implicitDefEqProofs[hha1,ho,hc,hxl,hk,hac,hbc]
     ·simp-implicitDefEqProofs[hha1,ho,hc,hxl,hk,hac,hbc]
  ·simp-implicitDefEqProofs[hhb0,ho,hc,hxl,hk,hac,hbc]
   refine HB1.use ?_
   by_cases hhb1:isN b 1=true
   ·simp-implicitDefEqProofs[hhb1,ho,hc,hxl,hk,hac,hbc]
   ·simp-implicitDefEqProofs[hhb1,ho,hc,hxl,hk,hac,hbc]
    refine HA0.use ?_
    by_cases hha0:isN a 0=true
    ·simp-implicitDefEqProofs[hha0,ho,hc,hxl,hk,hac,hbc]
     refine HA1.use ?_
     by_cases hha1:isN a 1=true
     ·simp-implicitDefEqProofs[hha1,ho,hc,hxl,hk,hac,hbc]
     ·simp-implicitDefEqProofs[hha1,ho,hc,hxl,hk,hac,hbc]
    ·simp-implicitDefEqProofs[hha0,ho,hc,hxl,hk,hac,hbc]
     refine HA1.use ?_
     by_cases hha1:isN a 1=true
     ·simp-implicitDefEqProofs[hha1,ho,hc,hxl,hk,hac,hbc]
     ·simp-implicitDefEqProofs[hha1,ho,hc,hxl,hk,hac,hbc]
 ·simp-implicitDefEqProofs[ho]
  refine HB0.use ?_
  by_cases hhb0:isN b 0=true
  ·simp-implicitDefEqProofs[hhb0,ho,hc,hxl,hk,hac,hbc]
   refine HB1.use ?_
   by_cases hhb1:isN b 1=true
   ·simp-implicitDefEqProofs[hhb1,ho,hc,hxl,hk,hac,hbc]
    refine HA0.use ?_
    by_cases hha0:isN a 0=true
    ·simp-implicitDefEqProofs[hha0,ho,hc,hxl,hk,hac,hbc]
     refine HA1.use ?_
     by_cases hha1:isN a 1=true
     ·simp-implicitDefEqProofs[hha1,ho,hc,hxl,hk,hac,hbc]
     ·simp-implicitDefEqProofs[hha1,ho,hc,hxl,hk,hac,hbc]
    ·simp-implicitDefEqProofs[hha0,ho,hc,hxl,hk,hac,hbc]
     refine HA1.use ?_
     by_cases hha1:isN a 1=true
     ·simp-implicitDefEqProofs[hha1,ho,hc,hxl,hk,hac,hbc]
     ·simp-implicitDefEqProofs[hha1,ho,hc,hxl,hk,hac,hbc]
   ·simp-implicitDefEqProofs[hhb1,ho,hc,hxl,hk,hac,hbc]
    refine HA0.use ?_
    by_cases hha0:isN a 0=true
    ·simp-implicitDefEqProofs[hha0,ho,hc,hxl,hk,hac,hbc]
     refine HA1.use ?_
     by_cases hha1:isN a 1=true
     ·simp-implicitDefEqProofs[hha1,ho,hc,hxl,hk,hac,hbc]
     ·simp-implicitDefEqProofs[hha1,ho,hc,hxl,hk,hac,hbc]
    ·simp-implicitDefEqProofs[hha0,ho,hc,hxl,hk,hac,hbc]
     refine HA1.use ?_
     by_cases hha1:isN a 1=true
     ·simp-implicitDefEqProofs[hha1,ho,hc,hxl,hk,hac,hbc]
     ·simp-implicitDefEqProofs[hha1,ho,hc,hxl,hk,hac,hbc]
  ·simp-implicitDefEqProofs[hhb0,ho,hc,hxl,hk,hac,hbc]
   refine HB1.use ?_
   by_cases hhb1:isN b 1=true
   ·simp-implicitDefEqProofs[hhb1,ho,hc,hxl,hk,hac,hbc]
    refine HA0.use ?_
    by_cases hha0:isN a 0=true
    ·simp-implicitDefEqProofs[hha0,ho,hc,hxl,hk,hac,hbc]
     refine HA1.use ?_
     by_cases hha1:isN a 1=true
     ·simp-implicitDefEqProofs[hha1,ho,hc,hxl,hk,hac,hbc]
     ·simp-implicitDefEqProofs[hha1,ho,hc,hxl,hk,hac,hbc]
    ·simp-implicitDefEqProofs[hha0,ho,hc,hxl,hk,hac,hbc]
     refine HA1.use ?_
     by_cases hha1:isN a 1=true
     ·simp-implicitDefEqProofs[hha1,ho,hc,hxl,hk,hac,hbc]
     ·simp-implicitDefEqProofs[hha1,ho,hc,hxl,hk,hac,hbc]
   ·simp-implicitDefEqProofs[hhb1,ho,hc,hxl,hk,hac,hbc]
    refine HA0.use ?_
    by_cases hha0:isN a 0=true
    ·simp-implicitDefEqProofs[hha0,ho,hc,hxl,hk,hac,hbc]
     refine HA1.use ?_
     by_cases hha1:isN a 1=true
     ·simp-implicitDefEqProofs[hha1,ho,hc,hxl,hk,hac,hbc]
     ·simp-implicitDefEqProofs[hha1,ho,hc,hxl,hk,hac,hbc]
    ·simp-implicitDefEqProofs[hha0,ho,hc,hxl,hk,hac,hbc]
     refine HA1.use ?_
     by_cases hha1:isN a 1=true
     ·simp-implicitDefEqProofs[hha1,ho,hc,hxl,hk,hac,hbc]
     ·simp-implicitDefEqProofs[hha1,ho,hc,hxl,hk,hac,hbc]
 ·simp-implicitDefEqProofs[ho]
  refine HB0.use ?_
  by_cases hhb0:isN b 0=true
  ·simp-implicitDefEqProofs[hhb0,ho,hc,hxl,hk,hac,hbc]
   refine HB1.use ?_
   by_cases hhb1:isN b 1=true
   ·simp-implicitDefEqProofs[hhb1,ho,hc,hxl,hk,hac,hbc]
    refine HA0.use ?_
    by_cases hha0:isN a 0=true
    ·simp-implicitDefEqProofs[hha0,ho,hc,hxl,hk,hac,hbc]
     refine HA1.use ?_
     by_cases hha1:isN a 1=true
     ·simp-implicitDefEqProofs[hha1,ho,hc,hxl,hk,hac,hbc]
     ·simp-implicitDefEqProofs[hha1,ho,hc,hxl,hk,hac,hbc]
    ·simp-implicitDefEqProofs[hha0,ho,hc,hxl,hk,hac,hbc]
     refine HA1.use ?_
     by_cases hha1:isN a 1=true
     ·simp-implicitDefEqProofs[hha1,ho,hc,hxl,hk,hac,hbc]
     ·simp-implicitDefEqProofs[hha1,ho,hc,hxl,hk,hac,hbc]
   ·simp-implicitDefEqProofs[hhb1,ho,hc,hxl,hk,hac,hbc]
    refine HA0.use ?_
    by_cases hha0:isN a 0=true
    ·simp-implicitDefEqProofs[hha0,ho,hc,hxl,hk,hac,hbc]
     refine HA1.use ?_
     by_cases hha1:isN a 1=true
     ·simp-implicitDefEqProofs[hha1,ho,hc,hxl,hk,hac,hbc]
     ·simp-implicitDefEqProofs[hha1,ho,hc,hxl,hk,hac,hbc]
    ·simp-implicitDefEqProofs[hha0,ho,hc,hxl,hk,hac,hbc]
     refine HA1.use ?_
     by_cases hha1:isN a 1=true
     ·simp-implicitDefEqProofs[hha1,ho,hc,hxl,hk,hac,hbc]
     ·simp-implicitDefEqProofs[hha1,ho,hc,hxl,hk,hac,hbc]
  ·simp-implicitDefEqProofs[hhb0,ho,hc,hxl,hk,hac,hbc]
   refine HB1.use ?_
   by_cases hhb1:isN b 1=true
   ·simp-implicitDefEqProofs[hhb1,ho,hc,hxl,hk,hac,hbc]
    refine HA0.use ?_
    by_cases hha0:isN a 0=true
    ·simp-implicitDefEqProofs[hha0,ho,hc,hxl,hk,hac,hbc]
     refine HA1.use ?_
     by_cases hha1:isN a 1=true
     ·simp-implicitDefEqProofs[hha1,ho,hc,hxl,hk,hac,hbc]
     ·simp-implicitDefEqProofs[hha1,ho,hc,hxl,hk,hac,hbc]
    ·simp-implicitDefEqProofs[hha0,ho,hc,hxl,hk,hac,hbc]
     refine HA1.use ?_
     by_cases hha1:isN a 1=true
     ·simp-implicitDefEqProofs[hha1,ho,hc,hxl,hk,hac,hbc]
     ·simp-implicitDefEqProofs[hha1,ho,hc,hxl,hk,hac,hbc]
   ·simp-implicitDefEqProofs[hhb1,ho,hc,hxl,hk,hac,hbc]
    refine HA0.use ?_
    by_cases hha0:isN a 0=true
    ·simp-implicitDefEqProofs[hha0,ho,hc,hxl,hk,hac,hbc]
     refine HA1.use ?_
     by_cases hha1:isN a 1=true
     ·simp-implicitDefEqProofs[hha1,ho,hc,hxl,hk,hac,hbc]
     ·simp-implicitDefEqProofs[hha1,ho,hc,hxl,hk,hac,hbc]
    ·simp-implicitDefEqProofs[hha0,ho,hc,hxl,hk,hac,hbc]
     refine HA1.use ?_
     by_cases hha1:isN a 1=true
     ·simp-implicitDefEqProofs[hha1,ho,hc,hxl,hk,hac,hbc]
     ·simp-implicitDefEqProofs[hha1,ho,hc,hxl,hk,hac,hbc]
 ·simp-implicitDefEqProofs[ho]
  refine HB0.use ?_
  by_cases hhb0:isN b 0=true
  ·simp-implicitDefEqProofs[hhb0,ho,hc,hxl,hk,hac,hbc]
   refine HB1.use ?_
   by_cases hhb1:isN b 1=true
   ·simp-implicitDefEqProofs[hhb1,ho,hc,hxl,hk,hac,hbc]
    refine HA0.use ?_
    by_cases hha0:isN a 0=true
    ·simp-implicitDefEqProofs[hha0,ho,hc,hxl,hk,hac,hbc]
     refine HA1.use ?_
     by_cases hha1:isN a 1=true
     ·simp-implicitDefEqProofs[hha1,ho,hc,hxl,hk,hac,hbc]
     ·simp-implicitDefEqProofs[hha1,ho,hc,hxl,hk,hac,hbc]
    ·simp-implicitDefEqProofs[hha0,ho,hc,hxl,hk,hac,hbc]
     refine HA1.use ?_
     by_cases hha1:isN a 1=true
     ·simp-implicitDefEqProofs[hha1,ho,hc,hxl,hk,hac,hbc]
     ·simp-implicitDefEqProofs[hha1,ho,hc,hxl,hk,hac,hbc]
   ·simp-implicitDefEqProofs[hhb1,ho,hc,hxl,hk,hac,hbc]
    refine HA0.use ?_
    by_cases hha0:isN a 0=true
    ·simp-implicitDefEqProofs[hha0,ho,hc,hxl,hk,hac,hbc]
     refine HA1.use ?_
     by_cases hha1:isN a 1=true
     ·simp-implicitDefEqProofs[hha1,ho,hc,hxl,hk,hac,hbc]
     ·simp-implicitDefEqProofs[hha1,ho,hc,hxl,hk,hac,hbc]
    ·simp-implicitDefEqProofs[hha0,ho,hc,hxl,hk,hac,hbc]
     refine HA1.use ?_
     by_cases hha1:isN a 1=true
     ·simp-implicitDefEqProofs[hha1,ho,hc,hxl,hk,hac,hbc]
     ·simp-implicitDefEqProofs[hha1,ho,hc,hxl,hk,hac,hbc]
  ·simp-implicitDefEqProofs[hhb0,ho,hc,hxl,hk,hac,hbc]
   refine HB1.use ?_
   by_cases hhb1:isN b 1=true
   ·simp-implicitDefEqProofs[hhb1,ho,hc,hxl,hk,hac,hbc]
    refine HA0.use ?_
    by_cases hha0:isN a 0=true
    ·simp-implicitDefEqProofs[hha0,ho,hc,hxl,hk,hac,hbc]
     refine HA1.use ?_
     by_cases hha1:isN a 1=true
     ·simp-implicitDefEqProofs[hha1,ho,hc,hxl,hk,hac,hbc]
     ·simp-implicitDefEqProofs[hha1,ho,hc,hxl,hk,hac,hbc]
    ·simp-implicitDefEqProofs[hha0,ho,hc,hxl,hk,hac,hbc]
     refine HA1.use ?_
     by_cases hha1:isN a 1=true
     ·simp-implicitDefEqProofs[hha1,ho,hc,hxl,hk,hac,hbc]
     ·simp-implicitDefEqProofs[hha1,ho,hc,hxl,hk,hac,hbc]
   ·simp-implicitDefEqProofs[hhb1,ho,hc,hxl,hk,hac,hbc]
    refine HA0.use ?_
    by_cases hha0:isN a 0=true
    ·simp-implicitDefEqProofs[hha0,ho,hc,hxl,hk,hac,hbc]
     refine HA1.use ?_
     by_cases hha1:isN a 1=true
     ·simp-implicitDefEqProofs[hha1,ho,hc,hxl,hk,hac,hbc]
     ·simp-implicitDefEqProofs[hha1,ho,hc,hxl,hk,hac,hbc]
    ·simp-implicitDefEqProofs[hha0,ho,hc,hxl,hk,hac,hbc]
     refine HA1.use ?_
     by_cases hha1:isN a 1=true
     ·simp-implicitDefEqProofs[hha1,ho,hc,hxl,hk,hac,hbc]
     ·simp-implicitDefEqProofs[hha1,ho,hc,hxl,hk,hac,hbc]
 ·simp-implicitDefEqProofs[ho]
  refine HA0.use ?_
  by_cases hha0:isN a 0=true
  ·simp-implicitDefEqProofs[hha0,ho,hc,hxl,hk,hac,hbc]
   refine(lP G _).use ?_
   simp-implicitDefEqProofs[hnc]
  ·simp-implicitDefEqProofs[hha0,ho,hc,hxl,hk,hac,hbc]
   refine HB0.use ?_
   by_cases hhb0:isN b 0=true
   ·simp-implicitDefEqProofs[hhb0,ho,hc,hxl,hk,hac,hbc]
    refine HB1.use ?_
    by_cases hhb1:isN b 1=true
    ·simp-implicitDefEqProofs[hhb1,ho,hc,hxl,hk,hac,hbc]
     refine HA0.use ?_
     simp-implicitDefEqProofs[hha0]
     refine HA1.use ?_
     by_cases hha1:isN a 1=true
     ·simp-implicitDefEqProofs[hha1,ho,hc,hxl,hk,hac,hbc]
     ·simp-implicitDefEqProofs[hha1,ho,hc,hxl,hk,hac,hbc]
    ·simp-implicitDefEqProofs[hhb1,ho,hc,hxl,hk,hac,hbc]
     refine HA0.use ?_
     simp-implicitDefEqProofs[hha0]
     refine HA1.use ?_
     by_cases hha1:isN a 1=true
     ·simp-implicitDefEqProofs[hha1,ho,hc,hxl,hk,hac,hbc]
     ·simp-implicitDefEqProofs[hha1,ho,hc,hxl,hk,hac,hbc]
   ·simp-implicitDefEqProofs[hhb0,ho,hc,hxl,hk,hac,hbc]
    refine HB1.use ?_
    by_cases hhb1:isN b 1=true
    ·simp-implicitDefEqProofs[hhb1,ho,hc,hxl,hk,hac,hbc]
     refine HA0.use ?_
     simp-implicitDefEqProofs[hha0]
     refine HA1.use ?_
     by_cases hha1:isN a 1=true
     ·simp-implicitDefEqProofs[hha1,ho,hc,hxl,hk,hac,hbc]
     ·simp-implicitDefEqProofs[hha1,ho,hc,hxl,hk,hac,hbc]
    ·simp-implicitDefEqProofs[hhb1,ho,hc,hxl,hk,hac,hbc]
     refine HA0.use ?_
     simp-implicitDefEqProofs[hha0]
     refine HA1.use ?_
     by_cases hha1:isN a 1=true
     ·simp-implicitDefEqProofs[hha1,ho,hc,hxl,hk,hac,hbc]
     ·simp-implicitDefEqProofs[hha1,ho,hc,hxl,hk,hac,hbc]
end
section
def oG:AK:=qT [xG 2 5,wB] [wK 12 2,qw 13 12,wT 14 fq 13,qh 11 14,wJ 15 0 11,wJ 16 1 11,wJ 17 2 11,wJ 18 3 11,qh 5 15,qh 6 16,qh 7 17,qh 8 18] (.cut (.blk 0 (qx (xn (wt 20) (qA 21 .gtr 20 4) 19 21) (qp 19 .skip (xt [xk 22 2,qw 23 22,wa 24 23,wH 25,qY 26 .neq 24 25,qh 19 26] 19 .skip (.cut (.reg [qh 27 6,qh 28 27,wG 29 28 1 2,wE 30 28 29,xz 31 28 bW (wS 30),qK 32 28 (wd 31),xp 33 28 32,qh 19 33]) (qp 19 .skip (.cut (.reg [qh 34 6,wU 35 34,qh 36 35,wG 37 36 1 2,wE 38 36 37,qK 39 36 (xa .neq 38 (qy qQ)),xp 40 36 39,qh 19 40]) (qp 19 .skip (.cut (.reg [qh 41 7,wU 42 41,qh 43 42,wG 44 43 3 2,wE 45 43 44,qK 46 43 (qX 45),xg 47 43 .gtr 46 0,xp 48 43 47,qh 19 48]) (qp 19 .skip (.cut (.reg [qh 49 8,wU 50 49,qh 51 50,wG 52 51 4 2,wE 53 51 52,qK 54 51 (qX 53),xg 55 51 .gtr 54 0,xp 56 51 55,qh 19 56]) (qp 19 .skip (.reg [wK 57 2,qw 58 57,wu 59 58 8,qh 60 59,wG 61 60 2 2,wE 62 60 61,qK 63 60 (qE 4 62 xv),wG 64 60 0 63,wE 65 60 64,xg 66 60 .neq 65 13,xp 67 60 66,qh 19 67]))))))))))) (qR 19 xE))) (wF [xk 68 2,qw 69 68,wa 70 69,wz 71] 1 (xm [wv 72 71 70] (wh 72 1) (q9 2 (qT [q7 73 4 69 71,xN 74 73,q6 10 [we,we,wj,.nils],qV 4 10 74] [xN 75 10,wT 76 eb 75,wU 77 76] (qR 77 xE)) (wY (w7 78 71) 71 78))) [xu 79 2,qw 80 79,wt 81,w7 82 81,wP 83 cn 80 82,qh 84 83,wG 85 84 4 2,wE 86 84 85,xC 87 84 1,xg 88 84 .add 87 1,xz 89 84 cn (wM 86 (.t 88)),xp 90 84 89,qh 4 90]))
theorem yC:AK.whole oG=FK.ak gT:=rfl
variable (G:aq)
def nU(op:Int):Int:=if op=4 then 2 else if inR op 1 8 then 1 else-1
def ip(op:Int):Bool:=decide (op=5)||decide (op=6)
theorem vP(op:Int):VF Tryz.prog G fq [.p (.int .i64 op)] (.tup [.p (.int .i64 (nU op)),.p (.bool (cx op)),.p (.bool (ip op)),.p (.bool (decide (op=5)))]):=by
 refine AC.go tL ?_
 by_cases h1:op=1
 ·subst h1;simp-implicitDefEqProofs[aY,nU,inR,cx,ip]
 by_cases h2:op=2
 ·subst h2;simp-implicitDefEqProofs[aY,nU,inR,cx,ip]
 by_cases h3:op=3
 ·subst h3;simp-implicitDefEqProofs[aY,nU,inR,cx,ip]
 by_cases h4:op=4
 ·subst h4;simp-implicitDefEqProofs[aY,nU,inR,cx,ip]
 by_cases h5:op=5
 ·subst h5;simp-implicitDefEqProofs[aY,nU,inR,cx,ip]
 by_cases h6:op=6
 ·subst h6;simp-implicitDefEqProofs[aY,nU,inR,cx,ip]
 by_cases h7:op=7
 ·subst h7;simp-implicitDefEqProofs[aY,nU,inR,cx,ip]
 by_cases h8:op=8
 ·subst h8;simp-implicitDefEqProofs[aY,nU,inR,cx,ip]
 have ha:nU op= -1:=by
  have:inR op 1 8=false:=by simp[inR];omega
  rw[nU,if_neg h4,this];rfl
 have hn:cx op=false:=by simp[cx,h1,h2]
 have hb:ip op=false:=by simp[ip,h5,h6]
 rw[ha,hn,hb]
 simp-implicitDefEqProofs[aY,h1,h2,h3,h4,h5,h6,h7,h8]
def CW:List Ex->Bool
 |a::_=>decide (a.op=13)
 |[]=>false
def iw(s:Sm):Bool:=decide ((s.args.length:Int)=nU s.op)&&(!cx s.op||aA s.name)&&(cx s.op||decide (s.name=[]))&&(ip s.op||decide (s.body=[]))&&(decide (s.op=5)||decide (s.els=[]))&&
 (!decide (s.op=8)||CW s.args)
theorem Gd(s:Sm):ig s=(inR s.op 1 8&&decide (s.args.length=jY s.op)&&(cx s.op==aA s.name)&&(cx s.op||decide (s.name=[]))&&s.args.all lg&&
 (!decide (s.op=8)||CW s.args)&&(s.els.isEmpty||decide (s.op=5))&&(s.body.isEmpty||decide (s.op=5)||decide (s.op=6))):=by
 unfold ig
 cases s.args<;>rfl
theorem BB(s:Sm):ig s=(iw s&&s.args.all lg):=by
 have ha:decide ((s.args.length:Int)=nU s.op)=(inR s.op 1 8&&decide (s.args.length=jY s.op)):=by
  unfold nU jY
  by_cases h4:s.op=4
  ·have:inR s.op 1 8=true:=by simp[inR,h4]
   rw[this,if_pos h4,if_pos h4];simp;omega
  ·rw[if_neg h4,if_neg h4]
   cases h:inR s.op 1 8 with
   |true=>simp;omega
   |false=>simp
 have hn:(cx s.op==aA s.name&&(cx s.op||decide (s.name=[])))=((!cx s.op||aA s.name)&&(cx s.op||decide (s.name=[]))):=by
  cases cx s.op with
  |true=>cases aA s.name<;>rfl
  |false=>
   by_cases h:s.name=[]
   ·rw[h,pj];rfl
   ·simp[h]
 have hb:(s.body.isEmpty||decide (s.op=5)||decide (s.op=6))=(ip s.op||decide (s.body=[])):=by
  rw[ip]
  cases s.body<;>cases decide (s.op=5)<;>cases decide (s.op=6)<;>simp
 have he:(s.els.isEmpty||decide (s.op=5))=(decide (s.op=5)||decide (s.els=[])):=by
  cases s.els<;>cases decide (s.op=5)<;>simp
 rw[Gd]
 unfold iw
 rw[ha,hb,he]
 generalize CW s.args=z
 generalize (cx s.op==aA s.name)=c at hn⊢
 generalize (!cx s.op||aA s.name)=c' at hn⊢
 generalize (cx s.op||decide (s.name=[]))=d at hn⊢
 generalize s.args.all lg=x
 generalize (ip s.op||decide (s.body=[]))=y
 generalize (decide (s.op=5)||decide (s.els=[]))=y'
 generalize (!decide (s.op=8))=u
 cases inR s.op 1 8<;>cases decide (s.args.length=jY s.op)<;>cases c<;>cases c'<;>cases d<;>cases x<;>cases y<;>cases y'<;>cases u<;>cases z<;>simp_all
variable (hK:G iq=some gr) (hS:G dN=some [.tbl opK opV])
def Dh(d:Nat)(L:List Sm):Int:=match L.findIdx? (λs=> !ay d s) with|some i=>i|none=> -1
theorem IU(d:Nat)(L:List Sm):decide (0<=Dh d L)= !(L.all (ay d)):=by
 unfold Dh
 cases h:L.findIdx? (λx=> !ay d x) with
 |none=>
  rw[QQ] at h
  have:L.all (ay d)=true:=Qh.2 λx hx=>by have:=h x hx;simpa using this
  simp[this]
 |some i=>
  rw[Qy] at h
  obtain⟨h1,h2,_⟩:=h
  have:L.all (ay d)=false:=List.all_eq_false.2 ⟨_,Qj h1,by simpa using h2⟩
  rw[this];simp
theorem tp(d:Nat)(nest:Int)(hs:∀s:Sm,s.sz<=1073741824->VF Tryz.prog G gW [.agg (s.cs.map .p),.p (.int .i64 nest)] (.p (.bool (ay d s))))(L:List Sm)(hL:aG L<=1073741824):
 VF Tryz.prog G cn [.p (smL L),.p (.int .i64 nest)] (.p (.bool (L.all (ay d)))):=by
 have hsl:smL L= .lst 5 (L.map Sm.cs):=rfl
 have hll:=aZ L
 have bz:∀s:Sm,s.sz<=1073741824->AC Tryz.prog G cd [.agg (s.cs.map .p),.ptr 0 1 0 0] [.row 1 [[.p (.int .i64 nest)]]] λx h=>x= .ret (.p (.bool (!ay d s)))/\h=[.row 1 [[.p (.int .i64 nest)]]]:=by
  intro s hz
  refine AC.trim (AC.go sf ?_) (by simp[below])
  have hse:=s.cs_eq
  have h1:=hs s hz
  rw[hse] at h1
  simp-implicitDefEqProofs[kO,hse]
  refine h1.use ?_
  simp-implicitDefEqProofs[]
 have idx:AC Tryz.prog G bO [.p (smL L),.fn (.func cd) [.ptr 0 1 0 0]] [.row 1 [[.p (.int .i64 nest)]]] λx h=>x= .ret (.p (.int .i64 (Dh d L)))/\h=[.row 1 [[.p (.int .i64 nest)]]]:=by
  refine AC.go iA ?_
  simp-implicitDefEqProofs[du,hsl]
  refine an (λi:Nat=>ag 19 [(0,.p (smL L)),(1,.fn (.func cd) [.ptr 0 1 0 0]),(7,.p (.int .i64 L.length)),(8,.p (.int .i64 i))]) (λ_=>[.row 1 [[.p (.int .i64 nest)]]]) (λi=>i<=L.length/\∀w∈L.take i,ay d w=true) (λi=>L.length-i) 0 (by simp) ?_ ?_
  ·exact ab (by simp) (by simp[okO,below]) (by simp[below,aj,hsl])
  ·intro i ⟨hi,hn⟩
   simp-implicitDefEqProofs[hsl]
   refine aQ (λh1=>?_) (λh1=>?_)
   ·simp at h1
    have hg:=Qd h1
    have hz:=aM (Qj h1)
    simp-implicitDefEqProofs[hg]
    refine(bz L[i] (by omega)).mono ?_
    rintro r h ⟨rfl,rfl⟩
    by_cases he:ay d L[i]=true
    ·simp-implicitDefEqProofs[aa,he]
     refine⟨i+1,⟨h1,λp hp=>?_⟩,by omega,ab (by simp) (by simp[okO,below]) (by simp[below,aj,hsl,w1 (i:=i) (by omega)])⟩
     rw[al h1] at hp
     rcases Qn.1 hp with hp|hp
     ·exact hn p hp
     ·rw[Qt.1 hp];exact he
    ·have hf:Dh d L=i:=by
      have:L.findIdx? (λw=> !ay d w)=some i:=by
       rw[Qy]
       exact⟨h1,by simpa using he,λj hj=>by have:=hn L[j] (List.mem_take_iff_getElem.2 ⟨j,by omega,rfl⟩);simpa using this⟩
      rw[Dh,this]
     simp-implicitDefEqProofs[aa,he,hf]
   ·simp at h1
    rw[Qk h1] at hn
    have hf:Dh d L= -1:=by
     have:L.findIdx? (λw=> !ay d w)=none:=by
      rw[QQ];intro x hx;simpa using hn x hx
     rw[Dh,this]
    simp-implicitDefEqProofs[hf]
 have con:AC Tryz.prog G bt [.p (smL L),.fn (.func cd) [.ptr 0 1 0 0]] [.row 1 [[.p (.int .i64 nest)]]] λx h=>x= .ret (.p (.bool (!L.all (ay d))))/\h=[.row 1 [[.p (.int .i64 nest)]]]:=by
  refine AC.go gd ?_
  simp-implicitDefEqProofs[cP]
  refine idx.mono ?_
  rintro r h ⟨rfl,rfl⟩
  have:=IU d L
  simp-implicitDefEqProofs[aa]
  simpa using this
 refine AC.go vq ?_
 simp-implicitDefEqProofs[mQ]
 refine con.mono ?_
 rintro r h ⟨rfl,rfl⟩
 simp-implicitDefEqProofs[aa]
include hS hK
theorem IT:∀d:Nat,d<=4->∀s:Sm,s.sz<=1073741824->VF Tryz.prog G gW [.agg (s.cs.map .p),.p (.int .i64 (5-d))] (.p (.bool (ay d s))):=by
 intro d
 induction d with
 |zero=>
  intro _ s hz
  have hse:=s.cs_eq
  refine AC.go oL ?_
  simp-implicitDefEqProofs[gT,hse]
  refine(vP G _).use ?_
  simp-implicitDefEqProofs[ay]
 |succ d ih=>
  intro hd s hz
  have hse:=s.cs_eq
  have hsz:=s.sz_eq
  have hal:=aS s.args
  have hblk:=tp G d (5-d) (ih (by omega))
  have hnn:(5:Int)-((d+1:Nat):Int)=4-d:=by omega
  have hnw:IntKind.i64.wrap (4-(d:Int)+1)=5-d:=by rw[ah (by omega) (by omega)];omega
  have hn4:¬(4:Int)<4-d:=by omega
  have hxl:exL s.args= .lst 4 (s.args.map Ex.cs):=rfl
  have hsl:∀l,smL l= .lst 5 (l.map Sm.cs):=λ_=>rfl
  rw[hnn]
  have hbad:iw s=false->ay (d+1) s=false:=λh=>by rw[ay,BB,h];rfl
  refine AC.goK oL yC ?_
  simp-implicitDefEqProofs[oG,gT,hse]
  refine(vP G _).use ?_
  simp-implicitDefEqProofs[]
  refine sO (λ_:Unit=>ag 91 [(1,.p (.int .i64 (4-d))),(2,.ptr 0 5 0 0)]) (λ_=>[.row 5 [[.p (.int .i64 s.op),.p (.str s.name),.p (exL s.args),.p (smL s.body),.p (smL s.els)]]]) (λ_=>iw s=true) ?_ ?_
  ·have fin:∀(r1:List (Nat × AV)),Aw.look r1 1= .p (.int .i64 (4-d))->Aw.look r1 2= .ptr 0 5 0 0->
    Wk 0 (ag 91 r1) [.row 5 [[.p (.int .i64 s.op),.p (.str s.name),.p (exL s.args),.p (smL s.body),.p (smL s.els)]]] (ag 91 [(1,.p (.int .i64 (4-d))),(2,.ptr 0 5 0 0)]) [.row 5 [[.p (.int .i64 s.op),.p (.str s.name),.p (exL s.args),.p (smL s.body),.p (smL s.els)]]]:=λr1 a b=>
    ab (by simp) (by simp[okO,below]) (by simp[below,a,b])
   have hb0:s.body=[]\/0<s.body.length:=by cases s.body<;>simp
   have he0:s.els=[]\/0<s.els.length:=by cases s.els<;>simp
   by_cases hl:(s.args.length:Int)=nU s.op
   case neg=>
    rw[hbad (by simp[iw,hl])]
    simp-implicitDefEqProofs[hn4,hxl,hl]
   have hel:(decide (s.els=[]))= !decide (0<s.els.length):=by cases s.els<;>simp
   have hbo:(decide (s.body=[]))= !decide (0<s.body.length):=by cases s.body<;>simp
   simp-implicitDefEqProofs[hn4,hxl,hl]
   refine lF (ag 91 [(1,.p (.int .i64 (4-d))),(2,.ptr 0 5 0 0),(6,.p (.bool (cx s.op))),(7,.p (.bool (ip s.op))),(8,.p (.bool (decide (s.op=5)))),(19,.p (.bool (cx s.op&& !aA s.name)))]) ([.row 5 [[.p (.int .i64 s.op),.p (.str s.name),.p (exL s.args),.p (smL s.body),.p (smL s.els)]]]) ?_ ?_
   ·cases hn:cx s.op with
    |true=>
     simp-implicitDefEqProofs[]
     refine(my G hK _ (by omega)).use ?_
     simp-implicitDefEqProofs[]
     exact ab (by simp) (by simp[okO,below]) (by simp[below])
    |false=>
     simp-implicitDefEqProofs[]
     exact ab (by simp) (by simp[okO,below]) (by simp[below])
   by_cases h2:(cx s.op&& !aA s.name)=true
   ·rw[hbad (by simp only[iw];cases h:cx s.op<;>cases h':aA s.name<;>simp[h,h'] at h2⊢)]
    simp-implicitDefEqProofs[h2]
   have h2':(cx s.op&& !aA s.name)=false:=by simpa using h2
   rw[h2']
   simp-implicitDefEqProofs[]
   refine lF (ag 91 [(1,.p (.int .i64 (4-d))),(2,.ptr 0 5 0 0),(6,.p (.bool (cx s.op))),(7,.p (.bool (ip s.op))),(8,.p (.bool (decide (s.op=5)))),(19,.p (.bool (!cx s.op&& !decide (s.name=[]))))]) ([.row 5 [[.p (.int .i64 s.op),.p (.str s.name),.p (exL s.args),.p (smL s.body),.p (smL s.els)]]]) ?_ ?_
   ·cases hn:cx s.op with
    |true=>
     simp-implicitDefEqProofs[]
     exact ab (by simp) (by simp[okO,below]) (by simp[below])
    |false=>
     simp-implicitDefEqProofs[]
     exact ab (by simp) (by simp[okO,below]) (by simp[below])
   by_cases h3:(!cx s.op&& !decide (s.name=[]))=true
   ·rw[hbad (by simp only[iw];cases h:cx s.op<;>cases h':decide (s.name=[])<;>simp[h,h'] at h3⊢)]
    simp-implicitDefEqProofs[h3]
   have h3':(!cx s.op&& !decide (s.name=[]))=false:=by simpa using h3
   rw[h3']
   simp-implicitDefEqProofs[]
   refine lF (ag 91 [(1,.p (.int .i64 (4-d))),(2,.ptr 0 5 0 0),(6,.p (.bool (cx s.op))),(7,.p (.bool (ip s.op))),(8,.p (.bool (decide (s.op=5)))),(19,.p (.bool (!ip s.op&&decide (0<s.body.length))))]) ([.row 5 [[.p (.int .i64 s.op),.p (.str s.name),.p (exL s.args),.p (smL s.body),.p (smL s.els)]]]) ?_ ?_
   ·cases hn:ip s.op with
    |true=>
     simp-implicitDefEqProofs[hsl]
     exact ab (by simp) (by simp[okO,below]) (by simp[below])
    |false=>
     simp-implicitDefEqProofs[hsl]
     exact ab (by simp) (by simp[okO,below]) (by simp[below])
   by_cases h4:(!ip s.op&&decide (0<s.body.length))=true
   ·rw[hbad (by simp only[iw,hbo];cases h:ip s.op<;>cases h':decide (0<s.body.length)<;>simp[h,h'] at h4⊢)]
    simp-implicitDefEqProofs[h4]
   have h4':(!ip s.op&&decide (0<s.body.length))=false:=by simpa using h4
   rw[h4']
   simp-implicitDefEqProofs[]
   refine lF (ag 91 [(1,.p (.int .i64 (4-d))),(2,.ptr 0 5 0 0),(6,.p (.bool (cx s.op))),(7,.p (.bool (ip s.op))),(8,.p (.bool (decide (s.op=5)))),(19,.p (.bool (!decide (s.op=5)&&decide (0<s.els.length))))]) ([.row 5 [[.p (.int .i64 s.op),.p (.str s.name),.p (exL s.args),.p (smL s.body),.p (smL s.els)]]]) ?_ ?_
   ·cases hn:decide (s.op=5) with
    |true=>
     simp-implicitDefEqProofs[hsl]
     exact ab (by simp) (by simp[okO,below]) (by simp[below])
    |false=>
     simp-implicitDefEqProofs[hsl]
     exact ab (by simp) (by simp[okO,below]) (by simp[below])
   by_cases h5:(!decide (s.op=5)&&decide (0<s.els.length))=true
   ·rw[hbad (by simp only[iw,hel];cases h:decide (s.op=5)<;>cases h':decide (0<s.els.length)<;>simp[h,h'] at h5⊢)]
    simp-implicitDefEqProofs[h5]
   have h5':(!decide (s.op=5)&&decide (0<s.els.length))=false:=by simpa using h5
   rw[h5']
   have hh1:iw s=(!decide (s.op=8)||CW s.args):=by
    simp only[iw,hl,decide_true,Bool.true_and,hel,hbo]
    cases h:cx s.op<;>cases hi:aA s.name<;>cases hm:decide (s.name=[])<;>cases hb:ip s.op<;>cases hc:decide (0<s.body.length)<;>cases ho:decide (s.op=5)<;>cases he:decide (0<s.els.length)<;>simp[h,hi,hm,hb,hc,ho,he] at h2' h3' h4' h5'⊢
   by_cases o8:s.op=8
   ·have ha1:s.args.length=1:=by
     have:nU s.op=1:=by rw[o8];rfl
     omega
    obtain⟨a0,ha0⟩:∃a0,s.args=[a0]:=by
     match hh:s.args,ha1 with
     |[x],_=>exact⟨x,rfl⟩
    have hae:=a0.cs_eq
    rw[hh1,o8,ha0]
    rw[o8,ha0] at fin
    have hxa:exL [a0]= .lst 4 [a0.cs]:=rfl
    by_cases hc:a0.op=13
    ·have h13:CW [a0]=true:=by simp[CW,hc]
     simp-implicitDefEqProofs[o8,hae,hc,h13,hxa]
     rw[hxa,hae,hc] at fin
     exact fin _ (by simp) (by simp)
    ·rw[hbad (by rw[hh1,o8,ha0];simp[CW,hc])]
     simp-implicitDefEqProofs[o8,hae,hc,hxa]
   ·have hh2:iw s=true:=by rw[hh1];simp[o8]
    simp-implicitDefEqProofs[o8,hh2]
    exact fin _ (by simp) (by simp)
  intro _ h1
  have hh:ay (d+1) s=(s.args.all lg&&(s.body.all (ay d)&&s.els.all (ay d))):=by rw[ay,BB,h1,Bool.true_and,Bool.and_assoc]
  simp-implicitDefEqProofs[hxl]
  refine an (λi:Nat=>ag 91 [(1,.p (.int .i64 (4-d))),(2,.ptr 0 5 0 0),(69,.p (exL s.args)),(70,.p (.int .i64 s.args.length)),(71,.p (.int .i64 i))]) (λ_=>[.row 5 [[.p (.int .i64 s.op),.p (.str s.name),.p (exL s.args),.p (smL s.body),.p (smL s.els)]]]) (λi=>i<=s.args.length/\(s.args.take i).all lg=true) (λi=>s.args.length-i) 0 (by simp) ?_ ?_
  ·exact ab (by simp) (by simp[okO,below]) (by simp[below,hxl])
  rintro i ⟨hi,ha⟩
  simp-implicitDefEqProofs[hxl]
  refine aQ (λh=>?_) (λh=>?_)
  ·simp at h
   have hg:=Qd h
   have hks:=aF (Qj h)
   have hkc:=s.args[i].cs_eq
   have hx:=Bq G hK hS s.args[i] (by omega)
   rw[hkc] at hx
   simp-implicitDefEqProofs[hg,hkc]
   refine hx.use ?_
   by_cases ho:lg s.args[i]=true
   ·simp-implicitDefEqProofs[ho]
    refine⟨i+1,⟨h,by rw[←Qh,cL h,ha,ho];rfl⟩,by omega,?_⟩
    refine ka (m:=1) (by omega) (fg rfl rfl (by simp[okO,below])) (by simp[below,hxl,w1 (i:=i) (by omega)])
   ·have ho':lg s.args[i]=false:=by simpa using ho
    rw[hh,jO h ho']
    simp-implicitDefEqProofs[ho']
  ·simp at h
   have ha2:s.args.all lg=true:=fb h ha
   rw[hh,ha2,Bool.true_and]
   simp-implicitDefEqProofs[hnw]
   refine(hblk s.body (by omega)).use ?_
   cases hb:s.body.all (ay d) with
   |true=>
    simp-implicitDefEqProofs[hnw]
    refine(hblk s.els (by omega)).use ?_
    simp-implicitDefEqProofs[]
   |false=>
    simp-implicitDefEqProofs[]
end
section
variable (G:aq)
structure Vis (σ:Type) where
 I:σ->List AO
 n:Nat
 F:FuncId
 caps:List AV
 len:∀st,(I st).length=n
 ok:∀st,∀o∈I st,okO n o
 capsOk:aj n caps
theorem Vis.pre{σ:Type}(V:Vis σ){f:FuncId}{args:List AV}{st st':σ}{v:AV}(H:AC Tryz.prog G f args (V.I st) λx h=>x= .ret v/\h=V.I st')(rest:List AO)(ha:aj V.n args):
 AC Tryz.prog G f args (V.I st++rest) λx h=>x= .ret v/\h=V.I st'++rest:=by
 refine(AC.pre H rest (by rw[V.len];exact ha) (by rw[V.len];exact V.ok st) ?_).mono ?_
 ·rintro x h ⟨_,rfl⟩;rw[V.len,V.len]
 ·rintro x h ⟨h1,⟨rfl,rfl⟩,rfl⟩
  exact⟨rfl,rfl⟩
theorem Vis.trim{σ:Type}(V:Vis σ){f:FuncId}{args:List AV}{st st':σ}{v:AV}(H:AC Tryz.prog G f args (V.I st) λx h=>x= .ret v/\∃l,h=V.I st'++l)(hv:below V.n v):
 AC Tryz.prog G f args (V.I st) λx h=>x= .ret v/\h=V.I st':=by
 refine H.wk (λt v h ⟨e,_⟩=>by cases e) ?_
 rintro u h ⟨e,l,rfl⟩
 cases e
 refine⟨v,V.I st',uU (n:=V.n) (by rw[V.len];exact Qi _) (fg (by rw[←V.len st',List.take_left'];rfl) (V.len _) (V.ok _)) ?_,rfl,rfl⟩
 simp[Fgt,hv]
theorem pN{n m:Nat}(h:n<=m){o:AO}(ho:okO n o):okO m o:=by
 cases o with
 |dead=>trivial
 |sit=>trivial
 |row sz es=>exact λe he=>aH h _ (ho e he)
 |mp es=>exact λe he=>(aH h [e.2] ⟨ho e he,trivial⟩).1
theorem Vis.oks{σ:Type}(V:Vis σ)(st:σ){m:Nat}(hm:V.n<=m){r:List AO}(hr:∀o∈r,okO m o):∀o∈V.I st++r,okO m o:=by
 intro o ho
 rcases Qn.1 ho with h|h
 ·exact pN hm (V.ok st o h)
 ·exact hr o h
theorem Vis.same{σ:Type}(V:Vis σ)(st:σ){k n:Nat}(hk:k<=V.n){r s:List AO}{l l1:List (Nat × AV)}(hr:∀o∈r,okO (V.n+r.length) o)(H:FgA (V.n+r.length) l l1):Wk k (ag n l) (V.I st++(r++s)) (ag n l1) (V.I st++r):=by
 have hl:(V.I st++r).length=V.n+r.length:=by rw[Qq,V.len]
 refine ka (m:=V.n+r.length) (by omega) (fg ?_ hl (V.oks st (by omega) hr)) H
 rw[←Qv,←hl,List.take_left'];rfl
theorem Vis.same0{σ:Type}(V:Vis σ)(st:σ){k n:Nat}(hk:k<=V.n){s:List AO}{l l1:List (Nat × AV)}(H:FgA V.n l l1):Wk k (ag n l) (V.I st++s) (ag n l1) (V.I st):=by
 refine ka (m:=V.n) (by omega) (fg ?_ (V.len _) (V.ok st)) H
 rw[←V.len st,List.take_left'];rfl
theorem JW{α:Type}{a b:List α}{n:Nat}(h:a.length=n)(i:Nat):(a++b)[n+i]?=b[i]?:=by
 rw[←h,Qr (by omega)];congr 1;omega
theorem KU{σ:Type}(V:Vis σ)(step:σ->Ex->σ)(inv:σ->Prop)(B:Nat)(hB:B<=1073741824)
 (hv:∀st e,inv st->e.sz<=B->inv (step st e)/\AC Tryz.prog G V.F (.agg (e.cs.map .p)::V.caps) (V.I st) λx h=>x= .ret (.tup [])/\h=V.I (step st e)):
 ∀(N:Nat) (e:Ex),e.sz<N->e.sz<=B->∀st,inv st->inv (e.pre.foldl step st)/\AC Tryz.prog G iI [.agg (e.cs.map .p),.fn (.func V.F) V.caps] (V.I st) λx h=>x= .ret (.tup [])/\h=V.I (e.pre.foldl step st):=by
 intro N
 induction N with
 |zero=>intro e h;omega
 |succ N ih=>
  intro e he hz st hi
  have hec:=e.cs_eq
  have hsz:=e.sz_eq
  have hkl:=aS e.kids
  have hxl:exL e.kids= .lst 4 (e.kids.map Ex.cs):=rfl
  have hlen:=V.len
  obtain⟨i1,h1⟩:=hv st e hi hz
  have hinv:∀i,i<=e.kids.length->inv ((gu (e.kids.take i)).foldl step (step st e)):=by
   intro i
   induction i with
   |zero=>intro _;exact i1
   |succ i ihi=>
    intro hl
    have hg:i<e.kids.length:=by omega
    have hks:=aF (Qj hg)
    rw[al hg,rf,List.foldl_append,gu,gu,QK]
    exact(ih e.kids[i] (by omega) (by omega) _ (ihi (by omega))).1
  refine⟨?_,?_⟩
  ·rw[Ex.pre_eq,List.foldl_cons]
   have:=hinv e.kids.length (Qi _)
   rwa[QC] at this
  refine V.trim G (AC.go zU ?_) (by simp[below])
  have hcb:=V.capsOk
  have hcb1:aj (V.n+1) V.caps:=aH (by omega) _ hcb
  rw[hec] at h1
  simp-implicitDefEqProofs[rb,hec,hlen]
  refine(V.pre G h1 _ ⟨by simp[below],hcb⟩).mono ?_
  rintro r h ⟨rfl,rfl⟩
  simp-implicitDefEqProofs[aa,hlen,hxl]
  refine an (λi:Nat=>ag 20 [(1,.fn (.func V.F) V.caps),(2,.ptr V.n 4 0 0),(10,.p (exL e.kids)),(11,.p (.int .i64 e.kids.length)),(12,.p (.int .i64 i))])
   (λi=>V.I ((gu (e.kids.take i)).foldl step (step st e))++[.row 4 [[.p (.int .i64 e.op),.p (.int .i64 e.n),.p (.str e.name),.p (exL e.kids)]]]) (λi=>i<=e.kids.length) (λi=>e.kids.length-i) 0 (by simp) ?_ ?_
  ·refine V.same (r:=[_]) (s:=[]) _ (Qi _) (by simp[okO,below]) ?_
   simp[below,hxl,hcb1]
  intro i hil
  simp-implicitDefEqProofs[hxl]
  refine aQ (λhc=>?_) (λhc=>?_)
  ·simp at hc
   have hg:=Qd hc
   have hks:=aF (Qj hc)
   have hkc:=e.kids[i].cs_eq
   have hI:=(ih e.kids[i] (by omega) (by omega) _ (hinv i hil)).2
   rw[hkc] at hI
   simp-implicitDefEqProofs[hg,hkc,hlen]
   refine(V.pre G hI _ ⟨by simp[below],by simp[below,hcb],trivial⟩).mono ?_
   rintro r h ⟨rfl,rfl⟩
   simp-implicitDefEqProofs[aa]
   refine⟨i+1,hc,by omega,?_⟩
   have hf:(gu (e.kids.take (i+1))).foldl step (step st e)=e.kids[i].pre.foldl step ((gu (e.kids.take i)).foldl step (step st e)):=by
    rw[al hc,rf,List.foldl_append,gu,gu,QK]
   rw[hf]
   refine V.same (r:=[_]) (s:=[_]) _ (Qi _) (by simp[okO,below]) ?_
   simp[below,hxl,hcb1,w1 (i:=i) (by omega)]
  ·simp at hc
   have hie:i=e.kids.length:=by omega
   subst hie
   rw[QC,Ex.pre_eq,List.foldl_cons]
   simp-implicitDefEqProofs[]
theorem Lf{σ:Type}(V:Vis σ)(step:σ->Sm × Nat->σ)(inv:σ->Prop)(B:Nat)(hB:B<=1073741824)
 (hv:∀st s d,inv st->s.sz<=B->inv (step st (s,d))/\AC Tryz.prog G V.F (.agg (s.cs.map .p):: .p (.int .i64 (d:Nat))::V.caps) (V.I st) λx h=>x= .ret (.tup [])/\h=V.I (step st (s,d))):
 ∀(N:Nat) (l:List Sm),aG l<N->aG l<=B->∀(d:Nat),d+aG l<=1099511627776->∀st,inv st->inv ((bH d l).foldl step st)/\AC Tryz.prog G fR [.p (smL l),.p (.int .i64 d),.fn (.func V.F) V.caps] (V.I st) λx h=>x= .ret (.tup [])/\h=V.I ((bH d l).foldl step st):=by
 intro N
 induction N with
 |zero=>intro l h;omega
 |succ N ih=>
  intro l hl hz d hd st hi
  have hll:=aZ l
  have hlen:=V.len
  have hsl:∀l,smL l= .lst 5 (l.map Sm.cs):=λ_=>rfl
  have hone:∀s:Sm,s∈l->∀st,inv st->inv ((s.pre d).foldl step st):=by
   intro s hs st hi
   have hm:=aM hs
   have hsz:=s.sz_eq
   have i1:=(hv st s d hi (by omega)).1
   have i2:=(ih s.body (by omega) (by omega) (d+1) (by omega) _ i1).1
   have i3:=(ih s.els (by omega) (by omega) (d+1) (by omega) _ i2).1
   rw[Sm.pre_eq,List.foldl_cons,List.foldl_append]
   exact i3
  have hinv:∀i,i<=l.length->inv ((bH d (l.take i)).foldl step st):=by
   intro i
   induction i with
   |zero=>intro _;exact hi
   |succ i ihi=>
    intro hl
    have hg:i<l.length:=by omega
    rw[al hg,pf,List.foldl_append,bH,bH,QK]
    exact hone _ (Qj hg) _ (ihi (by omega))
  refine⟨?_,?_⟩
  ·have:=hinv l.length (Qi _)
   rwa[QC] at this
  refine V.trim G (AC.go AD ?_) (by simp[below])
  have hcb:=V.capsOk
  simp-implicitDefEqProofs[pT,hsl]
  refine an (λi:Nat=>ag 31 [(1,.p (.int .i64 d)),(2,.fn (.func V.F) V.caps),(8,.p (smL l)),(9,.p (.int .i64 l.length)),(10,.p (.int .i64 i))])
   (λi=>V.I ((bH d (l.take i)).foldl step st)) (λi=>i<=l.length) (λi=>l.length-i) 0 (by simp) ?_ ?_
  ·rw[hlen]
   have:=V.same0 (s:=[]) st (k:=V.n) (n:=31) (Qi _) (l:=[(10,.p (.int .i64 0)),(9,.p (.int .i64 l.length)),(8,.p (smL l)),(0,.p (smL l)),(1,.p (.int .i64 d)),(2,.fn (.func V.F) V.caps)]) (l1:=[(1,.p (.int .i64 d)),(2,.fn (.func V.F) V.caps),(8,.p (smL l)),(9,.p (.int .i64 l.length)),(10,.p (.int .i64 0))]) (by simp[below,hcb])
   rw[QK] at this
   exact this
  intro i hil
  simp-implicitDefEqProofs[hsl]
  refine aQ (λhc=>?_) (λhc=>?_)
  ·simp at hc
   have hg:=Qd hc
   have hks:=aM (Qj hc)
   have hkc:=l[i].cs_eq
   have hsz:=l[i].sz_eq
   have hf:(bH d (l.take (i+1))).foldl step st=(l[i].pre d).foldl step ((bH d (l.take i)).foldl step st):=by
    rw[al hc,pf,List.foldl_append,bH,bH,QK]
   have ii:=hinv i hil
   obtain⟨i1,h1⟩:=hv _ l[i] d ii (by omega)
   obtain⟨i2,h2⟩:=ih l[i].body (by omega) (by omega) (d+1) (by omega) _ i1
   obtain⟨i3,h3⟩:=ih l[i].els (by omega) (by omega) (d+1) (by omega) _ i2
   rw[Sm.pre_eq,List.foldl_cons,List.foldl_append] at hf
   have hwd:IntKind.i64.wrap ((d:Int)+1)=((d+1:Nat):Int):=by rw[ah (by omega) (by omega)];omega
   rw[hkc] at h1
   simp-implicitDefEqProofs[hg,hkc,hlen]
   refine(V.pre G h1 _ ⟨by simp,by simp,hcb⟩).mono ?_
   rintro r h ⟨rfl,rfl⟩
   simp-implicitDefEqProofs[aa,hlen,hwd]
   refine(V.pre G h2 _ ⟨by simp,by simp,by simp[below,hcb],trivial⟩).mono ?_
   rintro r h ⟨rfl,rfl⟩
   simp-implicitDefEqProofs[aa,hlen,hwd]
   refine(V.pre G h3 _ ⟨by simp,by simp,by simp[below,hcb],trivial⟩).mono ?_
   rintro r h ⟨rfl,rfl⟩
   simp-implicitDefEqProofs[aa]
   refine⟨i+1,hc,by omega,?_⟩
   rw[hf]
   refine V.same0 (s:=[_]) _ (Qi _) ?_
   simp[below,hsl,hcb,w1 (i:=i) (by omega)]
  ·simp at hc
   have hie:i=l.length:=by omega
   subst hie
   rw[QC]
   simp-implicitDefEqProofs[]
end
section
def ixI:Option Nat->Int|none=> -1|some i=>i
def vaC(nf:Bool)(id n:Nat):AV:=if nf then .nils else .sl id 3 0 n
def lvC(v:LV):List AV:=[.p (.str v.name),.p (.int .i64 v.num),.p (.int .i64 v.block)]
def lvR(vs:List LV):List (List AV):=vs.reverse.map lvC
def roC(nf:Bool)(vs:List LV):AO:=if nf then .dead else .row 3 (lvR vs)
def wC(id:Nat)(nf:Bool)(fns:List Fd)(k:Nat)(w:WS):List AV:=[.p (fdL fns),.p (.int .i64 k),vaC nf id w.vs.length,.p (.int .i64 w.count),.p (.int .i64 w.code)]
def wO(id:Nat)(nf:Bool)(fns:List Fd)(k:Nat)(w:WS):AO:= .row 5 [wC id nf fns k w]
def HWk(nf:Bool)(fns:List Fd)(k:Nat)(w:WS):List AO:=[wO 1 nf fns k w,roC nf w.vs]
theorem tR(vs:List LV):(lvR vs).length=vs.length:=by simp[lvR]
theorem Bp(vs:List LV):∀x∈lvR vs,aj 0 x:=by
 intro x hx;obtain⟨m,_,rfl⟩:=Qx.1 hx;simp[lvC,aj,below]
theorem fy(nf:Bool)(vs:List LV)(n:Nat):okO n (roC nf vs):=by
 cases nf
 ·exact cA (λe he=>Bp vs e he)
 ·exact trivial
theorem FB{nf:Bool}{id n m:Nat}(h:id<m):below m (vaC nf id n):=by cases nf<;>simp[vaC,below,h]
theorem vQ{id:Nat}{nf:Bool}{fns:List Fd}{k:Nat}{w:WS}{m:Nat}(h:id<m):aj m (wC id nf fns k w):=⟨by simp,by simp,FB h,by simp,by simp,trivial⟩
theorem sW{id:Nat}{nf:Bool}{fns:List Fd}{k:Nat}{w:WS}{m:Nat}(h:id<m):okO m (wO id nf fns k w):=by
 intro e he;rw[Qt.1 he];exact vQ h
theorem Ko(σ:List Nat)(nf:Bool)(id n:Nat):ren σ (vaC nf id n)=vaC nf (σ.getD id 0) n:=by cases nf<;>rfl
theorem zS(σ:List Nat)(id:Nat)(nf:Bool)(fns:List Fd)(k:Nat)(w:WS):bx σ (wC id nf fns k w)=wC (σ.getD id 0) nf fns k w:=by
 simp only[wC,bx,Ko];rfl
theorem DY(σ:List Nat)(id:Nat)(nf:Bool)(fns:List Fd)(k:Nat)(w:WS):kf σ (wO id nf fns k w)=wO (σ.getD id 0) nf fns k w:=by
 simp only[wO,kf,QI,List.map_nil,zS]
theorem Co(σ:List Nat)(nf:Bool)(vs:List LV):kf σ (roC nf vs)=roC nf vs:=by
 cases nf
 ·show AO.row 3 ((lvR vs).map (bx σ))= .row 3 (lvR vs)
  rw[Qz (g:=id) λx hx=>gB σ x (Bp vs x hx)];simp
 ·rfl
theorem Dg(pre:List LV)(v:LV)(r:List LV):(lvR (pre++v::r))[r.length]?=some (lvC v):=by
 simp[lvR]
theorem Hz(v:LV)(r:List LV):lvR (v::r)=lvR r++[lvC v]:=by simp[lvR]
def rO:List LV->List UInt8->Int
 |[],_=> -1
 |v::r,s=>if v.name=s then r.length else rO r s
theorem sH:∀(vs:List LV) (s:List UInt8),(lkV vs s=none/\rO vs s= -1)\/∃pre v r,vs=pre++v::r/\lkV vs s=some v/\rO vs s=r.length
 |[],s=> .inl ⟨rfl,rfl⟩
 |v::r,s=>by
  by_cases h:v.name=s
  ·exact .inr ⟨[],v,r,rfl,by simp[lkV,h],by simp[rO,h]⟩
  ·have h1:lkV (v::r) s=lkV r s:=by simp[lkV,h]
   have h2:rO (v::r) s=rO r s:=by simp[rO,h]
   rw[h1,h2]
   rcases sH r s with h|⟨pre,u,q,e,h⟩
   ·exact .inl h
   ·exact .inr ⟨v::pre,u,q,by rw[e];rfl,h⟩
theorem pH:AK.whole fN=FK.ak fU:=rfl
variable (G:aq)
theorem GA(l:List Fd)(s:List UInt8)(hl:l.length<=1099511627776):VF Tryz.prog G jS [.agg [.p (fdL l)],.p (.str s)] (.p (.int .i64 (ixI (dq l s)))):=by
 refine AC.go Cd ?_
 have hfl:∀l,fdL l= .lst 3 (l.map Fd.cs):=λ_=>rfl
 simp-implicitDefEqProofs[tB,hfl]
 refine an (λi:Nat=>ag 22 [(1,.p (.str s)),(2,.ptr 0 1 0 0),(5,.p (.int .i64 i))]) (λ_=>[.row 1 [[.p (.lst 3 (l.map Fd.cs))]]]) (λi=>i<=l.length/\∀f∈l.take i,f.name≠s) (λi=>l.length-i) 0 (by simp) (ab (by simp) (by simp[okO]) (by simp[below])) ?_
 intro i ⟨hi,hn⟩
 simp-implicitDefEqProofs[]
 refine aQ (λh=>?_) (λh=>?_)
 ·simp at h
  have hg:=Qd h
  have hce:l[i].cs=[.str l[i].name,aB l[i].params,smL l[i].body]:=rfl
  by_cases he:l[i].name=s
  ·have hf:dq l s=some i:=by
    rw[dq,Qy]
    exact⟨h,by simpa using he,λj hj=>by have:=hn l[j] (List.mem_take_iff_getElem.2 ⟨j,by omega,rfl⟩);simpa using this⟩
   simp-implicitDefEqProofs[hg,hce,he,hf,ixI]
  ·simp-implicitDefEqProofs[hg,hce,he]
   refine⟨i+1,⟨h,λp hp=>?_⟩,by omega,ab (by simp) (by simp[okO]) (by simp[below,w1 (i:=i) (by omega)])⟩
   rw[al h] at hp
   rcases Qn.1 hp with hp|hp
   ·exact hn p hp
   ·rw[Qt.1 hp];exact he
 ·simp at h
  rw[Qk h] at hn
  have hf:dq l s=none:=by
   rw[dq,QQ];intro x hx;simpa using hn x hx
  simp-implicitDefEqProofs[hf,ixI]
theorem Mz:∀m:Nat,m<26->((([97,98,99,100,101,102,103,104,105,106,107,108,109,110,111,112,113,114,115,116,117,118,119,120,121,122]:List UInt8).take (m+1)).drop m)=[UInt8.ofNat (97+m)]:=by decide
theorem KD:∀m:Nat,m<26->List.drop m ((97:UInt8)::List.take m [98,99,100,101,102,103,104,105,106,107,108,109,110,111,112,113,114,115,116,117,118,119,120,121,122])=[97+UInt8.ofNat m]:=by decide
theorem uP(n:Nat):VF Tryz.prog G hY [.p (.int .i64 n)] (.p (.str (vnm n))):=by
 refine AC.go yK ?_
 have hm:n%26<26:=Nat.mod_lt _ (by omega)
 have ht:(n:Int).tmod 26=((n%26:Nat):Int):=rfl
 have hw:IntKind.i64.wrap (((n%26:Nat):Int)+1)=((n%26+1:Nat):Int):=w1 (by omega)
 have habc:=Mz _ hm
 rw[vnm]
 generalize n%26=m at hm ht hw habc
 have h0:(0:Int)<=(m:Int)+1:=by omega
 have h1:m+1<=26:=by omega
 simp-implicitDefEqProofs[oJ,ht,hw,h0,h1]
 exact⟨by omega,KD m hm⟩
theorem nH(nf:Bool)(fns:List Fd)(k:Nat)(w:WS)(c:Int):AC Tryz.prog G bg [.ptr 0 5 0 0,.p (.int .i64 c)] (HWk nf fns k w) λx h=>x= .ret (.tup [])/\h=HWk nf fns k ⟨w.vs,w.count,fl w.code c⟩:=by
 refine AC.go oV ?_
 by_cases h0:w.code=0
 ·simp-implicitDefEqProofs[fC,HWk,wO,wC,h0,fl]
 ·simp-implicitDefEqProofs[fC,HWk,wO,wC,h0,fl]
theorem uI(nf:Bool)(fns:List Fd)(k:Nat)(w:WS):∀o∈HWk nf fns k w,okO 2 o:=by
 intro o ho
 simp only[HWk,QH,List.not_mem_nil,or_false] at ho
 rcases ho with rfl|rfl
 ·exact sW (by omega)
 ·exact fy _ _ _
theorem EJ(nf:Bool)(fns:List Fd)(k:Nat)(w:WS)(hn:nf=true->w.vs=[])(hl:w.vs.length<=1099511627776)(s:List UInt8):AC Tryz.prog G de [.ptr 0 5 0 0,.p (.str s)] (HWk nf fns k w) λx h=>x= .ret (.p (.int .i64 (rO w.vs s)))/\h=HWk nf fns k w:=by
 refine AC.go py ?_
 have hok:=uI nf fns k w
 cases nf with
 |true=>
  have hv:=hn rfl
  rw[HWk] at hok⊢
  simp-implicitDefEqProofs[fz,wO,wC,vaC,hv]
  refine an (λ_:Unit=>ag 27 [(0,.ptr 0 5 0 0),(1,.p (.str s)),(5,.p (.int .i64 (-1)))]) (λ_=>[wO 1 true fns k w,roC true w.vs]) (λ_=>True) (λ_=>0) () trivial ?_ ?_
  ·have e:wO 1 true fns k w= .row 5 [[.p (fdL fns),.p (.int .i64 k),.nils,.p (.int .i64 w.count),.p (.int .i64 w.code)]]:=by simp[wO,wC,vaC]
   rw[←e,←hv]
   exact ab (by simp) hok (by simp[below,ah (x:= -1) (by omega) (by omega)])
  ·intro _ _
   simp-implicitDefEqProofs[rO]
   simp[wO,wC,vaC,hv]
 |false=>
  rw[HWk] at hok⊢
  have e:∀r,roC false r= .row 3 (lvR r):=λ_=>rfl
  have hw0:IntKind.i64.wrap ((w.vs.length:Int)-1)=(w.vs.length:Int)-1:=ah (by omega) (by omega)
  simp-implicitDefEqProofs[fz,wO,wC,vaC,hw0]
  refine an (λr:List LV=>ag 27 [(0,.ptr 0 5 0 0),(1,.p (.str s)),(5,.p (.int .i64 ((r.length:Int)-1)))]) (λ_=>[wO 1 false fns k w,roC false w.vs]) (λr=>∃pre,w.vs=pre++r/\rO w.vs s=rO r s) (λr=>r.length) w.vs ⟨[],rfl,rfl⟩ ?_ ?_
  ·exact ab (h:=[wO 1 false fns k w,roC false w.vs]) (by simp) hok (by simp[below])
  ·rintro r ⟨pre,e1,e2⟩
   cases r with
   |nil=>
    simp-implicitDefEqProofs[wO,wC,vaC]
    rw[e2];rfl
   |cons v r=>
    have hat:=Dg pre v r
    rw[←e1] at hat
    have hlen:r.length<w.vs.length:=by rw[e1];simp;omega
    have hll:=tR w.vs
    have c1:((r.length+1:Nat):Int)-1=(r.length:Int):=by omega
    have hw1:IntKind.i64.wrap ((r.length:Int)-1)=(r.length:Int)-1:=ah (by omega) (by omega)
    by_cases hs:v.name=s
    ·simp-implicitDefEqProofs[wO,wC,vaC,e,c1,hat,hlen,lvC,hs]
     rw[e2];simp[rO,hs]
    ·simp-implicitDefEqProofs[wO,wC,vaC,e,c1,hat,hlen,lvC,hs]
     refine⟨r,⟨⟨pre++[v],by rw[e1];simp⟩,by rw[e2];simp[rO,hs]⟩,by simp,?_⟩
     refine ab (h:=[wO 1 false fns k w,roC false w.vs]) (by simp) hok ?_
     simp[below,hw1]
theorem Il(nf:Bool)(fns:List Fd)(k:Nat)(w:WS)(hn:nf=true->w.vs=[])(hl:w.vs.length<=1099511627776)(s:List UInt8):AC Tryz.prog G dK [.ptr 0 5 0 0,.p (.str s)] (HWk nf fns k w) λx h=>x= .ret (.p (.str (vC w.vs s)))/\h=HWk nf fns k ⟨w.vs,w.count,tF w.vs s w.code⟩:=by
 refine AC.go pW ?_
 simp-implicitDefEqProofs[jI]
 refine(EJ G nf fns k w hn hl s).mono ?_
 rintro r h ⟨rfl,rfl⟩
 rcases sH w.vs s with⟨e1,e2⟩|⟨pre,v,q,e0,e1,e2⟩
 ·simp-implicitDefEqProofs[aa,e2]
  refine(nH G nf fns k w 3).mono ?_
  rintro r h ⟨rfl,rfl⟩
  simp-implicitDefEqProofs[aa,vC,tF,e1]
 ·have hat:=Dg pre v q
  rw[←e0] at hat
  have hlen:q.length<w.vs.length:=by rw[e0];simp;omega
  have hnf:nf=false:=by
   cases nf with
   |false=>rfl
   |true=>rw[hn rfl] at e0;simp at e0
  subst hnf
  have e:∀r,roC false r= .row 3 (lvR r):=λ_=>rfl
  have hq:¬(q.length:Int)<0:=by omega
  simp-implicitDefEqProofs[aa,e2,hq,HWk,wO,wC,vaC,e,hat,hlen,lvC]
  refine(uP G v.num).use ?_
  simp-implicitDefEqProofs[vC,tF,e1]
theorem Gu(nf:Bool)(fns:List Fd)(k:Nat)(w:WS)(hn:nf=true->w.vs=[])(hl:w.vs.length<=1099511627776)(hc:w.count<=1099511627776)(s:List UInt8)(b:Nat):AC Tryz.prog G dL [.ptr 0 5 0 0,.p (.str s),.p (.int .i64 b)] (HWk nf fns k w) λx h=>x= .ret (.p (.str (vnm w.count)))/\h=[wO 2 false fns k (kH w s b),.dead,roC false (kH w s b).vs]:=by
 refine AC.goK pA pH ?_
 have hw1:IntKind.i64.wrap ((w.count:Int)+1)=(w.count:Int)+1:=ah (by omega) (by omega)
 have hw2:IntKind.i64.wrap ((w.count:Int)+1-1)=(w.count:Int):=by rw[ah (by omega) (by omega)];omega
 have hw3:IntKind.i64.wrap (w.count:Int)=(w.count:Int):=ah (by omega) (by omega)
 have hll:=tR w.vs
 simp-implicitDefEqProofs[fN,fU]
 refine(EJ G nf fns k w hn hl s).mono ?_
 rintro r h ⟨rfl,rfl⟩
 simp-implicitDefEqProofs[aa]
 refine lF (ag 57 [(0,.ptr 0 5 0 0),(1,.p (.str s)),(2,.p (.int .i64 b))]) (HWk nf fns k ⟨w.vs,w.count,yk w.vs s b w.code⟩) ?_ ?_
 ·rcases sH w.vs s with⟨e1,e2⟩|⟨pre,v,q,e0,e1,e2⟩
  ·simp-implicitDefEqProofs[e2,yk,e1]
   exact ab (by simp[HWk]) (uI nf fns k w) (by simp[below,HWk])
  ·have hat:=Dg pre v q
   rw[←e0] at hat
   have hlen:q.length<w.vs.length:=by rw[e0];simp;omega
   have hnf:nf=false:=by
    cases nf with
    |false=>rfl
    |true=>rw[hn rfl] at e0;simp at e0
   subst hnf
   have e:∀r,roC false r= .row 3 (lvR r):=λ_=>rfl
   have hq:(0:Int)<=(q.length:Int):=by omega
   by_cases hb:v.block=b
   ·have:=nH G false fns k w 2
    simp only[HWk,wO,wC,vaC,e] at this
    simp-implicitDefEqProofs[e2,HWk,wO,wC,vaC,e,hat,hlen,lvC,hb]
    refine this.mono ?_
    rintro r h ⟨rfl,rfl⟩
    have hp:yk w.vs s b w.code=fl w.code 2:=by simp[yk,e1,hb]
    rw[hp]
    simp-implicitDefEqProofs[aa]
    refine ab (h:=HWk false fns k ⟨w.vs,w.count,fl w.code 2⟩) ?_ (uI _ _ _ _) ?_
    ·simp[HWk]
    ·simp[below,HWk]
   ·have hp:yk w.vs s b w.code=w.code:=by simp[yk,e1,hb]
    have hbi:¬(v.block:Int)=(b:Int):=by omega
    rw[hp]
    simp-implicitDefEqProofs[e2,HWk,wO,wC,vaC,e,hat,hlen,lvC,hbi]
    refine ab (h:=HWk false fns k w) ?_ (uI _ _ _ _) ?_
    ·simp[HWk]
    ·simp[below,HWk]
 ·cases nf with
  |true=>
   have hv:=hn rfl
   simp-implicitDefEqProofs[HWk,wO,wC,vaC,roC,hv,hw1,hw2,hw3]
   refine(uP G w.count).use ?_
   simp-implicitDefEqProofs[kH,lvR,lvC,hv]
  |false=>
   have e:∀r,roC false r= .row 3 (lvR r):=λ_=>rfl
   simp-implicitDefEqProofs[HWk,wO,wC,vaC,e,hw1,hw2,hw3,hll]
   refine⟨by omega,?_⟩
   refine(uP G w.count).use ?_
   simp-implicitDefEqProofs[kH,Hz,lvC]
   rw[Qk (by omega)]
end
section
theorem pp:AK.whole fx=FK.ak ft:=rfl
variable (G:aq)
theorem Bt{f:FuncId}{args:List AV}{nf:Bool}{fns:List Fd}{k:Nat}{w w':WS}{v:AV}(H:AC Tryz.prog G f args (HWk nf fns k w) λx h=>x= .ret v/\h=HWk nf fns k w')(rest:List AO)(ha:aj 2 args):
 AC Tryz.prog G f args (wO 1 nf fns k w::roC nf w.vs::rest) λx h=>x= .ret v/\h=wO 1 nf fns k w'::roC nf w'.vs::rest:=by
 refine(AC.pre H rest ha (uI _ _ _ _) ?_).mono ?_
 ·rintro x h ⟨_,rfl⟩;rfl
 ·rintro x h ⟨h1,⟨rfl,rfl⟩,rfl⟩
  exact⟨rfl,rfl⟩
theorem rI{n id:Nat}(hn:id<n){nf nf':Bool}{fns:List Fd}{k:Nat}{w:WS}{vs:List LV}{l:List AO}(r:∀o∈l,okO n o):∀o∈wO id nf fns k w::roC nf' vs::l,okO n o:=af (sW hn) (af (fy _ _ _) r)
theorem uY{ρ π:List Nat}{h r1:List AO}{i id:Nat}{nf:Bool}{fns:List Fd}{k:Nat}{w:WS}(hid:id<ρ.length)(e:h[i]?=some (wO (ρ.getD id 0) nf fns k w))(hr:HW ρ h π r1):HW ρ h (i::π) (wO id nf fns k w::r1):=by
 refine lC (es:=[wC id nf fns k w]) (λx hx=>?_) ?_ hr
 ·rw[Qt.1 hx];exact vQ hid
 ·rw[e,QI,List.map_nil,zS];rfl
theorem FF{α:Type}{l:List α}{i j:Nat}{a b:α}(hij:i≠j)(h:l[j]?=some b):(l.set i a).set j b=l.set i a:=by
 apply List.ext_getElem?
 intro n
 rw[List.getElem?_set]
 split
 ·rename_i e
  subst e
  rw[QB hij,h]
  rw[if_pos (by rw[Rl];exact(Qf.1 h).1)]
 ·rfl
theorem Ap(ρ:List Nat):∀l:List AV,aj 0 l->TW ρ l l
 |[],_=>by simp
 |v::r,h=>by
  rw[Ah]
  refine⟨.inr ⟨(aH (Ri _) [v] ⟨h.1,trivial⟩).1,?_⟩,Ap ρ r h.2⟩
  have:=gB ρ [v] ⟨h.1,trivial⟩
  simpa[bx] using this
theorem Nr{h:List AO}{wid id:Nat}{nf:Bool}{fns:List Fd}{k:Nat}{w:WS}(e0:h[wid]?=some (wO id nf fns k w))(e1:h[id]?=some (roC nf w.vs)):HW [wid,id] h [wid,id] (HWk nf fns k w):=by
 refine lC (es:=[wC 1 nf fns k w]) (λx hx=>?_) ?_ ?_
 ·rw[Qt.1 hx];exact vQ (by simp)
 ·rw[e0,QI,List.map_nil,zS];rfl
 ·exact tf e1 (fy _ _ _) bJ
theorem Ma{f:FuncId}{args:List AV}{nf:Bool}{fns:List Fd}{k:Nat}{w:WS}{v:AV}{c:Int}(H:AC Tryz.prog G f (.ptr 0 5 0 0::args) (HWk nf fns k w) λx h=>x= .ret v/\h=HWk nf fns k ⟨w.vs,w.count,c⟩)(ha:aj 0 args)(hv:below 0 v)
 {h:List AO}{wid id:Nat}(hid:wid≠id)(e0:h[wid]?=some (wO id nf fns k w))(e1:h[id]?=some (roC nf w.vs)):
 AC Tryz.prog G f (.ptr wid 5 0 0::args) h λx h'=>x= .ret v/\h'=h.set wid (wO id nf fns k ⟨w.vs,w.count,c⟩):=by
 refine(H.frame [wid,id] (by simp[hid]) ?_ (Nr e0 e1)).mono ?_
 ·rw[Ah];exact⟨.inr ⟨by simp[below],rfl⟩,Ap _ _ ha⟩
 ·rintro x h' ⟨x0,h0,⟨rfl,rfl⟩,_,rfl,rfl⟩
  refine⟨?_,?_⟩
  ·have:=gB ([wid,id]++List.range' h.length ((HWk nf fns k ⟨w.vs,w.count,c⟩).length-(HWk nf fns k w).length)) [v] ⟨hv,trivial⟩
   simp only[bx] at this
   simp only[CM]
   exact congrArg ARes.ret (List.cons.inj this).1
  ·simp only[HWk,Qw,List.length_nil,Nat.sub_self,List.range'_zero,QK,List.take_succ_cons,List.take_zero,QI,List.map_nil,List.drop_succ_cons,List.drop_zero,DY,Co,mrg]
   exact FF hid e1
theorem Je{f:FuncId}{args:List AV}{nf:Bool}{fns:List Fd}{k:Nat}{w:WS}{v:AV}{Q:Bool->WS->Prop}(H:AC Tryz.prog G f (.ptr 0 5 0 0::args) (HWk nf fns k w) λx h=>∃nf' w',x= .ret v/\h=[wO 2 nf' fns k w',.dead,roC nf' w'.vs]/\Q nf' w')(ha:aj 0 args)(hv:below 0 v)
 {h:List AO}{wid id:Nat}(hid:wid≠id)(e0:h[wid]?=some (wO id nf fns k w))(e1:h[id]?=some (roC nf w.vs)):
 AC Tryz.prog G f (.ptr wid 5 0 0::args) h λx h'=>∃nf' w',x= .ret v/\h'=(h.set wid (wO h.length nf' fns k w')).set id .dead++[roC nf' w'.vs]/\Q nf' w':=by
 refine(H.frame [wid,id] (by simp[hid]) ?_ (Nr e0 e1)).mono ?_
 ·rw[Ah];exact⟨.inr ⟨by simp[below],rfl⟩,Ap _ _ ha⟩
 ·rintro x h' ⟨x0,h0,⟨nf',w',rfl,rfl,q⟩,_,rfl,rfl⟩
  refine⟨nf',w',?_,?_,q⟩
  ·have:=gB ([wid,id]++List.range' h.length ([wO 2 nf' fns k w',.dead,roC nf' w'.vs].length-(HWk nf fns k w).length)) [v] ⟨hv,trivial⟩
   simp only[bx] at this
   simp only[CM]
   exact congrArg ARes.ret (List.cons.inj this).1
  ·simp only[HWk,Qw,List.length_nil,List.take_succ_cons,List.take_zero,QI,List.map_nil,List.drop_succ_cons,List.drop_zero,DY,Co,mrg]
   rfl
theorem zq(fns:List Fd)(k:Nat)(vs:List LV):∀(a b:List Ex) (c:Int),dw fns k vs (a++b) c=dw fns k vs b (dw fns k vs a c)
 |[],b,c=>rfl
 |e::r,b,c=>by rw[QO,dw,dw,zq fns k vs r]
theorem pK(vs:List LV):∀l:List Ex,jz vs l=l.map (rnE vs)
 |[]=>rfl
 |e::r=>by rw[jz,pK vs r];rfl
theorem xV{fns:List Fd}{k:Nat}{vs:List LV}{l:List Ex}{c:Int}{i:Nat}(h:i<l.length):dw fns k vs (l.take (i+1)) c=Cs fns k vs l[i] (dw fns k vs (l.take i) c):=by
 rw[al h,zq];rfl
theorem zy{vs:List LV}{l:List Ex}{i:Nat}(h:i<l.length):jz vs (l.take (i+1))=jz vs (l.take i)++[rnE vs l[i]]:=by
 rw[pK,pK,al h,Rd];rfl
theorem ro(vs:List LV)(l:List Ex):(jz vs l).length=l.length:=by rw[pK,Qu]
theorem tV(l:List Ex):(exR l).length=l.length:=by simp[exR]
theorem tW(a b:List Ex):exR (a++b)=exR a++exR b:=by simp[exR]
theorem rC{h:List AO}{id:Nat}{l:List Ex}(e:h[id]?=some (.row 4 (exR l))):View h (.sl id 4 0 l.length) (exL l):=by
 have:=ib (h:=h) (id:=id) (sz:=4) (n:=l.length) (ls:=l.map Ex.cs) (by rw[e,exR];simp) (by simp) (λx hx=>by obtain⟨b,_,rfl⟩:=Qx.1 hx;exact b.cs_len)
 exact this
theorem JT{fns:List Fd}{s:List UInt8}{j:Nat}(h:dq fns s=some j):j<fns.length:=by
 rw[dq,Qy] at h;exact h.1
theorem JZ{fns:List Fd}{k:Nat}(hf:fns.length<=1099511627776):∀(N:Nat) (e:Ex),e.sz<=N->N<=1099511627776->∀(nf:Bool) (w:WS),(nf=true->w.vs=[])->w.vs.length<=1099511627776->
 AC Tryz.prog G cg [.ptr 0 5 0 0,.agg (e.cs.map .p)] (HWk nf fns k w) λx h=>x= .ret (.agg ((rnE w.vs e).cs.map .p))/\h=HWk nf fns k ⟨w.vs,w.count,Cs fns k w.vs e w.code⟩:=by
 intro N
 induction N with
 |zero=>intro e he;have:=e.sz_eq;omega
 |succ N ih=>
  intro e he hN nf w hn hl
  have hec:=e.cs_eq
  have hsz:=e.sz_eq
  have hkl:=aS e.kids
  have hre:(rnE w.vs e).cs=[.int .i64 e.op,.int .i64 e.n,.str (if e.op=2 then vC w.vs e.name else e.name),exL (jz w.vs e.kids)]:=by
   obtain⟨o,n,s,ks⟩:=e;rw[rnE,Ex.cs_eq];rfl
  have hce:Cs fns k w.vs e w.code=dw fns k w.vs e.kids (oQ fns k w.vs e.op e.name e.kids.length w.code):=by
   obtain⟨o,n,s,ks⟩:=e;rfl
  have main:AC Tryz.prog G cg [.ptr 0 5 0 0,.agg (e.cs.map .p)] (HWk nf fns k w) λx h=>∃E1 E2,x= .ret (.agg [.p (.int .i64 e.op),.p (.int .i64 e.n),.p (.str (if e.op=2 then vC w.vs e.name else e.name)),.sl 4 4 0 e.kids.length])/\
   h=[wO 1 nf fns k ⟨w.vs,w.count,Cs fns k w.vs e w.code⟩,roC nf w.vs,E1,E2,.row 4 (exR (jz w.vs e.kids))]:=by
   refine AC.goK pc pp ?_
   simp-implicitDefEqProofs[fx,ft,HWk,hec]
   refine lF (ag 75 [(0,.ptr 0 5 0 0),(3,.ptr 2 4 0 0),(4,.ptr 3 4 0 0)]) [wO 1 nf fns k ⟨w.vs,w.count,if e.op=2 then tF w.vs e.name w.code else w.code⟩,roC nf w.vs,.row 4 [[.p (.int .i64 e.op),.p (.int .i64 e.n),.p (.str (if e.op=2 then vC w.vs e.name else e.name)),.p (exL e.kids)]],.row 4 [[.p (.int .i64 0),.p (.int .i64 0),.p (.str []),.nils]]] ?_ ?_
   ·by_cases o2:e.op=2
    ·simp-implicitDefEqProofs[o2]
     refine(Bt G (Il G nf fns k w hn hl e.name) _ (by simp[below])).mono ?_
     rintro r h ⟨rfl,rfl⟩
     simp-implicitDefEqProofs[aa]
     exact ab (by simp) (rI (by simp) (by simp[okO,below])) (by simp[below])
    ·simp-implicitDefEqProofs[o2]
     exact ab (by simp) (rI (by simp) (by simp[okO,below])) (by simp[below])
   refine lF (ag 75 [(0,.ptr 0 5 0 0),(3,.ptr 2 4 0 0),(4,.ptr 3 4 0 0)]) [wO 1 nf fns k ⟨w.vs,w.count,oQ fns k w.vs e.op e.name e.kids.length w.code⟩,roC nf w.vs,.row 4 [[.p (.int .i64 e.op),.p (.int .i64 e.n),.p (.str (if e.op=2 then vC w.vs e.name else e.name)),.p (exL e.kids)]],.row 4 [[.p (.int .i64 0),.p (.int .i64 0),.p (.str []),.nils]]] ?_ ?_
   ·by_cases o13:e.op=13
    ·have hhd:oQ fns k w.vs e.op e.name e.kids.length w.code=pL fns k e.name e.kids.length w.code:=by simp[oQ,o13]
     rw[hhd]
     simp-implicitDefEqProofs[o13,wO,wC]
     refine(GA G fns e.name hf).use ?_
     have fin:∀c:Int,Wk 2 (ag 75 [(0,.ptr 0 5 0 0),(3,.ptr 2 4 0 0),(4,.ptr 3 4 0 0)]) [wO 1 nf fns k ⟨w.vs,w.count,c⟩,roC nf w.vs,.row 4 [[.p (.int .i64 13),.p (.int .i64 e.n),.p (.str e.name),.p (exL e.kids)]],.row 4 [[.p (.int .i64 0),.p (.int .i64 0),.p (.str []),.nils]]] (ag 75 [(0,.ptr 0 5 0 0),(3,.ptr 2 4 0 0),(4,.ptr 3 4 0 0)]) [wO 1 nf fns k ⟨w.vs,w.count,c⟩,roC nf w.vs,.row 4 [[.p (.int .i64 13),.p (.int .i64 e.n),.p (.str e.name),.p (exL e.kids)]],.row 4 [[.p (.int .i64 0),.p (.int .i64 0),.p (.str []),.nils]]]:=λc=>
      ab (by simp) (rI (by simp) (by simp[okO,below])) (by simp[below])
     cases hfa:dq fns e.name with
     |none=>
      simp-implicitDefEqProofs[ixI,pL,hfa]
      refine(Bt G (nH G nf fns k w 4) _ (by simp[below])).mono ?_
      rintro r h ⟨rfl,rfl⟩
      simp-implicitDefEqProofs[aa]
      exact ab (h:=[wO 1 nf fns k ⟨w.vs,w.count,fl w.code 4⟩,roC nf w.vs,.row 4 [[.p (.int .i64 13),.p (.int .i64 e.n),.p (.str e.name),.p (exL e.kids)]],.row 4 [[.p (.int .i64 0),.p (.int .i64 0),.p (.str []),.nils]]]) (by simp) (rI (by simp) (by simp[okO,below])) (by simp[below])
     |some j=>
      have hj:=JT hfa
      have hg:=Qd hj
      have hjn:¬(j:Int)<0:=by omega
      by_cases hkj:k<=j
      ·have hkj':(k:Int)<=(j:Int):=by omega
       simp-implicitDefEqProofs[ixI,pL,hfa,hkj,hkj',hjn]
       refine(Bt G (nH G nf fns k w 4) _ (by simp[below])).mono ?_
       rintro r h ⟨rfl,rfl⟩
       simp-implicitDefEqProofs[aa]
       exact ab (h:=[wO 1 nf fns k ⟨w.vs,w.count,fl w.code 4⟩,roC nf w.vs,.row 4 [[.p (.int .i64 13),.p (.int .i64 e.n),.p (.str e.name),.p (exL e.kids)]],.row 4 [[.p (.int .i64 0),.p (.int .i64 0),.p (.str []),.nils]]]) (by simp) (rI (by simp) (by simp[okO,below])) (by simp[below])
      ·have hkj':¬(k:Int)<=(j:Int):=by omega
       have hfl:fdL fns= .lst 3 (fns.map Fd.cs):=rfl
       have hcs:fns[j].cs=[.str fns[j].name,aB fns[j].params,smL fns[j].body]:=rfl
       have hst:aB fns[j].params= .lst 1 (fns[j].params.map λw=>[.str w]):=rfl
       have hxl:∀l,exL l= .lst 4 (l.map Ex.cs):=λ_=>rfl
       have hpn:AZ fns j=fns[j].params.length:=by simp[AZ,hg]
       by_cases hp:fns[j].params.length=e.kids.length
       ·have hcc:pL fns k e.name e.kids.length w.code=w.code:=by simp[pL,hfa,hkj,hpn,hp]
        rw[hcc]
        simp-implicitDefEqProofs[ixI,hkj',hjn,hfl,hg,hcs,hst,hxl,hp]
        exact ab (h:=[wO 1 nf fns k w,roC nf w.vs,.row 4 [[.p (.int .i64 13),.p (.int .i64 e.n),.p (.str e.name),.p (exL e.kids)]],.row 4 [[.p (.int .i64 0),.p (.int .i64 0),.p (.str []),.nils]]]) (by simp) (rI (by simp) (by simp[okO,below])) (by simp[below])
       ·have hcc:pL fns k e.name e.kids.length w.code=fl w.code 5:=by simp[pL,hfa,hkj,hpn,hp]
        have hp':¬(fns[j].params.length:Int)=(e.kids.length:Int):=by omega
        rw[hcc]
        simp-implicitDefEqProofs[ixI,hkj',hjn,hfl,hg,hcs,hst,hxl,hp']
        refine(Bt G (nH G nf fns k w 5) _ (by simp[below])).mono ?_
        rintro r h ⟨rfl,rfl⟩
        simp-implicitDefEqProofs[aa]
        exact ab (h:=[wO 1 nf fns k ⟨w.vs,w.count,fl w.code 5⟩,roC nf w.vs,.row 4 [[.p (.int .i64 13),.p (.int .i64 e.n),.p (.str e.name),.p (exL e.kids)]],.row 4 [[.p (.int .i64 0),.p (.int .i64 0),.p (.str []),.nils]]]) (by simp) (rI (by simp) (by simp[okO,below])) (by simp[below])
    ·have hhd:oQ fns k w.vs e.op e.name e.kids.length w.code=if e.op=2 then tF w.vs e.name w.code else w.code:=by simp[oQ,o13]
     rw[hhd]
     simp-implicitDefEqProofs[o13]
     exact ab (by simp) (rI (by simp) (by simp[okO,below])) (by simp[below])
   rw[hce]
   generalize oQ fns k w.vs e.op e.name e.kids.length w.code=c2
   generalize (if e.op=2 then vC w.vs e.name else e.name)=s1
   have hxl:exL e.kids= .lst 4 (e.kids.map Ex.cs):=rfl
   simp-implicitDefEqProofs[]
   refine an (λi:Nat=>ag 75 [(0,.ptr 0 5 0 0),(3,.ptr 2 4 0 0),(4,.ptr 3 4 0 0),(6,.sl 4 4 0 i),(7,.p (.int .i64 i))])
    (λi=>[wO 1 nf fns k ⟨w.vs,w.count,dw fns k w.vs (e.kids.take i) c2⟩,roC nf w.vs,.row 4 [[.p (.int .i64 e.op),.p (.int .i64 e.n),.p (.str s1),.p (exL e.kids)]],.row 4 [[.p (.int .i64 0),.p (.int .i64 0),.p (.str []),.nils]],.row 4 (exR (jz w.vs (e.kids.take i)))])
    (λi=>i<=e.kids.length) (λi=>e.kids.length-i) 0 (by simp) ?_ ?_
   ·exact ab (by simp) (rI (by simp) (by simp[okO,below])) (by simp[below])
   ·intro i hi
    have hrl:(exR (jz w.vs (e.kids.take i))).length=i:=by rw[tV,ro];simp;omega
    simp-implicitDefEqProofs[hxl]
    refine aQ (λh=>?_) (λh=>?_)
    ·simp at h
     have hg:=Qd h
     have hks:=aF (Qj h)
     have hkc:=(rnE w.vs e.kids[i]).cs_eq
     simp-implicitDefEqProofs[hg]
     refine(Bt G (ih e.kids[i] (by omega) (by omega) nf ⟨w.vs,w.count,dw fns k w.vs (e.kids.take i) c2⟩ hn hl) _ (by simp[below])).mono ?_
     rintro r h ⟨rfl,rfl⟩
     rw[show(rnE (WS.mk w.vs w.count (dw fns k w.vs (e.kids.take i) c2)).vs e.kids[i])=rnE w.vs e.kids[i] from rfl]
     simp-implicitDefEqProofs[aa,hkc,hrl]
     refine⟨by omega,?_⟩
     refine⟨i+1,by omega,by omega,?_⟩
     have htk:List.take i (exR (jz w.vs (e.kids.take i)))=exR (jz w.vs (e.kids.take i)):=Qk (by omega)
     rw[xV h,zy h,tW,htk]
     refine gV [0,1,2,3,6] (by simp) (by decide) (by decide) (uY (by simp) rfl (tf rfl (fy _ _ _) (aN rfl (by simp[below]) (aN rfl (by simp[below]) (aN ?_ ?_ bJ))))) (by simp[below,ren,w1 (i:=i) (by omega)])
     ·have:exR [rnE w.vs e.kids[i]]=[[.p (.int .i64 (rnE w.vs e.kids[i]).op),.p (.int .i64 (rnE w.vs e.kids[i]).n),.p (.str (rnE w.vs e.kids[i]).name),.p (exL (rnE w.vs e.kids[i]).kids)]]:=by rw[exR,List.map_singleton,hkc];rfl
      rw[this];rfl
     ·intro x hx
      rcases Qn.1 hx with h|h
      ·exact kV _ x h
      ·exact kV _ x h
    ·simp at h
     have hie:i=e.kids.length:=by omega
     subst hie
     simp-implicitDefEqProofs[]
  refine main.frz 2 (by simp[HWk]) (λt v h ⟨_,_,e,_⟩=>by cases e) ?_
  rintro v h ⟨E1,E2,e,rfl⟩
  cases e
  refine⟨_,HWk nf fns k ⟨w.vs,w.count,Cs fns k w.vs e w.code⟩,by simp,rfl,.agg ?_ .nil,.same (sW (by omega)) (.same (fy _ _ _) (.nil _)),rfl,rfl⟩
  rw[hre]
  have hrl:=ro w.vs e.kids
  rw[←hrl]
  exact .keep (by simp) (.keep (by simp) (.keep (by simp) (.one (rC rfl) .nil)))
end
section
theorem nL:AK.whole eD=FK.ak eF:=rfl
theorem CD(fns:List Fd)(k b:Nat):∀(x y:List Sm) (w:WS),cC fns k b (x++y) w=cC fns k b y (cC fns k b x w)
 |[],y,w=>rfl
 |s::r,y,w=>by rw[QO,cC,cC,CD fns k b r]
theorem Ba(fns:List Fd)(k b:Nat):∀(x y:List Sm) (w:WS),gb fns k b (x++y) w=gb fns k b x w++gb fns k b y (cC fns k b x w)
 |[],y,w=>rfl
 |s::r,y,w=>by rw[QO,gb,gb,Ba fns k b r];rfl
theorem Fw{fns:List Fd}{k b:Nat}{l:List Sm}{w:WS}{i:Nat}(h:i<l.length):cC fns k b (l.take (i+1)) w=stW fns k b l[i] (cC fns k b (l.take i) w):=by
 rw[al h,CD];rfl
theorem Fo{fns:List Fd}{k b:Nat}{l:List Sm}{w:WS}{i:Nat}(h:i<l.length):gb fns k b (l.take (i+1)) w=gb fns k b (l.take i) w++[rnS fns k b l[i] (cC fns k b (l.take i) w)]:=by
 rw[al h,Ba];rfl
theorem uV(fns:List Fd)(k b:Nat):∀(l:List Sm) (w:WS),(gb fns k b l w).length=l.length
 |[],w=>rfl
 |s::r,w=>by rw[gb,Qw,uV fns k b r,Qw]
theorem zQ{l:List Sm}{i:Nat}(h:i<l.length):aG (l.take i)+l[i].sz<=aG l:=by
 have e:l=l.take i++l[i]::l.drop (i+1):=by rw[←Rm h,QN]
 have h2:aG l=aG (l.take i)+(l[i].sz+aG (l.drop (i+1))):=by
  conv=>lhs;rw[e]
  rw[tt];rfl
 omega
def oU(fns:List Fd)(k b:Nat)(l:List Sm)(w:WS):WS:=if 0<b then(cC fns k b l w).back w.vs else cC fns k b l w
theorem CX(fns:List Fd)(k b:Nat)(l:List Sm)(w:WS):(oU fns k b l w).count=w.count+oO l:=by
 unfold oU
 split
 ·exact gy fns k l b w
 ·exact gy fns k l b w
theorem HK{e vs:List LV}:(lvR (e++vs)).take vs.length=lvR vs:=by
 have h:lvR (e++vs)=lvR vs++lvR e:=by simp[lvR]
 rw[h,List.take_append_of_le_length (by rw[tR];exact Qi _),Qk (by rw[tR];exact Qi _)]
theorem ze(l:List Sm):oO l<=aG l:=Nat.le_trans (pI l) (nv l)
theorem Dj(nf:Bool)(id n:Nat):(vaC nf id n).isCell=true:=by cases nf<;>rfl
theorem Gb(nf:Bool)(id n:Nat):(vaC nf id n).cells=[vaC nf id n]:=by cases nf<;>rfl
attribute [simp ↓] Dj Gb
variable (G:aq)
def StP(fns:List Fd)(k b:Nat)(l:List Sm)(w:WS)(x:ARes)(h:List AO):Prop:=∃nf' w',x= .ret (.p (smL (gb fns k b l w)))/\h=[wO 2 nf' fns k w',.dead,roC nf' w'.vs]/\(nf'=true->w'.vs=[])/\w'=oU fns k b l w
structure StS where (i:Nat) (nf:Bool)
theorem Gw{fns:List Fd}{k:Nat}(hf:fns.length<=1099511627776):∀(N:Nat) (l:List Sm),aG l<N->∀(b:Nat) (nf:Bool) (w:WS),(nf=true->w.vs=[])->w.vs.length<=w.count->w.count+aG l<=1099511627776->b+aG l<=1099511627776->
 AC Tryz.prog G bS [.ptr 0 5 0 0,.p (smL l),.p (.int .i64 b)] (HWk nf fns k w) (StP fns k b l w):=by
 intro N
 induction N with
 |zero=>
  intro l hl b nf w hn hv hc hb
  omega
 |succ N ih=>
  intro l hl b nf w hn hv hc hb
  have hll:=aZ l
  refine AC.goK nZ nL ?_
  have hsl:∀l,smL l= .lst 5 (l.map Sm.cs):=λ_=>rfl
  have hlen0:CQ (vaC nf 1 w.vs.length)=some (.p (.int .i64 w.vs.length)):=by
   cases nf
   ·rfl
   ·simp[vaC,hn rfl]
  simp-implicitDefEqProofs[eD,eF,HWk,wO,wC,hlen0]
  refine an (λs:StS=>ag 96 [(0,.ptr 0 5 0 0),(1,.p (smL l)),(2,.p (.int .i64 b)),(7,.sl 2 5 0 s.i),(8,.p (.int .i64 w.vs.length)),(9,.p (.int .i64 s.i))])
   (λs=>[wO 3 s.nf fns k (cC fns k b (l.take s.i) w),.dead,.row 5 (smR (gb fns k b (l.take s.i) w)),roC s.nf (cC fns k b (l.take s.i) w).vs])
   (λs=>s.i<=l.length/\(s.nf=true->(cC fns k b (l.take s.i) w).vs=[])) (λs=>l.length-s.i) ⟨0,nf⟩ ⟨by simp,hn⟩ ?_ ?_
  ·refine Ey [0,1,2,1] (by simp) (by decide) ?_ (uY (by simp) rfl (gY (by simp) (aN rfl (by simp[smR,gb]) (tf rfl (fy _ _ _) bJ)))) (by simp[below,ren])
   cases nf<;>simp[iH,roC,wO,cC]
  ·rintro⟨i,nf⟩ ⟨hi,hn⟩
   simp only at hi hn
   simp-implicitDefEqProofs[hsl]
   refine aQ (λh=>?_) (λh=>?_)
   ·simp at h
    have hg:=Qd h
    have hat:=zQ h
    have hse:=l[i].cs_eq
    have hsz:=l[i].sz_eq
    have hle:=Ee fns k (l:=l.take i) (b:=b) hv
    have hcn:=gy fns k (l.take i) b w
    have hlz:=ze (l.take i)
    have eW:=Fw (fns:=fns) (k:=k) (b:=b) (w:=w) h
    have eR:=Fo (fns:=fns) (k:=k) (b:=b) (w:=w) h
    have hol:=uV fns k b (l.take i) w
    rw[QG,Nat.min_eq_left hi] at hol
    generalize l[i]=s at hg hat hse hsz eW eR
    generalize cC fns k b (l.take i) w=wi at hn hle hcn eW eR⊢
    generalize gb fns k b (l.take i) w=out at hol eR⊢
    obtain⟨o,nme,a,bd,el⟩:=s
    simp only[Sm.op,Sm.name,Sm.args,Sm.body,Sm.els] at hse hsz
    simp-implicitDefEqProofs[hg,hse]
    have hxl:∀l,exL l= .lst 4 (l.map Ex.cs):=λ_=>rfl
    have hal:=aS a
    have hlE:=ze bd
    have hwl:wi.vs.length<=1099511627776:=by omega
    have hopR:∀(x y z u v:AV),aj 0 [x,y,z,u,v]->okO 5 (AO.row 5 [[x,y,z,u,v]]):=λx y z u v hh=>cA (λe he=>by rw[Qt.1 he];exact hh)
    refine an (λj:Nat=>ag 96 [(0,.ptr 0 5 0 0),(1,.p (smL l)),(2,.p (.int .i64 b)),(7,.sl 2 5 0 i),(8,.p (.int .i64 w.vs.length)),(9,.p (.int .i64 i)),(10,.ptr 4 5 0 0),(11,.sl 5 4 0 j),(12,.p (.int .i64 j))])
     (λj=>[wO 3 nf fns k ⟨wi.vs,wi.count,dw fns k wi.vs (a.take j) wi.code⟩,.dead,.row 5 (smR out),roC nf wi.vs,.row 5 [[.p (.int .i64 o),.p (.str nme),.p (exL a),.p (smL bd),.p (smL el)]],.row 4 (exR (jz wi.vs (a.take j)))])
     (λj=>j<=a.length) (λj=>a.length-j) 0 (by simp) ?_ ?_
    ·refine ab (h:=[wO 3 nf fns k wi,.dead,.row 5 (smR out),roC nf wi.vs,.row 5 [[.p (.int .i64 o),.p (.str nme),.p (exL a),.p (smL bd),.p (smL el)]],.row 4 []]) (by simp) (af (sW (by simp)) (af trivial (af (cA (br out)) (af (fy _ _ _) (by simp[okO,below]))))) (by simp[below,hsl])
    intro j hj
    have hrl:(exR (jz wi.vs (a.take j))).length=j:=by rw[tV,ro];simp;omega
    simp-implicitDefEqProofs[hxl]
    refine aQ (λhc=>?_) (λhc=>?_)
    ·simp at hc
     have hga:=Qd hc
     have hks:=aF (Qj hc)
     have hkc:=(rnE wi.vs a[j]).cs_eq
     simp-implicitDefEqProofs[hga]
     refine(Ma G (id:=3) (JZ G hf (a[j].sz) a[j] (Qi _) (by omega) nf ⟨wi.vs,wi.count,dw fns k wi.vs (a.take j) wi.code⟩ hn hwl) (by simp) (by simp[below]) (by decide) rfl rfl).mono ?_
     rintro r h' ⟨rfl,rfl⟩
     rw[show(rnE (WS.mk wi.vs wi.count (dw fns k wi.vs (a.take j) wi.code)).vs a[j])=rnE wi.vs a[j] from rfl]
     simp-implicitDefEqProofs[aa,hkc,hrl]
     refine⟨by omega,j+1,by omega,by omega,?_⟩
     have htk:List.take j (exR (jz wi.vs (a.take j)))=exR (jz wi.vs (a.take j)):=Qk (by omega)
     rw[xV hc,zy hc,tW,htk]
     refine gV [0,1,2,3,4,7] (by simp) (by decide) (by decide) (uY (by simp) rfl (gY (by simp) (aN rfl (br out) (tf rfl (fy _ _ _) (aN rfl (by simp[below]) (aN ?_ ?_ bJ)))))) (by simp[below,ren,hsl,w1 (i:=j) (by omega)])
     ·have:exR [rnE wi.vs a[j]]=[[.p (.int .i64 (rnE wi.vs a[j]).op),.p (.int .i64 (rnE wi.vs a[j]).n),.p (.str (rnE wi.vs a[j]).name),.p (exL (rnE wi.vs a[j]).kids)]]:=by rw[exR,List.map_singleton,hkc];rfl
      rw[this];rfl
     ·intro x hx
      rcases Qn.1 hx with h|h
      ·exact kV _ x h
      ·exact kV _ x h
    simp at hc
    have hje:j=a.length:=by omega
    subst hje
    rw[QC] at hrl⊢
    have hal2:=ro wi.vs a
    simp-implicitDefEqProofs[]
    generalize hw1:WS.mk wi.vs wi.count (dw fns k wi.vs a wi.code)=w1
    have e1v:w1.vs=wi.vs:=by rw[←hw1]
    have e1c:w1.count=wi.count:=by rw[←hw1]
    have e1l:w1.vs.length=wi.vs.length:=by rw[e1v]
    rw[←e1v]
    refine lF (ag 96 [(0,.ptr 0 5 0 0),(1,.p (smL l)),(2,.p (.int .i64 b)),(7,.sl 2 5 0 i),(8,.p (.int .i64 w.vs.length)),(9,.p (.int .i64 i)),(10,.ptr 4 5 0 0)])
     [wO 3 nf fns k w1,.dead,.row 5 (smR out),roC nf w1.vs,.row 5 [[.p (.int .i64 o),.p (.str nme),.p (exL (jz w1.vs a)),.p (smL bd),.p (smL el)]]] ?_ ?_
    ·simp-implicitDefEqProofs[]
     refine lA 5 (by omega) (by simp) rfl (.same (sW (by omega)) (.dead (.same (cA (br out)) (.same (fy _ _ _) (.one (.keep (by simp[below]) (.keep (by simp[below]) (.one ?_ (.keep (by simp[below]) (.keep (by simp[below]) .nil))))) (.nil _)))))) ?_
     ·rw[←e1v] at hal2
      rw[←hal2]
      exact rC rfl
     ·refine⟨.keep (by simp[below]) .nil,.keep (by simp[below]) .nil,.keep (by simp[below]) .nil,.keep (by simp[below]) .nil,.keep (by simp[below]) .nil,.keep (by simp[below]) .nil,.keep (by simp[below]) .nil,trivial⟩
    have TT:∀(r1:List (Nat × AV)),Aw.look r1 0= .ptr 0 5 0 0->Aw.look r1 1= .p (smL l)->Aw.look r1 2= .p (.int .i64 b)->Aw.look r1 7= .sl 2 5 0 i->Aw.look r1 8= .p (.int .i64 w.vs.length)->Aw.look r1 9= .p (.int .i64 i)->Aw.look r1 10= .ptr 4 5 0 0->∀ρ:List Nat,ρ.length=5->ρ.getD 0 0=0->ρ.getD 2 0=2->ρ.getD 4 0=4->
     TWA ρ r1 [(0,.ptr 0 5 0 0),(1,.p (smL l)),(2,.p (.int .i64 b)),(7,.sl 2 5 0 i),(8,.p (.int .i64 w.vs.length)),(9,.p (.int .i64 i)),(10,.ptr 4 5 0 0)]:=by
     intro r1 a0 a1 a2 a7 a8 a9 a10 ρ hr r0 r2 r4
     simp[below,ren,hr,a0,a1,a2,a7,a8,a9,a10]
     rw[Qm,Qd (by omega)] at r0 r2 r4
     exact⟨r0,r2,r4⟩
    have hn1:nf=true->w1.vs=[]:=λh=>by rw[e1v];exact hn h
    have okB:∀(nf:Bool) (w:WS) (r:AO),okO 0 r->∀x∈[wO 3 nf fns k w,.dead,.row 5 (smR out),roC nf w.vs,r],okO 5 x:=λnf w r hr=>
     af (sW (by omega)) (af trivial (af (cA (br out)) (af (fy _ _ _) (af (cA hr) dI))))
    refine lF (ag 96 [(0,.ptr 0 5 0 0),(1,.p (smL l)),(2,.p (.int .i64 b)),(7,.sl 2 5 0 i),(8,.p (.int .i64 w.vs.length)),(9,.p (.int .i64 i)),(10,.ptr 4 5 0 0)])
     [wO 3 (if o=1 then false else nf) fns k (if o=1 then kH w1 nme b else w1),.dead,.row 5 (smR out),roC (if o=1 then false else nf) (if o=1 then kH w1 nme b else w1).vs,.row 5 [[.p (.int .i64 o),.p (.str (if o=1 then vnm w1.count else nme)),.p (exL (jz w1.vs a)),.p (smL bd),.p (smL el)]]] ?_ ?_
    ·by_cases o1:o=1
     ·simp-implicitDefEqProofs[o1]
      refine(Je G (id:=3) (Q:=λnf' w'=>nf'=false/\w'=kH w1 nme b) ((Gu G nf fns k w1 hn1 (by omega) (by omega) nme b).mono (by rintro x h ⟨rfl,rfl⟩;exact⟨false,_,rfl,rfl,rfl,rfl⟩)) (by simp) (by simp[below]) (by decide) rfl rfl).mono ?_
      rintro r h' ⟨nf',w',rfl,rfl,rfl,rfl⟩
      simp-implicitDefEqProofs[aa]
      refine gV [0,1,2,5,4] (by simp) (by decide) (by decide) (uY (by simp) rfl (gY (by simp) (aN rfl (br out) (tf rfl (fy _ _ _) (aN rfl (by simp[below]) bJ))))) (TT _ (by simp) (by simp) (by simp) (by simp) (by simp) (by simp) (by simp) _ rfl rfl rfl rfl)
     ·simp-implicitDefEqProofs[o1]
      refine ab (by simp) (okB nf w1 _ (by simp[okO,below])) (by simp[below])
    generalize hw2:(if o=1 then kH w1 nme b else w1)=w2
    generalize hnf2:(if o=1 then false else nf)=nf2
    generalize hnm2:(if o=1 then vnm w1.count else nme)=nm2
    have hn2:nf2=true->w2.vs=[]:=by
     intro h
     by_cases o1:o=1
     ·rw[if_pos o1] at hnf2;rw[←hnf2] at h;cases h
     ·rw[if_neg o1] at hnf2 hw2;rw[←hw2];exact hn1 (by rw[hnf2];exact h)
    have h2c:w2.count=w1.count+if o=1 then 1 else 0:=by rw[←hw2];split<;>rfl
    have h2v:w2.vs.length<=w2.count:=by
     rw[←hw2];split
     ·simp[kH];omega
     ·omega
    have h2b:w2.count<=wi.count+1:=by rw[h2c,e1c];split<;>omega
    refine lF (ag 96 [(0,.ptr 0 5 0 0),(1,.p (smL l)),(2,.p (.int .i64 b)),(7,.sl 2 5 0 i),(8,.p (.int .i64 w.vs.length)),(9,.p (.int .i64 i)),(10,.ptr 4 5 0 0)])
     [wO 3 nf2 fns k (opW o nme b w1),.dead,.row 5 (smR out),roC nf2 (opW o nme b w1).vs,.row 5 [[.p (.int .i64 o),.p (.str (opN o nme w1)),.p (exL (jz w1.vs a)),.p (smL bd),.p (smL el)]]] ?_ ?_
    ·by_cases o2:o=2
     ·have o1:¬o=1:=by omega
      rw[if_neg o1] at hw2 hnm2
      subst hw2;subst hnm2
      have eo:opW o nme b w1=⟨w1.vs,w1.count,tF w1.vs nme w1.code⟩:=by rw[opW,if_neg o1,if_pos o2]
      have en:opN o nme w1=vC w1.vs nme:=by rw[opN,if_neg o1,if_pos o2]
      rw[eo,en]
      simp-implicitDefEqProofs[o2]
      refine(Ma G (id:=3) (Il G nf2 fns k w1 hn2 (by omega) nme) (by simp) (by simp[below]) (by decide) rfl rfl).mono ?_
      rintro r h' ⟨rfl,rfl⟩
      simp-implicitDefEqProofs[aa]
      refine ab (h:=[wO 3 nf2 fns k ⟨w1.vs,w1.count,tF w1.vs nme w1.code⟩,.dead,.row 5 (smR out),roC nf2 w1.vs,_]) (by simp) (okB nf2 ⟨w1.vs,w1.count,tF w1.vs nme w1.code⟩ _ (by simp[okO,below])) (by simp[below])
     ·have eo:opW o nme b w1=w2:=by rw[opW,if_neg o2,←hw2]
      have en:opN o nme w1=nm2:=by rw[opN,if_neg o2,←hnm2]
      rw[eo,en]
      simp-implicitDefEqProofs[o2]
      refine ab (by simp) (okB nf2 w2 _ (by simp[okO,below])) (by simp[below])
    have eov:(opW o nme b w1).vs=w2.vs:=by
     rw[opW,←hw2];split
     ·rfl
     ·split<;>rfl
    have eoc:(opW o nme b w1).count=w2.count:=by rw[sw,h2c]
    have hwb:IntKind.i64.wrap ((b:Int)+1)=((b+1:Nat):Int):=by rw[ah (by omega) (by omega)];omega
    have hstw:stW fns k b (.mk o nme a bd el) wi=oU fns k (b+1) el (oU fns k (b+1) bd (opW o nme b w1)):=by
     rw[stW]
     simp only[hw1,oU,Nat.succ_pos,if_true]
     rfl
    have hrns:(rnS fns k b (.mk o nme a bd el) wi).cs=[.int .i64 o,.str (opN o nme w1),exL (jz w1.vs a),smL (gb fns k (b+1) bd (opW o nme b w1)),smL (gb fns k (b+1) el (oU fns k (b+1) bd (opW o nme b w1)))]:=by
     rw[rnS,Sm.cs_eq]
     simp only[hw1,oU,Nat.succ_pos,if_true,Sm.op,Sm.name,Sm.args,Sm.body,Sm.els,e1v]
     have:opN o nme wi=opN o nme w1:=by simp only[opN,e1v,e1c]
     rw[this]
    rw[hstw] at eW
    clear hstw
    generalize opW o nme b w1=w3 at eov eoc hrns eW⊢
    have hn3:nf2=true->w3.vs=[]:=λh=>by rw[eov];exact hn2 h
    have h3v:w3.vs.length<=w3.count:=by rw[eov,eoc];exact h2v
    simp-implicitDefEqProofs[hwb]
    refine(Je G (id:=3) (ih bd (by omega) (b+1) nf2 w3 hn3 h3v (by omega) (by omega)) (by simp) (by simp[below]) (by decide) rfl rfl).mono ?_
    rintro r h' ⟨nf4,w4,rfl,rfl,hn4,hw4⟩
    rw[←hw4] at hrns eW
    have h4c:w4.count=w3.count+oO bd:=by rw[hw4];exact CX _ _ _ _ _
    have h4v:w4.vs.length<=w4.count:=by
     have:w4.vs=w3.vs:=by rw[hw4];simp[oU,WS.back]
     rw[this,h4c];omega
    simp-implicitDefEqProofs[aa,hwb]
    refine(Je G (id:=5) (ih el (by omega) (b+1) nf4 w4 hn4 h4v (by omega) (by omega)) (by simp) (by simp[below]) (by decide) rfl rfl).mono ?_
    rintro r h' ⟨nf5,w5,rfl,rfl,hn5,hw5⟩
    rw[←hw5] at eW
    have hsl2:(smR out).length=i:=by rw[Ag];exact hol
    simp-implicitDefEqProofs[aa,hsl2]
    refine⟨⟨by omega,by omega⟩,⟨i+1,nf5⟩,⟨by simp only;omega,λh=>by simp only at h⊢;rw[eW];exact hn5 h⟩,by simp only;omega,?_⟩
    simp only
    rw[eW,eR,AB]
    have htk:List.take i (smR out)=smR out:=Qk (by omega)
    rw[htk]
    have hsm1:smR [rnS fns k b (.mk o nme a bd el) wi]=[[.p (.int .i64 o),.p (.str (opN o nme w1)),.p (exL (jz w1.vs a)),.p (smL (gb fns k (b+1) bd w3)),.p (smL (gb fns k (b+1) el w4))]]:=by rw[smR,List.map_singleton,hrns];rfl
    rw[hsm1]
    refine gV [0,1,8,6] (by simp) (by decide) (by decide) (uY (by simp) rfl (gY (by simp) (aN rfl (λx hx=>?_) (tf rfl (fy _ _ _) bJ)))) (by simp[below,ren,hsl,show IntKind.i64.wrap ((i:Int)+1)=((i:Int)+1) from ah (by omega) (by omega)])
    rcases Qn.1 hx with h|h
    ·exact br out x h
    ·rw[Qt.1 h];simp
   ·simp at h
    have hie:i=l.length:=by omega
    subst hie
    rw[QC] at hn⊢
    obtain⟨ext,hext⟩:=BJ fns k l b w
    have hlen:=uV fns k b l w
    refine lF (ag 96 [(7,.p (smL (gb fns k b l w)))]) [wO 2 nf fns k (oU fns k b l w),.dead,roC nf (oU fns k b l w).vs] ?_ ?_
    ·have fin:∀(r1:List (Nat × AV)) (w':WS),w'.vs=w.vs\/w'.vs=(cC fns k b l w).vs->(Aw.look r1 7= .sl 2 5 0 l.length)->
      Wk 2 (ag 96 r1) [wO 3 nf fns k w',.dead,.row 5 (smR (gb fns k b l w)),roC nf (cC fns k b l w).vs] (ag 96 [(7,.p (smL (gb fns k b l w)))]) [wO 2 nf fns k w',.dead,roC nf w'.vs]:=by
      intro r1 w' hv' hr
      refine Wk.trans (Jt (h1:=[wO 3 nf fns k w',.dead,.row 5 (smR (gb fns k b l w)),roC nf w'.vs]) ?_) (Wk.trans (gV (l1:=[(7,.sl 3 5 0 l.length)]) (h1:=[wO 2 nf fns k w',.dead,roC nf w'.vs,.row 5 (smR (gb fns k b l w))]) [0,1,3,2] (by simp) (by decide) (by decide) (uY (by simp) rfl (gY (by simp) (tf rfl (fy _ _ _) (aN rfl (br _) bJ)))) (by simp[below,ren,hr]))
       (lA 3 (by omega) (by simp) rfl (.same (sW (by omega)) (.dead (.same (fy _ _ _) (.nil _)))) ?_))
      ·refine⟨.inl rfl,.inl rfl,.inl rfl,?_,trivial⟩
       rcases hv' with e|e
       ·cases nf with
        |true=>exact .inl rfl
        |false=>
         refine .inr ⟨3,lvR (cC fns k b l w).vs,w.vs.length,rfl,?_⟩
         rw[hext,HK,e];rfl
       ·rw[e];exact .inl rfl
      ·rw[←hlen]
       exact⟨.one (kK rfl) .nil,trivial⟩
     by_cases hb0:0<b
     ·have hwe:oU fns k b l w=(cC fns k b l w).back w.vs:=if_pos hb0
      rw[hwe]
      have hll2:(cC fns k b l w).vs.length=ext.length+w.vs.length:=by rw[hext,Qq]
      cases nf with
      |true=>
       have h0:=hn rfl
       rw[h0] at hext
       have h00:w.vs=[]:=(List.append_eq_nil_iff.1 hext.symm).2
       simp-implicitDefEqProofs[hb0,wO,wC,vaC,h00]
       rw[h00] at fin
       exact fin _ ⟨[],(cC fns k b l w).count,(cC fns k b l w).code⟩ (.inl rfl) (by simp)
      |false=>
       have hle:w.vs.length<=(cC fns k b l w).vs.length:=by omega
       simp-implicitDefEqProofs[hb0,wO,wC,vaC,hle]
       exact fin _ ⟨w.vs,(cC fns k b l w).count,(cC fns k b l w).code⟩ (.inl rfl) (by simp)
     ·have hwe:oU fns k b l w=cC fns k b l w:=if_neg hb0
      have hb0':b=0:=by omega
      subst hb0'
      rw[hwe]
      simp-implicitDefEqProofs[]
      exact fin _ _ (.inr rfl) (by simp)
    ·simp-implicitDefEqProofs[]
     refine⟨nf,_,rfl,rfl,?_,rfl⟩
     intro hnf
     have h0:=hn hnf
     unfold oU
     split
     ·rw[h0] at hext;exact(List.append_eq_nil_iff.1 hext.symm).2
     ·exact h0
end
section
theorem Cv:AK.whole nc=FK.ak ml:=rfl
theorem Cg:∀(ps:List (List UInt8)) (w:WS),w.vs.length<=w.count->(cy ps w).vs.length<=(cy ps w).count
 |[],w,h=>h
 |s::r,w,h=>Cg r (kH w s 0) (by simp[kH];omega)
theorem Gq(a b:List (List UInt8))(w:WS):cy (a++b) w=cy b (cy a w):=by simp[cy]
theorem DN{l:List (List UInt8)}{w:WS}{i:Nat}(h:i<l.length):cy (l.take (i+1)) w=kH (cy (l.take i) w) l[i] 0:=by
 rw[al h,Gq];rfl
theorem BS:∀(a b:List (List UInt8)) (w:WS),nO (a++b) w=nO a w++nO b (cy a w)
 |[],b,w=>rfl
 |s::r,b,w=>by rw[QO,nO,nO,BS r];rfl
theorem FU{l:List (List UInt8)}{w:WS}{i:Nat}(h:i<l.length):nO (l.take (i+1)) w=nO (l.take i) w++[vnm (cy (l.take i) w).count]:=by
 rw[al h,BS];rfl
theorem uB:∀(l:List (List UInt8)) (w:WS),(nO l w).length=l.length
 |[],w=>rfl
 |s::r,w=>by rw[nO,Qw,uB r,Qw]
def w0(fns:List Fd)(k:Nat)(f:Fd):WS:=⟨[],0,if dq fns f.name=some k then 0 else 2⟩
theorem LD(fns:List Fd)(k:Nat)(f:Fd):fnW fns k f=cC fns k 0 f.body (cy f.params (w0 fns k f)):=rfl
theorem Ht(fns:List Fd)(k:Nat)(f:Fd):(rnF fns k f).cs=[.str f.name,aB (nO f.params (w0 fns k f)),smL (gb fns k 0 f.body (cy f.params (w0 fns k f)))]:=rfl
variable (G:aq)
theorem LP{fns:List Fd}{k:Nat}{f:Fd}(hk:fns[k]?=some f)(hz:bl fns<=1073741824):VF Tryz.prog G jX [.agg [.p (fdL fns)],.p (.int .i64 k)] (.tup [.agg ((rnF fns k f).cs.map .p),.p (.int .i64 (fnW fns k f).code),.p (.int .i64 (fnW fns k f).count)]):=by
 have hfl:=cJ fns
 have hfm:=cU (Ql hk)
 have hfz:f.sz=1+f.name.length+(f.params.length+(f.params.map List.length).sum)+aG f.body:=rfl
 have hkl:=(Qf.1 hk).1
 have key:AC Tryz.prog G jX [.agg [.p (fdL fns)],.p (.int .i64 k)] [] λx h=>x= .ret (.tup [.agg [.p (.str f.name),.sl 5 1 0 f.params.length,.p (smL (gb fns k 0 f.body (cy f.params (w0 fns k f))))],.p (.int .i64 (fnW fns k f).code),.p (.int .i64 (fnW fns k f).count)])/\h[5]?=some (mI (nO f.params (w0 fns k f))):=by
  refine AC.goK Bi Cv ?_
  have hfd:∀l,fdL l= .lst 3 (l.map Fd.cs):=λ_=>rfl
  have hcs:f.cs=[.str f.name,aB f.params,smL f.body]:=rfl
  have hst:aB f.params= .lst 1 (f.params.map λw=>[.str w]):=rfl
  simp-implicitDefEqProofs[nc,ml]
  refine lF (ag 62 [(1,.p (.int .i64 k)),(2,.ptr 0 1 0 0),(4,.ptr 1 3 0 0),(7,.ptr 2 5 0 0),(8,.ptr 3 3 0 0)])
   [.row 1 [[.p (fdL fns)]],.row 3 [[.p (.str []),.nils,.nils]],wO 4 true fns k ⟨[],0,0⟩,.row 3 [[.p (.str f.name),.p (aB f.params),.p (smL f.body)]],.dead] ?_ ?_
  ·simp-implicitDefEqProofs[hfd,hk,hcs]
   refine ur (h:=[.row 1 [[.p (fdL fns)]],.row 3 [[.p (.str []),.nils,.nils]],wO 4 true fns k ⟨[],0,0⟩,.row 3 [[.p (.str f.name),.p (aB f.params),.p (smL f.body)]]]) (by simp) (by simp) ?_ (by simp[below])
   refine af (by simp[okO,below]) (af (by simp[okO,below]) (af ?_ (af (by simp[okO,below]) dI)))
   intro x hx
   rw[Qt.1 hx];simp[wC,vaC,below]
  refine lF (ag 62 [(1,.p (.int .i64 k)),(2,.ptr 0 1 0 0),(4,.ptr 1 3 0 0),(7,.ptr 2 5 0 0),(8,.ptr 3 3 0 0)])
   [.row 1 [[.p (fdL fns)]],.row 3 [[.p (.str []),.nils,.nils]],wO 4 true fns k (w0 fns k f),.row 3 [[.p (.str f.name),.p (aB f.params),.p (smL f.body)]],.dead] ?_ ?_
  ·simp-implicitDefEqProofs[]
   refine(GA G fns f.name (by omega)).use ?_
   have hok:∀w:WS,∀o∈[AO.row 1 [[.p (fdL fns)]],.row 3 [[.p (.str []),.nils,.nils]],wO 4 true fns k w,.row 3 [[.p (.str f.name),.p (aB f.params),.p (smL f.body)]],.dead],okO 5 o:=λw=>
    af (by simp[okO,below]) (af (by simp[okO,below]) (af (sW (by simp)) (af (by simp[okO,below]) (af trivial dI))))
   by_cases he:dq fns f.name=some k
   ·have hw:w0 fns k f=⟨[],0,0⟩:=by rw[w0,if_pos he]
    rw[hw,he]
    simp-implicitDefEqProofs[ixI]
    exact ab (by simp) (hok _) (by simp[below])
   ·have hw:w0 fns k f=⟨[],0,2⟩:=by rw[w0,if_neg he]
    have hne:¬ixI (dq fns f.name)=(k:Int):=by
     intro h
     apply he
     cases e:dq fns f.name with
     |none=>rw[e] at h;simp only[ixI] at h;omega
     |some j=>rw[e] at h;simp only[ixI] at h;have:j=k:=by omega
              rw[this]
    rw[hw]
    simp-implicitDefEqProofs[hne]
    refine(Ma G (wid:=2) (id:=4) (nH G true fns k ⟨[],0,0⟩ 2) (by simp) (by simp[below]) (by decide) rfl rfl).mono ?_
    rintro r h' ⟨rfl,rfl⟩
    simp-implicitDefEqProofs[aa]
    exact ab (h:=[AO.row 1 [[.p (fdL fns)]],.row 3 [[.p (.str []),.nils,.nils]],wO 4 true fns k ⟨[],0,2⟩,.row 3 [[.p (.str f.name),.p (aB f.params),.p (smL f.body)]],.dead]) (by simp) (hok _) (by simp[below])
  rw[LD]
  have hw0v:(w0 fns k f).vs=[]:=rfl
  have hw0c:(w0 fns k f).count=0:=rfl
  generalize w0 fns k f=w0 at hw0v hw0c⊢
  simp-implicitDefEqProofs[]
  have hcnt:∀j,j<=f.params.length->(cy (f.params.take j) w0).count=j:=λj hj=>by rw[tz,hw0c];simp;omega
  have hvl:∀j,(cy (f.params.take j) w0).vs.length<=(cy (f.params.take j) w0).count:=λj=>Cg _ _ (by rw[hw0v];simp)
  refine an (λj:Nat=>ag 62 [(1,.p (.int .i64 k)),(2,.ptr 0 1 0 0),(4,.ptr 1 3 0 0),(7,.ptr 2 5 0 0),(8,.ptr 3 3 0 0),(9,.sl 5 1 0 j),(10,.p (.int .i64 j))])
   (λj=>[.row 1 [[.p (fdL fns)]],.row 3 [[.p (.str []),.nils,.nils]],wO 6 (decide (j=0)) fns k (cy (f.params.take j) w0),.row 3 [[.p (.str f.name),.p (aB f.params),.p (smL f.body)]],.dead,mI (nO (f.params.take j) w0),roC (decide (j=0)) (cy (f.params.take j) w0).vs])
   (λj=>j<=f.params.length) (λj=>f.params.length-j) 0 (by simp) ?_ ?_
  ·refine ur (h:=[.row 1 [[.p (fdL fns)]],.row 3 [[.p (.str []),.nils,.nils]],wO 6 true fns k w0,.row 3 [[.p (.str f.name),.p (aB f.params),.p (smL f.body)]],.dead,.row 1 []]) (by simp) (by simp) ?_ (by simp[below])
   refine af (by simp[okO,below]) (af (by simp[okO,below]) (af ?_ (af (by simp[okO,below]) (af trivial (af (by simp[okO]) dI)))))
   intro x hx
   rw[Qt.1 hx];simp[wC,vaC,below]
  intro j hj
  have hjc:=hcnt j hj
  have hjv:=hvl j
  have hol:=uB (f.params.take j) w0
  rw[QG,Nat.min_eq_left hj] at hol
  have hnf:decide (j=0)=true->(cy (f.params.take j) w0).vs=[]:=by
   intro h
   have h0:j=0:=by simpa using h
   rw[h0,List.take_zero]
   exact hw0v
  simp-implicitDefEqProofs[hst]
  refine aQ (λh=>?_) (λh=>?_)
  ·simp at h
   have hg:=Qd h
   have eP:=DN (w:=w0) h
   have eR:=FU (w:=w0) h
   simp-implicitDefEqProofs[hg]
   refine(Je G (wid:=2) (id:=6) (Q:=λnf' w'=>nf'=false/\w'=kH (cy (f.params.take j) w0) f.params[j] 0) ((Gu G (decide (j=0)) fns k _ hnf (by omega) (by omega) f.params[j] 0).mono (by rintro x h ⟨rfl,rfl⟩;exact⟨false,_,rfl,rfl,rfl,rfl⟩)) (by simp) (by simp[below]) (by decide) rfl rfl).mono ?_
   rintro r h' ⟨nf',w',rfl,rfl,rfl,rfl⟩
   have hso:∀l,mI l= .row 1 (l.map λn=>[.p (.str n)]):=λ_=>rfl
   simp-implicitDefEqProofs[aa,hso,hol]
   refine⟨by omega,j+1,by omega,by omega,?_⟩
   have htk:List.take j ((nO (f.params.take j) w0).map λn=>[AV.p (.str n)])=(nO (f.params.take j) w0).map λn=>[AV.p (.str n)]:=Qk (by rw[Qu];omega)
   have hd:decide (j+1=0)=false:=by simp
   rw[eP,eR,hd,Rd,←List.map_take,List.map_take,htk]
   refine cV [0,1,2,3,4,9,7] rfl (by decide) (aN rfl (by simp) (aN rfl (by simp[below]) (uY (by simp) rfl (aN rfl (by simp) (gY (by simp) (aN rfl (λx hx=>?_) (tf rfl (fy _ _ _) bJ))))))) (by simp[below,ren,w1 (i:=j) (by omega)])
   rcases Qn.1 hx with h|h
   ·exact yS _ x h
   ·exact yS _ x h
  ·simp at h
   have hje:j=f.params.length:=by omega
   subst hje
   rw[QC] at hol hjc hjv hnf⊢
   generalize decide (f.params.length=0)=nf at hnf⊢
   simp-implicitDefEqProofs[]
   refine(Je G (wid:=2) (id:=6) (Gw G (fns:=fns) (by omega) (aG f.body+1) f.body (by omega) 0 _ (cy f.params w0) hnf hjv (by omega) (by omega)) (by simp) (by simp[below]) (by decide) rfl rfl).mono ?_
   rintro r h' ⟨nf',w',rfl,rfl,hn',hw'⟩
   have hb:oU fns k 0 f.body (cy f.params w0)=cC fns k 0 f.body (cy f.params w0):=rfl
   rw[hb] at hw'
   rw[←hw']
   simp-implicitDefEqProofs[aa,wO,wC]
 refine key.freezeR (λt v h ⟨e,_⟩=>by cases e) λv h ⟨e1,e2⟩=>?_
 cases e1
 rw[Ht]
 have hol:=uB f.params (w0 fns k f)
 have hv:=rY e2
 rw[hol] at hv
 exact .tup (.agg (.keep (by simp) (.one hv (.keep (by simp) .nil))) (.keep (by simp) (.keep (by simp) .nil))) .nil
theorem Cr{fns:List Fd}{i:Nat}(h:i<fns.length):gx fns i (fns.drop i)=if(fnW fns i fns[i]).code=0 then gx fns (i+1) (fns.drop (i+1)) else(fnW fns i fns[i]).code:=by
 rw[Rm h,gx]
theorem uH(l:List Fd)(hz:bl l<=1073741824):VF Tryz.prog G eO [.agg [.p (fdL l)]] (.p (.int .i64 (aP l))):=by
 refine AC.go oa ?_
 have hll:=cJ l
 have hfd:∀l,fdL l= .lst 3 (l.map Fd.cs):=λ_=>rfl
 simp-implicitDefEqProofs[iE]
 refine(um G l (by omega)).use ?_
 by_cases hv:cf l=true
 case neg=>
  have:aP l=1:=if_neg hv
  have hv':cf l=false:=by simpa using hv
  simp-implicitDefEqProofs[hv',this]
 have hc:aP l=gx l 0 (l.drop 0):=if_pos hv
 rw[hc]
 simp-implicitDefEqProofs[hv]
 refine an (λi:Nat=>ag 27 [(1,.ptr 0 1 0 0),(3,.p (.int .i64 i))]) (λ_=>[.row 1 [[.p (fdL l)]]]) (λi=>i<=l.length/\gx l 0 l=gx l i (l.drop i)) (λi=>l.length-i) 0 (by simp) (ab (by simp) (by simp[okO]) (by simp[below])) ?_
 rintro i ⟨hi,he⟩
 simp-implicitDefEqProofs[hfd]
 refine aQ (λh=>?_) (λh=>?_)
 ·simp at h
  have hg:=Qd h
  have hd:=Cr h
  simp-implicitDefEqProofs[]
  refine(LP G hg hz).use ?_
  have hrc:=Ht l i l[i]
  by_cases h0:(fnW l i l[i]).code=0
  ·rw[if_pos h0] at hd
   simp-implicitDefEqProofs[h0,hrc]
   refine⟨i+1,⟨by omega,by rw[he,hd]⟩,by omega,?_⟩
   refine ka (m:=1) (by omega) (fg rfl rfl (by simp[okO,below])) (by simp[below,hfd,w1 (i:=i) (by omega)])
  ·rw[if_neg h0] at hd
   simp-implicitDefEqProofs[h0,hrc]
   rw[he,hd]
 ·simp at h
  have hie:i=l.length:=by omega
  subst hie
  rw[List.drop_length] at he
  simp-implicitDefEqProofs[]
  rw[he];rfl
end
section
variable (G:aq)
abbrev MS:=Int × Int
def ox(st:MS)(x:Sm × Nat):MS:=(IntKind.i64.wrap (st.1+1),if st.2<(x.2:Int) then(x.2:Int) else st.2)
def oq(l:List Fd)(st:MS):MS:=l.foldl (λst f=>(bH 1 f.body).foldl ox st) st
theorem vc:∀(l:List (Sm × Nat)) (st:MS),0<=st.1->st.1+l.length<=1099511627776->(l.foldl ox st).1=st.1+l.length
 |[],st,_,_=>by simp
 |x::r,st,h0,h=>by
  have hw:IntKind.i64.wrap (st.1+1)=st.1+1:=ah (by omega) (by simp at h;omega)
  rw[List.foldl_cons,vc r _ (by simp only[ox,hw];omega) (by simp only[ox,hw];simp at h;omega)]
  simp only[ox,hw,Qw]
  omega
theorem xY:∀(l:List Fd) (st:MS),0<=st.1->st.1+lv l<=1099511627776->(oq l st).1=st.1+lv l
 |[],st,_,_=>by simp[oq,lv]
 |f::r,st,h0,h=>by
  have ha:lv (f::r)=dy f.body+lv r:=by simp[lv]
  have hs:=vc (bH 1 f.body) st h0 (by rw[jB];omega)
  rw[jB] at hs
  have:=xY r ((bH 1 f.body).foldl ox st) (by omega) (by omega)
  simp only[oq,List.foldl_cons] at this⊢
  omega
theorem CU{l:List Fd}{st:MS}{i:Nat}(h:i<l.length):oq (l.take (i+1)) st=(bH 1 l[i].body).foldl ox (oq (l.take i) st):=by
 rw[oq,al h,List.foldl_append];rfl
def md(p:PV):Vis MS where
 I:=λst=>[.row 1 [[.p p]],.row 1 [[.p (.int .i64 st.1)]],.row 1 [[.p (.int .i64 st.2)]]]
 n:=3
 F:=eu
 caps:=[.ptr 1 1 0 0,.ptr 2 1 0 0]
 len:=λ_=>rfl
 ok:=λst=>by simp[okO,below]
 capsOk:=by simp[below]
theorem Cz(p:PV)(st:MS)(s:Sm)(d:Nat):AC Tryz.prog G eu [.agg (s.cs.map .p),.p (.int .i64 d),.ptr 1 1 0 0,.ptr 2 1 0 0] ((md p).I st) λx h=>x= .ret (.tup [])/\h=(md p).I (ox st (s,d)):=by
 refine(md p).trim G (AC.go sg ?_) (by simp[below])
 have hse:=s.cs_eq
 simp-implicitDefEqProofs[kR,hse,md,ox]
theorem FJ(l:List Fd)(hl:bl l<=1073741824):VF Tryz.prog G jo [.agg [.p (fdL l)]] (.tup [.p (.int .i64 (lv l)),.p (.int .i64 (oq l (0,0)).2)]):=by
 refine AC.go uA ?_
 have hll:=cJ l
 have hfl:∀l,fdL l= .lst 3 (l.map Fd.cs):=λ_=>rfl
 have hn:(oq l (0,0)).1=lv l:=by rw[xY l (0,0) (by simp) (by simp only;have:=zZ l;omega)];simp
 simp-implicitDefEqProofs[ni,hfl]
 refine an (λi:Nat=>ag 20 [(2,.ptr 1 1 0 0),(3,.ptr 2 1 0 0),(7,.p (fdL l)),(8,.p (.int .i64 l.length)),(9,.p (.int .i64 i))])
  (λi=>(md (fdL l)).I (oq (l.take i) (0,0))) (λi=>i<=l.length) (λi=>l.length-i) 0 (by simp) ?_ ?_
 ·exact ab (h:=(md (fdL l)).I (0,0)) (by simp) ((md (fdL l)).ok _) (by simp[below,hfl,md])
 intro i hil
 simp-implicitDefEqProofs[hfl]
 refine aQ (λhc=>?_) (λhc=>?_)
 ·simp at hc
  have hg:=Qd hc
  have hks:=cU (Qj hc)
  have hcs:l[i].cs=[.str l[i].name,aB l[i].params,smL l[i].body]:=rfl
  have hfz:l[i].sz=1+l[i].name.length+(l[i].params.length+(l[i].params.map List.length).sum)+aG l[i].body:=rfl
  have hI:=(Lf G (md (fdL l)) ox (λ_=>True) 1073741824 (by omega) (λst s d _ _=>⟨trivial,Cz G _ st s d⟩) (aG l[i].body+1) l[i].body (by omega) (by omega) 1 (by omega) (oq (l.take i) (0,0)) trivial).2
  have hlen:=(md (fdL l)).len
  have h3:(md (.lst 3 (l.map Fd.cs))).n=3:=rfl
  have hlen':∀st,((md (.lst 3 (l.map Fd.cs))).I st).length=3:=λ_=>rfl
  simp-implicitDefEqProofs[hg,hcs,hlen']
  refine((md (fdL l)).pre G hI [_] ⟨by simp,by simp,by simp[below,md],trivial⟩).mono ?_
  rintro r h ⟨rfl,rfl⟩
  simp-implicitDefEqProofs[aa]
  refine⟨i+1,hc,by omega,?_⟩
  rw[CU hc]
  refine(md (fdL l)).same0 (s:=[_]) _ (by simp[md]) ?_
  simp[below,hfl,md,w1 (i:=i) (by omega)]
 ·simp at hc
  have hie:i=l.length:=by omega
  subst hie
  rw[QC]
  simp-implicitDefEqProofs[md,hn]
theorem sb(hK:G iq=some gr)(s:List UInt8)(hb:s.length<=140737488355328):VF Tryz.prog G bc [.p (.str s)] (.p (.bool (!aA s))):=by
 refine AC.go ma ?_
 simp-implicitDefEqProofs[gk]
 refine(my G hK s hb).use ?_
 simp-implicitDefEqProofs[]
def Dr(L:List (List UInt8)):Int:=match L.findIdx? (λw=> !aA w) with|some i=>i|none=> -1
theorem Hq(L:List (List UInt8)):decide (0<=Dr L)= !(L.all aA):=by
 unfold Dr
 cases h:L.findIdx? (λx=> !aA x) with
 |none=>
  rw[QQ] at h
  have:L.all aA=true:=Qh.2 λx hx=>by have:=h x hx;simpa using this
  simp[this]
 |some i=>
  rw[Qy] at h
  obtain⟨h1,h2,_⟩:=h
  have:L.all aA=false:=List.all_eq_false.2 ⟨_,Qj h1,by simpa using h2⟩
  rw[this];simp
theorem Gv{L:List (List UInt8)}{n:Nat}(h:(L.map List.length).sum<=n):∀x∈L,x.length<=n:=by
 induction L with
 |nil=>intro x hx;cases hx
 |cons y r ih=>
  intro x hx
  simp only[QI,List.sum_cons] at h
  rcases QH.1 hx with rfl|hx
  ·omega
  ·exact ih (by omega) x hx
variable (hK:G iq=some gr)
include hK
theorem Do(L:List (List UInt8))(hb:L.length<=1073741824)(hw:∀x∈L,x.length<=140737488355328):VF Tryz.prog G cz [.p (aB L),.fn (.func bc) []] (.p (.int .i64 (Dr L))):=by
 refine AC.go jF ?_
 have hsl:aB L= .lst 1 (L.map λw=>[.str w]):=rfl
 simp-implicitDefEqProofs[ex,hsl]
 refine an (λi:Nat=>ag 19 [(0,.p (aB L)),(1,.fn (.func bc) []),(6,.p (aB L)),(7,.p (.int .i64 L.length)),(8,.p (.int .i64 i))]) (λ_=>[]) (λi=>i<=L.length/\∀w∈L.take i,aA w=true) (λi=>L.length-i) 0 (by simp) ?_ ?_
 ·exact ab (by simp) (by simp[okO]) (by simp[below,aj,aB])
 ·intro i ⟨hi,hn⟩
  simp-implicitDefEqProofs[hsl]
  refine aQ (λh1=>?_) (λh1=>?_)
  ·simp at h1
   have hg:=Qd h1
   simp-implicitDefEqProofs[hg]
   refine(sb G hK _ (hw _ (Qj h1))).use ?_
   by_cases he:aA L[i]=true
   ·simp-implicitDefEqProofs[he]
    refine⟨i+1,⟨h1,λp hp=>?_⟩,by omega,ab (by simp) (by simp[okO]) ?_⟩
    ·rw[al h1] at hp
     rcases Qn.1 hp with hp|hp
     ·exact hn p hp
     ·rw[Qt.1 hp];exact he
    ·simp[below,aj,aB,w1 (i:=i) (by omega)]
   ·have hf:Dr L=i:=by
     have:L.findIdx? (λw=> !aA w)=some i:=by
      rw[Qy]
      exact⟨h1,by simpa using he,λj hj=>by have:=hn L[j] (List.mem_take_iff_getElem.2 ⟨j,by omega,rfl⟩);simpa using this⟩
     rw[Dr,this]
    simp-implicitDefEqProofs[he,hf]
  ·simp at h1
   rw[Qk h1] at hn
   have hf:Dr L= -1:=by
    have:L.findIdx? (λw=> !aA w)=none:=by
     rw[QQ];intro x hx;simpa using hn x hx
    rw[Dr,this]
   simp-implicitDefEqProofs[hf]
theorem yu(L:List (List UInt8))(hb:L.length<=1073741824)(hw:∀x∈L,x.length<=140737488355328):VF Tryz.prog G bP [.p (aB L),.fn (.func bc) []] (.p (.bool (!L.all aA))):=by
 rw[←Hq]
 refine AC.go io ?_
 simp-implicitDefEqProofs[dv]
 refine(Do G hK L hb hw).use ?_
 simp-implicitDefEqProofs[]
variable (hS:G dN=some [.tbl opK opV])
include hS
theorem uD(l:List Fd)(hl:bl l<=1073741824):VF Tryz.prog G eJ [.agg [.p (fdL l)]] (.p (.bool (cf l))):=by
 refine AC.go nM ?_
 have hll:=cJ l
 have hfl:∀l,fdL l= .lst 3 (l.map Fd.cs):=λ_=>rfl
 have hm:=FJ G l hl
 rw[hfl] at hm
 simp-implicitDefEqProofs[iD,hfl]
 refine(mW G _ _ _).use ?_
 by_cases h1:inR l.length 1 4=true
 case neg=>simp-implicitDefEqProofs[h1,cf]
 simp-implicitDefEqProofs[h1]
 refine an (λi:Nat=>ag 48 [(1,.ptr 0 1 0 0),(13,.p (fdL l)),(14,.p (.int .i64 l.length)),(15,.p (.int .i64 i))]) (λ_=>[.row 1 [[.p (.lst 3 (l.map Fd.cs))]]]) (λi=>i<=l.length/\(l.take i).all jH=true) (λi=>l.length-i) 0 (by simp) (ab (by simp) (by simp[okO]) (by simp[below,hfl])) ?_
 intro i ⟨hi,ha⟩
 simp-implicitDefEqProofs[hfl]
 refine aQ (λh=>?_) (λh=>?_)
 ·simp at h
  have hg:=Qd h
  have hks:=cU (Qj h)
  have hbadF:jH l[i]=false->cf l=false:=λhk'=>by simp only[cf,jO h hk',Bool.and_false,Bool.false_and]
  have hcs:l[i].cs=[.str l[i].name,aB l[i].params,smL l[i].body]:=rfl
  have hfz:l[i].sz=1+l[i].name.length+(l[i].params.length+(l[i].params.map List.length).sum)+aG l[i].body:=rfl
  have hokF:jH l[i]=(l[i].params.all aA&&aA l[i].name&&decide (l[i].params.length<=3)&&l[i].body.all (ay 4)):=rfl
  have hblk:=tp G 4 1 (λs hs=>by simpa using IT G hK hS 4 (by omega) s hs) l[i].body (by omega)
  have hcon:=yu G hK l[i].params (by omega) (Gv (by omega))
  have hst:aB l[i].params= .lst 1 (l[i].params.map λw=>[.str w]):=rfl
  generalize l[i]=f at*
  rw[hst] at hcon
  simp-implicitDefEqProofs[hg,hcs,hst]
  refine(my G hK _ (by omega)).use ?_
  by_cases k1:aA f.name=true
  case neg=>
   rw[hbadF (by rw[hokF];simp[k1])]
   simp-implicitDefEqProofs[k1]
  by_cases k2:f.params.length<=3
  case neg=>
   have k2':(3:Int)<f.params.length:=by omega
   rw[hbadF (by rw[hokF];simp[k2])]
   simp-implicitDefEqProofs[k1,k2']
  have k2':¬(3:Int)<f.params.length:=by omega
  simp-implicitDefEqProofs[k1,k2']
  refine hcon.use ?_
  by_cases k3:f.params.all aA=true
  case neg=>
   have k3':f.params.all aA=false:=by simpa using k3
   rw[hbadF (by rw[hokF,k3'];simp)]
   simp-implicitDefEqProofs[k3']
  simp only[k3]
  simp-implicitDefEqProofs[]
  refine hblk.use ?_
  by_cases k4:f.body.all (ay 4)=true
  case neg=>
   have k4':f.body.all (ay 4)=false:=by simpa using k4
   rw[hbadF (by rw[hokF,k4'];simp)]
   simp only[k4']
   simp-implicitDefEqProofs[]
  simp only[k4]
  simp-implicitDefEqProofs[]
  have hk:jH f=true:=by rw[hokF,k1,k3,k4];simp[k2]
  refine⟨i+1,⟨h,by rw[←Qh,mY hg,ha,hk];rfl⟩,by omega,ka (m:=1) (by omega) (fg rfl rfl (by simp[okO,below])) (by simp[below,hfl,w1 (i:=i) (by omega)])⟩
 ·simp at h
  have h2:l.all jH=true:=fb h ha
  simp-implicitDefEqProofs[]
  refine hm.use ?_
  have hff:cf l=decide (lv l<=40):=by simp only[cf,h1,h2,Bool.true_and]
  simp-implicitDefEqProofs[hff]
  omega
end
section
variable (G:aq)
theorem Gy(l:List Fd)(s:List UInt8)(hl:l.length<=1073741824):VF Tryz.prog G jP [.agg [.p (fdL l)],.p (.str s)] (.p (.int .i64 (ixI (dq l s)))):=by
 have hfl:∀l,fdL l= .lst 3 (l.map Fd.cs):=λ_=>rfl
 have bz:∀f:Fd,AC Tryz.prog G fd [.agg (f.cs.map .p),.ptr 1 1 0 0] [.row 1 [[.p (fdL l)]],.row 1 [[.p (.str s)]]] λx h=>x= .ret (.p (.bool (decide (f.name=s))))/\h=[.row 1 [[.p (fdL l)]],.row 1 [[.p (.str s)]]]:=by
  intro f
  have hcs:f.cs=[.str f.name,aB f.params,smL f.body]:=rfl
  refine AC.trim (AC.go yc ?_) (by simp[below])
  simp-implicitDefEqProofs[od,hcs]
 have idx:AC Tryz.prog G cr [.p (fdL l),.fn (.func fd) [.ptr 1 1 0 0]] [.row 1 [[.p (fdL l)]],.row 1 [[.p (.str s)]]] λx h=>x= .ret (.p (.int .i64 (ixI (dq l s))))/\h=[.row 1 [[.p (fdL l)]],.row 1 [[.p (.str s)]]]:=by
  refine AC.go jw ?_
  simp-implicitDefEqProofs[dR,hfl]
  refine an (λi:Nat=>ag 19 [(0,.p (fdL l)),(1,.fn (.func fd) [.ptr 1 1 0 0]),(7,.p (.int .i64 l.length)),(8,.p (.int .i64 i))]) (λ_=>[.row 1 [[.p (fdL l)]],.row 1 [[.p (.str s)]]]) (λi=>i<=l.length/\∀f∈l.take i,f.name≠s) (λi=>l.length-i) 0 (by simp) ?_ ?_
  ·exact ab (by simp) (by simp[okO,below]) (by simp[below,aj,hfl])
  ·intro i ⟨hi,hn⟩
   simp-implicitDefEqProofs[hfl]
   refine aQ (λh1=>?_) (λh1=>?_)
   ·simp at h1
    have hg:=Qd h1
    simp-implicitDefEqProofs[hg]
    refine(bz l[i]).mono ?_
    rintro r h ⟨rfl,rfl⟩
    by_cases he:l[i].name=s
    ·have hf:dq l s=some i:=by
      rw[dq,Qy]
      exact⟨h1,by simpa using he,λj hj=>by have:=hn l[j] (List.mem_take_iff_getElem.2 ⟨j,by omega,rfl⟩);simpa using this⟩
     simp-implicitDefEqProofs[aa,he,hf,ixI]
     exact hfl l
    ·simp-implicitDefEqProofs[aa,he]
     refine⟨i+1,⟨h1,λp hp=>?_⟩,by omega,ab (h:=[.row 1 [[.p (fdL l)]],.row 1 [[.p (.str s)]]]) (by simp) (by simp[okO,below]) (by simp[below,aj,hfl,w1 (i:=i) (by omega)])⟩
     rw[al h1] at hp
     rcases Qn.1 hp with hp|hp
     ·exact hn p hp
     ·rw[Qt.1 hp];exact he
   ·simp at h1
    rw[Qk h1] at hn
    have hf:dq l s=none:=by
     rw[dq,QQ];intro x hx;simpa using hn x hx
    simp-implicitDefEqProofs[hf,ixI]
 refine AC.go AT ?_
 simp-implicitDefEqProofs[tj]
 refine idx.mono ?_
 rintro r h ⟨rfl,rfl⟩
 simp-implicitDefEqProofs[aa]
structure GS where (gap:List AO) (m:Scp)
def mpE(m:Scp):List (PV × AV):=m.map λx=>(.str x.1,.p (.int .i64 x.2))
def scL:List GS->Nat
 |[]=>0
 |g::up=>scL up+g.gap.length+2
def upV:List GS->AV
 |[]=> .nilp
 |g::up=> .ptr (2+scL up+g.gap.length+1) 2 0 0
def scH:List GS->List AO
 |[]=>[]
 |g::up=>scH up++(g.gap++[.mp (mpE g.m),.row 2 [[.mp (2+scL up+g.gap.length),upV up]]])
theorem jQ:∀ch:List GS,(scH ch).length=scL ch
 |[]=>rfl
 |g::up=>by simp only[scH,scL,Qq,jQ up,Qw,List.length_nil];omega
def cO(fns:List Fd)(k:Nat)(c:Int):AO:= .row 3 [[.p (fdL fns),.p (.int .i64 k),.p (.int .i64 c)]]
def CH(b0:AO)(fns:List Fd)(k:Nat)(c:Int)(ch:List GS):List AO:=b0::cO fns k c::scH ch
theorem gE(b0:AO)(fns:List Fd)(k:Nat)(c:Int)(ch:List GS):(CH b0 fns k c ch).length=2+scL ch:=by
 simp only[CH,Qw,jQ];omega
def vI:List GS->Prop
 |[]=>True
 |g::up=>(∀o∈g.gap,okO (2+scL up+g.gap.length) o)/\vI up
theorem iN:∀(ch:List GS) {n:Nat},2+scL ch<=n->below n (upV ch)
 |[],_,_=>by simp[upV,below]
 |g::up,n,h=>by simp only[scL] at h;simp only[upV,below];omega
theorem Dp:∀(ch:List GS) {n:Nat},vI ch->2+scL ch<=n->∀o∈scH ch,okO n o
 |[],_,_,_,o,ho=>by cases ho
 |g::up,n,⟨h1,h2⟩,hn,o,ho=>by
  simp only[scL] at hn
  rw[scH] at ho
  rcases Qn.1 ho with h|h
  ·exact Dp up h2 (by omega) o h
  ·rcases Qn.1 h with h|h
   ·exact pN (by omega) (h1 o h)
   ·simp only[QH,List.not_mem_nil,or_false] at h
    rcases h with rfl|rfl
    ·intro e he
     obtain⟨x,_,rfl⟩:=Qx.1 he
     simp[below]
    ·intro e he
     rw[Qt.1 he]
     exact⟨by simp only[below];omega,iN up (by omega),trivial⟩
theorem BQ{b0:AO}{fns:List Fd}{k:Nat}{c:Int}{ch:List GS}(hb:okO 0 b0)(hs:vI ch){n:Nat}(hn:2+scL ch<=n):∀o∈CH b0 fns k c ch,okO n o:=
 af (cA hb) (af (by intro e he;rw[Qt.1 he];simp[below]) (Dp ch hs hn))
theorem pX(s:List UInt8):∀m:Scp,fX (.str s) (mpE m)=some ((gt m s).map λn=>AV.p (.int .i64 n))
 |[]=>rfl
 |x::r=>by
  have ih:=pX s r
  by_cases h:x.1=s
  ·simp[mpE,fX,keq,h,gt]
  ·have h':¬s=x.1:=λe=>h e.symm
   simp only[mpE,QI,fX,keq,h',decide_false]
   simp only[mpE] at ih
   rw[ih];simp[gt,h]
theorem uz(s:List UInt8)(n:Nat):∀m:Scp,iS (.str s) (.p (.int .i64 n)) (mpE m)=some (mpE (iM m s n))
 |[]=>rfl
 |x::r=>by
  have ih:=uz s n r
  by_cases h:x.1=s
  ·simp[mpE,iS,keq,h,iM]
  ·have h':¬s=x.1:=λe=>h e.symm
   simp only[mpE,QI,iS,keq,h',decide_false]
   simp only[mpE] at ih
   rw[ih];simp[iM,h]
abbrev sco(ch:List GS):List Scp:=ch.map GS.m
theorem In:∀(pre:List GS) (g:GS) (up:List GS),(scH (pre++g::up))[scL up+g.gap.length]?=some (.mp (mpE g.m))/\(scH (pre++g::up))[scL up+g.gap.length+1]?=some (.row 2 [[.mp (2+scL up+g.gap.length),upV up]])
 |[],g,up=>by
  have hl:(scH up++g.gap).length=scL up+g.gap.length:=by rw[Qq,jQ]
  have e:scH (g::up)=(scH up++g.gap)++[.mp (mpE g.m),.row 2 [[.mp (2+scL up+g.gap.length),upV up]]]:=by rw[scH,Qv]
  rw[List.nil_append,e]
  exact⟨by rw[←hl,Qr (Qi _)];simp,by rw[←hl,Qr (by omega)];simp⟩
 |p::pre,g,up=>by
  obtain⟨h1,h2⟩:=In pre g up
  have hm1:=(Qf.1 h1).1
  have hm2:=(Qf.1 h2).1
  rw[QO,scH]
  exact⟨by rw[Qg hm1];exact h1,by rw[Qg hm2];exact h2⟩
theorem CS(ch:List GS):(upV ch).isCell=true:=by cases ch<;>rfl
theorem Gh(ch:List GS):(upV ch).cells=[upV ch]:=by cases ch<;>rfl
attribute [simp ↓] CS Gh
theorem Aq(b0:AO)(fns:List Fd)(k:Nat)(c e:Int)(r:List AO):AC Tryz.prog G bR [.ptr 1 3 0 0,.p (.int .i64 e)] (b0::cO fns k c::r) λx h=>x= .ret (.tup [])/\h=b0::cO fns k (fl c e)::r:=by
 refine AC.go nY ?_
 by_cases h0:c=0
 ·simp-implicitDefEqProofs[eK,cO,h0,fl]
 ·simp-implicitDefEqProofs[eK,cO,h0,fl]
theorem uq(up:AV)(hu:up= .nilp\/∃i,up= .ptr i 2 0 0)(h:List AO):AC Tryz.prog G cI [up] h λx h'=>x= .ret (.ptr (h.length+1) 2 0 0)/\h'=h++[.mp [],.row 2 [[.mp h.length,up]]]:=by
 refine AC.go pD ?_
 rcases hu with rfl|⟨i,rfl⟩
 ·simp-implicitDefEqProofs[fP]
 ·simp-implicitDefEqProofs[fP]
theorem Hj(b0 c0:AO)(ch:List GS)(rest:List AO)(s:List UInt8):AC Tryz.prog G bL [upV ch,.p (.str s)] (b0::c0::(scH ch++rest)) λx h=>x= .ret (.tup [.p (.int .i64 (((fL (sco ch) s).getD 0:Nat):Int)),.p (.bool (fL (sco ch) s).isSome)])/\h=b0::c0::(scH ch++rest):=by
 refine AC.goB rq λhb=>?_
 simp-implicitDefEqProofs[jR]
 have hHl:(b0::c0::(scH ch++rest)).length=2+scL ch+rest.length:=by simp only[Qw,Qq,jQ];omega
 refine an (λr:List GS=>ag 25 [(0,upV r),(1,.p (.str s))]) (λ_=>b0::c0::(scH ch++rest)) (λr=>∃pre,ch=pre++r/\fL (sco ch) s=fL (sco r) s) (λr=>r.length) ch ⟨[],rfl,rfl⟩ ?_ ?_
 ·refine mw (by simp) hb ?_
  rw[hHl]
  exact⟨⟨iN ch (by omega),by simp⟩,⟨by simp,by simp⟩,trivial⟩
 rintro r ⟨pre,e1,e2⟩
 cases r with
 |nil=>
  rw[e2]
  simp-implicitDefEqProofs[upV,fL]
 |cons g up=>
  obtain⟨a1,a2⟩:=In pre g up
  rw[←e1] at a1 a2
  have b1:=(Qf.1 a1).1
  have b2:=(Qf.1 a2).1
  have l1:(b0::c0::(scH ch++rest))[2+scL up+g.gap.length]?=some (.mp (mpE g.m)):=by
   rw[show 2+scL up+g.gap.length=(scL up+g.gap.length)+1+1 by omega,QW,QW,Qg b1,a1]
  have l2:(b0::c0::(scH ch++rest))[2+scL up+g.gap.length+1]?=some (.row 2 [[.mp (2+scL up+g.gap.length),upV up]]):=by
   rw[show 2+scL up+g.gap.length+1=(scL up+g.gap.length+1)+1+1 by omega,QW,QW,Qg b2,a2]
  have hmg:=pX s g.m
  have hle:=jQ ch
  rw[e2]
  generalize hH:b0::c0::(scH ch++rest)=H at*
  have hup:upV (g::up)= .ptr (2+scL up+g.gap.length+1) 2 0 0:=rfl
  cases hh:gt g.m s with
  |some n=>
   rw[hh] at hmg
   simp-implicitDefEqProofs[hup,l1,l2,hmg,fL,hh]
  |none=>
   rw[hh] at hmg
   simp-implicitDefEqProofs[hup,l1,l2,hmg,fL,hh]
   refine⟨up,⟨⟨pre++[g],by rw[e1];simp⟩,rfl⟩,by simp,?_⟩
   refine mw ?_ hb ?_
   ·rw[hHl,jQ];omega
   ·refine⟨⟨iN up ?_,?_⟩,⟨by simp,by simp⟩,trivial⟩
    ·rw[hHl]
     have:=congrArg List.length e1
     have h3:=(Qf.1 l2).1
     rw[hHl] at h3
     omega
    ·simp
end
section
variable (G:aq)
theorem Lm{f:FuncId}{args:List AV}{h h1:List AO}{v:AV}(H:AC Tryz.prog G f args h λx h'=>x= .ret v/\∃l,h'=h1++l)(hl:h1.length=h.length)(ho:∀o∈h1,okO h.length o)(hv:below h.length v):
 AC Tryz.prog G f args h λx h'=>x= .ret v/\h'=h1:=by
 refine H.wk (λt v h ⟨e,_⟩=>by cases e) ?_
 rintro u h' ⟨e,l,rfl⟩
 cases e
 refine⟨v,h1,uU (n:=h.length) (Qi _) (fg ?_ hl ho) ?_,rfl,rfl⟩
 ·rw[←hl,List.take_left'];rfl
 ·simp[Fgt,hv]
theorem Ml{f:FuncId}{args:List AV}{b0:AO}{fns:List Fd}{k:Nat}{c c':Int}{ch ch':List GS}{v:AV}(H:AC Tryz.prog G f args (CH b0 fns k c ch) λx h=>x= .ret v/\h=CH b0 fns k c' ch')(hb:okO 0 b0)(hs:vI ch)(hl:scL ch'=scL ch)(rest:List AO)(ha:aj (2+scL ch) args):
 AC Tryz.prog G f args (CH b0 fns k c ch++rest) λx h=>x= .ret v/\h=CH b0 fns k c' ch'++rest:=by
 refine(AC.pre H rest (by rw[gE];exact ha) (by rw[gE];exact BQ hb hs (Qi _)) ?_).mono ?_
 ·rintro x h ⟨_,rfl⟩;rw[gE,gE,hl]
 ·rintro x h ⟨h1,⟨rfl,rfl⟩,rfl⟩
  exact⟨rfl,rfl⟩
def bxs(ch:List GS)(q:List AV):List AO:=[.row 1 [[.ptr 1 3 0 0]],.row 4 [q],.row 1 [[upV ch]]]
def nX(b0:AO)(fns:List Fd)(k:Nat)(ch:List GS)(q:List PV)(hb:okO 0 b0)(hs:vI ch):Vis Int where
 I:=λc=>CH b0 fns k c ch++bxs ch (q.map .p)
 n:=2+scL ch+3
 F:=bw
 caps:=[.ptr (2+scL ch+2) 1 0 0,.ptr (2+scL ch) 1 0 0]
 len:=λc=>by rw[Qq,gE];rfl
 ok:=λc o ho=>by
  rcases Qn.1 ho with h|h
  ·exact BQ hb hs (by omega) o h
  ·simp only[bxs,QH,List.not_mem_nil,or_false] at h
   rcases h with rfl|rfl|rfl
   ·intro e he;rw[Qt.1 he];exact⟨by simp only[below];omega,trivial⟩
   ·intro e he;rw[Qt.1 he];exact aH (Ri _) _ (by simp)
   ·intro e he;rw[Qt.1 he];exact⟨iN ch (by omega),trivial⟩
 capsOk:=by simp[below]
def eH(b0:AO)(fns:List Fd)(k:Nat)(ch:List GS)(q:List PV)(e:Ex)(c:Int):List AO:=b0::cO fns k c::(scH ch++(bxs ch (q.map .p)++[.row 4 [[.p (.int .i64 e.op),.p (.int .i64 e.n),.p (.str e.name),.p (exL e.kids)]]]))
section
variable {b0:AO} {fns:List Fd} {k:Nat} {ch:List GS} {q:List PV} {e:Ex} {c:Int}
theorem eH_eq{hb:okO 0 b0}{hs:vI ch}:(nX b0 fns k ch q hb hs).I c++[.row 4 [[.p (.int .i64 e.op),.p (.int .i64 e.n),.p (.str e.name),.p (exL e.kids)]]]=eH b0 fns k ch q e c:=by
 simp[nX,eH,CH]
theorem JH:(eH b0 fns k ch q e c)[1]?=some (.row 3 [[.p (fdL fns),.p (.int .i64 k),.p (.int .i64 c)]]):=rfl
theorem Hp(i:Nat):(eH b0 fns k ch q e c)[2+scL ch+i]?=(bxs ch (q.map .p)++[.row 4 [[.p (.int .i64 e.op),.p (.int .i64 e.n),.p (.str e.name),.p (exL e.kids)]]])[i]?:=by
 rw[eH,show 2+scL ch+i=(scL ch+i)+1+1 by omega,QW,QW]
 exact JW (jQ ch) i
theorem Gl:(eH b0 fns k ch q e c)[2+scL ch]?=some (.row 1 [[.ptr 1 3 0 0]]):=Hp 0
theorem Ok:(eH b0 fns k ch q e c)[2+scL ch+2]?=some (.row 1 [[upV ch]]):=Hp 2
theorem Hg:(eH b0 fns k ch q e c)[2+scL ch+3]?=some (.row 4 [[.p (.int .i64 e.op),.p (.int .i64 e.n),.p (.str e.name),.p (exL e.kids)]]):=Hp 3
end
theorem Jg{fns:List Fd}{s:List UInt8}{j:Nat}(h:dq fns s=some j):j<fns.length:=by
 rw[dq,Qy] at h;exact h.1
theorem Iz(b0:AO){fns:List Fd}{k:Nat}(hf:fns.length<=1073741824)(hk:k<=fns.length)(ch:List GS)(q:List PV)(hb:okO 0 b0)(hs:vI ch)(c:Int)(e:Ex)(he:e.sz<=1073741824):
 AC Tryz.prog G bw (.agg (e.cs.map .p)::(nX b0 fns k ch q hb hs).caps) ((nX b0 fns k ch q hb hs).I c) λx h=>x= .ret (.tup [])/\h=(nX b0 fns k ch q hb hs).I (fu fns k (sco ch) c e):=by
 refine(nX b0 fns k ch q hb hs).trim G (AC.go lY ?_) (by simp[below])
 have hec:=e.cs_eq
 have hlen:((nX b0 fns k ch q hb hs).I c).length=2+scL ch+3:=(nX b0 fns k ch q hb hs).len c
 have hcaps:(nX b0 fns k ch q hb hs).caps=[.ptr (2+scL ch+2) 1 0 0,.ptr (2+scL ch) 1 0 0]:=rfl
 have fin:∀c',(∃l,eH b0 fns k ch q e c'=(nX b0 fns k ch q hb hs).I c'++l):=λc'=>⟨_,eH_eq.symm⟩
 have hfail:∀n,AC Tryz.prog G bR [.ptr 1 3 0 0,.p (.int .i64 n)] (eH b0 fns k ch q e c) λx h=>x= .ret (.tup [])/\h=eH b0 fns k ch q e (fl c n):=λn=>Aq G b0 fns k c n _
 have hkl:=aS e.kids
 have hsz:=e.sz_eq
 rw[hcaps]
 simp-implicitDefEqProofs[gi,hec,hlen]
 rw[eH_eq]
 generalize hV:(nX b0 fns k ch q hb hs).I=VI at fin⊢
 by_cases o2:e.op=2
 ·have hfind:AC Tryz.prog G bL [upV ch,.p (.str e.name)] (eH b0 fns k ch q e c) λx h=>x= .ret (.tup [.p (.int .i64 (((fL (sco ch) e.name).getD 0:Nat):Int)),.p (.bool (fL (sco ch) e.name).isSome)])/\h=eH b0 fns k ch q e c:=Hj G b0 (cO fns k c) ch _ e.name
  simp-implicitDefEqProofs[o2,Gl,Ok,Hg,JH]
  refine hfind.mono ?_
  rintro r h ⟨rfl,rfl⟩
  cases hfs:fL (sco ch) e.name with
  |some n=>
   have hv:fu fns k (sco ch) c e=c:=by simp[fu,o2,hfs]
   rw[hv]
   simp-implicitDefEqProofs[aa]
   exact fin c
  |none=>
   have hv:fu fns k (sco ch) c e=fl c 3:=by simp[fu,o2,hfs]
   rw[hv]
   simp-implicitDefEqProofs[aa,Gl]
   refine(hfail 3).mono ?_
   rintro r h ⟨rfl,rfl⟩
   simp-implicitDefEqProofs[aa]
   exact fin _
 by_cases o13:e.op=13
 ·have hfl:fdL fns= .lst 3 (fns.map Fd.cs):=rfl
  have hfk:fdL (fns.take k)= .lst 3 ((fns.map Fd.cs).take k):=by rw[←List.map_take];rfl
  have hxl:exL e.kids= .lst 4 (e.kids.map Ex.cs):=rfl
  have hAt:=Gy G (fns.take k) e.name (by rw[QG];omega)
  rw[hfk] at hAt
  simp-implicitDefEqProofs[o13,Gl,Ok,Hg,JH,hfl,hk]
  refine hAt.use ?_
  cases hfa:dq (fns.take k) e.name with
  |none=>
   have hv:fu fns k (sco ch) c e=fl c 4:=by simp[fu,o13,hfa]
   rw[hv]
   simp-implicitDefEqProofs[ixI,Gl]
   refine(hfail 4).mono ?_
   rintro r h ⟨rfl,rfl⟩
   simp-implicitDefEqProofs[aa]
   exact fin _
  |some j=>
   have hj:=Jg hfa
   rw[QG] at hj
   have hjl:j<fns.length:=by omega
   have hg:=Qd hjl
   have hjn:¬(j:Int)<0:=by omega
   have hcs:fns[j].cs=[.str fns[j].name,aB fns[j].params,smL fns[j].body]:=rfl
   have hst:aB fns[j].params= .lst 1 (fns[j].params.map λw=>[.str w]):=rfl
   have hpn:AZ fns j=fns[j].params.length:=by simp[AZ,hg]
   by_cases hp:fns[j].params.length=e.kids.length
   ·have hv:fu fns k (sco ch) c e=c:=by simp[fu,o13,hfa,hpn,hp]
    rw[hv]
    simp-implicitDefEqProofs[ixI,Gl,JH,Hg,hjn,hfl,hg,hcs,hst,hxl,hp]
    exact fin _
   ·have hv:fu fns k (sco ch) c e=fl c 5:=by simp[fu,o13,hfa,hpn,hp]
    have hp':¬(fns[j].params.length:Int)=(e.kids.length:Int):=by omega
    rw[hv]
    simp-implicitDefEqProofs[ixI,Gl,JH,Hg,hjn,hfl,hg,hcs,hst,hxl,hp']
    refine(hfail 5).mono ?_
    rintro r h ⟨rfl,rfl⟩
    simp-implicitDefEqProofs[aa]
    exact fin _
 ·have hv:fu fns k (sco ch) c e=c:=by simp[fu,o2,o13]
  rw[hv]
  simp-implicitDefEqProofs[o2,o13,Hg]
  exact fin _
theorem JB(ch:List GS):upV ch= .nilp\/∃i,upV ch= .ptr i 2 0 0:=by
 cases ch with
 |nil=>exact .inl rfl
 |cons g up=>exact .inr ⟨_,rfl⟩
theorem Mx(b0:AO){fns:List Fd}{k:Nat}(hf:fns.length<=1073741824)(hk:k<=fns.length)(ch:List GS)(hb:okO 0 b0)(hs:vI ch)(c:Int)(e:Ex)(he:e.sz<=1073741824):
 AC Tryz.prog G cQ [.ptr 1 3 0 0,.agg (e.cs.map .p),upV ch] (CH b0 fns k c ch) λx h=>x= .ret (.tup [])/\h=CH b0 fns k (e.pre.foldl (fu fns k (sco ch)) c) ch:=by
 refine Lm G (h:=CH b0 fns k c ch) (AC.go nV ?_) (by rw[gE,gE]) (by rw[gE];exact BQ hb hs (Qi _)) (by simp[below])
 have hec:=e.cs_eq
 have hlen:(CH b0 fns k c ch).length=2+scL ch:=gE _ _ _ _ _
 have hI:=(KU G (nX b0 fns k ch e.cs hb hs) (fu fns k (sco ch)) (λ_=>True) 1073741824 (by omega) (λst x _ hx=>⟨trivial,Iz G b0 hf hk ch e.cs hb hs st x hx⟩) (e.sz+1) e (by omega) he c trivial).2
 have hcaps:(nX b0 fns k ch e.cs hb hs).caps=[.ptr (2+scL ch+2) 1 0 0,.ptr (2+scL ch) 1 0 0]:=rfl
 have hF:(nX b0 fns k ch e.cs hb hs).F=bw:=rfl
 have hVI:(nX b0 fns k ch e.cs hb hs).I c=CH b0 fns k c ch++[.row 1 [[.ptr 1 3 0 0]],.row 4 [[.p (.int .i64 e.op),.p (.int .i64 e.n),.p (.str e.name),.p (exL e.kids)]],.row 1 [[upV ch]]]:=by simp[nX,bxs,hec]
 rw[hcaps,hF,hVI,hec] at hI
 have hup:=JB ch
 generalize upV ch=u at hI hup⊢
 rcases hup with rfl|⟨i,rfl⟩
 ·simp-implicitDefEqProofs[eQ,hec,hlen]
  refine hI.mono ?_
  rintro r h ⟨rfl,rfl⟩
  simp-implicitDefEqProofs[aa]
  exact⟨_,rfl⟩
 ·simp-implicitDefEqProofs[eQ,hec,hlen]
  refine hI.mono ?_
  rintro r h ⟨rfl,rfl⟩
  simp-implicitDefEqProofs[aa]
  exact⟨_,rfl⟩
end
section
theorem mv:AK.whole dU=FK.ak dX:=rfl
theorem Bf(fns:List Fd)(k:Nat):∀(a b:List Sm) (m:Scp) (up:List Scp) (c:Int),ga fns k (a++b) m up c=ga fns k b (ga fns k a m up c).1 up (ga fns k a m up c).2
 |[],b,m,up,c=>rfl
 |s::r,b,m,up,c=>by rw[QO,ga,ga,Bf fns k r]
theorem FA{fns:List Fd}{k:Nat}{l:List Sm}{m:Scp}{up:List Scp}{c:Int}{i:Nat}(h:i<l.length):ga fns k (l.take (i+1)) m up c=icS fns k l[i] (ga fns k (l.take i) m up c).1 up (ga fns k (l.take i) m up c).2:=by
 rw[al h,Bf];rfl
def AX(b0:AO)(fns:List Fd)(k:Nat)(up:List GS)(gap:List AO)(c:Int):List AO:=b0::cO fns k c::(scH up++gap)
theorem Mn(b0:AO)(fns:List Fd)(k:Nat)(up:List GS)(gap:List AO)(c:Int):(AX b0 fns k up gap c).length=2+scL up+gap.length:=by
 simp only[AX,Qw,Qq,jQ];omega
theorem Hy(b0:AO)(fns:List Fd)(k:Nat)(up:List GS)(gap:List AO)(m:Scp)(c:Int)(rest:List AO):CH b0 fns k c (⟨gap,m⟩::up)++rest=AX b0 fns k up gap c++(.mp (mpE m):: .row 2 [[.mp (2+scL up+gap.length),upV up]]::rest):=by
 simp[CH,AX,scH]
theorem HS(b0:AO)(fns:List Fd)(k:Nat)(up:List GS)(gap:List AO)(m:Scp)(c:Int):CH b0 fns k c (⟨gap,m⟩::up)=AX b0 fns k up gap c++[.mp (mpE m),.row 2 [[.mp (2+scL up+gap.length),upV up]]]:=by
 have:=Hy b0 fns k up gap m c []
 rwa[QK] at this
theorem NE{b0:AO}{fns:List Fd}{k:Nat}{up:List GS}{gap:List AO}(hb:okO 0 b0)(hs:vI up)(hg:∀o∈gap,okO (2+scL up+gap.length) o)(c:Int):∀o∈AX b0 fns k up gap c,okO (2+scL up+gap.length) o:=by
 refine af (cA hb) (af (by intro e he;rw[Qt.1 he];simp[below]) ?_)
 intro o ho
 rcases Qn.1 ho with h|h
 ·exact Dp up hs (by omega) o h
 ·exact hg o h
theorem tU{kk L n:Nat}{A r s:List AO}{l l1:List (Nat × AV)}(hl:A.length=L)(hk:kk<=L+r.length)(ha:∀o∈A,okO L o)(hr:∀o∈r,okO (L+r.length) o)(H:FgA (L+r.length) l l1):Wk kk (ag n l) (A++(r++s)) (ag n l1) (A++r):=by
 have hll:(A++r).length=L+r.length:=by rw[Qq,hl]
 refine ka (m:=L+r.length) hk (fg ?_ hll ?_) H
 ·rw[←Qv,←hll,List.take_left'];rfl
 ·intro o ho
  rcases Qn.1 ho with h|h
  ·exact pN (by omega) (ha o h)
  ·exact hr o h
theorem Bo(m:Scp)(n:Nat):okO n (.mp (mpE m)):=by
 intro e he
 obtain⟨x,_,rfl⟩:=Qx.1 he
 simp[below]
variable (G:aq)
theorem Li(b0:AO){fns:List Fd}{k:Nat}(hf:fns.length<=1073741824)(hk:k<=fns.length)(hb:okO 0 b0):∀(N:Nat) (l:List Sm),aG l<N->aG l<=1073741824->∀(gap:List AO) (m:Scp) (up:List GS) (c:Int),vI (⟨gap,m⟩::up)->
 AC Tryz.prog G bi [.ptr 1 3 0 0,.p (smL l),upV (⟨gap,m⟩::up)] (CH b0 fns k c (⟨gap,m⟩::up)) λx h=>x= .ret (.tup [])/\h=CH b0 fns k (ga fns k l m (sco up) c).2 (⟨gap,(ga fns k l m (sco up) c).1⟩::up):=by
 intro N
 induction N with
 |zero=>intro l h;omega
 |succ N ih=>
  intro l hl hz gap m up c hs
  have hll:=aZ l
  have hsl:∀l,smL l= .lst 5 (l.map Sm.cs):=λ_=>rfl
  have hs':∀m,vI (⟨gap,m⟩::up):=λ_=>hs
  have hscl:∀m,scL (⟨gap,m⟩::up)=scL up+gap.length+2:=λ_=>rfl
  refine Lm G (AC.goK mP mv ?_) (by rw[gE,gE];rfl) (by rw[gE];exact BQ hb (hs' _) (by rw[hscl];exact Nat.le_of_eq (by rfl))) (by simp[below])
  have hup:upV (⟨gap,m⟩::up)= .ptr (2+scL up+gap.length+1) 2 0 0:=rfl
  have hlenC:∀c m,(CH b0 fns k c (⟨gap,m⟩::up)).length=2+scL up+gap.length+2:=λc m=>by rw[gE,hscl];omega
  have hokC:∀c m,∀o∈CH b0 fns k c (⟨gap,m⟩::up),okO (2+scL up+gap.length+2) o:=λc m=>BQ hb (hs' m) (by rw[hscl];omega)
  have hlenA:∀c,(AX b0 fns k up gap c).length=2+scL up+gap.length:=Mn b0 fns k up gap
  simp-implicitDefEqProofs[dU,dX,hsl,hup]
  refine an (λi:Nat=>ag 89 [(0,.ptr 1 3 0 0),(2,.ptr (2+scL up+gap.length+1) 2 0 0),(14,.p (smL l)),(15,.p (.int .i64 l.length)),(16,.p (.int .i64 i))])
   (λi=>CH b0 fns k (ga fns k (l.take i) m (sco up) c).2 (⟨gap,(ga fns k (l.take i) m (sco up) c).1⟩::up)) (λi=>i<=l.length) (λi=>l.length-i) 0 (by simp) ?_ ?_
  ·refine ab (h:=CH b0 fns k c (⟨gap,m⟩::up)) (Qi _) (by rw[hlenC];exact hokC _ _) ?_
   rw[hlenC]
   simp[below,hsl]
  intro i hi
  have eT:=λh=>FA (fns:=fns) (k:=k) (l:=l) (m:=m) (up:=sco up) (c:=c) (i:=i) h
  rw[hlenC]
  generalize hst:ga fns k (l.take i) m (sco up) c=st at eT⊢
  obtain⟨mi,ci⟩:=st
  simp only at eT⊢
  simp-implicitDefEqProofs[hsl]
  refine aQ (λh=>?_) (λh=>?_)
  ·simp at h
   have hg:=Qd h
   have hse:=l[i].cs_eq
   have hsz:=l[i].sz_eq
   have hks:=aM (Qj h)
   have eT:=eT h
   generalize l[i]=s at hg hse hsz hks eT
   obtain⟨o,nme,a,bd,el⟩:=s
   simp only[Sm.op,Sm.name,Sm.args,Sm.body,Sm.els] at hse hsz
   have hxl:exL a= .lst 4 (a.map Ex.cs):=rfl
   have hal:=aS a
   simp-implicitDefEqProofs[hg,hse,hlenC,hxl]
   have hexpr:∀(c:Int) (e:Ex) (rest:List AO),e.sz<=1073741824->AC Tryz.prog G cQ [.ptr 1 3 0 0,.agg (e.cs.map .p),.ptr (2+scL up+gap.length+1) 2 0 0] (AX b0 fns k up gap c++(.mp (mpE mi):: .row 2 [[.mp (2+scL up+gap.length),upV up]]::rest)) λx h=>x= .ret (.tup [])/\h=AX b0 fns k up gap (e.pre.foldl (fu fns k (mi::sco up)) c)++(.mp (mpE mi):: .row 2 [[.mp (2+scL up+gap.length),upV up]]::rest):=by
    intro c e rest he
    have:=Ml G (Mx G b0 hf hk (⟨gap,mi⟩::up) hb (hs' mi) c e he) hb (hs' mi) rfl rest (by refine⟨by simp only[below];omega,by simp,iN _ (Qi _),trivial⟩)
    simp only[Hy] at this
    exact this
   have hfail:∀(c e:Int) (t:List AO),AC Tryz.prog G bR [.ptr 1 3 0 0,.p (.int .i64 e)] (AX b0 fns k up gap c++t) λx h=>x= .ret (.tup [])/\h=AX b0 fns k up gap (fl c e)++t:=λc e t=>Aq G b0 fns k c e _
   have hfind:∀(c:Int) (m:Scp) (s:List UInt8) (rest:List AO),AC Tryz.prog G bL [.ptr (2+scL up+gap.length+1) 2 0 0,.p (.str s)] (AX b0 fns k up gap c++(.mp (mpE m):: .row 2 [[.mp (2+scL up+gap.length),upV up]]::rest)) λx h=>x= .ret (.tup [.p (.int .i64 (((fL (m::sco up) s).getD 0:Nat):Int)),.p (.bool (fL (m::sco up) s).isSome)])/\h=AX b0 fns k up gap c++(.mp (mpE m):: .row 2 [[.mp (2+scL up+gap.length),upV up]]::rest):=by
    intro c m s rest
    have:=Hj G b0 (cO fns k c) (⟨gap,m⟩::up) rest s
    have e:b0::cO fns k c::(scH (⟨gap,m⟩::up)++rest)=CH b0 fns k c (⟨gap,m⟩::up)++rest:=rfl
    rw[e,Hy] at this
    exact this
   have hblk:∀(c:Int) (m2:Scp) (l':List Sm) (gap2:List AO),aG l'<N->aG l'<=1073741824->(∀o∈gap2,okO (2+scL up+gap.length+2+gap2.length) o)->
    AC Tryz.prog G bi [.ptr 1 3 0 0,.p (smL l'),.ptr (2+scL up+gap.length+2+gap2.length+1) 2 0 0] (AX b0 fns k up gap c++(.mp (mpE m2):: .row 2 [[.mp (2+scL up+gap.length),upV up]]::(gap2++[.mp [],.row 2 [[.mp (2+scL up+gap.length+2+gap2.length),.ptr (2+scL up+gap.length+1) 2 0 0]]])))
     λx h=>x= .ret (.tup [])/\∃m',h=AX b0 fns k up gap (ga fns k l' [] (m2::sco up) c).2++(.mp (mpE m2):: .row 2 [[.mp (2+scL up+gap.length),upV up]]::(gap2++[.mp (mpE m'),.row 2 [[.mp (2+scL up+gap.length+2+gap2.length),.ptr (2+scL up+gap.length+1) 2 0 0]]])):=by
    intro c m2 l' gap2 h1 h2 h3
    have e1:2+scL (⟨gap,m2⟩::up)+gap2.length=2+scL up+gap.length+2+gap2.length:=by rw[hscl];omega
    have e2:∀c m',CH b0 fns k c (⟨gap2,m'⟩::⟨gap,m2⟩::up)=AX b0 fns k up gap c++(.mp (mpE m2):: .row 2 [[.mp (2+scL up+gap.length),upV up]]::(gap2++[.mp (mpE m'),.row 2 [[.mp (2+scL up+gap.length+2+gap2.length),.ptr (2+scL up+gap.length+1) 2 0 0]]])):=by
     intro c m'
     rw[←e1]
     simp[CH,AX,scH,upV]
    have:=ih l' h1 h2 gap2 [] (⟨gap,m2⟩::up) c ⟨by rw[e1];exact h3,hs' m2⟩
    rw[show upV (⟨gap2,[]⟩::⟨gap,m2⟩::up)= .ptr (2+scL up+gap.length+2+gap2.length+1) 2 0 0 by rw[←e1];rfl] at this
    rw[e2] at this
    refine this.mono ?_
    rintro x h ⟨hx,hh⟩
    exact⟨hx,(ga fns k l' [] (sco (⟨gap,m2⟩::up)) c).1,by rw[hh,e2];rfl⟩
   rw[HS b0 fns k up gap mi ci,Qv]
   simp only[QO,List.nil_append]
   have hokA:=NE (fns:=fns) (k:=k) hb hs.2 hs.1
   generalize hL:2+scL up+gap.length=L at hexpr hfind hblk hlenA hlenC hokC hokA⊢
   have hR:okO (L+2) (.row 2 [[.mp L,upV up]]):=by
    intro e he;rw[Qt.1 he]
    exact⟨by simp only[below];omega,iN up (by omega),trivial⟩
   have hX:okO 0 (.row 5 [[AV.p (.int .i64 o),.p (.str nme),.p (.lst 4 (a.map Ex.cs)),.p (smL bd),.p (smL el)]]):=by simp[okO]
   have ok3:∀(m:Scp),∀x∈[AO.mp (mpE m),.row 2 [[.mp L,upV up]],.row 5 [[AV.p (.int .i64 o),.p (.str nme),.p (.lst 4 (a.map Ex.cs)),.p (smL bd),.p (smL el)]]],okO (L+3) x:=λm=>
    af (Bo _ _) (af (pN (by omega) hR) (af (cA hX) dI))
   refine an (λj:Nat=>ag 89 [(0,.ptr 1 3 0 0),(2,.ptr (L+1) 2 0 0),(7,.ptr (L+2) 5 0 0),(14,.p (smL l)),(15,.p (.int .i64 l.length)),(16,.p (.int .i64 i)),(21,.p (exL a)),(22,.p (.int .i64 a.length)),(23,.p (.int .i64 j))])
    (λj=>AX b0 fns k up gap ((gu (a.take j)).foldl (fu fns k (mi::sco up)) ci)++[.mp (mpE mi),.row 2 [[.mp L,upV up]],.row 5 [[AV.p (.int .i64 o),.p (.str nme),.p (.lst 4 (a.map Ex.cs)),.p (smL bd),.p (smL el)]]])
    (λj=>j<=a.length) (λj=>a.length-j) 0 (by simp) ?_ ?_
   ·refine tU (s:=[]) (hlenA _) (by simp) (hokA _) (ok3 _) ?_
    simp[below,hsl,hxl]
   intro j hj
   simp-implicitDefEqProofs[hxl]
   refine aQ (λhc=>?_) (λhc=>?_)
   ·simp at hc
    have hga:=Qd hc
    have hka:=aF (Qj hc)
    have hkc:=a[j].cs_eq
    have hE:=hexpr ((gu (a.take j)).foldl (fu fns k (mi::sco up)) ci) a[j] [.row 5 [[AV.p (.int .i64 o),.p (.str nme),.p (.lst 4 (a.map Ex.cs)),.p (smL bd),.p (smL el)]],.row 4 [[.p (.int .i64 a[j].op),.p (.int .i64 a[j].n),.p (.str a[j].name),.p (exL a[j].kids)]]] (by omega)
    rw[hkc] at hE
    simp-implicitDefEqProofs[hga,hkc,hlenA]
    refine hE.mono ?_
    rintro r h ⟨rfl,rfl⟩
    simp-implicitDefEqProofs[aa]
    refine⟨j+1,hc,by omega,?_⟩
    have hf2:(gu (a.take (j+1))).foldl (fu fns k (mi::sco up)) ci=a[j].pre.foldl (fu fns k (mi::sco up)) ((gu (a.take j)).foldl (fu fns k (mi::sco up)) ci):=by
     rw[al hc,rf,List.foldl_append,gu,gu,QK]
    rw[hf2]
    refine tU (r:=[_,_,_]) (s:=[_]) (hlenA _) (by simp) (hokA _) (ok3 _) ?_
    simp[below,hsl,hxl,w1 (i:=j) (by omega)]
   simp at hc
   have hje:j=a.length:=by omega
   subst hje
   rw[QC]
   have hic:icS fns k ⟨o,nme,a,bd,el⟩ mi (sco up) ci=(opS o nme mi 0,if o=5\/o=6 then(ga fns k el [] (opS o nme mi 0::sco up) (ga fns k bd [] (opS o nme mi 0::sco up) (opC o nme mi (sco up) (DK fns k (mi::sco up) a ci))).2).2 else opC o nme mi (sco up) (DK fns k (mi::sco up) a ci)):=rfl
   rw[hic] at eT
   clear hic
   rw[show(gu a).foldl (fu fns k (mi::sco up)) ci=DK fns k (mi::sco up) a ci from rfl]
   generalize DK fns k (mi::sco up) a ci=c1 at eT⊢
   simp-implicitDefEqProofs[]
   refine lF (ag 89 [(0,.ptr 1 3 0 0),(2,.ptr (L+1) 2 0 0),(7,.ptr (L+2) 5 0 0),(14,.p (smL l)),(15,.p (.int .i64 l.length)),(16,.p (.int .i64 i))])
    (AX b0 fns k up gap (opC o nme mi (sco up) c1)++[.mp (mpE (opS o nme mi 0)),.row 2 [[.mp L,upV up]],.row 5 [[AV.p (.int .i64 o),.p (.str nme),.p (.lst 4 (a.map Ex.cs)),.p (smL bd),.p (smL el)]]]) ?_ ?_
   ·have fin:∀(r1:List (Nat × AV)) (c2:Int) (m2:Scp),Aw.look r1 0= .ptr 1 3 0 0->Aw.look r1 2= .ptr (L+1) 2 0 0->Aw.look r1 7= .ptr (L+2) 5 0 0->Aw.look r1 14= .p (smL l)->Aw.look r1 15= .p (.int .i64 l.length)->Aw.look r1 16= .p (.int .i64 i)->
     Wk (L+2) (ag 89 r1) (AX b0 fns k up gap c2++[.mp (mpE m2),.row 2 [[.mp L,upV up]],.row 5 [[AV.p (.int .i64 o),.p (.str nme),.p (.lst 4 (a.map Ex.cs)),.p (smL bd),.p (smL el)]]])
      (ag 89 [(0,.ptr 1 3 0 0),(2,.ptr (L+1) 2 0 0),(7,.ptr (L+2) 5 0 0),(14,.p (smL l)),(15,.p (.int .i64 l.length)),(16,.p (.int .i64 i))])
      (AX b0 fns k up gap c2++[.mp (mpE m2),.row 2 [[.mp L,upV up]],.row 5 [[AV.p (.int .i64 o),.p (.str nme),.p (.lst 4 (a.map Ex.cs)),.p (smL bd),.p (smL el)]]]):=by
     intro r1 c2 m2 e0 e2 e7 e14 e15 e16
     refine tU (s:=[]) (hlenA _) (by simp) (hokA _) (ok3 _) ?_
     simp[below,e0,e2,e7,e14,e15,e16]
    by_cases o1:o=1
    ·have hmg:=pX nme mi
     have hms:iS (.str nme) (.p (.int .i64 0)) (mpE mi)=some (mpE (iM mi nme 0)):=by simpa using uz nme 0 mi
     have e2:opS o nme mi 0=iM mi nme 0:=if_pos o1
     rw[e2]
     cases hh:gt mi nme with
     |none=>
      have e1:opC o nme mi (sco up) c1=c1:=by rw[opC,if_pos o1,hh];rfl
      rw[hh] at hmg
      rw[e1]
      subst o1
      simp-implicitDefEqProofs[hlenA,hmg,hms]
      exact fin _ _ _ (by simp) (by simp) (by simp) (by simp[hsl]) (by simp) (by simp)
     |some n=>
      have e1:opC o nme mi (sco up) c1=fl c1 2:=by rw[opC,if_pos o1,hh];rfl
      rw[hh] at hmg
      rw[e1]
      subst o1
      simp-implicitDefEqProofs[hlenA,hmg,hms]
      refine(hfail c1 2 _).mono ?_
      rintro r h ⟨rfl,rfl⟩
      simp-implicitDefEqProofs[aa,hlenA,hms]
      exact fin _ _ _ (by simp) (by simp) (by simp) (by simp[hsl]) (by simp) (by simp)
    have e2:opS o nme mi 0=mi:=if_neg o1
    rw[e2]
    by_cases o2:o=2
    ·cases hh:fL (mi::sco up) nme with
     |none=>
      have e1:opC o nme mi (sco up) c1=fl c1 3:=by rw[opC,if_neg o1,if_pos o2,hh];rfl
      rw[e1]
      subst o2
      have hF:=hfind c1 mi nme [.row 5 [[AV.p (.int .i64 2),.p (.str nme),.p (.lst 4 (a.map Ex.cs)),.p (smL bd),.p (smL el)]]]
      rw[hh] at hF
      simp-implicitDefEqProofs[hlenA]
      refine hF.mono ?_
      rintro r h ⟨rfl,rfl⟩
      simp-implicitDefEqProofs[aa]
      refine(hfail c1 3 _).mono ?_
      rintro r h ⟨rfl,rfl⟩
      simp-implicitDefEqProofs[aa]
      exact fin _ _ _ (by simp) (by simp) (by simp) (by simp[hsl]) (by simp) (by simp)
     |some n=>
      have e1:opC o nme mi (sco up) c1=c1:=by rw[opC,if_neg o1,if_pos o2,hh];rfl
      rw[e1]
      subst o2
      have hF:=hfind c1 mi nme [.row 5 [[AV.p (.int .i64 2),.p (.str nme),.p (.lst 4 (a.map Ex.cs)),.p (smL bd),.p (smL el)]]]
      rw[hh] at hF
      simp-implicitDefEqProofs[hlenA]
      refine hF.mono ?_
      rintro r h ⟨rfl,rfl⟩
      simp-implicitDefEqProofs[aa]
      exact fin _ _ _ (by simp) (by simp) (by simp) (by simp[hsl]) (by simp) (by simp)
    ·have e1:opC o nme mi (sco up) c1=c1:=by rw[opC,if_neg o1,if_neg o2]
     rw[e1]
     simp-implicitDefEqProofs[hlenA,o1,o2]
     exact fin _ _ _ (by simp) (by simp) (by simp) (by simp[hsl]) (by simp) (by simp)
   generalize opC o nme mi (sco up) c1=c2 at eT⊢
   generalize opS o nme mi 0=m2 at eT⊢
   have hdrop:∀(r1:List (Nat × AV)) (c3:Int) (s:List AO),Aw.look r1 0= .ptr 1 3 0 0->Aw.look r1 2= .ptr (L+1) 2 0 0->Aw.look r1 14= .p (smL l)->Aw.look r1 15= .p (.int .i64 l.length)->Aw.look r1 16= .p (.int .i64 ((i:Int)+1))->
    Wk (L+2) (ag 89 r1) (AX b0 fns k up gap c3++([.mp (mpE m2),.row 2 [[.mp L,upV up]]]++s)) (ag 89 [(0,.ptr 1 3 0 0),(2,.ptr (L+1) 2 0 0),(14,.p (smL l)),(15,.p (.int .i64 l.length)),(16,.p (.int .i64 ((i:Int)+1)))]) (CH b0 fns k c3 (⟨gap,m2⟩::up)):=by
    intro r1 c3 s e0 e2 e14 e15 e16
    rw[HS,hL]
    refine tU (hlenA _) (by simp) (hokA _) (af (Bo _ _) (af hR dI)) ?_
    simp[below,e0,e2,e14,e15,e16]
   by_cases ho:o=5\/o=6
   ·rw[if_pos ho] at eT
    rcases ho with o5|o6
    ·subst o5
     simp-implicitDefEqProofs[hlenA]
     refine(uq G (.ptr (L+1) 2 0 0) (.inr ⟨_,rfl⟩) _).mono ?_
     rintro r h ⟨rfl,rfl⟩
     simp-implicitDefEqProofs[aa,hlenA]
     refine(hblk c2 m2 bd [_] (by omega) (by omega) (λx hx=>by rw[Qt.1 hx];exact cA (by simp[okO]))).mono ?_
     rintro r h ⟨rfl,m3,rfl⟩
     simp-implicitDefEqProofs[aa,hlenA]
     refine(uq G (.ptr (L+1) 2 0 0) (.inr ⟨_,rfl⟩) _).mono ?_
     rintro r h ⟨rfl,rfl⟩
     simp-implicitDefEqProofs[aa,hlenA]
     refine(hblk _ m2 el [_,_,_] (by omega) (by omega) (af (cA (by simp[okO])) (af (Bo _ _) (af (by
      intro e he;rw[Qt.1 he]
      exact⟨by simp only[below];simp,by simp only[below];simp,trivial⟩) dI)))).mono ?_
     rintro r h ⟨rfl,m4,rfl⟩
     simp-implicitDefEqProofs[aa,hlenA]
     refine⟨i+1,by omega,by omega,?_⟩
     rw[eT]
     refine hdrop _ _ _ (by simp) (by simp) (by simp[hsl]) (by simp) (by simp[w1 (i:=i) (by omega)])
    ·subst o6
     simp-implicitDefEqProofs[hlenA]
     refine(uq G (.ptr (L+1) 2 0 0) (.inr ⟨_,rfl⟩) _).mono ?_
     rintro r h ⟨rfl,rfl⟩
     simp-implicitDefEqProofs[aa,hlenA]
     refine(hblk c2 m2 bd [_] (by omega) (by omega) (λx hx=>by rw[Qt.1 hx];exact cA (by simp[okO]))).mono ?_
     rintro r h ⟨rfl,m3,rfl⟩
     simp-implicitDefEqProofs[aa,hlenA]
     refine(uq G (.ptr (L+1) 2 0 0) (.inr ⟨_,rfl⟩) _).mono ?_
     rintro r h ⟨rfl,rfl⟩
     simp-implicitDefEqProofs[aa,hlenA]
     refine(hblk _ m2 el [_,_,_] (by omega) (by omega) (af (cA (by simp[okO])) (af (Bo _ _) (af (by
      intro e he;rw[Qt.1 he]
      exact⟨by simp only[below];simp,by simp only[below];simp,trivial⟩) dI)))).mono ?_
     rintro r h ⟨rfl,m4,rfl⟩
     simp-implicitDefEqProofs[aa,hlenA]
     refine⟨i+1,by omega,by omega,?_⟩
     rw[eT]
     refine hdrop _ _ _ (by simp) (by simp) (by simp[hsl]) (by simp) (by simp[w1 (i:=i) (by omega)])
   ·rw[if_neg ho] at eT
    have o5:¬o=5:=λh=>ho (.inl h)
    have o6:¬o=6:=λh=>ho (.inr h)
    simp-implicitDefEqProofs[hlenA,o5,o6]
    refine⟨i+1,by omega,by omega,?_⟩
    rw[eT]
    refine hdrop _ _ [_] (by simp) (by simp) (by simp[hsl]) (by simp) (by simp[w1 (i:=i) (by omega)])
  ·simp at h
   have hie:i=l.length:=by omega
   subst hie
   rw[QC] at hst
   rw[hst]
   simp-implicitDefEqProofs[]
end
section
theorem nT:AK.whole eL=FK.ak eB:=rfl
theorem zb(fns:List Fd):∀(a b:List Fd) (k:Nat) (c:Int),iU fns k (a++b) c=iU fns (k+a.length) b (iU fns k a c)
 |[],b,k,c=>rfl
 |f::r,b,k,c=>by rw[QO,iU,iU,zb fns r];congr 1;simp only[Qw];omega
theorem DI{fns l:List Fd}{i:Nat}{c:Int}(h:i<l.length):iU fns 0 (l.take (i+1)) c=icF fns i l[i] (iU fns 0 (l.take i) c):=by
 rw[al h,zb,QG,Nat.min_eq_left (Nat.le_of_lt h),Rh];rfl
theorem GB(a b:List (List UInt8))(m:Scp)(c:Int):kr (a++b) m c=kr b (kr a m c).1 (kr a m c).2:=by simp[kr]
theorem Gp{l:List (List UInt8)}{i:Nat}{m:Scp}{c:Int}(h:i<l.length):kr (l.take (i+1)) m c=(iM (kr (l.take i) m c).1 l[i] 0,if(gt (kr (l.take i) m c).1 l[i]).isSome then fl (kr (l.take i) m c).2 2 else(kr (l.take i) m c).2):=by
 rw[al h,GB];rfl
variable (G:aq) (hK:G iq=some gr) (hS:G dN=some [.tbl opK opV])
include hK hS
theorem vW(l:List Fd)(hl:bl l<=1073741824):VF Tryz.prog G eM [.agg [.p (fdL l)]] (.p (.int .i64 (aP l))):=by
 have hll:=cJ l
 have hfl:∀l,fdL l= .lst 3 (l.map Fd.cs):=λ_=>rfl
 rw[CR]
 refine AC.goK nP nT ?_
 simp-implicitDefEqProofs[eL,eB]
 refine(uD G hK hS l hl).use ?_
 by_cases hv:cf l=true
 case neg=>
  have hv':cf l=false:=by simpa using hv
  simp-implicitDefEqProofs[hv']
 rw[if_pos hv]
 simp-implicitDefEqProofs[hv,hfl]
 refine an (λi:Nat=>ag 73 [(1,.ptr 0 1 0 0),(3,.ptr 1 3 0 0),(18,.p (fdL l)),(19,.p (.int .i64 l.length)),(20,.p (.int .i64 i))])
  (λi=>[.row 1 [[.p (fdL l)]],cO l (i-1) (iU l 0 (l.take i) 0)]) (λi=>i<=l.length) (λi=>l.length-i) 0 (by simp) ?_ ?_
 ·refine ab (h:=[.row 1 [[.p (fdL l)]],cO l 0 0]) (by simp) (by simp[okO,below,cO]) (by simp[below,hfl])
 intro i hi
 have hbo:okO 0 (.row 1 [[.p (fdL l)]]):=by simp[okO]
 simp-implicitDefEqProofs[hfl]
 refine aQ (λh=>?_) (λh=>?_)
 ·simp at h
  have hg:=Qd h
  have hks:=cU (Qj h)
  have eT:=DI (fns:=l) (c:=0) h
  obtain⟨j,ej,ejl⟩:=zm hg
  generalize l[i]=f at*
  have hcs:f.cs=[.str f.name,aB f.params,smL f.body]:=rfl
  have hfz:f.sz=1+f.name.length+(f.params.length+(f.params.map List.length).sum)+aG f.body:=rfl
  have hst:aB f.params= .lst 1 (f.params.map λw=>[.str w]):=rfl
  generalize iU l 0 (l.take i) 0=c0 at eT⊢
  simp-implicitDefEqProofs[hg,hcs,cO]
  have hic:icF l i f c0=(ga l i f.body (kr f.params [] (if j<i then fl c0 2 else c0)).1 [] (kr f.params [] (if j<i then fl c0 2 else c0)).2).2:=by
   rw[icF,ej];simp
  rw[hic] at eT
  clear hic
  refine lF (ag 73 [(1,.ptr 0 1 0 0),(3,.ptr 1 3 0 0),(4,.p (.int .i64 i)),(5,.ptr 2 3 0 0),(18,.p (fdL l)),(19,.p (.int .i64 l.length)),(20,.p (.int .i64 i))])
   [.row 1 [[.p (fdL l)]],cO l i (if j<i then fl c0 2 else c0),.row 3 [[.p (.str f.name),.p (aB f.params),.p (smL f.body)]]] ?_ ?_
  ·simp-implicitDefEqProofs[]
   refine(Gy G l f.name (by omega)).use ?_
   rw[ej]
   by_cases hj:j<i
   ·have hj':(j:Int)<(i:Int):=by omega
    rw[if_pos hj]
    simp-implicitDefEqProofs[ixI,hj']
    refine(Aq G (.row 1 [[.p (fdL l)]]) l i c0 2 [.row 3 [[.p (.str f.name),.p (aB f.params),.p (smL f.body)]]]).mono ?_
    rintro r h ⟨rfl,rfl⟩
    simp-implicitDefEqProofs[aa]
    exact ab (by simp) (by simp[okO,below,cO]) (by simp[below,hfl])
   ·have hj':¬(j:Int)<(i:Int):=by omega
    rw[if_neg hj]
    simp-implicitDefEqProofs[ixI,hj']
    exact ab (h:=[.row 1 [[.p (fdL l)]],cO l i c0,.row 3 [[.p (.str f.name),.p (aB f.params),.p (smL f.body)]]]) (by simp) (by simp[okO,below,cO]) (by simp[below,hfl])
  generalize (if j<i then fl c0 2 else c0)=c1 at eT⊢
  have hCH:∀(c:Int) (m:Scp),CH (.row 1 [[.p (fdL l)]]) l i c [⟨[.row 3 [[.p (.str f.name),.p (aB f.params),.p (smL f.body)]]],m⟩]=[.row 1 [[.p (fdL l)]],cO l i c,.row 3 [[.p (.str f.name),.p (aB f.params),.p (smL f.body)]],.mp (mpE m),.row 2 [[.mp 3,.nilp]]]:=λ_ _=>rfl
  simp-implicitDefEqProofs[]
  refine(uq G .nilp (.inl rfl) _).mono ?_
  rintro r h ⟨rfl,rfl⟩
  simp-implicitDefEqProofs[aa,hst]
  refine an (λq:Nat=>ag 73 [(1,.ptr 0 1 0 0),(3,.ptr 1 3 0 0),(4,.p (.int .i64 i)),(5,.ptr 2 3 0 0),(6,.ptr 4 2 0 0),(18,.p (fdL l)),(19,.p (.int .i64 l.length)),(20,.p (.int .i64 i)),(39,.p (aB f.params)),(40,.p (.int .i64 f.params.length)),(41,.p (.int .i64 q))])
   (λq=>[.row 1 [[.p (fdL l)]],cO l i (kr (f.params.take q) [] c1).2,.row 3 [[.p (.str f.name),.p (aB f.params),.p (smL f.body)]],.mp (mpE (kr (f.params.take q) [] c1).1),.row 2 [[.mp 3,.nilp]]])
   (λq=>q<=f.params.length) (λq=>f.params.length-q) 0 (by simp) ?_ ?_
  ·exact ab (h:=[.row 1 [[.p (fdL l)]],cO l i c1,.row 3 [[.p (.str f.name),.p (aB f.params),.p (smL f.body)]],.mp [],.row 2 [[.mp 3,.nilp]]]) (by simp) (by simp[okO,below,cO]) (by simp[below,hfl,hst])
  intro q hq
  have eP:=λh=>Gp (l:=f.params) (i:=q) (m:=[]) (c:=c1) h
  generalize hP:kr (f.params.take q) [] c1=st at eP⊢
  obtain⟨mq,cq⟩:=st
  simp only at eP⊢
  simp-implicitDefEqProofs[hst]
  refine aQ (λhc=>?_) (λhc=>?_)
  ·simp at hc
   have hga:=Qd hc
   have eP:=eP hc
   generalize f.params[q]=nme at hga eP
   have hmg:=pX nme mq
   have hms:iS (.str nme) (.p (.int .i64 0)) (mpE mq)=some (mpE (iM mq nme 0)):=by simpa using uz nme 0 mq
   have fin:∀(r1:List (Nat × AV)) (c2:Int),Aw.look r1 1= .ptr 0 1 0 0->Aw.look r1 3= .ptr 1 3 0 0->Aw.look r1 4= .p (.int .i64 i)->Aw.look r1 5= .ptr 2 3 0 0->Aw.look r1 6= .ptr 4 2 0 0->Aw.look r1 18= .p (fdL l)->Aw.look r1 19= .p (.int .i64 l.length)->Aw.look r1 20= .p (.int .i64 i)->Aw.look r1 39= .p (aB f.params)->Aw.look r1 40= .p (.int .i64 f.params.length)->Aw.look r1 41= .p (.int .i64 ((q:Int)+1))->
    Wk 0 (ag 73 r1) [.row 1 [[.p (fdL l)]],cO l i c2,.row 3 [[.p (.str f.name),.p (aB f.params),.p (smL f.body)]],.mp (mpE (iM mq nme 0)),.row 2 [[.mp 3,.nilp]]]
     (ag 73 [(1,.ptr 0 1 0 0),(3,.ptr 1 3 0 0),(4,.p (.int .i64 i)),(5,.ptr 2 3 0 0),(6,.ptr 4 2 0 0),(18,.p (fdL l)),(19,.p (.int .i64 l.length)),(20,.p (.int .i64 i)),(39,.p (aB f.params)),(40,.p (.int .i64 f.params.length)),(41,.p (.int .i64 ((q:Int)+1)))])
     [.row 1 [[.p (fdL l)]],cO l i c2,.row 3 [[.p (.str f.name),.p (aB f.params),.p (smL f.body)]],.mp (mpE (iM mq nme 0)),.row 2 [[.mp 3,.nilp]]]:=by
    intro r1 c2 e1 e3 e4 e5 e6 e18 e19 e20 e39 e40 e41
    refine ab (by simp) (af (by simp[okO]) (af (by simp[okO,cO]) (af (by simp[okO]) (af (Bo _ _) (af (by simp[okO,below]) dI))))) ?_
    simp[below,e1,e3,e4,e5,e6,e18,e19,e20,e39,e40,e41]
   cases hh:gt mq nme with
   |none=>
    rw[hh] at hmg eP
    simp-implicitDefEqProofs[hga,hmg,hms]
    refine⟨q+1,by omega,by omega,?_⟩
    rw[eP]
    exact fin _ _ (by simp) (by simp) (by simp) (by simp) (by simp) (by simp[hfl]) (by simp) (by simp) (by simp[hst]) (by simp) (by simp[w1 (i:=q) (by omega)])
   |some n=>
    rw[hh] at hmg eP
    simp-implicitDefEqProofs[hga,hmg,hms]
    refine(Aq G (.row 1 [[.p (fdL l)]]) l i cq 2 _).mono ?_
    rintro r h ⟨rfl,rfl⟩
    simp-implicitDefEqProofs[aa,hms]
    refine⟨q+1,by omega,by omega,?_⟩
    rw[eP]
    exact fin _ _ (by simp) (by simp) (by simp) (by simp) (by simp) (by simp[hfl]) (by simp) (by simp) (by simp[hst]) (by simp) (by simp[w1 (i:=q) (by omega)])
  ·simp at hc
   have hqe:q=f.params.length:=by omega
   subst hqe
   rw[QC] at hP
   rw[hP] at eT
   simp only at eT
   have hB:=Li G (.row 1 [[.p (fdL l)]]) (fns:=l) (k:=i) (by omega) (by omega) hbo (aG f.body+1) f.body (by omega) (by omega) [.row 3 [[.p (.str f.name),.p (aB f.params),.p (smL f.body)]]] mq [] cq ⟨by simp[okO],trivial⟩
   rw[hCH] at hB
   simp-implicitDefEqProofs[]
   refine hB.mono ?_
   rintro r h ⟨rfl,rfl⟩
   simp-implicitDefEqProofs[aa]
   refine⟨i+1,by omega,by omega,?_⟩
   rw[eT]
   refine ka (m:=2) (by omega) (fg rfl rfl (by simp[okO,below,cO])) (by simp[below,hfl,w1 (i:=i) (by omega)])
 ·simp at h
  have hie:i=l.length:=by omega
  subst hie
  rw[QC]
  simp-implicitDefEqProofs[cO]
end
section
variable (G:aq)
theorem Ir(l:List Fd)(hz:bl l<=1073741824):VF Tryz.prog G kx [.agg [.p (fdL l)]] (.p (.bool (decide (aP l=0)))):=by
 refine AC.go yj ?_
 simp-implicitDefEqProofs[ou]
 refine(uH G l hz).use ?_
 simp-implicitDefEqProofs[]
variable (hK:G iq=some gr) (hS:G dN=some [.tbl opK opV])
include hK hS
theorem LF(l:List Fd)(hz:bl l<=1073741824):VF Tryz.prog G nj [.agg [.p (fdL l)]] (.p (.bool (decide (aP l=0)))):=by
 refine AC.go BI ?_
 simp-implicitDefEqProofs[sY]
 refine(vW G hK hS l hz).use ?_
 simp-implicitDefEqProofs[]
end
section
def dG{σ α β:Type}(g:σ->α->β × σ):σ->List α->List β × σ
 |st,[]=>([],st)
 |st,x::r=>((g st x).1::(dG g (g st x).2 r).1,(dG g (g st x).2 r).2)
theorem BV{σ α β:Type}(g:σ->α->β × σ):∀(a b:List α) (st:σ),dG g st (a++b)=((dG g st a).1++(dG g (dG g st a).2 b).1,(dG g (dG g st a).2 b).2)
 |[],b,st=>rfl
 |x::r,b,st=>by rw[QO,dG,BV g r];rfl
theorem sN{σ α β:Type}{g:σ->α->β × σ}{l:List α}{st:σ}{i:Nat}(h:i<l.length):dG g st (l.take (i+1))=((dG g st (l.take i)).1++[(g (dG g st (l.take i)).2 l[i]).1],(g (dG g st (l.take i)).2 l[i]).2):=by
 rw[al h,BV];rfl
theorem ri{σ α β:Type}(g:σ->α->β × σ):∀(l:List α) (st:σ),(dG g st l).1.length=l.length
 |[],st=>rfl
 |x::r,st=>by rw[dG,Qw,Qw,ri g r]
theorem pU{σ α β:Type}{g:σ->α->β × σ}{inv:Nat->σ->Prop}:∀{l:List α} {st:σ} {k:Nat},inv k st->(∀(i:Nat) st (h:i<l.length),inv (k+i) st->inv (k+i+1) (g st l[i]).2)->∀i,i<=l.length->inv (k+i) (dG g st (l.take i)).2
 |[],st,k,h0,_,i,hi=>by
  have:i=0:=by simpa using hi
  subst this;exact h0
 |x::r,st,k,h0,hs,0,_=>h0
 |x::r,st,k,h0,hs,i+1,hi=>by
  have h1:=hs 0 st (by simp) h0
  have:=pU (g:=g) (l:=r) (st:=(g st x).2) (k:=k+1) h1 (λj st hj hv=>by
   have:=hs (j+1) st (by simp;omega) (by rw[show k+(j+1)=k+1+j by omega];exact hv)
   rw[show k+(j+1)+1=k+1+j+1 by omega] at this
   exact this) i (by simpa using hi)
  rw[List.take_succ_cons,dG,show k+(i+1)=k+1+i by omega]
  exact this
variable (G:aq)
end
section
variable (G:aq)
theorem JC(e:Ex)(n:Int):VF Tryz.prog G fO [.agg (e.cs.map .p),.p (.int .i64 n)] (.p (.bool (isN e n))):=by
 refine AC.go Az ?_
 by_cases h1:e.op=1
 ·simp-implicitDefEqProofs[lH,Ex.cs_eq,isN,h1]
 ·simp-implicitDefEqProofs[lH,Ex.cs_eq,isN,h1]
end
section
theorem lm{α β:Type}(f:α->β):∀(l:List α) (u:Unit),dG (λ(st:Unit) x=>(f x,st)) u l=(l.map f,u)
 |[],u=>rfl
 |x::r,u=>by rw[dG,lm f r];rfl
def LB(f:FuncId)(h:List AO)(hh:∀o∈h,okO h.length o):Vis Unit where
 I:=λ_=>h
 n:=h.length
 F:=f
 caps:=[]
 len:=λ_=>rfl
 ok:=λ_=>hh
 capsOk:=trivial
variable (G:aq)
end
end Go.Proofs.YthfklclcofcpiaaGreatDoor
