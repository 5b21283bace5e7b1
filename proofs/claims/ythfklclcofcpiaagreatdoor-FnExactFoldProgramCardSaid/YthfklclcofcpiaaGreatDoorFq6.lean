/-
  Contracts and lemmas that the card needs, part 6.
-/
import Derived.Test.YthfklclcofcpiaaGreatDoorFq5
namespace Go.Proofs.YthfklclcofcpiaaGreatDoor
open Go Go.Aw
set_option maxRecDepth 100000
set_option maxHeartbeats 4000000
section
theorem zs:AK.whole bN=FK.ak bO:=rfl
variable (G:ay)
theorem tp(e:Ex)(h:e.op=1):VF Tryz.prog G dS [.agg (e.cs.map .p),.nils,.nils] (.tup [.p (.int .i64 e.n),.p (.int .i64 0)]):=by
 have hc:=e.cs_eq
 refine AC.go oR ?_
 simp-implicitDefEqProofs[kH,hc,h]
theorem Gp(e a b:Ex)(hk:e.kids=[a,b])(ha:a.op=1)(hb:b.op=1)(h3:3<=e.op)(h10:e.op<=10)(va:V5 a.n)(vb:V5 b.n):VF Tryz.prog G dS [.agg (e.cs.map .p),.nils,.nils] (oN (ar5 e.op a.n b.n)):=by
 have hc:=e.cs_eq
 refine AC.go oR ?_
 have hxl:∀l,exL l= .lst 4 (l.map Ex.cs):=λ_=>rfl
 have o1:¬e.op=1:=by omega
 have o2:¬e.op=2:=by omega
 have o11:¬e.op=11:=by omega
 simp-implicitDefEqProofs[kH,hc,o1,o2,hxl,hk]
 refine(tp G a ha).use ?_
 simp-implicitDefEqProofs[o11]
 by_cases o10:e.op=10
 ·by_cases a0:a.n=0
  ·simp-implicitDefEqProofs[o10,a0,ar5,oN,tr5]
  ·simp-implicitDefEqProofs[o10,a0]
   refine(tp G b hb).use ?_
   simp-implicitDefEqProofs[o10]
   refine(nW G _).use ?_
   simp-implicitDefEqProofs[ar5,oN,a0]
 ·simp-implicitDefEqProofs[o10]
  refine(tp G b hb).use ?_
  simp-implicitDefEqProofs[o10]
  have H:=LS G e.op a.n b.n h3 (by omega) va vb
  rw[ar5,if_neg o10]
  cases hq:EL e.op a.n b.n with
  |none=>
   rw[hq] at H
   simp only[oN] at H
   refine H.use ?_
   simp-implicitDefEqProofs[oN]
  |some q=>
   rw[hq] at H
   simp only[oN] at H
   refine H.use ?_
   simp-implicitDefEqProofs[oN]
theorem IS{d:Nat}{e:Ex}(hf:aT d e=true)(hz:e.sz<=1099511627776):VF Tryz.prog G ip [.agg (e.cs.map .p)] (.agg ((fV e.op e.n e.name e.kids).cs.map .p)):=by
 have hc:=e.cs_eq
 have hxl:∀l,exL l= .lst 4 (l.map Ex.cs):=λ_=>rfl
 have hem:e= .mk e.op e.n e.name e.kids:=by cases e;rfl
 have hzz:=e.sz_eq
 obtain⟨d,rfl⟩:=nU hf
 have hkf:∀a∈e.kids,aT d a=true:=λa ha=>eN hf ha
 have hks:∀a∈e.kids,a.sz<=1099511627776:=λa ha=>by have:=aC ha;omega
 have hnc:∀q,(me q).cs=[.int .i64 1,.int .i64 q,.str [],.lst 4 []]:=λq=>rfl
 refine AC.goK zr zs ?_
 by_cases o11:e.op=11
 ·obtain⟨l1,l2,_⟩:=dd hf
  rw[o11] at l1 l2
  have e1:loK 11=1:=rfl
  have e2:hiK 11=1:=rfl
  rw[e1] at l1
  rw[e2] at l2
  obtain⟨a,hk⟩:∃a,e.kids=[a]:=by
   match hx:e.kids,l1,l2 with
   |[x],_,_=>exact⟨x,rfl⟩
  have hac:=a.cs_eq
  have hp:fV e.op e.n e.name e.kids=iU e.op e.n e.name a:=by
   unfold fV
   rw[if_neg (by omega),hk]
  rw[hp]
  by_cases a1:a.op=1
  ·rw[iU,if_pos a1]
   simp-implicitDefEqProofs[bN,bO,hc,o11,hk,hxl,hac,a1]
   refine(nW G _).use ?_
   simp-implicitDefEqProofs[]
   refine(mu G _).use ?_
   simp-implicitDefEqProofs[hnc]
  ·have same:(∀c,a.kids=[c]->¬(e.op=11/\a.op=11/\c.op=11))->iU e.op e.n e.name a=e:=by
    intro h
    have h0:Ex.mk e.op e.n e.name [a]=e:=by rw[←hk];exact hem.symm
    unfold iU
    rw[if_neg a1]
    split
    ·rename_i c hc'
     split
     ·rename_i h3
      exact(h c hc' ⟨o11,h3⟩).elim
     ·exact h0
    ·exact h0
   by_cases a11:a.op=11
   ·have haf:=hkf a (by rw[hk];simp)
    obtain⟨l1,l2,_⟩:=dd haf
    rw[a11,e1] at l1
    rw[a11,e2] at l2
    obtain⟨c,hkc⟩:∃c,a.kids=[c]:=by
     match hx:a.kids,l1,l2 with
     |[x],_,_=>exact⟨x,rfl⟩
    have hcc:=c.cs_eq
    by_cases c11:c.op=11
    ·have hq:iU e.op e.n e.name a=c:=by
      unfold iU
      rw[if_neg a1,hkc]
      exact if_pos ⟨a11,c11⟩
     rw[hq]
     simp-implicitDefEqProofs[bN,bO,hc,o11,hk,hxl,hac,a11,hkc,hcc,c11]
    ·rw[same (λx hx h=>by rw[hkc] at hx;cases hx;exact c11 h.2.2)]
     simp-implicitDefEqProofs[bN,bO,hc,o11,hk,hxl,hac,a11,hkc,hcc,c11]
   ·rw[same (λx hx h=>a11 h.2.1)]
    simp-implicitDefEqProofs[bN,bO,hc,o11,hk,hxl,hac,a1,a11]
 by_cases hr:3<=e.op/\e.op<=10
 case neg=>
  have hp:fV e.op e.n e.name e.kids=e:=by
   obtain⟨_,_,l3,l4⟩:=dd hf
   unfold fV
   split
   ·exact hem.symm
   ·rename_i hn
    split
    ·rename_i a hk
     exact(o11 (LY hf hk hn)).elim
    ·rename_i a b hk
     exact(hr (Dw hf hk hn)).elim
    ·exact hem.symm
  have hin:inR e.op 3 10=false:=by
   simp only[inR,Bool.and_eq_false_iff,decide_eq_false_iff_not];omega
  rw[hp]
  by_cases hl:e.kids.length=1
  ·simp-implicitDefEqProofs[bN,bO,hc,o11,hxl,hl]
   refine(nF G _ _ _).use ?_
   simp-implicitDefEqProofs[hin]
  ·have hl':¬(e.kids.length:Int)=1:=by omega
   simp-implicitDefEqProofs[bN,bO,hc,o11,hxl,hl']
   refine(nF G _ _ _).use ?_
   simp-implicitDefEqProofs[hin]
 obtain⟨h3,h10⟩:=hr
 obtain⟨a,b,hk⟩:∃a b,e.kids=[a,b]:=by
  obtain⟨l1,l2,_⟩:=dd hf
  have e1:loK e.op=2:=by rw[loK,if_neg (by omega),if_neg (by omega),if_neg (by omega)]
  have e2:hiK e.op=2:=by rw[hiK,if_neg (by omega),if_neg (by omega),if_neg (by omega)]
  rw[e1] at l1
  rw[e2] at l2
  match hx:e.kids,l1,l2 with
  |[a,b],_,_=>exact⟨a,b,rfl⟩
 have hac:=a.cs_eq
 have hbc:=b.cs_eq
 have haf:=hkf a (by rw[hk];simp)
 have hbf:=hkf b (by rw[hk];simp)
 have hp:fV e.op e.n e.name e.kids=lf e.op e.n e.name a b:=by
  unfold fV
  rw[if_neg (by omega),hk]
 have hin:inR e.op 3 10=true:=by
  simp only[inR,RK,decide_eq_true_eq];omega
 rw[hp]
 simp-implicitDefEqProofs[bN,bO,hc,o11,hk,hxl]
 refine(nF G _ _ _).use ?_
 simp-implicitDefEqProofs[hin,hac,hbc]
 have HA0:=vh G a 0
 have HA1:=vh G a 1
 have HB0:=vh G b 0
 have HB1:=vh G b 1
 have HSA:=Co G d a haf (hks a (by rw[hk];simp))
 have HSB:=Co G d b hbf (hks b (by rw[hk];simp))
 rw[hac] at HA0 HA1 HSA
 rw[hbc] at HB0 HB1 HSB
 simp only[Sb,List.map_nil] at HA0 HA1 HB0 HB1 HSA HSB
 refine ry (λ_:Unit=>am 148 [(1,.ptr 0 4 0 0),(2,.ptr 1 4 0 0),(4,.ptr 2 4 0 0),(5,.ptr 3 4 0 0)])
  (λ_=>[.row 4 [[.p (.int .i64 e.op),.p (.int .i64 e.n),.p (.str e.name),.p (.lst 4 [a.cs,b.cs])]],.row 4 [[.p (.int .i64 0),.p (.int .i64 0),.p (.str []),.nils]],.row 4 [[.p (.int .i64 a.op),.p (.int .i64 a.n),.p (.str a.name),.p (exL a.kids)]],.row 4 [[.p (.int .i64 b.op),.p (.int .i64 b.n),.p (.str b.name),.p (exL b.kids)]]])
  (λ_=>(if a.op=1/\b.op=1 then ar5 e.op a.n b.n else none)=none) ?_ ?_
 ·
  by_cases a1:a.op=1
  ·by_cases b1:b.op=1
   ·have H:=Gp G e a b hk a1 b1 h3 h10 (rS (gQ haf)) (rS (gQ hbf))
    rw[hc,hxl,hk] at H
    simp only[Sb,List.map_nil,hac,hbc,a1,b1] at H
    have hp2:∀q,ar5 e.op a.n b.n=some q->lf e.op e.n e.name a b=me q:=by
     intro q hq
     unfold lf
     rw[if_pos ⟨a1,b1⟩,hq]
    cases hq:ar5 e.op a.n b.n with
    |none=>
     rw[hq] at H
     simp only[oN] at H
     simp-implicitDefEqProofs[a1,b1,hac,hbc]
     refine H.use ?_
     simp-implicitDefEqProofs[hq]
     exact ab (by simp) (by simp[okO,below]) (by simp[below])
    |some q=>
     rw[hq] at H
     simp only[oN] at H
     rw[hp2 q hq]
     simp-implicitDefEqProofs[a1,b1,hac,hbc]
     refine H.use ?_
     simp-implicitDefEqProofs[]
     refine(mu G _).use ?_
     simp-implicitDefEqProofs[hnc]
   ·simp-implicitDefEqProofs[a1,b1,hac,hbc]
    exact ab (by simp) (by simp[okO,below]) (by simp[below])
  ·simp-implicitDefEqProofs[a1,hac,hbc]
   exact ab (by simp) (by simp[okO,below]) (by simp[below])
 intro _ hn
 have hp2:lf e.op e.n e.name a b=if e.op=10/\isN a 0=true then me 0 else if(e.op=3\/e.op=4)/\isN b 0=true\/(e.op=5\/e.op=6)/\isN b 1=true then a else if e.op=3/\isN a 0=true\/e.op=5/\isN a 1=true then b
  else if e.op=5/\(isN b 0=true/\cV a=true\/isN a 0=true/\cV b=true) then me 0 else e:=by
  unfold lf
  rw[hn]
  simp only
  rw[←hk,←hem]
 rw[hp2]
 simp only[hac,hbc]
 have ho:e.op=3\/e.op=4\/e.op=5\/e.op=6\/e.op=7\/e.op=8\/e.op=9\/e.op=10:=by omega
 rcases ho with ho|ho|ho|ho|ho|ho|ho|ho
 ·simp-implicitDefEqProofs[ho]
  refine HB0.use ?_
  by_cases hhb0:isN b 0=true
  ·simp-implicitDefEqProofs[hhb0,ho,hc,hxl,hk,hac,hbc]
  ·simp-implicitDefEqProofs[hhb0,ho,hc,hxl,hk,hac,hbc]
   refine HB1.use ?_
   by_cases hhb1:isN b 1=true
   ·simp-implicitDefEqProofs[hhb1,ho,hc,hxl,hk,hac,hbc]
    refine HA0.use ?_
    by_cases hha0:isN a 0=true
    ·simp-implicitDefEqProofs[hha0,ho,hc,hxl,hk,hac,hbc]
    ·simp-implicitDefEqProofs[hha0,ho,hc,hxl,hk,hac,hbc]
     refine HA1.use ?_
     by_cases hha1:isN a 1=true
     ·simp-implicitDefEqProofs[hha1,ho,hc,hxl,hk,hac,hbc]
     ·simp-implicitDefEqProofs[hha1,ho,hc,hxl,hk,hac,hbc]
   ·simp-implicitDefEqProofs[hhb1,ho,hc,hxl,hk,hac,hbc]
    refine HA0.use ?_
    by_cases hha0:isN a 0=true
    ·simp-implicitDefEqProofs[hha0,ho,hc,hxl,hk,hac,hbc]
    ·simp-implicitDefEqProofs[hha0,ho,hc,hxl,hk,hac,hbc]
     refine HA1.use ?_
     by_cases hha1:isN a 1=true
     ·simp-implicitDefEqProofs[hha1,ho,hc,hxl,hk,hac,hbc]
     ·simp-implicitDefEqProofs[hha1,ho,hc,hxl,hk,hac,hbc]
 ·simp-implicitDefEqProofs[ho]
  refine HB0.use ?_
  by_cases hhb0:isN b 0=true
  ·simp-implicitDefEqProofs[hhb0,ho,hc,hxl,hk,hac,hbc]
  ·simp-implicitDefEqProofs[hhb0,ho,hc,hxl,hk,hac,hbc]
   refine HB1.use ?_
   by_cases hhb1:isN b 1=true
   ·simp-implicitDefEqProofs[hhb1,ho,hc,hxl,hk,hac,hbc]
    refine HA0.use ?_
    by_cases hha0:isN a 0=true
    ·simp-implicitDefEqProofs[hha0,ho,hc,hxl,hk,hac,hbc]
     refine HA1.use ?_
     by_cases hha1:isN a 1=true
     ·simp-implicitDefEqProofs[hha1,ho,hc,hxl,hk,hac,hbc]
     ·simp-implicitDefEqProofs[hha1,ho,hc,hxl,hk,hac,hbc]
    ·simp-implicitDefEqProofs[hha0,ho,hc,hxl,hk,hac,hbc]
     refine HA1.use ?_
     by_cases hha1:isN a 1=true
     ·simp-implicitDefEqProofs[hha1,ho,hc,hxl,hk,hac,hbc]
     ·simp-implicitDefEqProofs[hha1,ho,hc,hxl,hk,hac,hbc]
   ·simp-implicitDefEqProofs[hhb1,ho,hc,hxl,hk,hac,hbc]
    refine HA0.use ?_
    by_cases hha0:isN a 0=true
    ·simp-implicitDefEqProofs[hha0,ho,hc,hxl,hk,hac,hbc]
     refine HA1.use ?_
     by_cases hha1:isN a 1=true
     ·simp-implicitDefEqProofs[hha1,ho,hc,hxl,hk,hac,hbc]
     ·simp-implicitDefEqProofs[hha1,ho,hc,hxl,hk,hac,hbc]
    ·simp-implicitDefEqProofs[hha0,ho,hc,hxl,hk,hac,hbc]
     refine HA1.use ?_
     by_cases hha1:isN a 1=true
     ·simp-implicitDefEqProofs[hha1,ho,hc,hxl,hk,hac,hbc]
     ·simp-implicitDefEqProofs[hha1,ho,hc,hxl,hk,hac,hbc]
 ·simp-implicitDefEqProofs[ho]
  refine HB0.use ?_
  by_cases hhb0:isN b 0=true
  ·simp-implicitDefEqProofs[hhb0,ho,hc,hxl,hk,hac,hbc]
   refine HB1.use ?_
   by_cases hhb1:isN b 1=true
   ·simp-implicitDefEqProofs[hhb1,ho,hc,hxl,hk,hac,hbc]
   ·simp-implicitDefEqProofs[hhb1,ho,hc,hxl,hk,hac,hbc]
    refine HA0.use ?_
    by_cases hha0:isN a 0=true
    ·simp-implicitDefEqProofs[hha0,ho,hc,hxl,hk,hac,hbc]
     refine HA1.use ?_
     by_cases hha1:isN a 1=true
     ·simp-implicitDefEqProofs[hha1,ho,hc,hxl,hk,hac,hbc]
     ·simp-implicitDefEqProofs[hha1,ho,hc,hxl,hk,hac,hbc]
      refine HB0.use ?_
      simp-implicitDefEqProofs[hhb0]
      refine HSA.use ?_
      by_cases hhsa:cV a=true
      ·simp-implicitDefEqProofs[hhsa,ho,hc,hxl,hk,hac,hbc]
       refine(mu G _).use ?_
       simp-implicitDefEqProofs[hnc]
      ·simp-implicitDefEqProofs[hhsa,ho,hc,hxl,hk,hac,hbc]
       refine HA0.use ?_
       simp-implicitDefEqProofs[hha0]
       refine HSB.use ?_
       by_cases hhsb:cV b=true
       ·simp-implicitDefEqProofs[hhsb,ho,hc,hxl,hk,hac,hbc]
        refine(mu G _).use ?_
        simp-implicitDefEqProofs[hnc]
       ·simp-implicitDefEqProofs[hhsb,ho,hc,hxl,hk,hac,hbc]
    ·simp-implicitDefEqProofs[hha0,ho,hc,hxl,hk,hac,hbc]
     refine HA1.use ?_
     by_cases hha1:isN a 1=true
     ·simp-implicitDefEqProofs[hha1,ho,hc,hxl,hk,hac,hbc]
     ·simp-implicitDefEqProofs[hha1,ho,hc,hxl,hk,hac,hbc]
      refine HB0.use ?_
      simp-implicitDefEqProofs[hhb0]
      refine HSA.use ?_
      by_cases hhsa:cV a=true
      ·simp-implicitDefEqProofs[hhsa,ho,hc,hxl,hk,hac,hbc]
       refine(mu G _).use ?_
       simp-implicitDefEqProofs[hnc]
      ·simp-implicitDefEqProofs[hhsa,ho,hc,hxl,hk,hac,hbc]
       refine HA0.use ?_
       simp-implicitDefEqProofs[hha0]
  ·simp-implicitDefEqProofs[hhb0,ho,hc,hxl,hk,hac,hbc]
   refine HB1.use ?_
   by_cases hhb1:isN b 1=true
   ·simp-implicitDefEqProofs[hhb1,ho,hc,hxl,hk,hac,hbc]
   ·simp-implicitDefEqProofs[hhb1,ho,hc,hxl,hk,hac,hbc]
    refine HA0.use ?_
    by_cases hha0:isN a 0=true
    ·simp-implicitDefEqProofs[hha0,ho,hc,hxl,hk,hac,hbc]
     refine HA1.use ?_
     by_cases hha1:isN a 1=true
     ·simp-implicitDefEqProofs[hha1,ho,hc,hxl,hk,hac,hbc]
     ·simp-implicitDefEqProofs[hha1,ho,hc,hxl,hk,hac,hbc]
      refine HB0.use ?_
      simp-implicitDefEqProofs[hhb0]
      refine HA0.use ?_
      simp-implicitDefEqProofs[hha0]
      refine HSB.use ?_
      by_cases hhsb:cV b=true
      ·simp-implicitDefEqProofs[hhsb,ho,hc,hxl,hk,hac,hbc]
       refine(mu G _).use ?_
       simp-implicitDefEqProofs[hnc]
      ·simp-implicitDefEqProofs[hhsb,ho,hc,hxl,hk,hac,hbc]
    ·simp-implicitDefEqProofs[hha0,ho,hc,hxl,hk,hac,hbc]
     refine HA1.use ?_
     by_cases hha1:isN a 1=true
     ·simp-implicitDefEqProofs[hha1,ho,hc,hxl,hk,hac,hbc]
     ·simp-implicitDefEqProofs[hha1,ho,hc,hxl,hk,hac,hbc]
      refine HB0.use ?_
      simp-implicitDefEqProofs[hhb0]
      refine HA0.use ?_
      simp-implicitDefEqProofs[hha0]
 ·simp-implicitDefEqProofs[ho]
  refine HB0.use ?_
  by_cases hhb0:isN b 0=true
  ·simp-implicitDefEqProofs[hhb0,ho,hc,hxl,hk,hac,hbc]
   refine HB1.use ?_
   by_cases hhb1:isN b 1=true
   ·simp-implicitDefEqProofs[hhb1,ho,hc,hxl,hk,hac,hbc]
   ·simp-implicitDefEqProofs[hhb1,ho,hc,hxl,hk,hac,hbc]
    refine HA0.use ?_
    by_cases hha0:isN a 0=true
    ·simp-implicitDefEqProofs[hha0,ho,hc,hxl,hk,hac,hbc]
     refine HA1.use ?_
     by_cases hha1:isN a 1=true
     ·simp-implicitDefEqProofs[hha1,ho,hc,hxl,hk,hac,hbc]
     ·simp-implicitDefEqProofs[hha1,ho,hc,hxl,hk,hac,hbc]
    ·simp-implicitDefEqProofs[hha0,ho,hc,hxl,hk,hac,hbc]
     refine HA1.use ?_
     by_cases hha1:isN a 1=true
     ·simp-implicitDefEqProofs[hha1,ho,hc,hxl,hk,hac,hbc]
     ·simp-implicitDefEqProofs[hha1,ho,hc,hxl,hk,hac,hbc]
  ·simp-implicitDefEqProofs[hhb0,ho,hc,hxl,hk,hac,hbc]
   refine HB1.use ?_
   by_cases hhb1:isN b 1=true
   ·simp-implicitDefEqProofs[hhb1,ho,hc,hxl,hk,hac,hbc]
   ·simp-implicitDefEqProofs[hhb1,ho,hc,hxl,hk,hac,hbc]
    refine HA0.use ?_
    by_cases hha0:isN a 0=true
    ·simp-implicitDefEqProofs[hha0,ho,hc,hxl,hk,hac,hbc]
     refine HA1.use ?_
     by_cases hha1:isN a 1=true
     ·simp-implicitDefEqProofs[hha1,ho,hc,hxl,hk,hac,hbc]
     ·simp-implicitDefEqProofs[hha1,ho,hc,hxl,hk,hac,hbc]
    ·simp-implicitDefEqProofs[hha0,ho,hc,hxl,hk,hac,hbc]
     refine HA1.use ?_
     by_cases hha1:isN a 1=true
     ·simp-implicitDefEqProofs[hha1,ho,hc,hxl,hk,hac,hbc]
     ·simp-implicitDefEqProofs[hha1,ho,hc,hxl,hk,hac,hbc]
 ·simp-implicitDefEqProofs[ho]
  refine HB0.use ?_
  by_cases hhb0:isN b 0=true
  ·simp-implicitDefEqProofs[hhb0,ho,hc,hxl,hk,hac,hbc]
   refine HB1.use ?_
   by_cases hhb1:isN b 1=true
   ·simp-implicitDefEqProofs[hhb1,ho,hc,hxl,hk,hac,hbc]
    refine HA0.use ?_
    by_cases hha0:isN a 0=true
    ·simp-implicitDefEqProofs[hha0,ho,hc,hxl,hk,hac,hbc]
     refine HA1.use ?_
     by_cases hha1:isN a 1=true
     ·simp-implicitDefEqProofs[hha1,ho,hc,hxl,hk,hac,hbc]
     ·simp-implicitDefEqProofs[hha1,ho,hc,hxl,hk,hac,hbc]
    ·simp-implicitDefEqProofs[hha0,ho,hc,hxl,hk,hac,hbc]
     refine HA1.use ?_
     by_cases hha1:isN a 1=true
     ·simp-implicitDefEqProofs[hha1,ho,hc,hxl,hk,hac,hbc]
     ·simp-implicitDefEqProofs[hha1,ho,hc,hxl,hk,hac,hbc]
   ·simp-implicitDefEqProofs[hhb1,ho,hc,hxl,hk,hac,hbc]
    refine HA0.use ?_
    by_cases hha0:isN a 0=true
    ·simp-implicitDefEqProofs[hha0,ho,hc,hxl,hk,hac,hbc]
     refine HA1.use ?_
     by_cases hha1:isN a 1=true
     ·simp-implicitDefEqProofs[hha1,ho,hc,hxl,hk,hac,hbc]
     ·simp-implicitDefEqProofs[hha1,ho,hc,hxl,hk,hac,hbc]
    ·simp-implicitDefEqProofs[hha0,ho,hc,hxl,hk,hac,hbc]
     refine HA1.use ?_
     by_cases hha1:isN a 1=true
     ·simp-implicitDefEqProofs[hha1,ho,hc,hxl,hk,hac,hbc]
     ·simp-implicitDefEqProofs[hha1,ho,hc,hxl,hk,hac,hbc]
  ·simp-implicitDefEqProofs[hhb0,ho,hc,hxl,hk,hac,hbc]
   refine HB1.use ?_
   by_cases hhb1:isN b 1=true
   ·simp-implicitDefEqProofs[hhb1,ho,hc,hxl,hk,hac,hbc]
    refine HA0.use ?_
    by_cases hha0:isN a 0=true
    ·simp-implicitDefEqProofs[hha0,ho,hc,hxl,hk,hac,hbc]
     refine HA1.use ?_
     by_cases hha1:isN a 1=true
     ·simp-implicitDefEqProofs[hha1,ho,hc,hxl,hk,hac,hbc]
     ·simp-implicitDefEqProofs[hha1,ho,hc,hxl,hk,hac,hbc]
    ·simp-implicitDefEqProofs[hha0,ho,hc,hxl,hk,hac,hbc]
     refine HA1.use ?_
     by_cases hha1:isN a 1=true
     ·simp-implicitDefEqProofs[hha1,ho,hc,hxl,hk,hac,hbc]
     ·simp-implicitDefEqProofs[hha1,ho,hc,hxl,hk,hac,hbc]
   ·simp-implicitDefEqProofs[hhb1,ho,hc,hxl,hk,hac,hbc]
    refine HA0.use ?_
    by_cases hha0:isN a 0=true
    ·simp-implicitDefEqProofs[hha0,ho,hc,hxl,hk,hac,hbc]
     refine HA1.use ?_
     by_cases hha1:isN a 1=true
     ·simp-implicitDefEqProofs[hha1,ho,hc,hxl,hk,hac,hbc]
     ·simp-implicitDefEqProofs[hha1,ho,hc,hxl,hk,hac,hbc]
    ·simp-implicitDefEqProofs[hha0,ho,hc,hxl,hk,hac,hbc]
     refine HA1.use ?_
     by_cases hha1:isN a 1=true
     ·simp-implicitDefEqProofs[hha1,ho,hc,hxl,hk,hac,hbc]
     ·simp-implicitDefEqProofs[hha1,ho,hc,hxl,hk,hac,hbc]
 ·simp-implicitDefEqProofs[ho]
  refine HB0.use ?_
  by_cases hhb0:isN b 0=true
  ·simp-implicitDefEqProofs[hhb0,ho,hc,hxl,hk,hac,hbc]
   refine HB1.use ?_
   by_cases hhb1:isN b 1=true
   ·simp-implicitDefEqProofs[hhb1,ho,hc,hxl,hk,hac,hbc]
    refine HA0.use ?_
    by_cases hha0:isN a 0=true
    ·simp-implicitDefEqProofs[hha0,ho,hc,hxl,hk,hac,hbc]
     refine HA1.use ?_
     by_cases hha1:isN a 1=true
     ·simp-implicitDefEqProofs[hha1,ho,hc,hxl,hk,hac,hbc]
     ·simp-implicitDefEqProofs[hha1,ho,hc,hxl,hk,hac,hbc]
    ·simp-implicitDefEqProofs[hha0,ho,hc,hxl,hk,hac,hbc]
     refine HA1.use ?_
     by_cases hha1:isN a 1=true
     ·simp-implicitDefEqProofs[hha1,ho,hc,hxl,hk,hac,hbc]
     ·simp-implicitDefEqProofs[hha1,ho,hc,hxl,hk,hac,hbc]
   ·simp-implicitDefEqProofs[hhb1,ho,hc,hxl,hk,hac,hbc]
    refine HA0.use ?_
    by_cases hha0:isN a 0=true
    ·simp-implicitDefEqProofs[hha0,ho,hc,hxl,hk,hac,hbc]
     refine HA1.use ?_
     by_cases hha1:isN a 1=true
     ·simp-implicitDefEqProofs[hha1,ho,hc,hxl,hk,hac,hbc]
     ·simp-implicitDefEqProofs[hha1,ho,hc,hxl,hk,hac,hbc]
    ·simp-implicitDefEqProofs[hha0,ho,hc,hxl,hk,hac,hbc]
     refine HA1.use ?_
     by_cases hha1:isN a 1=true
     ·simp-implicitDefEqProofs[hha1,ho,hc,hxl,hk,hac,hbc]
     ·simp-implicitDefEqProofs[hha1,ho,hc,hxl,hk,hac,hbc]
  ·simp-implicitDefEqProofs[hhb0,ho,hc,hxl,hk,hac,hbc]
   refine HB1.use ?_
   by_cases hhb1:isN b 1=true
   ·simp-implicitDefEqProofs[hhb1,ho,hc,hxl,hk,hac,hbc]
    refine HA0.use ?_
    by_cases hha0:isN a 0=true
    ·simp-implicitDefEqProofs[hha0,ho,hc,hxl,hk,hac,hbc]
     refine HA1.use ?_
     by_cases hha1:isN a 1=true
     ·simp-implicitDefEqProofs[hha1,ho,hc,hxl,hk,hac,hbc]
     ·simp-implicitDefEqProofs[hha1,ho,hc,hxl,hk,hac,hbc]
    ·simp-implicitDefEqProofs[hha0,ho,hc,hxl,hk,hac,hbc]
     refine HA1.use ?_
     by_cases hha1:isN a 1=true
     ·simp-implicitDefEqProofs[hha1,ho,hc,hxl,hk,hac,hbc]
     ·simp-implicitDefEqProofs[hha1,ho,hc,hxl,hk,hac,hbc]
   ·simp-implicitDefEqProofs[hhb1,ho,hc,hxl,hk,hac,hbc]
    refine HA0.use ?_
    by_cases hha0:isN a 0=true
    ·simp-implicitDefEqProofs[hha0,ho,hc,hxl,hk,hac,hbc]
     refine HA1.use ?_
     by_cases hha1:isN a 1=true
     ·simp-implicitDefEqProofs[hha1,ho,hc,hxl,hk,hac,hbc]
     ·simp-implicitDefEqProofs[hha1,ho,hc,hxl,hk,hac,hbc]
    ·simp-implicitDefEqProofs[hha0,ho,hc,hxl,hk,hac,hbc]
     refine HA1.use ?_
     by_cases hha1:isN a 1=true
     ·simp-implicitDefEqProofs[hha1,ho,hc,hxl,hk,hac,hbc]
     ·simp-implicitDefEqProofs[hha1,ho,hc,hxl,hk,hac,hbc]
 ·simp-implicitDefEqProofs[ho]
  refine HB0.use ?_
  by_cases hhb0:isN b 0=true
  ·simp-implicitDefEqProofs[hhb0,ho,hc,hxl,hk,hac,hbc]
   refine HB1.use ?_
   by_cases hhb1:isN b 1=true
   ·simp-implicitDefEqProofs[hhb1,ho,hc,hxl,hk,hac,hbc]
    refine HA0.use ?_
    by_cases hha0:isN a 0=true
    ·simp-implicitDefEqProofs[hha0,ho,hc,hxl,hk,hac,hbc]
     refine HA1.use ?_
     by_cases hha1:isN a 1=true
     ·simp-implicitDefEqProofs[hha1,ho,hc,hxl,hk,hac,hbc]
     ·simp-implicitDefEqProofs[hha1,ho,hc,hxl,hk,hac,hbc]
    ·simp-implicitDefEqProofs[hha0,ho,hc,hxl,hk,hac,hbc]
     refine HA1.use ?_
     by_cases hha1:isN a 1=true
     ·simp-implicitDefEqProofs[hha1,ho,hc,hxl,hk,hac,hbc]
     ·simp-implicitDefEqProofs[hha1,ho,hc,hxl,hk,hac,hbc]
   ·simp-implicitDefEqProofs[hhb1,ho,hc,hxl,hk,hac,hbc]
    refine HA0.use ?_
    by_cases hha0:isN a 0=true
    ·simp-implicitDefEqProofs[hha0,ho,hc,hxl,hk,hac,hbc]
     refine HA1.use ?_
     by_cases hha1:isN a 1=true
     ·simp-implicitDefEqProofs[hha1,ho,hc,hxl,hk,hac,hbc]
     ·simp-implicitDefEqProofs[hha1,ho,hc,hxl,hk,hac,hbc]
    ·simp-implicitDefEqProofs[hha0,ho,hc,hxl,hk,hac,hbc]
     refine HA1.use ?_
     by_cases hha1:isN a 1=true
     ·simp-implicitDefEqProofs[hha1,ho,hc,hxl,hk,hac,hbc]
     ·simp-implicitDefEqProofs[hha1,ho,hc,hxl,hk,hac,hbc]
  ·simp-implicitDefEqProofs[hhb0,ho,hc,hxl,hk,hac,hbc]
   refine HB1.use ?_
   by_cases hhb1:isN b 1=true
   ·simp-implicitDefEqProofs[hhb1,ho,hc,hxl,hk,hac,hbc]
    refine HA0.use ?_
    by_cases hha0:isN a 0=true
    ·simp-implicitDefEqProofs[hha0,ho,hc,hxl,hk,hac,hbc]
     refine HA1.use ?_
     by_cases hha1:isN a 1=true
     ·simp-implicitDefEqProofs[hha1,ho,hc,hxl,hk,hac,hbc]
     ·simp-implicitDefEqProofs[hha1,ho,hc,hxl,hk,hac,hbc]
    ·simp-implicitDefEqProofs[hha0,ho,hc,hxl,hk,hac,hbc]
     refine HA1.use ?_
     by_cases hha1:isN a 1=true
     ·simp-implicitDefEqProofs[hha1,ho,hc,hxl,hk,hac,hbc]
     ·simp-implicitDefEqProofs[hha1,ho,hc,hxl,hk,hac,hbc]
   ·simp-implicitDefEqProofs[hhb1,ho,hc,hxl,hk,hac,hbc]
    refine HA0.use ?_
    by_cases hha0:isN a 0=true
    ·simp-implicitDefEqProofs[hha0,ho,hc,hxl,hk,hac,hbc]
     refine HA1.use ?_
     by_cases hha1:isN a 1=true
     ·simp-implicitDefEqProofs[hha1,ho,hc,hxl,hk,hac,hbc]
     ·simp-implicitDefEqProofs[hha1,ho,hc,hxl,hk,hac,hbc]
    ·simp-implicitDefEqProofs[hha0,ho,hc,hxl,hk,hac,hbc]
     refine HA1.use ?_
     by_cases hha1:isN a 1=true
     ·simp-implicitDefEqProofs[hha1,ho,hc,hxl,hk,hac,hbc]
     ·simp-implicitDefEqProofs[hha1,ho,hc,hxl,hk,hac,hbc]
 ·simp-implicitDefEqProofs[ho]
  refine HA0.use ?_
  by_cases hha0:isN a 0=true
  ·simp-implicitDefEqProofs[hha0,ho,hc,hxl,hk,hac,hbc]
   refine(mu G _).use ?_
   simp-implicitDefEqProofs[hnc]
  ·simp-implicitDefEqProofs[hha0,ho,hc,hxl,hk,hac,hbc]
   refine HB0.use ?_
   by_cases hhb0:isN b 0=true
   ·simp-implicitDefEqProofs[hhb0,ho,hc,hxl,hk,hac,hbc]
    refine HB1.use ?_
    by_cases hhb1:isN b 1=true
    ·simp-implicitDefEqProofs[hhb1,ho,hc,hxl,hk,hac,hbc]
     refine HA0.use ?_
     simp-implicitDefEqProofs[hha0]
     refine HA1.use ?_
     by_cases hha1:isN a 1=true
     ·simp-implicitDefEqProofs[hha1,ho,hc,hxl,hk,hac,hbc]
     ·simp-implicitDefEqProofs[hha1,ho,hc,hxl,hk,hac,hbc]
    ·simp-implicitDefEqProofs[hhb1,ho,hc,hxl,hk,hac,hbc]
     refine HA0.use ?_
     simp-implicitDefEqProofs[hha0]
     refine HA1.use ?_
     by_cases hha1:isN a 1=true
     ·simp-implicitDefEqProofs[hha1,ho,hc,hxl,hk,hac,hbc]
     ·simp-implicitDefEqProofs[hha1,ho,hc,hxl,hk,hac,hbc]
   ·simp-implicitDefEqProofs[hhb0,ho,hc,hxl,hk,hac,hbc]
    refine HB1.use ?_
    by_cases hhb1:isN b 1=true
    ·simp-implicitDefEqProofs[hhb1,ho,hc,hxl,hk,hac,hbc]
     refine HA0.use ?_
     simp-implicitDefEqProofs[hha0]
     refine HA1.use ?_
     by_cases hha1:isN a 1=true
     ·simp-implicitDefEqProofs[hha1,ho,hc,hxl,hk,hac,hbc]
     ·simp-implicitDefEqProofs[hha1,ho,hc,hxl,hk,hac,hbc]
    ·simp-implicitDefEqProofs[hhb1,ho,hc,hxl,hk,hac,hbc]
     refine HA0.use ?_
     simp-implicitDefEqProofs[hha0]
     refine HA1.use ?_
     by_cases hha1:isN a 1=true
     ·simp-implicitDefEqProofs[hha1,ho,hc,hxl,hk,hac,hbc]
     ·simp-implicitDefEqProofs[hha1,ho,hc,hxl,hk,hac,hbc]
end
section
def pz:AK:=qT [xJ 2 5,wH] [wU 12 2,qx 13 12,wS 14 fL 13,qh 11 14,wM 15 0 11,wM 16 1 11,wM 17 2 11,wM 18 3 11,qh 5 15,qh 6 16,qh 7 17,qh 8 18] (.cut (.blk 0 (qy (xx (wu 20) (qB 21 .gtr 20 4) 19 21) (qp 19 .skip (wZ [xv 22 2,qx 23 22,we 24 23,wN 25,qX 26 .neq 24 25,qh 19 26] 19 .skip (.cut (.reg [qh 27 6,qh 28 27,wG 29 28 1 2,wD 30 28 29,xC 31 28 co (wR 30),qK 32 28 (wl 31),xp 33 28 32,qh 19 33]) (qp 19 .skip (.cut (.reg [qh 34 6,wY 35 34,qh 36 35,wG 37 36 1 2,wD 38 36 37,qK 39 36 (xn .neq 38 (.c q8)),xp 40 36 39,qh 19 40]) (qp 19 .skip (.cut (.reg [qh 41 7,wY 42 41,qh 43 42,wG 44 43 3 2,wD 45 43 44,qK 46 43 (qY 45),xb 47 43 .gtr 46 0,xp 48 43 47,qh 19 48]) (qp 19 .skip (.cut (.reg [qh 49 8,wY 50 49,qh 51 50,wG 52 51 4 2,wD 53 51 52,qK 54 51 (qY 53),xb 55 51 .gtr 54 0,xp 56 51 55,qh 19 56]) (qp 19 .skip (.reg [wU 57 2,qx 58 57,wh 59 58 8,qh 60 59,wG 61 60 2 2,wD 62 60 61,qK 63 60 (qH 4 62 xf),wG 64 60 0 63,wD 65 60 64,xb 66 60 .neq 65 13,xp 67 60 66,qh 19 67]))))))))))) (qR 19 xM))) (wQ [xv 68 2,qx 69 68,we 70 69,wA 71] 1 (xB [wy 72 71 70] (wn 72 1) (wg 2 (qT [wc 73 4 69 71,xh 74 73,qV 10 [q9,q9,q8,.nils],xL 10 74] [xh 75 10,wS 76 dj 75,wY 77 76] (qR 77 xM)) (wV (xi 78 71) 71 78))) [xr 79 2,qx 80 79,wu 81,xi 82 81,wL 83 cx 80 82,qh 84 83,wG 85 84 4 2,wD 86 84 85,xD 87 84 1,xb 88 84 .add 87 1,xC 89 84 cx (wJ 86 (.t 88)),xp 90 84 89,qh 4 90]))
theorem zz:AK.whole pz=FK.ak ib:=rfl
variable (G:ay)
def oF(op:Int):Int:=if op=4 then 2 else if inR op 1 8 then 1 else-1
def iK(op:Int):Bool:=decide (op=5)||decide (op=6)
theorem vn(op:Int):VF Tryz.prog G fL [.p (.int .i64 op)] (.tup [.p (.int .i64 (oF op)),.p (.bool (cI op)),.p (.bool (iK op)),.p (.bool (decide (op=5)))]):=by
 refine AC.go uA ?_
 by_cases h1:op=1
 ·subst h1;simp-implicitDefEqProofs[bk,oF,inR,cI,iK]
 by_cases h2:op=2
 ·subst h2;simp-implicitDefEqProofs[bk,oF,inR,cI,iK]
 by_cases h3:op=3
 ·subst h3;simp-implicitDefEqProofs[bk,oF,inR,cI,iK]
 by_cases h4:op=4
 ·subst h4;simp-implicitDefEqProofs[bk,oF,inR,cI,iK]
 by_cases h5:op=5
 ·subst h5;simp-implicitDefEqProofs[bk,oF,inR,cI,iK]
 by_cases h6:op=6
 ·subst h6;simp-implicitDefEqProofs[bk,oF,inR,cI,iK]
 by_cases h7:op=7
 ·subst h7;simp-implicitDefEqProofs[bk,oF,inR,cI,iK]
 by_cases h8:op=8
 ·subst h8;simp-implicitDefEqProofs[bk,oF,inR,cI,iK]
 have ha:oF op= -1:=by
  have:inR op 1 8=false:=by simp[inR];omega
  rw[oF,if_neg h4,this];rfl
 have hn:cI op=false:=by simp[cI,h1,h2]
 have hb:iK op=false:=by simp[iK,h5,h6]
 rw[ha,hn,hb]
 simp-implicitDefEqProofs[bk,h1,h2,h3,h4,h5,h6,h7,h8]
def Eg:List Ex->Bool
 |a::_=>decide (a.op=13)
 |[]=>false
def iG(s:Sm):Bool:=decide ((s.args.length:Int)=oF s.op)&&(!cI s.op||aD s.name)&&(cI s.op||decide (s.name=[]))&&(iK s.op||decide (s.body=[]))&&(decide (s.op=5)||decide (s.els=[]))&&
 (!decide (s.op=8)||Eg s.args)
theorem GW(s:Sm):gF s=(inR s.op 1 8&&decide (s.args.length=ku s.op)&&(cI s.op==aD s.name)&&(cI s.op||decide (s.name=[]))&&s.args.all gt&&
 (!decide (s.op=8)||Eg s.args)&&(s.els.isEmpty||decide (s.op=5))&&(s.body.isEmpty||decide (s.op=5)||decide (s.op=6))):=by
 unfold gF
 cases s.args<;>rfl
theorem Db(s:Sm):gF s=(iG s&&s.args.all gt):=by
 have ha:decide ((s.args.length:Int)=oF s.op)=(inR s.op 1 8&&decide (s.args.length=ku s.op)):=by
  unfold oF ku
  by_cases h4:s.op=4
  ·have:inR s.op 1 8=true:=by simp[inR,h4]
   rw[this,if_pos h4,if_pos h4];simp;omega
  ·rw[if_neg h4,if_neg h4]
   cases h:inR s.op 1 8 with
   |true=>simp;omega
   |false=>simp
 have hn:(cI s.op==aD s.name&&(cI s.op||decide (s.name=[])))=((!cI s.op||aD s.name)&&(cI s.op||decide (s.name=[]))):=by
  cases cI s.op with
  |true=>cases aD s.name<;>rfl
  |false=>
   by_cases h:s.name=[]
   ·rw[h,pW];rfl
   ·simp[h]
 have hb:(s.body.isEmpty||decide (s.op=5)||decide (s.op=6))=(iK s.op||decide (s.body=[])):=by
  rw[iK]
  cases s.body<;>cases decide (s.op=5)<;>cases decide (s.op=6)<;>simp
 have he:(s.els.isEmpty||decide (s.op=5))=(decide (s.op=5)||decide (s.els=[])):=by
  cases s.els<;>cases decide (s.op=5)<;>simp
 rw[GW]
 unfold iG
 rw[ha,hb,he]
 generalize Eg s.args=z
 generalize (cI s.op==aD s.name)=c at hn⊢
 generalize (!cI s.op||aD s.name)=c' at hn⊢
 generalize (cI s.op||decide (s.name=[]))=d at hn⊢
 generalize s.args.all gt=x
 generalize (iK s.op||decide (s.body=[]))=y
 generalize (decide (s.op=5)||decide (s.els=[]))=y'
 generalize (!decide (s.op=8))=u
 cases inR s.op 1 8<;>cases decide (s.args.length=ku s.op)<;>cases c<;>cases c'<;>cases d<;>cases x<;>cases y<;>cases y'<;>cases u<;>cases z<;>simp_all
variable (hK:G de=some cX) (hS:G bx=some [.tbl opK opV])
def DG(d:Nat)(L:List Sm):Int:=match L.findIdx? (λs=> !aB d s) with|some i=>i|none=> -1
theorem In(d:Nat)(L:List Sm):decide (0<=DG d L)= !(L.all (aB d)):=by
 unfold DG
 cases h:L.findIdx? (λx=> !aB d x) with
 |none=>
  rw[Sg] at h
  have:L.all (aB d)=true:=RA.2 λx hx=>by have:=h x hx;simpa using this
  simp[this]
 |some i=>
  rw[RQ] at h
  obtain⟨h1,h2,_⟩:=h
  have:L.all (aB d)=false:=List.all_eq_false.2 ⟨_,RB h1,by simpa using h2⟩
  rw[this];simp
theorem uf(d:Nat)(nest:Int)(hs:∀s:Sm,s.sz<=1073741824->VF Tryz.prog G iv [.agg (s.cs.map .p),.p (.int .i64 nest)] (.p (.bool (aB d s))))(L:List Sm)(hL:aF L<=1073741824):
 VF Tryz.prog G cx [.p (smL L),.p (.int .i64 nest)] (.p (.bool (L.all (aB d)))):=by
 have hsl:smL L= .lst 5 (L.map Sm.cs):=rfl
 have hll:=bi L
 have bC:∀s:Sm,s.sz<=1073741824->AC Tryz.prog G cu [.agg (s.cs.map .p),.ptr 0 1 0 0] [.row 1 [[.p (.int .i64 nest)]]] λx h=>x= .ret (.p (.bool (!aB d s)))/\h=[.row 1 [[.p (.int .i64 nest)]]]:=by
  intro s hz
  refine AC.trim (AC.go sN ?_) (by simp[below])
  have hse:=s.cs_eq
  have h1:=hs s hz
  rw[hse] at h1
  simp-implicitDefEqProofs[lw,hse]
  refine h1.use ?_
  simp-implicitDefEqProofs[]
 have idx:AC Tryz.prog G bZ [.p (smL L),.fn (.func cu) [.ptr 0 1 0 0]] [.row 1 [[.p (.int .i64 nest)]]] λx h=>x= .ret (.p (.int .i64 (DG d L)))/\h=[.row 1 [[.p (.int .i64 nest)]]]:=by
  refine AC.go iM ?_
  simp-implicitDefEqProofs[dI,hsl]
  refine az (λi:Nat=>am 19 [(0,.p (smL L)),(1,.fn (.func cu) [.ptr 0 1 0 0]),(7,.p (.int .i64 L.length)),(8,.p (.int .i64 i))]) (λ_=>[.row 1 [[.p (.int .i64 nest)]]]) (λi=>i<=L.length/\∀w∈L.take i,aB d w=true) (λi=>L.length-i) 0 (by simp) ?_ ?_
  ·exact ab (by simp) (by simp[okO,below]) (by simp[below,an,hsl])
  ·intro i ⟨hi,hn⟩
   simp-implicitDefEqProofs[hsl]
   refine aY (λh1=>?_) (λh1=>?_)
   ·simp at h1
    have hg:=Rv h1
    have hz:=aQ (RB h1)
    simp-implicitDefEqProofs[hg]
    refine(bC L[i] (by omega)).mono ?_
    rintro r h ⟨rfl,rfl⟩
    by_cases he:aB d L[i]=true
    ·simp-implicitDefEqProofs[aa,he]
     refine⟨i+1,⟨h1,λp hp=>?_⟩,by omega,ab (by simp) (by simp[okO,below]) (by simp[below,an,hsl,w1 (i:=i) (by omega)])⟩
     rw[aq h1] at hp
     rcases RG.1 hp with hp|hp
     ·exact hn p hp
     ·rw[RL.1 hp];exact he
    ·have hf:DG d L=i:=by
      have:L.findIdx? (λw=> !aB d w)=some i:=by
       rw[RQ]
       exact⟨h1,by simpa using he,λj hj=>by have:=hn L[j] (List.mem_take_iff_getElem.2 ⟨j,by omega,rfl⟩);simpa using this⟩
      rw[DG,this]
     simp-implicitDefEqProofs[aa,he,hf]
   ·simp at h1
    rw[RF h1] at hn
    have hf:DG d L= -1:=by
     have:L.findIdx? (λw=> !aB d w)=none:=by
      rw[Sg];intro x hx;simpa using hn x hx
     rw[DG,this]
    simp-implicitDefEqProofs[hf]
 have con:AC Tryz.prog G bF [.p (smL L),.fn (.func cu) [.ptr 0 1 0 0]] [.row 1 [[.p (.int .i64 nest)]]] λx h=>x= .ret (.p (.bool (!L.all (aB d))))/\h=[.row 1 [[.p (.int .i64 nest)]]]:=by
  refine AC.go gz ?_
  simp-implicitDefEqProofs[db]
  refine idx.mono ?_
  rintro r h ⟨rfl,rfl⟩
  have:=In d L
  simp-implicitDefEqProofs[aa]
  simpa using this
 refine AC.go yg ?_
 simp-implicitDefEqProofs[nK]
 refine con.mono ?_
 rintro r h ⟨rfl,rfl⟩
 simp-implicitDefEqProofs[aa]
include hS hK
theorem Jr:∀d:Nat,d<=4->∀s:Sm,s.sz<=1073741824->VF Tryz.prog G iv [.agg (s.cs.map .p),.p (.int .i64 (5-d))] (.p (.bool (aB d s))):=by
 intro d
 induction d with
 |zero=>
  intro _ s hz
  have hse:=s.cs_eq
  refine AC.go pj ?_
  simp-implicitDefEqProofs[ib,hse]
  refine(vn G _).use ?_
  simp-implicitDefEqProofs[aB]
 |succ d ih=>
  intro hd s hz
  have hse:=s.cs_eq
  have hsz:=s.sz_eq
  have hal:=aP s.args
  have hblk:=uf G d (5-d) (ih (by omega))
  have hnn:(5:Int)-((d+1:Nat):Int)=4-d:=by omega
  have hnw:IntKind.i64.wrap (4-(d:Int)+1)=5-d:=by rw[ah (by omega) (by omega)];omega
  have hn4:¬(4:Int)<4-d:=by omega
  have hxl:exL s.args= .lst 4 (s.args.map Ex.cs):=rfl
  have hsl:∀l,smL l= .lst 5 (l.map Sm.cs):=λ_=>rfl
  rw[hnn]
  have hbad:iG s=false->aB (d+1) s=false:=λh=>by rw[aB,Db,h];rfl
  refine AC.goK pj zz ?_
  simp-implicitDefEqProofs[pz,ib,hse]
  refine(vn G _).use ?_
  simp-implicitDefEqProofs[]
  refine ry (λ_:Unit=>am 91 [(1,.p (.int .i64 (4-d))),(2,.ptr 0 5 0 0)]) (λ_=>[.row 5 [[.p (.int .i64 s.op),.p (.str s.name),.p (exL s.args),.p (smL s.body),.p (smL s.els)]]]) (λ_=>iG s=true) ?_ ?_
  ·have fin:∀(r1:List (Nat × AV)),Aw.look r1 1= .p (.int .i64 (4-d))->Aw.look r1 2= .ptr 0 5 0 0->
    Wk 0 (am 91 r1) [.row 5 [[.p (.int .i64 s.op),.p (.str s.name),.p (exL s.args),.p (smL s.body),.p (smL s.els)]]] (am 91 [(1,.p (.int .i64 (4-d))),(2,.ptr 0 5 0 0)]) [.row 5 [[.p (.int .i64 s.op),.p (.str s.name),.p (exL s.args),.p (smL s.body),.p (smL s.els)]]]:=λr1 a b=>
    ab (by simp) (by simp[okO,below]) (by simp[below,a,b])
   have hb0:s.body=[]\/0<s.body.length:=by cases s.body<;>simp
   have he0:s.els=[]\/0<s.els.length:=by cases s.els<;>simp
   by_cases hl:(s.args.length:Int)=oF s.op
   case neg=>
    rw[hbad (by simp[iG,hl])]
    simp-implicitDefEqProofs[hn4,hxl,hl]
   have hel:(decide (s.els=[]))= !decide (0<s.els.length):=by cases s.els<;>simp
   have hbo:(decide (s.body=[]))= !decide (0<s.body.length):=by cases s.body<;>simp
   simp-implicitDefEqProofs[hn4,hxl,hl]
   refine kN (am 91 [(1,.p (.int .i64 (4-d))),(2,.ptr 0 5 0 0),(6,.p (.bool (cI s.op))),(7,.p (.bool (iK s.op))),(8,.p (.bool (decide (s.op=5)))),(19,.p (.bool (cI s.op&& !aD s.name)))]) ([.row 5 [[.p (.int .i64 s.op),.p (.str s.name),.p (exL s.args),.p (smL s.body),.p (smL s.els)]]]) ?_ ?_
   ·cases hn:cI s.op with
    |true=>
     simp-implicitDefEqProofs[]
     refine(nq G hK _ (by omega)).use ?_
     simp-implicitDefEqProofs[]
     exact ab (by simp) (by simp[okO,below]) (by simp[below])
    |false=>
     simp-implicitDefEqProofs[]
     exact ab (by simp) (by simp[okO,below]) (by simp[below])
   by_cases h2:(cI s.op&& !aD s.name)=true
   ·rw[hbad (by simp only[iG];cases h:cI s.op<;>cases h':aD s.name<;>simp[h,h'] at h2⊢)]
    simp-implicitDefEqProofs[h2]
   have h2':(cI s.op&& !aD s.name)=false:=by simpa using h2
   rw[h2']
   simp-implicitDefEqProofs[]
   refine kN (am 91 [(1,.p (.int .i64 (4-d))),(2,.ptr 0 5 0 0),(6,.p (.bool (cI s.op))),(7,.p (.bool (iK s.op))),(8,.p (.bool (decide (s.op=5)))),(19,.p (.bool (!cI s.op&& !decide (s.name=[]))))]) ([.row 5 [[.p (.int .i64 s.op),.p (.str s.name),.p (exL s.args),.p (smL s.body),.p (smL s.els)]]]) ?_ ?_
   ·cases hn:cI s.op with
    |true=>
     simp-implicitDefEqProofs[]
     exact ab (by simp) (by simp[okO,below]) (by simp[below])
    |false=>
     simp-implicitDefEqProofs[]
     exact ab (by simp) (by simp[okO,below]) (by simp[below])
   by_cases h3:(!cI s.op&& !decide (s.name=[]))=true
   ·rw[hbad (by simp only[iG];cases h:cI s.op<;>cases h':decide (s.name=[])<;>simp[h,h'] at h3⊢)]
    simp-implicitDefEqProofs[h3]
   have h3':(!cI s.op&& !decide (s.name=[]))=false:=by simpa using h3
   rw[h3']
   simp-implicitDefEqProofs[]
   refine kN (am 91 [(1,.p (.int .i64 (4-d))),(2,.ptr 0 5 0 0),(6,.p (.bool (cI s.op))),(7,.p (.bool (iK s.op))),(8,.p (.bool (decide (s.op=5)))),(19,.p (.bool (!iK s.op&&decide (0<s.body.length))))]) ([.row 5 [[.p (.int .i64 s.op),.p (.str s.name),.p (exL s.args),.p (smL s.body),.p (smL s.els)]]]) ?_ ?_
   ·cases hn:iK s.op with
    |true=>
     simp-implicitDefEqProofs[hsl]
     exact ab (by simp) (by simp[okO,below]) (by simp[below])
    |false=>
     simp-implicitDefEqProofs[hsl]
     exact ab (by simp) (by simp[okO,below]) (by simp[below])
   by_cases h4:(!iK s.op&&decide (0<s.body.length))=true
   ·rw[hbad (by simp only[iG,hbo];cases h:iK s.op<;>cases h':decide (0<s.body.length)<;>simp[h,h'] at h4⊢)]
    simp-implicitDefEqProofs[h4]
   have h4':(!iK s.op&&decide (0<s.body.length))=false:=by simpa using h4
   rw[h4']
   simp-implicitDefEqProofs[]
   refine kN (am 91 [(1,.p (.int .i64 (4-d))),(2,.ptr 0 5 0 0),(6,.p (.bool (cI s.op))),(7,.p (.bool (iK s.op))),(8,.p (.bool (decide (s.op=5)))),(19,.p (.bool (!decide (s.op=5)&&decide (0<s.els.length))))]) ([.row 5 [[.p (.int .i64 s.op),.p (.str s.name),.p (exL s.args),.p (smL s.body),.p (smL s.els)]]]) ?_ ?_
   ·cases hn:decide (s.op=5) with
    |true=>
     simp-implicitDefEqProofs[hsl]
     exact ab (by simp) (by simp[okO,below]) (by simp[below])
    |false=>
     simp-implicitDefEqProofs[hsl]
     exact ab (by simp) (by simp[okO,below]) (by simp[below])
   by_cases h5:(!decide (s.op=5)&&decide (0<s.els.length))=true
   ·rw[hbad (by simp only[iG,hel];cases h:decide (s.op=5)<;>cases h':decide (0<s.els.length)<;>simp[h,h'] at h5⊢)]
    simp-implicitDefEqProofs[h5]
   have h5':(!decide (s.op=5)&&decide (0<s.els.length))=false:=by simpa using h5
   rw[h5']
   have hh1:iG s=(!decide (s.op=8)||Eg s.args):=by
    simp only[iG,hl,decide_true,Bool.true_and,hel,hbo]
    cases h:cI s.op<;>cases hi:aD s.name<;>cases hm:decide (s.name=[])<;>cases hb:iK s.op<;>cases hc:decide (0<s.body.length)<;>cases ho:decide (s.op=5)<;>cases he:decide (0<s.els.length)<;>simp[h,hi,hm,hb,hc,ho,he] at h2' h3' h4' h5'⊢
   by_cases o8:s.op=8
   ·have ha1:s.args.length=1:=by
     have:oF s.op=1:=by rw[o8];rfl
     omega
    obtain⟨a0,ha0⟩:∃a0,s.args=[a0]:=by
     match hh:s.args,ha1 with
     |[x],_=>exact⟨x,rfl⟩
    have hae:=a0.cs_eq
    rw[hh1,o8,ha0]
    rw[o8,ha0] at fin
    have hxa:exL [a0]= .lst 4 [a0.cs]:=rfl
    by_cases hc:a0.op=13
    ·have h13:Eg [a0]=true:=by simp[Eg,hc]
     simp-implicitDefEqProofs[o8,hae,hc,h13,hxa]
     rw[hxa,hae,hc] at fin
     exact fin _ (by simp) (by simp)
    ·rw[hbad (by rw[hh1,o8,ha0];simp[Eg,hc])]
     simp-implicitDefEqProofs[o8,hae,hc,hxa]
   ·have hh2:iG s=true:=by rw[hh1];simp[o8]
    simp-implicitDefEqProofs[o8,hh2]
    exact fin _ (by simp) (by simp)
  intro _ h1
  have hh:aB (d+1) s=(s.args.all gt&&(s.body.all (aB d)&&s.els.all (aB d))):=by rw[aB,Db,h1,Bool.true_and,Bool.and_assoc]
  simp-implicitDefEqProofs[hxl]
  refine az (λi:Nat=>am 91 [(1,.p (.int .i64 (4-d))),(2,.ptr 0 5 0 0),(69,.p (exL s.args)),(70,.p (.int .i64 s.args.length)),(71,.p (.int .i64 i))]) (λ_=>[.row 5 [[.p (.int .i64 s.op),.p (.str s.name),.p (exL s.args),.p (smL s.body),.p (smL s.els)]]]) (λi=>i<=s.args.length/\(s.args.take i).all gt=true) (λi=>s.args.length-i) 0 (by simp) ?_ ?_
  ·exact ab (by simp) (by simp[okO,below]) (by simp[below,hxl])
  rintro i ⟨hi,ha⟩
  simp-implicitDefEqProofs[hxl]
  refine aY (λh=>?_) (λh=>?_)
  ·simp at h
   have hg:=Rv h
   have hks:=aC (RB h)
   have hkc:=s.args[i].cs_eq
   have hx:=ua G hK hS s.args[i] (by omega)
   rw[hkc] at hx
   simp-implicitDefEqProofs[hg,hkc]
   refine hx.use ?_
   by_cases ho:gt s.args[i]=true
   ·simp-implicitDefEqProofs[ho]
    refine⟨i+1,⟨h,by rw[←RA,da h,ha,ho];rfl⟩,by omega,?_⟩
    refine kz (m:=1) (by omega) (fH rfl rfl (by simp[okO,below])) (by simp[below,hxl,w1 (i:=i) (by omega)])
   ·have ho':gt s.args[i]=false:=by simpa using ho
    rw[hh,kD h ho']
    simp-implicitDefEqProofs[ho']
  ·simp at h
   have ha2:s.args.all gt=true:=fw h ha
   rw[hh,ha2,Bool.true_and]
   simp-implicitDefEqProofs[hnw]
   refine(hblk s.body (by omega)).use ?_
   cases hb:s.body.all (aB d) with
   |true=>
    simp-implicitDefEqProofs[hnw]
    refine(hblk s.els (by omega)).use ?_
    simp-implicitDefEqProofs[]
   |false=>
    simp-implicitDefEqProofs[]
end
section
variable (G:ay)
structure Vis (σ:Type) where
 I:σ->List AO
 n:Nat
 F:FuncId
 caps:List AV
 len:∀st,(I st).length=n
 ok:∀st,∀o∈I st,okO n o
 capsOk:an n caps
theorem Vis.pre{σ:Type}(V:Vis σ){f:FuncId}{args:List AV}{st st':σ}{v:AV}(H:AC Tryz.prog G f args (V.I st) λx h=>x= .ret v/\h=V.I st')(rest:List AO)(ha:an V.n args):
 AC Tryz.prog G f args (V.I st++rest) λx h=>x= .ret v/\h=V.I st'++rest:=by
 refine(AC.pre H rest (by rw[V.len];exact ha) (by rw[V.len];exact V.ok st) ?_).mono ?_
 ·rintro x h ⟨_,rfl⟩;rw[V.len,V.len]
 ·rintro x h ⟨h1,⟨rfl,rfl⟩,rfl⟩
  exact⟨rfl,rfl⟩
theorem Vis.trim{σ:Type}(V:Vis σ){f:FuncId}{args:List AV}{st st':σ}{v:AV}(H:AC Tryz.prog G f args (V.I st) λx h=>x= .ret v/\∃l,h=V.I st'++l)(hv:below V.n v):
 AC Tryz.prog G f args (V.I st) λx h=>x= .ret v/\h=V.I st':=by
 refine H.wk (λt v h ⟨e,_⟩=>by cases e) ?_
 rintro u h ⟨e,l,rfl⟩
 cases e
 refine⟨v,V.I st',yf (n:=V.n) (by rw[V.len];exact RC _) (fH (by rw[←V.len st',List.take_left'];rfl) (V.len _) (V.ok _)) ?_,rfl,rfl⟩
 simp[Fgt,hv]
theorem rv{n m:Nat}(h:n<=m){o:AO}(ho:okO n o):okO m o:=by
 cases o with
 |dead=>trivial
 |sit=>trivial
 |row sz es=>exact λe he=>aw h _ (ho e he)
 |mp es=>exact λe he=>(aw h [e.2] ⟨ho e he,trivial⟩).1
theorem Vis.oks{σ:Type}(V:Vis σ)(st:σ){m:Nat}(hm:V.n<=m){r:List AO}(hr:∀o∈r,okO m o):∀o∈V.I st++r,okO m o:=by
 intro o ho
 rcases RG.1 ho with h|h
 ·exact rv hm (V.ok st o h)
 ·exact hr o h
theorem Vis.same{σ:Type}(V:Vis σ)(st:σ){k n:Nat}(hk:k<=V.n){r s:List AO}{l l1:List (Nat × AV)}(hr:∀o∈r,okO (V.n+r.length) o)(H:FgA (V.n+r.length) l l1):Wk k (am n l) (V.I st++(r++s)) (am n l1) (V.I st++r):=by
 have hl:(V.I st++r).length=V.n+r.length:=by rw[RJ,V.len]
 refine kz (m:=V.n+r.length) (by omega) (fH ?_ hl (V.oks st (by omega) hr)) H
 rw[←RT,←hl,List.take_left'];rfl
theorem Vis.same0{σ:Type}(V:Vis σ)(st:σ){k n:Nat}(hk:k<=V.n){s:List AO}{l l1:List (Nat × AV)}(H:FgA V.n l l1):Wk k (am n l) (V.I st++s) (am n l1) (V.I st):=by
 refine kz (m:=V.n) (by omega) (fH ?_ (V.len _) (V.ok st)) H
 rw[←V.len st,List.take_left'];rfl
theorem LC{α:Type}{a b:List α}{n:Nat}(h:a.length=n)(i:Nat):(a++b)[n+i]?=b[i]?:=by
 rw[←h,RI (by omega)];congr 1;omega
theorem Mr{σ:Type}(V:Vis σ)(step:σ->Ex->σ)(inv:σ->Prop)(B:Nat)(hB:B<=1073741824)
 (hv:∀st e,inv st->e.sz<=B->inv (step st e)/\AC Tryz.prog G V.F (.agg (e.cs.map .p)::V.caps) (V.I st) λx h=>x= .ret (.tup [])/\h=V.I (step st e)):
 ∀(N:Nat) (e:Ex),e.sz<N->e.sz<=B->∀st,inv st->inv (e.pre.foldl step st)/\AC Tryz.prog G eO [.agg (e.cs.map .p),.fn (.func V.F) V.caps] (V.I st) λx h=>x= .ret (.tup [])/\h=V.I (e.pre.foldl step st):=by
 intro N
 induction N with
 |zero=>intro e h;omega
 |succ N ih=>
  intro e he hz st hi
  have hec:=e.cs_eq
  have hsz:=e.sz_eq
  have hkl:=aP e.kids
  have hxl:exL e.kids= .lst 4 (e.kids.map Ex.cs):=rfl
  have hlen:=V.len
  obtain⟨i1,h1⟩:=hv st e hi hz
  have hinv:∀i,i<=e.kids.length->inv ((dO (e.kids.take i)).foldl step (step st e)):=by
   intro i
   induction i with
   |zero=>intro _;exact i1
   |succ i ihi=>
    intro hl
    have hg:i<e.kids.length:=by omega
    have hks:=aC (RB hg)
    rw[aq hg,lp,List.foldl_append,dO,dO,Sd]
    exact(ih e.kids[i] (by omega) (by omega) _ (ihi (by omega))).1
  refine⟨?_,?_⟩
  ·rw[Ex.pre_eq,SB]
   have:=hinv e.kids.length (RC _)
   rwa[RR] at this
  refine V.trim G (AC.go rI ?_) (by simp[below])
  have hcb:=V.capsOk
  have hcb1:an (V.n+1) V.caps:=aw (by omega) _ hcb
  rw[hec] at h1
  simp-implicitDefEqProofs[mg,hec,hlen]
  refine(V.pre G h1 _ ⟨by simp[below],hcb⟩).mono ?_
  rintro r h ⟨rfl,rfl⟩
  simp-implicitDefEqProofs[aa,hlen,hxl]
  refine az (λi:Nat=>am 20 [(1,.fn (.func V.F) V.caps),(2,.ptr V.n 4 0 0),(10,.p (exL e.kids)),(11,.p (.int .i64 e.kids.length)),(12,.p (.int .i64 i))])
   (λi=>V.I ((dO (e.kids.take i)).foldl step (step st e))++[.row 4 [[.p (.int .i64 e.op),.p (.int .i64 e.n),.p (.str e.name),.p (exL e.kids)]]]) (λi=>i<=e.kids.length) (λi=>e.kids.length-i) 0 (by simp) ?_ ?_
  ·refine V.same (r:=[_]) (s:=[]) _ (RC _) (by simp[okO,below]) ?_
   simp[below,hxl,hcb1]
  intro i hil
  simp-implicitDefEqProofs[hxl]
  refine aY (λhc=>?_) (λhc=>?_)
  ·simp at hc
   have hg:=Rv hc
   have hks:=aC (RB hc)
   have hkc:=e.kids[i].cs_eq
   have hI:=(ih e.kids[i] (by omega) (by omega) _ (hinv i hil)).2
   rw[hkc] at hI
   simp-implicitDefEqProofs[hg,hkc,hlen]
   refine(V.pre G hI _ ⟨by simp[below],by simp[below,hcb],trivial⟩).mono ?_
   rintro r h ⟨rfl,rfl⟩
   simp-implicitDefEqProofs[aa]
   refine⟨i+1,hc,by omega,?_⟩
   have hf:(dO (e.kids.take (i+1))).foldl step (step st e)=e.kids[i].pre.foldl step ((dO (e.kids.take i)).foldl step (step st e)):=by
    rw[aq hc,lp,List.foldl_append,dO,dO,Sd]
   rw[hf]
   refine V.same (r:=[_]) (s:=[_]) _ (RC _) (by simp[okO,below]) ?_
   simp[below,hxl,hcb1,w1 (i:=i) (by omega)]
  ·simp at hc
   have hie:i=e.kids.length:=by omega
   subst hie
   rw[RR,Ex.pre_eq,SB]
   simp-implicitDefEqProofs[]
theorem KP{σ:Type}(V:Vis σ)(step:σ->Sm × Nat->σ)(inv:σ->Prop)(B:Nat)(hB:B<=1073741824)
 (hv:∀st s d,inv st->s.sz<=B->inv (step st (s,d))/\AC Tryz.prog G V.F (.agg (s.cs.map .p):: .p (.int .i64 (d:Nat))::V.caps) (V.I st) λx h=>x= .ret (.tup [])/\h=V.I (step st (s,d))):
 ∀(N:Nat) (l:List Sm),aF l<N->aF l<=B->∀(d:Nat),d+aF l<=1099511627776->∀st,inv st->inv ((bT d l).foldl step st)/\AC Tryz.prog G gi [.p (smL l),.p (.int .i64 d),.fn (.func V.F) V.caps] (V.I st) λx h=>x= .ret (.tup [])/\h=V.I ((bT d l).foldl step st):=by
 intro N
 induction N with
 |zero=>intro l h;omega
 |succ N ih=>
  intro l hl hz d hd st hi
  have hll:=bi l
  have hlen:=V.len
  have hsl:∀l,smL l= .lst 5 (l.map Sm.cs):=λ_=>rfl
  have hone:∀s:Sm,s∈l->∀st,inv st->inv ((s.pre d).foldl step st):=by
   intro s hs st hi
   have hm:=aQ hs
   have hsz:=s.sz_eq
   have i1:=(hv st s d hi (by omega)).1
   have i2:=(ih s.body (by omega) (by omega) (d+1) (by omega) _ i1).1
   have i3:=(ih s.els (by omega) (by omega) (d+1) (by omega) _ i2).1
   rw[Sm.pre_eq,SB,List.foldl_append]
   exact i3
  have hinv:∀i,i<=l.length->inv ((bT d (l.take i)).foldl step st):=by
   intro i
   induction i with
   |zero=>intro _;exact hi
   |succ i ihi=>
    intro hl
    have hg:i<l.length:=by omega
    rw[aq hg,pC,List.foldl_append,bT,bT,Sd]
    exact hone _ (RB hg) _ (ihi (by omega))
  refine⟨?_,?_⟩
  ·have:=hinv l.length (RC _)
   rwa[RR] at this
  refine V.trim G (AC.go Bn ?_) (by simp[below])
  have hcb:=V.capsOk
  simp-implicitDefEqProofs[rY,hsl]
  refine az (λi:Nat=>am 31 [(1,.p (.int .i64 d)),(2,.fn (.func V.F) V.caps),(8,.p (smL l)),(9,.p (.int .i64 l.length)),(10,.p (.int .i64 i))])
   (λi=>V.I ((bT d (l.take i)).foldl step st)) (λi=>i<=l.length) (λi=>l.length-i) 0 (by simp) ?_ ?_
  ·rw[hlen]
   have:=V.same0 (s:=[]) st (k:=V.n) (n:=31) (RC _) (l:=[(10,.p (.int .i64 0)),(9,.p (.int .i64 l.length)),(8,.p (smL l)),(0,.p (smL l)),(1,.p (.int .i64 d)),(2,.fn (.func V.F) V.caps)]) (l1:=[(1,.p (.int .i64 d)),(2,.fn (.func V.F) V.caps),(8,.p (smL l)),(9,.p (.int .i64 l.length)),(10,.p (.int .i64 0))]) (by simp[below,hcb])
   rw[Sd] at this
   exact this
  intro i hil
  simp-implicitDefEqProofs[hsl]
  refine aY (λhc=>?_) (λhc=>?_)
  ·simp at hc
   have hg:=Rv hc
   have hks:=aQ (RB hc)
   have hkc:=l[i].cs_eq
   have hsz:=l[i].sz_eq
   have hf:(bT d (l.take (i+1))).foldl step st=(l[i].pre d).foldl step ((bT d (l.take i)).foldl step st):=by
    rw[aq hc,pC,List.foldl_append,bT,bT,Sd]
   have ii:=hinv i hil
   obtain⟨i1,h1⟩:=hv _ l[i] d ii (by omega)
   obtain⟨i2,h2⟩:=ih l[i].body (by omega) (by omega) (d+1) (by omega) _ i1
   obtain⟨i3,h3⟩:=ih l[i].els (by omega) (by omega) (d+1) (by omega) _ i2
   rw[Sm.pre_eq,SB,List.foldl_append] at hf
   have hwd:IntKind.i64.wrap ((d:Int)+1)=((d+1:Nat):Int):=by rw[ah (by omega) (by omega)];omega
   rw[hkc] at h1
   simp-implicitDefEqProofs[hg,hkc,hlen]
   refine(V.pre G h1 _ ⟨by simp,by simp,hcb⟩).mono ?_
   rintro r h ⟨rfl,rfl⟩
   simp-implicitDefEqProofs[aa,hlen,hwd]
   refine(V.pre G h2 _ ⟨by simp,by simp,by simp[below,hcb],trivial⟩).mono ?_
   rintro r h ⟨rfl,rfl⟩
   simp-implicitDefEqProofs[aa,hlen,hwd]
   refine(V.pre G h3 _ ⟨by simp,by simp,by simp[below,hcb],trivial⟩).mono ?_
   rintro r h ⟨rfl,rfl⟩
   simp-implicitDefEqProofs[aa]
   refine⟨i+1,hc,by omega,?_⟩
   rw[hf]
   refine V.same0 (s:=[_]) _ (RC _) ?_
   simp[below,hsl,hcb,w1 (i:=i) (by omega)]
  ·simp at hc
   have hie:i=l.length:=by omega
   subst hie
   rw[RR]
   simp-implicitDefEqProofs[]
end
section
def ixI:Option Nat->Int|none=> -1|some i=>i
def vaC(nf:Bool)(id n:Nat):AV:=if nf then .nils else .sl id 3 0 n
def lvC(v:LV):List AV:=[.p (.str v.name),.p (.int .i64 v.num),.p (.int .i64 v.block)]
def lvR(vs:List LV):List (List AV):=vs.reverse.map lvC
def roC(nf:Bool)(vs:List LV):AO:=if nf then .dead else .row 3 (lvR vs)
def wC(id:Nat)(nf:Bool)(fns:List Fd)(k:Nat)(w:WS):List AV:=[.p (fdL fns),.p (.int .i64 k),vaC nf id w.vs.length,.p (.int .i64 w.count),.p (.int .i64 w.code)]
def wO(id:Nat)(nf:Bool)(fns:List Fd)(k:Nat)(w:WS):AO:= .row 5 [wC id nf fns k w]
def HWk(nf:Bool)(fns:List Fd)(k:Nat)(w:WS):List AO:=[wO 1 nf fns k w,roC nf w.vs]
theorem uL(vs:List LV):(lvR vs).length=vs.length:=by simp[lvR]
theorem Dc(vs:List LV):∀x∈lvR vs,an 0 x:=by
 intro x hx;obtain⟨m,_,rfl⟩:=RP.1 hx;simp[lvC,an,below]
theorem fT(nf:Bool)(vs:List LV)(n:Nat):okO n (roC nf vs):=by
 cases nf
 ·exact cM (λe he=>Dc vs e he)
 ·exact trivial
theorem Hd{nf:Bool}{id n m:Nat}(h:id<m):below m (vaC nf id n):=by cases nf<;>simp[vaC,below,h]
theorem vg{id:Nat}{nf:Bool}{fns:List Fd}{k:Nat}{w:WS}{m:Nat}(h:id<m):an m (wC id nf fns k w):=⟨by simp,by simp,Hd h,by simp,by simp,trivial⟩
theorem ui{id:Nat}{nf:Bool}{fns:List Fd}{k:Nat}{w:WS}{m:Nat}(h:id<m):okO m (wO id nf fns k w):=by
 intro e he;rw[RL.1 he];exact vg h
theorem Le(σ:List Nat)(nf:Bool)(id n:Nat):ren σ (vaC nf id n)=vaC nf (σ.getD id 0) n:=by cases nf<;>rfl
theorem AJ(σ:List Nat)(id:Nat)(nf:Bool)(fns:List Fd)(k:Nat)(w:WS):bI σ (wC id nf fns k w)=wC (σ.getD id 0) nf fns k w:=by
 simp only[wC,bI,Le];rfl
theorem Fs(σ:List Nat)(id:Nat)(nf:Bool)(fns:List Fd)(k:Nat)(w:WS):lb σ (wO id nf fns k w)=wO (σ.getD id 0) nf fns k w:=by
 simp only[wO,lb,Sb,List.map_nil,AJ]
theorem Dv(σ:List Nat)(nf:Bool)(vs:List LV):lb σ (roC nf vs)=roC nf vs:=by
 cases nf
 ·show AO.row 3 ((lvR vs).map (bI σ))= .row 3 (lvR vs)
  rw[RO (g:=id) λx hx=>hU σ x (Dc vs x hx)];simp
 ·rfl
theorem DP(pre:List LV)(v:LV)(r:List LV):(lvR (pre++v::r))[r.length]?=some (lvC v):=by
 simp[lvR]
theorem Ib(v:LV)(r:List LV):lvR (v::r)=lvR r++[lvC v]:=by simp[lvR]
def tz:List LV->List UInt8->Int
 |[],_=> -1
 |v::r,s=>if v.name=s then r.length else tz r s
theorem to:∀(vs:List LV) (s:List UInt8),(lkV vs s=none/\tz vs s= -1)\/∃pre v r,vs=pre++v::r/\lkV vs s=some v/\tz vs s=r.length
 |[],s=> .inl ⟨rfl,rfl⟩
 |v::r,s=>by
  by_cases h:v.name=s
  ·exact .inr ⟨[],v,r,rfl,by simp[lkV,h],by simp[tz,h]⟩
  ·have h1:lkV (v::r) s=lkV r s:=by simp[lkV,h]
   have h2:tz (v::r) s=tz r s:=by simp[tz,h]
   rw[h1,h2]
   rcases to r s with h|⟨pre,u,q,e,h⟩
   ·exact .inl h
   ·exact .inr ⟨v::pre,u,q,by rw[e];rfl,h⟩
theorem rD:AK.whole gb=FK.ak gx:=rfl
variable (G:ay)
theorem Kp(l:List Fd)(s:List UInt8)(hl:l.length<=1099511627776):VF Tryz.prog G kj [.agg [.p (fdL l)],.p (.str s)] (.p (.int .i64 (ixI (dJ l s)))):=by
 refine AC.go Cd ?_
 have hfl:∀l,fdL l= .lst 3 (l.map Fd.cs):=λ_=>rfl
 simp-implicitDefEqProofs[tH,hfl]
 refine az (λi:Nat=>am 22 [(1,.p (.str s)),(2,.ptr 0 1 0 0),(5,.p (.int .i64 i))]) (λ_=>[.row 1 [[.p (.lst 3 (l.map Fd.cs))]]]) (λi=>i<=l.length/\∀f∈l.take i,f.name≠s) (λi=>l.length-i) 0 (by simp) (ab (by simp) (by simp[okO]) (by simp[below])) ?_
 intro i ⟨hi,hn⟩
 simp-implicitDefEqProofs[]
 refine aY (λh=>?_) (λh=>?_)
 ·simp at h
  have hg:=Rv h
  have hce:l[i].cs=[.str l[i].name,aE l[i].params,smL l[i].body]:=rfl
  by_cases he:l[i].name=s
  ·have hf:dJ l s=some i:=by
    rw[dJ,RQ]
    exact⟨h,by simpa using he,λj hj=>by have:=hn l[j] (List.mem_take_iff_getElem.2 ⟨j,by omega,rfl⟩);simpa using this⟩
   simp-implicitDefEqProofs[hg,hce,he,hf,ixI]
  ·simp-implicitDefEqProofs[hg,hce,he]
   refine⟨i+1,⟨h,λp hp=>?_⟩,by omega,ab (by simp) (by simp[okO]) (by simp[below,w1 (i:=i) (by omega)])⟩
   rw[aq h] at hp
   rcases RG.1 hp with hp|hp
   ·exact hn p hp
   ·rw[RL.1 hp];exact he
 ·simp at h
  rw[RF h] at hn
  have hf:dJ l s=none:=by
   rw[dJ,Sg];intro x hx;simpa using hn x hx
  simp-implicitDefEqProofs[hf,ixI]
theorem MM:∀m:Nat,m<26->((([97,98,99,100,101,102,103,104,105,106,107,108,109,110,111,112,113,114,115,116,117,118,119,120,121,122]:List UInt8).take (m+1)).drop m)=[UInt8.ofNat (97+m)]:=by decide
theorem LF:∀m:Nat,m<26->List.drop m ((97:UInt8)::List.take m [98,99,100,101,102,103,104,105,106,107,108,109,110,111,112,113,114,115,116,117,118,119,120,121,122])=[97+UInt8.ofNat m]:=by decide
theorem yn(n:Nat):VF Tryz.prog G iu [.p (.int .i64 n)] (.p (.str (vnm n))):=by
 refine AC.go zu ?_
 have hm:n%26<26:=Nat.mod_lt _ (by omega)
 have ht:(n:Int).tmod 26=((n%26:Nat):Int):=rfl
 have hw:IntKind.i64.wrap (((n%26:Nat):Int)+1)=((n%26+1:Nat):Int):=w1 (by omega)
 have habc:=MM _ hm
 rw[vnm]
 generalize n%26=m at hm ht hw habc
 have h0:(0:Int)<=(m:Int)+1:=by omega
 have h1:m+1<=26:=by omega
 simp-implicitDefEqProofs[pf,ht,hw,h0,h1]
 exact⟨by omega,LF m hm⟩
theorem oq(nf:Bool)(fns:List Fd)(k:Nat)(w:WS)(c:Int):AC Tryz.prog G bn [.ptr 0 5 0 0,.p (.int .i64 c)] (HWk nf fns k w) λx h=>x= .ret (.tup [])/\h=HWk nf fns k ⟨w.vs,w.count,fl w.code c⟩:=by
 refine AC.go pK ?_
 by_cases h0:w.code=0
 ·simp-implicitDefEqProofs[fQ,HWk,wO,wC,h0,fl]
 ·simp-implicitDefEqProofs[fQ,HWk,wO,wC,h0,fl]
theorem yp(nf:Bool)(fns:List Fd)(k:Nat)(w:WS):∀o∈HWk nf fns k w,okO 2 o:=by
 intro o ho
 simp only[HWk,Sa,List.not_mem_nil,or_false] at ho
 rcases ho with rfl|rfl
 ·exact ui (by omega)
 ·exact fT _ _ _
theorem EX(nf:Bool)(fns:List Fd)(k:Nat)(w:WS)(hn:nf=true->w.vs=[])(hl:w.vs.length<=1099511627776)(s:List UInt8):AC Tryz.prog G dA [.ptr 0 5 0 0,.p (.str s)] (HWk nf fns k w) λx h=>x= .ret (.p (.int .i64 (tz w.vs s)))/\h=HWk nf fns k w:=by
 refine AC.go pL ?_
 have hok:=yp nf fns k w
 cases nf with
 |true=>
  have hv:=hn rfl
  rw[HWk] at hok⊢
  simp-implicitDefEqProofs[fP,wO,wC,vaC,hv]
  refine az (λ_:Unit=>am 27 [(0,.ptr 0 5 0 0),(1,.p (.str s)),(5,.p (.int .i64 (-1)))]) (λ_=>[wO 1 true fns k w,roC true w.vs]) (λ_=>True) (λ_=>0) () trivial ?_ ?_
  ·have e:wO 1 true fns k w= .row 5 [[.p (fdL fns),.p (.int .i64 k),.nils,.p (.int .i64 w.count),.p (.int .i64 w.code)]]:=by simp[wO,wC,vaC]
   rw[←e,←hv]
   exact ab (by simp) hok (by simp[below,ah (x:= -1) (by omega) (by omega)])
  ·intro _ _
   simp-implicitDefEqProofs[tz]
   simp[wO,wC,vaC,hv]
 |false=>
  rw[HWk] at hok⊢
  have e:∀r,roC false r= .row 3 (lvR r):=λ_=>rfl
  have hw0:IntKind.i64.wrap ((w.vs.length:Int)-1)=(w.vs.length:Int)-1:=ah (by omega) (by omega)
  simp-implicitDefEqProofs[fP,wO,wC,vaC,hw0]
  refine az (λr:List LV=>am 27 [(0,.ptr 0 5 0 0),(1,.p (.str s)),(5,.p (.int .i64 ((r.length:Int)-1)))]) (λ_=>[wO 1 false fns k w,roC false w.vs]) (λr=>∃pre,w.vs=pre++r/\tz w.vs s=tz r s) (λr=>r.length) w.vs ⟨[],rfl,rfl⟩ ?_ ?_
  ·exact ab (h:=[wO 1 false fns k w,roC false w.vs]) (by simp) hok (by simp[below])
  ·rintro r ⟨pre,e1,e2⟩
   cases r with
   |nil=>
    simp-implicitDefEqProofs[wO,wC,vaC]
    rw[e2];rfl
   |cons v r=>
    have hat:=DP pre v r
    rw[←e1] at hat
    have hlen:r.length<w.vs.length:=by rw[e1];simp;omega
    have hll:=uL w.vs
    have c1:((r.length+1:Nat):Int)-1=(r.length:Int):=by omega
    have hw1:IntKind.i64.wrap ((r.length:Int)-1)=(r.length:Int)-1:=ah (by omega) (by omega)
    by_cases hs:v.name=s
    ·simp-implicitDefEqProofs[wO,wC,vaC,e,c1,hat,hlen,lvC,hs]
     rw[e2];simp[tz,hs]
    ·simp-implicitDefEqProofs[wO,wC,vaC,e,c1,hat,hlen,lvC,hs]
     refine⟨r,⟨⟨pre++[v],by rw[e1];simp⟩,by rw[e2];simp[tz,hs]⟩,by simp,?_⟩
     refine ab (h:=[wO 1 false fns k w,roC false w.vs]) (by simp) hok ?_
     simp[below,hw1]
theorem JF(nf:Bool)(fns:List Fd)(k:Nat)(w:WS)(hn:nf=true->w.vs=[])(hl:w.vs.length<=1099511627776)(s:List UInt8):AC Tryz.prog G ef [.ptr 0 5 0 0,.p (.str s)] (HWk nf fns k w) λx h=>x= .ret (.p (.str (vw w.vs s)))/\h=HWk nf fns k ⟨w.vs,w.count,ux w.vs s w.code⟩:=by
 refine AC.go sc ?_
 simp-implicitDefEqProofs[kg]
 refine(EX G nf fns k w hn hl s).mono ?_
 rintro r h ⟨rfl,rfl⟩
 rcases to w.vs s with⟨e1,e2⟩|⟨pre,v,q,e0,e1,e2⟩
 ·simp-implicitDefEqProofs[aa,e2]
  refine(oq G nf fns k w 3).mono ?_
  rintro r h ⟨rfl,rfl⟩
  simp-implicitDefEqProofs[aa,vw,ux,e1]
 ·have hat:=DP pre v q
  rw[←e0] at hat
  have hlen:q.length<w.vs.length:=by rw[e0];simp;omega
  have hnf:nf=false:=by
   cases nf with
   |false=>rfl
   |true=>rw[hn rfl] at e0;simp at e0
  subst hnf
  have e:∀r,roC false r= .row 3 (lvR r):=λ_=>rfl
  have hq:¬(q.length:Int)<0:=by omega
  simp-implicitDefEqProofs[aa,e2,hq,HWk,wO,wC,vaC,e,hat,hlen,lvC]
  refine(yn G v.num).use ?_
  simp-implicitDefEqProofs[vw,ux,e1]
theorem Ip(nf:Bool)(fns:List Fd)(k:Nat)(w:WS)(hn:nf=true->w.vs=[])(hl:w.vs.length<=1099511627776)(hc:w.count<=1099511627776)(s:List UInt8)(b:Nat):AC Tryz.prog G dZ [.ptr 0 5 0 0,.p (.str s),.p (.int .i64 b)] (HWk nf fns k w) λx h=>x= .ret (.p (.str (vnm w.count)))/\h=[wO 2 false fns k (lc w s b),.dead,roC false (lc w s b).vs]:=by
 refine AC.goK ri rD ?_
 have hw1:IntKind.i64.wrap ((w.count:Int)+1)=(w.count:Int)+1:=ah (by omega) (by omega)
 have hw2:IntKind.i64.wrap ((w.count:Int)+1-1)=(w.count:Int):=by rw[ah (by omega) (by omega)];omega
 have hw3:IntKind.i64.wrap (w.count:Int)=(w.count:Int):=ah (by omega) (by omega)
 have hll:=uL w.vs
 simp-implicitDefEqProofs[gb,gx]
 refine(EX G nf fns k w hn hl s).mono ?_
 rintro r h ⟨rfl,rfl⟩
 simp-implicitDefEqProofs[aa]
 refine kN (am 57 [(0,.ptr 0 5 0 0),(1,.p (.str s)),(2,.p (.int .i64 b))]) (HWk nf fns k ⟨w.vs,w.count,zl w.vs s b w.code⟩) ?_ ?_
 ·rcases to w.vs s with⟨e1,e2⟩|⟨pre,v,q,e0,e1,e2⟩
  ·simp-implicitDefEqProofs[e2,zl,e1]
   exact ab (by simp[HWk]) (yp nf fns k w) (by simp[below,HWk])
  ·have hat:=DP pre v q
   rw[←e0] at hat
   have hlen:q.length<w.vs.length:=by rw[e0];simp;omega
   have hnf:nf=false:=by
    cases nf with
    |false=>rfl
    |true=>rw[hn rfl] at e0;simp at e0
   subst hnf
   have e:∀r,roC false r= .row 3 (lvR r):=λ_=>rfl
   have hq:(0:Int)<=(q.length:Int):=by omega
   by_cases hb:v.block=b
   ·have:=oq G false fns k w 2
    simp only[HWk,wO,wC,vaC,e] at this
    simp-implicitDefEqProofs[e2,HWk,wO,wC,vaC,e,hat,hlen,lvC,hb]
    refine this.mono ?_
    rintro r h ⟨rfl,rfl⟩
    have hp:zl w.vs s b w.code=fl w.code 2:=by simp[zl,e1,hb]
    rw[hp]
    simp-implicitDefEqProofs[aa]
    refine ab (h:=HWk false fns k ⟨w.vs,w.count,fl w.code 2⟩) ?_ (yp _ _ _ _) ?_
    ·simp[HWk]
    ·simp[below,HWk]
   ·have hp:zl w.vs s b w.code=w.code:=by simp[zl,e1,hb]
    have hbi:¬(v.block:Int)=(b:Int):=by omega
    rw[hp]
    simp-implicitDefEqProofs[e2,HWk,wO,wC,vaC,e,hat,hlen,lvC,hbi]
    refine ab (h:=HWk false fns k w) ?_ (yp _ _ _ _) ?_
    ·simp[HWk]
    ·simp[below,HWk]
 ·cases nf with
  |true=>
   have hv:=hn rfl
   simp-implicitDefEqProofs[HWk,wO,wC,vaC,roC,hv,hw1,hw2,hw3]
   refine(yn G w.count).use ?_
   simp-implicitDefEqProofs[lc,lvR,lvC,hv]
  |false=>
   have e:∀r,roC false r= .row 3 (lvR r):=λ_=>rfl
   simp-implicitDefEqProofs[HWk,wO,wC,vaC,e,hw1,hw2,hw3,hll]
   refine⟨by omega,?_⟩
   refine(yn G w.count).use ?_
   simp-implicitDefEqProofs[lc,Ib,lvC]
   rw[RF (by omega)]
end
section
theorem rb:AK.whole fS=FK.ak fR:=rfl
variable (G:ay)
theorem Cc{f:FuncId}{args:List AV}{nf:Bool}{fns:List Fd}{k:Nat}{w w':WS}{v:AV}(H:AC Tryz.prog G f args (HWk nf fns k w) λx h=>x= .ret v/\h=HWk nf fns k w')(rest:List AO)(ha:an 2 args):
 AC Tryz.prog G f args (wO 1 nf fns k w::roC nf w.vs::rest) λx h=>x= .ret v/\h=wO 1 nf fns k w'::roC nf w'.vs::rest:=by
 refine(AC.pre H rest ha (yp _ _ _ _) ?_).mono ?_
 ·rintro x h ⟨_,rfl⟩;rfl
 ·rintro x h ⟨h1,⟨rfl,rfl⟩,rfl⟩
  exact⟨rfl,rfl⟩
theorem sm{n id:Nat}(hn:id<n){nf nf':Bool}{fns:List Fd}{k:Nat}{w:WS}{vs:List LV}{l:List AO}(r:∀o∈l,okO n o):∀o∈wO id nf fns k w::roC nf' vs::l,okO n o:=al (ui hn) (al (fT _ _ _) r)
theorem vI{ρ π:List Nat}{h r1:List AO}{i id:Nat}{nf:Bool}{fns:List Fd}{k:Nat}{w:WS}(hid:id<ρ.length)(e:h[i]?=some (wO (ρ.getD id 0) nf fns k w))(hr:HW ρ h π r1):HW ρ h (i::π) (wO id nf fns k w::r1):=by
 refine iV (es:=[wC id nf fns k w]) (λx hx=>?_) ?_ hr
 ·rw[RL.1 hx];exact vg hid
 ·rw[e,Sb,List.map_nil,AJ];rfl
theorem Hq{α:Type}{l:List α}{i j:Nat}{a b:α}(hij:i≠j)(h:l[j]?=some b):(l.set i a).set j b=l.set i a:=by
 apply List.ext_getElem?
 intro n
 rw[List.getElem?_set]
 split
 ·rename_i e
  subst e
  rw[RS hij,h]
  rw[if_pos (by rw[SC];exact(Ry.1 h).1)]
 ·rfl
theorem Bg(ρ:List Nat):∀l:List AV,an 0 l->TW ρ l l
 |[],_=>by simp
 |v::r,h=>by
  rw[Bt]
  refine⟨.inr ⟨(aw (SD _) [v] ⟨h.1,trivial⟩).1,?_⟩,Bg ρ r h.2⟩
  have:=hU ρ [v] ⟨h.1,trivial⟩
  simpa[bI] using this
theorem Pa{h:List AO}{wid id:Nat}{nf:Bool}{fns:List Fd}{k:Nat}{w:WS}(e0:h[wid]?=some (wO id nf fns k w))(e1:h[id]?=some (roC nf w.vs)):HW [wid,id] h [wid,id] (HWk nf fns k w):=by
 refine iV (es:=[wC 1 nf fns k w]) (λx hx=>?_) ?_ ?_
 ·rw[RL.1 hx];exact vg (by simp)
 ·rw[e0,Sb,List.map_nil,AJ];rfl
 ·exact tD e1 (fT _ _ _) bJ
theorem Ny{f:FuncId}{args:List AV}{nf:Bool}{fns:List Fd}{k:Nat}{w:WS}{v:AV}{c:Int}(H:AC Tryz.prog G f (.ptr 0 5 0 0::args) (HWk nf fns k w) λx h=>x= .ret v/\h=HWk nf fns k ⟨w.vs,w.count,c⟩)(ha:an 0 args)(hv:below 0 v)
 {h:List AO}{wid id:Nat}(hid:wid≠id)(e0:h[wid]?=some (wO id nf fns k w))(e1:h[id]?=some (roC nf w.vs)):
 AC Tryz.prog G f (.ptr wid 5 0 0::args) h λx h'=>x= .ret v/\h'=h.set wid (wO id nf fns k ⟨w.vs,w.count,c⟩):=by
 refine(H.frame [wid,id] (by simp[hid]) ?_ (Pa e0 e1)).mono ?_
 ·rw[Bt];exact⟨.inr ⟨by simp[below],rfl⟩,Bg _ _ ha⟩
 ·rintro x h' ⟨x0,h0,⟨rfl,rfl⟩,_,rfl,rfl⟩
  refine⟨?_,?_⟩
  ·have:=hU ([wid,id]++List.range' h.length ((HWk nf fns k ⟨w.vs,w.count,c⟩).length-(HWk nf fns k w).length)) [v] ⟨hv,trivial⟩
   simp only[bI] at this
   simp only[EQ]
   exact congrArg ARes.ret (List.cons.inj this).1
  ·simp only[HWk,RN,List.length_nil,SG,List.range'_zero,Sd,List.take_succ_cons,List.take_zero,Sb,List.map_nil,List.drop_succ_cons,List.drop_zero,Fs,Dv,mrg]
   exact Hq hid e1
theorem Kq{f:FuncId}{args:List AV}{nf:Bool}{fns:List Fd}{k:Nat}{w:WS}{v:AV}{Q:Bool->WS->Prop}(H:AC Tryz.prog G f (.ptr 0 5 0 0::args) (HWk nf fns k w) λx h=>∃nf' w',x= .ret v/\h=[wO 2 nf' fns k w',.dead,roC nf' w'.vs]/\Q nf' w')(ha:an 0 args)(hv:below 0 v)
 {h:List AO}{wid id:Nat}(hid:wid≠id)(e0:h[wid]?=some (wO id nf fns k w))(e1:h[id]?=some (roC nf w.vs)):
 AC Tryz.prog G f (.ptr wid 5 0 0::args) h λx h'=>∃nf' w',x= .ret v/\h'=(h.set wid (wO h.length nf' fns k w')).set id .dead++[roC nf' w'.vs]/\Q nf' w':=by
 refine(H.frame [wid,id] (by simp[hid]) ?_ (Pa e0 e1)).mono ?_
 ·rw[Bt];exact⟨.inr ⟨by simp[below],rfl⟩,Bg _ _ ha⟩
 ·rintro x h' ⟨x0,h0,⟨nf',w',rfl,rfl,q⟩,_,rfl,rfl⟩
  refine⟨nf',w',?_,?_,q⟩
  ·have:=hU ([wid,id]++List.range' h.length ([wO 2 nf' fns k w',.dead,roC nf' w'.vs].length-(HWk nf fns k w).length)) [v] ⟨hv,trivial⟩
   simp only[bI] at this
   simp only[EQ]
   exact congrArg ARes.ret (List.cons.inj this).1
  ·simp only[HWk,RN,List.length_nil,List.take_succ_cons,List.take_zero,Sb,List.map_nil,List.drop_succ_cons,List.drop_zero,Fs,Dv,mrg]
   rfl
theorem zP(fns:List Fd)(k:Nat)(vs:List LV):∀(a b:List Ex) (c:Int),dM fns k vs (a++b) c=dM fns k vs b (dM fns k vs a c)
 |[],b,c=>rfl
 |e::r,b,c=>by rw[Sh,dM,dM,zP fns k vs r]
theorem rk(vs:List LV):∀l:List Ex,jE vs l=l.map (rnE vs)
 |[]=>rfl
 |e::r=>by rw[jE,rk vs r];rfl
theorem yx{fns:List Fd}{k:Nat}{vs:List LV}{l:List Ex}{c:Int}{i:Nat}(h:i<l.length):dM fns k vs (l.take (i+1)) c=CU fns k vs l[i] (dM fns k vs (l.take i) c):=by
 rw[aq h,zP];rfl
theorem An{vs:List LV}{l:List Ex}{i:Nat}(h:i<l.length):jE vs (l.take (i+1))=jE vs (l.take i)++[rnE vs l[i]]:=by
 rw[rk,rk,aq h,Sw];rfl
theorem rC(vs:List LV)(l:List Ex):(jE vs l).length=l.length:=by rw[rk,RM]
theorem uJ(l:List Ex):(exR l).length=l.length:=by simp[exR]
theorem uH(a b:List Ex):exR (a++b)=exR a++exR b:=by simp[exR]
theorem rM{h:List AO}{id:Nat}{l:List Ex}(e:h[id]?=some (.row 4 (exR l))):View h (.sl id 4 0 l.length) (exL l):=by
 have:=iA (h:=h) (id:=id) (sz:=4) (n:=l.length) (ls:=l.map Ex.cs) (by rw[e,exR];simp) (by simp) (λx hx=>by obtain⟨b,_,rfl⟩:=RP.1 hx;exact b.cs_len)
 exact this
theorem Lx{fns:List Fd}{s:List UInt8}{j:Nat}(h:dJ fns s=some j):j<fns.length:=by
 rw[dJ,RQ] at h;exact h.1
theorem LP{fns:List Fd}{k:Nat}(hf:fns.length<=1099511627776):∀(N:Nat) (e:Ex),e.sz<=N->N<=1099511627776->∀(nf:Bool) (w:WS),(nf=true->w.vs=[])->w.vs.length<=1099511627776->
 AC Tryz.prog G cF [.ptr 0 5 0 0,.agg (e.cs.map .p)] (HWk nf fns k w) λx h=>x= .ret (.agg ((rnE w.vs e).cs.map .p))/\h=HWk nf fns k ⟨w.vs,w.count,CU fns k w.vs e w.code⟩:=by
 intro N
 induction N with
 |zero=>intro e he;have:=e.sz_eq;omega
 |succ N ih=>
  intro e he hN nf w hn hl
  have hec:=e.cs_eq
  have hsz:=e.sz_eq
  have hkl:=aP e.kids
  have hre:(rnE w.vs e).cs=[.int .i64 e.op,.int .i64 e.n,.str (if e.op=2 then vw w.vs e.name else e.name),exL (jE w.vs e.kids)]:=by
   obtain⟨o,n,s,ks⟩:=e;rw[rnE,Ex.cs_eq];rfl
  have hce:CU fns k w.vs e w.code=dM fns k w.vs e.kids (pg fns k w.vs e.op e.name e.kids.length w.code):=by
   obtain⟨o,n,s,ks⟩:=e;rfl
  have main:AC Tryz.prog G cF [.ptr 0 5 0 0,.agg (e.cs.map .p)] (HWk nf fns k w) λx h=>∃E1 E2,x= .ret (.agg [.p (.int .i64 e.op),.p (.int .i64 e.n),.p (.str (if e.op=2 then vw w.vs e.name else e.name)),.sl 4 4 0 e.kids.length])/\
   h=[wO 1 nf fns k ⟨w.vs,w.count,CU fns k w.vs e w.code⟩,roC nf w.vs,E1,E2,.row 4 (exR (jE w.vs e.kids))]:=by
   refine AC.goK pQ rb ?_
   simp-implicitDefEqProofs[fS,fR,HWk,hec]
   refine kN (am 75 [(0,.ptr 0 5 0 0),(3,.ptr 2 4 0 0),(4,.ptr 3 4 0 0)]) [wO 1 nf fns k ⟨w.vs,w.count,if e.op=2 then ux w.vs e.name w.code else w.code⟩,roC nf w.vs,.row 4 [[.p (.int .i64 e.op),.p (.int .i64 e.n),.p (.str (if e.op=2 then vw w.vs e.name else e.name)),.p (exL e.kids)]],.row 4 [[.p (.int .i64 0),.p (.int .i64 0),.p (.str []),.nils]]] ?_ ?_
   ·by_cases o2:e.op=2
    ·simp-implicitDefEqProofs[o2]
     refine(Cc G (JF G nf fns k w hn hl e.name) _ (by simp[below])).mono ?_
     rintro r h ⟨rfl,rfl⟩
     simp-implicitDefEqProofs[aa]
     exact ab (by simp) (sm (by simp) (by simp[okO,below])) (by simp[below])
    ·simp-implicitDefEqProofs[o2]
     exact ab (by simp) (sm (by simp) (by simp[okO,below])) (by simp[below])
   refine kN (am 75 [(0,.ptr 0 5 0 0),(3,.ptr 2 4 0 0),(4,.ptr 3 4 0 0)]) [wO 1 nf fns k ⟨w.vs,w.count,pg fns k w.vs e.op e.name e.kids.length w.code⟩,roC nf w.vs,.row 4 [[.p (.int .i64 e.op),.p (.int .i64 e.n),.p (.str (if e.op=2 then vw w.vs e.name else e.name)),.p (exL e.kids)]],.row 4 [[.p (.int .i64 0),.p (.int .i64 0),.p (.str []),.nils]]] ?_ ?_
   ·by_cases o13:e.op=13
    ·have hhd:pg fns k w.vs e.op e.name e.kids.length w.code=sh fns k e.name e.kids.length w.code:=by simp[pg,o13]
     rw[hhd]
     simp-implicitDefEqProofs[o13,wO,wC]
     refine(Kp G fns e.name hf).use ?_
     have fin:∀c:Int,Wk 2 (am 75 [(0,.ptr 0 5 0 0),(3,.ptr 2 4 0 0),(4,.ptr 3 4 0 0)]) [wO 1 nf fns k ⟨w.vs,w.count,c⟩,roC nf w.vs,.row 4 [[.p (.int .i64 13),.p (.int .i64 e.n),.p (.str e.name),.p (exL e.kids)]],.row 4 [[.p (.int .i64 0),.p (.int .i64 0),.p (.str []),.nils]]] (am 75 [(0,.ptr 0 5 0 0),(3,.ptr 2 4 0 0),(4,.ptr 3 4 0 0)]) [wO 1 nf fns k ⟨w.vs,w.count,c⟩,roC nf w.vs,.row 4 [[.p (.int .i64 13),.p (.int .i64 e.n),.p (.str e.name),.p (exL e.kids)]],.row 4 [[.p (.int .i64 0),.p (.int .i64 0),.p (.str []),.nils]]]:=λc=>
      ab (by simp) (sm (by simp) (by simp[okO,below])) (by simp[below])
     cases hfa:dJ fns e.name with
     |none=>
      simp-implicitDefEqProofs[ixI,sh,hfa]
      refine(Cc G (oq G nf fns k w 4) _ (by simp[below])).mono ?_
      rintro r h ⟨rfl,rfl⟩
      simp-implicitDefEqProofs[aa]
      exact ab (h:=[wO 1 nf fns k ⟨w.vs,w.count,fl w.code 4⟩,roC nf w.vs,.row 4 [[.p (.int .i64 13),.p (.int .i64 e.n),.p (.str e.name),.p (exL e.kids)]],.row 4 [[.p (.int .i64 0),.p (.int .i64 0),.p (.str []),.nils]]]) (by simp) (sm (by simp) (by simp[okO,below])) (by simp[below])
     |some j=>
      have hj:=Lx hfa
      have hg:=Rv hj
      have hjn:¬(j:Int)<0:=by omega
      by_cases hkj:k<=j
      ·have hkj':(k:Int)<=(j:Int):=by omega
       simp-implicitDefEqProofs[ixI,sh,hfa,hkj,hkj',hjn]
       refine(Cc G (oq G nf fns k w 4) _ (by simp[below])).mono ?_
       rintro r h ⟨rfl,rfl⟩
       simp-implicitDefEqProofs[aa]
       exact ab (h:=[wO 1 nf fns k ⟨w.vs,w.count,fl w.code 4⟩,roC nf w.vs,.row 4 [[.p (.int .i64 13),.p (.int .i64 e.n),.p (.str e.name),.p (exL e.kids)]],.row 4 [[.p (.int .i64 0),.p (.int .i64 0),.p (.str []),.nils]]]) (by simp) (sm (by simp) (by simp[okO,below])) (by simp[below])
      ·have hkj':¬(k:Int)<=(j:Int):=by omega
       have hfl:fdL fns= .lst 3 (fns.map Fd.cs):=rfl
       have hcs:fns[j].cs=[.str fns[j].name,aE fns[j].params,smL fns[j].body]:=rfl
       have hst:aE fns[j].params= .lst 1 (fns[j].params.map λw=>[.str w]):=rfl
       have hxl:∀l,exL l= .lst 4 (l.map Ex.cs):=λ_=>rfl
       have hpn:Cn fns j=fns[j].params.length:=by simp[Cn,hg]
       by_cases hp:fns[j].params.length=e.kids.length
       ·have hcc:sh fns k e.name e.kids.length w.code=w.code:=by simp[sh,hfa,hkj,hpn,hp]
        rw[hcc]
        simp-implicitDefEqProofs[ixI,hkj',hjn,hfl,hg,hcs,hst,hxl,hp]
        exact ab (h:=[wO 1 nf fns k w,roC nf w.vs,.row 4 [[.p (.int .i64 13),.p (.int .i64 e.n),.p (.str e.name),.p (exL e.kids)]],.row 4 [[.p (.int .i64 0),.p (.int .i64 0),.p (.str []),.nils]]]) (by simp) (sm (by simp) (by simp[okO,below])) (by simp[below])
       ·have hcc:sh fns k e.name e.kids.length w.code=fl w.code 5:=by simp[sh,hfa,hkj,hpn,hp]
        have hp':¬(fns[j].params.length:Int)=(e.kids.length:Int):=by omega
        rw[hcc]
        simp-implicitDefEqProofs[ixI,hkj',hjn,hfl,hg,hcs,hst,hxl,hp']
        refine(Cc G (oq G nf fns k w 5) _ (by simp[below])).mono ?_
        rintro r h ⟨rfl,rfl⟩
        simp-implicitDefEqProofs[aa]
        exact ab (h:=[wO 1 nf fns k ⟨w.vs,w.count,fl w.code 5⟩,roC nf w.vs,.row 4 [[.p (.int .i64 13),.p (.int .i64 e.n),.p (.str e.name),.p (exL e.kids)]],.row 4 [[.p (.int .i64 0),.p (.int .i64 0),.p (.str []),.nils]]]) (by simp) (sm (by simp) (by simp[okO,below])) (by simp[below])
    ·have hhd:pg fns k w.vs e.op e.name e.kids.length w.code=if e.op=2 then ux w.vs e.name w.code else w.code:=by simp[pg,o13]
     rw[hhd]
     simp-implicitDefEqProofs[o13]
     exact ab (by simp) (sm (by simp) (by simp[okO,below])) (by simp[below])
   rw[hce]
   generalize pg fns k w.vs e.op e.name e.kids.length w.code=c2
   generalize (if e.op=2 then vw w.vs e.name else e.name)=s1
   have hxl:exL e.kids= .lst 4 (e.kids.map Ex.cs):=rfl
   simp-implicitDefEqProofs[]
   refine az (λi:Nat=>am 75 [(0,.ptr 0 5 0 0),(3,.ptr 2 4 0 0),(4,.ptr 3 4 0 0),(6,.sl 4 4 0 i),(7,.p (.int .i64 i))])
    (λi=>[wO 1 nf fns k ⟨w.vs,w.count,dM fns k w.vs (e.kids.take i) c2⟩,roC nf w.vs,.row 4 [[.p (.int .i64 e.op),.p (.int .i64 e.n),.p (.str s1),.p (exL e.kids)]],.row 4 [[.p (.int .i64 0),.p (.int .i64 0),.p (.str []),.nils]],.row 4 (exR (jE w.vs (e.kids.take i)))])
    (λi=>i<=e.kids.length) (λi=>e.kids.length-i) 0 (by simp) ?_ ?_
   ·exact ab (by simp) (sm (by simp) (by simp[okO,below])) (by simp[below])
   ·intro i hi
    have hrl:(exR (jE w.vs (e.kids.take i))).length=i:=by rw[uJ,rC];simp;omega
    simp-implicitDefEqProofs[hxl]
    refine aY (λh=>?_) (λh=>?_)
    ·simp at h
     have hg:=Rv h
     have hks:=aC (RB h)
     have hkc:=(rnE w.vs e.kids[i]).cs_eq
     simp-implicitDefEqProofs[hg]
     refine(Cc G (ih e.kids[i] (by omega) (by omega) nf ⟨w.vs,w.count,dM fns k w.vs (e.kids.take i) c2⟩ hn hl) _ (by simp[below])).mono ?_
     rintro r h ⟨rfl,rfl⟩
     rw[show(rnE (WS.mk w.vs w.count (dM fns k w.vs (e.kids.take i) c2)).vs e.kids[i])=rnE w.vs e.kids[i] from rfl]
     simp-implicitDefEqProofs[aa,hkc,hrl]
     refine⟨by omega,?_⟩
     refine⟨i+1,by omega,by omega,?_⟩
     have htk:List.take i (exR (jE w.vs (e.kids.take i)))=exR (jE w.vs (e.kids.take i)):=RF (by omega)
     rw[yx h,An h,uH,htk]
     refine gf [0,1,2,3,6] (by simp) (by decide) (by decide) (vI (by simp) rfl (tD rfl (fT _ _ _) (aU rfl (by simp[below]) (aU rfl (by simp[below]) (aU ?_ ?_ bJ))))) (by simp[below,ren,w1 (i:=i) (by omega)])
     ·have:exR [rnE w.vs e.kids[i]]=[[.p (.int .i64 (rnE w.vs e.kids[i]).op),.p (.int .i64 (rnE w.vs e.kids[i]).n),.p (.str (rnE w.vs e.kids[i]).name),.p (exL (rnE w.vs e.kids[i]).kids)]]:=by rw[exR,List.map_singleton,hkc];rfl
      rw[this];rfl
     ·intro x hx
      rcases RG.1 hx with h|h
      ·exact lL _ x h
      ·exact lL _ x h
    ·simp at h
     have hie:i=e.kids.length:=by omega
     subst hie
     simp-implicitDefEqProofs[]
  refine main.frz 2 (by simp[HWk]) (λt v h ⟨_,_,e,_⟩=>by cases e) ?_
  rintro v h ⟨E1,E2,e,rfl⟩
  cases e
  refine⟨_,HWk nf fns k ⟨w.vs,w.count,CU fns k w.vs e w.code⟩,by simp,rfl,.agg ?_ .nil,.same (ui (by omega)) (.same (fT _ _ _) (.nil _)),rfl,rfl⟩
  rw[hre]
  have hrl:=rC w.vs e.kids
  rw[←hrl]
  exact .keep (by simp) (.keep (by simp) (.keep (by simp) (.one (rM rfl) .nil)))
end
section
theorem oH:AK.whole fd=FK.ak fk:=rfl
theorem DA(fns:List Fd)(k b:Nat):∀(x y:List Sm) (w:WS),cL fns k b (x++y) w=cL fns k b y (cL fns k b x w)
 |[],y,w=>rfl
 |s::r,y,w=>by rw[Sh,cL,cL,DA fns k b r]
theorem Dy(fns:List Fd)(k b:Nat):∀(x y:List Sm) (w:WS),gy fns k b (x++y) w=gy fns k b x w++gy fns k b y (cL fns k b x w)
 |[],y,w=>rfl
 |s::r,y,w=>by rw[Sh,gy,gy,Dy fns k b r];rfl
theorem GB{fns:List Fd}{k b:Nat}{l:List Sm}{w:WS}{i:Nat}(h:i<l.length):cL fns k b (l.take (i+1)) w=stW fns k b l[i] (cL fns k b (l.take i) w):=by
 rw[aq h,DA];rfl
theorem Gu{fns:List Fd}{k b:Nat}{l:List Sm}{w:WS}{i:Nat}(h:i<l.length):gy fns k b (l.take (i+1)) w=gy fns k b (l.take i) w++[rnS fns k b l[i] (cL fns k b (l.take i) w)]:=by
 rw[aq h,Dy];rfl
theorem yK(fns:List Fd)(k b:Nat):∀(l:List Sm) (w:WS),(gy fns k b l w).length=l.length
 |[],w=>rfl
 |s::r,w=>by rw[gy,RN,yK fns k b r,RN]
theorem Ba{l:List Sm}{i:Nat}(h:i<l.length):aF (l.take i)+l[i].sz<=aF l:=by
 have e:l=l.take i++l[i]::l.drop (i+1):=by rw[←List.drop_eq_getElem_cons h,Si]
 have h2:aF l=aF (l.take i)+(l[i].sz+aF (l.drop (i+1))):=by
  conv=>lhs;rw[e]
  rw[uh];rfl
 omega
def pB(fns:List Fd)(k b:Nat)(l:List Sm)(w:WS):WS:=if 0<b then(cL fns k b l w).back w.vs else cL fns k b l w
theorem EI(fns:List Fd)(k b:Nat)(l:List Sm)(w:WS):(pB fns k b l w).count=w.count+po l:=by
 unfold pB
 split
 ·exact gM fns k l b w
 ·exact gM fns k l b w
theorem IP{e vs:List LV}:(lvR (e++vs)).take vs.length=lvR vs:=by
 have h:lvR (e++vs)=lvR vs++lvR e:=by simp[lvR]
 rw[h,List.take_append_of_le_length (by rw[uL];exact RC _),RF (by rw[uL];exact RC _)]
theorem zO(l:List Sm):po l<=aF l:=Nat.le_trans (sC l) (oe l)
theorem Ev(nf:Bool)(id n:Nat):(vaC nf id n).isCell=true:=by cases nf<;>rfl
theorem Gc(nf:Bool)(id n:Nat):(vaC nf id n).cells=[vaC nf id n]:=by cases nf<;>rfl
attribute [simp ↓] Ev Gc
variable (G:ay)
def StP(fns:List Fd)(k b:Nat)(l:List Sm)(w:WS)(x:ARes)(h:List AO):Prop:=∃nf' w',x= .ret (.p (smL (gy fns k b l w)))/\h=[wO 2 nf' fns k w',.dead,roC nf' w'.vs]/\(nf'=true->w'.vs=[])/\w'=pB fns k b l w
structure StS where (i:Nat) (nf:Bool)
theorem Hw{fns:List Fd}{k:Nat}(hf:fns.length<=1099511627776):∀(N:Nat) (l:List Sm),aF l<N->∀(b:Nat) (nf:Bool) (w:WS),(nf=true->w.vs=[])->w.vs.length<=w.count->w.count+aF l<=1099511627776->b+aF l<=1099511627776->
 AC Tryz.prog G ce [.ptr 0 5 0 0,.p (smL l),.p (.int .i64 b)] (HWk nf fns k w) (StP fns k b l w):=by
 intro N
 induction N with
 |zero=>
  intro l hl b nf w hn hv hc hb
  omega
 |succ N ih=>
  intro l hl b nf w hn hv hc hb
  have hll:=bi l
  refine AC.goK oG oH ?_
  have hsl:∀l,smL l= .lst 5 (l.map Sm.cs):=λ_=>rfl
  have hlen0:Ek (vaC nf 1 w.vs.length)=some (.p (.int .i64 w.vs.length)):=by
   cases nf
   ·rfl
   ·simp[vaC,hn rfl]
  simp-implicitDefEqProofs[fd,fk,HWk,wO,wC,hlen0]
  refine az (λs:StS=>am 96 [(0,.ptr 0 5 0 0),(1,.p (smL l)),(2,.p (.int .i64 b)),(7,.sl 2 5 0 s.i),(8,.p (.int .i64 w.vs.length)),(9,.p (.int .i64 s.i))])
   (λs=>[wO 3 s.nf fns k (cL fns k b (l.take s.i) w),.dead,.row 5 (smR (gy fns k b (l.take s.i) w)),roC s.nf (cL fns k b (l.take s.i) w).vs])
   (λs=>s.i<=l.length/\(s.nf=true->(cL fns k b (l.take s.i) w).vs=[])) (λs=>l.length-s.i) ⟨0,nf⟩ ⟨by simp,hn⟩ ?_ ?_
  ·refine EZ [0,1,2,1] (by simp) (by decide) ?_ (vI (by simp) rfl (ij (by simp) (aU rfl (by simp[smR,gy]) (tD rfl (fT _ _ _) bJ)))) (by simp[below,ren])
   cases nf<;>simp[iS,roC,wO,cL]
  ·rintro⟨i,nf⟩ ⟨hi,hn⟩
   simp only at hi hn
   simp-implicitDefEqProofs[hsl]
   refine aY (λh=>?_) (λh=>?_)
   ·simp at h
    have hg:=Rv h
    have hat:=Ba h
    have hse:=l[i].cs_eq
    have hsz:=l[i].sz_eq
    have hle:=FJ fns k (l:=l.take i) (b:=b) hv
    have hcn:=gM fns k (l.take i) b w
    have hlz:=zO (l.take i)
    have eW:=GB (fns:=fns) (k:=k) (b:=b) (w:=w) h
    have eR:=Gu (fns:=fns) (k:=k) (b:=b) (w:=w) h
    have hol:=yK fns k b (l.take i) w
    rw[RZ,Nat.min_eq_left hi] at hol
    generalize l[i]=s at hg hat hse hsz eW eR
    generalize cL fns k b (l.take i) w=wi at hn hle hcn eW eR⊢
    generalize gy fns k b (l.take i) w=out at hol eR⊢
    obtain⟨o,nme,a,bd,el⟩:=s
    simp only[Sm.op,Sm.name,Sm.args,Sm.body,Sm.els] at hse hsz
    simp-implicitDefEqProofs[hg,hse]
    have hxl:∀l,exL l= .lst 4 (l.map Ex.cs):=λ_=>rfl
    have hal:=aP a
    have hlE:=zO bd
    have hwl:wi.vs.length<=1099511627776:=by omega
    have hopR:∀(x y z u v:AV),an 0 [x,y,z,u,v]->okO 5 (AO.row 5 [[x,y,z,u,v]]):=λx y z u v hh=>cM (λe he=>by rw[RL.1 he];exact hh)
    refine az (λj:Nat=>am 96 [(0,.ptr 0 5 0 0),(1,.p (smL l)),(2,.p (.int .i64 b)),(7,.sl 2 5 0 i),(8,.p (.int .i64 w.vs.length)),(9,.p (.int .i64 i)),(10,.ptr 4 5 0 0),(11,.sl 5 4 0 j),(12,.p (.int .i64 j))])
     (λj=>[wO 3 nf fns k ⟨wi.vs,wi.count,dM fns k wi.vs (a.take j) wi.code⟩,.dead,.row 5 (smR out),roC nf wi.vs,.row 5 [[.p (.int .i64 o),.p (.str nme),.p (exL a),.p (smL bd),.p (smL el)]],.row 4 (exR (jE wi.vs (a.take j)))])
     (λj=>j<=a.length) (λj=>a.length-j) 0 (by simp) ?_ ?_
    ·refine ab (h:=[wO 3 nf fns k wi,.dead,.row 5 (smR out),roC nf wi.vs,.row 5 [[.p (.int .i64 o),.p (.str nme),.p (exL a),.p (smL bd),.p (smL el)]],.row 4 []]) (by simp) (al (ui (by simp)) (al trivial (al (cM (bv out)) (al (fT _ _ _) (by simp[okO,below]))))) (by simp[below,hsl])
    intro j hj
    have hrl:(exR (jE wi.vs (a.take j))).length=j:=by rw[uJ,rC];simp;omega
    simp-implicitDefEqProofs[hxl]
    refine aY (λhc=>?_) (λhc=>?_)
    ·simp at hc
     have hga:=Rv hc
     have hks:=aC (RB hc)
     have hkc:=(rnE wi.vs a[j]).cs_eq
     simp-implicitDefEqProofs[hga]
     refine(Ny G (id:=3) (LP G hf (a[j].sz) a[j] (RC _) (by omega) nf ⟨wi.vs,wi.count,dM fns k wi.vs (a.take j) wi.code⟩ hn hwl) (by simp) (by simp[below]) (by decide) rfl rfl).mono ?_
     rintro r h' ⟨rfl,rfl⟩
     rw[show(rnE (WS.mk wi.vs wi.count (dM fns k wi.vs (a.take j) wi.code)).vs a[j])=rnE wi.vs a[j] from rfl]
     simp-implicitDefEqProofs[aa,hkc,hrl]
     refine⟨by omega,j+1,by omega,by omega,?_⟩
     have htk:List.take j (exR (jE wi.vs (a.take j)))=exR (jE wi.vs (a.take j)):=RF (by omega)
     rw[yx hc,An hc,uH,htk]
     refine gf [0,1,2,3,4,7] (by simp) (by decide) (by decide) (vI (by simp) rfl (ij (by simp) (aU rfl (bv out) (tD rfl (fT _ _ _) (aU rfl (by simp[below]) (aU ?_ ?_ bJ)))))) (by simp[below,ren,hsl,w1 (i:=j) (by omega)])
     ·have:exR [rnE wi.vs a[j]]=[[.p (.int .i64 (rnE wi.vs a[j]).op),.p (.int .i64 (rnE wi.vs a[j]).n),.p (.str (rnE wi.vs a[j]).name),.p (exL (rnE wi.vs a[j]).kids)]]:=by rw[exR,List.map_singleton,hkc];rfl
      rw[this];rfl
     ·intro x hx
      rcases RG.1 hx with h|h
      ·exact lL _ x h
      ·exact lL _ x h
    simp at hc
    have hje:j=a.length:=by omega
    subst hje
    rw[RR] at hrl⊢
    have hal2:=rC wi.vs a
    simp-implicitDefEqProofs[]
    generalize hw1:WS.mk wi.vs wi.count (dM fns k wi.vs a wi.code)=w1
    have e1v:w1.vs=wi.vs:=by rw[←hw1]
    have e1c:w1.count=wi.count:=by rw[←hw1]
    have e1l:w1.vs.length=wi.vs.length:=by rw[e1v]
    rw[←e1v]
    refine kN (am 96 [(0,.ptr 0 5 0 0),(1,.p (smL l)),(2,.p (.int .i64 b)),(7,.sl 2 5 0 i),(8,.p (.int .i64 w.vs.length)),(9,.p (.int .i64 i)),(10,.ptr 4 5 0 0)])
     [wO 3 nf fns k w1,.dead,.row 5 (smR out),roC nf w1.vs,.row 5 [[.p (.int .i64 o),.p (.str nme),.p (exL (jE w1.vs a)),.p (smL bd),.p (smL el)]]] ?_ ?_
    ·simp-implicitDefEqProofs[]
     refine md 5 (by omega) (by simp) rfl (.same (ui (by omega)) (.dead (.same (cM (bv out)) (.same (fT _ _ _) (.one (.keep (by simp[below]) (.keep (by simp[below]) (.one ?_ (.keep (by simp[below]) (.keep (by simp[below]) .nil))))) (.nil _)))))) ?_
     ·rw[←e1v] at hal2
      rw[←hal2]
      exact rM rfl
     ·refine⟨.keep (by simp[below]) .nil,.keep (by simp[below]) .nil,.keep (by simp[below]) .nil,.keep (by simp[below]) .nil,.keep (by simp[below]) .nil,.keep (by simp[below]) .nil,.keep (by simp[below]) .nil,trivial⟩
    have TT:∀(r1:List (Nat × AV)),Aw.look r1 0= .ptr 0 5 0 0->Aw.look r1 1= .p (smL l)->Aw.look r1 2= .p (.int .i64 b)->Aw.look r1 7= .sl 2 5 0 i->Aw.look r1 8= .p (.int .i64 w.vs.length)->Aw.look r1 9= .p (.int .i64 i)->Aw.look r1 10= .ptr 4 5 0 0->∀ρ:List Nat,ρ.length=5->ρ.getD 0 0=0->ρ.getD 2 0=2->ρ.getD 4 0=4->
     TWA ρ r1 [(0,.ptr 0 5 0 0),(1,.p (smL l)),(2,.p (.int .i64 b)),(7,.sl 2 5 0 i),(8,.p (.int .i64 w.vs.length)),(9,.p (.int .i64 i)),(10,.ptr 4 5 0 0)]:=by
     intro r1 a0 a1 a2 a7 a8 a9 a10 ρ hr r0 r2 r4
     simp[below,ren,hr,a0,a1,a2,a7,a8,a9,a10]
     rw[RD,Rv (by omega)] at r0 r2 r4
     exact⟨r0,r2,r4⟩
    have hn1:nf=true->w1.vs=[]:=λh=>by rw[e1v];exact hn h
    have okB:∀(nf:Bool) (w:WS) (r:AO),okO 0 r->∀x∈[wO 3 nf fns k w,.dead,.row 5 (smR out),roC nf w.vs,r],okO 5 x:=λnf w r hr=>
     al (ui (by omega)) (al trivial (al (cM (bv out)) (al (fT _ _ _) (al (cM hr) ee))))
    refine kN (am 96 [(0,.ptr 0 5 0 0),(1,.p (smL l)),(2,.p (.int .i64 b)),(7,.sl 2 5 0 i),(8,.p (.int .i64 w.vs.length)),(9,.p (.int .i64 i)),(10,.ptr 4 5 0 0)])
     [wO 3 (if o=1 then false else nf) fns k (if o=1 then lc w1 nme b else w1),.dead,.row 5 (smR out),roC (if o=1 then false else nf) (if o=1 then lc w1 nme b else w1).vs,.row 5 [[.p (.int .i64 o),.p (.str (if o=1 then vnm w1.count else nme)),.p (exL (jE w1.vs a)),.p (smL bd),.p (smL el)]]] ?_ ?_
    ·by_cases o1:o=1
     ·simp-implicitDefEqProofs[o1]
      refine(Kq G (id:=3) (Q:=λnf' w'=>nf'=false/\w'=lc w1 nme b) ((Ip G nf fns k w1 hn1 (by omega) (by omega) nme b).mono (by rintro x h ⟨rfl,rfl⟩;exact⟨false,_,rfl,rfl,rfl,rfl⟩)) (by simp) (by simp[below]) (by decide) rfl rfl).mono ?_
      rintro r h' ⟨nf',w',rfl,rfl,rfl,rfl⟩
      simp-implicitDefEqProofs[aa]
      refine gf [0,1,2,5,4] (by simp) (by decide) (by decide) (vI (by simp) rfl (ij (by simp) (aU rfl (bv out) (tD rfl (fT _ _ _) (aU rfl (by simp[below]) bJ))))) (TT _ (by simp) (by simp) (by simp) (by simp) (by simp) (by simp) (by simp) _ rfl rfl rfl rfl)
     ·simp-implicitDefEqProofs[o1]
      refine ab (by simp) (okB nf w1 _ (by simp[okO,below])) (by simp[below])
    generalize hw2:(if o=1 then lc w1 nme b else w1)=w2
    generalize hnf2:(if o=1 then false else nf)=nf2
    generalize hnm2:(if o=1 then vnm w1.count else nme)=nm2
    have hn2:nf2=true->w2.vs=[]:=by
     intro h
     by_cases o1:o=1
     ·rw[if_pos o1] at hnf2;rw[←hnf2] at h;cases h
     ·rw[if_neg o1] at hnf2 hw2;rw[←hw2];exact hn1 (by rw[hnf2];exact h)
    have h2c:w2.count=w1.count+if o=1 then 1 else 0:=by rw[←hw2];split<;>rfl
    have h2v:w2.vs.length<=w2.count:=by
     rw[←hw2];split
     ·simp[lc];omega
     ·omega
    have h2b:w2.count<=wi.count+1:=by rw[h2c,e1c];split<;>omega
    refine kN (am 96 [(0,.ptr 0 5 0 0),(1,.p (smL l)),(2,.p (.int .i64 b)),(7,.sl 2 5 0 i),(8,.p (.int .i64 w.vs.length)),(9,.p (.int .i64 i)),(10,.ptr 4 5 0 0)])
     [wO 3 nf2 fns k (opW o nme b w1),.dead,.row 5 (smR out),roC nf2 (opW o nme b w1).vs,.row 5 [[.p (.int .i64 o),.p (.str (opN o nme w1)),.p (exL (jE w1.vs a)),.p (smL bd),.p (smL el)]]] ?_ ?_
    ·by_cases o2:o=2
     ·have o1:¬o=1:=by omega
      rw[if_neg o1] at hw2 hnm2
      subst hw2;subst hnm2
      have eo:opW o nme b w1=⟨w1.vs,w1.count,ux w1.vs nme w1.code⟩:=by rw[opW,if_neg o1,if_pos o2]
      have en:opN o nme w1=vw w1.vs nme:=by rw[opN,if_neg o1,if_pos o2]
      rw[eo,en]
      simp-implicitDefEqProofs[o2]
      refine(Ny G (id:=3) (JF G nf2 fns k w1 hn2 (by omega) nme) (by simp) (by simp[below]) (by decide) rfl rfl).mono ?_
      rintro r h' ⟨rfl,rfl⟩
      simp-implicitDefEqProofs[aa]
      refine ab (h:=[wO 3 nf2 fns k ⟨w1.vs,w1.count,ux w1.vs nme w1.code⟩,.dead,.row 5 (smR out),roC nf2 w1.vs,_]) (by simp) (okB nf2 ⟨w1.vs,w1.count,ux w1.vs nme w1.code⟩ _ (by simp[okO,below])) (by simp[below])
     ·have eo:opW o nme b w1=w2:=by rw[opW,if_neg o2,←hw2]
      have en:opN o nme w1=nm2:=by rw[opN,if_neg o2,←hnm2]
      rw[eo,en]
      simp-implicitDefEqProofs[o2]
      refine ab (by simp) (okB nf2 w2 _ (by simp[okO,below])) (by simp[below])
    have eov:(opW o nme b w1).vs=w2.vs:=by
     rw[opW,←hw2];split
     ·rfl
     ·split<;>rfl
    have eoc:(opW o nme b w1).count=w2.count:=by rw[sU,h2c]
    have hwb:IntKind.i64.wrap ((b:Int)+1)=((b+1:Nat):Int):=by rw[ah (by omega) (by omega)];omega
    have hstw:stW fns k b (.mk o nme a bd el) wi=pB fns k (b+1) el (pB fns k (b+1) bd (opW o nme b w1)):=by
     rw[stW]
     simp only[hw1,pB,Nat.succ_pos,if_true]
     rfl
    have hrns:(rnS fns k b (.mk o nme a bd el) wi).cs=[.int .i64 o,.str (opN o nme w1),exL (jE w1.vs a),smL (gy fns k (b+1) bd (opW o nme b w1)),smL (gy fns k (b+1) el (pB fns k (b+1) bd (opW o nme b w1)))]:=by
     rw[rnS,Sm.cs_eq]
     simp only[hw1,pB,Nat.succ_pos,if_true,Sm.op,Sm.name,Sm.args,Sm.body,Sm.els,e1v]
     have:opN o nme wi=opN o nme w1:=by simp only[opN,e1v,e1c]
     rw[this]
    rw[hstw] at eW
    clear hstw
    generalize opW o nme b w1=w3 at eov eoc hrns eW⊢
    have hn3:nf2=true->w3.vs=[]:=λh=>by rw[eov];exact hn2 h
    have h3v:w3.vs.length<=w3.count:=by rw[eov,eoc];exact h2v
    simp-implicitDefEqProofs[hwb]
    refine(Kq G (id:=3) (ih bd (by omega) (b+1) nf2 w3 hn3 h3v (by omega) (by omega)) (by simp) (by simp[below]) (by decide) rfl rfl).mono ?_
    rintro r h' ⟨nf4,w4,rfl,rfl,hn4,hw4⟩
    rw[←hw4] at hrns eW
    have h4c:w4.count=w3.count+po bd:=by rw[hw4];exact EI _ _ _ _ _
    have h4v:w4.vs.length<=w4.count:=by
     have:w4.vs=w3.vs:=by rw[hw4];simp[pB,WS.back]
     rw[this,h4c];omega
    simp-implicitDefEqProofs[aa,hwb]
    refine(Kq G (id:=5) (ih el (by omega) (b+1) nf4 w4 hn4 h4v (by omega) (by omega)) (by simp) (by simp[below]) (by decide) rfl rfl).mono ?_
    rintro r h' ⟨nf5,w5,rfl,rfl,hn5,hw5⟩
    rw[←hw5] at eW
    have hsl2:(smR out).length=i:=by rw[BA];exact hol
    simp-implicitDefEqProofs[aa,hsl2]
    refine⟨⟨by omega,by omega⟩,⟨i+1,nf5⟩,⟨by simp only;omega,λh=>by simp only at h⊢;rw[eW];exact hn5 h⟩,by simp only;omega,?_⟩
    simp only
    rw[eW,eR,AT]
    have htk:List.take i (smR out)=smR out:=RF (by omega)
    rw[htk]
    have hsm1:smR [rnS fns k b (.mk o nme a bd el) wi]=[[.p (.int .i64 o),.p (.str (opN o nme w1)),.p (exL (jE w1.vs a)),.p (smL (gy fns k (b+1) bd w3)),.p (smL (gy fns k (b+1) el w4))]]:=by rw[smR,List.map_singleton,hrns];rfl
    rw[hsm1]
    refine gf [0,1,8,6] (by simp) (by decide) (by decide) (vI (by simp) rfl (ij (by simp) (aU rfl (λx hx=>?_) (tD rfl (fT _ _ _) bJ)))) (by simp[below,ren,hsl,show IntKind.i64.wrap ((i:Int)+1)=((i:Int)+1) from ah (by omega) (by omega)])
    rcases RG.1 hx with h|h
    ·exact bv out x h
    ·rw[RL.1 h];simp
   ·simp at h
    have hie:i=l.length:=by omega
    subst hie
    rw[RR] at hn⊢
    obtain⟨ext,hext⟩:=CX fns k l b w
    have hlen:=yK fns k b l w
    refine kN (am 96 [(7,.p (smL (gy fns k b l w)))]) [wO 2 nf fns k (pB fns k b l w),.dead,roC nf (pB fns k b l w).vs] ?_ ?_
    ·have fin:∀(r1:List (Nat × AV)) (w':WS),w'.vs=w.vs\/w'.vs=(cL fns k b l w).vs->(Aw.look r1 7= .sl 2 5 0 l.length)->
      Wk 2 (am 96 r1) [wO 3 nf fns k w',.dead,.row 5 (smR (gy fns k b l w)),roC nf (cL fns k b l w).vs] (am 96 [(7,.p (smL (gy fns k b l w)))]) [wO 2 nf fns k w',.dead,roC nf w'.vs]:=by
      intro r1 w' hv' hr
      refine Wk.trans (Li (h1:=[wO 3 nf fns k w',.dead,.row 5 (smR (gy fns k b l w)),roC nf w'.vs]) ?_) (Wk.trans (gf (l1:=[(7,.sl 3 5 0 l.length)]) (h1:=[wO 2 nf fns k w',.dead,roC nf w'.vs,.row 5 (smR (gy fns k b l w))]) [0,1,3,2] (by simp) (by decide) (by decide) (vI (by simp) rfl (ij (by simp) (tD rfl (fT _ _ _) (aU rfl (bv _) bJ)))) (by simp[below,ren,hr]))
       (md 3 (by omega) (by simp) rfl (.same (ui (by omega)) (.dead (.same (fT _ _ _) (.nil _)))) ?_))
      ·refine⟨.inl rfl,.inl rfl,.inl rfl,?_,trivial⟩
       rcases hv' with e|e
       ·cases nf with
        |true=>exact .inl rfl
        |false=>
         refine .inr ⟨3,lvR (cL fns k b l w).vs,w.vs.length,rfl,?_⟩
         rw[hext,IP,e];rfl
       ·rw[e];exact .inl rfl
      ·rw[←hlen]
       exact⟨.one (lF rfl) .nil,trivial⟩
     by_cases hb0:0<b
     ·have hwe:pB fns k b l w=(cL fns k b l w).back w.vs:=if_pos hb0
      rw[hwe]
      have hll2:(cL fns k b l w).vs.length=ext.length+w.vs.length:=by rw[hext,RJ]
      cases nf with
      |true=>
       have h0:=hn rfl
       rw[h0] at hext
       have h00:w.vs=[]:=(List.append_eq_nil_iff.1 hext.symm).2
       simp-implicitDefEqProofs[hb0,wO,wC,vaC,h00]
       rw[h00] at fin
       exact fin _ ⟨[],(cL fns k b l w).count,(cL fns k b l w).code⟩ (.inl rfl) (by simp)
      |false=>
       have hle:w.vs.length<=(cL fns k b l w).vs.length:=by omega
       simp-implicitDefEqProofs[hb0,wO,wC,vaC,hle]
       exact fin _ ⟨w.vs,(cL fns k b l w).count,(cL fns k b l w).code⟩ (.inl rfl) (by simp)
     ·have hwe:pB fns k b l w=cL fns k b l w:=if_neg hb0
      have hb0':b=0:=by omega
      subst hb0'
      rw[hwe]
      simp-implicitDefEqProofs[]
      exact fin _ _ (.inr rfl) (by simp)
    ·simp-implicitDefEqProofs[]
     refine⟨nf,_,rfl,rfl,?_,rfl⟩
     intro hnf
     have h0:=hn hnf
     unfold pB
     split
     ·rw[h0] at hext;exact(List.append_eq_nil_iff.1 hext.symm).2
     ·exact h0
end
section
theorem Ct:AK.whole nJ=FK.ak nr:=rfl
theorem Dx:∀(ps:List (List UInt8)) (w:WS),w.vs.length<=w.count->(cJ ps w).vs.length<=(cJ ps w).count
 |[],w,h=>h
 |s::r,w,h=>Dx r (lc w s 0) (by simp[lc];omega)
theorem Hi(a b:List (List UInt8))(w:WS):cJ (a++b) w=cJ b (cJ a w):=by simp[cJ]
theorem ED{l:List (List UInt8)}{w:WS}{i:Nat}(h:i<l.length):cJ (l.take (i+1)) w=lc (cJ (l.take i) w) l[i] 0:=by
 rw[aq h,Hi];rfl
theorem BF:∀(a b:List (List UInt8)) (w:WS),oJ (a++b) w=oJ a w++oJ b (cJ a w)
 |[],b,w=>rfl
 |s::r,b,w=>by rw[Sh,oJ,oJ,BF r];rfl
theorem FW{l:List (List UInt8)}{w:WS}{i:Nat}(h:i<l.length):oJ (l.take (i+1)) w=oJ (l.take i) w++[vnm (cJ (l.take i) w).count]:=by
 rw[aq h,BF];rfl
theorem vS:∀(l:List (List UInt8)) (w:WS),(oJ l w).length=l.length
 |[],w=>rfl
 |s::r,w=>by rw[oJ,RN,vS r,RN]
def w0(fns:List Fd)(k:Nat)(f:Fd):WS:=⟨[],0,if dJ fns f.name=some k then 0 else 2⟩
theorem NP(fns:List Fd)(k:Nat)(f:Fd):fnW fns k f=cL fns k 0 f.body (cJ f.params (w0 fns k f)):=rfl
theorem ID(fns:List Fd)(k:Nat)(f:Fd):(rnF fns k f).cs=[.str f.name,aE (oJ f.params (w0 fns k f)),smL (gy fns k 0 f.body (cJ f.params (w0 fns k f)))]:=rfl
variable (G:ay)
theorem MO{fns:List Fd}{k:Nat}{f:Fd}(hk:fns[k]?=some f)(hz:bt fns<=1073741824):VF Tryz.prog G kh [.agg [.p (fdL fns)],.p (.int .i64 k)] (.tup [.agg ((rnF fns k f).cs.map .p),.p (.int .i64 (fnW fns k f).code),.p (.int .i64 (fnW fns k f).count)]):=by
 have hfl:=cU fns
 have hfm:=dr (RE hk)
 have hfz:f.sz=1+f.name.length+(f.params.length+(f.params.map List.length).sum)+aF f.body:=rfl
 have hkl:=(Ry.1 hk).1
 have key:AC Tryz.prog G kh [.agg [.p (fdL fns)],.p (.int .i64 k)] [] λx h=>x= .ret (.tup [.agg [.p (.str f.name),.sl 5 1 0 f.params.length,.p (smL (gy fns k 0 f.body (cJ f.params (w0 fns k f))))],.p (.int .i64 (fnW fns k f).code),.p (.int .i64 (fnW fns k f).count)])/\h[5]?=some (nC (oJ f.params (w0 fns k f))):=by
  refine AC.goK BV Ct ?_
  have hfd:∀l,fdL l= .lst 3 (l.map Fd.cs):=λ_=>rfl
  have hcs:f.cs=[.str f.name,aE f.params,smL f.body]:=rfl
  have hst:aE f.params= .lst 1 (f.params.map λw=>[.str w]):=rfl
  simp-implicitDefEqProofs[nJ,nr]
  refine kN (am 62 [(1,.p (.int .i64 k)),(2,.ptr 0 1 0 0),(4,.ptr 1 3 0 0),(7,.ptr 2 5 0 0),(8,.ptr 3 3 0 0)])
   [.row 1 [[.p (fdL fns)]],.row 3 [[.p (.str []),.nils,.nils]],wO 4 true fns k ⟨[],0,0⟩,.row 3 [[.p (.str f.name),.p (aE f.params),.p (smL f.body)]],.dead] ?_ ?_
  ·simp-implicitDefEqProofs[hfd,hk,hcs]
   refine vR (h:=[.row 1 [[.p (fdL fns)]],.row 3 [[.p (.str []),.nils,.nils]],wO 4 true fns k ⟨[],0,0⟩,.row 3 [[.p (.str f.name),.p (aE f.params),.p (smL f.body)]]]) (by simp) (by simp) ?_ (by simp[below])
   refine al (by simp[okO,below]) (al (by simp[okO,below]) (al ?_ (al (by simp[okO,below]) ee)))
   intro x hx
   rw[RL.1 hx];simp[wC,vaC,below]
  refine kN (am 62 [(1,.p (.int .i64 k)),(2,.ptr 0 1 0 0),(4,.ptr 1 3 0 0),(7,.ptr 2 5 0 0),(8,.ptr 3 3 0 0)])
   [.row 1 [[.p (fdL fns)]],.row 3 [[.p (.str []),.nils,.nils]],wO 4 true fns k (w0 fns k f),.row 3 [[.p (.str f.name),.p (aE f.params),.p (smL f.body)]],.dead] ?_ ?_
  ·simp-implicitDefEqProofs[]
   refine(Kp G fns f.name (by omega)).use ?_
   have hok:∀w:WS,∀o∈[AO.row 1 [[.p (fdL fns)]],.row 3 [[.p (.str []),.nils,.nils]],wO 4 true fns k w,.row 3 [[.p (.str f.name),.p (aE f.params),.p (smL f.body)]],.dead],okO 5 o:=λw=>
    al (by simp[okO,below]) (al (by simp[okO,below]) (al (ui (by simp)) (al (by simp[okO,below]) (al trivial ee))))
   by_cases he:dJ fns f.name=some k
   ·have hw:w0 fns k f=⟨[],0,0⟩:=by rw[w0,if_pos he]
    rw[hw,he]
    simp-implicitDefEqProofs[ixI]
    exact ab (by simp) (hok _) (by simp[below])
   ·have hw:w0 fns k f=⟨[],0,2⟩:=by rw[w0,if_neg he]
    have hne:¬ixI (dJ fns f.name)=(k:Int):=by
     intro h
     apply he
     cases e:dJ fns f.name with
     |none=>rw[e] at h;simp only[ixI] at h;omega
     |some j=>rw[e] at h;simp only[ixI] at h;have:j=k:=by omega
              rw[this]
    rw[hw]
    simp-implicitDefEqProofs[hne]
    refine(Ny G (wid:=2) (id:=4) (oq G true fns k ⟨[],0,0⟩ 2) (by simp) (by simp[below]) (by decide) rfl rfl).mono ?_
    rintro r h' ⟨rfl,rfl⟩
    simp-implicitDefEqProofs[aa]
    exact ab (h:=[AO.row 1 [[.p (fdL fns)]],.row 3 [[.p (.str []),.nils,.nils]],wO 4 true fns k ⟨[],0,2⟩,.row 3 [[.p (.str f.name),.p (aE f.params),.p (smL f.body)]],.dead]) (by simp) (hok _) (by simp[below])
  rw[NP]
  have hw0v:(w0 fns k f).vs=[]:=rfl
  have hw0c:(w0 fns k f).count=0:=rfl
  generalize w0 fns k f=w0 at hw0v hw0c⊢
  simp-implicitDefEqProofs[]
  have hcnt:∀j,j<=f.params.length->(cJ (f.params.take j) w0).count=j:=λj hj=>by rw[tO,hw0c];simp;omega
  have hvl:∀j,(cJ (f.params.take j) w0).vs.length<=(cJ (f.params.take j) w0).count:=λj=>Dx _ _ (by rw[hw0v];simp)
  refine az (λj:Nat=>am 62 [(1,.p (.int .i64 k)),(2,.ptr 0 1 0 0),(4,.ptr 1 3 0 0),(7,.ptr 2 5 0 0),(8,.ptr 3 3 0 0),(9,.sl 5 1 0 j),(10,.p (.int .i64 j))])
   (λj=>[.row 1 [[.p (fdL fns)]],.row 3 [[.p (.str []),.nils,.nils]],wO 6 (decide (j=0)) fns k (cJ (f.params.take j) w0),.row 3 [[.p (.str f.name),.p (aE f.params),.p (smL f.body)]],.dead,nC (oJ (f.params.take j) w0),roC (decide (j=0)) (cJ (f.params.take j) w0).vs])
   (λj=>j<=f.params.length) (λj=>f.params.length-j) 0 (by simp) ?_ ?_
  ·refine vR (h:=[.row 1 [[.p (fdL fns)]],.row 3 [[.p (.str []),.nils,.nils]],wO 6 true fns k w0,.row 3 [[.p (.str f.name),.p (aE f.params),.p (smL f.body)]],.dead,.row 1 []]) (by simp) (by simp) ?_ (by simp[below])
   refine al (by simp[okO,below]) (al (by simp[okO,below]) (al ?_ (al (by simp[okO,below]) (al trivial (al (by simp[okO]) ee)))))
   intro x hx
   rw[RL.1 hx];simp[wC,vaC,below]
  intro j hj
  have hjc:=hcnt j hj
  have hjv:=hvl j
  have hol:=vS (f.params.take j) w0
  rw[RZ,Nat.min_eq_left hj] at hol
  have hnf:decide (j=0)=true->(cJ (f.params.take j) w0).vs=[]:=by
   intro h
   have h0:j=0:=by simpa using h
   rw[h0,List.take_zero]
   exact hw0v
  simp-implicitDefEqProofs[hst]
  refine aY (λh=>?_) (λh=>?_)
  ·simp at h
   have hg:=Rv h
   have eP:=ED (w:=w0) h
   have eR:=FW (w:=w0) h
   simp-implicitDefEqProofs[hg]
   refine(Kq G (wid:=2) (id:=6) (Q:=λnf' w'=>nf'=false/\w'=lc (cJ (f.params.take j) w0) f.params[j] 0) ((Ip G (decide (j=0)) fns k _ hnf (by omega) (by omega) f.params[j] 0).mono (by rintro x h ⟨rfl,rfl⟩;exact⟨false,_,rfl,rfl,rfl,rfl⟩)) (by simp) (by simp[below]) (by decide) rfl rfl).mono ?_
   rintro r h' ⟨nf',w',rfl,rfl,rfl,rfl⟩
   have hso:∀l,nC l= .row 1 (l.map λn=>[.p (.str n)]):=λ_=>rfl
   simp-implicitDefEqProofs[aa,hso,hol]
   refine⟨by omega,j+1,by omega,by omega,?_⟩
   have htk:List.take j ((oJ (f.params.take j) w0).map λn=>[AV.p (.str n)])=(oJ (f.params.take j) w0).map λn=>[AV.p (.str n)]:=RF (by rw[RM];omega)
   have hd:decide (j+1=0)=false:=by simp
   rw[eP,eR,hd,Sw,←List.map_take,List.map_take,htk]
   refine dt [0,1,2,3,4,9,7] rfl (by decide) (aU rfl (by simp) (aU rfl (by simp[below]) (vI (by simp) rfl (aU rfl (by simp) (ij (by simp) (aU rfl (λx hx=>?_) (tD rfl (fT _ _ _) bJ))))))) (by simp[below,ren,w1 (i:=j) (by omega)])
   rcases RG.1 hx with h|h
   ·exact zY _ x h
   ·exact zY _ x h
  ·simp at h
   have hje:j=f.params.length:=by omega
   subst hje
   rw[RR] at hol hjc hjv hnf⊢
   generalize decide (f.params.length=0)=nf at hnf⊢
   simp-implicitDefEqProofs[]
   refine(Kq G (wid:=2) (id:=6) (Hw G (fns:=fns) (by omega) (aF f.body+1) f.body (by omega) 0 _ (cJ f.params w0) hnf hjv (by omega) (by omega)) (by simp) (by simp[below]) (by decide) rfl rfl).mono ?_
   rintro r h' ⟨nf',w',rfl,rfl,hn',hw'⟩
   have hb:pB fns k 0 f.body (cJ f.params w0)=cL fns k 0 f.body (cJ f.params w0):=rfl
   rw[hb] at hw'
   rw[←hw']
   simp-implicitDefEqProofs[aa,wO,wC]
 refine key.freezeR (λt v h ⟨e,_⟩=>by cases e) λv h ⟨e1,e2⟩=>?_
 cases e1
 rw[ID]
 have hol:=vS f.params (w0 fns k f)
 have hv:=ta e2
 rw[hol] at hv
 exact .tup (.agg (.keep (by simp) (.one hv (.keep (by simp) .nil))) (.keep (by simp) (.keep (by simp) .nil))) .nil
theorem CV{fns:List Fd}{i:Nat}(h:i<fns.length):gP fns i (fns.drop i)=if(fnW fns i fns[i]).code=0 then gP fns (i+1) (fns.drop (i+1)) else(fnW fns i fns[i]).code:=by
 rw[List.drop_eq_getElem_cons h,gP]
theorem vo(l:List Fd)(hz:bt l<=1073741824):VF Tryz.prog G fg [.agg [.p (fdL l)]] (.p (.int .i64 (aW l))):=by
 refine AC.go oD ?_
 have hll:=cU l
 have hfd:∀l,fdL l= .lst 3 (l.map Fd.cs):=λ_=>rfl
 simp-implicitDefEqProofs[iT]
 refine(vK G l (by omega)).use ?_
 by_cases hv:cw l=true
 case neg=>
  have:aW l=1:=if_neg hv
  have hv':cw l=false:=by simpa using hv
  simp-implicitDefEqProofs[hv',this]
 have hc:aW l=gP l 0 (l.drop 0):=if_pos hv
 rw[hc]
 simp-implicitDefEqProofs[hv]
 refine az (λi:Nat=>am 27 [(1,.ptr 0 1 0 0),(3,.p (.int .i64 i))]) (λ_=>[.row 1 [[.p (fdL l)]]]) (λi=>i<=l.length/\gP l 0 l=gP l i (l.drop i)) (λi=>l.length-i) 0 (by simp) (ab (by simp) (by simp[okO]) (by simp[below])) ?_
 rintro i ⟨hi,he⟩
 simp-implicitDefEqProofs[hfd]
 refine aY (λh=>?_) (λh=>?_)
 ·simp at h
  have hg:=Rv h
  have hd:=CV h
  simp-implicitDefEqProofs[]
  refine(MO G hg hz).use ?_
  have hrc:=ID l i l[i]
  by_cases h0:(fnW l i l[i]).code=0
  ·rw[if_pos h0] at hd
   simp-implicitDefEqProofs[h0,hrc]
   refine⟨i+1,⟨by omega,by rw[he,hd]⟩,by omega,?_⟩
   refine kz (m:=1) (by omega) (fH rfl rfl (by simp[okO,below])) (by simp[below,hfd,w1 (i:=i) (by omega)])
  ·rw[if_neg h0] at hd
   simp-implicitDefEqProofs[h0,hrc]
   rw[he,hd]
 ·simp at h
  have hie:i=l.length:=by omega
  subst hie
  rw[List.drop_length] at he
  simp-implicitDefEqProofs[]
  rw[he];rfl
end
section
variable (G:ay)
abbrev MS:=Int × Int
def oU(st:MS)(x:Sm × Nat):MS:=(IntKind.i64.wrap (st.1+1),if st.2<(x.2:Int) then(x.2:Int) else st.2)
def pq(l:List Fd)(st:MS):MS:=l.foldl (λst f=>(bT 1 f.body).foldl oU st) st
theorem uQ:∀(l:List (Sm × Nat)) (st:MS),0<=st.1->st.1+l.length<=1099511627776->(l.foldl oU st).1=st.1+l.length
 |[],st,_,_=>by simp
 |x::r,st,h0,h=>by
  have hw:IntKind.i64.wrap (st.1+1)=st.1+1:=ah (by omega) (by simp at h;omega)
  rw[SB,uQ r _ (by simp only[oU,hw];omega) (by simp only[oU,hw];simp at h;omega)]
  simp only[oU,hw,RN]
  omega
theorem vZ:∀(l:List Fd) (st:MS),0<=st.1->st.1+lz l<=1099511627776->(pq l st).1=st.1+lz l
 |[],st,_,_=>by simp[pq,lz]
 |f::r,st,h0,h=>by
  have ha:lz (f::r)=dK f.body+lz r:=by simp[lz]
  have hs:=uQ (bT 1 f.body) st h0 (by rw[jY];omega)
  rw[jY] at hs
  have:=vZ r ((bT 1 f.body).foldl oU st) (by omega) (by omega)
  simp only[pq,SB] at this⊢
  omega
theorem Eo{l:List Fd}{st:MS}{i:Nat}(h:i<l.length):pq (l.take (i+1)) st=(bT 1 l[i].body).foldl oU (pq (l.take i) st):=by
 rw[pq,aq h,List.foldl_append];rfl
def mG(p:PV):Vis MS where
 I:=λst=>[.row 1 [[.p p]],.row 1 [[.p (.int .i64 st.1)]],.row 1 [[.p (.int .i64 st.2)]]]
 n:=3
 F:=eQ
 caps:=[.ptr 1 1 0 0,.ptr 2 1 0 0]
 len:=λ_=>rfl
 ok:=λst=>by simp[okO,below]
 capsOk:=by simp[below]
theorem Cv(p:PV)(st:MS)(s:Sm)(d:Nat):AC Tryz.prog G eQ [.agg (s.cs.map .p),.p (.int .i64 d),.ptr 1 1 0 0,.ptr 2 1 0 0] ((mG p).I st) λx h=>x= .ret (.tup [])/\h=(mG p).I (oU st (s,d)):=by
 refine(mG p).trim G (AC.go sX ?_) (by simp[below])
 have hse:=s.cs_eq
 simp-implicitDefEqProofs[lI,hse,mG,oU]
theorem Hm(l:List Fd)(hl:bt l<=1073741824):VF Tryz.prog G jU [.agg [.p (fdL l)]] (.tup [.p (.int .i64 (lz l)),.p (.int .i64 (pq l (0,0)).2)]):=by
 refine AC.go vN ?_
 have hll:=cU l
 have hfl:∀l,fdL l= .lst 3 (l.map Fd.cs):=λ_=>rfl
 have hn:(pq l (0,0)).1=lz l:=by rw[vZ l (0,0) (by simp) (by simp only;have:=Bv l;omega)];simp
 simp-implicitDefEqProofs[ng,hfl]
 refine az (λi:Nat=>am 20 [(2,.ptr 1 1 0 0),(3,.ptr 2 1 0 0),(7,.p (fdL l)),(8,.p (.int .i64 l.length)),(9,.p (.int .i64 i))])
  (λi=>(mG (fdL l)).I (pq (l.take i) (0,0))) (λi=>i<=l.length) (λi=>l.length-i) 0 (by simp) ?_ ?_
 ·exact ab (h:=(mG (fdL l)).I (0,0)) (by simp) ((mG (fdL l)).ok _) (by simp[below,hfl,mG])
 intro i hil
 simp-implicitDefEqProofs[hfl]
 refine aY (λhc=>?_) (λhc=>?_)
 ·simp at hc
  have hg:=Rv hc
  have hks:=dr (RB hc)
  have hcs:l[i].cs=[.str l[i].name,aE l[i].params,smL l[i].body]:=rfl
  have hfz:l[i].sz=1+l[i].name.length+(l[i].params.length+(l[i].params.map List.length).sum)+aF l[i].body:=rfl
  have hI:=(KP G (mG (fdL l)) oU (λ_=>True) 1073741824 (by omega) (λst s d _ _=>⟨trivial,Cv G _ st s d⟩) (aF l[i].body+1) l[i].body (by omega) (by omega) 1 (by omega) (pq (l.take i) (0,0)) trivial).2
  have hlen:=(mG (fdL l)).len
  have h3:(mG (.lst 3 (l.map Fd.cs))).n=3:=rfl
  have hlen':∀st,((mG (.lst 3 (l.map Fd.cs))).I st).length=3:=λ_=>rfl
  simp-implicitDefEqProofs[hg,hcs,hlen']
  refine((mG (fdL l)).pre G hI [_] ⟨by simp,by simp,by simp[below,mG],trivial⟩).mono ?_
  rintro r h ⟨rfl,rfl⟩
  simp-implicitDefEqProofs[aa]
  refine⟨i+1,hc,by omega,?_⟩
  rw[Eo hc]
  refine(mG (fdL l)).same0 (s:=[_]) _ (by simp[mG]) ?_
  simp[below,hfl,mG,w1 (i:=i) (by omega)]
 ·simp at hc
  have hie:i=l.length:=by omega
  subst hie
  rw[RR]
  simp-implicitDefEqProofs[mG,hn]
theorem tm(hK:G de=some cX)(s:List UInt8)(hb:s.length<=140737488355328):VF Tryz.prog G bl [.p (.str s)] (.p (.bool (!aD s))):=by
 refine AC.go mM ?_
 simp-implicitDefEqProofs[gE]
 refine(nq G hK s hb).use ?_
 simp-implicitDefEqProofs[]
def Ei(L:List (List UInt8)):Int:=match L.findIdx? (λw=> !aD w) with|some i=>i|none=> -1
theorem Kj(L:List (List UInt8)):decide (0<=Ei L)= !(L.all aD):=by
 unfold Ei
 cases h:L.findIdx? (λx=> !aD x) with
 |none=>
  rw[Sg] at h
  have:L.all aD=true:=RA.2 λx hx=>by have:=h x hx;simpa using this
  simp[this]
 |some i=>
  rw[RQ] at h
  obtain⟨h1,h2,_⟩:=h
  have:L.all aD=false:=List.all_eq_false.2 ⟨_,RB h1,by simpa using h2⟩
  rw[this];simp
theorem Ix{L:List (List UInt8)}{n:Nat}(h:(L.map List.length).sum<=n):∀x∈L,x.length<=n:=by
 induction L with
 |nil=>intro x hx;cases hx
 |cons y r ih=>
  intro x hx
  simp only[Sb,List.sum_cons] at h
  rcases Sa.1 hx with rfl|hx
  ·omega
  ·exact ih (by omega) x hx
variable (hK:G de=some cX)
include hK
theorem DK(L:List (List UInt8))(hb:L.length<=1073741824)(hw:∀x∈L,x.length<=140737488355328):VF Tryz.prog G cN [.p (aE L),.fn (.func bl) []] (.p (.int .i64 (Ei L))):=by
 refine AC.go ke ?_
 have hsl:aE L= .lst 1 (L.map λw=>[.str w]):=rfl
 simp-implicitDefEqProofs[eV,hsl]
 refine az (λi:Nat=>am 19 [(0,.p (aE L)),(1,.fn (.func bl) []),(6,.p (aE L)),(7,.p (.int .i64 L.length)),(8,.p (.int .i64 i))]) (λ_=>[]) (λi=>i<=L.length/\∀w∈L.take i,aD w=true) (λi=>L.length-i) 0 (by simp) ?_ ?_
 ·exact ab (by simp) (by simp[okO]) (by simp[below,an,aE])
 ·intro i ⟨hi,hn⟩
  simp-implicitDefEqProofs[hsl]
  refine aY (λh1=>?_) (λh1=>?_)
  ·simp at h1
   have hg:=Rv h1
   simp-implicitDefEqProofs[hg]
   refine(tm G hK _ (hw _ (RB h1))).use ?_
   by_cases he:aD L[i]=true
   ·simp-implicitDefEqProofs[he]
    refine⟨i+1,⟨h1,λp hp=>?_⟩,by omega,ab (by simp) (by simp[okO]) ?_⟩
    ·rw[aq h1] at hp
     rcases RG.1 hp with hp|hp
     ·exact hn p hp
     ·rw[RL.1 hp];exact he
    ·simp[below,an,aE,w1 (i:=i) (by omega)]
   ·have hf:Ei L=i:=by
     have:L.findIdx? (λw=> !aD w)=some i:=by
      rw[RQ]
      exact⟨h1,by simpa using he,λj hj=>by have:=hn L[j] (List.mem_take_iff_getElem.2 ⟨j,by omega,rfl⟩);simpa using this⟩
     rw[Ei,this]
    simp-implicitDefEqProofs[he,hf]
  ·simp at h1
   rw[RF h1] at hn
   have hf:Ei L= -1:=by
    have:L.findIdx? (λw=> !aD w)=none:=by
     rw[Sg];intro x hx;simpa using hn x hx
    rw[Ei,this]
   simp-implicitDefEqProofs[hf]
theorem zq(L:List (List UInt8))(hb:L.length<=1073741824)(hw:∀x∈L,x.length<=140737488355328):VF Tryz.prog G bY [.p (aE L),.fn (.func bl) []] (.p (.bool (!L.all aD))):=by
 rw[←Kj]
 refine AC.go iF ?_
 simp-implicitDefEqProofs[dN]
 refine(DK G hK L hb hw).use ?_
 simp-implicitDefEqProofs[]
variable (hS:G bx=some [.tbl opK opV])
include hS
theorem uW(l:List Fd)(hl:bt l<=1073741824):VF Tryz.prog G fj [.agg [.p (fdL l)]] (.p (.bool (cw l))):=by
 refine AC.go oM ?_
 have hll:=cU l
 have hfl:∀l,fdL l= .lst 3 (l.map Fd.cs):=λ_=>rfl
 have hm:=Hm G l hl
 rw[hfl] at hm
 simp-implicitDefEqProofs[iP,hfl]
 refine(mQ G _ _ _).use ?_
 by_cases h1:inR l.length 1 4=true
 case neg=>simp-implicitDefEqProofs[h1,cw]
 simp-implicitDefEqProofs[h1]
 refine az (λi:Nat=>am 48 [(1,.ptr 0 1 0 0),(13,.p (fdL l)),(14,.p (.int .i64 l.length)),(15,.p (.int .i64 i))]) (λ_=>[.row 1 [[.p (.lst 3 (l.map Fd.cs))]]]) (λi=>i<=l.length/\(l.take i).all kb=true) (λi=>l.length-i) 0 (by simp) (ab (by simp) (by simp[okO]) (by simp[below,hfl])) ?_
 intro i ⟨hi,ha⟩
 simp-implicitDefEqProofs[hfl]
 refine aY (λh=>?_) (λh=>?_)
 ·simp at h
  have hg:=Rv h
  have hks:=dr (RB h)
  have hbadF:kb l[i]=false->cw l=false:=λhk'=>by simp only[cw,kD h hk',Bool.and_false,Bool.false_and]
  have hcs:l[i].cs=[.str l[i].name,aE l[i].params,smL l[i].body]:=rfl
  have hfz:l[i].sz=1+l[i].name.length+(l[i].params.length+(l[i].params.map List.length).sum)+aF l[i].body:=rfl
  have hokF:kb l[i]=(l[i].params.all aD&&aD l[i].name&&decide (l[i].params.length<=3)&&l[i].body.all (aB 4)):=rfl
  have hblk:=uf G 4 1 (λs hs=>by simpa using Jr G hK hS 4 (by omega) s hs) l[i].body (by omega)
  have hcon:=zq G hK l[i].params (by omega) (Ix (by omega))
  have hst:aE l[i].params= .lst 1 (l[i].params.map λw=>[.str w]):=rfl
  generalize l[i]=f at*
  rw[hst] at hcon
  simp-implicitDefEqProofs[hg,hcs,hst]
  refine(nq G hK _ (by omega)).use ?_
  by_cases k1:aD f.name=true
  case neg=>
   rw[hbadF (by rw[hokF];simp[k1])]
   simp-implicitDefEqProofs[k1]
  by_cases k2:f.params.length<=3
  case neg=>
   have k2':(3:Int)<f.params.length:=by omega
   rw[hbadF (by rw[hokF];simp[k2])]
   simp-implicitDefEqProofs[k1,k2']
  have k2':¬(3:Int)<f.params.length:=by omega
  simp-implicitDefEqProofs[k1,k2']
  refine hcon.use ?_
  by_cases k3:f.params.all aD=true
  case neg=>
   have k3':f.params.all aD=false:=by simpa using k3
   rw[hbadF (by rw[hokF,k3'];simp)]
   simp-implicitDefEqProofs[k3']
  simp only[k3]
  simp-implicitDefEqProofs[]
  refine hblk.use ?_
  by_cases k4:f.body.all (aB 4)=true
  case neg=>
   have k4':f.body.all (aB 4)=false:=by simpa using k4
   rw[hbadF (by rw[hokF,k4'];simp)]
   simp only[k4']
   simp-implicitDefEqProofs[]
  simp only[k4]
  simp-implicitDefEqProofs[]
  have hk:kb f=true:=by rw[hokF,k1,k3,k4];simp[k2]
  refine⟨i+1,⟨h,by rw[←RA,nz hg,ha,hk];rfl⟩,by omega,kz (m:=1) (by omega) (fH rfl rfl (by simp[okO,below])) (by simp[below,hfl,w1 (i:=i) (by omega)])⟩
 ·simp at h
  have h2:l.all kb=true:=fw h ha
  simp-implicitDefEqProofs[]
  refine hm.use ?_
  have hff:cw l=decide (lz l<=40):=by simp only[cw,h1,h2,Bool.true_and]
  simp-implicitDefEqProofs[hff]
  omega
end
section
variable (G:ay)
theorem Kz(l:List Fd)(s:List UInt8)(hl:l.length<=1073741824):VF Tryz.prog G kB [.agg [.p (fdL l)],.p (.str s)] (.p (.int .i64 (ixI (dJ l s)))):=by
 have hfl:∀l,fdL l= .lst 3 (l.map Fd.cs):=λ_=>rfl
 have bC:∀f:Fd,AC Tryz.prog G fI [.agg (f.cs.map .p),.ptr 1 1 0 0] [.row 1 [[.p (fdL l)]],.row 1 [[.p (.str s)]]] λx h=>x= .ret (.p (.bool (decide (f.name=s))))/\h=[.row 1 [[.p (fdL l)]],.row 1 [[.p (.str s)]]]:=by
  intro f
  have hcs:f.cs=[.str f.name,aE f.params,smL f.body]:=rfl
  refine AC.trim (AC.go zJ ?_) (by simp[below])
  simp-implicitDefEqProofs[pp,hcs]
 have idx:AC Tryz.prog G cD [.p (fdL l),.fn (.func fI) [.ptr 1 1 0 0]] [.row 1 [[.p (fdL l)]],.row 1 [[.p (.str s)]]] λx h=>x= .ret (.p (.int .i64 (ixI (dJ l s))))/\h=[.row 1 [[.p (fdL l)]],.row 1 [[.p (.str s)]]]:=by
  refine AC.go jA ?_
  simp-implicitDefEqProofs[ex,hfl]
  refine az (λi:Nat=>am 19 [(0,.p (fdL l)),(1,.fn (.func fI) [.ptr 1 1 0 0]),(7,.p (.int .i64 l.length)),(8,.p (.int .i64 i))]) (λ_=>[.row 1 [[.p (fdL l)]],.row 1 [[.p (.str s)]]]) (λi=>i<=l.length/\∀f∈l.take i,f.name≠s) (λi=>l.length-i) 0 (by simp) ?_ ?_
  ·exact ab (by simp) (by simp[okO,below]) (by simp[below,an,hfl])
  ·intro i ⟨hi,hn⟩
   simp-implicitDefEqProofs[hfl]
   refine aY (λh1=>?_) (λh1=>?_)
   ·simp at h1
    have hg:=Rv h1
    simp-implicitDefEqProofs[hg]
    refine(bC l[i]).mono ?_
    rintro r h ⟨rfl,rfl⟩
    by_cases he:l[i].name=s
    ·have hf:dJ l s=some i:=by
      rw[dJ,RQ]
      exact⟨h1,by simpa using he,λj hj=>by have:=hn l[j] (List.mem_take_iff_getElem.2 ⟨j,by omega,rfl⟩);simpa using this⟩
     simp-implicitDefEqProofs[aa,he,hf,ixI]
     exact hfl l
    ·simp-implicitDefEqProofs[aa,he]
     refine⟨i+1,⟨h1,λp hp=>?_⟩,by omega,ab (h:=[.row 1 [[.p (fdL l)]],.row 1 [[.p (.str s)]]]) (by simp) (by simp[okO,below]) (by simp[below,an,hfl,w1 (i:=i) (by omega)])⟩
     rw[aq h1] at hp
     rcases RG.1 hp with hp|hp
     ·exact hn p hp
     ·rw[RL.1 hp];exact he
   ·simp at h1
    rw[RF h1] at hn
    have hf:dJ l s=none:=by
     rw[dJ,Sg];intro x hx;simpa using hn x hx
    simp-implicitDefEqProofs[hf,ixI]
 refine AC.go Cx ?_
 simp-implicitDefEqProofs[uj]
 refine idx.mono ?_
 rintro r h ⟨rfl,rfl⟩
 simp-implicitDefEqProofs[aa]
structure GS where (gap:List AO) (m:Scp)
def mpE(m:Scp):List (PV × AV):=m.map λx=>(.str x.1,.p (.int .i64 x.2))
def scL:List GS->Nat
 |[]=>0
 |g::up=>scL up+g.gap.length+2
def upV:List GS->AV
 |[]=> .nilp
 |g::up=> .ptr (2+scL up+g.gap.length+1) 2 0 0
def scH:List GS->List AO
 |[]=>[]
 |g::up=>scH up++(g.gap++[.mp (mpE g.m),.row 2 [[.mp (2+scL up+g.gap.length),upV up]]])
theorem kC:∀ch:List GS,(scH ch).length=scL ch
 |[]=>rfl
 |g::up=>by simp only[scH,scL,RJ,kC up,RN,List.length_nil];omega
def cO(fns:List Fd)(k:Nat)(c:Int):AO:= .row 3 [[.p (fdL fns),.p (.int .i64 k),.p (.int .i64 c)]]
def CH(b0:AO)(fns:List Fd)(k:Nat)(c:Int)(ch:List GS):List AO:=b0::cO fns k c::scH ch
theorem gW(b0:AO)(fns:List Fd)(k:Nat)(c:Int)(ch:List GS):(CH b0 fns k c ch).length=2+scL ch:=by
 simp only[CH,RN,kC];omega
def yq:List GS->Prop
 |[]=>True
 |g::up=>(∀o∈g.gap,okO (2+scL up+g.gap.length) o)/\yq up
theorem jf:∀(ch:List GS) {n:Nat},2+scL ch<=n->below n (upV ch)
 |[],_,_=>by simp[upV,below]
 |g::up,n,h=>by simp only[scL] at h;simp only[upV,below];omega
theorem EO:∀(ch:List GS) {n:Nat},yq ch->2+scL ch<=n->∀o∈scH ch,okO n o
 |[],_,_,_,o,ho=>by cases ho
 |g::up,n,⟨h1,h2⟩,hn,o,ho=>by
  simp only[scL] at hn
  rw[scH] at ho
  rcases RG.1 ho with h|h
  ·exact EO up h2 (by omega) o h
  ·rcases RG.1 h with h|h
   ·exact rv (by omega) (h1 o h)
   ·simp only[Sa,List.not_mem_nil,or_false] at h
    rcases h with rfl|rfl
    ·intro e he
     obtain⟨x,_,rfl⟩:=RP.1 he
     simp[below]
    ·intro e he
     rw[RL.1 he]
     exact⟨by simp only[below];omega,jf up (by omega),trivial⟩
theorem Cw{b0:AO}{fns:List Fd}{k:Nat}{c:Int}{ch:List GS}(hb:okO 0 b0)(hs:yq ch){n:Nat}(hn:2+scL ch<=n):∀o∈CH b0 fns k c ch,okO n o:=
 al (cM hb) (al (by intro e he;rw[RL.1 he];simp[below]) (EO ch hs hn))
theorem rt(s:List UInt8):∀m:Scp,gq (.str s) (mpE m)=some ((gZ m s).map λn=>AV.p (.int .i64 n))
 |[]=>rfl
 |x::r=>by
  have ih:=rt s r
  by_cases h:x.1=s
  ·simp[mpE,gq,keq,h,gZ]
  ·have h':¬s=x.1:=λe=>h e.symm
   simp only[mpE,Sb,gq,keq,h',decide_false]
   simp only[mpE] at ih
   rw[ih];simp[gZ,h]
theorem ye(s:List UInt8)(n:Nat):∀m:Scp,jt (.str s) (.p (.int .i64 n)) (mpE m)=some (mpE (iY m s n))
 |[]=>rfl
 |x::r=>by
  have ih:=ye s n r
  by_cases h:x.1=s
  ·simp[mpE,jt,keq,h,iY]
  ·have h':¬s=x.1:=λe=>h e.symm
   simp only[mpE,Sb,jt,keq,h',decide_false]
   simp only[mpE] at ih
   rw[ih];simp[iY,h]
abbrev sco(ch:List GS):List Scp:=ch.map GS.m
theorem IT:∀(pre:List GS) (g:GS) (up:List GS),(scH (pre++g::up))[scL up+g.gap.length]?=some (.mp (mpE g.m))/\(scH (pre++g::up))[scL up+g.gap.length+1]?=some (.row 2 [[.mp (2+scL up+g.gap.length),upV up]])
 |[],g,up=>by
  have hl:(scH up++g.gap).length=scL up+g.gap.length:=by rw[RJ,kC]
  have e:scH (g::up)=(scH up++g.gap)++[.mp (mpE g.m),.row 2 [[.mp (2+scL up+g.gap.length),upV up]]]:=by rw[scH,RT]
  rw[List.nil_append,e]
  exact⟨by rw[←hl,RI (RC _)];simp,by rw[←hl,RI (by omega)];simp⟩
 |p::pre,g,up=>by
  obtain⟨h1,h2⟩:=IT pre g up
  have hm1:=(Ry.1 h1).1
  have hm2:=(Ry.1 h2).1
  rw[Sh,scH]
  exact⟨by rw[Rz hm1];exact h1,by rw[Rz hm2];exact h2⟩
theorem Ee(ch:List GS):(upV ch).isCell=true:=by cases ch<;>rfl
theorem GE(ch:List GS):(upV ch).cells=[upV ch]:=by cases ch<;>rfl
attribute [simp ↓] Ee GE
theorem Bd(b0:AO)(fns:List Fd)(k:Nat)(c e:Int)(r:List AO):AC Tryz.prog G cd [.ptr 1 3 0 0,.p (.int .i64 e)] (b0::cO fns k c::r) λx h=>x= .ret (.tup [])/\h=b0::cO fns k (fl c e)::r:=by
 refine AC.go oP ?_
 by_cases h0:c=0
 ·simp-implicitDefEqProofs[fp,cO,h0,fl]
 ·simp-implicitDefEqProofs[fp,cO,h0,fl]
theorem vu(up:AV)(hu:up= .nilp\/∃i,up= .ptr i 2 0 0)(h:List AO):AC Tryz.prog G cR [up] h λx h'=>x= .ret (.ptr (h.length+1) 2 0 0)/\h'=h++[.mp [],.row 2 [[.mp h.length,up]]]:=by
 refine AC.go sA ?_
 rcases hu with rfl|⟨i,rfl⟩
 ·simp-implicitDefEqProofs[gv]
 ·simp-implicitDefEqProofs[gv]
theorem Io(b0 c0:AO)(ch:List GS)(rest:List AO)(s:List UInt8):AC Tryz.prog G bX [upV ch,.p (.str s)] (b0::c0::(scH ch++rest)) λx h=>x= .ret (.tup [.p (.int .i64 (((ga (sco ch) s).getD 0:Nat):Int)),.p (.bool (ga (sco ch) s).isSome)])/\h=b0::c0::(scH ch++rest):=by
 refine AC.goB rJ λhb=>?_
 simp-implicitDefEqProofs[kA]
 have hHl:(b0::c0::(scH ch++rest)).length=2+scL ch+rest.length:=by simp only[RN,RJ,kC];omega
 refine az (λr:List GS=>am 25 [(0,upV r),(1,.p (.str s))]) (λ_=>b0::c0::(scH ch++rest)) (λr=>∃pre,ch=pre++r/\ga (sco ch) s=ga (sco r) s) (λr=>r.length) ch ⟨[],rfl,rfl⟩ ?_ ?_
 ·refine nO (by simp) hb ?_
  rw[hHl]
  exact⟨⟨jf ch (by omega),by simp⟩,⟨by simp,by simp⟩,trivial⟩
 rintro r ⟨pre,e1,e2⟩
 cases r with
 |nil=>
  rw[e2]
  simp-implicitDefEqProofs[upV,ga]
 |cons g up=>
  obtain⟨a1,a2⟩:=IT pre g up
  rw[←e1] at a1 a2
  have b1:=(Ry.1 a1).1
  have b2:=(Ry.1 a2).1
  have l1:(b0::c0::(scH ch++rest))[2+scL up+g.gap.length]?=some (.mp (mpE g.m)):=by
   rw[show 2+scL up+g.gap.length=(scL up+g.gap.length)+1+1 by omega,So,So,Rz b1,a1]
  have l2:(b0::c0::(scH ch++rest))[2+scL up+g.gap.length+1]?=some (.row 2 [[.mp (2+scL up+g.gap.length),upV up]]):=by
   rw[show 2+scL up+g.gap.length+1=(scL up+g.gap.length+1)+1+1 by omega,So,So,Rz b2,a2]
  have hmg:=rt s g.m
  have hle:=kC ch
  rw[e2]
  generalize hH:b0::c0::(scH ch++rest)=H at*
  have hup:upV (g::up)= .ptr (2+scL up+g.gap.length+1) 2 0 0:=rfl
  cases hh:gZ g.m s with
  |some n=>
   rw[hh] at hmg
   simp-implicitDefEqProofs[hup,l1,l2,hmg,ga,hh]
  |none=>
   rw[hh] at hmg
   simp-implicitDefEqProofs[hup,l1,l2,hmg,ga,hh]
   refine⟨up,⟨⟨pre++[g],by rw[e1];simp⟩,rfl⟩,by simp,?_⟩
   refine nO ?_ hb ?_
   ·rw[hHl,kC];omega
   ·refine⟨⟨jf up ?_,?_⟩,⟨by simp,by simp⟩,trivial⟩
    ·rw[hHl]
     have:=congrArg List.length e1
     have h3:=(Ry.1 l2).1
     rw[hHl] at h3
     omega
    ·simp
end
section
variable (G:ay)
theorem MG{f:FuncId}{args:List AV}{h h1:List AO}{v:AV}(H:AC Tryz.prog G f args h λx h'=>x= .ret v/\∃l,h'=h1++l)(hl:h1.length=h.length)(ho:∀o∈h1,okO h.length o)(hv:below h.length v):
 AC Tryz.prog G f args h λx h'=>x= .ret v/\h'=h1:=by
 refine H.wk (λt v h ⟨e,_⟩=>by cases e) ?_
 rintro u h' ⟨e,l,rfl⟩
 cases e
 refine⟨v,h1,yf (n:=h.length) (RC _) (fH ?_ hl ho) ?_,rfl,rfl⟩
 ·rw[←hl,List.take_left'];rfl
 ·simp[Fgt,hv]
theorem MU{f:FuncId}{args:List AV}{b0:AO}{fns:List Fd}{k:Nat}{c c':Int}{ch ch':List GS}{v:AV}(H:AC Tryz.prog G f args (CH b0 fns k c ch) λx h=>x= .ret v/\h=CH b0 fns k c' ch')(hb:okO 0 b0)(hs:yq ch)(hl:scL ch'=scL ch)(rest:List AO)(ha:an (2+scL ch) args):
 AC Tryz.prog G f args (CH b0 fns k c ch++rest) λx h=>x= .ret v/\h=CH b0 fns k c' ch'++rest:=by
 refine(AC.pre H rest (by rw[gW];exact ha) (by rw[gW];exact Cw hb hs (RC _)) ?_).mono ?_
 ·rintro x h ⟨_,rfl⟩;rw[gW,gW,hl]
 ·rintro x h ⟨h1,⟨rfl,rfl⟩,rfl⟩
  exact⟨rfl,rfl⟩
def bxs(ch:List GS)(q:List AV):List AO:=[.row 1 [[.ptr 1 3 0 0]],.row 4 [q],.row 1 [[upV ch]]]
def ow(b0:AO)(fns:List Fd)(k:Nat)(ch:List GS)(q:List PV)(hb:okO 0 b0)(hs:yq ch):Vis Int where
 I:=λc=>CH b0 fns k c ch++bxs ch (q.map .p)
 n:=2+scL ch+3
 F:=bH
 caps:=[.ptr (2+scL ch+2) 1 0 0,.ptr (2+scL ch) 1 0 0]
 len:=λc=>by rw[RJ,gW];rfl
 ok:=λc o ho=>by
  rcases RG.1 ho with h|h
  ·exact Cw hb hs (by omega) o h
  ·simp only[bxs,Sa,List.not_mem_nil,or_false] at h
   rcases h with rfl|rfl|rfl
   ·intro e he;rw[RL.1 he];exact⟨by simp only[below];omega,trivial⟩
   ·intro e he;rw[RL.1 he];exact aw (SD _) _ (by simp)
   ·intro e he;rw[RL.1 he];exact⟨jf ch (by omega),trivial⟩
 capsOk:=by simp[below]
def eH(b0:AO)(fns:List Fd)(k:Nat)(ch:List GS)(q:List PV)(e:Ex)(c:Int):List AO:=b0::cO fns k c::(scH ch++(bxs ch (q.map .p)++[.row 4 [[.p (.int .i64 e.op),.p (.int .i64 e.n),.p (.str e.name),.p (exL e.kids)]]]))
section
variable {b0:AO} {fns:List Fd} {k:Nat} {ch:List GS} {q:List PV} {e:Ex} {c:Int}
theorem eH_eq{hb:okO 0 b0}{hs:yq ch}:(ow b0 fns k ch q hb hs).I c++[.row 4 [[.p (.int .i64 e.op),.p (.int .i64 e.n),.p (.str e.name),.p (exL e.kids)]]]=eH b0 fns k ch q e c:=by
 simp[ow,eH,CH]
theorem Mg:(eH b0 fns k ch q e c)[1]?=some (.row 3 [[.p (fdL fns),.p (.int .i64 k),.p (.int .i64 c)]]):=rfl
theorem Ik(i:Nat):(eH b0 fns k ch q e c)[2+scL ch+i]?=(bxs ch (q.map .p)++[.row 4 [[.p (.int .i64 e.op),.p (.int .i64 e.n),.p (.str e.name),.p (exL e.kids)]]])[i]?:=by
 rw[eH,show 2+scL ch+i=(scL ch+i)+1+1 by omega,So,So]
 exact LC (kC ch) i
theorem Hc:(eH b0 fns k ch q e c)[2+scL ch]?=some (.row 1 [[.ptr 1 3 0 0]]):=Ik 0
theorem Pd:(eH b0 fns k ch q e c)[2+scL ch+2]?=some (.row 1 [[upV ch]]):=Ik 2
theorem Jw:(eH b0 fns k ch q e c)[2+scL ch+3]?=some (.row 4 [[.p (.int .i64 e.op),.p (.int .i64 e.n),.p (.str e.name),.p (exL e.kids)]]):=Ik 3
end
theorem Kw{fns:List Fd}{s:List UInt8}{j:Nat}(h:dJ fns s=some j):j<fns.length:=by
 rw[dJ,RQ] at h;exact h.1
theorem Kf(b0:AO){fns:List Fd}{k:Nat}(hf:fns.length<=1073741824)(hk:k<=fns.length)(ch:List GS)(q:List PV)(hb:okO 0 b0)(hs:yq ch)(c:Int)(e:Ex)(he:e.sz<=1073741824):
 AC Tryz.prog G bH (.agg (e.cs.map .p)::(ow b0 fns k ch q hb hs).caps) ((ow b0 fns k ch q hb hs).I c) λx h=>x= .ret (.tup [])/\h=(ow b0 fns k ch q hb hs).I (fU fns k (sco ch) c e):=by
 refine(ow b0 fns k ch q hb hs).trim G (AC.go mL ?_) (by simp[below])
 have hec:=e.cs_eq
 have hlen:((ow b0 fns k ch q hb hs).I c).length=2+scL ch+3:=(ow b0 fns k ch q hb hs).len c
 have hcaps:(ow b0 fns k ch q hb hs).caps=[.ptr (2+scL ch+2) 1 0 0,.ptr (2+scL ch) 1 0 0]:=rfl
 have fin:∀c',(∃l,eH b0 fns k ch q e c'=(ow b0 fns k ch q hb hs).I c'++l):=λc'=>⟨_,eH_eq.symm⟩
 have hfail:∀n,AC Tryz.prog G cd [.ptr 1 3 0 0,.p (.int .i64 n)] (eH b0 fns k ch q e c) λx h=>x= .ret (.tup [])/\h=eH b0 fns k ch q e (fl c n):=λn=>Bd G b0 fns k c n _
 have hkl:=aP e.kids
 have hsz:=e.sz_eq
 rw[hcaps]
 simp-implicitDefEqProofs[gG,hec,hlen]
 rw[eH_eq]
 generalize hV:(ow b0 fns k ch q hb hs).I=VI at fin⊢
 by_cases o2:e.op=2
 ·have hfind:AC Tryz.prog G bX [upV ch,.p (.str e.name)] (eH b0 fns k ch q e c) λx h=>x= .ret (.tup [.p (.int .i64 (((ga (sco ch) e.name).getD 0:Nat):Int)),.p (.bool (ga (sco ch) e.name).isSome)])/\h=eH b0 fns k ch q e c:=Io G b0 (cO fns k c) ch _ e.name
  simp-implicitDefEqProofs[o2,Hc,Pd,Jw,Mg]
  refine hfind.mono ?_
  rintro r h ⟨rfl,rfl⟩
  cases hfs:ga (sco ch) e.name with
  |some n=>
   have hv:fU fns k (sco ch) c e=c:=by simp[fU,o2,hfs]
   rw[hv]
   simp-implicitDefEqProofs[aa]
   exact fin c
  |none=>
   have hv:fU fns k (sco ch) c e=fl c 3:=by simp[fU,o2,hfs]
   rw[hv]
   simp-implicitDefEqProofs[aa,Hc]
   refine(hfail 3).mono ?_
   rintro r h ⟨rfl,rfl⟩
   simp-implicitDefEqProofs[aa]
   exact fin _
 by_cases o13:e.op=13
 ·have hfl:fdL fns= .lst 3 (fns.map Fd.cs):=rfl
  have hfk:fdL (fns.take k)= .lst 3 ((fns.map Fd.cs).take k):=by rw[←List.map_take];rfl
  have hxl:exL e.kids= .lst 4 (e.kids.map Ex.cs):=rfl
  have hAt:=Kz G (fns.take k) e.name (by rw[RZ];omega)
  rw[hfk] at hAt
  simp-implicitDefEqProofs[o13,Hc,Pd,Jw,Mg,hfl,hk]
  refine hAt.use ?_
  cases hfa:dJ (fns.take k) e.name with
  |none=>
   have hv:fU fns k (sco ch) c e=fl c 4:=by simp[fU,o13,hfa]
   rw[hv]
   simp-implicitDefEqProofs[ixI,Hc]
   refine(hfail 4).mono ?_
   rintro r h ⟨rfl,rfl⟩
   simp-implicitDefEqProofs[aa]
   exact fin _
  |some j=>
   have hj:=Kw hfa
   rw[RZ] at hj
   have hjl:j<fns.length:=by omega
   have hg:=Rv hjl
   have hjn:¬(j:Int)<0:=by omega
   have hcs:fns[j].cs=[.str fns[j].name,aE fns[j].params,smL fns[j].body]:=rfl
   have hst:aE fns[j].params= .lst 1 (fns[j].params.map λw=>[.str w]):=rfl
   have hpn:Cn fns j=fns[j].params.length:=by simp[Cn,hg]
   by_cases hp:fns[j].params.length=e.kids.length
   ·have hv:fU fns k (sco ch) c e=c:=by simp[fU,o13,hfa,hpn,hp]
    rw[hv]
    simp-implicitDefEqProofs[ixI,Hc,Mg,Jw,hjn,hfl,hg,hcs,hst,hxl,hp]
    exact fin _
   ·have hv:fU fns k (sco ch) c e=fl c 5:=by simp[fU,o13,hfa,hpn,hp]
    have hp':¬(fns[j].params.length:Int)=(e.kids.length:Int):=by omega
    rw[hv]
    simp-implicitDefEqProofs[ixI,Hc,Mg,Jw,hjn,hfl,hg,hcs,hst,hxl,hp']
    refine(hfail 5).mono ?_
    rintro r h ⟨rfl,rfl⟩
    simp-implicitDefEqProofs[aa]
    exact fin _
 ·have hv:fU fns k (sco ch) c e=c:=by simp[fU,o2,o13]
  rw[hv]
  simp-implicitDefEqProofs[o2,o13,Jw]
  exact fin _
theorem Mu(ch:List GS):upV ch= .nilp\/∃i,upV ch= .ptr i 2 0 0:=by
 cases ch with
 |nil=>exact .inl rfl
 |cons g up=>exact .inr ⟨_,rfl⟩
theorem MW(b0:AO){fns:List Fd}{k:Nat}(hf:fns.length<=1073741824)(hk:k<=fns.length)(ch:List GS)(hb:okO 0 b0)(hs:yq ch)(c:Int)(e:Ex)(he:e.sz<=1073741824):
 AC Tryz.prog G dc [.ptr 1 3 0 0,.agg (e.cs.map .p),upV ch] (CH b0 fns k c ch) λx h=>x= .ret (.tup [])/\h=CH b0 fns k (e.pre.foldl (fU fns k (sco ch)) c) ch:=by
 refine MG G (h:=CH b0 fns k c ch) (AC.go oz ?_) (by rw[gW,gW]) (by rw[gW];exact Cw hb hs (RC _)) (by simp[below])
 have hec:=e.cs_eq
 have hlen:(CH b0 fns k c ch).length=2+scL ch:=gW _ _ _ _ _
 have hI:=(Mr G (ow b0 fns k ch e.cs hb hs) (fU fns k (sco ch)) (λ_=>True) 1073741824 (by omega) (λst x _ hx=>⟨trivial,Kf G b0 hf hk ch e.cs hb hs st x hx⟩) (e.sz+1) e (by omega) he c trivial).2
 have hcaps:(ow b0 fns k ch e.cs hb hs).caps=[.ptr (2+scL ch+2) 1 0 0,.ptr (2+scL ch) 1 0 0]:=rfl
 have hF:(ow b0 fns k ch e.cs hb hs).F=bH:=rfl
 have hVI:(ow b0 fns k ch e.cs hb hs).I c=CH b0 fns k c ch++[.row 1 [[.ptr 1 3 0 0]],.row 4 [[.p (.int .i64 e.op),.p (.int .i64 e.n),.p (.str e.name),.p (exL e.kids)]],.row 1 [[upV ch]]]:=by simp[ow,bxs,hec]
 rw[hcaps,hF,hVI,hec] at hI
 have hup:=Mu ch
 generalize upV ch=u at hI hup⊢
 rcases hup with rfl|⟨i,rfl⟩
 ·simp-implicitDefEqProofs[fc,hec,hlen]
  refine hI.mono ?_
  rintro r h ⟨rfl,rfl⟩
  simp-implicitDefEqProofs[aa]
  exact⟨_,rfl⟩
 ·simp-implicitDefEqProofs[fc,hec,hlen]
  refine hI.mono ?_
  rintro r h ⟨rfl,rfl⟩
  simp-implicitDefEqProofs[aa]
  exact⟨_,rfl⟩
end
section
theorem nQ:AK.whole er=FK.ak eF:=rfl
theorem BS(fns:List Fd)(k:Nat):∀(a b:List Sm) (m:Scp) (up:List Scp) (c:Int),gA fns k (a++b) m up c=gA fns k b (gA fns k a m up c).1 up (gA fns k a m up c).2
 |[],b,m,up,c=>rfl
 |s::r,b,m,up,c=>by rw[Sh,gA,gA,BS fns k r]
theorem FQ{fns:List Fd}{k:Nat}{l:List Sm}{m:Scp}{up:List Scp}{c:Int}{i:Nat}(h:i<l.length):gA fns k (l.take (i+1)) m up c=icS fns k l[i] (gA fns k (l.take i) m up c).1 up (gA fns k (l.take i) m up c).2:=by
 rw[aq h,BS];rfl
def AX(b0:AO)(fns:List Fd)(k:Nat)(up:List GS)(gap:List AO)(c:Int):List AO:=b0::cO fns k c::(scH up++gap)
theorem NI(b0:AO)(fns:List Fd)(k:Nat)(up:List GS)(gap:List AO)(c:Int):(AX b0 fns k up gap c).length=2+scL up+gap.length:=by
 simp only[AX,RN,RJ,kC];omega
theorem IR(b0:AO)(fns:List Fd)(k:Nat)(up:List GS)(gap:List AO)(m:Scp)(c:Int)(rest:List AO):CH b0 fns k c (⟨gap,m⟩::up)++rest=AX b0 fns k up gap c++(.mp (mpE m):: .row 2 [[.mp (2+scL up+gap.length),upV up]]::rest):=by
 simp[CH,AX,scH]
theorem Ie(b0:AO)(fns:List Fd)(k:Nat)(up:List GS)(gap:List AO)(m:Scp)(c:Int):CH b0 fns k c (⟨gap,m⟩::up)=AX b0 fns k up gap c++[.mp (mpE m),.row 2 [[.mp (2+scL up+gap.length),upV up]]]:=by
 have:=IR b0 fns k up gap m c []
 rwa[Sd] at this
theorem Ps{b0:AO}{fns:List Fd}{k:Nat}{up:List GS}{gap:List AO}(hb:okO 0 b0)(hs:yq up)(hg:∀o∈gap,okO (2+scL up+gap.length) o)(c:Int):∀o∈AX b0 fns k up gap c,okO (2+scL up+gap.length) o:=by
 refine al (cM hb) (al (by intro e he;rw[RL.1 he];simp[below]) ?_)
 intro o ho
 rcases RG.1 ho with h|h
 ·exact EO up hs (by omega) o h
 ·exact hg o h
theorem uM{kk L n:Nat}{A r s:List AO}{l l1:List (Nat × AV)}(hl:A.length=L)(hk:kk<=L+r.length)(ha:∀o∈A,okO L o)(hr:∀o∈r,okO (L+r.length) o)(H:FgA (L+r.length) l l1):Wk kk (am n l) (A++(r++s)) (am n l1) (A++r):=by
 have hll:(A++r).length=L+r.length:=by rw[RJ,hl]
 refine kz (m:=L+r.length) hk (fH ?_ hll ?_) H
 ·rw[←RT,←hll,List.take_left'];rfl
 ·intro o ho
  rcases RG.1 ho with h|h
  ·exact rv (by omega) (ha o h)
  ·exact hr o h
theorem CB(m:Scp)(n:Nat):okO n (.mp (mpE m)):=by
 intro e he
 obtain⟨x,_,rfl⟩:=RP.1 he
 simp[below]
variable (G:ay)
theorem Mo(b0:AO){fns:List Fd}{k:Nat}(hf:fns.length<=1073741824)(hk:k<=fns.length)(hb:okO 0 b0):∀(N:Nat) (l:List Sm),aF l<N->aF l<=1073741824->∀(gap:List AO) (m:Scp) (up:List GS) (c:Int),yq (⟨gap,m⟩::up)->
 AC Tryz.prog G bq [.ptr 1 3 0 0,.p (smL l),upV (⟨gap,m⟩::up)] (CH b0 fns k c (⟨gap,m⟩::up)) λx h=>x= .ret (.tup [])/\h=CH b0 fns k (gA fns k l m (sco up) c).2 (⟨gap,(gA fns k l m (sco up) c).1⟩::up):=by
 intro N
 induction N with
 |zero=>intro l h;omega
 |succ N ih=>
  intro l hl hz gap m up c hs
  have hll:=bi l
  have hsl:∀l,smL l= .lst 5 (l.map Sm.cs):=λ_=>rfl
  have hs':∀m,yq (⟨gap,m⟩::up):=λ_=>hs
  have hscl:∀m,scL (⟨gap,m⟩::up)=scL up+gap.length+2:=λ_=>rfl
  refine MG G (AC.goK nN nQ ?_) (by rw[gW,gW];rfl) (by rw[gW];exact Cw hb (hs' _) (by rw[hscl];exact Nat.le_of_eq (by rfl))) (by simp[below])
  have hup:upV (⟨gap,m⟩::up)= .ptr (2+scL up+gap.length+1) 2 0 0:=rfl
  have hlenC:∀c m,(CH b0 fns k c (⟨gap,m⟩::up)).length=2+scL up+gap.length+2:=λc m=>by rw[gW,hscl];omega
  have hokC:∀c m,∀o∈CH b0 fns k c (⟨gap,m⟩::up),okO (2+scL up+gap.length+2) o:=λc m=>Cw hb (hs' m) (by rw[hscl];omega)
  have hlenA:∀c,(AX b0 fns k up gap c).length=2+scL up+gap.length:=NI b0 fns k up gap
  simp-implicitDefEqProofs[er,eF,hsl,hup]
  refine az (λi:Nat=>am 89 [(0,.ptr 1 3 0 0),(2,.ptr (2+scL up+gap.length+1) 2 0 0),(14,.p (smL l)),(15,.p (.int .i64 l.length)),(16,.p (.int .i64 i))])
   (λi=>CH b0 fns k (gA fns k (l.take i) m (sco up) c).2 (⟨gap,(gA fns k (l.take i) m (sco up) c).1⟩::up)) (λi=>i<=l.length) (λi=>l.length-i) 0 (by simp) ?_ ?_
  ·refine ab (h:=CH b0 fns k c (⟨gap,m⟩::up)) (RC _) (by rw[hlenC];exact hokC _ _) ?_
   rw[hlenC]
   simp[below,hsl]
  intro i hi
  have eT:=λh=>FQ (fns:=fns) (k:=k) (l:=l) (m:=m) (up:=sco up) (c:=c) (i:=i) h
  rw[hlenC]
  generalize hst:gA fns k (l.take i) m (sco up) c=st at eT⊢
  obtain⟨mi,ci⟩:=st
  simp only at eT⊢
  simp-implicitDefEqProofs[hsl]
  refine aY (λh=>?_) (λh=>?_)
  ·simp at h
   have hg:=Rv h
   have hse:=l[i].cs_eq
   have hsz:=l[i].sz_eq
   have hks:=aQ (RB h)
   have eT:=eT h
   generalize l[i]=s at hg hse hsz hks eT
   obtain⟨o,nme,a,bd,el⟩:=s
   simp only[Sm.op,Sm.name,Sm.args,Sm.body,Sm.els] at hse hsz
   have hxl:exL a= .lst 4 (a.map Ex.cs):=rfl
   have hal:=aP a
   simp-implicitDefEqProofs[hg,hse,hlenC,hxl]
   have hexpr:∀(c:Int) (e:Ex) (rest:List AO),e.sz<=1073741824->AC Tryz.prog G dc [.ptr 1 3 0 0,.agg (e.cs.map .p),.ptr (2+scL up+gap.length+1) 2 0 0] (AX b0 fns k up gap c++(.mp (mpE mi):: .row 2 [[.mp (2+scL up+gap.length),upV up]]::rest)) λx h=>x= .ret (.tup [])/\h=AX b0 fns k up gap (e.pre.foldl (fU fns k (mi::sco up)) c)++(.mp (mpE mi):: .row 2 [[.mp (2+scL up+gap.length),upV up]]::rest):=by
    intro c e rest he
    have:=MU G (MW G b0 hf hk (⟨gap,mi⟩::up) hb (hs' mi) c e he) hb (hs' mi) rfl rest (by refine⟨by simp only[below];omega,by simp,jf _ (RC _),trivial⟩)
    simp only[IR] at this
    exact this
   have hfail:∀(c e:Int) (t:List AO),AC Tryz.prog G cd [.ptr 1 3 0 0,.p (.int .i64 e)] (AX b0 fns k up gap c++t) λx h=>x= .ret (.tup [])/\h=AX b0 fns k up gap (fl c e)++t:=λc e t=>Bd G b0 fns k c e _
   have hfind:∀(c:Int) (m:Scp) (s:List UInt8) (rest:List AO),AC Tryz.prog G bX [.ptr (2+scL up+gap.length+1) 2 0 0,.p (.str s)] (AX b0 fns k up gap c++(.mp (mpE m):: .row 2 [[.mp (2+scL up+gap.length),upV up]]::rest)) λx h=>x= .ret (.tup [.p (.int .i64 (((ga (m::sco up) s).getD 0:Nat):Int)),.p (.bool (ga (m::sco up) s).isSome)])/\h=AX b0 fns k up gap c++(.mp (mpE m):: .row 2 [[.mp (2+scL up+gap.length),upV up]]::rest):=by
    intro c m s rest
    have:=Io G b0 (cO fns k c) (⟨gap,m⟩::up) rest s
    have e:b0::cO fns k c::(scH (⟨gap,m⟩::up)++rest)=CH b0 fns k c (⟨gap,m⟩::up)++rest:=rfl
    rw[e,IR] at this
    exact this
   have hblk:∀(c:Int) (m2:Scp) (l':List Sm) (gap2:List AO),aF l'<N->aF l'<=1073741824->(∀o∈gap2,okO (2+scL up+gap.length+2+gap2.length) o)->
    AC Tryz.prog G bq [.ptr 1 3 0 0,.p (smL l'),.ptr (2+scL up+gap.length+2+gap2.length+1) 2 0 0] (AX b0 fns k up gap c++(.mp (mpE m2):: .row 2 [[.mp (2+scL up+gap.length),upV up]]::(gap2++[.mp [],.row 2 [[.mp (2+scL up+gap.length+2+gap2.length),.ptr (2+scL up+gap.length+1) 2 0 0]]])))
     λx h=>x= .ret (.tup [])/\∃m',h=AX b0 fns k up gap (gA fns k l' [] (m2::sco up) c).2++(.mp (mpE m2):: .row 2 [[.mp (2+scL up+gap.length),upV up]]::(gap2++[.mp (mpE m'),.row 2 [[.mp (2+scL up+gap.length+2+gap2.length),.ptr (2+scL up+gap.length+1) 2 0 0]]])):=by
    intro c m2 l' gap2 h1 h2 h3
    have e1:2+scL (⟨gap,m2⟩::up)+gap2.length=2+scL up+gap.length+2+gap2.length:=by rw[hscl];omega
    have e2:∀c m',CH b0 fns k c (⟨gap2,m'⟩::⟨gap,m2⟩::up)=AX b0 fns k up gap c++(.mp (mpE m2):: .row 2 [[.mp (2+scL up+gap.length),upV up]]::(gap2++[.mp (mpE m'),.row 2 [[.mp (2+scL up+gap.length+2+gap2.length),.ptr (2+scL up+gap.length+1) 2 0 0]]])):=by
     intro c m'
     rw[←e1]
     simp[CH,AX,scH,upV]
    have:=ih l' h1 h2 gap2 [] (⟨gap,m2⟩::up) c ⟨by rw[e1];exact h3,hs' m2⟩
    rw[show upV (⟨gap2,[]⟩::⟨gap,m2⟩::up)= .ptr (2+scL up+gap.length+2+gap2.length+1) 2 0 0 by rw[←e1];rfl] at this
    rw[e2] at this
    refine this.mono ?_
    rintro x h ⟨hx,hh⟩
    exact⟨hx,(gA fns k l' [] (sco (⟨gap,m2⟩::up)) c).1,by rw[hh,e2];rfl⟩
   rw[Ie b0 fns k up gap mi ci,RT]
   simp only[Sh,List.nil_append]
   have hokA:=Ps (fns:=fns) (k:=k) hb hs.2 hs.1
   generalize hL:2+scL up+gap.length=L at hexpr hfind hblk hlenA hlenC hokC hokA⊢
   have hR:okO (L+2) (.row 2 [[.mp L,upV up]]):=by
    intro e he;rw[RL.1 he]
    exact⟨by simp only[below];omega,jf up (by omega),trivial⟩
   have hX:okO 0 (.row 5 [[AV.p (.int .i64 o),.p (.str nme),.p (.lst 4 (a.map Ex.cs)),.p (smL bd),.p (smL el)]]):=by simp[okO]
   have ok3:∀(m:Scp),∀x∈[AO.mp (mpE m),.row 2 [[.mp L,upV up]],.row 5 [[AV.p (.int .i64 o),.p (.str nme),.p (.lst 4 (a.map Ex.cs)),.p (smL bd),.p (smL el)]]],okO (L+3) x:=λm=>
    al (CB _ _) (al (rv (by omega) hR) (al (cM hX) ee))
   refine az (λj:Nat=>am 89 [(0,.ptr 1 3 0 0),(2,.ptr (L+1) 2 0 0),(7,.ptr (L+2) 5 0 0),(14,.p (smL l)),(15,.p (.int .i64 l.length)),(16,.p (.int .i64 i)),(21,.p (exL a)),(22,.p (.int .i64 a.length)),(23,.p (.int .i64 j))])
    (λj=>AX b0 fns k up gap ((dO (a.take j)).foldl (fU fns k (mi::sco up)) ci)++[.mp (mpE mi),.row 2 [[.mp L,upV up]],.row 5 [[AV.p (.int .i64 o),.p (.str nme),.p (.lst 4 (a.map Ex.cs)),.p (smL bd),.p (smL el)]]])
    (λj=>j<=a.length) (λj=>a.length-j) 0 (by simp) ?_ ?_
   ·refine uM (s:=[]) (hlenA _) (by simp) (hokA _) (ok3 _) ?_
    simp[below,hsl,hxl]
   intro j hj
   simp-implicitDefEqProofs[hxl]
   refine aY (λhc=>?_) (λhc=>?_)
   ·simp at hc
    have hga:=Rv hc
    have hka:=aC (RB hc)
    have hkc:=a[j].cs_eq
    have hE:=hexpr ((dO (a.take j)).foldl (fU fns k (mi::sco up)) ci) a[j] [.row 5 [[AV.p (.int .i64 o),.p (.str nme),.p (.lst 4 (a.map Ex.cs)),.p (smL bd),.p (smL el)]],.row 4 [[.p (.int .i64 a[j].op),.p (.int .i64 a[j].n),.p (.str a[j].name),.p (exL a[j].kids)]]] (by omega)
    rw[hkc] at hE
    simp-implicitDefEqProofs[hga,hkc,hlenA]
    refine hE.mono ?_
    rintro r h ⟨rfl,rfl⟩
    simp-implicitDefEqProofs[aa]
    refine⟨j+1,hc,by omega,?_⟩
    have hf2:(dO (a.take (j+1))).foldl (fU fns k (mi::sco up)) ci=a[j].pre.foldl (fU fns k (mi::sco up)) ((dO (a.take j)).foldl (fU fns k (mi::sco up)) ci):=by
     rw[aq hc,lp,List.foldl_append,dO,dO,Sd]
    rw[hf2]
    refine uM (r:=[_,_,_]) (s:=[_]) (hlenA _) (by simp) (hokA _) (ok3 _) ?_
    simp[below,hsl,hxl,w1 (i:=j) (by omega)]
   simp at hc
   have hje:j=a.length:=by omega
   subst hje
   rw[RR]
   have hic:icS fns k ⟨o,nme,a,bd,el⟩ mi (sco up) ci=(opS o nme mi 0,if o=5\/o=6 then(gA fns k el [] (opS o nme mi 0::sco up) (gA fns k bd [] (opS o nme mi 0::sco up) (opC o nme mi (sco up) (DJ fns k (mi::sco up) a ci))).2).2 else opC o nme mi (sco up) (DJ fns k (mi::sco up) a ci)):=rfl
   rw[hic] at eT
   clear hic
   rw[show(dO a).foldl (fU fns k (mi::sco up)) ci=DJ fns k (mi::sco up) a ci from rfl]
   generalize DJ fns k (mi::sco up) a ci=c1 at eT⊢
   simp-implicitDefEqProofs[]
   refine kN (am 89 [(0,.ptr 1 3 0 0),(2,.ptr (L+1) 2 0 0),(7,.ptr (L+2) 5 0 0),(14,.p (smL l)),(15,.p (.int .i64 l.length)),(16,.p (.int .i64 i))])
    (AX b0 fns k up gap (opC o nme mi (sco up) c1)++[.mp (mpE (opS o nme mi 0)),.row 2 [[.mp L,upV up]],.row 5 [[AV.p (.int .i64 o),.p (.str nme),.p (.lst 4 (a.map Ex.cs)),.p (smL bd),.p (smL el)]]]) ?_ ?_
   ·have fin:∀(r1:List (Nat × AV)) (c2:Int) (m2:Scp),Aw.look r1 0= .ptr 1 3 0 0->Aw.look r1 2= .ptr (L+1) 2 0 0->Aw.look r1 7= .ptr (L+2) 5 0 0->Aw.look r1 14= .p (smL l)->Aw.look r1 15= .p (.int .i64 l.length)->Aw.look r1 16= .p (.int .i64 i)->
     Wk (L+2) (am 89 r1) (AX b0 fns k up gap c2++[.mp (mpE m2),.row 2 [[.mp L,upV up]],.row 5 [[AV.p (.int .i64 o),.p (.str nme),.p (.lst 4 (a.map Ex.cs)),.p (smL bd),.p (smL el)]]])
      (am 89 [(0,.ptr 1 3 0 0),(2,.ptr (L+1) 2 0 0),(7,.ptr (L+2) 5 0 0),(14,.p (smL l)),(15,.p (.int .i64 l.length)),(16,.p (.int .i64 i))])
      (AX b0 fns k up gap c2++[.mp (mpE m2),.row 2 [[.mp L,upV up]],.row 5 [[AV.p (.int .i64 o),.p (.str nme),.p (.lst 4 (a.map Ex.cs)),.p (smL bd),.p (smL el)]]]):=by
     intro r1 c2 m2 e0 e2 e7 e14 e15 e16
     refine uM (s:=[]) (hlenA _) (by simp) (hokA _) (ok3 _) ?_
     simp[below,e0,e2,e7,e14,e15,e16]
    by_cases o1:o=1
    ·have hmg:=rt nme mi
     have hms:jt (.str nme) (.p (.int .i64 0)) (mpE mi)=some (mpE (iY mi nme 0)):=by simpa using ye nme 0 mi
     have e2:opS o nme mi 0=iY mi nme 0:=if_pos o1
     rw[e2]
     cases hh:gZ mi nme with
     |none=>
      have e1:opC o nme mi (sco up) c1=c1:=by rw[opC,if_pos o1,hh];rfl
      rw[hh] at hmg
      rw[e1]
      subst o1
      simp-implicitDefEqProofs[hlenA,hmg,hms]
      exact fin _ _ _ (by simp) (by simp) (by simp) (by simp[hsl]) (by simp) (by simp)
     |some n=>
      have e1:opC o nme mi (sco up) c1=fl c1 2:=by rw[opC,if_pos o1,hh];rfl
      rw[hh] at hmg
      rw[e1]
      subst o1
      simp-implicitDefEqProofs[hlenA,hmg,hms]
      refine(hfail c1 2 _).mono ?_
      rintro r h ⟨rfl,rfl⟩
      simp-implicitDefEqProofs[aa,hlenA,hms]
      exact fin _ _ _ (by simp) (by simp) (by simp) (by simp[hsl]) (by simp) (by simp)
    have e2:opS o nme mi 0=mi:=if_neg o1
    rw[e2]
    by_cases o2:o=2
    ·cases hh:ga (mi::sco up) nme with
     |none=>
      have e1:opC o nme mi (sco up) c1=fl c1 3:=by rw[opC,if_neg o1,if_pos o2,hh];rfl
      rw[e1]
      subst o2
      have hF:=hfind c1 mi nme [.row 5 [[AV.p (.int .i64 2),.p (.str nme),.p (.lst 4 (a.map Ex.cs)),.p (smL bd),.p (smL el)]]]
      rw[hh] at hF
      simp-implicitDefEqProofs[hlenA]
      refine hF.mono ?_
      rintro r h ⟨rfl,rfl⟩
      simp-implicitDefEqProofs[aa]
      refine(hfail c1 3 _).mono ?_
      rintro r h ⟨rfl,rfl⟩
      simp-implicitDefEqProofs[aa]
      exact fin _ _ _ (by simp) (by simp) (by simp) (by simp[hsl]) (by simp) (by simp)
     |some n=>
      have e1:opC o nme mi (sco up) c1=c1:=by rw[opC,if_neg o1,if_pos o2,hh];rfl
      rw[e1]
      subst o2
      have hF:=hfind c1 mi nme [.row 5 [[AV.p (.int .i64 2),.p (.str nme),.p (.lst 4 (a.map Ex.cs)),.p (smL bd),.p (smL el)]]]
      rw[hh] at hF
      simp-implicitDefEqProofs[hlenA]
      refine hF.mono ?_
      rintro r h ⟨rfl,rfl⟩
      simp-implicitDefEqProofs[aa]
      exact fin _ _ _ (by simp) (by simp) (by simp) (by simp[hsl]) (by simp) (by simp)
    ·have e1:opC o nme mi (sco up) c1=c1:=by rw[opC,if_neg o1,if_neg o2]
     rw[e1]
     simp-implicitDefEqProofs[hlenA,o1,o2]
     exact fin _ _ _ (by simp) (by simp) (by simp) (by simp[hsl]) (by simp) (by simp)
   generalize opC o nme mi (sco up) c1=c2 at eT⊢
   generalize opS o nme mi 0=m2 at eT⊢
   have hdrop:∀(r1:List (Nat × AV)) (c3:Int) (s:List AO),Aw.look r1 0= .ptr 1 3 0 0->Aw.look r1 2= .ptr (L+1) 2 0 0->Aw.look r1 14= .p (smL l)->Aw.look r1 15= .p (.int .i64 l.length)->Aw.look r1 16= .p (.int .i64 ((i:Int)+1))->
    Wk (L+2) (am 89 r1) (AX b0 fns k up gap c3++([.mp (mpE m2),.row 2 [[.mp L,upV up]]]++s)) (am 89 [(0,.ptr 1 3 0 0),(2,.ptr (L+1) 2 0 0),(14,.p (smL l)),(15,.p (.int .i64 l.length)),(16,.p (.int .i64 ((i:Int)+1)))]) (CH b0 fns k c3 (⟨gap,m2⟩::up)):=by
    intro r1 c3 s e0 e2 e14 e15 e16
    rw[Ie,hL]
    refine uM (hlenA _) (by simp) (hokA _) (al (CB _ _) (al hR ee)) ?_
    simp[below,e0,e2,e14,e15,e16]
   by_cases ho:o=5\/o=6
   ·rw[if_pos ho] at eT
    rcases ho with o5|o6
    ·subst o5
     simp-implicitDefEqProofs[hlenA]
     refine(vu G (.ptr (L+1) 2 0 0) (.inr ⟨_,rfl⟩) _).mono ?_
     rintro r h ⟨rfl,rfl⟩
     simp-implicitDefEqProofs[aa,hlenA]
     refine(hblk c2 m2 bd [_] (by omega) (by omega) (λx hx=>by rw[RL.1 hx];exact cM (by simp[okO]))).mono ?_
     rintro r h ⟨rfl,m3,rfl⟩
     simp-implicitDefEqProofs[aa,hlenA]
     refine(vu G (.ptr (L+1) 2 0 0) (.inr ⟨_,rfl⟩) _).mono ?_
     rintro r h ⟨rfl,rfl⟩
     simp-implicitDefEqProofs[aa,hlenA]
     refine(hblk _ m2 el [_,_,_] (by omega) (by omega) (al (cM (by simp[okO])) (al (CB _ _) (al (by
      intro e he;rw[RL.1 he]
      exact⟨by simp only[below];simp,by simp only[below];simp,trivial⟩) ee)))).mono ?_
     rintro r h ⟨rfl,m4,rfl⟩
     simp-implicitDefEqProofs[aa,hlenA]
     refine⟨i+1,by omega,by omega,?_⟩
     rw[eT]
     refine hdrop _ _ _ (by simp) (by simp) (by simp[hsl]) (by simp) (by simp[w1 (i:=i) (by omega)])
    ·subst o6
     simp-implicitDefEqProofs[hlenA]
     refine(vu G (.ptr (L+1) 2 0 0) (.inr ⟨_,rfl⟩) _).mono ?_
     rintro r h ⟨rfl,rfl⟩
     simp-implicitDefEqProofs[aa,hlenA]
     refine(hblk c2 m2 bd [_] (by omega) (by omega) (λx hx=>by rw[RL.1 hx];exact cM (by simp[okO]))).mono ?_
     rintro r h ⟨rfl,m3,rfl⟩
     simp-implicitDefEqProofs[aa,hlenA]
     refine(vu G (.ptr (L+1) 2 0 0) (.inr ⟨_,rfl⟩) _).mono ?_
     rintro r h ⟨rfl,rfl⟩
     simp-implicitDefEqProofs[aa,hlenA]
     refine(hblk _ m2 el [_,_,_] (by omega) (by omega) (al (cM (by simp[okO])) (al (CB _ _) (al (by
      intro e he;rw[RL.1 he]
      exact⟨by simp only[below];simp,by simp only[below];simp,trivial⟩) ee)))).mono ?_
     rintro r h ⟨rfl,m4,rfl⟩
     simp-implicitDefEqProofs[aa,hlenA]
     refine⟨i+1,by omega,by omega,?_⟩
     rw[eT]
     refine hdrop _ _ _ (by simp) (by simp) (by simp[hsl]) (by simp) (by simp[w1 (i:=i) (by omega)])
   ·rw[if_neg ho] at eT
    have o5:¬o=5:=λh=>ho (.inl h)
    have o6:¬o=6:=λh=>ho (.inr h)
    simp-implicitDefEqProofs[hlenA,o5,o6]
    refine⟨i+1,by omega,by omega,?_⟩
    rw[eT]
    refine hdrop _ _ [_] (by simp) (by simp) (by simp[hsl]) (by simp) (by simp[w1 (i:=i) (by omega)])
  ·simp at h
   have hie:i=l.length:=by omega
   subst hie
   rw[RR] at hst
   rw[hst]
   simp-implicitDefEqProofs[]
end
section
theorem oL:AK.whole ff=FK.ak eY:=rfl
theorem Ap(fns:List Fd):∀(a b:List Fd) (k:Nat) (c:Int),jL fns k (a++b) c=jL fns (k+a.length) b (jL fns k a c)
 |[],b,k,c=>rfl
 |f::r,b,k,c=>by rw[Sh,jL,jL,Ap fns r];congr 1;simp only[RN];omega
theorem Eb{fns l:List Fd}{i:Nat}{c:Int}(h:i<l.length):jL fns 0 (l.take (i+1)) c=icF fns i l[i] (jL fns 0 (l.take i) c):=by
 rw[aq h,Ap,RZ,Nat.min_eq_left (Nat.le_of_lt h),Sy];rfl
theorem Jy(a b:List (List UInt8))(m:Scp)(c:Int):kW (a++b) m c=kW b (kW a m c).1 (kW a m c).2:=by simp[kW]
theorem GY{l:List (List UInt8)}{i:Nat}{m:Scp}{c:Int}(h:i<l.length):kW (l.take (i+1)) m c=(iY (kW (l.take i) m c).1 l[i] 0,if(gZ (kW (l.take i) m c).1 l[i]).isSome then fl (kW (l.take i) m c).2 2 else(kW (l.take i) m c).2):=by
 rw[aq h,Jy];rfl
variable (G:ay) (hK:G de=some cX) (hS:G bx=some [.tbl opK opV])
include hK hS
theorem yd(l:List Fd)(hl:bt l<=1073741824):VF Tryz.prog G fq [.agg [.p (fdL l)]] (.p (.int .i64 (aW l))):=by
 have hll:=cU l
 have hfl:∀l,fdL l= .lst 3 (l.map Fd.cs):=λ_=>rfl
 rw[Et]
 refine AC.goK ox oL ?_
 simp-implicitDefEqProofs[ff,eY]
 refine(uW G hK hS l hl).use ?_
 by_cases hv:cw l=true
 case neg=>
  have hv':cw l=false:=by simpa using hv
  simp-implicitDefEqProofs[hv']
 rw[if_pos hv]
 simp-implicitDefEqProofs[hv,hfl]
 refine az (λi:Nat=>am 73 [(1,.ptr 0 1 0 0),(3,.ptr 1 3 0 0),(18,.p (fdL l)),(19,.p (.int .i64 l.length)),(20,.p (.int .i64 i))])
  (λi=>[.row 1 [[.p (fdL l)]],cO l (i-1) (jL l 0 (l.take i) 0)]) (λi=>i<=l.length) (λi=>l.length-i) 0 (by simp) ?_ ?_
 ·refine ab (h:=[.row 1 [[.p (fdL l)]],cO l 0 0]) (by simp) (by simp[okO,below,cO]) (by simp[below,hfl])
 intro i hi
 have hbo:okO 0 (.row 1 [[.p (fdL l)]]):=by simp[okO]
 simp-implicitDefEqProofs[hfl]
 refine aY (λh=>?_) (λh=>?_)
 ·simp at h
  have hg:=Rv h
  have hks:=dr (RB h)
  have eT:=Eb (fns:=l) (c:=0) h
  obtain⟨j,ej,ejl⟩:=zT hg
  generalize l[i]=f at*
  have hcs:f.cs=[.str f.name,aE f.params,smL f.body]:=rfl
  have hfz:f.sz=1+f.name.length+(f.params.length+(f.params.map List.length).sum)+aF f.body:=rfl
  have hst:aE f.params= .lst 1 (f.params.map λw=>[.str w]):=rfl
  generalize jL l 0 (l.take i) 0=c0 at eT⊢
  simp-implicitDefEqProofs[hg,hcs,cO]
  have hic:icF l i f c0=(gA l i f.body (kW f.params [] (if j<i then fl c0 2 else c0)).1 [] (kW f.params [] (if j<i then fl c0 2 else c0)).2).2:=by
   rw[icF,ej];simp
  rw[hic] at eT
  clear hic
  refine kN (am 73 [(1,.ptr 0 1 0 0),(3,.ptr 1 3 0 0),(4,.p (.int .i64 i)),(5,.ptr 2 3 0 0),(18,.p (fdL l)),(19,.p (.int .i64 l.length)),(20,.p (.int .i64 i))])
   [.row 1 [[.p (fdL l)]],cO l i (if j<i then fl c0 2 else c0),.row 3 [[.p (.str f.name),.p (aE f.params),.p (smL f.body)]]] ?_ ?_
  ·simp-implicitDefEqProofs[]
   refine(Kz G l f.name (by omega)).use ?_
   rw[ej]
   by_cases hj:j<i
   ·have hj':(j:Int)<(i:Int):=by omega
    rw[if_pos hj]
    simp-implicitDefEqProofs[ixI,hj']
    refine(Bd G (.row 1 [[.p (fdL l)]]) l i c0 2 [.row 3 [[.p (.str f.name),.p (aE f.params),.p (smL f.body)]]]).mono ?_
    rintro r h ⟨rfl,rfl⟩
    simp-implicitDefEqProofs[aa]
    exact ab (by simp) (by simp[okO,below,cO]) (by simp[below,hfl])
   ·have hj':¬(j:Int)<(i:Int):=by omega
    rw[if_neg hj]
    simp-implicitDefEqProofs[ixI,hj']
    exact ab (h:=[.row 1 [[.p (fdL l)]],cO l i c0,.row 3 [[.p (.str f.name),.p (aE f.params),.p (smL f.body)]]]) (by simp) (by simp[okO,below,cO]) (by simp[below,hfl])
  generalize (if j<i then fl c0 2 else c0)=c1 at eT⊢
  have hCH:∀(c:Int) (m:Scp),CH (.row 1 [[.p (fdL l)]]) l i c [⟨[.row 3 [[.p (.str f.name),.p (aE f.params),.p (smL f.body)]]],m⟩]=[.row 1 [[.p (fdL l)]],cO l i c,.row 3 [[.p (.str f.name),.p (aE f.params),.p (smL f.body)]],.mp (mpE m),.row 2 [[.mp 3,.nilp]]]:=λ_ _=>rfl
  simp-implicitDefEqProofs[]
  refine(vu G .nilp (.inl rfl) _).mono ?_
  rintro r h ⟨rfl,rfl⟩
  simp-implicitDefEqProofs[aa,hst]
  refine az (λq:Nat=>am 73 [(1,.ptr 0 1 0 0),(3,.ptr 1 3 0 0),(4,.p (.int .i64 i)),(5,.ptr 2 3 0 0),(6,.ptr 4 2 0 0),(18,.p (fdL l)),(19,.p (.int .i64 l.length)),(20,.p (.int .i64 i)),(39,.p (aE f.params)),(40,.p (.int .i64 f.params.length)),(41,.p (.int .i64 q))])
   (λq=>[.row 1 [[.p (fdL l)]],cO l i (kW (f.params.take q) [] c1).2,.row 3 [[.p (.str f.name),.p (aE f.params),.p (smL f.body)]],.mp (mpE (kW (f.params.take q) [] c1).1),.row 2 [[.mp 3,.nilp]]])
   (λq=>q<=f.params.length) (λq=>f.params.length-q) 0 (by simp) ?_ ?_
  ·exact ab (h:=[.row 1 [[.p (fdL l)]],cO l i c1,.row 3 [[.p (.str f.name),.p (aE f.params),.p (smL f.body)]],.mp [],.row 2 [[.mp 3,.nilp]]]) (by simp) (by simp[okO,below,cO]) (by simp[below,hfl,hst])
  intro q hq
  have eP:=λh=>GY (l:=f.params) (i:=q) (m:=[]) (c:=c1) h
  generalize hP:kW (f.params.take q) [] c1=st at eP⊢
  obtain⟨mq,cq⟩:=st
  simp only at eP⊢
  simp-implicitDefEqProofs[hst]
  refine aY (λhc=>?_) (λhc=>?_)
  ·simp at hc
   have hga:=Rv hc
   have eP:=eP hc
   generalize f.params[q]=nme at hga eP
   have hmg:=rt nme mq
   have hms:jt (.str nme) (.p (.int .i64 0)) (mpE mq)=some (mpE (iY mq nme 0)):=by simpa using ye nme 0 mq
   have fin:∀(r1:List (Nat × AV)) (c2:Int),Aw.look r1 1= .ptr 0 1 0 0->Aw.look r1 3= .ptr 1 3 0 0->Aw.look r1 4= .p (.int .i64 i)->Aw.look r1 5= .ptr 2 3 0 0->Aw.look r1 6= .ptr 4 2 0 0->Aw.look r1 18= .p (fdL l)->Aw.look r1 19= .p (.int .i64 l.length)->Aw.look r1 20= .p (.int .i64 i)->Aw.look r1 39= .p (aE f.params)->Aw.look r1 40= .p (.int .i64 f.params.length)->Aw.look r1 41= .p (.int .i64 ((q:Int)+1))->
    Wk 0 (am 73 r1) [.row 1 [[.p (fdL l)]],cO l i c2,.row 3 [[.p (.str f.name),.p (aE f.params),.p (smL f.body)]],.mp (mpE (iY mq nme 0)),.row 2 [[.mp 3,.nilp]]]
     (am 73 [(1,.ptr 0 1 0 0),(3,.ptr 1 3 0 0),(4,.p (.int .i64 i)),(5,.ptr 2 3 0 0),(6,.ptr 4 2 0 0),(18,.p (fdL l)),(19,.p (.int .i64 l.length)),(20,.p (.int .i64 i)),(39,.p (aE f.params)),(40,.p (.int .i64 f.params.length)),(41,.p (.int .i64 ((q:Int)+1)))])
     [.row 1 [[.p (fdL l)]],cO l i c2,.row 3 [[.p (.str f.name),.p (aE f.params),.p (smL f.body)]],.mp (mpE (iY mq nme 0)),.row 2 [[.mp 3,.nilp]]]:=by
    intro r1 c2 e1 e3 e4 e5 e6 e18 e19 e20 e39 e40 e41
    refine ab (by simp) (al (by simp[okO]) (al (by simp[okO,cO]) (al (by simp[okO]) (al (CB _ _) (al (by simp[okO,below]) ee))))) ?_
    simp[below,e1,e3,e4,e5,e6,e18,e19,e20,e39,e40,e41]
   cases hh:gZ mq nme with
   |none=>
    rw[hh] at hmg eP
    simp-implicitDefEqProofs[hga,hmg,hms]
    refine⟨q+1,by omega,by omega,?_⟩
    rw[eP]
    exact fin _ _ (by simp) (by simp) (by simp) (by simp) (by simp) (by simp[hfl]) (by simp) (by simp) (by simp[hst]) (by simp) (by simp[w1 (i:=q) (by omega)])
   |some n=>
    rw[hh] at hmg eP
    simp-implicitDefEqProofs[hga,hmg,hms]
    refine(Bd G (.row 1 [[.p (fdL l)]]) l i cq 2 _).mono ?_
    rintro r h ⟨rfl,rfl⟩
    simp-implicitDefEqProofs[aa,hms]
    refine⟨q+1,by omega,by omega,?_⟩
    rw[eP]
    exact fin _ _ (by simp) (by simp) (by simp) (by simp) (by simp) (by simp[hfl]) (by simp) (by simp) (by simp[hst]) (by simp) (by simp[w1 (i:=q) (by omega)])
  ·simp at hc
   have hqe:q=f.params.length:=by omega
   subst hqe
   rw[RR] at hP
   rw[hP] at eT
   simp only at eT
   have hB:=Mo G (.row 1 [[.p (fdL l)]]) (fns:=l) (k:=i) (by omega) (by omega) hbo (aF f.body+1) f.body (by omega) (by omega) [.row 3 [[.p (.str f.name),.p (aE f.params),.p (smL f.body)]]] mq [] cq ⟨by simp[okO],trivial⟩
   rw[hCH] at hB
   simp-implicitDefEqProofs[]
   refine hB.mono ?_
   rintro r h ⟨rfl,rfl⟩
   simp-implicitDefEqProofs[aa]
   refine⟨i+1,by omega,by omega,?_⟩
   rw[eT]
   refine kz (m:=2) (by omega) (fH rfl rfl (by simp[okO,below,cO])) (by simp[below,hfl,w1 (i:=i) (by omega)])
 ·simp at h
  have hie:i=l.length:=by omega
  subst hie
  rw[RR]
  simp-implicitDefEqProofs[cO]
end
section
variable (G:ay)
theorem JR(l:List Fd)(hz:bt l<=1073741824):VF Tryz.prog G kV [.agg [.p (fdL l)]] (.p (.bool (decide (aW l=0)))):=by
 refine AC.go za ?_
 simp-implicitDefEqProofs[pu]
 refine(vo G l hz).use ?_
 simp-implicitDefEqProofs[]
variable (hK:G de=some cX) (hS:G bx=some [.tbl opK opV])
include hK hS
theorem NG(l:List Fd)(hz:bt l<=1073741824):VF Tryz.prog G nk [.agg [.p (fdL l)]] (.p (.bool (decide (aW l=0)))):=by
 refine AC.go Cg ?_
 simp-implicitDefEqProofs[tK]
 refine(yd G hK hS l hz).use ?_
 simp-implicitDefEqProofs[]
end
section
def dW{σ α β:Type}(g:σ->α->β × σ):σ->List α->List β × σ
 |st,[]=>([],st)
 |st,x::r=>((g st x).1::(dW g (g st x).2 r).1,(dW g (g st x).2 r).2)
theorem Cb{σ α β:Type}(g:σ->α->β × σ):∀(a b:List α) (st:σ),dW g st (a++b)=((dW g st a).1++(dW g (dW g st a).2 b).1,(dW g (dW g st a).2 b).2)
 |[],b,st=>rfl
 |x::r,b,st=>by rw[Sh,dW,Cb g r];rfl
theorem tt{σ α β:Type}{g:σ->α->β × σ}{l:List α}{st:σ}{i:Nat}(h:i<l.length):dW g st (l.take (i+1))=((dW g st (l.take i)).1++[(g (dW g st (l.take i)).2 l[i]).1],(g (dW g st (l.take i)).2 l[i]).2):=by
 rw[aq h,Cb];rfl
theorem ru{σ α β:Type}(g:σ->α->β × σ):∀(l:List α) (st:σ),(dW g st l).1.length=l.length
 |[],st=>rfl
 |x::r,st=>by rw[dW,RN,RN,ru g r]
theorem rm{σ α β:Type}{g:σ->α->β × σ}{inv:Nat->σ->Prop}:∀{l:List α} {st:σ} {k:Nat},inv k st->(∀(i:Nat) st (h:i<l.length),inv (k+i) st->inv (k+i+1) (g st l[i]).2)->∀i,i<=l.length->inv (k+i) (dW g st (l.take i)).2
 |[],st,k,h0,_,i,hi=>by
  have:i=0:=by simpa using hi
  subst this;exact h0
 |x::r,st,k,h0,hs,0,_=>h0
 |x::r,st,k,h0,hs,i+1,hi=>by
  have h1:=hs 0 st (by simp) h0
  have:=rm (g:=g) (l:=r) (st:=(g st x).2) (k:=k+1) h1 (λj st hj hv=>by
   have:=hs (j+1) st (by simp;omega) (by rw[show k+(j+1)=k+1+j by omega];exact hv)
   rw[show k+(j+1)+1=k+1+j+1 by omega] at this
   exact this) i (by simpa using hi)
  rw[List.take_succ_cons,dW,show k+(i+1)=k+1+i by omega]
  exact this
variable (G:ay)
end
end Go.Proofs.YthfklclcofcpiaaGreatDoor
