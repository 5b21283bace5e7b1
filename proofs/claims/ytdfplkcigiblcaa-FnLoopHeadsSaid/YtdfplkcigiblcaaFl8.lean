/-
  Contracts and lemmas that the card needs, part 8.
-/
import Derived.Test.YtdfplkcigiblcaaFl7
namespace Go.Proofs.Ytdfplkcigiblcaa
open Go Go.Aw
set_option maxRecDepth 100000
set_option maxHeartbeats 4000000
section
theorem sZ:AK.whole iG=FK.ak iF:=rfl
variable (G:aB)
theorem BI.more{W:List AO}{uw:Nat}{V:AV}{cs:List Cd}{I:List Nat}(B:BI W uw V cs I)(os:List AO):BI (W++os) uw V cs I:=
 ⟨by rw[List.getElem?_append_left (List.getElem?_eq_some_iff.1 B.res).1];exact B.res,by rw[List.getElem?_append_left (List.getElem?_eq_some_iff.1 B.u).1];exact B.u,B.uge,B.own.hd1 λi hi=>List.getElem?_append_left (by have:=B.own.lt _ hi;simpa using this),B.un,B.g⟩
theorem Fq{b:List Int}(hb:Byt b)(hl:b.length<=2000){p:Nat}(hp:p<=1000000000000)(l:List Int)(hne:l≠[])(hll:l.length<=1099511627776)(rest:List AO):AC Try.prog G aZ [.ptr 0 2 0 0,.p (aC l)] (rdO b p::rest) λx h=>∃s:Int,x= .ret (.p (.int .i64 s))/\h=rdO b (p+1)::rest:=by
 refine AC.go eI ?_
 have hpos:0<l.length:=List.length_pos_iff.2 hne
 have hsl:aC l= .lst 1 (l.map λw=>[.int .i64 w]):=rfl
 simp-implicitDefEqProofs[cX,hsl]
 refine(aG G b hb hl p (by omega) l.length rest).mono ?_
 rintro r h ⟨k,rfl,rfl,hk⟩
 have hkl:k<l.length:=by omega
 have hg:=List.getElem?_eq_getElem hkl
 simp-implicitDefEqProofs[aa,hg]
structure BnS where (q:Nat) (W:List AO)
theorem Fb{b:List Int}(hb:Byt b)(hl:b.length<=2000){p:Nat}(hp:p<=700000000000):AC Try.prog G iB [.ptr 0 2 0 0] [rdO b p] λx h=>∃v q,x= .ret v/\h=[rdO b q]/\(∃cs,v= .agg [.p (cdL cs)]/\GU cs)/\p<=q/\q<=p+5000:=by
 refine ig G (AC.goK tG sZ ?_)
 simp-implicitDefEqProofs[iG,iF]
 refine(iu G (vJ G hb hl (p:=p) (by omega)) _ (by simp[below])).mono ?_
 rintro r h ⟨v,q,rfl,rfl,⟨cs,rfl,hne,hl3,hsm⟩,hq1,hq2⟩
 simp-implicitDefEqProofs[aa]
 refine(AC.ownLift G pI (uV G cs 3 (by omega) hl3 hsm) (h:=[rdO b q,.row 1 [[.nils]]]) (by simp)).mono ?_
 rintro r h ⟨vs,I,os,rfl,rfl,hO⟩
 obtain⟨V,rfl,hV⟩:=hO.single
 obtain⟨v1,v2⟩:=hV.cell
 simp-implicitDefEqProofs[-AV.cells,-AV.isCell,aD,ae,ah,an,al,aE,af,am,aj,v1,v2,aa]
 obtain⟨W,hW⟩:∃W,W=AO.row 1 [[.nils]]::(os++[.row 1 [[V]]]):=⟨_,rfl⟩
 obtain⟨uw,huw⟩:∃uw,uw=os.length+1:=⟨_,rfl⟩
 have hB:BI W uw V cs I:=by
  refine⟨by rw[hW];rfl,by rw[hW,huw,List.getElem?_cons_succ,List.getElem?_append_right (Nat.le_refl _)];simp,by omega,?_,λhm=>?_,⟨hne,by omega⟩,λc hc=>(hsm c hc).g⟩
  ·rw[hW]
   refine hV.frame λi hi=>?_
   have h1:=hV.ge i hi
   have h2:=hV.lt i hi
   obtain⟨j,rfl⟩:∃j,i=j+2:=⟨i-2,by simp at h1;omega⟩
   simp at h2
   simp only[List.cons_append,List.nil_append,List.getElem?_cons_succ]
   rw[List.getElem?_append_left h2]
  ·have:=hV.lt _ hm
   simp at this
   omega
 rw[←hW,←huw]
 clear hW huw hV hO
 obtain⟨c0,hc0⟩:∃c,cs[0]?=some c:=⟨_,List.getElem?_eq_getElem (List.length_pos_iff.2 hne)⟩
 obtain⟨id,_,_,_,rfl,_⟩:=hB.own.cds hc0
 simp-implicitDefEqProofs[hB.u]
 refine(aG G b hb hl q (by omega) _ W).mono ?_
 rintro r h ⟨k,rfl,rfl,hk⟩
 have hkl:k<cs.length:=by
  have:=List.length_pos_iff.2 hne
  omega
 have hgk:=List.getElem?_eq_getElem hkl
 generalize cs[k]=c at hgk
 have hsc:=hB.g.2 c (List.mem_of_getElem? hgk)
 obtain⟨x0,hx0⟩:∃x,c.blocks[0]?=some x:=⟨_,List.getElem?_eq_getElem (by have:=hsc.1;omega)⟩
 obtain⟨f,rows,g,rows2,_,_,_,_,_,_,e1,e2,e3,e4,e5,e6,_⟩:=hB.at hgk hx0
 cases e1
 simp-implicitDefEqProofs[aa,hB.u,hkl,e2,e4]
 refine(aG G b hb hl (q+1) (by omega) _ W).mono ?_
 rintro r h ⟨bI,rfl,rfl,hbI⟩
 have hbl:bI<c.blocks.length:=by have:=hsc.1;omega
 have hgb:=List.getElem?_eq_getElem hbl
 generalize c.blocks[bI]=x at hgb
 simp-implicitDefEqProofs[aa,hB.u,hkl,hbl,e2,e4]
 refine(jm G hb hl (by omega) [-1,c.regs,c.blocks.length,0,1] (by simp) (by simp) (by omega) rfl (by rw[List.getElem?_cons_succ,List.getElem?_append_right (Nat.le_refl _),Nat.sub_self];rfl)).mono ?_
 rintro r h ⟨bad,hbad,rfl,rfl⟩
 simp-implicitDefEqProofs[aa]
 have hsx:SmB 3 x:=(hsm c (List.mem_of_getElem? hgk)).2.2.2 x (List.mem_of_getElem? hgb)
 have hB1:=hB.more [AO.row 1 [[AV.p (.int .i64 (-1))],[AV.p (.int .i64 c.regs)],[AV.p (.int .i64 c.blocks.length)],[AV.p (.int .i64 0)],[AV.p (.int .i64 1)]]]
 generalize hW1:W++[AO.row 1 [[AV.p (.int .i64 (-1))],[AV.p (.int .i64 c.regs)],[AV.p (.int .i64 c.blocks.length)],[AV.p (.int .i64 0)],[AV.p (.int .i64 1)]]]=W1 at hB1
 obtain⟨f1,rows1,g1,rows3,P,N,X,IP,IN,IX,a1,a2,a3,a4,a5,a6,a7,a8,a9,a10,a11,a12,hP,hN,hX,a13,a14,a15,fin1,fin2⟩:=hB1.at hgk hgb
 cases a1
 have hgr:g1=g/\rows1=rows:=by
  have h1:W1[f]?=some (.row 3 rows):=by rw[←hW1,List.getElem?_append_left (List.getElem?_eq_some_iff.1 e2).1];exact e2
  rw[h1] at a2
  cases a2
  rw[e4] at a4
  cases a4
  exact⟨rfl,rfl⟩
 obtain⟨rfl,rfl⟩:=hgr
 clear hW1 hB e2 e3 e4 e5 e6 hbad
 have hq3:p<=q+1+1+1:=by omega
 have hq4:q+1+1+1<=p+4003:=by omega
 generalize q+1+1+1=q5 at hq3 hq4
 clear hq1 hq2
 have hfW:=(List.getElem?_eq_some_iff.1 a2).1
 have hgW:=(List.getElem?_eq_some_iff.1 a5).1
 refine fA (λa:BnS=>aA 154 [(3,.ptr (uw+1) 1 0 0),(2,.ptr 1 1 0 0)]) (λa=>rdO b a.q::a.W) (λa=>p<=a.q/\a.q<=p+4010/\∃cs' I',BI a.W uw (.sl (f+1) 3 0 cs.length) cs' I') ?_ ?_
 ·have hlen2:x.next.length<=2:=hsc.2.2 x (List.mem_of_getElem? hgb)
  have hbg:bI<rows3.length:=by omega
  have hWt:∀q' W2,W1.length<=W2.length->FgA (rdO b q'::W2:List AO).length [(3,AV.ptr (uw+1) 1 0 0),(2,AV.ptr 1 1 0 0)] [(3,AV.ptr (uw+1) 1 0 0),(2,AV.ptr 1 1 0 0)]:=λq' W2 h=>by
   have:=(List.getElem?_eq_some_iff.1 hB1.u).1
   simp[below];omega
  have hkeep:rows3.set bI [P,N,.p (.int .i64 x.jump),.p (.int .i64 x.on),X]=rows3:=by
   obtain⟨hl,e⟩:=List.getElem?_eq_some_iff.1 a7
   rw[←e];exact List.set_getElem_self hl
  have fr1:∀{vs:List AV} {qs:List PV} {J:List Nat} (i:Nat) (o:AO),Own 2 (.dead::W1) vs qs J->i+1∉J->Own 2 (.dead::W1.set i o) vs qs J:=λi o h hn=>h.hd1 λi' hi=>List.getElem?_set_ne λe=>hn (by rw[e];exact hi)
  have ng:g1+1∉IP/\g1+1∉IN/\g1+1∉IX:=⟨λh=>(a13 _ (by simp[h])).2.1 rfl,λh=>(a13 _ (by simp[h])).2.1 rfl,λh=>(a13 _ (by simp[h])).2.1 rfl⟩
  have setg:∀j' o':Int,∃cs' I',BI (W1.set g1 (.row 5 (rows3.set bI [P,N,.p (.int .i64 j'),.p (.int .i64 o'),X]))) uw (.sl (f+1) 3 0 cs.length) cs' I':=λj' o'=>
   fin1 _ P N X j' o' x.phis x.ins x.next IP IN IX (by simp) (List.getElem?_set_self hgW) (λi _ hn _=>List.getElem?_set_ne (Ne.symm hn)) (fr1 _ _ hP ng.1) (fr1 _ _ hN ng.2.1) (fr1 _ _ hX ng.2.2) (λj h=> .inl h) (λj h=> .inl h) (λj h=>h) (λj h=>(a14 j h).1) hlen2
  simp-implicitDefEqProofs[]
  refine(aG G b hb hl q5 (by omega) 32 _).mono ?_
  rintro r h ⟨ca,rfl,rfl,_⟩
  simp-implicitDefEqProofs[aa]
  refine aF (λh0=>?_) (λh0=>?_)
  ·simp-implicitDefEqProofs[]
   refine(aG G b hb hl (q5+1) (by omega) 5 _).mono ?_
   rintro r h ⟨j1,rfl,rfl,_⟩
   simp-implicitDefEqProofs[aa,a5,a7]
   exact⟨⟨q5+1+1,_⟩,⟨by simp only;omega,by simp only;omega,setg _ _⟩,ab (by simp) (hWt _ _ (by simp<;>omega))⟩
  simp-implicitDefEqProofs[]
  refine aF (λh1=>?_) (λh1=>?_)
  ·rcases hX.row with⟨rfl,_⟩|⟨i,rX,J,hXv,_⟩
   ·simp-implicitDefEqProofs[a5,a7]
    exact⟨⟨q5+1,W1⟩,⟨by simp only;omega,by simp only;omega,_,_,hB1⟩,ab (by simp) (hWt _ _ (by simp<;>omega))⟩
   ·rw[List.length_map] at hXv
    subst hXv
    obtain⟨_,rfl,hi2,hgi⟩:=nw hX
    obtain⟨i,rfl⟩:∃i',i=i'+1:=⟨i-1,by omega⟩
    rw[List.getElem?_cons_succ] at hgi
    have hil:=(List.getElem?_eq_some_iff.1 hgi).1
    simp-implicitDefEqProofs[a5,a7]
    refine aF (λhp0=>?_) (λhp0=>?_)
    ·have hp0:0<x.next.length:=by simpa using hp0
     have hr0:(x.next.map λn=>[AV.p (.int .i64 n)])[0]?=some [.p (.int .i64 (x.next.getD 0 0))]:=by
      cases hh:x.next with
      |nil=>rw[hh] at hp0;simp at hp0
      |cons a r=>rfl
     simp-implicitDefEqProofs[a5,a7,hgi,hp0,hr0]
     refine⟨⟨q5+1,_⟩,⟨by simp only;omega,by simp only;omega,fin1 (W1.set i (.row 1 ((x.next.map λn=>[AV.p (.int .i64 n)]).set 0 [.p (.int .i64 bad)]))) P N (.sl (i+1) 1 0 x.next.length) x.jump x.on x.phis x.ins (x.next.set 0 bad) IP IN [i+1] (by simp) ?_ ?_ (fr1 _ _ hP λh=>(a14 _ h).2 (by simp)) (fr1 _ _ hN λh=>a15 _ h (by simp)) (cf ?_ (by omega) (by simp)) (λj h=> .inl h) (λj h=> .inl h) (λj h=>h) (λj h=>(a14 j h).1) (by simpa using hlen2)⟩,ab (by simp) (hWt _ _ (by simp<;>omega))⟩
     ·have hne:i≠g1:=λe=>ng.2.2 (by rw[←e];simp)
      rw[hkeep,List.getElem?_set_ne hne];exact a5
     ·intro i' _ _ hn
      refine List.getElem?_set_ne λe=>hn ?_
      rw[←e];simp
     ·rw[List.getElem?_cons_succ,List.getElem?_set_self hil,List.map_set]
    ·exact⟨⟨q5+1,W1⟩,⟨by simp only;omega,by simp only;omega,_,_,hB1⟩,ab (by simp) (hWt _ _ (by simp<;>omega))⟩
  simp-implicitDefEqProofs[]
  refine aF (λh2=>?_) (λh2=>?_)
  ·simp-implicitDefEqProofs[a5,a7]
   exact⟨⟨q5+1,_⟩,⟨by simp only;omega,by simp only;omega,setg _ _⟩,ab (by simp) (hWt _ _ (by simp<;>omega))⟩
  have hNc:(N= .nils\/∃id,N= .sl id 4 0 0)\/∃(i:Nat) (rN:List (List AV)) (A:AV) (y:Ii) (JA:List Nat),N= .sl (i+1) 4 0 x.ins.length/\W1[i]?=some (.row 4 rN)/\i<W1.length/\i≠g1/\i+1∈IN/\x.ins[0]?=some y/\0<x.ins.length/\0<rN.length/\rN[0]?=some [.p (.int .i64 y.op),.p (.int .i64 y.to),A,.p (.int .i64 y.n)]/\Own 2 (.dead::W1) [A] [aC y.args] JA/\(∀j∈JA,j∈IN/\j≠i+1)/\
   ∀(W2:List AO) (A':AV) (y':Ii) (I2:List Nat),W1.length<=W2.length->W2[i]?=some (.row 4 (rN.set 0 [.p (.int .i64 y'.op),.p (.int .i64 y'.to),A',.p (.int .i64 y'.n)]))->(∀i',i'<W1.length->i'≠i->i'+1∉JA->W2[i']?=W1[i']?)->Own 2 (.dead::W2) [A'] [aC y'.args] I2->(∀j∈I2,j∈JA\/W1.length<j)->∃cs' I',BI W2 uw (.sl (f+1) 3 0 cs.length) cs' I':=by
   rcases hN.row with⟨e1,e2,_⟩|⟨id,rN,J,e1,e2,hr,_⟩
   ·exact .inl (.inl e1)
   ·rw[List.length_map] at e1
    by_cases h0i:x.ins.length=0
    ·rw[h0i] at e1
     exact .inl (.inr ⟨_,e1⟩)
    ·obtain⟨y,hy⟩:∃y,x.ins[0]?=some y:=⟨_,List.getElem?_eq_getElem (by omega)⟩
     obtain⟨id,rN,A,JA,q1,q2,q3,q4,q5',q6,q7,q8⟩:=hN.iis hy
     have hge:=hN.ge id q6
     obtain⟨i,rfl⟩:∃i',id=i'+1:=⟨id-1,by omega⟩
     rw[List.getElem?_cons_succ] at q2
     have hil:=(List.getElem?_eq_some_iff.1 q2).1
     have hig:i≠g1:=λe=>ng.2.1 (by rw[←e];exact q6)
     refine .inr ⟨i,rN,A,y,JA,q1,q2,hil,hig,q6,hy,by omega,by omega,q4,q5',q7,λW2 A' y' I2 k0 k1 k2 k3 k4=>?_⟩
     have hINl:∀j∈IN,j<W1.length+1:=λj hj=>by have:=hN.lt j hj;simpa using this
     obtain⟨I',d1,d2⟩:=q8 (.dead::W2) A' y' I2 (by rw[List.getElem?_cons_succ];exact k1) (λj hj hn hm=>by
      have h3:=hN.ge j hj
      have h4:=hINl j hj
      obtain⟨i',rfl⟩:∃i',j=i'+1:=⟨j-1,by omega⟩
      rw[List.getElem?_cons_succ,List.getElem?_cons_succ,k2 i' (by omega) (by omega) hm]) k3 (λj hj=>(k4 j hj).imp (λh=>h) λh hm=>by have:=hINl j hm;omega)
     have fr2:∀{vs:List AV} {qs:List PV} {J:List Nat},Own 2 (.dead::W1) vs qs J->(∀j∈J,j∉IN)->Own 2 (.dead::W2) vs qs J:=λh hn=>h.hd1 λi' hi=>k2 i' (by have:=h.lt _ hi;simpa using this) (λe=>hn _ hi (e▸q6)) λhm=>hn _ hi (q7 _ hm).1
     refine fin1 W2 P N X x.jump x.on x.phis _ x.next IP I' IX k0 ?_ ?_ (fr2 hP λj hj=>(a14 j hj).1) d1 (fr2 hX λj hj hm=>a15 j hm hj) (λj h=> .inl h) (λj hj=>?_) (λj h=>h) (λj hj hm=>?_) hlen2
     ·rw[hkeep,k2 g1 hgW (Ne.symm hig) λhm=>ng.2.1 (q7 _ hm).1];exact a5
     ·intro i' hi' _ hn
      simp only[List.mem_append,not_or] at hn
      exact k2 i' hi' (λe=>hn.2.1 (e▸q6)) λhm=>hn.2.1 (q7 _ hm).1
     ·rcases d2 j hj with h|h
      ·exact .inl h
      ·exact(k4 j h).imp (λh=>(q7 j h).1) (λh=>h)
     ·rcases d2 j hm with h|h
      ·exact(a14 j hj).1 h
      ·rcases k4 j h with h|h
       ·exact(a14 j hj).1 (q7 j h).1
       ·have:=hP.lt j hj;simp at this;omega
  simp-implicitDefEqProofs[]
  refine aF (λh3=>?_) (λh3=>?_)
  ·rcases hNc with(rfl|⟨id,rfl⟩)|⟨i,rN,A,y,JA,rfl,b1,b2,b3,b4,hy0,b5,b6,b7,hA,b8,fin⟩
   ·simp-implicitDefEqProofs[a5,a7]
    exact⟨⟨q5+1,W1⟩,⟨by simp only;omega,by simp only;omega,_,_,hB1⟩,ab (by simp) (hWt _ _ (by simp<;>omega))⟩
   ·simp-implicitDefEqProofs[a5,a7]
    exact⟨⟨q5+1,W1⟩,⟨by simp only;omega,by simp only;omega,_,_,hB1⟩,ab (by simp) (hWt _ _ (by simp<;>omega))⟩
   ·obtain⟨z1,z2⟩:=hA.cell
    simp-implicitDefEqProofs[-AV.cells,-AV.isCell,aD,ae,ah,an,al,aE,af,am,aj,z1,z2,a5,a7,b1,b5,b7]
    exact⟨⟨q5+1,_⟩,⟨by simp only;omega,by simp only;omega,fin (W1.set i (.row 4 (rN.set 0 [.p (.int .i64 y.op),.p (.int .i64 bad),A,.p (.int .i64 y.n)]))) A ⟨y.op,bad,y.args,y.n⟩ JA (by simp) (List.getElem?_set_self b2) (λi' _ hn _=>List.getElem?_set_ne (Ne.symm hn)) (fr1 _ _ hA λh=>(b8 _ h).2 rfl) (λj h=> .inl h)⟩,ab (by simp) (hWt _ _ (by simp<;>omega))⟩
  simp-implicitDefEqProofs[]
  refine aF (λh4=>?_) (λh4=>?_)
  ·rcases hNc with(rfl|⟨id,rfl⟩)|⟨i,rN,A,y,JA,rfl,b1,b2,b3,b4,hy0,b5,b6,b7,hA,b8,fin⟩
   ·simp-implicitDefEqProofs[a5,a7]
    exact⟨⟨q5+1,W1⟩,⟨by simp only;omega,by simp only;omega,_,_,hB1⟩,ab (by simp) (hWt _ _ (by simp<;>omega))⟩
   ·simp-implicitDefEqProofs[a5,a7]
    exact⟨⟨q5+1,W1⟩,⟨by simp only;omega,by simp only;omega,_,_,hB1⟩,ab (by simp) (hWt _ _ (by simp<;>omega))⟩
   ·have hgp:∀t,(W1++t)[g1]?=some (.row 5 rows3):=λt=>by rw[List.getElem?_append_left hgW];exact a5
    have hip:∀t,(W1++t)[i]?=some (.row 4 rN):=λt=>by rw[List.getElem?_append_left b2];exact b1
    have hpe:=λt hh=>fF (hgp t) hh
    have hie:=λt hh=>fF (hip t) hh
    rcases hA.row with⟨rfl,h0,hJ0⟩|⟨a,rA,J,hAv,_⟩
    ·have h0:y.args=[]:=List.map_eq_nil_iff.1 h0
     simp-implicitDefEqProofs[a5,a7,b1,b5,b7,hgp,hip,hpe,hie]
     refine⟨⟨q5+1,_⟩,⟨by simp only;omega,by simp only;omega,fin ((W1++[AO.row 1 [[.p (.int .i64 bad)]]]).set i (.row 4 (rN.set 0 [.p (.int .i64 y.op),.p (.int .i64 y.to),.sl (W1.length+1) 1 0 1,.p (.int .i64 y.n)]))) _ ⟨y.op,y.to,[bad],y.n⟩ [W1.length+1] (by simp) (List.getElem?_set_self (by simp;omega)) (λi' hi' hn _=>by rw[List.getElem?_set_ne (Ne.symm hn),List.getElem?_append_left hi']) (cf ?_ (by omega) rfl) (λj h=> .inr (by rw[List.mem_singleton.1 h];omega))⟩,ab (by simp) (hWt _ _ (by simp<;>omega))⟩
     rw[List.getElem?_cons_succ,List.getElem?_set_ne (by omega),List.getElem?_append_right (Nat.le_refl _)];simp
    ·rw[List.length_map] at hAv
     subst hAv
     obtain⟨_,rfl,ha2,hga⟩:=nw hA
     obtain⟨a,rfl⟩:∃a',a=a'+1:=⟨a-1,by omega⟩
     rw[List.getElem?_cons_succ] at hga
     have hal:=(List.getElem?_eq_some_iff.1 hga).1
     have hai:a≠i:=λe=>(b8 (a+1) (by simp)).2 (by rw[e])
     have hag:a≠g1:=λe=>ng.2.1 (by rw[←e];exact(b8 (a+1) (by simp)).1)
     have hsz:y.args.length<=3:=hsx.2.2.2.1 y (List.mem_of_getElem? hy0)
     have htk:List.take y.args.length (y.args.map λn=>[AV.p (.int .i64 n)])=y.args.map λn=>[AV.p (.int .i64 n)]:=List.take_of_length_le (by simp)
     have n5:∀t,(W1.set a .dead++t)[g1]?=some (.row 5 rows3):=λt=>by rw[List.getElem?_append_left (by simpa using hgW),List.getElem?_set_ne hag];exact a5
     have n6:∀t,(W1.set a .dead++t)[i]?=some (.row 4 rN):=λt=>by rw[List.getElem?_append_left (by simpa using b2),List.getElem?_set_ne hai];exact b1
     have n5e:=λt hh=>fF (n5 t) hh
     have n6e:=λt hh=>fF (n6 t) hh
     simp-implicitDefEqProofs[a5,a7,b1,b5,b7,hgp,hip,hpe,hie,hga,htk,n5,n6,n5e,n6e]
     refine⟨⟨by omega,by omega⟩,⟨q5+1,_⟩,⟨by simp only;omega,by simp only;omega,fin ((W1.set a .dead++[AO.row 1 ((y.args.map λn=>[AV.p (.int .i64 n)])++[[.p (.int .i64 bad)]])]).set i (.row 4 (rN.set 0 [.p (.int .i64 y.op),.p (.int .i64 y.to),.sl (W1.length+1) 1 0 (y.args.length+1),.p (.int .i64 y.n)]))) _ ⟨y.op,y.to,y.args++[bad],y.n⟩ [W1.length+1] (by simp) (List.getElem?_set_self (by simp;omega)) (λi' hi' hn hna=>by rw[List.getElem?_set_ne (Ne.symm hn),List.getElem?_append_left (by simpa using hi'),List.getElem?_set_ne λe=>hna (by rw[e];simp)]) (cf ?_ (by omega) (by simp)) (λj h=> .inr (by rw[List.mem_singleton.1 h];omega))⟩,ab ?_ ?_⟩
     ·rw[List.getElem?_cons_succ,List.getElem?_set_ne (by omega),List.getElem?_append_right (by simp)];simp
     ·simp
     ·exact hWt _ _ (by simp<;>omega)
  simp-implicitDefEqProofs[]
  refine aF (λh5=>?_) (λh5=>?_)
  ·have hgp:∀t,(W1++t)[g1]?=some (.row 5 rows3):=λt=>by rw[List.getElem?_append_left hgW];exact a5
   have hpe:=λt hh=>fF (hgp t) hh
   obtain⟨x1,x2⟩:=hX.cell
   obtain⟨n1,n2⟩:=hN.cell
   have hb1:Own 2 (.dead::(W1++[AO.row 1 [[.p (.int .i64 bad)]]])) [.p (.int .i64 0),.sl (W1.length+1) 1 0 1] (⟨0,[bad]⟩:Ph).cs [W1.length+1]:=ux (x:=⟨0,[bad]⟩) (cf (by rw[List.getElem?_cons_succ,List.getElem?_append_right (Nat.le_refl _)];simp) (by omega) rfl)
   rcases hP.row with⟨rfl,h0,hJ0⟩|⟨a,rA,J,hAv,hJ0,hr,_⟩
   ·simp-implicitDefEqProofs[-AV.cells,-AV.isCell,aD,ae,ah,an,al,aE,af,am,aj,x1,x2,n1,n2,a5,a7,hgp,hpe]
    have hfin:∀(W3:List AO) (P':AV),Psh (.dead::(W1++[AO.row 1 [[.p (.int .i64 bad)]],AO.row 2 [[.p (.int .i64 0),.sl (W1.length+1) 1 0 1]]])) .nils 2 [.p (.int .i64 0),.sl (W1.length+1) 1 0 1] (.dead::W3) P'->∃cs' I',BI (W3.set g1 (.row 5 (rows3.set bI [P',N,.p (.int .i64 x.jump),.p (.int .i64 x.on),X]))) uw (.sl (f+1) 3 0 cs.length) cs' I':=λW3 P' hp=>by
     have hb2:Own 2 (.dead::(W1++[AO.row 1 [[.p (.int .i64 bad)]],AO.row 2 [[.p (.int .i64 0),.sl (W1.length+1) 1 0 1]]])) [.p (.int .i64 0),.sl (W1.length+1) 1 0 1] (⟨0,[bad]⟩:Ph).cs [W1.length+1]:=by
      have:=hb1.more [AO.row 2 [[.p (.int .i64 0),.sl (W1.length+1) 1 0 1]]]
      rw[List.cons_append,List.append_assoc] at this
      exact this
     have hPl:∀j∈IP,j<W1.length+1:=λj hj=>by have:=hP.lt j hj;simpa using this
     obtain⟨IP',m1,m2,m3,m4⟩:=(hP.more [AO.row 1 [[.p (.int .i64 bad)]],AO.row 2 [[.p (.int .i64 0),.sl (W1.length+1) 1 0 1]]]).psh hb2 (λj hj hm=>by have:=hPl j hj;rw[List.mem_singleton.1 hm] at this;omega) rfl (by simp) hp
     simp only[List.cons_append,List.length_cons,List.length_append,List.length_nil] at m2 m3 m4
     have hnew:∀j∈IP',j∈IP\/W1.length<j:=λj hj=>by
      rcases m2 j hj with h|h|h
      ·exact .inl h
      ·exact .inr (by rw[List.mem_singleton.1 h];omega)
      ·exact .inr (by omega)
     have hsame:∀i,i<W1.length->i+1∉IP->W3[i]?=W1[i]?:=λi hi hn=>by
      have:=m3 (i+1) (by omega) hn
      rw[List.getElem?_cons_succ,List.getElem?_cons_succ,List.getElem?_append_left hi] at this
      exact this
     have hgP:g1≠g1->False:=λh=>h rfl
     have hng:∀i (o:AO),i≠g1->(W3.set g1 o)[i]?=W3[i]?:=λi o hi=>List.getElem?_set_ne (Ne.symm hi)
     have fr3:∀{vs:List AV} {qs:List PV} {J:List Nat} (o:AO),Own 2 (.dead::W1) vs qs J->(∀j∈J,j∉IP)->g1+1∉J->Own 2 (.dead::W3.set g1 o) vs qs J:=λo h hn hg=>h.hd1 λi hi=>by
      have hil:=h.lt _ hi
      simp only[List.length_cons] at hil
      rw[hng i o λe=>hg (e▸hi),hsame i (by omega) (hn _ hi)]
     refine fin1 _ P' N X x.jump x.on (x.phis++[⟨0,[bad]⟩]) x.ins x.next IP' IN IX (by simp;omega) (List.getElem?_set_self (by omega)) (λi hi hn hm=>?_) ?_ (fr3 _ hN (λj hj hm=>(a14 j hm).1 hj) ng.2.1) (fr3 _ hX (λj hj hm=>(a14 j hm).2 hj) ng.2.2) hnew (λj h=> .inl h) (λj h=>h) (λj hj hm=>?_) hlen2
     ·simp only[List.mem_append,not_or] at hm
      rw[hng i _ hn,hsame i hi hm.1]
     ·have:phL (x.phis++[⟨0,[bad]⟩])= .lst 2 (x.phis.map Ph.cs++[(⟨0,[bad]⟩:Ph).cs]):=by rw[phL,List.map_append];rfl
      rw[this]
      refine m1.hd1 λi hi=>hng i _ λe=>?_
      subst e
      rcases hnew _ hi with h|h
      ·exact ng.1 h
      ·omega
     ·rcases hnew j hj with h|h
      ·exact(a14 j h).1 hm
      ·have:=hN.lt j hm;simp at this;omega
    refine⟨⟨q5+1,_⟩,⟨by simp only;omega,by simp only;omega,hfin (W1++[AO.row 1 [[.p (.int .i64 bad)]],AO.row 2 [[.p (.int .i64 0),.sl (W1.length+1) 1 0 1]],AO.row 2 [[.p (.int .i64 0),.sl (W1.length+1) 1 0 1]]]) (.sl (W1.length+2+1) 2 0 1) (.inl ⟨rfl,by simp,by simp⟩)⟩,ab ?_ ?_⟩
    ·simp
    ·exact hWt _ _ (by simp<;>omega)
   ·rw[List.length_map] at hAv
    subst hAv
    have ha2:=hP.ge a (by rw[hJ0];simp)
    obtain⟨a,rfl⟩:∃a',a=a'+1:=⟨a-1,by omega⟩
    have hga:=hr.here
    rw[List.getElem?_cons_succ] at hga
    have hag:a≠g1:=λe=>ng.1 (by rw[←e,hJ0];simp)
    have hal:=(List.getElem?_eq_some_iff.1 hga).1
    have hrl:rA.length=x.phis.length:=by have:=hr.len;simpa using this
    have htk:List.take x.phis.length rA=rA:=List.take_of_length_le (by omega)
    have m7:∀t,(W1++t)[a]?=some (.row 2 rA):=λt=>by rw[List.getElem?_append_left hal];exact hga
    have n5:∀t t',((W1++t).set a .dead++t')[g1]?=some (.row 5 rows3):=λt t'=>by rw[List.getElem?_append_left (by simp;omega),List.getElem?_set_ne hag];exact hgp t
    have m7e:=λt hh=>fF (m7 t) hh
    have n5e:=λt t' hh=>fF (n5 t t') hh
    simp-implicitDefEqProofs[-AV.cells,-AV.isCell,aD,ae,ah,an,al,aE,af,am,aj,x1,x2,n1,n2,a5,a7,hgp,hpe,m7,m7e,n5,n5e,htk]
    have hfin:∀(W3:List AO) (P':AV),Psh (.dead::(W1++[AO.row 1 [[.p (.int .i64 bad)]],AO.row 2 [[.p (.int .i64 0),.sl (W1.length+1) 1 0 1]]])) (.sl (a+1) 2 0 x.phis.length) 2 [.p (.int .i64 0),.sl (W1.length+1) 1 0 1] (.dead::W3) P'->∃cs' I',BI (W3.set g1 (.row 5 (rows3.set bI [P',N,.p (.int .i64 x.jump),.p (.int .i64 x.on),X]))) uw (.sl (f+1) 3 0 cs.length) cs' I':=λW3 P' hp=>by
     have hb2:Own 2 (.dead::(W1++[AO.row 1 [[.p (.int .i64 bad)]],AO.row 2 [[.p (.int .i64 0),.sl (W1.length+1) 1 0 1]]])) [.p (.int .i64 0),.sl (W1.length+1) 1 0 1] (⟨0,[bad]⟩:Ph).cs [W1.length+1]:=by
      have:=hb1.more [AO.row 2 [[.p (.int .i64 0),.sl (W1.length+1) 1 0 1]]]
      rw[List.cons_append,List.append_assoc] at this
      exact this
     have hPl:∀j∈IP,j<W1.length+1:=λj hj=>by have:=hP.lt j hj;simpa using this
     obtain⟨IP',m1,m2,m3,m4⟩:=(hP.more [AO.row 1 [[.p (.int .i64 bad)]],AO.row 2 [[.p (.int .i64 0),.sl (W1.length+1) 1 0 1]]]).psh hb2 (λj hj hm=>by have:=hPl j hj;rw[List.mem_singleton.1 hm] at this;omega) rfl (by simp) hp
     simp only[List.cons_append,List.length_cons,List.length_append,List.length_nil] at m2 m3 m4
     have hnew:∀j∈IP',j∈IP\/W1.length<j:=λj hj=>by
      rcases m2 j hj with h|h|h
      ·exact .inl h
      ·exact .inr (by rw[List.mem_singleton.1 h];omega)
      ·exact .inr (by omega)
     have hsame:∀i,i<W1.length->i+1∉IP->W3[i]?=W1[i]?:=λi hi hn=>by
      have:=m3 (i+1) (by omega) hn
      rw[List.getElem?_cons_succ,List.getElem?_cons_succ,List.getElem?_append_left hi] at this
      exact this
     have hgP:g1≠g1->False:=λh=>h rfl
     have hng:∀i (o:AO),i≠g1->(W3.set g1 o)[i]?=W3[i]?:=λi o hi=>List.getElem?_set_ne (Ne.symm hi)
     have fr3:∀{vs:List AV} {qs:List PV} {J:List Nat} (o:AO),Own 2 (.dead::W1) vs qs J->(∀j∈J,j∉IP)->g1+1∉J->Own 2 (.dead::W3.set g1 o) vs qs J:=λo h hn hg=>h.hd1 λi hi=>by
      have hil:=h.lt _ hi
      simp only[List.length_cons] at hil
      rw[hng i o λe=>hg (e▸hi),hsame i (by omega) (hn _ hi)]
     refine fin1 _ P' N X x.jump x.on (x.phis++[⟨0,[bad]⟩]) x.ins x.next IP' IN IX (by simp;omega) (List.getElem?_set_self (by omega)) (λi hi hn hm=>?_) ?_ (fr3 _ hN (λj hj hm=>(a14 j hm).1 hj) ng.2.1) (fr3 _ hX (λj hj hm=>(a14 j hm).2 hj) ng.2.2) hnew (λj h=> .inl h) (λj h=>h) (λj hj hm=>?_) hlen2
     ·simp only[List.mem_append,not_or] at hm
      rw[hng i _ hn,hsame i hi hm.1]
     ·have:phL (x.phis++[⟨0,[bad]⟩])= .lst 2 (x.phis.map Ph.cs++[(⟨0,[bad]⟩:Ph).cs]):=by rw[phL,List.map_append];rfl
      rw[this]
      refine m1.hd1 λi hi=>hng i _ λe=>?_
      subst e
      rcases hnew _ hi with h|h
      ·exact ng.1 h
      ·omega
     ·rcases hnew j hj with h|h
      ·exact(a14 j h).1 hm
      ·have:=hN.lt j hm;simp at this;omega
    have hphl:=hsx.1
    refine⟨⟨by omega,by omega,by omega⟩,⟨q5+1,_⟩,⟨by simp only;omega,by simp only;omega,hfin ((W1++[AO.row 1 [[.p (.int .i64 bad)]],AO.row 2 [[.p (.int .i64 0),.sl (W1.length+1) 1 0 1]]]).set a .dead++[AO.row 2 (rA++[[.p (.int .i64 0),.sl (W1.length+1) 1 0 1]])]) (.sl (W1.length+2+1) 2 0 (x.phis.length+1)) (.inr ⟨a+1,rA,_,rfl,by rw[List.getElem?_cons_succ];exact m7 _,hrl,by simp,by simp⟩)⟩,ab ?_ ?_⟩
    ·simp
    ·exact hWt _ _ (by simp<;>omega)
  simp-implicitDefEqProofs[]
  refine aF (λh6=>?_) (λh6=>?_)
  ·simp-implicitDefEqProofs[a2,a4]
   refine(aG G b hb hl (q5+1) (by omega) 2 _).mono ?_
   rintro r h ⟨j1,rfl,rfl,_⟩
   simp-implicitDefEqProofs[aa,a2,a4]
   exact⟨⟨q5+1+1,_⟩,⟨by simp only;omega,by simp only;omega,fin2 _ _ (List.getElem?_set_self hfW) (by simp) (λi _ hn=>List.getElem?_set_ne (Ne.symm hn))⟩,ab (by simp) (hWt _ _ (by simp<;>omega))⟩
  simp-implicitDefEqProofs[]
  refine aF (λh7=>?_) (λh7=>?_)
  ·rcases hNc with(rfl|⟨id,rfl⟩)|⟨i,rN,A,y,JA,rfl,b1,b2,b3,b4,hy0,b5,b6,b7,hA,b8,fin⟩
   ·simp-implicitDefEqProofs[a5,a7]
    exact⟨⟨q5+1,W1⟩,⟨by simp only;omega,by simp only;omega,_,_,hB1⟩,ab (by simp) (hWt _ _ (by simp<;>omega))⟩
   ·simp-implicitDefEqProofs[a5,a7]
    exact⟨⟨q5+1,W1⟩,⟨by simp only;omega,by simp only;omega,_,_,hB1⟩,ab (by simp) (hWt _ _ (by simp<;>omega))⟩
   ·obtain⟨z1,z2⟩:=hA.cell
    simp-implicitDefEqProofs[-AV.cells,-AV.isCell,aD,ae,ah,an,al,aE,af,am,aj,z1,z2,a5,a7,b1,b5,b7]
    refine(Fq G hb hl (p:=q5+1) (by omega) [256,-1,1] (by simp) (by simp) W1).mono ?_
    rintro r h ⟨nn,rfl,rfl⟩
    simp-implicitDefEqProofs[-AV.cells,-AV.isCell,aD,ae,ah,an,al,aE,af,am,aj,z1,z2,aa,a5,a7,b1,b5,b7]
    exact⟨⟨q5+1+1,_⟩,⟨by simp only;omega,by simp only;omega,fin (W1.set i (.row 4 (rN.set 0 [.p (.int .i64 y.op),.p (.int .i64 y.to),A,.p (.int .i64 nn)]))) A ⟨y.op,y.to,y.args,nn⟩ JA (by simp) (List.getElem?_set_self b2) (λi' _ hn _=>List.getElem?_set_ne (Ne.symm hn)) (fr1 _ _ hA λh=>(b8 _ h).2 rfl) (λj h=> .inl h)⟩,ab (by simp) (hWt _ _ (by simp<;>omega))⟩
  ·exact⟨⟨q5+1,W1⟩,⟨by simp only;omega,by simp only;omega,_,_,hB1⟩,ab (by simp) (hWt _ _ (by simp<;>omega))⟩
 ·rintro⟨q,W⟩ ⟨hq1,hq2,cs',I',hB'⟩
  simp only at hq1 hq2 hB'⊢
  have hs0:∀o,(W.set 0 o)[0]?=some o:=λo=>List.getElem?_set_self (List.getElem?_eq_some_iff.1 hB'.res).1
  have hwu:=hB'.u
  have hwr:=hB'.res
  simp-implicitDefEqProofs[hB'.u,hB'.res,hs0]
  have hown:Own 2 (.dead::W.set 0 (.row 1 [[.sl (f+1) 3 0 cs.length]])) [.sl (f+1) 3 0 cs.length] [cdL cs'] I':=hB'.own.hd1 λi hi=>List.getElem?_set_ne λe=>by have:=hB'.own.ge _ hi;omega
  exact⟨_,_,q,.agg [.p (cdL cs')],rfl,rfl,.agg (.one hown.view .nil) .nil,⟨cs',rfl,hB'.g⟩,hq1,by omega⟩
end
section
abbrev Vs:=List (List UInt8 × Nat)
def mh(p:List UInt8 × Nat):List AV:=[.p (.str p.1),.p (.int .i64 p.2),.p (.int .i64 0)]
def rgV(vs:Vs)(s:List UInt8):Int:=vs.foldl (λr p=>if p.1=s then(p.2:Int) else r) (-1)
theorem sL(vs:Vs)(p:List UInt8 × Nat)(s:List UInt8):rgV (vs++[p]) s=if p.1=s then(p.2:Int) else rgV vs s:=by
 simp[rgV,List.foldl_append]
def vi:AV->List Nat
 | .sl id _ _ _=>[id]
 |_=>[]
inductive VAt (X:List AO):AV->Vs->Prop where
 |nil:VAt X .nils []
 |sl (vid:Nat) (rows:List (List AV)) (vs:Vs):X[vid]?=some (.row 3 rows)->rows.take vs.length=vs.map mh->VAt X (.sl vid 3 0 vs.length) vs
section
variable {X X2:List AO} {V:AV} {vs:Vs}
theorem VAt.frame(H:VAt X V vs)(e:∀i∈vi V,X2[i]?=X[i]?):VAt X2 V vs:=by
 cases H with
 |nil=>exact .nil
 |sl vid rows _ h1 h2=>exact .sl vid rows vs (by rw[e vid (by simp[vi])];exact h1) h2
theorem VAt.lt(H:VAt X V vs):∀i∈vi V,i<X.length:=by
 cases H with
 |nil=>intro i hi;cases hi
 |sl vid rows _ h1 h2=>intro i hi;rw[List.mem_singleton.1 hi];exact(List.getElem?_eq_some_iff.1 h1).1
theorem VAt.more(H:VAt X V vs)(os:List AO):VAt (X++os) V vs:=H.frame λi hi=>List.getElem?_append_left (H.lt i hi)
theorem VAt.is(H:VAt X V vs):V.cells=[V]/\V.isCell=true/\below X.length V:=by
 cases H with
 |nil=>exact⟨rfl,rfl,trivial⟩
 |sl vid rows _ h1 h2=>exact⟨rfl,rfl,(List.getElem?_eq_some_iff.1 h1).1⟩
theorem VAt.at(H:VAt X V vs){i:Nat}(hi:i<vs.length):∃vid rows,V= .sl vid 3 0 vs.length/\X[vid]?=some (.row 3 rows)/\rows[i]?=some (mh vs[i]):=by
 cases H with
 |nil=>cases hi
 |sl vid rows _ h1 h2=>
  refine⟨vid,rows,rfl,h1,?_⟩
  have h3:(rows.take vs.length)[i]?=some (mh vs[i]):=by rw[h2,List.getElem?_map,List.getElem?_eq_getElem hi];rfl
  rwa[List.getElem?_take_of_lt hi] at h3
end
variable (G:aB)
theorem jc{l:List Fd}{pr:Int}{V:AV}{nx L:Nat}{w:Lw}{h:List AO}{K:AV}{I:List Nat}(H:LS (lwR l pr V nx) L w h K I)(hw:w.regs<=1073741824):
 AC Try.prog G bq [.ptr L 8 0 0] h λx h'=>x= .ret (.p (.int .i64 w.regs))/\LR (lwR l pr V nx) L w.reg I h h':=
 (DU G H hw).mono λx h' ⟨a,b⟩=>⟨a,K,I,b▸H.swap rfl,b▸⟨by simp,λi _ hn=>List.getElem?_set_ne λe=>hn (by simp[e])⟩,λj hj=> .inl hj⟩
theorem Eu{l:List Fd}{pr:Int}{V:AV}{nx L:Nat}{w:Lw}{h:List AO}{K:AV}{vs:Vs}(hg:h[L]?=some (lwR l pr V nx w K))(hv:VAt h V vs)(hl:vs.length<=1073741824)(s:List UInt8):
 AC Try.prog G da [.ptr L 8 0 0,.p (.str s)] h λx h'=>x= .ret (.p (.int .i64 (rgV vs s)))/\h'=h:=by
 obtain⟨v1,v2,v3⟩:=hv.is
 have hLl:=(List.getElem?_eq_some_iff.1 hg).1
 simp only[lwR] at hg
 have hlen:V= .nils/\vs.length=0\/∃vid,V= .sl vid 3 0 vs.length:=by
  cases hv with
  |nil=>exact .inl ⟨rfl,rfl⟩
  |sl vid rows _ _ _=>exact .inr ⟨vid,rfl⟩
 refine AC.go oh ?_
 rcases hlen with⟨rfl,h0⟩|⟨vid,rfl⟩
 ·have h0:=List.length_eq_zero_iff.1 h0
  subst h0
  simp-implicitDefEqProofs[eE,hg]
  refine aH (λ_:Unit=>aA 34 [(5,.p (.int .i64 (-1))),(0,.ptr L 8 0 0),(1,.p (.str s))]) (λ_=>h) (λ_=>True) (λ_=>0) () trivial ?_ ?_
  ·exact ab (Nat.le_refl _) (by simp[below,hLl,show IntKind.i64.wrap (-1)= -1 from ag (by omega) (by omega)])
  rintro⟨⟩ _
  simp-implicitDefEqProofs[rgV]
 ·have hwl:IntKind.i64.wrap ((vs.length:Int)-1)=(vs.length:Int)-1:=ag (by omega) (by omega)
  simp-implicitDefEqProofs[eE,hg,hwl]
  refine aH (λk:Nat=>aA 34 [(5,.p (.int .i64 ((k:Int)-1))),(0,.ptr L 8 0 0),(1,.p (.str s))]) (λ_=>h) (λk=>k<=vs.length/\rgV vs s=rgV (vs.take k) s) (λk=>k) vs.length ⟨Nat.le_refl _,by rw[List.take_length]⟩ ?_ ?_
  ·exact ab (Nat.le_refl _) (by simp[below,hLl])
  rintro k ⟨hk,he⟩
  cases k with
  |zero=>
   rw[List.take_zero] at he
   rw[he]
   simp-implicitDefEqProofs[rgV]
  |succ j=>
   have hj:j<vs.length:=hk
   obtain⟨vid2,rows,e1,e2,e3⟩:=hv.at hj
   cases e1
   rw[au hj,sL] at he
   have ej:((j+1:Nat):Int)-1=j:=by omega
   generalize vs[j]=p at*
   obtain⟨q,n⟩:=p
   simp only[mh] at e3 he
   simp-implicitDefEqProofs[ej,hg,e2,e3,hj]
   refine aF (λc=>?_) (λc=>?_)
   ·have c:q=s:=by simpa using c
    rw[he,if_pos c]
    simp-implicitDefEqProofs[hg,e2,e3,hj]
   ·have c:¬q=s:=by simpa using c
    rw[if_neg c] at he
    have hw2:IntKind.i64.wrap ((j:Int)-1)=(j:Int)-1:=ag (by omega) (by omega)
    simp-implicitDefEqProofs[hw2]
    exact⟨j,⟨by omega,he⟩,by omega,ab (Nat.le_refl _) (by simp[below,hLl])⟩
end
section
theorem Hj{P:Program}{G:aB}{k:Nat}{c:AK}{ts:List AV}{h:List AO}{Q:Aw.AX->List AV->List AO->Prop}(n:Nat)(R:List AV->List AO->Prop)
 (h1:∀Q':Aw.AX->List AV->List AO->Prop,(∀ts' h',R ts' h'->Q' (.exit n) ts' h')->AKW P G k c ts h Q')(h2:∀ts' h',R ts' h'->Q (.exit n) ts' h'):AKW P G k c ts h Q:=h1 Q h2
theorem Stg.upd{mk:Lw->AV->AO}{L:Nat}{I0 E:List Nat}{h hB:List AO}{w:Lw}{X X2:List AO}{K:AV}{I:List Nat}(S:Stg mk L I0 E h hB w X K I){oid:Nat}(hX:X.length<=X2.length)(e:∀i,i<X.length->i≠oid->X2[i]?=X[i]?)(ho:h.length<=oid)(hoE:oid∉E)(hoI:oid∉L::I):Stg mk L I0 E h hB w X2 K I:=by
 have hne:∀i,i∈L::I->i≠oid:=λi hi e=>hoI (e▸hi)
 refine⟨S.ls.frame λi hi=>e i ?_ (hne i hi),⟨Nat.le_trans S.fr.1 hX,λi hi hn=>?_⟩,S.sub,λi hi=>?_,λi hi=>⟨Nat.lt_of_lt_of_le (S.ap i hi).1 hX,(S.ap i hi).2⟩,Nat.le_trans S.ge hX⟩
 ·rcases List.mem_cons.1 hi with rfl|hi
  ·exact S.ls.lt
  ·exact S.ls.own.lt hi
 ·rw[e i (by have:=S.fr.1;omega) (by omega)];exact S.fr.2 i hi hn
 ·rw[e i (S.ap i hi).1 (λe=>hoE (e▸hi))];exact S.keep i hi
theorem Lw.name_name(w:Lw)(a b:Nat):(w.name a).name b=w.name (a+b):=by simp[Lw.name,List.append_assoc]
structure MpQ where (i:Nat) (X:List AO) (o:Nat)
variable (G:aB)
def ExR(l:List Fd)(pr:Int)(L:Nat)(V:AV)(nx:Nat)(vs:Vs)(e:Ex):Prop:=∀(w:Lw) (h:List AO) (K:AV) (I:List Nat) (B:Nat),LS (lwR l pr V nx) L w h K I->w.Ok B->B+8*e.sz<=1073741823->VAt h V vs->(∀i∈vi V,i∉L::I)->
 AC Try.prog G aV [.ptr L 8 0 0,.agg (e.cs.map .p)] h λx h'=>x= .ret (.p (.int .i64 (lwE (faI l) (rgV vs) e w).1))/\LR (lwR l pr V nx) L (lwE (faI l) (rgV vs) e w).2 I h h'
theorem Ij{l:List Fd}{pr:Int}{L:Nat}{V:AV}{nx:Nat}{vs:Vs}{e a b:Ex}(hk:e.kids=[a,b])(ha:ExR G l pr L V nx vs a)(hb:ExR G l pr L V nx vs b){w:Lw}{h:List AO}{K:AV}{I:List Nat}{B:Nat}(H:LS (lwR l pr V nx) L w h K I)(hok:w.Ok B)(hB:B+8*e.sz<=1073741823)(hV:VAt h V vs)(hVd:∀i∈vi V,i∉L::I):
 AC Try.prog G eD [.ptr L 8 0 0,.agg (e.cs.map .p)] h λx h'=>x= .ret (.p (.int .i64 (lwA (faI l) (rgV vs) e.kids w).1))/\LR (lwR l pr V nx) L (lwA (faI l) (rgV vs) e.kids w).2 I h h':=by
 have hc:=e.cs_eq
 have hzz:=e.sz_eq
 have hac:=a.cs_eq
 have hbc:=b.cs_eq
 have hkz:aP e.kids=a.sz+b.sz:=by rw[hk];simp[aP]
 obtain⟨E,hE⟩:∃E,E=h.length::vi V:=⟨_,rfl⟩
 have hkx:exL e.kids= .lst 4 [[.int .i64 a.op,.int .i64 a.n,.str a.name,exL a.kids],[.int .i64 b.op,.int .i64 b.n,.str b.name,exL b.kids]]:=by rw[hk,←hac,←hbc];rfl
 obtain⟨bo,hbo⟩:∃bo,bo=AO.row 4 [[.p (.int .i64 e.op),.p (.int .i64 e.n),.p (.str e.name),.p (exL e.kids)]]:=⟨_,rfl⟩
 have hS0:Stg (lwR l pr V nx) L I E h (h++[bo]) w (h++[bo]) K I:=Stg.of H [bo] (λi hi=>by
  rw[hE] at hi
  rcases List.mem_cons.1 hi with rfl|hi
  ·refine⟨by simp,?_⟩
   simp only[List.mem_cons,not_or]
   exact⟨by have:=H.lt;omega,λhm=>by have:=H.own.lt hm;omega⟩
  ·exact⟨by have:=hV.lt i hi;simp;omega,hVd i hi⟩)
 have hb0:(h++[bo])[h.length]?=some bo:=by simp
 have kE:∀{w2:Lw} {X:List AO} {K2:AV} {I2:List Nat},Stg (lwR l pr V nx) L I E h (h++[bo]) w2 X K2 I2->X[h.length]?=some bo/\VAt X V vs/\(∀i∈vi V,i∉L::I2):=λ{w2 X K2 I2} S=>⟨(S.keep _ (by rw[hE];simp)).trans hb0,(hV.more [bo]).frame λi hi=>S.keep i (by rw[hE];simp[hi]),λi hi=>(S.ap i (by rw[hE];simp[hi])).2⟩
 rw[hk,lwA]
 rw[hkx] at hbo
 subst hbo
 have h1c:=ha w _ K I B hS0.ls hok (by omega) (kE hS0).2.1 (kE hS0).2.2
 obtain⟨ok1,len1⟩:=mi (faI l) (rgV vs) a w B hok
 generalize lwE (faI l) (rgV vs) a w=x1 at*
 obtain⟨t,ht⟩:∃t,t=x1.2.bs.length:=⟨_,rfl⟩
 simp only[Lw.mk'_len,←ht]
 rw[hac] at h1c
 rw[hc]
 refine AC.go oB ?_
 simp-implicitDefEqProofs[-AV.cells,-AV.isCell,aD,ae,ah,an,al,aE,af,am,aj,iW,hkx]
 refine h1c.mono ?_
 rintro x X1 ⟨rfl,hlr⟩
 obtain⟨K1,I1,S1⟩:=hS0.step (J:=[]) (λj hj=>by cases hj) (by rw[List.append_nil];exact hlr)
 simp-implicitDefEqProofs[-AV.cells,-AV.isCell,aD,ae,ah,an,al,aE,af,am,aj,aa]
 have ok2:=ok1.reg
 refine(jc G S1.ls (by have:=ok1.regs;omega)).mono ?_
 rintro x X2 ⟨rfl,hlr⟩
 obtain⟨K2,I2,S2⟩:=S1.step (J:=[]) (λj hj=>by cases hj) (by rw[List.append_nil];exact hlr)
 simp-implicitDefEqProofs[-AV.cells,-AV.isCell,aD,ae,ah,an,al,aE,af,am,aj,aa]
 obtain⟨f1,f2⟩:=S2.fresh
 have hm2:=mb G (S2.ls.more [.row 1 (([]:List Int).map λn=>[AV.p (.int .i64 n)])]) ok2 (by omega) ⟨1,x1.2.regs,[],0⟩ (fB X2 ([]:List Int) rfl) (by simp) f2
 simp only[List.map_cons,List.map_nil,List.length_cons,List.length_nil] at hm2
 refine hm2.mono ?_
 rintro x X3 ⟨rfl,hlr⟩
 obtain⟨K3,I3,S3⟩:=(S2.more _).step f1 hlr
 have ok3:=ok2.put ⟨1,x1.2.regs,[],0⟩
 have hl3:(x1.2.reg.put ⟨1,x1.2.regs,[],0⟩).bs.length=t:=by rw[Lw.put_len];exact ht.symm
 simp-implicitDefEqProofs[-AV.cells,-AV.isCell,aD,ae,ah,an,al,aE,af,am,aj,aa,hl3]
 refine(rI G S3.ls ok3 (by omega) ⟨(kE S3).2.1.is.1,(kE S3).2.1.is.2.1⟩).mono ?_
 rintro x X4 ⟨rfl,hlr⟩
 obtain⟨K4,I4,S4⟩:=S3.step (J:=[]) (λj hj=>by cases hj) (by rw[List.append_nil];exact hlr)
 have ok4:=ok3.name 1
 simp-implicitDefEqProofs[-AV.cells,-AV.isCell,aD,ae,ah,an,al,aE,af,am,aj,aa,hl3]
 refine(rI G S4.ls ok4 (by omega) ⟨(kE S4).2.1.is.1,(kE S4).2.1.is.2.1⟩).mono ?_
 rintro x X5 ⟨rfl,hlr⟩
 obtain⟨K5,I5,S5⟩:=S4.step (J:=[]) (λj hj=>by cases hj) (by rw[List.append_nil];exact hlr)
 have ok5:=ok3.name 2
 have hnn:((x1.2.reg.put ⟨1,x1.2.regs,[],0⟩).name 1).name 1=(x1.2.mk' 1 0 []).name 2:=Lw.name_name _ 1 1
 have hl4:((x1.2.reg.put ⟨1,x1.2.regs,[],0⟩).name 1).bs.length=t+1:=by rw[Lw.name_len,hl3]
 rw[hnn] at S5
 have ok5:((x1.2.mk' 1 0 []).name 2).Ok _:=ok5
 simp-implicitDefEqProofs[-AV.cells,-AV.isCell,aD,ae,ah,an,al,aE,af,am,aj,aa,hl3,hl4]
 obtain⟨f1,f2⟩:=S5.fresh
 have hm5:=ln G (S5.ls.more [.row 1 ([(t:Int),(t:Int)+1].map λn=>[AV.p (.int .i64 n)])]) ok5 2 x1.1 t [(t:Int),(t:Int)+1] (fB X5 [(t:Int),(t:Int)+1] rfl) (by simp) f2
 simp only[List.map_cons,List.map_nil,List.length_cons,List.length_nil] at hm5
 refine hm5.mono ?_
 rintro x X6 ⟨rfl,hlr⟩
 obtain⟨K6,I6,S6⟩:=(S5.more _).step f1 hlr
 have ok6:=ok5.fin 2 x1.1 (g:=t) (by simp only[Lw.name_len,Lw.mk'_len,←ht];omega) [(t:Int),(t:Int)+1]
 obtain⟨y0,yV,yd⟩:=kE S6
 have h2c:=hb _ X6 K6 I6 _ S6.ls ok6 (by omega) yV yd
 obtain⟨ok7,len7⟩:=mi (faI l) (rgV vs) b _ _ ok6
 generalize lwE (faI l) (rgV vs) b (((x1.2.mk' 1 0 []).name 2).fin 2 x1.1 t [(t:Int),(t:Int)+1])=x2 at*
 rw[hbc] at h2c
 simp-implicitDefEqProofs[-AV.cells,-AV.isCell,aD,ae,ah,an,al,aE,af,am,aj,aa,y0]
 refine h2c.mono ?_
 rintro x X7 ⟨rfl,hlr⟩
 obtain⟨K7,I7,S7⟩:=S6.step (J:=[]) (λj hj=>by cases hj) (by rw[List.append_nil];exact hlr)
 simp-implicitDefEqProofs[-AV.cells,-AV.isCell,aD,ae,ah,an,al,aE,af,am,aj,aa]
 refine(jc G S7.ls (by have:=ok7.regs;omega)).mono ?_
 rintro x X8 ⟨rfl,hlr⟩
 obtain⟨K8,I8,S8⟩:=S7.step (J:=[]) (λj hj=>by cases hj) (by rw[List.append_nil];exact hlr)
 have ok8:=ok7.reg
 simp-implicitDefEqProofs[-AV.cells,-AV.isCell,aD,ae,ah,an,al,aE,af,am,aj,aa]
 obtain⟨f1,f2⟩:=S8.fresh
 have hm8:=mb G (S8.ls.more [.row 1 ([x2.1].map λn=>[AV.p (.int .i64 n)])]) ok8 (by omega) ⟨10,x2.2.regs,[x2.1],0⟩ (fB X8 [x2.1] rfl) (by simp) f2
 simp only[List.map_cons,List.map_nil,List.length_cons,List.length_nil] at hm8
 refine hm8.mono ?_
 rintro x X9 ⟨rfl,hlr⟩
 obtain⟨K9,I9,S9⟩:=(S8.more _).step f1 hlr
 have ok9:=ok8.put ⟨10,x2.2.regs,[x2.1],0⟩
 simp-implicitDefEqProofs[-AV.cells,-AV.isCell,aD,ae,ah,an,al,aE,af,am,aj,aa]
 obtain⟨f1,f2⟩:=S9.fresh
 have hm9:=mb G (S9.ls.more [.row 1 ([(x2.2.regs:Int)].map λn=>[AV.p (.int .i64 n)])]) ok9 (by omega) ⟨10,x1.2.regs,[(x2.2.regs:Int)],0⟩ (fB X9 [(x2.2.regs:Int)] rfl) (by simp) f2
 simp only[List.map_cons,List.map_nil,List.length_cons,List.length_nil] at hm9
 refine hm9.mono ?_
 rintro x X10 ⟨rfl,hlr⟩
 obtain⟨K10,I10,S10⟩:=(S9.more _).step f1 hlr
 have ok10:=ok9.put ⟨10,x1.2.regs,[(x2.2.regs:Int)],0⟩
 simp-implicitDefEqProofs[-AV.cells,-AV.isCell,aD,ae,ah,an,al,aE,af,am,aj,aa]
 obtain⟨f1,f2⟩:=S10.fresh
 have hm10:=ln G (S10.ls.more [.row 1 ([(t:Int)+1].map λn=>[AV.p (.int .i64 n)])]) ok10 1 0 (t+1) [(t:Int)+1] (fB X10 [(t:Int)+1] rfl) (by simp) f2
 simp only[List.map_cons,List.map_nil,List.length_cons,List.length_nil] at hm10
 rw[show((t+1:Nat):Int)=(t:Int)+1 by omega] at hm10
 refine hm10.mono ?_
 rintro x X11 ⟨rfl,hlr⟩
 obtain⟨K11,I11,S11⟩:=(S10.more _).step f1 hlr
 simp-implicitDefEqProofs[-AV.cells,-AV.isCell,aD,ae,ah,an,al,aE,af,am,aj,aa]
 exact S11.lr
theorem Ba(l:List Fd)(hl:l.length<=1073741824)(pr:Int)(L:Nat)(V:AV)(nx:Nat)(vs:Vs)(hvl:vs.length<=1073741824):∀(d:Nat) (e:Ex),bL d e=true->ExR G l pr L V nx vs e:=by
 intro d
 induction d with
 |zero=>intro e h;cases h
 |succ d ih=>
 intro e hf w h K I B H hok hB hV hVd
 have hc:=e.cs_eq
 have hzz:=e.sz_eq
 have hLl:=H.lt
 have hxl:∀l,exL l= .lst 4 (l.map Ex.cs):=λ_=>rfl
 obtain⟨v1,v2,v3⟩:=hV.is
 obtain⟨E,hE⟩:∃E,E=h.length::vi V:=⟨_,rfl⟩
 obtain⟨bo,hbo⟩:∃bo,bo=AO.row 4 [[.p (.int .i64 e.op),.p (.int .i64 e.n),.p (.str e.name),.p (exL e.kids)]]:=⟨_,rfl⟩
 have hS0:Stg (lwR l pr V nx) L I E h (h++[bo]) w (h++[bo]) K I:=Stg.of H [bo] (λi hi=>by
  rw[hE] at hi
  rcases List.mem_cons.1 hi with rfl|hi
  ·refine⟨by simp,?_⟩
   simp only[List.mem_cons,not_or]
   exact⟨by have:=H.lt;omega,λhm=>by have:=H.own.lt hm;omega⟩
  ·exact⟨by have:=hV.lt i hi;simp;omega,hVd i hi⟩)
 have hb0:(h++[bo])[h.length]?=some bo:=by simp
 have kE:∀{w2:Lw} {X:List AO} {K2:AV} {I2:List Nat},Stg (lwR l pr V nx) L I E h (h++[bo]) w2 X K2 I2->X[h.length]?=some bo/\VAt X V vs/\(∀i∈vi V,i∉L::I2):=λ{w2 X K2 I2} S=>⟨(S.keep _ (by rw[hE];simp)).trans hb0,(hV.more [bo]).frame λi hi=>S.keep i (by rw[hE];simp[hi]),λi hi=>(S.ap i (by rw[hE];simp[hi])).2⟩
 have lp:∀{w2:Lw} {X:List AO} {K2:AV} {I2:List Nat},Stg (lwR l pr V nx) L I E h (h++[bo]) w2 X K2 I2->∀t,(X++t)[L]?=some (lwR l pr V nx w2 K2):=λS t=>by rw[List.getElem?_append_left S.ls.lt];exact S.ls.here
 have hfE:=Ia (faI l) (rgV vs) e w
 refine AC.go mT ?_
 rw[hc]
 by_cases o1:e.op=1
 ·rw[if_pos o1] at hfE
  rw[hfE]
  rw[o1] at hbo
  have hF:=jc G hS0.ls (by have:=hok.regs;omega)
  have h0:∀t,(h++[bo]++t)[h.length]?=some bo:=λt=>by simp
  simp-implicitDefEqProofs[-AV.cells,-AV.isCell,aD,ae,ah,an,al,aE,af,am,aj,bT,o1]
  rw[←hbo]
  refine hF.mono ?_
  rintro x X1 ⟨rfl,hlr⟩
  obtain⟨K1,I1,S1⟩:=hS0.step (J:=[]) (λj hj=>by cases hj) (by rw[List.append_nil];exact hlr)
  have ok1:=hok.reg
  have y0:=(kE S1).1
  rw[hbo] at y0
  simp-implicitDefEqProofs[-AV.cells,-AV.isCell,aD,ae,ah,an,al,aE,af,am,aj,aa,y0]
  refine(mb G S1.ls ok1 (by omega) ⟨1,w.regs,[],e.n⟩ (A:= .p (aC [])) (J:=[]) (.p _ (λh=>by cases h) .nil) List.nodup_nil (λj hj=>by cases hj)).mono ?_
  rintro x X2 ⟨rfl,hlr⟩
  obtain⟨K2,I2,S2⟩:=S1.step (J:=[]) (λj hj=>by cases hj) hlr
  simp-implicitDefEqProofs[aa]
  exact S2.lr
 by_cases o2:e.op=2
 ·rw[if_neg o1,if_pos o2] at hfE
  rw[hfE]
  rw[o2] at hbo
  have hF:=Eu G hS0.ls.here (hV.more [bo]) hvl e.name
  simp-implicitDefEqProofs[-AV.cells,-AV.isCell,aD,ae,ah,an,al,aE,af,am,aj,bT,o1,o2]
  rw[←hbo]
  refine hF.mono ?_
  rintro x h1 ⟨rfl,rfl⟩
  simp-implicitDefEqProofs[aa]
  exact hS0.lr
 by_cases o10:e.op=10
 ·rw[if_neg o1,if_neg o2,if_pos o10] at hfE
  rw[hfE]
  obtain⟨a,b,hk⟩:=Cm hf o10
  have hF:=Ij G hk (ih a (md hf (by rw[hk];simp))) (ih b (md hf (by rw[hk];simp))) hS0.ls hok hB (kE hS0).2.1 (kE hS0).2.2
  rw[hc] at hF
  rw[o10] at hbo hF
  simp-implicitDefEqProofs[-AV.cells,-AV.isCell,aD,ae,ah,an,al,aE,af,am,aj,bT,o1,o2,o10]
  rw[←hbo]
  refine hF.mono ?_
  rintro x X1 ⟨rfl,hlr⟩
  obtain⟨K1,I1,S1⟩:=hS0.step (J:=[]) (λj hj=>by cases hj) (by rw[List.append_nil];exact hlr)
  simp-implicitDefEqProofs[aa]
  exact S1.lr
 rw[if_neg o1,if_neg o2,if_neg o10] at hfE
 have hal:=fe e.kids
 have hbl:(h++[bo]).length=h.length+1:=by simp
 simp-implicitDefEqProofs[-AV.cells,-AV.isCell,aD,ae,ah,an,al,aE,af,am,aj,bT,o1,o2,o10,hxl]
 refine Hj 1 (λts' X=>∃oid K1 I1,Stg (lwR l pr V nx) L I E h (h++[bo]) (bA (faI l) (rgV vs) e.kids w).2 X K1 I1/\X[oid]?=some (pH (bA (faI l) (rgV vs) e.kids w).1)/\h.length<oid/\oid∉E/\oid∉L::I1/\∃z,ts'=aA 84 ((34,z)::(33,.p (.int .i64 e.kids.length))::(32,.p (.lst 4 (e.kids.map Ex.cs)))::(31,.ptr h.length 4 0 3)::(30,.p (.int .i64 e.kids.length))::[(5,.sl oid 1 0 e.kids.length),(6,.p (.int .i64 e.kids.length)),(3,.ptr h.length 4 0 0),(0,.ptr L 8 0 0)])) (λQ' qE=>?_) ?_
 ·clear hfE
  rw[hxl] at hbo
  have S00:Stg (lwR l pr V nx) L I E h (h++[bo]) w (h++[bo]++[.row 1 []]) K I:=hS0.more _
  have e0:h++[bo]++[AO.row 1 []]=h++[bo,.row 1 []]:=by simp
  rw[e0] at S00
  have hvE:h.length+1∉E:=λhm=>by have:=(hS0.ap _ hm).1;simp at this
  refine aH (λa:MpQ=>aA 84 [(5,.sl a.o 1 0 a.i),(6,.p (.int .i64 a.i)),(3,.ptr h.length 4 0 0),(0,.ptr L 8 0 0)]) (λa=>a.X)
   (λa=>a.i<=e.kids.length/\∃K1 I1,Stg (lwR l pr V nx) L I E h (h++[bo]) (bA (faI l) (rgV vs) (e.kids.take a.i) w).2 a.X K1 I1/\a.X[a.o]?=some (pH (bA (faI l) (rgV vs) (e.kids.take a.i) w).1)/\h.length<a.o/\a.o∉E/\a.o∉L::I1) (λa=>e.kids.length-a.i) ⟨0,h++[bo,.row 1 []],h.length+1⟩ ⟨Nat.zero_le _,K,I,by rw[List.take_zero,bA];exact S00,by rw[List.take_zero,bA,←e0,List.getElem?_append_right (by simp)];simp[pH],by simp,hvE,by
     simp only[List.mem_cons,not_or]
     exact⟨by omega,λhm=>by have:=H.own.lt hm;omega⟩⟩ ?_ ?_
  ·rw[hbo]
   exact ab (by simp) (by simp[below];omega)
  rintro⟨i,X,o⟩ ⟨hi,K1,I1,S,hx,ho,hoE,hoI⟩
  simp only at hi S hx ho hoE hoI
  have hXl:=S.fr.1
  have hXL:=S.ls.lt
  have hox:o<X.length:=(List.getElem?_eq_some_iff.1 hx).1
  have hlen:(bA (faI l) (rgV vs) (e.kids.take i) w).1.length=i:=by rw[gA,List.length_take];omega
  obtain⟨y0,yV,yd⟩:=kE S
  rw[hbo] at y0
  have hbX:h.length<X.length:=(List.getElem?_eq_some_iff.1 y0).1
  simp-implicitDefEqProofs[y0]
  refine aF (λhc1=>?_) (λhc1=>?_)
  ·simp at hc1
   have hg:=List.getElem?_eq_getElem hc1
   have hm:=List.getElem_mem hc1
   have htk:=tP (fa:=faI l) (sc:=rgV vs) hc1 w
   have hok1:=(jC (faI l) (rgV vs) (e.kids.take i) w B hok).1
   have hzt:aP (e.kids.take i)+e.kids[i].sz<=aP e.kids:=by
    have h1:=List.take_append_drop (i+1) e.kids
    have h2:aP e.kids=aP (e.kids.take (i+1))+aP (e.kids.drop (i+1)):=by
     conv=>lhs;rw[←h1]
     rw[dH]
    rw[au hc1,dH] at h2
    simp only[aP] at h2
    omega
   have hcall:=ih e.kids[i] (md hf hm) _ _ K1 I1 _ S.ls hok1 (by omega) yV yd
   generalize e.kids[i]=k at*
   have hkc:=k.cs_eq
   generalize bA (faI l) (rgV vs) (e.kids.take i) w=cur at*
   obtain⟨out,w1⟩:=cur
   simp only at htk hcall hok1 S hx hlen
   rw[hkc] at hcall
   simp-implicitDefEqProofs[-AV.cells,-AV.isCell,aD,ae,ah,an,al,aE,af,am,aj,y0,hg,hkc]
   refine hcall.mono ?_
   rintro r X2 ⟨rfl,hlr⟩
   have hl2:X.length<=X2.length:=by obtain⟨_,_,_,a,_⟩:=hlr;exact a.1
   have hx2:X2[o]?=some (pH out):=by
    obtain⟨_,_,_,a,_⟩:=hlr
    rw[a.2 o hox hoI];exact hx
   have hE2:∀j∈o::E,j<X.length/\j∉L::I1:=λj hj=>by
    rcases List.mem_cons.1 hj with rfl|hj
    ·exact⟨hox,hoI⟩
    ·exact S.ap j hj
   obtain⟨K2,I2,S2o⟩:=(show Stg (lwR l pr V nx) L I (o::E) h X w1 X K1 I1 from⟨S.ls,S.fr,S.sub,λ_ _=>rfl,hE2,Nat.le_refl _⟩).step (J:=[]) (λj hj=>by cases hj) (by rw[List.append_nil];exact hlr)
   have hoI2:o∉L::I2:=(S2o.ap o (by simp)).2
   have S2:Stg (lwR l pr V nx) L I E h (h++[bo]) _ X2 K2 I2:=⟨S2o.ls,S2o.fr,S2o.sub,λj hj=>(S2o.keep j (by simp[hj])).trans (S.keep j hj),λj hj=>S2o.ap j (by simp[hj]),Nat.le_trans S.ge hl2⟩
   have hx2':∀t,(X2++t)[o]?=some (.row 1 (out.map λn=>[AV.p (.int .i64 n)])):=λt=>by rw[List.getElem?_append_left (by omega)];exact hx2
   have hot:List.take i (out.map λn=>[AV.p (.int .i64 n)])=out.map λn=>[AV.p (.int .i64 n)]:=List.take_of_length_le (by simp;omega)
   simp-implicitDefEqProofs[-AV.cells,-AV.isCell,aD,ae,ah,an,al,aE,af,am,aj,aa,hx2',hlen,hot]
   refine⟨by omega,⟨i+1,_,X2.length+1⟩,⟨by simp only;omega,K2,I2,by
    rw[htk]
    exact S2.upd (oid:=o) (by simp;omega) (λj hj hn=>by rw[List.getElem?_append_left (by simp;omega),List.getElem?_set_ne (Ne.symm hn),List.getElem?_append_left hj]) (by omega) hoE hoI2,?_,by simp only;omega,λhm=>by have:=(S2.ap _ hm).1;simp only at this;omega,?_⟩,by simp only;omega,ab (by simp;omega) ?_⟩
   ·rw[htk,List.getElem?_append_right (by simp)];simp[pH]
   ·simp only[List.mem_cons,not_or]
    exact⟨by have:=S2.ls.lt;omega,λhm=>by have:=S2.ls.own.lt hm;omega⟩
   ·simp[below,show IntKind.i64.wrap ((i:Int)+1)=(i:Int)+1 from ag (by omega) (by omega)]
    omega
  ·simp at hc1
   have hie:i=e.kids.length:=by omega
   subst hie
   rw[List.take_length] at S hx hlen
   simp-implicitDefEqProofs[]
   exact qE _ _ ⟨o,K1,I1,S,hx,ho,hoE,hoI,_,rfl⟩
 ·rintro ts' X ⟨oid,K1,I1,S,hx,ho,hoE,hoI,z,rfl⟩
  obtain⟨y0,yV,yd⟩:=kE S
  rw[hbo] at y0
  obtain⟨okM,lenM⟩:=jC (faI l) (rgV vs) e.kids w B hok
  have hlm:=gA (faI l) (rgV vs) e.kids w
  rw[hfE]
  generalize bA (faI l) (rgV vs) e.kids w=m at*
  have hA:OwnL false X [.sl oid 1 0 e.kids.length] [aC m.1] [oid]:=rT hx hlm.symm
  have hJE:∀j∈[oid],h.length<=j/\j∉E:=λj hj=>by rw[List.mem_singleton.1 hj];exact⟨by omega,hoE⟩
  have hF:AC Try.prog G bq [.ptr L 8 0 0] X λx X1=>x= .ret (.p (.int .i64 m.2.regs))/\X1[h.length]?=some bo/\(∃K2,X1[L]?=some (lwR l pr V nx m.2.reg K2))/\∀q,AC Try.prog G bJ [.ptr L 8 0 0,.p (.int .i64 (lF e.op)),.p (.int .i64 m.2.regs),.p (.int .i64 q),.sl oid 1 0 e.kids.length] X1 λx X2=>x= .ret (.p (.int .i64 m.2.regs))/\LR (lwR l pr V nx) L (m.2.mk' (lF e.op) q m.1) I h X2:=by
   refine(jc G S.ls (by have:=okM.regs;omega)).mono ?_
   rintro x X1 ⟨rfl,hlr⟩
   have S1:Stg (lwR l pr V nx) L I (oid::E) h X m.2 X K1 I1:=⟨S.ls,S.fr,S.sub,λ_ _=>rfl,λj hj=>by
    rcases List.mem_cons.1 hj with rfl|hj
    ·exact⟨(List.getElem?_eq_some_iff.1 hx).1,hoI⟩
    ·exact S.ap j hj,Nat.le_refl _⟩
   obtain⟨K2,I2,S2⟩:=S1.step (J:=[]) (λj hj=>by cases hj) (by rw[List.append_nil];exact hlr)
   refine⟨rfl,by rw[S2.keep h.length (by rw[hE];simp),y0,←hbo],⟨K2,S2.ls.here⟩,λq=>?_⟩
   refine(mb G S2.ls okM.reg (by omega) ⟨lF e.op,m.2.regs,m.1,q⟩ (hA.frame λj hj=>S2.keep j (by rw[List.mem_singleton.1 hj];simp)) (by simp) (λj hj=>by
    have:=(S2.ap oid (by simp)).2
    rw[List.mem_singleton.1 hj]
    simpa using this)).mono ?_
   rintro x X3 ⟨rfl,hlr⟩
   have S2':Stg (lwR l pr V nx) L I E h X m.2.reg X1 K2 I2:=⟨S2.ls,S2.fr,S2.sub,λj hj=>S2.keep j (by simp[hj]),λj hj=>S2.ap j (by simp[hj]),S2.ge⟩
   obtain⟨K3,I3,S3⟩:=S2'.step hJE hlr
   exact⟨rfl,S3.lr⟩
  simp-implicitDefEqProofs[-AV.cells,-AV.isCell,aD,ae,ah,an,al,aE,af,am,aj,y0,hbo]
  refine aF (λc11=>?_) (λc11=>?_)
  ·have c11:e.op=11:=by simpa using c11
   have hq:(if e.op=13 then faI l e.name else 0)=0:=if_neg (by omega)
   rw[hq]
   rw[show lF e.op=10 by rw[c11];rfl] at hF⊢
   simp-implicitDefEqProofs[-AV.cells,-AV.isCell,aD,ae,ah,an,al,aE,af,am,aj]
   refine hF.mono ?_
   rintro x X1 ⟨rfl,y1,⟨K2,yL2⟩,hP⟩
   simp-implicitDefEqProofs[-AV.cells,-AV.isCell,aD,ae,ah,an,al,aE,af,am,aj,aa]
   refine(hP 0).mono ?_
   rintro x X2 ⟨rfl,hlr⟩
   simp-implicitDefEqProofs[aa]
   exact hlr
  have c11:¬e.op=11:=by simpa using c11
  simp-implicitDefEqProofs[-AV.cells,-AV.isCell,aD,ae,ah,an,al,aE,af,am,aj]
  refine aF (λc12=>?_) (λc12=>?_)
  ·have c12:e.op=12:=by simpa using c12
   have hq:(if e.op=13 then faI l e.name else 0)=0:=if_neg (by omega)
   rw[hq]
   rw[show lF e.op=11 by rw[c12];rfl] at hF⊢
   simp-implicitDefEqProofs[-AV.cells,-AV.isCell,aD,ae,ah,an,al,aE,af,am,aj]
   refine hF.mono ?_
   rintro x X1 ⟨rfl,y1,⟨K2,yL2⟩,hP⟩
   simp-implicitDefEqProofs[-AV.cells,-AV.isCell,aD,ae,ah,an,al,aE,af,am,aj,aa]
   refine(hP 0).mono ?_
   rintro x X2 ⟨rfl,hlr⟩
   simp-implicitDefEqProofs[aa]
   exact hlr
  have c12:¬e.op=12:=by simpa using c12
  simp-implicitDefEqProofs[-AV.cells,-AV.isCell,aD,ae,ah,an,al,aE,af,am,aj]
  have yL:=S.ls.here
  simp only[lwR] at yL
  refine aF (λc13=>?_) (λc13=>?_)
  ·have c13:e.op=13:=by simpa using c13
   have hq:(if e.op=13 then faI l e.name else 0)=ixI (tp l e.name):=by rw[if_pos c13,HO]
   rw[hq]
   rw[show lF e.op=14 by rw[c13];rfl] at hF⊢
   simp-implicitDefEqProofs[-AV.cells,-AV.isCell,aD,ae,ah,an,al,aE,af,am,aj,y0,yL]
   refine hF.mono ?_
   rintro x X1 ⟨rfl,y1,⟨K2,yL2⟩,hP⟩
   rw[hbo] at y1
   simp only[lwR] at yL2
   simp-implicitDefEqProofs[-AV.cells,-AV.isCell,aD,ae,ah,an,al,aE,af,am,aj,aa,y1,yL2]
   refine((HS G l e.name (by omega)).ac (by simp[below]) (by simp[below]) _).mono ?_
   rintro x X1' ⟨rfl,rfl⟩
   simp-implicitDefEqProofs[-AV.cells,-AV.isCell,aD,ae,ah,an,al,aE,af,am,aj,aa,y1,yL2]
   refine(hP _).mono ?_
   rintro x X2 ⟨rfl,hlr⟩
   simp-implicitDefEqProofs[aa]
   exact hlr
  ·have c13:¬e.op=13:=by simpa using c13
   have hq:(if e.op=13 then faI l e.name else 0)=0:=if_neg c13
   rw[hq]
   rw[show lF e.op=e.op by rw[lF,if_neg c11,if_neg c12,if_neg c13]] at hF⊢
   simp-implicitDefEqProofs[-AV.cells,-AV.isCell,aD,ae,ah,an,al,aE,af,am,aj,y0,yL]
   refine hF.mono ?_
   rintro x X1 ⟨rfl,y1,⟨K2,yL2⟩,hP⟩
   rw[hbo] at y1
   simp-implicitDefEqProofs[-AV.cells,-AV.isCell,aD,ae,ah,an,al,aE,af,am,aj,aa,y1]
   refine(hP 0).mono ?_
   rintro x X2 ⟨rfl,hlr⟩
   simp-implicitDefEqProofs[aa]
   exact hlr
end
section
structure RS (l:List Fd) (pr:Int) (L:Nat) (S I0 E:List Nat) (h:List AO) (w:Lw) (nx:Nat) (vs:Vs) (X:List AO) (K V:AV) (I:List Nat):Prop where
 stb:Stb (lwR l pr V nx) L S I0 (vi V++E) h w X K I
 va:VAt X V vs
 vE:∀i∈vi V,i∉E/\(i∈S\/h.length<=i)
section
variable {l:List Fd} {pr:Int} {L:Nat} {S I0 E E2:List Nat} {h:List AO} {w w2:Lw} {nx nx2:Nat} {vs vs2:Vs} {X X2:List AO} {K K2 V V2:AV} {I I2 J:List Nat}
theorem RS.more(T:RS l pr L S I0 E h w nx vs X K V I)(os:List AO):RS l pr L S I0 E h w nx vs (X++os) K V I:=⟨T.stb.more os,T.va.more os,T.vE⟩
theorem RS.few(T:RS l pr L S I0 E h w nx vs X K V I)(hE:∀i∈E2,i∈E):RS l pr L S I0 E2 h w nx vs X K V I:=
 ⟨⟨T.stb.ls,T.stb.fr,T.stb.hL,T.stb.hS,T.stb.sub,λi hi=>T.stb.ap i (by
   rcases List.mem_append.1 hi with h|h
   ·exact List.mem_append.2 (.inl h)
   ·exact List.mem_append.2 (.inr (hE i h)))⟩,T.va,λi hi=>⟨λh=>(T.vE i hi).1 (hE i h),(T.vE i hi).2⟩⟩
theorem RS.add(T:RS l pr L S I0 E h w nx vs X K V I){j:Nat}(h1:j<X.length)(h2:j∉L::I)(h3:j∉vi V):RS l pr L S I0 (j::E) h w nx vs X K V I:=
 ⟨⟨T.stb.ls,T.stb.fr,T.stb.hL,T.stb.hS,T.stb.sub,λi hi=>by
   rcases List.mem_append.1 hi with h|h
   ·exact T.stb.ap i (List.mem_append.2 (.inl h))
   ·rcases List.mem_cons.1 h with rfl|h
    ·exact⟨h1,h2⟩
    ·exact T.stb.ap i (List.mem_append.2 (.inr h))⟩,T.va,λi hi=>⟨λh=>by
   rcases List.mem_cons.1 h with rfl|h
   ·exact h3 hi
   ·exact(T.vE i hi).1 h,(T.vE i hi).2⟩⟩
theorem RS.box(T:RS l pr L S I0 E h w nx vs X K V I)(o:AO):RS l pr L S I0 (X.length::E) h w nx vs (X++[o]) K V I:=
 (T.more [o]).add (by simp) (by
   simp only[List.mem_cons,not_or]
   exact⟨by have:=T.stb.ls.lt;omega,λhm=>by have:=T.stb.ls.own.lt hm;omega⟩) (λhm=>by have:=T.va.lt _ hm;omega)
theorem RS.start(T:RS l pr L S I0 E h w nx vs X K V I):RS l pr L (L::(vi V++I)) I [] X w nx vs X K V I:=
 ⟨⟨T.stb.ls,Frm.refl _ _,by simp,λj hj=>by simp[hj],λj hj=> .inl hj,λi hi=>T.stb.ap i (by rw[List.append_nil] at hi;exact List.mem_append.2 (.inl hi))⟩,T.va,λi hi=>⟨by simp,.inl (by simp[hi])⟩⟩
theorem RS.of(H:LS (lwR l pr V nx) L w h K I)(hV:VAt h V vs)(hVd:∀i∈vi V,i∉L::I):RS l pr L (L::(vi V++I)) I [] h w nx vs h K V I:=
 ⟨⟨H,Frm.refl _ _,by simp,λj hj=>by simp[hj],λj hj=> .inl hj,λi hi=>by rw[List.append_nil] at hi;exact⟨hV.lt i hi,hVd i hi⟩⟩,hV,λi hi=>⟨by simp,.inl (by simp[hi])⟩⟩
theorem RS.at(T:RS l pr L S I0 E h w nx vs X K V I):(∀i∈E,i<X.length/\i∉L::I)/\(∀i∈vi V,i<X.length/\i∉L::I):=
 ⟨λi hi=>T.stb.ap i (by simp[hi]),λi hi=>T.stb.ap i (by simp[hi])⟩
theorem RS.fresh(T:RS l pr L S I0 E h w nx vs X K V I):(∀j∈[X.length],h.length<=j/\j∉vi V++E)/\(∀j∈[X.length],j≠L/\j∉I):=T.stb.fresh
theorem RS.step(T:RS l pr L S I0 E h w nx vs X K V I)(hJ:∀j∈J,h.length<=j/\j∉vi V++E)(H:LR (lwR l pr V nx) L w2 (I++J) X X2):∃K2 I2,RS l pr L S I0 E h w2 nx vs X2 K2 V I2/\∀i∈E,X2[i]?=X[i]?:=by
 obtain⟨K2,I2,a1,a2⟩:=T.stb.step hJ H
 exact⟨K2,I2,⟨a1,T.va.frame λi hi=>a2 i (by simp[hi]),T.vE⟩,λi hi=>a2 i (by simp[hi])⟩
theorem RS.lift(T:RS l pr L S I0 E h w nx vs X K V I)(T2:RS l pr L (L::(vi V++I)) I [] X w2 nx2 vs2 X2 K2 V2 I2):RS l pr L S I0 E h w2 nx2 vs2 X2 K2 V2 I2/\∀i∈E,X2[i]?=X[i]?:=by
 have hX:=T.stb.fr.1
 have hX2:=T2.stb.fr.1
 refine⟨⟨⟨T2.stb.ls,T.stb.fr.trans T2.stb.fr λj hj=>?_,T.stb.hL,T.stb.hS,λj hj=>?_,λi hi=>?_⟩,T2.va,λi hi=>⟨λhE=>?_,?_⟩⟩,λi hi=>?_⟩
 ·simp only[List.mem_cons,List.mem_append] at hj
  rcases hj with rfl|hj|hj
  ·exact .inl T.stb.hL
  ·exact(T.vE j hj).2
  ·rcases T.stb.sub j hj with h|h
   ·exact .inl (T.stb.hS j h)
   ·exact .inr h
 ·rcases T2.stb.sub j hj with h|h
  ·exact T.stb.sub j h
  ·exact .inr (by omega)
 ·rcases List.mem_append.1 hi with h|h
  ·exact T2.stb.ap i (by simp[h])
  ·have h1:=T.at.1 i h
   refine⟨by omega,λhm=>?_⟩
   have h2:=h1.2
   simp only[List.mem_cons,not_or] at h2 hm
   rcases hm with hm|hm
   ·exact h2.1 hm
   ·rcases T2.stb.sub i hm with h|h
    ·exact h2.2 h
    ·omega
 ·have h1:=T.at.1 i hE
  rcases(T2.vE i hi).2 with h|h
  ·simp only[List.mem_cons,List.mem_append] at h
   rcases h with rfl|h|h
   ·exact h1.2 (by simp)
   ·exact(T.vE i h).1 hE
   ·exact h1.2 (by simp[h])
  ·omega
 ·rcases(T2.vE i hi).2 with h|h
  ·simp only[List.mem_cons,List.mem_append] at h
   rcases h with rfl|h|h
   ·exact .inl T.stb.hL
   ·exact(T.vE i h).2
   ·rcases T.stb.sub i h with h|h
    ·exact .inl (T.stb.hS i h)
    ·exact .inr h
  ·exact .inr (by omega)
 ·have h1:=T.at.1 i hi
  have h2:=h1.2
  simp only[List.mem_cons,not_or] at h2
  refine T2.stb.fr.2 i h1.1 ?_
  simp only[List.mem_cons,List.mem_append,not_or]
  exact⟨h2.1,λhm=>(T.vE i hm).1 hi,h2.2⟩
theorem RS.alt(T:RS l pr L S I0 E h w nx vs X K V I)(hX:X.length<=X2.length)(hL:X2[L]?=some (lwR l pr V2 nx2 w K))(e:∀i,i<X.length->i≠L->i∉vi V->X2[i]?=X[i]?)(hv:VAt X2 V2 vs2)(hv2:∀i∈vi V2,i∈vi V\/X.length<=i):RS l pr L S I0 E h w nx2 vs2 X2 K V2 I/\∀i∈E,X2[i]?=X[i]?:=by
 have hXl:=T.stb.fr.1
 have hI:∀i∈I,X2[i]?=X[i]?:=λi hi=>e i (T.stb.ls.own.lt hi) (λe=>(List.nodup_cons.1 T.stb.ls.nd).1 (e▸hi)) λhm=>(T.at.2 i hm).2 (by simp[hi])
 refine⟨⟨⟨⟨hL,T.stb.ls.own.frame hI,T.stb.ls.nd,T.stb.ls.noc.1,λkid n rows eK hg=>?_⟩,T.stb.fr.trans (T:=L::vi V) ⟨hX,λi hi hn=>?_⟩ λj hj=>?_,T.stb.hL,T.stb.hS,T.stb.sub,λi hi=>?_⟩,hv,λi hi=>⟨λhE=>?_,?_⟩⟩,λi hi=>?_⟩
 ·have ho:=T.stb.ls.own
  rw[eK] at ho
  rw[hI kid (pR ho)] at hg
  exact T.stb.ls.noc.2 kid n rows eK hg
 ·simp only[List.mem_cons,not_or] at hn
  exact e i hi hn.1 hn.2
 ·rcases List.mem_cons.1 hj with rfl|hj
  ·exact .inl T.stb.hL
  ·exact(T.vE j hj).2
 ·rcases List.mem_append.1 hi with h|h
  ·refine⟨hv.lt i h,?_⟩
   rcases hv2 i h with h|h
   ·exact(T.at.2 i h).2
   ·simp only[List.mem_cons,not_or]
    exact⟨by have:=T.stb.ls.lt;omega,λhm=>by have:=T.stb.ls.own.lt hm;omega⟩
  ·have:=T.at.1 i h
   exact⟨by omega,this.2⟩
 ·rcases hv2 i hi with h|h
  ·exact(T.vE i h).1 hE
  ·have:=(T.at.1 i hE).1;omega
 ·rcases hv2 i hi with h|h
  ·exact(T.vE i h).2
  ·exact .inr (by omega)
 ·have h1:=T.at.1 i hi
  refine e i h1.1 (λe=>h1.2 (by simp[e])) λhm=>(T.vE i hm).1 hi
theorem VAt.form(H:VAt X V vs):(V= .nils/\vs=[])\/∃vid,V= .sl vid 3 0 vs.length:=by
 cases H with
 |nil=>exact .inl ⟨rfl,rfl⟩
 |sl vid rows _ _ _=>exact .inr ⟨vid,rfl⟩
variable (G:aB)
theorem jt(T:RS l pr L S I0 E h w nx vs X K V I){B:Nat}(hok:w.Ok B)(hB:B<=1073741824):
 AC Try.prog G bK [.ptr L 8 0 0] X λr h'=>r= .ret (.p (.int .i64 w.bs.length))/\∃K' I',RS l pr L S I0 E h (w.name 1) nx vs h' K' V I'/\∀i∈E,h'[i]?=X[i]?:=
 (rI G T.stb.ls hok hB ⟨T.va.is.1,T.va.is.2.1⟩).mono λr h' ⟨a,b⟩=>⟨a,T.step (J:=[]) (λj hj=>by cases hj) (by rw[List.append_nil];exact b)⟩
theorem pV(T:RS l pr L S I0 E h w nx vs X K V I){B:Nat}(hok:w.Ok B)(j o:Int)(a:Int)(g:Nat){gI:Int}(hg:gI=(g:Int)):
 AC Try.prog G bh [.ptr L 8 0 0,.p (.int .i64 j),.p (.int .i64 o),.sl X.length 1 0 1,.p (.int .i64 gI)] (X++[.row 1 [[.p (.int .i64 a)]]]) λr h'=>r= .ret (.tup [])/\∃K' I',RS l pr L S I0 E h (w.fin j o g [a]) nx vs h' K' V I'/\∀i∈E,h'[i]?=X[i]?:=by
 obtain⟨f1,f2⟩:=T.fresh
 have hm:=ln G (T.stb.ls.more [.row 1 ([a].map λn=>[AV.p (.int .i64 n)])]) hok j o g [a] (fB X [a] rfl) (by simp) f2
 simp only[List.map_cons,List.map_nil,List.length_cons,List.length_nil] at hm
 rw[hg]
 refine hm.mono λr h' ⟨e,b⟩=>⟨e,?_⟩
 obtain⟨K2,I2,a1,a2⟩:=(T.more [_]).step f1 b
 exact⟨K2,I2,a1,λi hi=>(a2 i hi).trans (List.getElem?_append_left (T.at.1 i hi).1)⟩
theorem AE(T:RS l pr L S I0 E h w nx vs X K V I){B:Nat}(hok:w.Ok B)(j o:Int)(a b:Int)(g:Nat){gI:Int}(hg:gI=(g:Int)):
 AC Try.prog G bh [.ptr L 8 0 0,.p (.int .i64 j),.p (.int .i64 o),.sl X.length 1 0 2,.p (.int .i64 gI)] (X++[.row 1 [[.p (.int .i64 a)],[.p (.int .i64 b)]]]) λr h'=>r= .ret (.tup [])/\∃K' I',RS l pr L S I0 E h (w.fin j o g [a,b]) nx vs h' K' V I'/\∀i∈E,h'[i]?=X[i]?:=by
 obtain⟨f1,f2⟩:=T.fresh
 have hm:=ln G (T.stb.ls.more [.row 1 ([a,b].map λn=>[AV.p (.int .i64 n)])]) hok j o g [a,b] (fB X [a,b] rfl) (by simp) f2
 simp only[List.map_cons,List.map_nil,List.length_cons,List.length_nil] at hm
 rw[hg]
 refine hm.mono λr h' ⟨e,b⟩=>⟨e,?_⟩
 obtain⟨K2,I2,a1,a2⟩:=(T.more [_]).step f1 b
 exact⟨K2,I2,a1,λi hi=>(a2 i hi).trans (List.getElem?_append_left (T.at.1 i hi).1)⟩
theorem FU(T:RS l pr L S I0 E h w nx vs X K V I){B:Nat}(hok:w.Ok B)(j o:Int)(g:Nat){gI:Int}(hg:gI=(g:Int)):
 AC Try.prog G bh [.ptr L 8 0 0,.p (.int .i64 j),.p (.int .i64 o),.p (aC []),.p (.int .i64 gI)] X λr h'=>r= .ret (.tup [])/\∃K' I',RS l pr L S I0 E h (w.fin j o g []) nx vs h' K' V I'/\∀i∈E,h'[i]?=X[i]?:=by
 rw[hg]
 exact(ln G T.stb.ls hok j o g [] (Y:= .p (aC [])) (J:=[]) (.p _ (λh=>by cases h) .nil) List.nodup_nil (λj hj=>by cases hj)).mono λr h' ⟨e,b⟩=>⟨e,T.step (J:=[]) (λj hj=>by cases hj) b⟩
theorem Be(T:RS l pr L S I0 E h w nx vs X K V I){B:Nat}(hok:w.Ok B)(hB:B<=1073741824)(x:Ii){A:AV}(hA:OwnL false X [A] [aC x.args] J)(ndJ:J.Nodup)(hJ:∀j∈J,h.length<=j/\j∉vi V++E)(hJ2:∀j∈J,j≠L/\j∉I):
 AC Try.prog G bJ [.ptr L 8 0 0,.p (.int .i64 x.op),.p (.int .i64 x.to),.p (.int .i64 x.n),A] X λr h'=>r= .ret (.p (.int .i64 x.to))/\∃K' I',RS l pr L S I0 E h (w.put x) nx vs h' K' V I'/\∀i∈E,h'[i]?=X[i]?:=
 (mb G T.stb.ls hok hB x hA ndJ hJ2).mono λr h' ⟨e,b⟩=>⟨e,T.step hJ b⟩
theorem Iv(T:RS l pr L S I0 E h w nx vs X K V I){B:Nat}(hok:w.Ok B){e:Ex}(hB:B+8*e.sz<=1073741823)(he:ExR G l pr L V nx vs e):
 AC Try.prog G aV [.ptr L 8 0 0,.agg (e.cs.map .p)] X λx h'=>x= .ret (.p (.int .i64 (lwE (faI l) (rgV vs) e w).1))/\∃K' I',RS l pr L S I0 E h (lwE (faI l) (rgV vs) e w).2 nx vs h' K' V I'/\∀i∈E,h'[i]?=X[i]?:=
 (he w X K I B T.stb.ls hok hB T.va (λi hi=>(T.at.2 i hi).2)).mono λr h' ⟨e,b⟩=>⟨e,T.step (J:=[]) (λj hj=>by cases hj) (by rw[List.append_nil];exact b)⟩
def Cp(l0:List Fd)(pr:Int)(L:Nat)(l:List Sm):Prop:=∀(w:Lw) (h:List AO) (K V:AV) (I:List Nat) (B:Nat) (vs:Vs) (nx:Nat) (m:Scp) (up:List Scp),RS l0 pr L (L::(vi V++I)) I [] h w nx vs h K V I->w.Ok B->B+20*aM l<=1073741000->nx+aM l<=1073741000->vs.length+aM l<=1073741000->rgV vs=scF (-1) (m::up)->
 AC Try.prog G aX [.ptr L 8 0 0,.p (smL l)] h λx h'=>x= .ret (.tup [])/\∃K' V' I',RS l0 pr L (L::(vi V++I)) I [] h (aU (faI l0) (-1) l m up nx w).2.2 (aU (faI l0) (-1) l m up nx w).2.1 vs h' K' V' I'
def StR(l0:List Fd)(pr:Int)(L:Nat)(s:Sm):Prop:=∀(w:Lw) (h:List AO) (K V:AV) (I:List Nat) (B:Nat) (vs:Vs) (nx:Nat) (m:Scp) (up:List Scp),RS l0 pr L (L::(vi V++I)) I [] h w nx vs h K V I->w.Ok B->B+20*s.sz<=1073741000->nx+s.sz<=1073741000->vs.length+s.sz<=1073741000->rgV vs=scF (-1) (m::up)->
 AC Try.prog G dU [.ptr L 8 0 0,.agg (s.cs.map .p)] h λx h'=>x= .ret (.tup [])/\∃vs' K' V' I',RS l0 pr L (L::(vi V++I)) I [] h (lwS (faI l0) (-1) s m up nx w).2.2 (lwS (faI l0) (-1) s m up nx w).2.1 vs' h' K' V' I'/\vs'.take vs.length=vs/\vs.length<=vs'.length/\vs'.length<=vs.length+1/\rgV vs'=scF (-1) ((lwS (faI l0) (-1) s m up nx w).1::up)
theorem pN{b:List Sm}(hb:Cp G l pr L b)(T:RS l pr L S I0 E h w nx vs X K V I){B:Nat}{m:Scp}{up:List Scp}(hok:w.Ok B)(h1:B+20*aM b<=1073741000)(h2:nx+aM b<=1073741000)(h3:vs.length+aM b<=1073741000)(h4:rgV vs=scF (-1) (m::up)):
 AC Try.prog G aX [.ptr L 8 0 0,.p (smL b)] X λx h'=>x= .ret (.tup [])/\∃K' V' I',RS l pr L S I0 E h (aU (faI l) (-1) b m up nx w).2.2 (aU (faI l) (-1) b m up nx w).2.1 vs h' K' V' I'/\∀i∈E,h'[i]?=X[i]?:=
 (hb w X K V I B vs nx m up T.start hok h1 h2 h3 h4).mono λr h' ⟨e,K',V',I',T2⟩=>⟨e,K',V',I',T.lift T2⟩
end
end
section
theorem Is{fa:List UInt8->Int}{d:Int}{s:Sm}(h:s.op=6){a0:Ex}{ar:List Ex}(ha:s.args=a0::ar)(m:Scp)(up:List Scp)(nx:Nat)(w:Lw){x:Int × Lw}(hx:x=lwE fa (scF d (m::up)) a0 ((w.name 3).fin 1 0 w.bs.length [(w.bs.length:Int)])){y:Scp × Nat × Lw}(hy:y=aU fa d s.body [] (m::up) nx (x.2.fin 2 x.1 (w.bs.length+1) [(w.bs.length:Int)+1,(w.bs.length:Int)+2])):
 lwS fa d s m up nx w=(m,y.2.1,y.2.2.fin 1 0 (w.bs.length+2) [(w.bs.length:Int)]):=by
 subst hy;subst hx
 obtain⟨o,n,a,bd,el⟩:=s
 simp only[Sm.op,Sm.args] at h ha
 rw[lwS,if_pos h,ha];rfl
theorem Ik{fa:List UInt8->Int}{d:Int}{s:Sm}(h:¬s.op=6)(m:Scp)(up:List Scp)(nx:Nat)(w:Lw){x:List Int × Lw}(hx:x=bA fa (scF d (m::up)) s.args w):
 lwS fa d s m up nx w=if s.op=1 then(mw m s.name nx,nx+1,x.2.put ⟨2,nx,x.1,0⟩)
  else if s.op=2 then(m,nx,x.2.put ⟨2,scF d (m::up) s.name,x.1,0⟩)
  else if s.op=3 then(m,nx,x.2.put ⟨13,-1,x.1,0⟩)
  else if s.op=4 then(m,nx,x.2.put ⟨12,-1,x.1,0⟩)
  else if s.op=5 then
   let t:=x.2.bs.length
   let y:=aU fa d s.body [] (m::up) nx ((x.2.name 3).fin 2 (x.1.headD 0) t [(t:Int),(t:Int)+1])
   let z:=aU fa d s.els [] (m::up) y.2.1 (y.2.2.fin 1 0 (t+1) [(t:Int)+2])
   (m,z.2.1,z.2.2.fin 1 0 (t+2) [(t:Int)+2])
  else if s.op=7 then(m,nx,(x.2.name 1).fin 3 (x.1.headD 0) x.2.bs.length [])
  else(m,nx,x.2):=by
 subst hx
 obtain⟨o,n,a,bd,el⟩:=s
 simp only[Sm.op] at h
 rw[lwS,if_neg h];rfl
variable (G:aB)
end
section
theorem RS.ofStg{l:List Fd}{pr:Int}{L:Nat}{I:List Nat}{h hB:List AO}{w:Lw}{nx:Nat}{vs:Vs}{X:List AO}{K V:AV}{I1:List Nat}{oid:Nat}(S:Stg (lwR l pr V nx) L I (h.length::vi V) h hB w X K I1)(hv:VAt X V vs)(hV:∀i∈vi V,i<h.length)(ho:oid<X.length)(hoE:oid∉h.length::vi V)(hoI:oid∉L::I1):RS l pr L (L::(vi V++I)) I [oid,h.length] h w nx vs X K V I1:=by
 refine⟨⟨S.ls,⟨S.fr.1,λi hi hn=>S.fr.2 i hi λhm=>hn ?_⟩,by simp,λj hj=>by simp[hj],S.sub,λi hi=>?_⟩,hv,λi hi=>⟨λhm=>?_,.inl (by simp[hi])⟩⟩
 ·rcases List.mem_cons.1 hm with rfl|hm
  ·simp
  ·simp[hm]
 ·simp only[List.mem_append,List.mem_cons,List.not_mem_nil,or_false] at hi
  rcases hi with hi|rfl|rfl
  ·exact S.ap i (by simp[hi])
  ·exact⟨ho,hoI⟩
  ·exact S.ap _ (by simp)
 ·simp only[List.mem_cons,List.not_mem_nil,or_false] at hm
  rcases hm with rfl|rfl
  ·exact hoE (by simp[hi])
  ·have:=hV _ hi;omega
variable (G:aB)
theorem Ga(l0:List Fd)(hl0:l0.length<=1073741824)(pr:Int)(L:Nat)(s:Sm)(o6:s.op=6)(hne:s.args≠[])(ha:∀a∈s.args,bL 6 a=true)(hb:Cp G l0 pr L s.body){w:Lw}{h:List AO}{K V:AV}{I:List Nat}{B:Nat}{vs:Vs}{nx:Nat}{m:Scp}{up:List Scp}(T:RS l0 pr L (L::(vi V++I)) I [] h w nx vs h K V I)(hok:w.Ok B)(hB:B+20*s.sz<=1073741000)(hnx:nx+s.sz<=1073741000)(hvl:vs.length+s.sz<=1073741000)(hrg:rgV vs=scF (-1) (m::up)):
 AC Try.prog G dV [.ptr L 8 0 0,.agg (s.cs.map .p)] h λx h'=>x= .ret (.tup [])/\∃K' V' I',RS l0 pr L (L::(vi V++I)) I [] h (lwS (faI l0) (-1) s m up nx w).2.2 (lwS (faI l0) (-1) s m up nx w).2.1 vs h' K' V' I'/\(lwS (faI l0) (-1) s m up nx w).1=m:=by
 have hsc:=s.cs_eq
 have hsz:=s.sz_eq
 obtain⟨a0,ar,ha0⟩:∃a r,s.args=a::r:=by
  match hx:s.args,hne with
  |a::r,_=>exact⟨a,r,rfl⟩
 obtain⟨t,ht⟩:∃t,t=w.bs.length:=⟨_,rfl⟩
 have hac:=a0.cs_eq
 have hkx:exL s.args= .lst 4 ([.int .i64 a0.op,.int .i64 a0.n,.str a0.name,exL a0.kids]::ar.map Ex.cs):=by rw[ha0,←hac];rfl
 have haz:aP s.args=a0.sz+aP ar:=by rw[ha0,aP]
 have htb:t<=B:=by rw[ht];exact hok.bs
 have T0:=T.box (AO.row 5 [[.p (.int .i64 6),.p (.str s.name),.p (exL s.args),.p (smL s.body),.p (smL s.els)]])
 have r0:(h++[AO.row 5 [[.p (.int .i64 6),.p (.str s.name),.p (exL s.args),.p (smL s.body),.p (smL s.els)]]])[h.length]?=some (AO.row 5 [[.p (.int .i64 6),.p (.str s.name),.p (exL s.args),.p (smL s.body),.p (smL s.els)]]):=by simp
 rw[hkx] at T0 r0
 refine AC.go nQ ?_
 rw[hsc,o6,hkx]
 simp-implicitDefEqProofs[-AV.cells,-AV.isCell,aD,ae,ah,an,al,aE,af,am,aj,-Lw.name_len,gQ]
 refine(jt G T0 hok (by omega)).mono ?_
 rintro x X1 ⟨rfl,K1,I1,T1,e1⟩
 have r1:=(e1 h.length (by simp)).trans r0
 have ok1:=hok.name 1
 have hl1:(w.name 1).bs.length=t+1:=by rw[Lw.name_len,ht]
 simp-implicitDefEqProofs[-AV.cells,-AV.isCell,aD,ae,ah,an,al,aE,af,am,aj,-Lw.name_len,aa,←ht]
 refine(jt G T1 ok1 (by omega)).mono ?_
 rintro x X2 ⟨rfl,K2,I2,T2,e2⟩
 have r2:=(e2 h.length (by simp)).trans r1
 have ok2:=ok1.name 1
 have hl2:((w.name 1).name 1).bs.length=t+2:=by rw[Lw.name_len,hl1]
 simp-implicitDefEqProofs[-AV.cells,-AV.isCell,aD,ae,ah,an,al,aE,af,am,aj,-Lw.name_len,aa,hl1]
 refine(jt G T2 ok2 (by omega)).mono ?_
 rintro x X3 ⟨rfl,K3,I3,T3,e3⟩
 have r3:=(e3 h.length (by simp)).trans r2
 have ok3:(w.name 3).Ok (B+3):=hok.name 3
 have hn3:((w.name 1).name 1).name 1=w.name 3:=by rw[Lw.name_name,Lw.name_name]
 rw[hn3] at T3
 simp-implicitDefEqProofs[-AV.cells,-AV.isCell,aD,ae,ah,an,al,aE,af,am,aj,-Lw.name_len,aa,hl2]
 refine(pV G T3 ok3 1 0 t t rfl).mono ?_
 rintro x X4 ⟨rfl,K4,I4,T4,e4⟩
 have r4:=(e4 h.length (by simp)).trans r3
 have ok4:=ok3.fin 1 0 (g:=t) (by rw[Lw.name_len,ht];omega) [(t:Int)]
 simp-implicitDefEqProofs[-AV.cells,-AV.isCell,aD,ae,ah,an,al,aE,af,am,aj,-Lw.name_len,aa,r4]
 have h5:=Iv G T4 ok4 (e:=a0) (by omega) (Ba G l0 hl0 pr L V nx vs (by omega) 6 a0 (ha a0 (by rw[ha0];simp)))
 obtain⟨ok5,len5⟩:=mi (faI l0) (rgV vs) a0 _ _ ok4
 obtain⟨x5,hx5⟩:∃x5,x5=lwE (faI l0) (rgV vs) a0 ((w.name 3).fin 1 0 t [(t:Int)]):=⟨_,rfl⟩
 rw[hac,←hx5] at h5
 rw[←hx5] at ok5 len5
 simp only[Lw.fin_len,Lw.name_len,←ht] at len5
 refine h5.mono ?_
 rintro x X5 ⟨rfl,K5,I5,T5,e5⟩
 have r5:=(e5 h.length (by simp)).trans r4
 simp-implicitDefEqProofs[-AV.cells,-AV.isCell,aD,ae,ah,an,al,aE,af,am,aj,-Lw.name_len,aa]
 refine(AE G T5 ok5 2 x5.1 ((t:Int)+1) ((t:Int)+2) (t+1) (by omega)).mono ?_
 rintro x X6 ⟨rfl,K6,I6,T6,e6⟩
 have r6:=(e6 h.length (by simp)).trans r5
 have ok6:=ok5.fin 2 x5.1 (g:=t+1) (by omega) [(t:Int)+1,(t:Int)+2]
 simp-implicitDefEqProofs[-AV.cells,-AV.isCell,aD,ae,ah,an,al,aE,af,am,aj,-Lw.name_len,aa,r6]
 have h7:=pN G hb T6 (m:=[]) (up:=m::up) ok6 (by omega) (by omega) (by omega) (by rw[hrg];rfl)
 have okb:=eg (faI l0) (-1) s.body [] (m::up) nx _ _ ok6
 obtain⟨y7,hy7⟩:∃y,y=aU (faI l0) (-1) s.body [] (m::up) nx (x5.2.fin 2 x5.1 (t+1) [(t:Int)+1,(t:Int)+2]):=⟨_,rfl⟩
 rw[←hy7] at h7 okb
 refine h7.mono ?_
 rintro x X7 ⟨rfl,K7,V7,I7,T7,e7⟩
 obtain⟨ok7,len7,nx7,nxx7⟩:=okb
 simp-implicitDefEqProofs[-AV.cells,-AV.isCell,aD,ae,ah,an,al,aE,af,am,aj,-Lw.name_len,aa]
 refine(pV G T7 ok7 1 0 t (t+2) (by omega)).mono ?_
 rintro x X8 ⟨rfl,K8,I8,T8,e8⟩
 simp-implicitDefEqProofs[-AV.cells,-AV.isCell,aD,ae,ah,an,al,aE,af,am,aj,-Lw.name_len,aa]
 subst ht
 rw[hrg] at hx5
 rw[Is o6 ha0 m up nx w hx5 hy7]
 exact⟨⟨K8,V7,I8,T8.few (λi hi=>by cases hi)⟩,rfl⟩
theorem Ge(l0:List Fd)(hl0:l0.length<=1073741824)(pr:Int)(L:Nat)(s:Sm)(hne:s.args≠[])(ha:∀a∈s.args,bL 6 a=true)(hb:Cp G l0 pr L s.body)(he:Cp G l0 pr L s.els):StR G l0 pr L s:=by
 intro w h K V I B vs nx m up T hok hB hnx hvl hrg
 have hsc:=s.cs_eq
 have hsz:=s.sz_eq
 have H:=T.stb.ls
 have hV:=T.va
 have hVd:=λi hi=>(T.at.2 i hi).2
 have hLl:=H.lt
 have hxl:∀l,exL l= .lst 4 (l.map Ex.cs):=λ_=>rfl
 obtain⟨v1,v2,v3⟩:=hV.is
 obtain⟨E,hE⟩:∃E,E=h.length::vi V:=⟨_,rfl⟩
 obtain⟨bo,hbo⟩:∃bo,bo=AO.row 5 [[.p (.int .i64 s.op),.p (.str s.name),.p (exL s.args),.p (smL s.body),.p (smL s.els)]]:=⟨_,rfl⟩
 refine AC.go nH ?_
 rw[hsc]
 by_cases o6:s.op=6
 ·have T0:=T.box bo
  have hF:=Ga G l0 hl0 pr L s o6 hne ha hb T0.start hok hB hnx hvl hrg
  rw[hsc] at hF
  rw[o6] at hbo hF
  simp-implicitDefEqProofs[-AV.cells,-AV.isCell,aD,ae,ah,an,al,aE,af,am,aj,-Lw.name_len,dK,o6]
  rw[←hbo]
  refine hF.mono ?_
  rintro x X1 ⟨rfl,K1,V1,I1,T1,hm1⟩
  simp-implicitDefEqProofs[-AV.cells,-AV.isCell,aD,ae,ah,an,al,aE,af,am,aj,-Lw.name_len,aa]
  exact⟨vs,⟨K1,V1,I1,(T0.lift T1).1.few (λi hi=>by cases hi)⟩,by rw[List.take_length],Nat.le_refl _,by omega,by rw[hm1];exact hrg⟩
 have hS0:Stg (lwR l0 pr V nx) L I E h (h++[bo]) w (h++[bo]) K I:=Stg.of H [bo] (λi hi=>by
  rw[hE] at hi
  rcases List.mem_cons.1 hi with rfl|hi
  ·refine⟨by simp,?_⟩
   simp only[List.mem_cons,not_or]
   exact⟨by have:=H.lt;omega,λhm=>by have:=H.own.lt hm;omega⟩
  ·exact⟨by have:=hV.lt i hi;simp;omega,hVd i hi⟩)
 have hb0:(h++[bo])[h.length]?=some bo:=by simp
 have kE:∀{w2:Lw} {X:List AO} {K2:AV} {I2:List Nat},Stg (lwR l0 pr V nx) L I E h (h++[bo]) w2 X K2 I2->X[h.length]?=some bo/\VAt X V vs/\(∀i∈vi V,i∉L::I2):=λ{w2 X K2 I2} S=>⟨(S.keep _ (by rw[hE];simp)).trans hb0,(hV.more [bo]).frame λi hi=>S.keep i (by rw[hE];simp[hi]),λi hi=>(S.ap i (by rw[hE];simp[hi])).2⟩
 have hal:=fe s.args
 have hbl:(h++[bo]).length=h.length+1:=by simp
 simp-implicitDefEqProofs[-AV.cells,-AV.isCell,aD,ae,ah,an,al,aE,af,am,aj,-Lw.name_len,dK,o6,hxl]
 refine Hj 0 (λts' X=>∃oid K1 I1,Stg (lwR l0 pr V nx) L I E h (h++[bo]) (bA (faI l0) (rgV vs) s.args w).2 X K1 I1/\X[oid]?=some (pH (bA (faI l0) (rgV vs) s.args w).1)/\h.length<oid/\oid∉E/\oid∉L::I1/\∃z,ts'=aA 132 ((20,z)::(19,.p (.int .i64 s.args.length))::(18,.p (.lst 4 (s.args.map Ex.cs)))::(17,.ptr h.length 5 0 2)::(16,.p (.int .i64 s.args.length))::[(4,.sl oid 1 0 s.args.length),(5,.p (.int .i64 s.args.length)),(3,.ptr h.length 5 0 0),(0,.ptr L 8 0 0)])) (λQ' qE=>?_) ?_
 ·rw[hxl] at hbo
  have S00:Stg (lwR l0 pr V nx) L I E h (h++[bo]) w (h++[bo]++[.row 1 []]) K I:=hS0.more _
  have e0:h++[bo]++[AO.row 1 []]=h++[bo,.row 1 []]:=by simp
  rw[e0] at S00
  have hvE:h.length+1∉E:=λhm=>by have:=(hS0.ap _ hm).1;simp at this
  refine aH (λa:MpQ=>aA 132 [(4,.sl a.o 1 0 a.i),(5,.p (.int .i64 a.i)),(3,.ptr h.length 5 0 0),(0,.ptr L 8 0 0)]) (λa=>a.X)
   (λa=>a.i<=s.args.length/\∃K1 I1,Stg (lwR l0 pr V nx) L I E h (h++[bo]) (bA (faI l0) (rgV vs) (s.args.take a.i) w).2 a.X K1 I1/\a.X[a.o]?=some (pH (bA (faI l0) (rgV vs) (s.args.take a.i) w).1)/\h.length<a.o/\a.o∉E/\a.o∉L::I1) (λa=>s.args.length-a.i) ⟨0,h++[bo,.row 1 []],h.length+1⟩ ⟨Nat.zero_le _,K,I,by rw[List.take_zero,bA];exact S00,by rw[List.take_zero,bA,←e0,List.getElem?_append_right (by simp)];simp[pH],by simp,hvE,by
     simp only[List.mem_cons,not_or]
     exact⟨by omega,λhm=>by have:=H.own.lt hm;omega⟩⟩ ?_ ?_
  ·rw[hbo]
   exact ab (by simp) (by simp[below];omega)
  rintro⟨i,X,o⟩ ⟨hi,K1,I1,S,hx,ho,hoE,hoI⟩
  simp only at hi S hx ho hoE hoI
  have hXl:=S.fr.1
  have hXL:=S.ls.lt
  have hox:o<X.length:=(List.getElem?_eq_some_iff.1 hx).1
  have hlen:(bA (faI l0) (rgV vs) (s.args.take i) w).1.length=i:=by rw[gA,List.length_take];omega
  obtain⟨y0,yV,yd⟩:=kE S
  rw[hbo] at y0
  have hbX:h.length<X.length:=(List.getElem?_eq_some_iff.1 y0).1
  simp-implicitDefEqProofs[y0]
  refine aF (λhc1=>?_) (λhc1=>?_)
  ·simp at hc1
   have hg:=List.getElem?_eq_getElem hc1
   have hm:=List.getElem_mem hc1
   have htk:=tP (fa:=faI l0) (sc:=rgV vs) hc1 w
   have hok1:=(jC (faI l0) (rgV vs) (s.args.take i) w B hok).1
   have hzt:aP (s.args.take i)+s.args[i].sz<=aP s.args:=by
    have h1:=List.take_append_drop (i+1) s.args
    have h2:aP s.args=aP (s.args.take (i+1))+aP (s.args.drop (i+1)):=by
     conv=>lhs;rw[←h1]
     rw[dH]
    rw[au hc1,dH] at h2
    simp only[aP] at h2
    omega
   have hcall:=Ba G l0 hl0 pr L V nx vs (by omega) 6 s.args[i] (ha _ hm) _ _ K1 I1 _ S.ls hok1 (by omega) yV yd
   generalize s.args[i]=k at*
   have hkc:=k.cs_eq
   generalize bA (faI l0) (rgV vs) (s.args.take i) w=cur at*
   obtain⟨out,w1⟩:=cur
   simp only at htk hcall hok1 S hx hlen
   rw[hkc] at hcall
   simp-implicitDefEqProofs[-AV.cells,-AV.isCell,aD,ae,ah,an,al,aE,af,am,aj,-Lw.name_len,y0,hg,hkc]
   refine hcall.mono ?_
   rintro r X2 ⟨rfl,hlr⟩
   have hl2:X.length<=X2.length:=by obtain⟨_,_,_,a,_⟩:=hlr;exact a.1
   have hx2:X2[o]?=some (pH out):=by
    obtain⟨_,_,_,a,_⟩:=hlr
    rw[a.2 o hox hoI];exact hx
   have hE2:∀j∈o::E,j<X.length/\j∉L::I1:=λj hj=>by
    rcases List.mem_cons.1 hj with rfl|hj
    ·exact⟨hox,hoI⟩
    ·exact S.ap j hj
   obtain⟨K2,I2,S2o⟩:=(show Stg (lwR l0 pr V nx) L I (o::E) h X w1 X K1 I1 from⟨S.ls,S.fr,S.sub,λ_ _=>rfl,hE2,Nat.le_refl _⟩).step (J:=[]) (λj hj=>by cases hj) (by rw[List.append_nil];exact hlr)
   have hoI2:o∉L::I2:=(S2o.ap o (by simp)).2
   have S2:Stg (lwR l0 pr V nx) L I E h (h++[bo]) _ X2 K2 I2:=⟨S2o.ls,S2o.fr,S2o.sub,λj hj=>(S2o.keep j (by simp[hj])).trans (S.keep j hj),λj hj=>S2o.ap j (by simp[hj]),Nat.le_trans S.ge hl2⟩
   have hx2':∀t,(X2++t)[o]?=some (.row 1 (out.map λn=>[AV.p (.int .i64 n)])):=λt=>by rw[List.getElem?_append_left (by omega)];exact hx2
   have hot:List.take i (out.map λn=>[AV.p (.int .i64 n)])=out.map λn=>[AV.p (.int .i64 n)]:=List.take_of_length_le (by simp;omega)
   simp-implicitDefEqProofs[-AV.cells,-AV.isCell,aD,ae,ah,an,al,aE,af,am,aj,-Lw.name_len,aa,hx2',hlen,hot]
   refine⟨by omega,⟨i+1,_,X2.length+1⟩,⟨by simp only;omega,K2,I2,by
    rw[htk]
    exact S2.upd (oid:=o) (by simp;omega) (λj hj hn=>by rw[List.getElem?_append_left (by simp;omega),List.getElem?_set_ne (Ne.symm hn),List.getElem?_append_left hj]) (by omega) hoE hoI2,?_,by simp only;omega,λhm=>by have:=(S2.ap _ hm).1;simp only at this;omega,?_⟩,by simp only;omega,ab (by simp;omega) ?_⟩
   ·rw[htk,List.getElem?_append_right (by simp)];simp[pH]
   ·simp only[List.mem_cons,not_or]
    exact⟨by have:=S2.ls.lt;omega,λhm=>by have:=S2.ls.own.lt hm;omega⟩
   ·simp[below,show IntKind.i64.wrap ((i:Int)+1)=(i:Int)+1 from ag (by omega) (by omega)]
    omega
  ·simp at hc1
   have hie:i=s.args.length:=by omega
   subst hie
   rw[List.take_length] at S hx hlen
   simp-implicitDefEqProofs[]
   exact qE _ _ ⟨o,K1,I1,S,hx,ho,hoE,hoI,_,rfl⟩
 ·rintro ts' X ⟨oid,K1,I1,S,hx,ho,hoE,hoI,z,rfl⟩
  obtain⟨y0,yV,yd⟩:=kE S
  rw[hbo] at y0
  obtain⟨okm,lenm⟩:=jC (faI l0) (rgV vs) s.args w B hok
  have hlm:=gA (faI l0) (rgV vs) s.args w
  obtain⟨t1,ht1⟩:∃x,x=bA (faI l0) (rgV vs) s.args w:=⟨_,rfl⟩
  have heq:=Ik (fa:=faI l0) (d:= -1) o6 m up nx w (x:=t1) (by rw[←hrg];exact ht1)
  rw[←ht1] at S hx okm lenm hlm
  have hA:OwnL false X [.sl oid 1 0 s.args.length] [aC t1.1] [oid]:=rT hx hlm.symm
  have hox:=(List.getElem?_eq_some_iff.1 hx).1
  rw[hE] at S hoE
  have To:RS l0 pr L (L::(vi V++I)) I [oid,h.length] h t1.2 nx vs X K1 V I1:=RS.ofStg S yV hV.lt hox hoE hoI
  have Tq:RS l0 pr L (L::(vi V++I)) I [h.length] h t1.2 nx vs X K1 V I1:=To.few (by simp)
  have hJ:∀j∈[oid],h.length<=j/\j∉vi V++[h.length]:=λj hj=>by
   rw[List.mem_singleton.1 hj]
   refine⟨by omega,λhm=>hoE ?_⟩
   rcases List.mem_append.1 hm with hm|hm
   ·simp[hm]
   ·rw[List.mem_singleton.1 hm];simp
  have hJ2:∀j∈[oid],j≠L/\j∉I1:=λj hj=>by
   rw[List.mem_singleton.1 hj]
   simpa only[List.mem_cons,not_or] using hoI
  have r1:=y0
  have yL:=S.ls.here
  simp only[lwR] at yL
  clear ht1
  have hsl0:0<s.args.length:=List.length_pos_iff.2 hne
  have hq:∃q0 qr,t1.1=q0::qr:=by
   match hx:t1.1,s.args,hne,hlm with
   |q::r,_,_,_=>exact⟨q,r,rfl⟩
   |[],[],h,_=>exact(h rfl).elim
   |[],_::_,_,h=>simp at h
  simp-implicitDefEqProofs[-AV.cells,-AV.isCell,aD,ae,ah,an,al,aE,af,am,aj,-Lw.name_len,r1]
  refine aF (λo1=>?_) (λo1=>?_)
  ·have o1:s.op=1:=by simpa using o1
   simp-implicitDefEqProofs[-AV.cells,-AV.isCell,aD,ae,ah,an,al,aE,af,am,aj,-Lw.name_len,r1,yL]
   refine(Be G Tq okm (by omega) ⟨2,nx,t1.1,0⟩ hA (by simp) hJ hJ2).mono ?_
   rintro x X1 ⟨rfl,K2,I2,T2,e2⟩
   simp-implicitDefEqProofs[-AV.cells,-AV.isCell,aD,ae,ah,an,al,aE,af,am,aj,-Lw.name_len,aa]
   have vform:=T2.va
   have dl:=(T2.at.2)
   have yL2:=T2.stb.ls.here
   simp only[lwR] at yL2
   have r2:=(e2 h.length (by simp)).trans r1
   have hrgn:rgV (vs++[(s.name,nx)])=scF (-1) (mw m s.name nx::up):=by
    funext t
    rw[sL,hrg,scF,scF,uN,uN,nk]
    by_cases hst:s.name=t
    ·simp[hst]
    ·simp[hst]
   have hwn:IntKind.i64.wrap ((nx:Int)+1)=(nx:Int)+1:=ag (by omega) (by omega)
   have hLX:=T2.stb.ls.lt
   cases vform with
   |nil=>
    have hLs:∀t o,((X1++t).set L o)[L]?=some o:=λt o=>List.getElem?_set_self (by simp;omega)
    have hLm:∀t,(X1++t)[L]?=X1[L]?:=λt=>List.getElem?_append_left hLX
    have hrm:∀t o,((X1++t).set L o)[h.length]?=X1[h.length]?:=λt o=>by
     rw[List.getElem?_set_ne (λe=>(T2.at.1 h.length (by simp)).2 (by rw[e];simp)),List.getElem?_append_left (T2.at.1 h.length (by simp)).1]
    simp-implicitDefEqProofs[-AV.cells,-AV.isCell,aD,ae,ah,an,al,aE,af,am,aj,-Lw.name_len,r2,yL2,hLm, ↓hLs,hwn,hrm]
    obtain⟨V2,hV2⟩:∃V2,V2=AV.sl X1.length 3 0 1:=⟨_,rfl⟩
    rw[heq,if_pos o1]
    have hX2:∀X2,X2=(X1++[AO.row 3 [[.p (.str s.name),.p (.int .i64 nx),.p (.int .i64 0)]]]).set L (.row 8 [[.p (fdL l0),.p (.int .i64 pr),.p (.int .i64 (t1.2.put ⟨2,nx,t1.1,0⟩).regs),K2,.p (.int .i64 (t1.2.put ⟨2,nx,t1.1,0⟩).pos),.sl X1.length 3 0 1,.p (.int .i64 ((nx:Int)+1)),.nils]])->RS l0 pr L (L::(vi .nils++I)) I [h.length] h (t1.2.put ⟨2,nx,t1.1,0⟩) (nx+1) [(s.name,nx)] X2 K2 (.sl X1.length 3 0 1) I2:=λX2 e=>by
     subst e
     refine(T2.alt (by simp) (by rw[hLs,lwR];simp) (λi hi hn _=>by rw[List.getElem?_set_ne (Ne.symm hn),List.getElem?_append_left hi]) (.sl _ [mh (s.name,nx)] [(s.name,nx)] (by rw[List.getElem?_set_ne (by omega),List.getElem?_append_right (Nat.le_refl _)];simp[mh]) rfl) (λi hi=> .inr (by rw[List.mem_singleton.1 hi];exact Nat.le_refl _))).1
    refine⟨[(s.name,nx)],⟨_,_,_,(hX2 _ (by simp[List.set_set])).few (E2:=[]) (λi hi=>by cases hi)⟩,?_⟩
    simpa using hrgn
   |sl vid rows _ hv1 hv2=>
    have hvX:=(List.getElem?_eq_some_iff.1 hv1).1
    have hvd:=(T2.at.2 vid (by simp[vi])).2
    simp only[List.mem_cons,not_or] at hvd
    have hLs:∀t u o,(((X1++t).set vid .dead++u).set L o)[L]?=some o:=λt u o=>List.getElem?_set_self (by simp;omega)
    have hLm:∀t u,((X1++t).set vid .dead++u)[L]?=X1[L]?:=λt u=>by rw[List.getElem?_append_left (by simp;omega),List.getElem?_set_ne hvd.1,List.getElem?_append_left hLX]
    have hLs0:∀u o,((X1.set vid .dead++u).set L o)[L]?=some o:=λu o=>List.getElem?_set_self (by simp;omega)
    have hLm0:∀u,(X1.set vid .dead++u)[L]?=X1[L]?:=λu=>by rw[List.getElem?_append_left (by simp;omega),List.getElem?_set_ne hvd.1]
    have hvk:vs.length<=rows.length:=by
     have:=congrArg List.length hv2
     rw[List.length_take,List.length_map] at this
     omega
    simp-implicitDefEqProofs[-AV.cells,-AV.isCell,aD,ae,ah,an,al,aE,af,am,aj,-Lw.name_len,r2,yL2,hv1,hv2, ↓hLs, ↓hLm, ↓hLs0, ↓hLm0,hwn]
    rw[heq,if_pos o1]
    have hX2:∀X2,X2=(X1.set vid .dead++[AO.row 3 (vs.map mh++[[.p (.str s.name),.p (.int .i64 nx),.p (.int .i64 0)]])]).set L (.row 8 [[.p (fdL l0),.p (.int .i64 pr),.p (.int .i64 (t1.2.put ⟨2,nx,t1.1,0⟩).regs),K2,.p (.int .i64 (t1.2.put ⟨2,nx,t1.1,0⟩).pos),.sl X1.length 3 0 (vs.length+1),.p (.int .i64 ((nx:Int)+1)),.nils]])->RS l0 pr L (L::(vi (.sl vid 3 0 vs.length)++I)) I [h.length] h (t1.2.put ⟨2,nx,t1.1,0⟩) (nx+1) (vs++[(s.name,nx)]) X2 K2 (.sl X1.length 3 0 (vs.length+1)) I2:=λX2 e=>by
     subst e
     have hlv:(vs++[(s.name,nx)]).length=vs.length+1:=by simp
     refine(T2.alt (by simp) (by rw[hLs0,lwR];simp) (λi hi hn hv=>by
      rw[List.getElem?_set_ne (Ne.symm hn),List.getElem?_append_left (by simpa using hi),List.getElem?_set_ne (λe=>hv (by rw[←e];simp[vi]))]) (hlv▸ .sl _ (vs.map mh++[mh (s.name,nx)]) (vs++[(s.name,nx)]) (by rw[List.getElem?_set_ne (by omega),List.getElem?_append_right (by simp)];simp[mh]) (by rw[List.take_of_length_le (by simp)];simp)) (λi hi=> .inr (by rw[List.mem_singleton.1 hi];exact Nat.le_refl _))).1
    refine⟨⟨by omega,by omega⟩,vs++[(s.name,nx)],⟨_,_,_,(hX2 _ (by simp[List.set_set])).few (E2:=[]) (λi hi=>by cases hi)⟩,?_⟩
    simpa using hrgn
  have o1:¬s.op=1:=by simpa using o1
  simp-implicitDefEqProofs[-AV.cells,-AV.isCell,aD,ae,ah,an,al,aE,af,am,aj,-Lw.name_len,r1]
  refine aF (λo2=>?_) (λo2=>?_)
  ·have o2:s.op=2:=by simpa using o2
   simp-implicitDefEqProofs[-AV.cells,-AV.isCell,aD,ae,ah,an,al,aE,af,am,aj,-Lw.name_len,r1,yL]
   refine(Eu G S.ls.here yV (by omega) s.name).mono ?_
   rintro x X' ⟨rfl,rfl⟩
   simp-implicitDefEqProofs[-AV.cells,-AV.isCell,aD,ae,ah,an,al,aE,af,am,aj,-Lw.name_len,aa,r1]
   refine(Be G Tq okm (by omega) ⟨2,rgV vs s.name,t1.1,0⟩ hA (by simp) hJ hJ2).mono ?_
   rintro x X1 ⟨rfl,K2,I2,T2,e2⟩
   simp-implicitDefEqProofs[-AV.cells,-AV.isCell,aD,ae,ah,an,al,aE,af,am,aj,-Lw.name_len,aa]
   rw[hrg] at T2
   rw[heq,if_neg o1,if_pos o2]
   exact⟨vs,⟨_,_,_,T2.few (λi hi=>by cases hi)⟩,by rw[List.take_length],Nat.le_refl _,by omega,hrg⟩
  have o2:¬s.op=2:=by simpa using o2
  simp-implicitDefEqProofs[-AV.cells,-AV.isCell,aD,ae,ah,an,al,aE,af,am,aj,-Lw.name_len,r1]
  refine aF (λo3=>?_) (λo3=>?_)
  ·have o3:s.op=3:=by simpa using o3
   simp-implicitDefEqProofs[-AV.cells,-AV.isCell,aD,ae,ah,an,al,aE,af,am,aj,-Lw.name_len,r1,yL]
   refine(Be G Tq okm (by omega) ⟨13,-1,t1.1,0⟩ hA (by simp) hJ hJ2).mono ?_
   rintro x X1 ⟨rfl,K2,I2,T2,e2⟩
   simp-implicitDefEqProofs[-AV.cells,-AV.isCell,aD,ae,ah,an,al,aE,af,am,aj,-Lw.name_len,aa]
   rw[heq,if_neg o1,if_neg o2,if_pos o3]
   exact⟨vs,⟨_,_,_,T2.few (λi hi=>by cases hi)⟩,by rw[List.take_length],Nat.le_refl _,by omega,hrg⟩
  have o3:¬s.op=3:=by simpa using o3
  simp-implicitDefEqProofs[-AV.cells,-AV.isCell,aD,ae,ah,an,al,aE,af,am,aj,-Lw.name_len,r1]
  refine aF (λo4=>?_) (λo4=>?_)
  ·have o4:s.op=4:=by simpa using o4
   simp-implicitDefEqProofs[-AV.cells,-AV.isCell,aD,ae,ah,an,al,aE,af,am,aj,-Lw.name_len,r1,yL]
   refine(Be G Tq okm (by omega) ⟨12,-1,t1.1,0⟩ hA (by simp) hJ hJ2).mono ?_
   rintro x X1 ⟨rfl,K2,I2,T2,e2⟩
   simp-implicitDefEqProofs[-AV.cells,-AV.isCell,aD,ae,ah,an,al,aE,af,am,aj,-Lw.name_len,aa]
   rw[heq,if_neg o1,if_neg o2,if_neg o3,if_pos o4]
   exact⟨vs,⟨_,_,_,T2.few (λi hi=>by cases hi)⟩,by rw[List.take_length],Nat.le_refl _,by omega,hrg⟩
  have o4:¬s.op=4:=by simpa using o4
  simp-implicitDefEqProofs[-AV.cells,-AV.isCell,aD,ae,ah,an,al,aE,af,am,aj,-Lw.name_len,r1]
  refine aF (λo7=>?_) (λo7=>?_)
  ·have o7:s.op=7:=by simpa using o7
   obtain⟨q0,qr,hq⟩:=hq
   obtain⟨t,ht⟩:∃t,t=t1.2.bs.length:=⟨_,rfl⟩
   have htb:t<=B+8*aP s.args:=by rw[ht];exact okm.bs
   have ho1:X[oid]?=some (.row 1 ([.p (.int .i64 q0)]::qr.map λn=>[AV.p (.int .i64 n)])):=by rw[hx,pH,hq];rfl
   have hhd:t1.1.headD 0=q0:=by rw[hq];rfl
   simp-implicitDefEqProofs[-AV.cells,-AV.isCell,aD,ae,ah,an,al,aE,af,am,aj,-Lw.name_len,r1,ho1,hsl0]
   refine(jt G To okm (by omega)).mono ?_
   rintro x X2 ⟨rfl,K2,I2,T2,e2⟩
   have o2':=(e2 oid (by simp)).trans ho1
   have r2:=(e2 h.length (by simp)).trans r1
   have ok2:=okm.name 1
   simp-implicitDefEqProofs[-AV.cells,-AV.isCell,aD,ae,ah,an,al,aE,af,am,aj,-Lw.name_len,aa,←ht,o2',hsl0,r2]
   refine(FU G T2 ok2 3 q0 t rfl).mono ?_
   rintro x X3 ⟨rfl,K3,I3,T3,e3⟩
   simp-implicitDefEqProofs[-AV.cells,-AV.isCell,aD,ae,ah,an,al,aE,af,am,aj,-Lw.name_len,aa]
   rw[heq,if_neg o1,if_neg o2,if_neg o3,if_neg o4,if_neg (by omega),if_pos o7,hhd,←ht]
   exact⟨vs,⟨_,_,_,T3.few (λi hi=>by cases hi)⟩,by rw[List.take_length],Nat.le_refl _,by omega,hrg⟩
  have o7:¬s.op=7:=by simpa using o7
  simp-implicitDefEqProofs[-AV.cells,-AV.isCell,aD,ae,ah,an,al,aE,af,am,aj,-Lw.name_len,r1]
  refine aF (λo5=>?_) (λo5=>?_)
  ·have o5:s.op=5:=by simpa using o5
   obtain⟨q0,qr,hq⟩:=hq
   obtain⟨t,ht⟩:∃t,t=t1.2.bs.length:=⟨_,rfl⟩
   have htb:t<=B+8*aP s.args:=by rw[ht];exact okm.bs
   have ho1:X[oid]?=some (.row 1 ([.p (.int .i64 q0)]::qr.map λn=>[AV.p (.int .i64 n)])):=by rw[hx,pH,hq];rfl
   have hhd:t1.1.headD 0=q0:=by rw[hq];rfl
   simp-implicitDefEqProofs[-AV.cells,-AV.isCell,aD,ae,ah,an,al,aE,af,am,aj,-Lw.name_len,r1]
   refine(jt G To okm (by omega)).mono ?_
   rintro x X2 ⟨rfl,K2,I2,T2,e2⟩
   have r2:=(e2 h.length (by simp)).trans r1
   have ok2:=okm.name 1
   have hl2:(t1.2.name 1).bs.length=t+1:=by rw[Lw.name_len,ht]
   simp-implicitDefEqProofs[-AV.cells,-AV.isCell,aD,ae,ah,an,al,aE,af,am,aj,-Lw.name_len,aa,←ht,r2]
   refine(jt G T2 ok2 (by omega)).mono ?_
   rintro x X3 ⟨rfl,K3,I3,T3,e3⟩
   have r3:=(e3 h.length (by simp)).trans r2
   have ok3:=ok2.name 1
   have hl3:((t1.2.name 1).name 1).bs.length=t+2:=by rw[Lw.name_len,hl2]
   simp-implicitDefEqProofs[-AV.cells,-AV.isCell,aD,ae,ah,an,al,aE,af,am,aj,-Lw.name_len,aa,hl2,r3]
   refine(jt G T3 ok3 (by omega)).mono ?_
   rintro x X4 ⟨rfl,K4,I4,T4,e4⟩
   have r4:=(e4 h.length (by simp)).trans r3
   have ok4:(t1.2.name 3).Ok _:=okm.name 3
   have hn4:((t1.2.name 1).name 1).name 1=t1.2.name 3:=by rw[Lw.name_name,Lw.name_name]
   rw[hn4] at T4
   have o4':=(e4 oid (by simp)).trans ((e3 oid (by simp)).trans ((e2 oid (by simp)).trans ho1))
   simp-implicitDefEqProofs[-AV.cells,-AV.isCell,aD,ae,ah,an,al,aE,af,am,aj,-Lw.name_len,aa,hl3,r4,o4',hsl0]
   refine(AE G T4 ok4 2 q0 t ((t:Int)+1) t rfl).mono ?_
   rintro x X5 ⟨rfl,K5,I5,T5,e5⟩
   have r5:=(e5 h.length (by simp)).trans r4
   have ok5:=ok4.fin 2 q0 (g:=t) (by rw[Lw.name_len,ht];omega) [(t:Int),(t:Int)+1]
   simp-implicitDefEqProofs[-AV.cells,-AV.isCell,aD,ae,ah,an,al,aE,af,am,aj,-Lw.name_len,aa,r5]
   have h6:=pN G hb T5 (m:=[]) (up:=m::up) ok5 (by omega) (by omega) (by omega) (by rw[hrg];rfl)
   have okb:=eg (faI l0) (-1) s.body [] (m::up) nx _ _ ok5
   obtain⟨y6,hy6⟩:∃y,y=aU (faI l0) (-1) s.body [] (m::up) nx ((t1.2.name 3).fin 2 q0 t [(t:Int),(t:Int)+1]):=⟨_,rfl⟩
   rw[←hy6] at h6 okb
   refine h6.mono ?_
   rintro x X6 ⟨rfl,K6,V6,I6,T6,e6⟩
   obtain⟨ok6,len6,nx6,nxx6⟩:=okb
   simp only[Lw.fin_len,Lw.name_len,←ht] at len6
   have r6:=(e6 h.length (by simp)).trans r5
   simp-implicitDefEqProofs[-AV.cells,-AV.isCell,aD,ae,ah,an,al,aE,af,am,aj,-Lw.name_len,aa,r6]
   refine(pV G T6 ok6 1 0 ((t:Int)+2) (t+1) (by omega)).mono ?_
   rintro x X7 ⟨rfl,K7,I7,T7,e7⟩
   have r7:=(e7 h.length (by simp)).trans r6
   have ok7:=ok6.fin 1 0 (g:=t+1) (by omega) [(t:Int)+2]
   simp-implicitDefEqProofs[-AV.cells,-AV.isCell,aD,ae,ah,an,al,aE,af,am,aj,-Lw.name_len,aa,r7]
   have h8:=pN G he T7 (m:=[]) (up:=m::up) ok7 (by omega) (by omega) (by omega) (by rw[hrg];rfl)
   have okb:=eg (faI l0) (-1) s.els [] (m::up) y6.2.1 _ _ ok7
   obtain⟨y8,hy8⟩:∃y,y=aU (faI l0) (-1) s.els [] (m::up) y6.2.1 (y6.2.2.fin 1 0 (t+1) [(t:Int)+2]):=⟨_,rfl⟩
   rw[←hy8] at h8 okb
   refine h8.mono ?_
   rintro x X8 ⟨rfl,K8,V8,I8,T8,e8⟩
   obtain⟨ok8,len8,nx8,nxx8⟩:=okb
   simp only[Lw.fin_len] at len8
   have r8:=(e8 h.length (by simp)).trans r7
   simp-implicitDefEqProofs[-AV.cells,-AV.isCell,aD,ae,ah,an,al,aE,af,am,aj,-Lw.name_len,aa,r8]
   refine(pV G T8 ok8 1 0 ((t:Int)+2) (t+2) (by omega)).mono ?_
   rintro x X9 ⟨rfl,K9,I9,T9,e9⟩
   simp-implicitDefEqProofs[-AV.cells,-AV.isCell,aD,ae,ah,an,al,aE,af,am,aj,-Lw.name_len,aa]
   have hE5:lwS (faI l0) (-1) s m up nx w=(m,y8.2.1,y8.2.2.fin 1 0 (t+2) [(t:Int)+2]):=by
    rw[heq,if_neg o1,if_neg o2,if_neg o3,if_neg o4,if_pos o5]
    simp only[hhd,←ht]
    rw[←hy6,←hy8]
   rw[hE5]
   exact⟨vs,⟨_,_,_,T9.few (λi hi=>by cases hi)⟩,by rw[List.take_length],Nat.le_refl _,by omega,hrg⟩
  have o5:¬s.op=5:=by simpa using o5
  simp-implicitDefEqProofs[-AV.cells,-AV.isCell,aD,ae,ah,an,al,aE,af,am,aj,-Lw.name_len,r1]
  rw[heq,if_neg o1,if_neg o2,if_neg o3,if_neg o4,if_neg o5,if_neg o7]
  exact⟨vs,⟨_,_,_,Tq.few (λi hi=>by cases hi)⟩,by rw[List.take_length],Nat.le_refl _,by omega,hrg⟩
structure SlS where (i:Nat) (X:List AO)
theorem rL(l0:List Fd)(pr:Int)(L:Nat)(b:List Sm)(hs:∀s∈b,StR G l0 pr L s):Cp G l0 pr L b:=by
 intro w h K V I B vs nx m up T hok hB hnx hvl hrg
 have hsl:∀l,smL l= .lst 5 (l.map Sm.cs):=λ_=>rfl
 have hll:=dJ b
 have yL0:=T.stb.ls.here
 simp only[lwR] at yL0
 refine AC.go me ?_
 rcases T.va.form with⟨hVe,hve⟩|⟨vid0,hVe⟩
 ·have hv00:vs.length=0:=by rw[hve];rfl
  rw[hVe] at yL0
  simp-implicitDefEqProofs[dw,yL0,hsl]
  refine aH (λa:SlS=>aA 32 [(5,.p (.int .i64 a.i)),(4,.p (.int .i64 0)),(0,.ptr L 8 0 0),(1,.p (smL b))]) (λa=>a.X)
   (λa=>a.i<=b.length/\∃vs1 K1 V1 I1,RS l0 pr L (L::(vi V++I)) I [] h (aU (faI l0) (-1) (b.take a.i) m up nx w).2.2 (aU (faI l0) (-1) (b.take a.i) m up nx w).2.1 vs1 a.X K1 V1 I1/\vs1.take vs.length=vs/\vs.length<=vs1.length/\vs1.length<=vs.length+a.i/\rgV vs1=scF (-1) ((aU (faI l0) (-1) (b.take a.i) m up nx w).1::up)) (λa=>b.length-a.i) ⟨0,h⟩ ⟨Nat.zero_le _,vs,K,V,I,by rw[List.take_zero,aU];exact T,by rw[List.take_length],Nat.le_refl _,by simp,by rw[List.take_zero,aU];exact hrg⟩ ?_ ?_
  ·exact ab (Nat.le_refl _) (by simp[below,hsl,T.stb.ls.lt])
  rintro⟨i,X⟩ ⟨hi,vs1,K1,V1,I1,T1,p1,p2,p3,p4⟩
  simp only at hi T1 p3 p4
  have hXL:=T1.stb.ls.lt
  simp-implicitDefEqProofs[hsl]
  refine aF (λhc=>?_) (λhc=>?_)
  ·simp at hc
   have hg:=List.getElem?_eq_getElem hc
   have hm:=List.getElem_mem hc
   have htk:=tX (fa:=faI l0) (d:= -1) hc m up nx w
   have hok1:=eg (faI l0) (-1) (b.take i) m up nx w B hok
   have hzt:aM (b.take i)+b[i].sz<=aM b:=by
    have h1:=List.take_append_drop (i+1) b
    have h2:aM b=aM (b.take (i+1))+aM (b.drop (i+1)):=by
     conv=>lhs;rw[←h1]
     rw[cm]
    rw[au hc,cm] at h2
    simp only[aM] at h2
    omega
   have htl:i<=aM (b.take i):=by
    have:=dJ (b.take i)
    rw[List.length_take] at this
    omega
   have hst:=hs b[i] hm
   generalize b[i]=s at hg hm htk hzt hst
   have hsc:=s.cs_eq
   generalize aU (faI l0) (-1) (b.take i) m up nx w=cur at*
   obtain⟨mc,nc,wc⟩:=cur
   simp only at htk hok1 T1 p4
   obtain⟨okc,_,_,hnc⟩:=hok1
   have hcall:=hst wc X K1 V1 I1 _ vs1 nc mc up T1.start okc (by omega) (by omega) (by omega) p4
   rw[hsc] at hcall
   simp-implicitDefEqProofs[hg,hsc]
   refine hcall.mono ?_
   rintro r X2 ⟨rfl,vs2,K2,V2,I2,T2,q1,q2,q3,q4⟩
   obtain⟨T3,_⟩:=T1.lift T2
   simp-implicitDefEqProofs[aa]
   refine⟨⟨i+1,X2⟩,⟨by simp only;omega,vs2,⟨K2,V2,I2,by rw[htk];exact T3⟩,?_,by omega,by simp only;omega,by rw[htk];exact q4⟩,by simp only;omega,ab (Nat.le_trans T1.stb.fr.1 T2.stb.fr.1) ?_⟩
   ·rw[←q1,List.take_take,Nat.min_eq_left p2] at p1
    exact p1
   ·simp[below,hsl,show IntKind.i64.wrap ((i:Int)+1)=(i:Int)+1 from ag (by omega) (by omega)]
    exact T3.stb.ls.lt
  ·simp at hc
   have hie:i=b.length:=by omega
   subst hie
   rw[List.take_length] at T1
   have yL:=T1.stb.ls.here
   simp only[lwR] at yL
   have fin:∀V2,VAt (X.set L (lwR l0 pr V2 (aU (faI l0) (-1) b m up nx w).2.1 (aU (faI l0) (-1) b m up nx w).2.2 K1)) V2 vs->(∀i∈vi V2,i∈vi V1)->RS l0 pr L (L::(vi V++I)) I [] h (aU (faI l0) (-1) b m up nx w).2.2 (aU (faI l0) (-1) b m up nx w).2.1 vs (X.set L (lwR l0 pr V2 (aU (faI l0) (-1) b m up nx w).2.1 (aU (faI l0) (-1) b m up nx w).2.2 K1)) K1 V2 I1:=λV2 hv2 hs2=>(T1.alt (by simp) (List.getElem?_set_self T1.stb.ls.lt) (λi hi hn _=>List.getElem?_set_ne (Ne.symm hn)) hv2 (λi hi=> .inl (hs2 i hi))).1
   have va:=T1.va
   have vd:=T1.at.2
   cases va with
   |nil=>
    have hv0:vs=[]:=List.length_eq_zero_iff.1 (by simpa using p2)
    have hv1:vs.length=0:=by rw[hv0];rfl
    simp-implicitDefEqProofs[yL,hv1]
    exact⟨K1,.nils,I1,by have:=fin .nils (by rw[hv0];exact .nil) (λi hi=>hi);simpa only[lwR] using this⟩
   |sl vid rows _ h1 h2=>
    have hvl2:vs1.length<=rows.length:=by
     have:=congrArg List.length h2
     rw[List.length_take,List.length_map] at this
     omega
    have hne:vid≠L:=λe=>(vd vid (by simp[vi])).2 (by rw[e];simp)
    simp-implicitDefEqProofs[yL,h1,p2]
    refine⟨K1,.sl vid 3 0 0,I1,?_⟩
    have:=fin (.sl vid 3 0 vs.length) (.sl vid rows vs (by rw[List.getElem?_set_ne (Ne.symm hne)];exact h1) (by
     have e:=congrArg (List.take vs.length) h2
     rw[List.take_take,Nat.min_eq_left p2,←List.map_take,p1] at e
     exact e)) (λi hi=>by simpa[vi] using hi)
    rw[hv00] at this
    simpa only[lwR] using this
 ·rw[hVe] at yL0
  simp-implicitDefEqProofs[dw,yL0,hsl]
  refine aH (λa:SlS=>aA 32 [(5,.p (.int .i64 a.i)),(4,.p (.int .i64 vs.length)),(0,.ptr L 8 0 0),(1,.p (smL b))]) (λa=>a.X)
   (λa=>a.i<=b.length/\∃vs1 K1 V1 I1,RS l0 pr L (L::(vi V++I)) I [] h (aU (faI l0) (-1) (b.take a.i) m up nx w).2.2 (aU (faI l0) (-1) (b.take a.i) m up nx w).2.1 vs1 a.X K1 V1 I1/\vs1.take vs.length=vs/\vs.length<=vs1.length/\vs1.length<=vs.length+a.i/\rgV vs1=scF (-1) ((aU (faI l0) (-1) (b.take a.i) m up nx w).1::up)) (λa=>b.length-a.i) ⟨0,h⟩ ⟨Nat.zero_le _,vs,K,V,I,by rw[List.take_zero,aU];exact T,by rw[List.take_length],Nat.le_refl _,by simp,by rw[List.take_zero,aU];exact hrg⟩ ?_ ?_
  ·exact ab (Nat.le_refl _) (by simp[below,hsl,T.stb.ls.lt])
  rintro⟨i,X⟩ ⟨hi,vs1,K1,V1,I1,T1,p1,p2,p3,p4⟩
  simp only at hi T1 p3 p4
  have hXL:=T1.stb.ls.lt
  simp-implicitDefEqProofs[hsl]
  refine aF (λhc=>?_) (λhc=>?_)
  ·simp at hc
   have hg:=List.getElem?_eq_getElem hc
   have hm:=List.getElem_mem hc
   have htk:=tX (fa:=faI l0) (d:= -1) hc m up nx w
   have hok1:=eg (faI l0) (-1) (b.take i) m up nx w B hok
   have hzt:aM (b.take i)+b[i].sz<=aM b:=by
    have h1:=List.take_append_drop (i+1) b
    have h2:aM b=aM (b.take (i+1))+aM (b.drop (i+1)):=by
     conv=>lhs;rw[←h1]
     rw[cm]
    rw[au hc,cm] at h2
    simp only[aM] at h2
    omega
   have htl:i<=aM (b.take i):=by
    have:=dJ (b.take i)
    rw[List.length_take] at this
    omega
   have hst:=hs b[i] hm
   generalize b[i]=s at hg hm htk hzt hst
   have hsc:=s.cs_eq
   generalize aU (faI l0) (-1) (b.take i) m up nx w=cur at*
   obtain⟨mc,nc,wc⟩:=cur
   simp only at htk hok1 T1 p4
   obtain⟨okc,_,_,hnc⟩:=hok1
   have hcall:=hst wc X K1 V1 I1 _ vs1 nc mc up T1.start okc (by omega) (by omega) (by omega) p4
   rw[hsc] at hcall
   simp-implicitDefEqProofs[hg,hsc]
   refine hcall.mono ?_
   rintro r X2 ⟨rfl,vs2,K2,V2,I2,T2,q1,q2,q3,q4⟩
   obtain⟨T3,_⟩:=T1.lift T2
   simp-implicitDefEqProofs[aa]
   refine⟨⟨i+1,X2⟩,⟨by simp only;omega,vs2,⟨K2,V2,I2,by rw[htk];exact T3⟩,?_,by omega,by simp only;omega,by rw[htk];exact q4⟩,by simp only;omega,ab (Nat.le_trans T1.stb.fr.1 T2.stb.fr.1) ?_⟩
   ·rw[←q1,List.take_take,Nat.min_eq_left p2] at p1
    exact p1
   ·simp[below,hsl,show IntKind.i64.wrap ((i:Int)+1)=(i:Int)+1 from ag (by omega) (by omega)]
    exact T3.stb.ls.lt
  ·simp at hc
   have hie:i=b.length:=by omega
   subst hie
   rw[List.take_length] at T1
   have yL:=T1.stb.ls.here
   simp only[lwR] at yL
   have fin:∀V2,VAt (X.set L (lwR l0 pr V2 (aU (faI l0) (-1) b m up nx w).2.1 (aU (faI l0) (-1) b m up nx w).2.2 K1)) V2 vs->(∀i∈vi V2,i∈vi V1)->RS l0 pr L (L::(vi V++I)) I [] h (aU (faI l0) (-1) b m up nx w).2.2 (aU (faI l0) (-1) b m up nx w).2.1 vs (X.set L (lwR l0 pr V2 (aU (faI l0) (-1) b m up nx w).2.1 (aU (faI l0) (-1) b m up nx w).2.2 K1)) K1 V2 I1:=λV2 hv2 hs2=>(T1.alt (by simp) (List.getElem?_set_self T1.stb.ls.lt) (λi hi hn _=>List.getElem?_set_ne (Ne.symm hn)) hv2 (λi hi=> .inl (hs2 i hi))).1
   have va:=T1.va
   have vd:=T1.at.2
   cases va with
   |nil=>
    have hv0:vs=[]:=List.length_eq_zero_iff.1 (by simpa using p2)
    have hv1:vs.length=0:=by rw[hv0];rfl
    simp-implicitDefEqProofs[yL,hv1]
    exact⟨K1,.nils,I1,by have:=fin .nils (by rw[hv0];exact .nil) (λi hi=>hi);simpa only[lwR] using this⟩
   |sl vid rows _ h1 h2=>
    have hvl2:vs1.length<=rows.length:=by
     have:=congrArg List.length h2
     rw[List.length_take,List.length_map] at this
     omega
    have hne:vid≠L:=λe=>(vd vid (by simp[vi])).2 (by rw[e];simp)
    simp-implicitDefEqProofs[yL,h1,p2]
    refine⟨K1,.sl vid 3 0 vs.length,I1,?_⟩
    have:=fin (.sl vid 3 0 vs.length) (.sl vid rows vs (by rw[List.getElem?_set_ne (Ne.symm hne)];exact h1) (by
     have e:=congrArg (List.take vs.length) h2
     rw[List.take_take,Nat.min_eq_left p2,←List.map_take,p1] at e
     exact e)) (λi hi=>by simpa[vi] using hi)
    simpa only[lwR] using this
theorem Ev(l0:List Fd)(hl0:l0.length<=1073741824)(pr:Int)(L:Nat):∀(d:Nat) (b:List Sm),(∀s∈b,aO d s=true)->Cp G l0 pr L b:=by
 intro d
 induction d with
 |zero=>
  intro b hb
  refine rL G l0 pr L b λs hs=>?_
  have:=hb s hs
  cases this
 |succ d ih=>
  intro b hb
  refine rL G l0 pr L b λs hs=>?_
  have hf:=hb s hs
  exact Ge G l0 hl0 pr L s (Hx hf) (Do hf) (ih s.body (Eg hf)) (ih s.els (FR hf))
end
section
theorem zC(nf:Bool)(id n:Nat):(vaC nf id n).isCell=true:=by cases nf<;>rfl
theorem BU(nf:Bool)(id n:Nat):(vaC nf id n).cells=[vaC nf id n]:=by cases nf<;>rfl
attribute [simp ↓] zC BU
variable (G:aB)
end
section
def w0(fns:List Fd)(k:Nat)(f:Fd):WS:=⟨[],0,if tp fns f.name=some k then 0 else 2⟩
variable (G:aB)
end
section
def AX(b0:AO)(fns:List Fd)(k:Nat)(up:List GS)(gap:List AO)(c:Int):List AO:=b0::cO fns k c::(scH up++gap)
variable (G:aB)
end
section
abbrev BL:Nat:=9223372036854775807
theorem Fd.cs_eq'(f:Fd):f.cs=[.str f.name,bF f.params,smL f.body]:=rfl
variable (G:aB)
end
section
theorem AG:∀(a b:List (List UInt8)) (m:Scp) (i:Nat),psS (a++b) m i=psS b (psS a m i) (i+a.length)
 |[],b,m,i=>by simp[psS]
 |p::r,b,m,i=>by rw[List.cons_append,psS,psS,AG r];simp;congr 1;omega
theorem DI{l:List (List UInt8)}{i:Nat}(h:i<l.length)(m:Scp):psS (l.take (i+1)) m 0=mw (psS (l.take i) m 0) l[i] i:=by
 rw[au h,AG,psS,psS,List.length_take,Nat.min_eq_left (by omega),Nat.zero_add]
variable (G:aB)
end
section
def pA(l:List Cd):List (List AV):=l.map λc=>c.cs.map .p
theorem Cd.cs_eq'(c:Cd):c.cs=[.int .i64 c.params,.int .i64 c.regs,bkL c.blocks]:=rfl
variable (G:aB)
end
section
variable (G:aB)
theorem tH(b:Bool):VF Try.prog G gE [.p (.bool b)] (.p (.int .i64 (if b then 1 else 0))):=by
 refine AC.go rW ?_
 cases b<;>simp-implicitDefEqProofs[jT]
end
section
theorem oe:∀a b:List Sm,be (a++b)=be a+be b
 |[],b=>by simp[be]
 |s::r,b=>by rw[List.cons_append,be,be,oe r b,Nat.add_assoc]
theorem zK{l:List Sm}{i:Nat}(h:i<l.length):be (l.take (i+1))=be (l.take i)+BF l[i]:=by rw[au h,oe,be,be];rfl
theorem yq(l:List Sm)(i:Nat):be (l.take i)<=be l:=by
 have:=oe (l.take i) (l.drop i)
 rw[List.take_append_drop] at this
 omega
variable (G:aB)
theorem Ek:∀(k:Nat) (l:List Sm),aM l<=k->k<=1099511627776->VF Try.prog G dq [.p (smL l)] (.p (.int .i64 (be l))):=by
 intro k
 induction k with
 |zero=>
  intro l hl _
  have:l=[]:=by
   cases l with
   |nil=>rfl
   |cons s r=>have:=s.sz_eq;simp only[aM] at hl;omega
  subst this
  refine AC.go lD ?_
  have hsl:smL []= .lst 5 []:=rfl
  simp-implicitDefEqProofs[ir,hsl]
  refine aH (λ_:Unit=>aA 35 [(0,.p (.lst 5 [])),(3,.p (.int .i64 0)),(4,.p (.int .i64 0))]) (λ_=>[]) (λ_=>True) (λ_=>0) () trivial (bk rfl (by simp[below])) ?_
  intro _ _
  simp-implicitDefEqProofs[be]
 |succ k ih=>
  intro l hl hk
  have hll:=dJ l
  have hnz:=Nat.le_trans (iT l) (gW l)
  refine AC.go lD ?_
  have hsl:∀l,smL l= .lst 5 (l.map Sm.cs):=λ_=>rfl
  simp-implicitDefEqProofs[ir,hsl]
  refine aH (λi:Nat=>aA 35 [(0,.p (smL l)),(3,.p (.int .i64 (be (l.take i)))),(4,.p (.int .i64 i))]) (λ_=>[]) (λi=>i<=l.length) (λi=>l.length-i) 0 (by simp) (bk rfl (by simp[below,hsl,be])) ?_
  intro i hi
  have k2:=yq l i
  simp-implicitDefEqProofs[hsl]
  refine aF (λh=>?_) (λh=>?_)
  ·simp at h
   have hg:=List.getElem?_eq_getElem h
   have hks:=nj (List.getElem_mem h)
   have hse:=l[i].sz_eq
   have hce:=l[i].cs_eq
   have k1:=zK h
   have k4:=yq l (i+1)
   have k5:=FL l[i]
   have hb:=ih l[i].body (by omega) (by omega)
   have he:=ih l[i].els (by omega) (by omega)
   generalize l[i]=s at*
   generalize be (l.take i)=n at*
   obtain⟨n2,hn2⟩:∃n2,n2=be (l.take (i+1)):=⟨_,rfl⟩
   rw[←hn2] at k1 k4
   by_cases ho:s.op=1
   ·rw[if_pos ho] at k5
    simp-implicitDefEqProofs[hg,hce,ho]
    refine(tH G true).use ?_
    have w0':IntKind.i64.wrap ((n:Int)+1)=(n:Int)+1:=ag (by omega) (by omega)
    simp-implicitDefEqProofs[hg,hce,w0']
    refine hb.use ?_
    have w1':IntKind.i64.wrap ((n:Int)+1+(be s.body:Int))=(n:Int)+1+(be s.body:Int):=ag (by omega) (by omega)
    simp-implicitDefEqProofs[hg,hce,w1']
    refine he.use ?_
    have w2':IntKind.i64.wrap ((n:Int)+1+(be s.body:Int)+(be s.els:Int))=(n2:Int):=by rw[ag (by omega) (by omega)];omega
    simp-implicitDefEqProofs[w2']
    exact⟨i+1,h,by omega,bk rfl (by simp[below,hsl,←hn2,w1 (i:=i) (by omega)])⟩
   ·rw[if_neg ho] at k5
    simp-implicitDefEqProofs[hg,hce,ho]
    refine(tH G false).use ?_
    have w0':IntKind.i64.wrap (n:Int)=(n:Int):=ag (by omega) (by omega)
    simp-implicitDefEqProofs[hg,hce,w0']
    refine hb.use ?_
    have w1':IntKind.i64.wrap ((n:Int)+(be s.body:Int))=(n:Int)+(be s.body:Int):=ag (by omega) (by omega)
    simp-implicitDefEqProofs[hg,hce,w1']
    refine he.use ?_
    have w2':IntKind.i64.wrap ((n:Int)+(be s.body:Int)+(be s.els:Int))=(n2:Int):=by rw[ag (by omega) (by omega)];omega
    simp-implicitDefEqProofs[w2']
    exact⟨i+1,h,by omega,bk rfl (by simp[below,hsl,←hn2,w1 (i:=i) (by omega)])⟩
  ·simp at h
   rw[List.take_of_length_le h]
   simp-implicitDefEqProofs[]
section
variable {l:List Fd} {pr:Int} {L:Nat} {S I0 E:List Nat} {h:List AO} {w:Lw} {nx:Nat} {vs:Vs} {X:List AO} {K V:AV} {I:List Nat}
theorem GW(T:RS l pr L S I0 E h w nx vs X K V I)(hw:w.regs<=1073741824):
 AC Try.prog G bq [.ptr L 8 0 0] X λx h'=>x= .ret (.p (.int .i64 w.regs))/\∃K' I',RS l pr L S I0 E h w.reg nx vs h' K' V I'/\∀i∈E,h'[i]?=X[i]?:=
 (jc G T.stb.ls hw).mono λx h' ⟨a,b⟩=>⟨a,T.step (J:=[]) (λj hj=>by cases hj) (by rw[List.append_nil];exact b)⟩
theorem Hl(T:RS l pr L S I0 E h w nx vs X K V I){B:Nat}(hok:w.Ok B)(hB:B<=1073741824)(op to n:Int):
 AC Try.prog G bJ [.ptr L 8 0 0,.p (.int .i64 op),.p (.int .i64 to),.p (.int .i64 n),.sl X.length 1 0 0] (X++[.row 1 []]) λr h'=>r= .ret (.p (.int .i64 to))/\∃K' I',RS l pr L S I0 E h (w.put ⟨op,to,[],n⟩) nx vs h' K' V I'/\∀i∈E,h'[i]?=X[i]?:=by
 obtain⟨f1,f2⟩:=T.fresh
 refine(mb G (T.stb.ls.more [.row 1 []]) hok hB ⟨op,to,[],n⟩ (fB X ([]:List Int) rfl) (by simp) f2).mono λr h' ⟨e,b⟩=>⟨e,?_⟩
 obtain⟨K2,I2,a1,a2⟩:=(T.more [_]).step f1 b
 exact⟨K2,I2,a1,λi hi=>(a2 i hi).trans (List.getElem?_append_left (T.at.1 i hi).1)⟩
theorem GC(T:RS l pr L S I0 E h w nx vs X K V I){B:Nat}(hok:w.Ok B)(j o:Int)(g:Nat){gI:Int}(hg:gI=(g:Int)):
 AC Try.prog G bh [.ptr L 8 0 0,.p (.int .i64 j),.p (.int .i64 o),.sl X.length 1 0 0,.p (.int .i64 gI)] (X++[.row 1 []]) λr h'=>r= .ret (.tup [])/\∃K' I',RS l pr L S I0 E h (w.fin j o g []) nx vs h' K' V I'/\∀i∈E,h'[i]?=X[i]?:=by
 obtain⟨f1,f2⟩:=T.fresh
 rw[hg]
 refine(ln G (T.stb.ls.more [.row 1 []]) hok j o g [] (fB X ([]:List Int) rfl) (by simp) f2).mono λr h' ⟨e,b⟩=>⟨e,?_⟩
 obtain⟨K2,I2,a1,a2⟩:=(T.more [_]).step f1 b
 exact⟨K2,I2,a1,λi hi=>(a2 i hi).trans (List.getElem?_append_left (T.at.1 i hi).1)⟩
theorem CE{n:Nat}(hg:X[L]?=some (.row 8 [[.p (fdL l),.p (.int .i64 pr),.p (.int .i64 n),.nils,.p (.int .i64 0),V,.p (.int .i64 nx),.nils]]))(hV:V.cells=[V]/\V.isCell=true):
 AC Try.prog G bK [.ptr L 8 0 0] X λr h'=>r= .ret (.p (.int .i64 0))/\∃K I,LS (lwR l pr V nx) L ⟨n,[bk0],0⟩ h' K I/\Frm [L] X h'/\∀j∈I,X.length<=j:=by
 have hLl:=(List.getElem?_eq_some_iff.1 hg).1
 obtain⟨v1,v2⟩:=hV
 have hgt:∀t,(X++t)[L]?=some (.row 8 [[.p (fdL l),.p (.int .i64 pr),.p (.int .i64 n),.nils,.p (.int .i64 0),V,.p (.int .i64 nx),.nils]]):=λt=>by rw[List.getElem?_append_left hLl];exact hg
 have hs3:∀t o,((X++t).set L o)[L]?=some o:=λt o=>List.getElem?_set_self (by simp;omega)
 refine AC.go gq ?_
 simp-implicitDefEqProofs[-AV.cells,-AV.isCell,aD,ae,ah,an,al,aE,af,am,aj,v1,v2,dE,hg,hgt, ↓hs3]
 have key:∀o1:AO,∃K I,LS (lwR l pr V nx) L ⟨n,[bk0],0⟩ ((X++[.row 2 [],.row 4 [],.row 1 [],o1,.row 5 [[.sl X.length 2 0 0,.sl (X.length+1) 4 0 0,.p (.int .i64 0),.p (.int .i64 0),.sl (X.length+2) 1 0 0]]]).set L (lwR l pr V nx ⟨n,[bk0],0⟩ (.sl (X.length+4) 5 0 1))) K I/\Frm [L] X ((X++[.row 2 [],.row 4 [],.row 1 [],o1,.row 5 [[.sl X.length 2 0 0,.sl (X.length+1) 4 0 0,.p (.int .i64 0),.p (.int .i64 0),.sl (X.length+2) 1 0 0]]]).set L (lwR l pr V nx ⟨n,[bk0],0⟩ (.sl (X.length+4) 5 0 1)))/\∀j∈I,X.length<=j:=λo1=>by
  obtain⟨H,hH⟩:∃H,H=((X++[.row 2 [],.row 4 [],.row 1 [],o1,.row 5 [[.sl X.length 2 0 0,.sl (X.length+1) 4 0 0,.p (.int .i64 0),.p (.int .i64 0),.sl (X.length+2) 1 0 0]]]).set L (lwR l pr V nx ⟨n,[bk0],0⟩ (.sl (X.length+4) 5 0 1))):=⟨_,rfl⟩
  have g:∀k,H[X.length+k]?=[AO.row 2 [],.row 4 [],.row 1 [],o1,.row 5 [[.sl X.length 2 0 0,.sl (X.length+1) 4 0 0,.p (.int .i64 0),.p (.int .i64 0),.sl (X.length+2) 1 0 0]]][k]?:=λk=>by
   rw[hH,List.getElem?_set_ne (by omega),List.getElem?_append_right (by omega)]
   rw[Nat.add_sub_cancel_left]
  rw[←hH]
  have hr:RowOwn false H (X.length+4) 5 [[.sl X.length 2 0 0,.sl (X.length+1) 4 0 0,.p (.int .i64 0),.p (.int .i64 0),.sl (X.length+2) 1 0 0]] [bk0.cs] [X.length,X.length+1,X.length+2]:=
   ⟨g 4,rfl,by simp,by simp[bk0,Bk.cs],by rw[List.flatten_singleton,List.flatten_singleton];exact Bp (g 0) (g 1) (g 2),by simp⟩
  refine⟨_,_,⟨by rw[hH];exact List.getElem?_set_self (by simp;omega),hr.tree rfl,by simp;omega,λq e=>(by cases e),λkid n2 rows2 eK hg2 r hr2=>?_⟩,⟨by rw[hH];simp,λi hi hn=>?_⟩,λj hj=>?_⟩
  ·cases eK
   rw[hr.here] at hg2
   cases hg2
   rw[List.mem_singleton.1 hr2]
   intro q;simp
  ·rw[hH,List.getElem?_set_ne (λe=>hn (by simp[e])),List.getElem?_append_left hi]
  ·simp only[List.mem_cons,List.not_mem_nil,or_false] at hj
   omega
 have e:=key (.row 5 [[.sl X.length 2 0 0,.sl (X.length+1) 4 0 0,.p (.int .i64 0),.p (.int .i64 0),.sl (X.length+2) 1 0 0]])
 exact⟨ag (by omega) (by omega),e⟩
end
structure PvS where (i:Nat) (X:List AO)
theorem GP{vs:Vs}{ps:List (List UInt8)}{i:Nat}(hi:i<ps.length)(hl:vs.length=i)(h:rgV vs=scF (-1) [psS (ps.take i) [] 0]):rgV (vs++[(ps[i],i)])=scF (-1) [psS (ps.take (i+1)) [] 0]:=by
 funext t
 simp only[sL,h,DI hi,scF,uN,nk]
 by_cases hst:ps[i]=t
 ·simp[hst]
 ·simp[hst]
theorem Iw(l:List Fd)(hl:l.length<=1073741824)(k:Nat)(f:Fd)(hk:l[k]?=some f)(hz:f.sz<=16777216)(hf:∀x∈f.body,aO 4 x=true):AC Try.prog G gO [.agg [.p (fdL l)],.p (.int .i64 k)] [] (MkW .agg false (lwF l (-1) f).cs):=by
 have hfc:=f.cs_eq'
 have hfl:fdL l= .lst 3 (l.map Fd.cs):=rfl
 have hlk:=(List.getElem?_eq_some_iff.1 hk).1
 have hfz:f.sz=1+f.name.length+(f.params.length+(f.params.map List.length).sum)+aM f.body:=rfl
 have hst:bF f.params= .lst 1 (f.params.map λw=>[.str w]):=rfl
 have hlet:=Nat.le_trans (iT f.body) (gW f.body)
 refine AC.go vA ?_
 simp-implicitDefEqProofs[oS,hfl,hk,hfc,hst]
 rw[←hfl]
 refine(Ek G _ f.body (Nat.le_refl _) (by omega)).use ?_
 have hwl:IntKind.i64.wrap ((f.params.length:Int)+(be f.body:Int))=((f.params.length+be f.body:Nat):Int):=by rw[ag (by omega) (by omega)];omega
 simp-implicitDefEqProofs[hst,hwl]
 obtain⟨n,hn⟩:∃n:Nat,n=f.params.length+be f.body:=⟨_,rfl⟩
 have hnI:(f.params.length:Int)+(be f.body:Int)=n:=by omega
 rw[hnI]
 refine aH (λa:PvS=>aA 80 [(4,.ptr 1 3 0 0),(5,.ptr 2 3 0 0),(6,.ptr 3 8 0 0),(7,.p (.int .i64 a.i))]) (λa=>a.X)
  (λa=>a.i<=f.params.length/\4<=a.X.length/\a.X[1]?=some (.row 3 [[.p (.int .i64 0),.p (.int .i64 0),.nils]])/\a.X[2]?=some (.row 3 [[.p (.str f.name),.p (.lst 1 (f.params.map λw=>[.str w])),.p (smL f.body)]])/\∃V vs,a.X[3]?=some (.row 8 [[.p (fdL l),.p (.int .i64 f.params.length),.p (.int .i64 n),.nils,.p (.int .i64 0),V,.p (.int .i64 f.params.length),.nils]])/\VAt a.X V vs/\(∀i∈vi V,4<=i)/\vs.length=a.i/\rgV vs=scF (-1) [psS (f.params.take a.i) [] 0]) (λa=>f.params.length-a.i)
  ⟨0,[.row 1 [[.p (fdL l)]],.row 3 [[.p (.int .i64 0),.p (.int .i64 0),.nils]],.row 3 [[.p (.str f.name),.p (.lst 1 (f.params.map λw=>[.str w])),.p (smL f.body)]],.row 8 [[.p (fdL l),.p (.int .i64 f.params.length),.p (.int .i64 n),.nils,.p (.int .i64 0),.nils,.p (.int .i64 f.params.length),.nils]]]⟩ ⟨Nat.zero_le _,by simp,rfl,rfl,.nils,[],rfl,.nil,(λi hi=>by cases hi),rfl,rfl⟩ ?_ ?_
 ·exact ab (by simp) (by simp[below])
 rintro⟨i,X⟩ ⟨hi,hX4,hx1,hx2,V,vs,hx3,hV,hVi,hvl,hrg⟩
 simp only at hi hX4 hx1 hx2 hx3 hV hvl hrg
 obtain⟨v1,v2,v3⟩:=hV.is
 simp-implicitDefEqProofs[hx2]
 refine aF (λhc=>?_) (λhc=>?_)
 ·simp at hc
  have hg:=List.getElem?_eq_getElem hc
  have hrg2:=GP hc hvl hrg
  generalize f.params[i]=p at hg hrg2
  have hwi:=w1 (i:=i) (by omega)
  have hX2m:∀t,(X++t)[2]?=some (.row 3 [[.p (.str f.name),.p (.lst 1 (f.params.map λw=>[.str w])),.p (smL f.body)]]):=λt=>by rw[List.getElem?_append_left (by omega)];exact hx2
  cases hV with
  |nil=>
   have hvi:i=0:=hvl.symm
   subst hvi
   have hX3m:∀t,(X++t)[3]?=some (.row 8 [[.p (fdL l),.p (.int .i64 f.params.length),.p (.int .i64 n),.nils,.p (.int .i64 0),.nils,.p (.int .i64 f.params.length),.nils]]):=λt=>by rw[List.getElem?_append_left (by omega)];exact hx3
   simp-implicitDefEqProofs[hx2,hx3,hg,hX3m,hX2m]
   have hw11:IntKind.i64.wrap 1=1:=ag (by omega) (by omega)
   refine⟨⟨1,_⟩,⟨by simp only;omega,?_,?_,?_,.sl X.length 3 0 1,?_,[(p,0)],?_,?_,rfl,by simpa using hrg2⟩,by simp only;omega,ab ?_ ?_⟩
   rotate_left 6
   ·exact Nat.zero_le _
   ·simp[below,hw11]
    omega
   ·simp;omega
   ·rw[List.getElem?_set_ne (by omega),List.getElem?_append_left (by omega)];exact hx1
   ·rw[List.getElem?_set_ne (by omega),List.getElem?_append_left (by omega)];exact hx2
   ·exact List.getElem?_set_self (by simp;omega)
   ·exact .sl _ [mh (p,0)] [(p,0)] (by rw[List.getElem?_set_ne (by omega),List.getElem?_append_right (Nat.le_refl _)];simp[mh]) rfl
   ·intro j hj;rw[List.mem_singleton.1 hj];exact hX4
  |sl vid rows _ hv1 hv2=>
   have hvX:=(List.getElem?_eq_some_iff.1 hv1).1
   have hv4:=hVi vid (by simp[vi])
   have hvk:vs.length<=rows.length:=by
    have:=congrArg List.length hv2
    rw[List.length_take,List.length_map] at this
    omega
   have hX3m:∀t,(X.set vid .dead++t)[3]?=X[3]?:=λt=>by rw[List.getElem?_append_left (by simp;omega),List.getElem?_set_ne (by omega)]
   have hX2n:∀t,(X.set vid .dead++t)[2]?=X[2]?:=λt=>by rw[List.getElem?_append_left (by simp;omega),List.getElem?_set_ne (by omega)]
   simp-implicitDefEqProofs[hx2,hx3,hg,hv1,hv2, ↓hX3m, ↓hX2n,hwi]
   refine⟨⟨by omega,by omega⟩,⟨i+1,_⟩,⟨by simp only;omega,?_,?_,?_,.sl X.length 3 0 (vs.length+1),?_,vs++[(p,i)],?_,?_,by simp;omega,hrg2⟩,by simp only;omega,ab ?_ ?_⟩
   rotate_left 6
   ·exact Nat.zero_le _
   ·simp[below,hwi]
    omega
   ·simp;omega
   ·rw[List.getElem?_set_ne (by omega),List.getElem?_append_left (by simp;omega),List.getElem?_set_ne (by omega)];exact hx1
   ·rw[List.getElem?_set_ne (by omega),List.getElem?_append_left (by simp;omega),List.getElem?_set_ne (by omega)];exact hx2
   ·exact List.getElem?_set_self (by simp;omega)
   ·have hlv:(vs++[(p,i)]).length=vs.length+1:=by simp
    exact hlv▸ .sl _ (vs.map mh++[mh (p,i)]) (vs++[(p,i)]) (by rw[List.getElem?_set_ne (by omega),List.getElem?_append_right (by simp)];simp[mh]) (by rw[List.take_of_length_le (by simp)];simp)
   ·intro j hj;rw[List.mem_singleton.1 hj];exact hX4
 ·simp at hc
  have hie:i=f.params.length:=by omega
  subst hie
  rw[List.take_length] at hrg
  simp-implicitDefEqProofs[]
  refine(CE G hx3 ⟨v1,v2⟩).mono ?_
  rintro x X1 ⟨rfl,K1,I1,H1,hfr,hI1⟩
  have hl1:=hfr.1
  have va1:VAt X1 V vs:=hV.frame λi hi=>hfr.2 i (hV.lt i hi) (by have:=hVi i hi;simp;omega)
  have T1':=RS.of H1 va1 (λi hi=>by
   have h4:=hVi i hi
   have h5:=hV.lt i hi
   simp only[List.mem_cons,not_or]
   exact⟨by omega,λhm=>by have:=hI1 i hm;omega⟩)
  have T1:=T1'.add (j:=1) (by omega) (by
   simp only[List.mem_cons,not_or]
   exact⟨by omega,λhm=>by have:=hI1 1 hm;omega⟩) (λhm=>by have:=hVi 1 hm;omega)
  have b1:X1[1]?=some (.row 3 [[.p (.int .i64 0),.p (.int .i64 0),.nils]]):=(hfr.2 1 (by omega) (by simp)).trans hx1
  have b2:X1[2]?=some (.row 3 [[.p (.str f.name),.p (.lst 1 (f.params.map λw=>[.str w])),.p (smL f.body)]]):=(hfr.2 2 (by omega) (by simp)).trans hx2
  have ok1:(⟨n,[bk0],0⟩:Lw).Ok (f.sz+1):=⟨by show n<=_;omega,by show 1<=_;omega,λb hb=>by rw[List.mem_singleton.1 hb];show 0<=_;omega,by show 0<1;omega⟩
  simp-implicitDefEqProofs[aa,b2]
  obtain⟨y,hy⟩:∃y,y=aU (faI l) (-1) f.body (psS f.params [] 0) [] f.params.length ⟨n,[bk0],0⟩:=⟨_,rfl⟩
  have h2:=pN G (Ev G l hl f.params.length 3 4 f.body hf) T1 ok1 (by omega) (by omega) (by omega) hrg
  have ok2:=eg (faI l) (-1) f.body (psS f.params [] 0) [] f.params.length ⟨n,[bk0],0⟩ _ ok1
  rw[←hy] at h2 ok2
  refine h2.mono ?_
  rintro x X2 ⟨rfl,K2,V2,I2,T2,e2⟩
  obtain⟨ok2,_,_,_⟩:=ok2
  have b1:=(e2 1 (by simp)).trans b1
  simp-implicitDefEqProofs[aa]
  refine(GW G T2 (by have:=ok2.regs;omega)).mono ?_
  rintro x X3 ⟨rfl,K3,I3,T3,e3⟩
  have b1:=(e3 1 (by simp)).trans b1
  have ok3:=ok2.reg
  simp-implicitDefEqProofs[aa]
  refine(Hl G T3 ok3 (by omega) 1 y.2.2.regs 0).mono ?_
  rintro x X4 ⟨rfl,K4,I4,T4,e4⟩
  have b1:=(e4 1 (by simp)).trans b1
  have ok4:=ok3.put ⟨1,y.2.2.regs,[],0⟩
  simp-implicitDefEqProofs[aa]
  refine(GC G T4 ok4 3 y.2.2.regs 0 rfl).mono ?_
  rintro x X5 ⟨rfl,K5,I5,T5,e5⟩
  have b1:=(e5 1 (by simp)).trans b1
  have l5:=T5.stb.ls.here
  simp only[lwR] at l5
  obtain⟨k1,k2⟩:=jG T5.stb.ls.own
  have hs1:∀o,(X5.set 1 o)[1]?=some o:=λo=>List.getElem?_set_self (T5.at.1 1 (by simp)).1
  simp-implicitDefEqProofs[-AV.cells,-AV.isCell,aD,ae,ah,an,al,aE,af,am,aj,k1,k2,aa,l5,b1, ↓hs1]
  have hres:lwF l (-1) f=⟨f.params.length,((y.2.2.reg.put ⟨1,y.2.2.regs,[],0⟩).fin 3 y.2.2.regs 0 []).regs,((y.2.2.reg.put ⟨1,y.2.2.regs,[],0⟩).fin 3 y.2.2.regs 0 []).bs⟩:=by
   rw[lwF,←hn,←hy];rfl
  rw[hres]
  refine⟨_,I5,rfl,.p _ (λ_=>rfl) (.p _ (λ_=>rfl) (T5.stb.ls.own.frame λi hi=>List.getElem?_set_ne λe=>(T5.at.1 1 (by simp)).2 (by rw[e];exact List.mem_cons_of_mem _ hi))),(List.nodup_cons.1 T5.stb.ls.nd).2⟩
theorem FH(l:List Fd)(hl:l.length<=1073741824)(k:Nat)(f:Fd)(hk:l[k]?=some f)(hz:f.sz<=16777216)(hf:∀x∈f.body,aO 4 x=true):VF Try.prog G gO [.agg [.p (fdL l)],.p (.int .i64 k)] (.agg ((lwF l (-1) f).cs.map .p)):=
 AC.mkFreeze pI (Iw G l hl k f hk hz hf)
def unR(l:List Fd):List Cd:=l.map (lwF l (-1))
structure UnS where (i:Nat) (X:List AO)
theorem DW(l:List Fd)(hz:ck l<=16777216)(hf:∀f∈l,∀x∈f.body,aO 4 x=true):VF Try.prog G eZ [.agg [.p (fdL l)]] (.agg [.p (cdL (unR l))]):=by
 have hfl:fdL l= .lst 3 (l.map Fd.cs):=rfl
 have hll:l.length<=ck l:=nN l
 have key:AC Try.prog G eZ [.agg [.p (fdL l)]] [] λx h=>∃V,x= .ret (.agg [V])/\((V= .nils/\l=[])\/∃id,V= .sl id 3 0 l.length/\h[id]?=some (.row 3 (pA (unR l)))):=by
  refine AC.go tk ?_
  simp-implicitDefEqProofs[lS]
  refine aH (λa:UnS=>aA 22 [(1,.ptr 0 1 0 0),(2,.ptr 1 1 0 0),(3,.ptr 2 1 0 0),(4,.p (.int .i64 a.i))]) (λa=>a.X)
   (λa=>a.i<=l.length/\3<=a.X.length/\a.X[0]?=some (.row 1 [[.p (fdL l)]])/\a.X[1]?=some (.row 1 [[.nils]])/\∃V,a.X[2]?=some (.row 1 [[V]])/\((V= .nils/\a.i=0)\/∃id,V= .sl id 3 0 a.i/\3<=id/\a.X[id]?=some (.row 3 (pA (unR l|>.take a.i))))) (λa=>l.length-a.i)
   ⟨0,[.row 1 [[.p (fdL l)]],.row 1 [[.nils]],.row 1 [[.nils]]]⟩ ⟨Nat.zero_le _,by simp,rfl,rfl,.nils,rfl,.inl ⟨rfl,rfl⟩⟩ ?_ ?_
  ·exact ab (by simp) (by simp[below])
  rintro⟨i,X⟩ ⟨hi,hX3,hx0,hx1,V,hx2,hV⟩
  simp only at hi hX3 hx0 hx1 hx2 hV
  simp-implicitDefEqProofs[hx0,hfl]
  refine aF (λhc=>?_) (λhc=>?_)
  ·simp at hc
   have hg:=List.getElem?_eq_getElem hc
   have hm:=List.getElem_mem hc
   have hfz:=nr hm
   have hcall:=FH G l (by omega) i l[i] hg (by omega) (hf _ hm)
   have htk:(unR l).take (i+1)=(unR l).take i++[lwF l (-1) l[i]]:=by
    rw[unR,←List.map_take,←List.map_take,au hc,List.map_append];rfl
   have hcs:=(lwF l (-1) l[i]).cs_eq'
   have hlt:((unR l).take i).length=i:=by simp[unR];omega
   have hwi:=w1 (i:=i) (by omega)
   generalize lwF l (-1) l[i]=c at hcall htk hcs
   rw[hcs] at hcall
   rw[hfl] at hcall
   have hX2:∀t,(X++t)[2]?=some (.row 1 [[V]]):=λt=>by rw[List.getElem?_append_left (by omega)];exact hx2
   rcases hV with⟨rfl,rfl⟩|⟨id,rfl,hid,hxi⟩
   ·simp-implicitDefEqProofs[hx2,hx0,hfl]
    refine hcall.use ?_
    simp-implicitDefEqProofs[hx2,hX2]
    have hw11:IntKind.i64.wrap 1=1:=ag (by omega) (by omega)
    refine⟨⟨1,_⟩,⟨by simp only;omega,?_,?_,?_,.sl (X.length+1) 3 0 1,?_,.inr ⟨X.length+1,rfl,by omega,?_⟩⟩,by simp only;omega,ab ?_ ?_⟩
    rotate_left 5
    ·exact Nat.zero_le _
    ·simp[below,hw11];omega
    ·simp;omega
    ·rw[List.getElem?_set_ne (by omega),List.getElem?_append_left (by omega)];exact hx0
    ·rw[List.getElem?_set_ne (by omega),List.getElem?_append_left (by omega)];exact hx1
    ·exact List.getElem?_set_self (by simp;omega)
    ·rw[htk,List.getElem?_set_ne (by omega),List.getElem?_append_right (by omega)]
     simp[pA,hcs]
   ·have hiX:=(List.getElem?_eq_some_iff.1 hxi).1
    have hX2n:∀t u,((X++t).set id .dead++u)[2]?=X[2]?:=λt u=>by rw[List.getElem?_append_left (by simp;omega),List.getElem?_set_ne (by omega),List.getElem?_append_left (by omega)]
    have hxim:∀t,(X++t)[id]?=some (.row 3 (pA (List.take i (unR l)))):=λt=>by rw[List.getElem?_append_left hiX];exact hxi
    have htl:List.take i (pA (List.take i (unR l)))=pA (List.take i (unR l)):=List.take_of_length_le (by simp[pA];omega)
    have hcl:(pA (List.take i (unR l))).length=i:=by simp only[pA,List.length_map];exact hlt
    simp-implicitDefEqProofs[hx2,hx0,hfl]
    refine hcall.use ?_
    simp-implicitDefEqProofs[hx2,hX2,hxi,hxim, ↓hX2n,htl,hcl,hwi]
    refine⟨⟨by omega,by omega⟩,⟨i+1,_⟩,⟨by simp only;omega,?_,?_,?_,.sl (X.length+1) 3 0 (i+1),?_,.inr ⟨X.length+1,rfl,by omega,?_⟩⟩,by simp only;omega,ab ?_ ?_⟩
    rotate_left 5
    ·exact Nat.zero_le _
    ·simp[below,hwi];omega
    ·simp;omega
    ·rw[List.getElem?_set_ne (by omega),List.getElem?_append_left (by simp),List.getElem?_set_ne (by omega),List.getElem?_append_left (by omega)];exact hx0
    ·rw[List.getElem?_set_ne (by omega),List.getElem?_append_left (by simp;omega),List.getElem?_set_ne (by omega),List.getElem?_append_left (by omega)];exact hx1
    ·exact List.getElem?_set_self (by simp;omega)
    ·rw[htk,List.getElem?_set_ne (by omega),List.getElem?_append_right (by simp)]
     simp[pA,hcs]
  ·simp at hc
   have hie:i=l.length:=by omega
   subst hie
   have hx1s:∀o,(X.set 1 o)[1]?=some o:=λo=>List.getElem?_set_self (by omega)
   have hul:(unR l).take l.length=unR l:=List.take_of_length_le (by simp[unR])
   rw[hul] at hV
   rcases hV with⟨rfl,h0⟩|⟨id,rfl,hid,hxi⟩
   ·simp-implicitDefEqProofs[hx2,hx1, ↓hx1s]
    exact List.length_eq_zero_iff.1 h0
   ·simp-implicitDefEqProofs[hx2,hx1, ↓hx1s]
    rw[List.getElem?_set_ne (by omega)]
    exact hxi
 refine key.freezeR (λt v h ⟨V,e,_⟩=>by cases e) ?_
 rintro v h ⟨V,e,hV⟩
 cases e
 refine .agg ?_ .nil
 rcases hV with⟨rfl,rfl⟩|⟨id,rfl,hid⟩
 ·exact .one (View.nils 3) .nil
 ·have hh:pA (unR l)=((unR l).map Cd.cs).map (·.map .p):=by simp[pA]
  rw[hh] at hid
  have:=dS (n:=l.length) hid (by simp[unR]) (λx hx=>by obtain⟨b,_,rfl⟩:=List.mem_map.1 hx;rfl)
  exact .one this .nil
end
section
theorem Af{d:Nat}{e:Ex}(h:bL (d+1) e=true):(∀a∈e.kids,bL d a=true)/\(e.op=1\/e.op=2->e.kids=[])/\(e.op=10->∃a b,e.kids=[a,b]):=by
 rw[bL,Bool.and_eq_true] at h
 refine⟨λa ha=>List.all_eq_true.1 h.2 a ha,λho=>?_,λho=>?_⟩
 ·have h:=h.1
  simp only[kr,Bool.and_eq_true,inR,decide_eq_true_eq] at h
  obtain⟨⟨⟨⟨⟨_,h2⟩,_⟩,_⟩,_⟩,_⟩:=h
  rw[loK,if_pos ho,hiK,if_pos ho] at h2
  exact List.length_eq_zero_iff.1 (by omega)
 ·have h:=h.1
  simp only[kr,Bool.and_eq_true,inR,decide_eq_true_eq] at h
  obtain⟨⟨⟨⟨⟨_,h2⟩,_⟩,_⟩,_⟩,_⟩:=h
  rw[ho,show loK 10=2 from rfl,show hiK 10=2 from rfl] at h2
  match e.kids,h2 with
  |[a,b],_=>exact⟨a,b,rfl⟩
  |[],h=>simp at h
  |[_],h=>simp at h
  |_::_::_::r,h=>simp only[List.length_cons] at h;omega
theorem CY{d:Nat}{s:Sm}(h:aO (d+1) s=true):(∀a∈s.args,bL 6 a=true)/\(∀x∈s.body,aO d x=true)/\(∀x∈s.els,aO d x=true)/\(s.op=6->∃a,s.args=[a])/\(¬s.op=5->s.els=[])/\(¬s.op=5->¬s.op=6->s.body=[]):=by
 rw[aO,Bool.and_eq_true,Bool.and_eq_true] at h
 obtain⟨⟨hh,hb⟩,he⟩:=h
 simp only[fy,Bool.and_eq_true,List.all_eq_true,Bool.or_eq_true,decide_eq_true_eq,List.isEmpty_iff] at hh
 refine⟨λa ha=>?_,λx hx=>List.all_eq_true.1 hb x hx,λx hx=>List.all_eq_true.1 he x hx,λh6=>?_,λh5=>?_,λh5 h6=>?_⟩
 ·have:=hh.1.1.1.2 a ha
  rw[px,Bool.and_eq_true] at this
  exact this.1
 ·have h1:=hh.1.1.1.1.1.1.2
  rw[jO,if_neg (by omega)] at h1
  exact List.length_eq_one_iff.1 h1
 ·rcases hh.1.2 with h|h
  ·exact h
  ·exact(h5 h).elim
 ·rcases hh.2 with(h|h)|h
  ·exact h
  ·exact(h5 h).elim
  ·exact(h6 h).elim
end
section
theorem jA{s:List UInt8}(h:cg s=true):s.length<=4:=by
 simp only[cg,Bool.and_eq_true,decide_eq_true_eq] at h
 exact h.1.2
theorem zQ{e:Ex}(h:kr e=true):e.name.length<=4:=by
 simp only[kr,Bool.and_eq_true] at h
 have h1:=h.1.1.1.2
 have h2:=h.1.1.2
 cases hn:zA e.op with
 |true=>
  rw[hn] at h1
  exact jA (by simpa using h1)
 |false=>
  rw[hn] at h2
  have:e.name=[]:=by simpa using h2
  rw[this];simp
theorem Au{l:List Ex}(h:∀e∈l,e.sz<=5*e.parts):aP l<=5*iN l:=by
 induction l with
 |nil=>simp[aP]
 |cons e r ih=>
  have h1:=h e (by simp)
  have h2:=ih λx hx=>h x (by simp[hx])
  simp only[aP,iN]
  omega
theorem Dz:∀(d:Nat) (e:Ex),bL d e=true->e.sz<=5*e.parts:=by
 intro d
 induction d with
 |zero=>intro e h;cases h
 |succ d ih=>
  intro e h
  have hk:=(Af h).1
  rw[bL,Bool.and_eq_true] at h
  have hn:=zQ h.1
  have hz:=Au (l:=e.kids) λa ha=>ih a (hk a ha)
  rw[e.sz_eq,e.parts_eq]
  omega
theorem FT{e:Ex}(h:px e=true):e.sz<=150:=by
 simp only[px,Bool.and_eq_true,decide_eq_true_eq] at h
 have:=Dz 6 e h.1
 omega
theorem pX:∀{l:List Ex},(∀e∈l,e.sz<=150)->aP l<=150*l.length
 |[],_=>by simp[aP]
 |e::r,h=>by
  have h1:=h e (by simp)
  have h2:=pX (l:=r) λx hx=>h x (by simp[hx])
  simp only[aP,List.length_cons]
  omega
theorem Ed{s:Sm}(h:fy s=true):s.name.length<=4/\aP s.args<=300:=by
 simp only[fy,Bool.and_eq_true] at h
 have ha:=h.1.1.1.2
 have hl:=h.1.1.1.1.1.1.2
 have h1:=h.1.1.1.1.1.2
 have h2:=h.1.1.1.1.2
 refine⟨?_,?_⟩
 ·cases hn:uq s.op with
  |true=>
   rw[hn] at h1
   exact jA (by simpa using h1)
  |false=>
   rw[hn] at h2
   have:s.name=[]:=by simpa using h2
   rw[this];simp
 ·have:=pX (l:=s.args) λe he=>FT (List.all_eq_true.1 ha e he)
  have hl2:s.args.length<=2:=by
   simp only[decide_eq_true_eq] at hl
   rw[hl,jO];split<;>omega
  omega
theorem rd{l:List Sm}(h:∀s∈l,s.sz<=305*s.cnt):aM l<=305*cz l:=by
 induction l with
 |nil=>simp[aM]
 |cons e r ih=>
  have h1:=h e (by simp)
  have h2:=ih λx hx=>h x (by simp[hx])
  simp only[aM,cz]
  omega
theorem De:∀(d:Nat) (s:Sm),aO d s=true->s.sz<=305*s.cnt:=by
 intro d
 induction d with
 |zero=>intro e h;cases h
 |succ d ih=>
  intro s h
  obtain⟨_,hb,he,_⟩:=CY h
  rw[aO,Bool.and_eq_true,Bool.and_eq_true] at h
  obtain⟨hn,ha⟩:=Ed h.1.1
  have h1:=rd (l:=s.body) λx hx=>ih x (hb x hx)
  have h2:=rd (l:=s.els) λx hx=>ih x (he x hx)
  rw[s.sz_eq,s.cnt_eq]
  omega
theorem Bw:∀{l:List (List UInt8)},(∀w∈l,w.length<=4)->(l.map List.length).sum<=4*l.length
 |[],_=>by simp
 |w::r,h=>by
  have h1:=h w (by simp)
  have h2:=Bw (l:=r) λx hx=>h x (by simp[hx])
  simp only[List.map_cons,List.sum_cons,List.length_cons]
  omega
theorem FG{f:Fd}(h:jX f=true):f.sz<=20+305*cz f.body:=by
 simp only[jX,Bool.and_eq_true,decide_eq_true_eq,List.all_eq_true] at h
 obtain⟨⟨⟨hp,hn⟩,h3⟩,hb⟩:=h
 have h1:=jA hn
 have h2:=Bw (l:=f.params) λw hw=>jA (hp w hw)
 have h4:=rd (l:=f.body) λx hx=>De 4 x (hb x hx)
 rw[Fd.sz]
 omega
theorem rJ:∀{l:List Fd},(∀f∈l,jX f=true)->ck l<=20*l.length+305*oq l
 |[],_=>by simp[ck]
 |f::r,h=>by
  have h1:=FG (h f (by simp))
  have h2:=rJ (l:=r) λx hx=>h x (by simp[hx])
  simp only[ck,oq,List.map_cons,List.sum_cons,List.length_cons] at h2⊢
  omega
theorem uL{l:List Fd}(h:cD l=true):ck l<=12280:=by
 rw[mC] at h
 obtain⟨⟨_,h4⟩,hf,hn⟩:=h
 have:=rJ hf
 omega
theorem vG{l:List Fd}(h:cD l=true):∀f∈l,∀x∈f.body,aO 4 x=true:=λf hf x hx=>by
 rw[mC] at h
 have h1:=h.2.1 f hf
 simp only[jX,Bool.and_eq_true,List.all_eq_true] at h1
 exact h1.2 x hx
def Lw.Ar(A:Nat)(w:Lw):Prop:=∀b∈w.bs,b.phis=[]/\b.next.length<=2/\∀x∈b.ins,x.args.length<=A
theorem vU{f:Bk->Bk}{l:List Bk}{i:Nat}{b:Bk}(h:b∈modB f l i):b∈l\/∃c∈l,b=f c:=by
 unfold modB at h
 split at h
 ·rename_i c hc
  rcases List.mem_or_eq_of_mem_set h with h|h
  ·exact .inl h
  ·exact .inr ⟨c,List.mem_of_getElem? hc,h⟩
 ·exact .inl h
theorem Lw.Ar.put{A:Nat}{w:Lw}(H:w.Ar A){x:Ii}(hx:x.args.length<=A):(w.put x).Ar A:=λb hb=>by
 rcases vU hb with h|⟨c,hc,rfl⟩
 ·exact H b h
 ·obtain⟨h1,h2,h3⟩:=H c hc
  refine⟨h1,h2,λy hy=>?_⟩
  rcases List.mem_append.1 hy with h|h
  ·exact h3 y h
  ·rw[List.mem_singleton.1 h];exact hx
theorem Lw.Ar.mk'{A:Nat}{w:Lw}(H:w.Ar A){op n:Int}{args:List Int}(hx:args.length<=A):(w.mk' op n args).Ar A:=Lw.Ar.put (w:=w.reg) H hx
theorem Lw.Ar.name{A:Nat}{w:Lw}(H:w.Ar A)(n:Nat):(w.name n).Ar A:=λb hb=>by
 rcases List.mem_append.1 hb with h|h
 ·exact H b h
 ·rw[(List.mem_replicate.1 h).2];simp[bk0]
theorem Lw.Ar.fin{A:Nat}{w:Lw}(H:w.Ar A){j o:Int}{g:Nat}{nx:List Int}(hx:nx.length<=2):(w.fin j o g nx).Ar A:=λb hb=>by
 rcases vU hb with h|⟨c,hc,rfl⟩
 ·exact H b h
 ·obtain⟨h1,h2,h3⟩:=H c hc
  exact⟨h1,hx,h3⟩
mutual
theorem vh(fa sc:List UInt8->Int){A:Nat}(hA:1<=A):∀(e:Ex) (w:Lw),w.Ar A->e.sz<=A->(lwE fa sc e w).2.Ar A
 | .mk o n s ks,w,H,hz=>by
   simp only[Ex.sz] at hz
   have hkl:=fe ks
   rw[lwE]
   split
   ·exact H.mk' (by simp)
   split
   ·exact H
   split
   ·exact HD fa sc hA ks w H (by omega)
   ·refine(uP fa sc hA ks w H (by omega)).mk' ?_
    rw[gA];omega
theorem HD(fa sc:List UInt8->Int){A:Nat}(hA:1<=A):∀(l:List Ex) (w:Lw),w.Ar A->aP l<=A->(lwA fa sc l w).2.Ar A
 |[],w,H,_=>by rw[lwA];exact H;intro a b h;cases h
 |[a],w,H,_=>by rw[lwA];exact H;intro a b h;cases h
 |a::b::c::r,w,H,_=>by rw[lwA];exact H;intro a b h;cases h
 |[a,b],w,H,hz=>by
  simp only[aP] at hz
  have h1:=vh fa sc hA a w H (by omega)
  rw[lwA]
  simp only
  have h2:=((h1.mk' (op:=1) (n:=0) (args:=[]) (by simp)).name 2).fin (j:=2) (o:=(lwE fa sc a w).1) (g:=((lwE fa sc a w).2.mk' 1 0 []).bs.length) (nx:=[(((lwE fa sc a w).2.mk' 1 0 []).bs.length:Int),(((lwE fa sc a w).2.mk' 1 0 []).bs.length:Int)+1]) (by simp)
  exact(((vh fa sc hA b _ h2 (by omega)).mk' (by simpa using hA)).put (by simpa using hA)).fin (by simp)
theorem uP(fa sc:List UInt8->Int){A:Nat}(hA:1<=A):∀(l:List Ex) (w:Lw),w.Ar A->aP l<=A->(bA fa sc l w).2.Ar A
 |[],w,H,_=>by rw[bA];exact H
 |e::r,w,H,hz=>by
  simp only[aP] at hz
  rw[bA]
  exact uP fa sc hA r _ (vh fa sc hA e w H (by omega)) (by omega)
end
mutual
theorem Hq(fa:List UInt8->Int)(q:Int){A:Nat}(hA:1<=A):∀(s:Sm) (m:Scp) (up:List Scp) (nx:Nat) (w:Lw),w.Ar A->s.sz<=A->(lwS fa q s m up nx w).2.2.Ar A
 | .mk o n a bd el,m,up,nx,w,H,hz=>by
   simp only[Sm.sz] at hz
   have hhd:=yX a
   have hal:=fe a
   rw[lwS]
   simp only
   split
   ·have h1:=vh fa (scF q (m::up)) hA (a.headD (.mk 0 0 [] [])) _ ((H.name 3).fin (j:=1) (o:=0) (g:=w.bs.length) (nx:=[(w.bs.length:Int)]) (by simp)) (by omega)
    exact(nR fa q hA bd [] (m::up) nx _ (h1.fin (by simp)) (by omega)).fin (by simp)
   ·have h1:=uP fa (scF q (m::up)) hA a w H (by omega)
    have hl:(bA fa (scF q (m::up)) a w).1.length<=A:=by rw[gA];omega
    split
    ·exact h1.put hl
    split
    ·exact h1.put hl
    split
    ·exact h1.put hl
    split
    ·exact h1.put hl
    split
    ·exact(nR fa q hA el [] (m::up) _ _ ((nR fa q hA bd [] (m::up) nx _ ((h1.name 3).fin (by simp)) (by omega)).fin (by simp)) (by omega)).fin (by simp)
    split
    ·exact(h1.name 1).fin (by simp)
    ·exact h1
theorem nR(fa:List UInt8->Int)(q:Int){A:Nat}(hA:1<=A):∀(l:List Sm) (m:Scp) (up:List Scp) (nx:Nat) (w:Lw),w.Ar A->aM l<=A->(aU fa q l m up nx w).2.2.Ar A
 |[],m,up,nx,w,H,_=>by rw[aU];exact H
 |s::r,m,up,nx,w,H,hz=>by
  simp only[aM] at hz
  rw[aU]
  exact nR fa q hA r _ up _ _ (Hq fa q hA s m up nx w H (by omega)) (by omega)
end
theorem Fx(l:List Fd)(q:Int)(f:Fd)(hz:f.sz<=16777216):Hf 1073741824 (lwF l q f)/\0<=(lwF l q f).regs/\(lwF l q f).regs<=1073741824/\0<(lwF l q f).blocks.length:=by
 have hfz:f.sz=1+f.name.length+(f.params.length+(f.params.map List.length).sum)+aM f.body:=rfl
 have hlet:=Nat.le_trans (iT f.body) (gW f.body)
 have hok:(⟨f.params.length+be f.body,[bk0],0⟩:Lw).Ok (f.sz+1):=⟨by show f.params.length+be f.body<=_;omega,by show 1<=_;omega,λb hb=>by rw[List.mem_singleton.1 hb];show 0<=_;omega,by show 0<1;omega⟩
 have har:(⟨f.params.length+be f.body,[bk0],0⟩:Lw).Ar 16777217:=λb hb=>by rw[List.mem_singleton.1 hb];simp[bk0]
 obtain⟨h1,h2,_,_⟩:=eg (faI l) q f.body (psS f.params [] 0) [] f.params.length _ _ hok
 have h3:=nR (faI l) q (A:=16777217) (by omega) f.body (psS f.params [] 0) [] f.params.length _ har (by omega)
 rw[lwF]
 simp only
 generalize aU (faI l) q f.body (psS f.params [] 0) [] f.params.length _=y at*
 have k1:=(h1.mk' 1 0 []).fin 3 y.2.2.regs (g:=0) (by
  have:=h1.pos
  rw[Lw.mk'_len];omega) []
 have k3:=(h3.mk' (op:=1) (n:=0) (args:=[]) (by simp)).fin (j:=3) (o:=y.2.2.regs) (g:=0) (nx:=[]) (by simp)
 refine⟨⟨by have:=k1.bs;show((y.2.2.mk' 1 0 []).fin 3 y.2.2.regs 0 []).bs.length<=_;omega,λb hb=>?_⟩,by show(0:Int)<=((y.2.2.mk' 1 0 []).regs:Int);omega,by have:=k1.regs;show((y.2.2.mk' 1 0 []).regs:Int)<=_;have h:((y.2.2.mk' 1 0 []).fin 3 y.2.2.regs 0 []).regs=(y.2.2.mk' 1 0 []).regs:=rfl;omega,by have:=k1.pos;show 0<((y.2.2.mk' 1 0 []).fin 3 y.2.2.regs 0 []).bs.length;omega⟩
 obtain⟨a1,a2,a3⟩:=k3 b hb
 have a4:=k1.ins b hb
 exact⟨by rw[a1];simp,by omega,by omega,by rw[a1];simp,λx hx=>by have:=a3 x hx;omega⟩
theorem tQ:∀{l:List Fd} {f:Fd},f∈l->f.sz<=ck l
 |x::r,f,h=>by
  simp only[ck,List.map_cons,List.sum_cons]
  rcases List.mem_cons.1 h with rfl|h
  ·omega
  ·have:=tQ h
   simp only[ck] at this
   omega
theorem Gr(l:List Fd)(q:Int)(hz:ck l<=16777216)(hl:l.length<=1073741824):ID 1073741824 (l.map (lwF l q)):=
 ⟨by rw[List.length_map];exact hl,λc hc=>by
   obtain⟨f,hf,rfl⟩:=List.mem_map.1 hc
   have:=tQ hf
   exact(Fx l q f (by omega)).1⟩
end
section
variable (G:aB)
def PshF(s:Bool)(sz:Nat)(D:List (List PV))(h0:List AO)(a:PshS):Prop:=a.i<=D.length/\h0.length<=a.id/\h0.length<=a.h.length/\(∀j,j<h0.length->a.h[j]?=h0[j]?)/\∃rows J,RowOwn s a.h a.id sz rows (D.take a.i) J/\∀j∈J,h0.length<=j
theorem zP{h h2:List AO}(hl:h.length<=h2.length)(hf:∀j,j<h.length->h2[j]?=h[j]?):h2=h++h2.drop h.length:=by
 have e:h2.take h.length=h:=by
  apply List.ext_getElem?
  intro j
  by_cases hj:j<h.length
  ·rw[List.getElem?_take_of_lt hj];exact hf j hj
  ·rw[List.getElem?_eq_none (by rw[List.length_take];omega),List.getElem?_eq_none (by omega)]
 have e2:=List.take_append_drop h.length h2
 rw[e] at e2
 exact e2.symm
theorem PshF.step{s:Bool}{sz i id:Nat}{D:List (List PV)}{h0 h:List AO}(H:PshF s sz D h0 ⟨i,id,h⟩){e:List PV}(hi:D[i]?=some e){h2:List AO}(hl:h.length<=h2.length)(hf:∀j,j<h.length->h2[j]?=h[j]?){r':List AV}{I2:List Nat}(ho:OwnL s h2 r' e I2)(nd2:I2.Nodup)(hn:∀j∈I2,h.length<=j)(he:e.length=sz):
 ∃rows,(∀os,(h2++os)[id]?=some (.row sz rows))/\rows.length=i/\i<D.length/\id<h2.length/\∀os1 os2,PshF s sz D h0 ⟨i+1,(h2++os1).length,(h2++os1).set id .dead++ .row sz (rows++[r'])::os2⟩:=by
 obtain⟨h1,h3,h4,h5,rows,J,hr,hJ⟩:=H
 have hil:i<D.length:=(List.getElem?_eq_some_iff.1 hi).1
 have hlen:=hr.len
 simp only at h1 h3 h4 h5 hlen hr
 rw[List.length_take,Nat.min_eq_left h1] at hlen
 have e2:=zP hl hf
 have hid:=hr.lt
 have h2e:h2[id]?=some (.row sz rows):=by rw[hf id hid];exact hr.here
 refine⟨rows,λos=>by rw[List.getElem?_append_left (by omega)];exact h2e,hlen,hil,by omega,λos1 os2=>⟨hil,by simp only[List.length_append];omega,by simp;omega,λj hj=>?_,rows++[r'],J++I2,?_,λj hj=>?_⟩⟩
 ·simp only
  rw[List.getElem?_append_left (by simp only[List.length_set,List.length_append,List.length_cons];omega),List.getElem?_set_ne (by omega),List.getElem?_append_left (by omega),hf j (by omega)]
  exact h5 j hj
 ·have hp:=(hr.push (h2:=h2++os1) (os:=h2.drop h.length++os1) (by rw[←List.append_assoc,←e2]) (ho.more os1) nd2 hn he).more os2
  have hd:D.take i++[e]=D.take (i+1):=by rw[List.take_add_one,hi];rfl
  rw[hd,List.append_assoc] at hp
  exact hp
 ·rcases List.mem_append.1 hj with hj|hj
  ·exact hJ j hj
  ·have:=hn j hj;omega
theorem PshF.done{s:Bool}{sz i id:Nat}{D:List (List PV)}{h0 h:List AO}(H:PshF s sz D h0 ⟨i,id,h⟩)(hi:D.length<=i):h0.length<=h.length/\(∀j,j<h0.length->h[j]?=h0[j]?)/\∃I,OwnL s h [.sl id sz 0 i] [.lst sz D] I/\I.Nodup/\∀j∈I,h0.length<=j:=by
 obtain⟨h1,h3,h4,h5,rows,J,hr,hJ⟩:=H
 simp only at h1 h3 h4 h5 hr
 rw[List.take_of_length_le hi] at hr
 exact⟨h4,h5,id::J,hr.tree (by omega),hr.nd,λj hj=>by
  rcases List.mem_cons.1 hj with rfl|hj
  ·exact h3
  ·exact hJ j hj⟩
end
section
variable (G:aB)
theorem DT{ρ:List Nat}:∀{args:List AV},aw 0 args->TW ρ args args
 |[],_=>trivial
 |v::r,h=>⟨.inr ⟨(bu (Nat.zero_le _) [v] ⟨h.1,trivial⟩).1,by have:=jj ρ [v] ⟨h.1,trivial⟩;simpa[bi] using this⟩,DT h.2⟩
theorem Mh{f:FuncId}{args:List AV}{b:List Int}{p:Nat}{Q:AV->Nat->Prop}(H:AC Try.prog G f (.ptr 0 2 0 0::args) [rdO b p] λx h=>∃v q,x= .ret v/\h=[rdO b q]/\Q v q)(hq:∀v q,Q v q->below 0 v){h:List AO}{k:Nat}(hk:h[k]?=some (rdO b p))(ha:aw 0 args):
 AC Try.prog G f (.ptr k 2 0 0::args) h λx h'=>∃v q,x= .ret v/\h'=h.set k (rdO b q)/\Q v q:=by
 refine(H.frame (h:=h) (args:= .ptr k 2 0 0::args) [k] (by simp) ⟨.inr ⟨by simp[below],by simp[ren]⟩,DT ha⟩ (gP hk (bQ _ _ _) gf)).mono ?_
 rintro x h' ⟨x0,h0,⟨v,q,rfl,rfl,r⟩,hl,rfl,rfl⟩
 refine⟨v,q,?_,?_,r⟩
 ·simp only[zt]
  have:=jj ([k]++List.range' h.length ([rdO b q].length-[rdO b p].length)) [v] ⟨hq v q r,trivial⟩
  simpa[bi] using this
 ·have hp2:∀σ,eB σ (rdO b q)=rdO b q:=λσ=>by simp[rdO,eB,bi,ren]
  simp[mrg,hp2]
theorem Fc{l:List Int}(h:Byt l)(n:Nat):Byt (l.take n):=λx hx=>h x (List.mem_of_mem_take hx)
theorem Dj{f:FuncId}{args:List AV}{R:ARes->Prop}(H:AC Try.prog G f args [] λx _=>R x)(hR:∀x,R x->∃v,x= .ret v/\below 0 v)(ha:aw 0 args)(h:List AO):AC Try.prog G f args h λx h'=>R x/\h'=h:=by
 have H2:AC Try.prog G f args [] λx h'=>R x/\h'=[]:=by
  refine H.wk (λt v h' r=>by obtain⟨_,e,_⟩:=hR _ r;cases e) λv h' r=>?_
  obtain⟨v',e,hv⟩:=hR _ r
  cases e
  exact⟨v,[],Ef rfl ⟨.inr ⟨hv,rfl⟩,trivial⟩,r,rfl⟩
 refine(H2.pre h ha (λo ho=>by cases ho) (λx h' r=>by rw[r.2])).mono ?_
 rintro x h' ⟨h1,⟨r,rfl⟩,rfl⟩
 exact⟨r,rfl⟩
variable (hK:G zS=some zW) (hS:G ym=some [.tbl opK opV])
include hK hS
end
section
theorem JE{u:List Cd}(h:unB u=true):GU u:=by
 simp only[unB,Bool.and_eq_true,decide_eq_true_eq] at h
 obtain⟨⟨h1,h2⟩,_⟩:=h
 simp only[inR,Bool.and_eq_true,decide_eq_true_eq] at h1
 refine⟨⟨λe=>by rw[e] at h1;simp at h1,by omega⟩,λc hc=>?_⟩
 obtain⟨i,hi⟩:=List.getElem?_of_mem hc
 have h3:=allI_iff.1 h2 i c hi
 simp only[cdB,Bool.and_eq_true,inR,decide_eq_true_eq] at h3
 obtain⟨⟨⟨_,_⟩,h4⟩,h5⟩:=h3
 refine⟨by omega,by omega,λx hx=>?_⟩
 obtain⟨j,hj⟩:=List.getElem?_of_mem hx
 have h6:=allI_iff.1 h5 j x hj
 simp only[bkB,Bool.and_eq_true] at h6
 have h7:=h6.1.1.1.1
 rw[decide_eq_true_eq] at h7
 have h8:nxN x.jump<=2:=by
  unfold nxN
  split
  ·decide
  ·split
   ·decide
   ·split<;>decide
 omega
variable (G:aB)
theorem Cn{b:List Int}(hb:Byt b)(hl:b.length<=2000){p:Nat}(hp:p<=9000000000):AC Try.prog G gt [.ptr 0 2 0 0] [rdO b p] λx h=>∃v q,x= .ret v/\h=[rdO b q]/\(∃cs,v= .agg [.p (cdL cs)]/\GU cs)/\p<=q/\q<=p+200010000:=by
 refine ig G (AC.go rH ?_)
 obtain⟨p1,hp1⟩:∃p1,p1=p+1:=⟨_,rfl⟩
 have hprog:AC Try.prog G eP [.ptr 0 2 0 0] [rdO b p1] λx h=>∃v q,x= .ret v/\h=[rdO b q]/\((∃l:List Fd,v= .agg [.p (fdL l)]/\cD l=true)/\p1<=q/\q<=p1+200000000):=
  (Iq G hb hl (by omega)).mono λx h ⟨l,q,e1,e2,e3,e4,e5,e6⟩=>⟨_,q,e1,e2,⟨l,rfl,e3⟩,e5,e6⟩
 simp-implicitDefEqProofs[kO]
 refine(aG G b hb hl p (by omega) 2 _).mono ?_
 rintro r h ⟨k1,rfl,rfl,_⟩
 rw[←hp1]
 simp-implicitDefEqProofs[aa]
 have alt:∀(rest:List AO) (q:Nat),p<=q->q<=p+200000001->AC Try.prog G di [.ptr 0 2 0 0] (rdO b q::rest) λx h=>∃v q2,x= .ret v/\h=rdO b q2::rest/\(∃cs,v= .agg [.p (cdL cs)]/\SmU cs)/\q<=q2/\q2<=q+4000:=λrest q _ _=>iu G (vJ G hb hl (p:=q) (by omega)) rest (by simp[below])
 refine aF (λhc=>?_) (λhc=>?_)
 ·simp-implicitDefEqProofs[]
  refine(iu G hprog _ (by simp[below])).mono ?_
  rintro r h ⟨v,q,rfl,rfl,⟨l,rfl,hok⟩,h1,h2⟩
  have hz:=uL hok
  have hll:l.length<=4:=((mC l).1 hok).1.2
  simp-implicitDefEqProofs[aa]
  refine(DW G l (by omega) (vG hok)).use ?_
  have hu:=yN G (unR l) (Gr l (-1) (by omega) (by omega))
  simp-implicitDefEqProofs[]
  refine hu.use ?_
  simp-implicitDefEqProofs[]
  refine aF (λhv=>?_) (λhv=>?_)
  ·simp-implicitDefEqProofs[]
   exact⟨_,_,q,.agg [.p (cdL (unR l))],rfl,rfl,.keep (by simp) .nil,⟨_,rfl,JE hv⟩,by omega,by omega⟩
  ·simp-implicitDefEqProofs[]
   refine(alt _ q (by omega) (by omega)).mono ?_
   rintro r h ⟨v,q2,rfl,rfl,⟨cs,rfl,hs⟩,h3,h4⟩
   simp-implicitDefEqProofs[aa]
   exact⟨_,_,q2,.agg [.p (cdL cs)],rfl,rfl,.keep (by simp) .nil,⟨cs,rfl,⟨hs.1,by have:=hs.2.1;omega⟩,λc hc=>(hs.2.2 c hc).g⟩,by omega,by omega⟩
 ·simp-implicitDefEqProofs[]
  refine(alt _ p1 (by omega) (by omega)).mono ?_
  rintro r h ⟨v,q2,rfl,rfl,⟨cs,rfl,hs⟩,h3,h4⟩
  simp-implicitDefEqProofs[aa]
  exact⟨_,_,q2,.agg [.p (cdL cs)],rfl,rfl,.keep (by simp) .nil,⟨cs,rfl,⟨hs.1,by have:=hs.2.1;omega⟩,λc hc=>(hs.2.2 c hc).g⟩,by omega,by omega⟩
theorem Ce{b:List Int}(hb:Byt b)(hl:b.length<=2000){p:Nat}(hp:p<=8000000000):AC Try.prog G gy [.ptr 0 2 0 0] [rdO b p] λx h=>∃v q,x= .ret v/\h=[rdO b q]/\(∃cs,v= .agg [.p (cdL cs)]/\GU cs)/\p<=q/\q<=p+200020000:=by
 refine ig G (AC.go sJ ?_)
 obtain⟨p1,hp1⟩:∃p1,p1=p+1:=⟨_,rfl⟩
 simp-implicitDefEqProofs[kF]
 refine(aG G b hb hl p (by omega) 12 _).mono ?_
 rintro r h ⟨k1,rfl,rfl,_⟩
 rw[←hp1]
 simp-implicitDefEqProofs[aa]
 refine aF (λhc=>?_) (λhc=>?_)
 ·simp-implicitDefEqProofs[]
  refine(iu G (Fb G hb hl (p:=p1) (by omega)) _ (by simp[below])).mono ?_
  rintro r h ⟨v,q,rfl,rfl,⟨cs,rfl,hs⟩,h1,h2⟩
  simp-implicitDefEqProofs[aa]
  exact⟨_,_,q,.agg [.p (cdL cs)],rfl,rfl,.keep (by simp) .nil,⟨cs,rfl,hs⟩,by omega,by omega⟩
 ·simp-implicitDefEqProofs[]
  refine(iu G (Cn G hb hl (p:=p1) (by omega)) _ (by simp[below])).mono ?_
  rintro r h ⟨v,q,rfl,rfl,⟨cs,rfl,hs⟩,h1,h2⟩
  simp-implicitDefEqProofs[aa]
  exact⟨_,_,q,.agg [.p (cdL cs)],rfl,rfl,.keep (by simp) .nil,⟨cs,rfl,hs⟩,by omega,by omega⟩
def CdQ(p n:Nat)(v:AV)(q:Nat):Prop:=(∃c:Cd,v= .agg (c.cs.map .p)/\GCd c)/\p<=q/\q<=p+n
theorem Cq{b:List Int}(hb:Byt b)(hl:b.length<=2000){p:Nat}(hp:p<=7000000000):AC Try.prog G gr [.ptr 0 2 0 0] [rdO b p] λx h=>∃v q,x= .ret v/\h=[rdO b q]/\CdQ p 200020000 v q:=by
 refine ig G (AC.go sf ?_)
 simp-implicitDefEqProofs[kI]
 refine(iu G (Ce G hb hl (p:=p) (by omega)) _ (by simp[below])).mono ?_
 rintro r h ⟨v,q,rfl,rfl,⟨cs,rfl,hs⟩,h1,h2⟩
 have hcl:cdL cs= .lst 3 (cs.map Cd.cs):=rfl
 have hpos:=List.length_pos_iff.2 hs.1.1
 obtain⟨m,hm⟩:∃m,cs.length=m+1:=⟨cs.length-1,by omega⟩
 have hm4:=hs.1.2
 have hw:IntKind.i64.wrap (m:Int)=(m:Int):=ag (by omega) (by omega)
 have hg:cs[m]?=some cs[m]:=List.getElem?_eq_getElem (by omega)
 have hgc:=hs.2 _ (List.mem_of_getElem? hg)
 generalize cs[m]=c at hg hgc
 have hge:=λhh=>fF hg hh
 have hcc:=c.cs_eq2
 simp-implicitDefEqProofs[aa,hcl,hm,hw,hg,hge,hcc]
 exact⟨_,_,q,.agg (c.cs.map .p),rfl,rfl,.keep (by simp[hcc]) .nil,⟨c,rfl,hgc⟩,h1,h2⟩
def DrC(x:ARes):Prop:=∃c:Cd,x= .ret (.agg (c.cs.map .p))/\GCd c
theorem Fo(x:ARes)(h:DrC x):∃v,x= .ret v/\below 0 v:=by
 obtain⟨c,rfl,_⟩:=h
 exact⟨_,rfl,by simp[below,c.cs_eq2]⟩
theorem Hr(n:Nat)(b:List Int)(q:Nat):cb n (rdO b q)=rdO b q:=by simp[rdO,cb,cq,bz]
theorem pD(code:List Int)(hb:Byt code):AC Try.prog G cK [.p (oz code)] [] λx _=>DrC x:=by
 refine AC.go kK ?_
 simp-implicitDefEqProofs[fc]
 refine(AC.lift (IG G code) (by simp) rfl rfl).mono ?_
 rintro r h ⟨rfl,rfl⟩
 have hbt:=Fc hb 2000
 have hbl:(code.take 2000).length<=2000:=by rw[List.length_take];omega
 generalize code.take 2000=b at hbt hbl
 simp-implicitDefEqProofs[aa,bz,Hr]
 refine(Mh G (Cq G hbt hbl (p:=0) (by omega)) (λv q ⟨⟨c,e,_⟩,_⟩=>by rw[e];simp[below,c.cs_eq2]) (h:=[.row 3 [[.p (.int .i64 0),.p (.int .i64 0),.nils]],rdO b 0]) (k:=1) rfl trivial).mono ?_
 rintro r h ⟨v,q,rfl,rfl,⟨c,rfl,hg⟩,_⟩
 have hcc:=c.cs_eq2
 simp-implicitDefEqProofs[aa,hcc]
 exact⟨c,rfl,hg⟩
end
section
theorem GCd.csm{c:Cd}(h:GCd c):CSm c:=by
 obtain⟨_,h2,h3⟩:=h
 refine⟨⟨by omega,λx hx=>by have:=h3 x hx;omega⟩,?_⟩
 have key:∀l:List Bk,(∀x∈l,x.next.length<=2)->(l.map λx=>x.next.length).sum<=2*l.length:=by
  intro l
  induction l with
  |nil=>intro _;simp
  |cons a r ih=>
   intro h
   have h1:=h a (by simp)
   have h2:=ih λx hx=>h x (by simp[hx])
   simp only[List.map_cons,List.sum_cons,List.length_cons]
   omega
 have:=key _ h3
 omega
variable (G:aB)
end
section
variable (G:aB)
theorem ED(xs:List Int)(hb:xs.length<=1073741824):VF Try.prog G iP [.p (aC xs),.p (aC xs)] (.p (.bool true)):=by
 refine AC.go ty ?_
 have hsl:∀l,aC l= .lst 1 (l.map λw=>[.int .i64 w]):=λ_=>rfl
 simp-implicitDefEqProofs[lG,hsl]
 refine aH (λi:Nat=>aA 29 [(0,.p (aC xs)),(1,.p (aC xs)),(10,.p (.int .i64 xs.length)),(11,.p (.int .i64 i))]) (λ_=>[]) (λi=>i<=xs.length) (λi=>xs.length-i) 0 (by simp) ?_ ?_
 ·exact bk rfl (by simp[below,aC])
 intro i hi
 simp-implicitDefEqProofs[hsl]
 refine aF (λh1=>?_) (λh1=>?_)
 ·simp at h1
  have hg:xs[i]?=some xs[i]:=List.getElem?_eq_getElem h1
  generalize xs[i]=x at hg
  simp-implicitDefEqProofs[hg]
  refine⟨i+1,by omega,by omega,bk rfl ?_⟩
  simp[below,aC,w1 (i:=i) (by omega)]
 ·simp at h1
  simp-implicitDefEqProofs[]
theorem GN(xs:List Int)(k:Int)(hb:xs.length<=1073741824):VF Try.prog G jF [.p (aC xs),.p (.int .i64 k)] (.p (.bool (decide (k∈xs)))):=by
 refine AC.go uY ?_
 have hsl:∀l,aC l= .lst 1 (l.map λw=>[.int .i64 w]):=λ_=>rfl
 simp-implicitDefEqProofs[nF,hsl]
 refine aH (λi:Nat=>aA 17 [(1,.p (.int .i64 k)),(7,.p (aC xs)),(8,.p (.int .i64 xs.length)),(9,.p (.int .i64 i))]) (λ_=>[]) (λi=>i<=xs.length/\k∉xs.take i) (λi=>xs.length-i) 0 (by simp) ?_ ?_
 ·exact bk rfl (by simp[below,aC])
 intro i ⟨hi,hn⟩
 simp-implicitDefEqProofs[hsl]
 refine aF (λh1=>?_) (λh1=>?_)
 ·simp at h1
  have hg:xs[i]?=some xs[i]:=List.getElem?_eq_getElem h1
  have hT:xs.take (i+1)=xs.take i++[xs[i]]:=au h1
  have hm:=List.getElem_mem h1
  generalize xs[i]=x at hg hT hm
  by_cases hx:x=k
  ·subst hx
   simp-implicitDefEqProofs[hg,hm]
  ·simp-implicitDefEqProofs[hg,hx]
   refine⟨i+1,⟨by omega,?_⟩,by omega,bk rfl ?_⟩
   ·rw[hT,List.mem_append]
    rintro(h|h)
    ·exact hn h
    ·exact hx (List.mem_singleton.1 h).symm
   ·simp[below,aC,w1 (i:=i) (by omega)]
 ·simp at h1
  rw[List.take_of_length_le h1] at hn
  simp-implicitDefEqProofs[hn]
end
section
theorem GL{p:Nat->Bool}{n x:Nat}:(x:Int)∈iR p n↔x<n/\p x=true:=by
 simp only[iR,List.mem_map,List.mem_filter,List.mem_range]
 constructor
 ·rintro⟨y,hy,e⟩
  have:y=x:=by have e:(y:Int)=(x:Int):=e;omega
  exact this▸hy
 ·exact λh=>⟨x,h,rfl⟩
theorem zz(c:Cd)(b:Int):(eH c b).length<=c.blocks.length:=by
 rw[eH]
 split
 ·exact dz _ _
 ·simp
variable (G:aB)
end
section
theorem Dl{bs:List Bk}(h:bm bs=true):0<(oG bs).length:=by
 obtain⟨t,e⟩:=(Hp h).head
 rw[DS h,aT,List.length_map,e]
 simp
theorem BW{bs:List Bk}{i:Nat}(hi:i<bs.length):decide ((i:Int)∈bV bs)=((aY bs (i:Int)).any (λp=>my bs (i:Int) p)&&decide (0<(oG bs).length)):=by
 cases hfit:bm bs with
 |false=>
  have h1:bV bs=[]:=by rw[bV,hfit];rfl
  rw[h1,Gf hfit]
  simp
 |true=>
  have h1:bV bs=iR (dM bs) bs.length:=by rw[bV,hfit];rfl
  have hd:∀p∈aY bs (i:Int),my bs (i:Int) p=gi bs i p.toNat:=λp hp=>by
   obtain⟨g1,g2⟩:=pZ hp
   exact Dn hfit hi (x:=p) (by rw[lh hfit];simp only[inR,Bool.and_eq_true,decide_eq_true_eq];omega)
  rw[h1,decide_eq_true (Dl hfit),Bool.and_true,Bool.eq_iff_iff,decide_eq_true_iff,GL,dM,List.any_eq_true,List.any_eq_true]
  constructor
  ·rintro⟨_,p,hp,h⟩
   exact⟨p,hp,by rw[hd p hp];exact h⟩
  ·rintro⟨p,hp,h⟩
   exact⟨hi,p,hp,by rw[←h,hd p hp];rfl⟩
theorem zU(bs:List Bk):(bV bs).length<=bs.length:=by
 rw[bV]
 split
 ·exact rB _ _
 ·simp
variable (G:aB)
theorem pp(code:List Int)(hb:Byt code)(hl:code.length<=9223372036854775807):VF Try.prog G gv [.p (oz code)] (.p (.bool true)):=by
 have hbl:oz code= .lst 1 (code.map λn=>[.int .u8 n]):=rfl
 refine AC.go mF ?_
 simp-implicitDefEqProofs[fN,hbl]
 refine aF (λ_=>?_) (λ_=>?_)
 ·simp-implicitDefEqProofs[]
 simp-implicitDefEqProofs[]
 have hd:=Dj G (pD G code hb) Fo (by simp) []
 rw[hbl] at hd
 refine hd.mono ?_
 rintro r h ⟨⟨c,rfl,hg⟩,rfl⟩
 have hcs:=hg.csm
 have h160:=hg.2.1
 have hcc:=c.cs_eq2
 have hbk:bkL c.blocks= .lst 5 (c.blocks.map Bk.cs):=rfl
 have hF:=vF G c hcs
 have hS:=vv G c hcs.1
 have hD:=λx y=>vL G c hcs x y
 have hO:=BE G c hcs.1
 have hP:=λx=>uh G c x hcs.1.1 hcs.1.2
 rw[hcc,hbk] at hF hS hD hP hO
 have hfl:=zU c.blocks
 have hW:=ED G (bV c.blocks) (by omega)
 have hHas:=λk=>GN G (bV c.blocks) k (by omega)
 simp-implicitDefEqProofs[aa,hcc,hbk]
 refine hF.use ?_
 simp-implicitDefEqProofs[]
 refine hS.use ?_
 simp-implicitDefEqProofs[]
 refine hW.use ?_
 simp-implicitDefEqProofs[]
 refine aH (λi:Nat=>aA 55 [(24,.p (.int .i64 i)),(23,.p (.int .i64 c.blocks.length)),(4,.p (aC (bV c.blocks))),(3,.ptr 0 3 0 0)]) (λ_=>[.row 3 [[.p (.int .i64 c.params),.p (.int .i64 c.regs),.p (.lst 5 (c.blocks.map Bk.cs))]]]) (λi=>i<=c.blocks.length) (λi=>c.blocks.length-i) 0 (Nat.zero_le _) (ab (by simp) (by simp[below])) ?_
 intro i hi
 simp-implicitDefEqProofs[]
 refine aF (λhc=>?_) (λhc=>?_)
 ·have hc:i<c.blocks.length:=by simpa using hc
  have hwi:=w1 (i:=i) (by omega)
  have he:=BW hc
  have hpl:=zz c i
  have hpe:eH c (i:Int)=aY c.blocks (i:Int):=tL hc
  rw[←hpe] at he
  simp-implicitDefEqProofs[]
  refine(hP i).use ?_
  generalize eH c (i:Int)=ps at he hpl
  have hpn:aC ps= .lst 1 (ps.map λn=>[.int .i64 n]):=rfl
  simp-implicitDefEqProofs[hpn]
  refine aH (λj:Nat=>aA 55 [(31,.p (.int .i64 j)),(30,.p (.int .i64 ps.length)),(29,.p (.lst 1 (ps.map λn=>[.int .i64 n]))),(6,.p (.bool ((ps.take j).any λp=>my c.blocks i p))),(5,.p (.int .i64 i)),(24,.p (.int .i64 i)),(23,.p (.int .i64 c.blocks.length)),(4,.p (aC (bV c.blocks))),(3,.ptr 0 3 0 0)]) (λ_=>[.row 3 [[.p (.int .i64 c.params),.p (.int .i64 c.regs),.p (.lst 5 (c.blocks.map Bk.cs))]]]) (λj=>j<=ps.length) (λj=>ps.length-j) 0 (Nat.zero_le _) (ab (by simp) (by simp[below])) ?_
  intro j hj
  simp-implicitDefEqProofs[]
  refine aF (λhc2=>?_) (λhc2=>?_)
  ·have hc2:j<ps.length:=by simpa using hc2
   have hwj:=w1 (i:=j) (by omega)
   have hgj:=List.getElem?_eq_getElem hc2
   have htk:=zd (p:=λp=>my c.blocks i p) hc2
   generalize ps[j]=r at hgj htk
   generalize hA:(ps.take j).any (λp=>my c.blocks i p)=A at htk
   cases A with
   |true=>
    simp-implicitDefEqProofs[hgj,hA]
    refine⟨j+1,hc2,by omega,ab (by simp) ?_⟩
    simp[below,hwj,htk]
   |false=>
    simp-implicitDefEqProofs[hgj,hA]
    refine(hD i r).use ?_
    simp-implicitDefEqProofs[]
    refine⟨j+1,hc2,by omega,ab (by simp) ?_⟩
    simp[below,hwj,htk]
  ·have hc2:ps.length<=j:=by simpa using hc2
   rw[List.take_of_length_le hc2]
   simp-implicitDefEqProofs[]
   refine(hHas i).use ?_
   rw[he]
   generalize (ps.any λp=>my c.blocks i p)=A
   cases A with
   |false=>
    simp-implicitDefEqProofs[]
    exact⟨i+1,hc,by omega,ab (by simp) (by simp[below,hwi])⟩
   |true=>
    simp-implicitDefEqProofs[]
    refine hO.use ?_
    have hon:aC (oG c.blocks)= .lst 1 ((oG c.blocks).map λn=>[.int .i64 n]):=rfl
    simp-implicitDefEqProofs[hon]
    exact⟨i+1,hc,by omega,ab (by simp) (by simp[below,hwi])⟩
 ·simp-implicitDefEqProofs[]
end
end Go.Proofs.Ytdfplkcigiblcaa
namespace Go.Proofs.Ytdfplkcigiblcaa
open Go Go.Aw Go.ChangeShapes Go.WideShapes Go.ChangeAt Go.RowKit
set_option maxRecDepth 100000
abbrev Bm:TypeId:=22
abbrev vj:TypeId:=5
theorem JI:Kids Try.prog (· <Try.prog.types.size):=kids_rows (by kernel_rfl) (by kernel_rfl)
theorem KI:∀t e,t<Try.prog.types.size->Try.prog.underlying t=some (.slice e)->0<Try.prog.cellsOf e:=slices_full_of Try.prog (by kernel_rfl)
def AM:List TypeId:=[Bm,vj]
theorem Iy:Plain Try.prog AM=true:=by kernel_rfl
theorem Mb:ownKnob Try.prog.godebug=none:=by kernel_rfl
theorem so{H:Type}:∀l:List (DataW H),Rows.uptoBulkAll l=(l.map Rows.uptoBulk).sum
 |[]=>by simp[Rows.uptoBulkAll]
 |d::r=>by simp[Rows.uptoBulkAll,so r]
theorem Gt{H:Type}:BulkOk (Rows.uptoBulk (H:=H)) where
 lit:=λl=>by cases l<;>simp[Rows.uptoBulk]
 str:=λs=>by simp[Rows.uptoBulk]
 nil:=by simp[Rows.uptoBulk]
 slice:=λes sp=>by simp only[Rows.uptoBulk,so];omega
 agg:=λps=>by simp only[Rows.uptoBulk,so];omega
theorem EB{t e:TypeId}{vs:List PV}(h:Conf Try.prog t vs)(hu:Try.prog.underlying t=some (.slice e)):∃es,vs=[.lst (Try.prog.cellsOf e) es]/\es.length<=9223372036854775807/\∀x∈es,Conf Try.prog e x:=by
 cases h with
 |sl es e' hl hs=>rw[hu] at e';cases e';exact⟨es,rfl,hl,hs⟩
 |bool b e=>rw[e] at hu;cases hu
 |int n e=>rw[e] at hu;cases hu
 |str s e=>rw[e] at hu;cases hu
 |st vs e=>rw[e] at hu;cases hu
 |arr vs e=>rw[e] at hu;cases hu
theorem Ao{vs:List PV}(h:Conf Try.prog Bm vs):∃l:List Int,vs=[oz l]/\l.length<=9223372036854775807/\Byt l:=by
 obtain⟨es,rfl,hl,h4⟩:=EB h (e:=vj) (by kernel_rfl)
 have hk:∀x∈es,∃n:Int,x=[PV.int .u8 n]/\(Lit.int .u8 n).wf=true:=λx hx=>Fe (h4 x hx) (by kernel_rfl)
 obtain⟨l,rfl⟩:=Bs (λn:Int=>[PV.int .u8 n]) (λx hx=>by obtain⟨n,e,_⟩:=hk x hx;exact⟨n,e⟩)
 rw[show Try.prog.cellsOf vj=1 by kernel_rfl]
 refine⟨l,rfl,by rwa[List.length_map] at hl,λn hn=>?_⟩
 obtain⟨m,e,hw⟩:=hk [PV.int .u8 n] (List.mem_map.2 ⟨n,hn,rfl⟩)
 cases e
 simp[Lit.wf,IntKind.min,IntKind.max,IntKind.bits,IntKind.signed] at hw
 omega
def G0:aB:=λ_=>none
end Go.Proofs.Ytdfplkcigiblcaa
