/-
  Contracts and lemmas that the card needs, part 8.
-/
import Derived.Test.YthfklclcofcpiaaGreatDoorFq7
namespace Go.Proofs.YthfklclcofcpiaaGreatDoor
open Go Go.Aw
set_option maxRecDepth 100000
set_option maxHeartbeats 4000000
section
mutual
def mkE(k:Nat):Ex->Ex
 | .mk _ _ _ ks=> .mk k ((k+1:Nat):Int) (dL (k+2)) (mI (k+3) ks)
def mI(k:Nat):List Ex->List Ex
 |[]=>[]
 |e::r=>mkE k e::mI (k+3*e.parts) r
end
theorem rT:∀(l:List Ex) (k:Nat),(mI k l).length=l.length
 |[],k=>rfl
 |e::r,k=>by rw[mI,RN,rT r,RN]
theorem Bi:∀(l:List Ex) (k i:Nat) (e:Ex),l[i]?=some e->(mI k l)[i]?=some (mkE (k+3*aI (l.take i)) e)
 |x::r,k,0,e,h=>by cases h;rfl
 |x::r,k,i+1,e,h=>by
  have:=Bi r (k+3*x.parts) i e h
  rw[mI,So,this,List.take_succ_cons,aI]
  congr 2
  omega
theorem Im(k:Nat)(e:Ex):(mkE k e).cs=[.int .i64 k,.int .i64 ((k+1:Nat):Int),.str (dL (k+2)),exL (mI (k+3) e.kids)]:=by
 obtain⟨o,n,s,ks⟩:=e;rw[mkE,Ex.cs_eq];rfl
theorem yt{l:List Ex}{i:Nat}(h:i<l.length):aI (l.take (i+1))=aI (l.take i)+l[i].parts:=by
 rw[aq h,eC];simp[aI]
theorem zM(l:List Ex)(i:Nat):aI (l.take i)<=aI l:=by
 have e:aI l=aI (l.take i)+aI (l.drop i):=by rw[←eC,Si]
 omega
theorem zQ{l:List Ex}{e:Ex}(h:e∈l):e.parts<=aI l:=by
 induction l with
 |nil=>cases h
 |cons x r ih=>
  rw[aI]
  rcases Sa.1 h with rfl|h
  ·omega
  ·have:=ih h;omega
theorem Am(l:List Ex):l.length<=aI l:=by
 induction l with
 |nil=>exact RC _
 |cons x r ih=>have:=x.parts_eq;rw[aI,RN];omega
variable (G:ay)
theorem CJ:∀(N:Nat) (l:List Ex),aI l<N->∀(h:List AO) (v:AV) (I:List Nat) (k:Nat),OwnL true h [v] [exL l] I->I.Nodup->k+3*aI l<=1152921504606846976->
 AC Tryz.prog G eJ [v,.p (.int .i64 k)] h (Mkd h v I (exL (mI k l)) (.int .i64 ((k+3*aI l:Nat):Int))):=by
 intro N
 induction N with
 |zero=>intro l hl;omega
 |succ N ih=>
  intro l hl h v I k ho nd hk
  have hxl:∀l,exL l= .lst 4 (l.map Ex.cs):=λ_=>rfl
  have hll:=Am l
  rcases ho.inv nd with⟨h0,rfl,rfl|rfl⟩|⟨h0,_⟩|⟨id,rows,J,rfl,rfl,hr⟩
  ·have hl0:l=[]:=SE.1 h0
   subst hl0
   refine AC.go gI ?_
   have hst:Mkd h .nils [] (exL (mI k [])) (.int .i64 ((k+3*aI []:Nat):Int)) (.ret (.p (.int .i64 k))) h:=⟨rfl,.nils 4 .nil,λ_ _ _=>rfl,RC _⟩
   simp-implicitDefEqProofs[eG]
   refine az (λ_:Unit=>am 42 [(0,.nils),(1,.p (.int .i64 k)),(5,.p (.int .i64 0))]) (λ_=>h) (λ_=>True) (λ_=>0) () trivial (aA (RC _) (by simp[below])) ?_
   intro _ _
   simp-implicitDefEqProofs[]
   exact hst
  ·have hl0:l=[]:=SE.1 h0
   subst hl0
   refine AC.go gI ?_
   have hst:Mkd h (.p (.lst 4 [])) [] (exL (mI k [])) (.int .i64 ((k+3*aI []:Nat):Int)) (.ret (.p (.int .i64 k))) h:=⟨rfl,.p _ (λ_=>rfl) .nil,λ_ _ _=>rfl,RC _⟩
   simp-implicitDefEqProofs[eG]
   refine az (λ_:Unit=>am 42 [(0,(.p (.lst 4 []))),(1,.p (.int .i64 k)),(5,.p (.int .i64 0))]) (λ_=>h) (λ_=>True) (λ_=>0) () trivial (aA (RC _) (by simp[below])) ?_
   intro _ _
   simp-implicitDefEqProofs[]
   exact hst
  ·cases h0
  rw[RM]
  refine AC.go gI ?_
  simp-implicitDefEqProofs[eG]
  refine az (λa:FilS=>am 42 [(0,.sl id 4 0 l.length),(1,.p (.int .i64 ((k+3*aI (l.take a.i):Nat):Int))),(5,.p (.int .i64 a.i))]) (λa=>a.h) (MkI h id 4 ((mI k l).map Ex.cs) (l.map Ex.cs) J) (λa=>l.length-a.i) ⟨0,h⟩ (MkI.init hr) ?_ ?_
  ·exact aA (RC _) (by simp[below,aI,hr.lt])
  rintro⟨i,hh⟩ hI
  simp-implicitDefEqProofs[]
  refine aY (λh1=>?_) (λh1=>?_)
  ·simp at h1
   have hg:=Rv h1
   have hP:=yt h1
   have hM:=zQ (RB h1)
   have hT:=zM l (i+1)
   generalize l[i]=e at hg hP hM
   have hD:(l.map Ex.cs)[i]?=some e.cs:=by rw[RH,hg];rfl
   have hA:((mI k l).map Ex.cs)[i]?=some (mkE (k+3*aI (l.take i)) e).cs:=by rw[RH,Bi l k i e hg];rfl
   obtain⟨rows',r,Ji,s1,s2,s3,s4,s5,s6,s7⟩:=hI.step hD hA
   obtain⟨K,rfl,hK⟩:=pR s3
   obtain⟨c1,c2⟩:=bh hK
   have q1:∀x,(hh.set id x)[id]?=some x:=λx=>RW s5
   have q2:∀x,(rows'.set i x)[i]?=some x:=λx=>RW s6
   have hnid:id∉Ji:=λhm=>by rw[Sr] at s4;exact s4.1 hm
   have hpe:=e.parts_eq
   have hmt:=fN G (k+3*aI (l.take i)+2) (by omega)
   generalize hkk:k+3*aI (l.take i)=kk at*
   have hkI:(k:Int)+3*(aI (l.take i):Int)=(kk:Int):=by omega
   have w0:IntKind.i64.wrap ((kk:Int)+1)=(kk:Int)+1:=ah (by omega) (by omega)
   have w2:IntKind.i64.wrap ((kk:Int)+1+1)=(kk:Int)+1+1:=ah (by omega) (by omega)
   have w3:IntKind.i64.wrap ((kk:Int)+1+1+1)=(kk:Int)+1+1+1:=ah (by omega) (by omega)
   have hm2:VF Tryz.prog G cP [.p (.int .i64 ((kk:Int)+1+1))] (.p (.str (dL (kk+2)))):=by
    have e:((kk+2:Nat):Int)=(kk:Int)+1+1:=by omega
    rw[←e];exact hmt
   have hIH:=λh1 ho=>ih e.kids (by have:=e.parts_eq;omega) h1 K Ji (kk+3) ho (Sr.1 s4).2 (by have:=e.parts_eq;omega)
   have e3:((kk+3:Nat):Int)=(kk:Int)+1+1+1:=by omega
   rw[e3] at hIH
   simp-implicitDefEqProofs[-AV.cells,-AV.isCell,aM,af,aj,aN,ae,c1,c2,s1,s2,q1,q2,hkI,w0,w2,w3]
   refine⟨h1,?_⟩
   refine hm2.use ?_
   simp-implicitDefEqProofs[-AV.cells,-AV.isCell,aM,af,aj,aN,ae,c1,c2,s1,s2,q1,q2,w3]
   refine⟨h1,(hIH _ (hK.set_out hnid _)).mono ?_⟩
   rintro r h2 ⟨rfl,o2,f2,l2⟩
   rw[SC] at f2 l2
   have hgo:=s7 h2 [.p (.int .i64 kk),.p (.int .i64 ((kk+1:Nat):Int)),.p (.str (dL (kk+2))),K] (by rw[f2 id s5 hnid,q1];simp) (λj hj hn hm=>by rw[f2 j hj hm,RS (λe=>hn e.symm)]) (by rw[Im];exact .p _ (λ_=>rfl) (.p _ (λ_=>rfl) (.p _ (λ_=>rfl) o2))) (Ex.cs_len _) l2
   have hid2:id<h2.length:=by omega
   have hwi:=w1 (i:=i) (by omega)
   have hkn:k+3*aI (l.take (i+1))=kk+3+3*aI e.kids:=by omega
   simp-implicitDefEqProofs[aa]
   refine⟨⟨i+1,h2⟩,hgo,by simp only;omega,aA hgo.2.2.2 ?_⟩
   simp[below,hid2,hwi]
   omega
  ·simp at h1
   have hie:i=l.length:=by have:=hI.1;simp at this;omega
   obtain⟨⟨rows2,d1⟩,d2,d3⟩:=hI.done (by simpa using h1) (by simp[rT])
   subst hie
   rw[RR]
   simp-implicitDefEqProofs[]
   refine⟨by simp,?_,d2,d3⟩
   have:=d1.tree (n:=l.length) (by simp[rT])
   exact this
theorem BX{h:List AO}:∀{ps:List (List UInt8)} {vs:List AV} {J:List Nat},OwnL true h vs (ps.map PV.str) J->vs=ps.map (λw=> .p (.str w))/\J=[]
 |[],vs,J,H=>by
  cases H
  exact⟨rfl,rfl⟩
 |w::r,vs,J,H=>by
  rw[Sb] at H
  cases H with
  |p _ _ H=>
   obtain⟨e1,e2⟩:=BX H
   exact⟨by rw[e1];rfl,e2⟩
theorem CK{α:Type}:∀{rows:List (List α)} {l:List α},rows.flatten=l->(∀e∈rows,e.length=1)->rows=l.map λx=>[x]
 |[],l,e,_=>by subst e;rfl
 |r::rs,l,e,h=>by
  subst e
  have h1:=h r (by simp)
  match r,h1 with
  |[x],_=>
   have ih:=CK (rows:=rs) rfl λe he=>h e (by simp[he])
   rw[Sf,List.singleton_append,Sb,←ih]
theorem Aa:∀ps:List (List UInt8),(ps.map λw=>[PV.str w]).flatten=ps.map PV.str
 |[]=>rfl
 |w::r=>by rw[Sb,Sf,Aa r];rfl
theorem Nx(h:List AO)(v:AV)(I:List Nat)(ps:List (List UInt8))(k:Nat)(ho:OwnL true h [v] [aE ps] I)(nd:I.Nodup)(hk:k+ps.length<=1152921504606846976):
 AC Tryz.prog G dD [v,.p (.int .i64 k)] h (Mkd h v I (aE (lD k ps.length)) (.int .i64 ((k+ps.length:Nat):Int))):=by
 rcases ho.inv nd with⟨h0,rfl,rfl|rfl⟩|⟨h0,_⟩|⟨id,rows,J,rfl,rfl,hr⟩
 ·have hl0:ps=[]:=SE.1 h0
  subst hl0
  refine AC.go dG ?_
  have hst:Mkd h .nils [] (aE (lD k 0)) (.int .i64 ((k+0:Nat):Int)) (.ret (.p (.int .i64 k))) h:=⟨rfl,.nils 1 .nil,λ_ _ _=>rfl,RC _⟩
  simp-implicitDefEqProofs[dC]
  refine az (λ_:Unit=>am 20 [(0,.nils),(1,.p (.int .i64 k)),(5,.p (.int .i64 0))]) (λ_=>h) (λ_=>True) (λ_=>0) () trivial (aA (RC _) (by simp[below])) ?_
  intro _ _
  simp-implicitDefEqProofs[]
  exact hst
 ·have hl0:ps=[]:=SE.1 h0
  subst hl0
  refine AC.go dG ?_
  have hst:Mkd h (.p (.lst 1 [])) [] (aE (lD k 0)) (.int .i64 ((k+0:Nat):Int)) (.ret (.p (.int .i64 k))) h:=⟨rfl,.p _ (λ_=>rfl) .nil,λ_ _ _=>rfl,RC _⟩
  simp-implicitDefEqProofs[dC]
  refine az (λ_:Unit=>am 20 [(0,.p (.lst 1 [])),(1,.p (.int .i64 k)),(5,.p (.int .i64 0))]) (λ_=>h) (λ_=>True) (λ_=>0) () trivial (aA (RC _) (by simp[below])) ?_
  intro _ _
  simp-implicitDefEqProofs[]
  exact hst
 ·cases h0
 rw[RM]
 have hfl:(ps.map λw=>[PV.str w]).flatten=ps.map PV.str:=by
  exact Aa ps
 have hown:=hr.own
 rw[hfl] at hown
 obtain⟨e1,e2⟩:=BX hown
 subst e2
 have e3:=CK e1 hr.rl
 have hh:h[id]?=some (nC ps):=by rw[hr.here,e3,List.map_map];rfl
 refine(zi G hh hk).mono ?_
 rintro x h' ⟨rfl,rfl⟩
 have hid:id<h.length:=hr.lt
 refine⟨rfl,As (RW hid) (by simp[BH]),λj hj hn=>?_,by simp⟩
 simp at hn
 exact RS λe=>hn e.symm
mutual
def Sm.mq:Sm->Nat
 | .mk _ _ a b e=>2+3*aI a+be b+be e
def be:List Sm->Nat
 |[]=>0
 |s::r=>s.mq+be r
end
mutual
def mkS(k:Nat):Sm->Sm
 | .mk _ _ a b e=> .mk k (dL (k+1)) (mI (k+2) a) (lh (k+2+3*aI a) b) (lh (k+2+3*aI a+be b) e)
def lh(k:Nat):List Sm->List Sm
 |[]=>[]
 |s::r=>mkS k s::lh (k+s.mq) r
end
theorem Sm.mq_eq(s:Sm):s.mq=2+3*aI s.args+be s.body+be s.els:=by cases s;rfl
theorem yQ:∀a b:List Sm,be (a++b)=be a+be b
 |[],b=>by simp[be]
 |s::r,b=>by rw[Sh,be,be,yQ r b];omega
theorem rL:∀(l:List Sm) (k:Nat),(lh k l).length=l.length
 |[],k=>rfl
 |e::r,k=>by rw[lh,RN,rL r,RN]
theorem AG:∀(l:List Sm) (k i:Nat) (e:Sm),l[i]?=some e->(lh k l)[i]?=some (mkS (k+be (l.take i)) e)
 |x::r,k,0,e,h=>by cases h;rfl
 |x::r,k,i+1,e,h=>by
  have:=AG r (k+x.mq) i e h
  rw[lh,So,this,List.take_succ_cons,be]
  congr 2
  omega
theorem Kv(k:Nat)(e:Sm):(mkS k e).cs=[.int .i64 k,.str (dL (k+1)),exL (mI (k+2) e.args),smL (lh (k+2+3*aI e.args) e.body),smL (lh (k+2+3*aI e.args+be e.body) e.els)]:=by
 obtain⟨o,s,a,b,el⟩:=e;rw[mkS,Sm.cs_eq];rfl
theorem zU{l:List Sm}{i:Nat}(h:i<l.length):be (l.take (i+1))=be (l.take i)+l[i].mq:=by
 rw[aq h,yQ];simp[be]
theorem rH(l:List Sm)(i:Nat):be (l.take i)<=be l:=by
 have e:be l=be (l.take i)+be (l.drop i):=by rw[←yQ,Si]
 omega
theorem Cy{l:List Sm}{e:Sm}(h:e∈l):e.mq<=be l:=by
 induction l with
 |nil=>cases h
 |cons x r ih=>
  rw[be]
  rcases Sa.1 h with rfl|h
  ·omega
  ·have:=ih h;omega
theorem BP(l:List Sm):l.length<=be l:=by
 induction l with
 |nil=>exact RC _
 |cons x r ih=>have:=x.mq_eq;rw[be,RN];omega
theorem CF:∀(N:Nat) (l:List Sm),be l<N->∀(h:List AO) (v:AV) (I:List Nat) (k:Nat),OwnL true h [v] [smL l] I->I.Nodup->k+be l<=1152921504606846976->
 AC Tryz.prog G di [v,.p (.int .i64 k)] h (Mkd h v I (smL (lh k l)) (.int .i64 ((k+be l:Nat):Int))):=by
 intro N
 induction N with
 |zero=>intro l hl;omega
 |succ N ih=>
  intro l hl h v I k ho nd hk
  have hll:=BP l
  rcases ho.inv nd with⟨h0,rfl,rfl|rfl⟩|⟨h0,_⟩|⟨id,rows,J,rfl,rfl,hr⟩
  ·have hl0:l=[]:=SE.1 h0
   subst hl0
   refine AC.go hY ?_
   have hst:Mkd h .nils [] (smL (lh k [])) (.int .i64 ((k+be []:Nat):Int)) (.ret (.p (.int .i64 k))) h:=⟨rfl,.nils 5 .nil,λ_ _ _=>rfl,RC _⟩
   simp-implicitDefEqProofs[eI]
   refine az (λ_:Unit=>am 49 [(0,.nils),(1,.p (.int .i64 k)),(5,.p (.int .i64 0))]) (λ_=>h) (λ_=>True) (λ_=>0) () trivial (aA (RC _) (by simp[below])) ?_
   intro _ _
   simp-implicitDefEqProofs[]
   exact hst
  ·have hl0:l=[]:=SE.1 h0
   subst hl0
   refine AC.go hY ?_
   have hst:Mkd h (.p (.lst 5 [])) [] (smL (lh k [])) (.int .i64 ((k+be []:Nat):Int)) (.ret (.p (.int .i64 k))) h:=⟨rfl,.p _ (λ_=>rfl) .nil,λ_ _ _=>rfl,RC _⟩
   simp-implicitDefEqProofs[eI]
   refine az (λ_:Unit=>am 49 [(0,(.p (.lst 5 []))),(1,.p (.int .i64 k)),(5,.p (.int .i64 0))]) (λ_=>h) (λ_=>True) (λ_=>0) () trivial (aA (RC _) (by simp[below])) ?_
   intro _ _
   simp-implicitDefEqProofs[]
   exact hst
  ·cases h0
  rw[RM]
  refine AC.go hY ?_
  simp-implicitDefEqProofs[eI]
  refine az (λa:FilS=>am 49 [(0,.sl id 5 0 l.length),(1,.p (.int .i64 ((k+be (l.take a.i):Nat):Int))),(5,.p (.int .i64 a.i))]) (λa=>a.h) (MkI h id 5 ((lh k l).map Sm.cs) (l.map Sm.cs) J) (λa=>l.length-a.i) ⟨0,h⟩ (MkI.init hr) ?_ ?_
  ·exact aA (RC _) (by simp[below,be,hr.lt])
  rintro⟨i,hh⟩ hI
  simp-implicitDefEqProofs[]
  refine aY (λh1=>?_) (λh1=>?_)
  ·simp at h1
   have hg:=Rv h1
   have hP:=zU h1
   have hM:=Cy (RB h1)
   have hT:=rH l (i+1)
   generalize l[i]=e at hg hP hM
   have hD:(l.map Sm.cs)[i]?=some e.cs:=by rw[RH,hg];rfl
   have hA:((lh k l).map Sm.cs)[i]?=some (mkS (k+be (l.take i)) e).cs:=by rw[RH,AG l k i e hg];rfl
   obtain⟨rows',r,Ji,s1,s2,s3,s4,s5,s6,s7⟩:=hI.step hD hA
   obtain⟨A,B,E,I1,I2,I3,rfl,rfl,oA,oB,oE⟩:=AB s3
   obtain⟨c1,c2⟩:=bh oA
   obtain⟨c3,c4⟩:=bh oB
   obtain⟨c5,c6⟩:=bh oE
   have q1:∀x,(hh.set id x)[id]?=some x:=λx=>RW s5
   have q2:∀x,(rows'.set i x)[i]?=some x:=λx=>RW s6
   rw[Sr] at s4
   obtain⟨hnid,n123⟩:=s4
   simp only[RG,not_or] at hnid
   obtain⟨x1,x2,x3⟩:=hnid
   obtain⟨n1,n23,d123⟩:=Su.1 n123
   obtain⟨n2,n3,d23⟩:=Su.1 n23
   have hpe:=e.mq_eq
   have hmt:=fN G (k+be (l.take i)+1) (by omega)
   generalize hkk:k+be (l.take i)=kk at*
   have hkI:(k:Int)+(be (l.take i):Int)=(kk:Int):=by omega
   have w0:IntKind.i64.wrap ((kk:Int)+1)=(kk:Int)+1:=ah (by omega) (by omega)
   have w2:IntKind.i64.wrap ((kk:Int)+1+1)=(kk:Int)+1+1:=ah (by omega) (by omega)
   have hm2:VF Tryz.prog G cP [.p (.int .i64 ((kk:Int)+1))] (.p (.str (dL (kk+1)))):=by
    have e:((kk+1:Nat):Int)=(kk:Int)+1:=by omega
    rw[←e];exact hmt
   have e2:((kk+2:Nat):Int)=(kk:Int)+1+1:=by omega
   have mA:=λh1 ho=>CJ G (aI e.args+1) e.args (by omega) h1 A I1 (kk+2) ho n1 (by omega)
   have mB:=λh1 ho=>ih e.body (by omega) h1 B I2 (kk+2+3*aI e.args) ho n2 (by omega)
   have mE:=λh1 ho=>ih e.els (by omega) h1 E I3 (kk+2+3*aI e.args+be e.body) ho n3 (by omega)
   rw[e2] at mA
   simp-implicitDefEqProofs[-AV.cells,-AV.isCell,aM,af,aj,aN,ae,c1,c2,c3,c4,c5,c6,s1,s2,q1,q2,hkI,w0,w2]
   refine⟨h1,?_⟩
   refine hm2.use ?_
   simp-implicitDefEqProofs[-AV.cells,-AV.isCell,aM,af,aj,aN,ae,c1,c2,c3,c4,c5,c6,s1,s2,q1,q2,w2]
   refine⟨h1,(mA _ (oA.set_out x1 _)).mono ?_⟩
   rintro r h2 ⟨rfl,o2,f2,l2⟩
   rw[SC] at f2 l2
   have g2:h2[id]?=some (.row 5 (rows'.set i [.p (.int .i64 kk),.p (.str (dL (kk+1))),A,B,E])):=by rw[f2 id s5 x1,q1]
   simp-implicitDefEqProofs[-AV.cells,-AV.isCell,aM,af,aj,aN,ae,c1,c2,c3,c4,c5,c6,aa,g2,q2]
   have oB2:OwnL true h2 [B] [smL e.body] I2:=oB.frame λj hj=>by
    have hne:id≠j:=λe=>x2 (by rw[e];exact hj)
    rw[f2 j (oB.lt hj) (λhm=>d123 j hm j (List.mem_append_left _ hj) rfl),RS hne]
   refine⟨h1,(mB _ oB2).mono ?_⟩
   rintro r h3 ⟨rfl,o3,f3,l3⟩
   have g3:h3[id]?=some (.row 5 (rows'.set i [.p (.int .i64 kk),.p (.str (dL (kk+1))),A,B,E])):=by rw[f3 id (by omega) x2,g2]
   simp-implicitDefEqProofs[-AV.cells,-AV.isCell,aM,af,aj,aN,ae,c1,c2,c3,c4,c5,c6,aa,g3,q2]
   have oE3:OwnL true h3 [E] [smL e.els] I3:=oE.frame λj hj=>by
    have:=oE.lt hj
    have hne:id≠j:=λe=>x3 (by rw[e];exact hj)
    rw[f3 j (by omega) (λhm=>d23 j hm j hj rfl),f2 j this (λhm=>d123 j hm j (List.mem_append_right _ hj) rfl),RS hne]
   refine⟨h1,(mE _ oE3).mono ?_⟩
   rintro r h4 ⟨rfl,o4,f4,l4⟩
   have hid4:id<h4.length:=by omega
   have hwi:=w1 (i:=i) (by omega)
   have hkn:k+be (l.take (i+1))=kk+2+3*aI e.args+be e.body+be e.els:=by omega
   have oA4:OwnL true h4 [A] [exL (mI (kk+2) e.args)] I1:=o2.frame λj hj=>by
    have:=o2.lt hj
    rw[f4 j (by omega) (λhm=>d123 j hj j (List.mem_append_right _ hm) rfl),f3 j this (λhm=>d123 j hj j (List.mem_append_left _ hm) rfl)]
   have oB4:OwnL true h4 [B] [smL (lh (kk+2+3*aI e.args) e.body)] I2:=o3.frame λj hj=>by
    have:=o3.lt hj
    rw[f4 j this (λhm=>d23 j hj j hm rfl)]
   have hgo:=s7 h4 [.p (.int .i64 kk),.p (.str (dL (kk+1))),A,B,E] (by rw[f4 id (by omega) x3,g3]) (λj hj hn hm=>by
    simp only[RG,not_or] at hm
    rw[f4 j (by omega) hm.2.2,f3 j (by omega) hm.2.1,f2 j hj hm.1,RS (λe=>hn e.symm)]) (by
    rw[Kv];exact .p _ (λ_=>rfl) (.p _ (λ_=>rfl) (oA4.app (oB4.app o4)))) (Sm.cs_len _) (by omega)
   simp-implicitDefEqProofs[aa]
   refine⟨⟨i+1,h4⟩,hgo,by simp only;omega,aA hgo.2.2.2 ?_⟩
   simp[below,hid4,hwi]
   omega
  ·simp at h1
   have hie:i=l.length:=by have:=hI.1;simp at this;omega
   obtain⟨⟨rows2,d1⟩,d2,d3⟩:=hI.done (by simpa using h1) (by simp[rL])
   subst hie
   rw[RR]
   simp-implicitDefEqProofs[]
   refine⟨by simp,?_,d2,d3⟩
   have:=d1.tree (n:=l.length) (by simp[rL])
   exact this
def Fd.mq(f:Fd):Nat:=1+f.params.length+be f.body
def bE(l:List Fd):Nat:=(l.map Fd.mq).sum
def mkF(k:Nat)(f:Fd):Fd:=⟨dL k,lD (k+1) f.params.length,lh (k+1+f.params.length) f.body⟩
def oI(k:Nat):List Fd->List Fd
 |[]=>[]
 |s::r=>mkF k s::oI (k+s.mq) r
theorem Cz(a b:List Fd):bE (a++b)=bE a+bE b:=by simp[bE]
theorem rO:∀(l:List Fd) (k:Nat),(oI k l).length=l.length
 |[],k=>rfl
 |e::r,k=>by rw[oI,RN,rO r,RN]
theorem AL:∀(l:List Fd) (k i:Nat) (e:Fd),l[i]?=some e->(oI k l)[i]?=some (mkF (k+bE (l.take i)) e)
 |x::r,k,0,e,h=>by cases h;rfl
 |x::r,k,i+1,e,h=>by
  have:=AL r (k+x.mq) i e h
  have e1:bE (x::r.take i)=x.mq+bE (r.take i):=by simp[bE]
  rw[oI,So,this,List.take_succ_cons,e1]
  congr 2
  omega
theorem Ia(k:Nat)(e:Fd):(mkF k e).cs=[.str (dL k),aE (lD (k+1) e.params.length),smL (lh (k+1+e.params.length) e.body)]:=rfl
theorem Au{l:List Fd}{i:Nat}(h:i<l.length):bE (l.take (i+1))=bE (l.take i)+l[i].mq:=by
 rw[aq h,Cz];simp[bE]
theorem rn(l:List Fd)(i:Nat):bE (l.take i)<=bE l:=by
 have e:bE l=bE (l.take i)+bE (l.drop i):=by rw[←Cz,Si]
 omega
theorem Cj{l:List Fd}{e:Fd}(h:e∈l):e.mq<=bE l:=by
 induction l with
 |nil=>cases h
 |cons x r ih=>
  have e1:bE (x::r)=x.mq+bE r:=by simp[bE]
  rw[e1]
  rcases Sa.1 h with rfl|h
  ·omega
  ·have:=ih h;omega
theorem Dk(l:List Fd):l.length<=bE l:=by
 induction l with
 |nil=>exact SD _
 |cons x r ih=>
  have e1:bE (x::r)=x.mq+bE r:=by simp[bE]
  have e2:x.mq=1+x.params.length+be x.body:=rfl
  rw[e1,RN];omega
theorem Gg(l:List Fd)(h:List AO)(v:AV)(I:List Nat)(k:Nat)(ho:OwnL true h [v] [fdL l] I)(nd:I.Nodup)(hk:k+bE l<=1152921504606846976):
 AC Tryz.prog G jQ [v,.p (.int .i64 k)] h (Mkd h v I (fdL (oI k l)) (.int .i64 ((k+bE l:Nat):Int))):=by
 have hll:=Dk l
 rcases ho.inv nd with⟨h0,rfl,rfl|rfl⟩|⟨h0,_⟩|⟨id,rows,J,rfl,rfl,hr⟩
 ·have hl0:l=[]:=SE.1 h0
  subst hl0
  refine AC.go jN ?_
  have hst:Mkd h .nils [] (fdL (oI k [])) (.int .i64 ((k+bE []:Nat):Int)) (.ret (.p (.int .i64 k))) h:=⟨rfl,.nils 3 .nil,λ_ _ _=>rfl,RC _⟩
  simp-implicitDefEqProofs[gh]
  refine az (λ_:Unit=>am 35 [(0,.nils),(1,.p (.int .i64 k)),(5,.p (.int .i64 0))]) (λ_=>h) (λ_=>True) (λ_=>0) () trivial (aA (RC _) (by simp[below])) ?_
  intro _ _
  simp-implicitDefEqProofs[]
  exact hst
 ·have hl0:l=[]:=SE.1 h0
  subst hl0
  refine AC.go jN ?_
  have hst:Mkd h (.p (.lst 3 [])) [] (fdL (oI k [])) (.int .i64 ((k+bE []:Nat):Int)) (.ret (.p (.int .i64 k))) h:=⟨rfl,.p _ (λ_=>rfl) .nil,λ_ _ _=>rfl,RC _⟩
  simp-implicitDefEqProofs[gh]
  refine az (λ_:Unit=>am 35 [(0,(.p (.lst 3 []))),(1,.p (.int .i64 k)),(5,.p (.int .i64 0))]) (λ_=>h) (λ_=>True) (λ_=>0) () trivial (aA (RC _) (by simp[below])) ?_
  intro _ _
  simp-implicitDefEqProofs[]
  exact hst
 ·cases h0
 rw[RM]
 refine AC.go jN ?_
 simp-implicitDefEqProofs[gh]
 refine az (λa:FilS=>am 35 [(0,.sl id 3 0 l.length),(1,.p (.int .i64 ((k+bE (l.take a.i):Nat):Int))),(5,.p (.int .i64 a.i))]) (λa=>a.h) (MkI h id 3 ((oI k l).map Fd.cs) (l.map Fd.cs) J) (λa=>l.length-a.i) ⟨0,h⟩ (MkI.init hr) ?_ ?_
 ·exact aA (RC _) (by simp[below,bE,hr.lt])
 rintro⟨i,hh⟩ hI
 simp-implicitDefEqProofs[]
 refine aY (λh1=>?_) (λh1=>?_)
 ·simp at h1
  have hg:=Rv h1
  have hP:=Au h1
  have hM:=Cj (RB h1)
  have hT:=rn l (i+1)
  generalize l[i]=e at hg hP hM
  have hD:(l.map Fd.cs)[i]?=some e.cs:=by rw[RH,hg];rfl
  have hA:((oI k l).map Fd.cs)[i]?=some (mkF (k+bE (l.take i)) e).cs:=by rw[RH,AL l k i e hg];rfl
  obtain⟨rows',r,Ji,s1,s2,s3,s4,s5,s6,s7⟩:=hI.step hD hA
  obtain⟨A,B,I1,I2,rfl,rfl,oA,oB⟩:=EB s3
  obtain⟨c1,c2⟩:=bh oA
  obtain⟨c3,c4⟩:=bh oB
  have q1:∀x,(hh.set id x)[id]?=some x:=λx=>RW s5
  have q2:∀x,(rows'.set i x)[i]?=some x:=λx=>RW s6
  rw[Sr] at s4
  obtain⟨hnid,n12⟩:=s4
  simp only[RG,not_or] at hnid
  obtain⟨x1,x2⟩:=hnid
  obtain⟨n1,n2,d12⟩:=Su.1 n12
  have hpe:e.mq=1+e.params.length+be e.body:=rfl
  have hmt:=fN G (k+bE (l.take i)) (by omega)
  generalize hkk:k+bE (l.take i)=kk at*
  have hkI:(k:Int)+(bE (l.take i):Int)=(kk:Int):=by omega
  have w0:IntKind.i64.wrap ((kk:Int)+1)=(kk:Int)+1:=ah (by omega) (by omega)
  have e2:((kk+1:Nat):Int)=(kk:Int)+1:=by omega
  have mA:=λh1 ho=>Nx G h1 A I1 e.params (kk+1) ho n1 (by omega)
  have mB:=λh1 ho=>CF G (be e.body+1) e.body (by omega) h1 B I2 (kk+1+e.params.length) ho n2 (by omega)
  rw[e2] at mA
  simp-implicitDefEqProofs[-AV.cells,-AV.isCell,aM,af,aj,aN,ae,c1,c2,c3,c4,s1,s2,q1,q2,hkI,w0]
  refine hmt.use ?_
  simp-implicitDefEqProofs[-AV.cells,-AV.isCell,aM,af,aj,aN,ae,c1,c2,c3,c4,s1,s2,q1,q2,w0]
  refine⟨h1,(mA _ (oA.set_out x1 _)).mono ?_⟩
  rintro r h2 ⟨rfl,o2,f2,l2⟩
  rw[SC] at f2 l2
  have g2:h2[id]?=some (.row 3 (rows'.set i [.p (.str (dL kk)),A,B])):=by rw[f2 id s5 x1,q1]
  simp-implicitDefEqProofs[-AV.cells,-AV.isCell,aM,af,aj,aN,ae,c1,c2,c3,c4,aa,g2,q2]
  have oB2:OwnL true h2 [B] [smL e.body] I2:=oB.frame λj hj=>by
   have hne:id≠j:=λe=>x2 (by rw[e];exact hj)
   rw[f2 j (oB.lt hj) (λhm=>d12 j hm j hj rfl),RS hne]
  refine⟨h1,(mB _ oB2).mono ?_⟩
  rintro r h3 ⟨rfl,o3,f3,l3⟩
  have hid3:id<h3.length:=by omega
  have hwi:=w1 (i:=i) (by omega)
  have hkn:k+bE (l.take (i+1))=kk+1+e.params.length+be e.body:=by omega
  have oA3:OwnL true h3 [A] [aE (lD (kk+1) e.params.length)] I1:=o2.frame λj hj=>by
   have:=o2.lt hj
   rw[f3 j this (λhm=>d12 j hj j hm rfl)]
  have hgo:=s7 h3 [.p (.str (dL kk)),A,B] (by rw[f3 id (by omega) x2,g2]) (λj hj hn hm=>by
   simp only[RG,not_or] at hm
   rw[f3 j (by omega) hm.2,f2 j hj hm.1,RS (λe=>hn e.symm)]) (by
   rw[Ia];exact .p _ (λ_=>rfl) (oA3.app o3)) (Fd.cs_len _) (by omega)
  simp-implicitDefEqProofs[aa]
  refine⟨⟨i+1,h3⟩,hgo,by simp only;omega,aA hgo.2.2.2 ?_⟩
  simp[below,hid3,hwi]
  omega
 ·simp at h1
  have hie:i=l.length:=by have:=hI.1;simp at this;omega
  obtain⟨⟨rows2,d1⟩,d2,d3⟩:=hI.done (by simpa using h1) (by simp[rO])
  subst hie
  rw[RR]
  simp-implicitDefEqProofs[]
  refine⟨by simp,?_,d2,d3⟩
  have:=d1.tree (n:=l.length) (by simp[rO])
  exact this
theorem pn(l:List Fd)(h:List AO)(v:AV)(I:List Nat)(k:Nat)(ho:OwnL true h [v] [fdL l] I)(nd:I.Nodup)(hk:k+bE l<=1152921504606846976):
 AC Tryz.prog G dF [.agg [v],.p (.int .i64 k)] h (Mkd h v I (fdL (oI k l)) (.int .i64 ((k+bE l:Nat):Int))):=by
 obtain⟨c1,c2⟩:=bh ho
 have hm:=Gg G l (h++[.row 1 [[v]]]) v I k (ho.more _) nd hk
 refine AC.go pV ?_
 simp-implicitDefEqProofs[-AV.cells,-AV.isCell,aM,af,aj,aN,ae,c1,c2,jH]
 refine hm.mono ?_
 rintro r h2 ⟨rfl,o2,f2,l2⟩
 simp-implicitDefEqProofs[aa]
 rw[RJ] at f2 l2
 refine⟨by simp,o2,λj hj hn=>?_,by omega⟩
 rw[f2 j (by omega) hn,Rz hj]
end
section
variable (G:ay)
theorem BJ:∀(N:Nat) (l:List Ex),aI l<N->∀(k:Nat),k+3*aI l<=1152921504606846976->VF Tryz.prog G eK [.p (exL (mI k l)),.p (.int .i64 k)] (.p (.int .i64 ((k+3*aI l:Nat):Int))):=by
 intro N
 induction N with
 |zero=>intro l hl;omega
 |succ N ih=>
  intro l hl k hk
  have hxl:∀l,exL l= .lst 4 (l.map Ex.cs):=λ_=>rfl
  have hll:=Am l
  have hlen:=rT l k
  refine AC.go sG ?_
  simp-implicitDefEqProofs[lA]
  refine az (λi:Nat=>am 50 [(0,.p (exL (mI k l))),(1,.p (.int .i64 ((k+3*aI (l.take i):Nat):Int))),(5,.p (.int .i64 i))]) (λ_=>[]) (λi=>i<=l.length) (λi=>l.length-i) 0 (by simp) ?_ ?_
  ·exact aK rfl (by simp[below,hxl,aI])
  intro i hi
  simp-implicitDefEqProofs[hxl,hlen]
  refine aY (λh1=>?_) (λh1=>?_)
  ·simp at h1
   have hg0:=Rv h1
   have hP:=yt h1
   have hM:=zQ (RB h1)
   have hT:=zM l (i+1)
   generalize l[i]=e at hg0 hP hM
   have hpe:=e.parts_eq
   have hg:(mI k l)[i]?=some (mkE (k+3*aI (l.take i)) e):=Bi l k i e hg0
   have hcs:=Im (k+3*aI (l.take i)) e
   clear hlen
   have hh:=ih e.kids (by omega) (k+3*aI (l.take i)+3) (by omega)
   have hmt:=fN G (k+3*aI (l.take i)+2) (by omega)
   generalize hkk:k+3*aI (l.take i)=kk at*
   have hkI:(k:Int)+3*(aI (l.take i):Int)=(kk:Int):=by omega
   have w0:IntKind.i64.wrap ((kk:Int)+1)=((kk+1:Nat):Int):=by rw[ah (by omega) (by omega)];omega
   have w2:IntKind.i64.wrap (((kk+1:Nat):Int)+1)=((kk+2:Nat):Int):=by rw[ah (by omega) (by omega)];omega
   have w3:IntKind.i64.wrap (((kk+2:Nat):Int)+1)=((kk+3:Nat):Int):=by rw[ah (by omega) (by omega)];omega
   have hnn:¬((kk+3+3*aI e.kids:Nat):Int)<0:=by omega
   have hev:kk+3+3*aI e.kids=k+3*aI (l.take (i+1)):=by omega
   generalize hq:kk+3+3*aI e.kids=q at*
   generalize hk1:((kk+1:Nat):Int)=k1 at*
   generalize hk2:((kk+2:Nat):Int)=k2 at*
   generalize hk3:((kk+3:Nat):Int)=k3 at*
   rw[hxl] at hh hcs
   simp-implicitDefEqProofs[hg,hcs,hkI,w0,w2,w3]
   refine hmt.use ?_
   simp-implicitDefEqProofs[hg,hcs,w3]
   refine hh.use ?_
   simp-implicitDefEqProofs[hnn]
   refine⟨i+1,h1,by omega,aK rfl ?_⟩
   simp[below,hxl,w1 (i:=i) (by omega)]
   omega
  ·simp at h1
   have hie:i=l.length:=by omega
   subst hie
   rw[RR]
   simp-implicitDefEqProofs[]
theorem Dm:∀(N:Nat) (l:List Sm),be l<N->∀(k:Nat),k+be l<=1152921504606846976->VF Tryz.prog G dg [.p (smL (lh k l)),.p (.int .i64 k)] (.p (.int .i64 ((k+be l:Nat):Int))):=by
 intro N
 induction N with
 |zero=>intro l hl;omega
 |succ N ih=>
  intro l hl k hk
  have hxl:∀l,smL l= .lst 5 (l.map Sm.cs):=λ_=>rfl
  have hll:=BP l
  have hlen:=rL l k
  refine AC.go sW ?_
  simp-implicitDefEqProofs[lm]
  refine az (λi:Nat=>am 59 [(0,.p (smL (lh k l))),(1,.p (.int .i64 ((k+be (l.take i):Nat):Int))),(5,.p (.int .i64 i))]) (λ_=>[]) (λi=>i<=l.length) (λi=>l.length-i) 0 (by simp) ?_ ?_
  ·exact aK rfl (by simp[below,hxl,be])
  intro i hi
  simp-implicitDefEqProofs[hxl,hlen]
  refine aY (λh1=>?_) (λh1=>?_)
  ·simp at h1
   have hg0:=Rv h1
   have hP:=zU h1
   have hM:=Cy (RB h1)
   have hT:=rH l (i+1)
   generalize l[i]=e at hg0 hP hM
   have hpe:=e.mq_eq
   have hg:(lh k l)[i]?=some (mkS (k+be (l.take i)) e):=AG l k i e hg0
   have hcs:=Kv (k+be (l.take i)) e
   clear hlen
   generalize hkk:k+be (l.take i)=kk at*
   have hA:=BJ G (aI e.args+1) e.args (by omega) (kk+2) (by omega)
   have hB:=ih e.body (by omega) (kk+2+3*aI e.args) (by omega)
   have hE:=ih e.els (by omega) (kk+2+3*aI e.args+be e.body) (by omega)
   have hmt:=fN G (kk+1) (by omega)
   have hkI:(k:Int)+(be (l.take i):Int)=(kk:Int):=by omega
   have w0:IntKind.i64.wrap ((kk:Int)+1)=((kk+1:Nat):Int):=by rw[ah (by omega) (by omega)];omega
   have w2:IntKind.i64.wrap (((kk+1:Nat):Int)+1)=((kk+2:Nat):Int):=by rw[ah (by omega) (by omega)];omega
   have hn1:¬((kk+2+3*aI e.args:Nat):Int)<0:=by omega
   have hn2:¬((kk+2+3*aI e.args+be e.body:Nat):Int)<0:=by omega
   have hn3:¬((kk+2+3*aI e.args+be e.body+be e.els:Nat):Int)<0:=by omega
   have hev:kk+2+3*aI e.args+be e.body+be e.els=k+be (l.take (i+1)):=by omega
   generalize hk2:((kk+2:Nat):Int)=k2 at*
   generalize hk1:((kk+1:Nat):Int)=k1 at*
   generalize hqe:kk+2+3*aI e.args+be e.body+be e.els=qe at*
   generalize hqb:kk+2+3*aI e.args+be e.body=qb at*
   generalize hqa:kk+2+3*aI e.args=qa at*
   rw[hxl] at hB hE
   simp only[hxl] at hcs
   simp-implicitDefEqProofs[hg,hcs,hkI,w0,w2]
   refine hmt.use ?_
   simp-implicitDefEqProofs[hg,hcs,w2]
   refine hA.use ?_
   simp-implicitDefEqProofs[hg,hcs,hn1]
   refine hB.use ?_
   simp-implicitDefEqProofs[hg,hcs,hn2]
   refine hE.use ?_
   simp-implicitDefEqProofs[hn3]
   refine⟨i+1,h1,by omega,aK rfl ?_⟩
   simp[below,hxl,w1 (i:=i) (by omega)]
   omega
  ·simp at h1
   have hie:i=l.length:=by omega
   subst hie
   rw[RR]
   simp-implicitDefEqProofs[]
theorem Gf(l:List Fd)(k:Nat)(hk:k+bE l<=1152921504606846976):VF Tryz.prog G jk [.p (fdL (oI k l)),.p (.int .i64 k)] (.p (.int .i64 ((k+bE l:Nat):Int))):=by
 have hxl:∀l,fdL l= .lst 3 (l.map Fd.cs):=λ_=>rfl
 have hll:=Dk l
 have hlen:=rO l k
 refine AC.go ya ?_
 simp-implicitDefEqProofs[nD]
 refine az (λi:Nat=>am 41 [(0,.p (fdL (oI k l))),(1,.p (.int .i64 ((k+bE (l.take i):Nat):Int))),(5,.p (.int .i64 i))]) (λ_=>[]) (λi=>i<=l.length) (λi=>l.length-i) 0 (by simp) ?_ ?_
 ·exact aK rfl (by simp[below,hxl,bE])
 intro i hi
 simp-implicitDefEqProofs[hxl,hlen]
 refine aY (λh1=>?_) (λh1=>?_)
 ·simp at h1
  have hg0:=Rv h1
  have hP:=Au h1
  have hM:=Cj (RB h1)
  have hT:=rn l (i+1)
  generalize l[i]=e at hg0 hP hM
  have hpe:e.mq=1+e.params.length+be e.body:=rfl
  have hg:(oI k l)[i]?=some (mkF (k+bE (l.take i)) e):=AL l k i e hg0
  have hcs:=Ia (k+bE (l.take i)) e
  clear hlen
  generalize hkk:k+bE (l.take i)=kk at*
  have hA:=ze G (kk+1) e.params.length (by omega)
  have hB:=Dm G (be e.body+1) e.body (by omega) (kk+1+e.params.length) (by omega)
  have hmt:=fN G kk (by omega)
  have hkI:(k:Int)+(bE (l.take i):Int)=(kk:Int):=by omega
  have w0:IntKind.i64.wrap ((kk:Int)+1)=((kk+1:Nat):Int):=by rw[ah (by omega) (by omega)];omega
  have hn1:¬((kk+1+e.params.length:Nat):Int)<0:=by omega
  have hn2:¬((kk+1+e.params.length+be e.body:Nat):Int)<0:=by omega
  have hev:kk+1+e.params.length+be e.body=k+bE (l.take (i+1)):=by omega
  generalize hk1:((kk+1:Nat):Int)=k1 at*
  generalize hqb:kk+1+e.params.length+be e.body=qb at*
  generalize hqa:kk+1+e.params.length=qa at*
  simp-implicitDefEqProofs[hg,hcs,hkI,w0]
  refine hmt.use ?_
  simp-implicitDefEqProofs[hg,hcs,w0]
  refine hA.use ?_
  simp-implicitDefEqProofs[hg,hcs,hn1]
  refine hB.use ?_
  simp-implicitDefEqProofs[hn2]
  refine⟨i+1,h1,by omega,aK rfl ?_⟩
  simp[below,hxl,w1 (i:=i) (by omega)]
  omega
 ·simp at h1
  have hie:i=l.length:=by omega
  subst hie
  rw[RR]
  simp-implicitDefEqProofs[]
theorem yY(l:List Fd)(k:Nat)(hk:k+bE l<=1152921504606846976):VF Tryz.prog G dB [.agg [.p (fdL (oI k l))],.p (.int .i64 k)] (.p (.int .i64 ((k+bE l:Nat):Int))):=by
 have hF:=Gf G l k hk
 have hn1:¬((k+bE l:Nat):Int)<0:=by omega
 generalize hqa:k+bE l=qa at*
 refine AC.go pU ?_
 simp-implicitDefEqProofs[jP]
 refine hF.use ?_
 simp-implicitDefEqProofs[hn1]
end
section
mutual
theorem Ex.parts_szI:∀e:Ex,e.parts<=e.sz
 | .mk _ _ w k=>by
   have:=yu k
   rw[Ex.parts_eq,Ex.sz_eq]
   simp only[Ex.kids,Ex.name]
   omega
theorem yu:∀l:List Ex,aI l<=cb l
 |[]=>by simp[aI]
 |e::r=>by
  have h1:=Ex.parts_szI e
  have h2:=yu r
  rw[aI,cb]
  omega
end
mutual
theorem Sm.mq_sz:∀s:Sm,s.mq<=3*s.sz
 | .mk _ w a b e=>by
   have h1:=yu a
   have h2:=rG b
   have h3:=rG e
   rw[Sm.mq_eq,Sm.sz_eq]
   simp only[Sm.args,Sm.body,Sm.els,Sm.name]
   omega
theorem rG:∀l:List Sm,be l<=3*aF l
 |[]=>by simp[be]
 |s::r=>by
  have h1:=Sm.mq_sz s
  have h2:=rG r
  rw[be,aF]
  omega
end
theorem ve:∀l:List Fd,bE l<=3*bt l
 |[]=>by simp[bE]
 |f::r=>by
  have h1:=rG f.body
  have h2:=ve r
  have e1:bt (f::r)=f.sz+bt r:=by simp[bt]
  have e2:bE (f::r)=f.mq+bE r:=by simp[bE]
  have e3:f.mq=1+f.params.length+be f.body:=rfl
  have e4:f.sz=1+f.name.length+(f.params.length+(f.params.map List.length).sum)+aF f.body:=rfl
  omega
end
section
variable (G:ay) (hK:G de=some cX) (hS:G bx=some [.tbl opK opV])
include hK hS
theorem us(l:List Fd)(hf:NC l):VF Tryz.prog G eX [.agg [.p (fdL l)]] (.p (.bool true)):=by
 refine AC.go ka ?_
 have hsz':VF Tryz.prog G eM [.agg [.p (fdL l)],.p (.int .i64 1048576)] (.p (.int .i64 (bG 1048576 (bt l)))):=CY G l hf 1048576 (RC _)
 simp-implicitDefEqProofs[eU]
 refine hsz'.use ?_
 by_cases hz:bt l<=1048576
 case neg=>
  rw[bB hz]
  simp-implicitDefEqProofs[]
 have hto:=Dq G l hz
 have hnn:¬((1048576-bt l:Nat):Int)<0:=by omega
 have hrz:bt (orN (decide (aW l=0)) (eS l))<=bt l:=by
  rw[orN];split
  ·exact EA l
  ·exact SD _
 have hot:=λh:List AO=>AC.mkLift ec (CZ G l hz) (h:=h) (by simp)
 have hin:∀(h:List AO) (v:AV) (I:List Nat),OwnL true h [v] [fdL l] I->AC Tryz.prog G bK [.agg [v]] h (Mk (KC (decide (aW l=0))) true [fdL (orN (decide (aW l=0)) (eS l))] h):=λh v I ho=>AC.mkLend (CC _) (pa G hK hS l (by omega)) (.agg ho.views .nil)
 have hpu:VF Tryz.prog G bK [.agg [.p (fdL l)]] (.tup [.agg [.p (fdL (orN (decide (aW l=0)) (eS l)))],.p (.bool (decide (aW l=0)))]):=AC.mkFreeze (CC _) (pa G hK hS l (by omega))
 have hsR:=zk G l (by omega)
 have hQ:=ve l
 have hQr:=ve (orN (decide (aW l=0)) (eS l))
 have heq:=tW G (orN (decide (aW l=0)) (eS l)) (by omega)
 have hmr:=λh v I=>pn G (orN (decide (aW l=0)) (eS l)) h v I 1
 have hhr:=yY G (orN (decide (aW l=0)) (eS l)) 1 (by omega)
 generalize orN (decide (aW l=0)) (eS l)=rp at*
 generalize decide (aW l=0)=ok at*
 rw[dU hz]
 simp-implicitDefEqProofs[hnn]
 refine hto.use ?_
 simp-implicitDefEqProofs[]
 refine hsR.use ?_
 simp-implicitDefEqProofs[]
 refine(hot _).mono ?_
 rintro x h2 ⟨vs,I,os,rfl,e2,ho,nd,hf⟩
 obtain⟨v,rfl⟩:=aO ho
 obtain⟨c1,c2⟩:=bh ho
 simp-implicitDefEqProofs[-AV.cells,-AV.isCell,aM,af,aj,aN,ae,c1,c2,aa]
 refine(hin _ v I (ho.more _)).mono ?_
 rintro x h3 ⟨vs6,I6,os6,rfl,e3,ho6,nd6,hf6⟩
 obtain⟨v6,rfl⟩:=aO ho6
 obtain⟨c3,c4⟩:=bh ho6
 have hb0:h3[0]?=some (.row 1 [[.p (fdL l)]]):=by rw[e3,e2];rfl
 have hb4:h3[1]?=some (.row 1 [[.p (fdL rp)]]):=by rw[e3,e2];rfl
 have hb5:h3[h2.length]?=some (.row 1 [[v]]):=by rw[e3];simp
 have ho3:OwnL true h3 [v] [fdL l] I:=by rw[e3];exact(ho.more _).more _
 have hlen3:h2.length<h3.length:=(Ry.1 hb5).1
 have hI1:∀i∈I,2<=i:=λi hi=>hf i hi
 have h6:∀i∈I6,h2.length<i:=λi hi=>by have:=hf6 i hi;simp at this;omega
 have hnil:1<h2.length:=by rw[e2];simp
 have hg0:∀t,(h3++t)[0]?=some (.row 1 [[.p (fdL l)]]):=λt=>by rw[Rz (by omega)];exact hb0
 have hg4:∀t,(h3++t)[1]?=some (.row 1 [[.p (fdL rp)]]):=λt=>by rw[Rz (by omega)];exact hb4
 have hg5:∀t,(h3++t)[h2.length]?=some (.row 1 [[v]]):=λt=>by rw[Rz (by omega)];exact hb5
 have hdl:=λh v6 I6 (ho6:OwnL true h [v6] [fdL rp] I6)=>heq.lend (h:=h) (args:=[.agg [v6],.agg [.p (fdL rp)]]) (.agg ho6.views (.keep (by simp[below]) .nil)) rfl
 simp-implicitDefEqProofs[-AV.cells,-AV.isCell,aM,af,aj,aN,ae,c1,c2,c3,c4,aa,KC,hg0,hg4,hg5]
 have hG0:=hg0 [.row 1 [[v6]]]
 have hG4:=hg4 [.row 1 [[v6]]]
 have hG5:=hg5 [.row 1 [[v6]]]
 have hG7:(h3++[AO.row 1 [[v6]]])[h3.length]?=some (.row 1 [[v6]]):=by simp
 have ho3':=ho3.more [.row 1 [[v6]]]
 have ho6':=ho6.more [.row 1 [[v6]]]
 have h6':∀i∈I6,h2.length<i/\i<h3.length:=λi hi=>⟨h6 i hi,ho6.lt hi⟩
 have hI2:∀i∈I,i<h2.length:=λi hi=>ho.lt hi
 generalize hn3:h3.length=n3 at*
 generalize hn2:h2.length=n2 at*
 generalize h3++[AO.row 1 [[v6]]]=h4 at*
 clear hg0 hg4 hg5 hb0 hb4 hb5 ho3 ho6 ho e3 hf6 h6
 refine(hdl _ v6 I6 ho6').mono ?_
 rintro x h5 ⟨rfl,rfl⟩
 simp-implicitDefEqProofs[aa,hG0,hG4,hG5,hG7]
 refine hto.use ?_
 simp-implicitDefEqProofs[aa,hG0,hG4,hG5,hG7]
 have hep:=λh v I (ho:OwnL true h [v] [fdL l] I)=>(tW G l hz).lend (h:=h) (args:=[.agg [v],.agg [.p (fdL l)]]) (.agg ho.views (.keep (by simp[below]) .nil)) rfl
 refine(hep _ v I ho3').mono ?_
 rintro x h5 ⟨rfl,rfl⟩
 simp-implicitDefEqProofs[aa,hG0,hG4,hG5,hG7]
 refine(pn G l _ v I 1 ho3' nd (by omega)).mono ?_
 rintro x h6 ⟨rfl,o7,f7,l7⟩
 have hnn7:¬(1:Int)+(bE l:Int)<0:=by omega
 have hL4:n3<h5.length:=(Ry.1 hG7).1
 have fG0:h6[0]?=some (.row 1 [[.p (fdL l)]]):=by rw[f7 _ (by omega) λhm=>by have:=hI1 _ hm;omega,hG0]
 have fG4:h6[1]?=some (.row 1 [[.p (fdL rp)]]):=by rw[f7 _ (by omega) λhm=>by have:=hI1 _ hm;omega,hG4]
 have fG7:h6[n3]?=some (.row 1 [[v6]]):=by rw[f7 _ hL4 λhm=>by have:=hI2 _ hm;omega,hG7]
 have fo6:OwnL true h6 [v6] [fdL rp] I6:=ho6'.frame λi hi=>f7 i (ho6'.lt hi) λhm=>by have:=h6' i hi;have:=hI2 i hm;omega
 clear hG0 hG4 hG5 hG7
 simp-implicitDefEqProofs[aa,fG0,fG4,fG7,hnn7]
 refine(hdl _ v6 I6 fo6).mono ?_
 rintro x h7 ⟨rfl,rfl⟩
 simp-implicitDefEqProofs[aa,fG0,fG4,fG7,hnn7]
 refine(hmr _ v6 I6 fo6 nd6 (by omega)).mono ?_
 rintro x h8 ⟨rfl,o8,f8,l8⟩
 have hL7:n3<h7.length:=(Ry.1 fG7).1
 have gG0:h8[0]?=some (.row 1 [[.p (fdL l)]]):=by rw[f8 _ (by omega) λhm=>by have:=h6' _ hm;omega,fG0]
 have gG4:h8[1]?=some (.row 1 [[.p (fdL rp)]]):=by rw[f8 _ (by omega) λhm=>by have:=h6' _ hm;omega,fG4]
 have gG7:h8[n3]?=some (.row 1 [[v6]]):=by rw[f8 _ hL7 λhm=>by have:=h6' _ hm;omega,fG7]
 clear fG0 fG4 fG7
 have hhe:=λh v6 I6 (ho6:OwnL true h [v6] [fdL (oI 1 rp)] I6)=>hhr.lend (h:=h) (args:=[.agg [v6],.p (.int .i64 1)]) (.agg ho6.views (.keep (by simp[below]) .nil)) rfl
 have hnn9:¬(1:Int)+(bE rp:Int)<0:=by omega
 simp-implicitDefEqProofs[aa,gG0,gG4,gG7]
 refine(hhe _ v6 I6 o8).mono ?_
 rintro x h9 ⟨rfl,rfl⟩
 simp-implicitDefEqProofs[aa,gG0,gG4,gG7,hnn9]
 refine hto.use ?_
 simp-implicitDefEqProofs[aa,gG0,gG4,gG7]
 refine hpu.use ?_
 have kG4:(h9++[AO.row 1 [[.p (fdL rp)]]])[1]?=some (.row 1 [[.p (fdL rp)]]):=by rw[Rz (by omega)];exact gG4
 have kG7:(h9++[AO.row 1 [[.p (fdL rp)]]])[n3]?=some (.row 1 [[v6]]):=by rw[Rz (by omega)];exact gG7
 have kG9:(h9++[AO.row 1 [[.p (fdL rp)]]])[h9.length]?=some (.row 1 [[.p (fdL rp)]]):=by simp
 have ko:=o8.more [AO.row 1 [[.p (fdL rp)]]]
 simp-implicitDefEqProofs[aa,gG0,gG4,gG7,kG4,kG7,kG9]
 refine heq.use ?_
 simp-implicitDefEqProofs[aa,kG4,kG7,kG9]
 refine(hhe _ v6 I6 ko).mono ?_
 rintro x h10 ⟨rfl,rfl⟩
 simp-implicitDefEqProofs[aa,kG4,kG7,kG9,hnn9]
end
end Go.Proofs.YthfklclcofcpiaaGreatDoor
namespace Go.Proofs.YthfklclcofcpiaaGreatDoor
open Go Go.Aw Go.ChangeShapes Go.WideShapes Go.ChangeAt Go.RowKit
set_option maxRecDepth 100000
abbrev Hy:TypeId:=24
abbrev MD:TypeId:=22
abbrev KR:TypeId:=55
abbrev DX:TypeId:=52
abbrev Ao:TypeId:=9
abbrev rg:TypeId:=53
abbrev jF:TypeId:=97
abbrev uD:TypeId:=95
abbrev na:TypeId:=142
abbrev BN:TypeId:=3
abbrev ML:TypeId:=4
abbrev ER:TypeId:=130
abbrev IF:TypeId:=154
abbrev Mp:TypeId:=155
theorem OP:Kids Tryz.prog (· <Tryz.prog.types.size):=kids_rows (by kernel_rfl) (by kernel_rfl)
theorem Pw:∀t e,t<Tryz.prog.types.size->Tryz.prog.underlying t=some (.slice e)->0<Tryz.prog.cellsOf e:=slices_full_of Tryz.prog (by kernel_rfl)
def JL:List TypeId:=[Hy,MD,KR,DX,Ao,rg,jF,uD,na,BN,ML,ER,IF]
theorem DE:Plain Tryz.prog JL=true:=by kernel_rfl
theorem QI:ownKnob Tryz.prog.godebug=none:=by kernel_rfl
theorem yj{H:Type}:∀l:List (DataW H),Rows.uptoBulkAll l=(l.map Rows.uptoBulk).sum
 |[]=>by simp[Rows.uptoBulkAll]
 |d::r=>by simp[Rows.uptoBulkAll,yj r]
theorem Lf{H:Type}:BulkOk (Rows.uptoBulk (H:=H)) where
 lit:=λl=>by cases l<;>simp[Rows.uptoBulk]
 str:=λs=>by simp[Rows.uptoBulk]
 nil:=by simp[Rows.uptoBulk]
 slice:=λes sp=>by simp only[Rows.uptoBulk,yj];omega
 agg:=λps=>by simp only[Rows.uptoBulk,yj];omega
theorem jr{t e:TypeId}{vs:List PV}(h:Conf Tryz.prog t vs)(hu:Tryz.prog.underlying t=some (.slice e)):∃es,vs=[.lst (Tryz.prog.cellsOf e) es]/\es.length<=9223372036854775807/\∀x∈es,Conf Tryz.prog e x:=by
 cases h with
 |sl es e' hl hs=>rw[hu] at e';cases e';exact⟨es,rfl,hl,hs⟩
 |bool b e=>rw[e] at hu;cases hu
 |int n e=>rw[e] at hu;cases hu
 |str s e=>rw[e] at hu;cases hu
 |st vs e=>rw[e] at hu;cases hu
 |arr vs e=>rw[e] at hu;cases hu
theorem Gt{vs:List PV}(h:Conf Tryz.prog DX vs):∃l:List (List UInt8),vs=[aE l]/\l.length<=9223372036854775807/\∀x∈l,x.length<=9223372036854775807:=by
 obtain⟨es,rfl,hl,h4⟩:=jr h (e:=Ao) (by kernel_rfl)
 have hk:∀x∈es,∃s:List UInt8,x=[PV.str s]/\s.length<=maxLen:=λx hx=>su (h4 x hx) (by kernel_rfl)
 obtain⟨l,rfl⟩:=EY (λs:List UInt8=>[PV.str s]) (λx hx=>by obtain⟨n,e,_⟩:=hk x hx;exact⟨n,e⟩)
 rw[show Tryz.prog.cellsOf Ao=1 by kernel_rfl]
 refine⟨l,rfl,by rwa[RM] at hl,λs hs=>?_⟩
 obtain⟨m,e,hw⟩:=hk [PV.str s] (RP.2 ⟨s,hs,rfl⟩)
 cases e
 exact hw
theorem jG{α β:Type}(g:β->α)(p:β->Prop):∀{es:List α},(∀x∈es,∃m,x=g m/\p m)->∃ms:List β,es=ms.map g/\∀m∈ms,p m
 |[],_=>⟨[],rfl,λm hm=>by cases hm⟩
 |e::r,h=>by
  obtain⟨m,hm,hp⟩:=h e (by simp)
  obtain⟨ms,hms,hps⟩:=jG g p (es:=r) λx hx=>h x (by simp[hx])
  exact⟨m::ms,by simp[hm,hms],λx hx=>by
   rcases Sa.1 hx with rfl|hx
   ·exact hp
   ·exact hps x hx⟩
theorem tB:∀{l:List Ex},(∀e∈l,e.fit)->ma l
 |[],_=>trivial
 |e::r,h=>⟨h e (by simp),tB λx hx=>h x (by simp[hx])⟩
theorem ov:∀{l:List Sm},(∀e∈l,e.fit)->jx l
 |[],_=>trivial
 |e::r,h=>⟨h e (by simp),ov λx hx=>h x (by simp[hx])⟩
theorem yI{x:List PV}{es:List (List PV)}(h:x∈es)(sz:Nat):SizeOf.sizeOf x<SizeOf.sizeOf [PV.lst sz es]:=by
 have:=List.sizeOf_lt_of_mem h
 simp
 omega
theorem Ma:∀(n:Nat) (vs:List PV),SizeOf.sizeOf vs<n->Conf Tryz.prog na vs->∃e:Ex,vs=e.cs/\e.fit:=by
 intro n
 induction n with
 |zero=>intro vs h;omega
 |succ n ih=>
  intro vs hn h
  have h:=uF (ts:=[BN,BN,Ao,uD]) h (by kernel_rfl)
  obtain⟨a,r,rfl,h1,h⟩:=bM h
  obtain⟨b,r,rfl,h2,h⟩:=bM h
  obtain⟨c,r,rfl,h3,h⟩:=bM h
  obtain⟨d,r,rfl,h4,h⟩:=bM h
  cases oc h
  obtain⟨n1,rfl,_⟩:=vf h1 (k:= .i64) (by kernel_rfl)
  obtain⟨n2,rfl,_⟩:=vf h2 (k:= .i64) (by kernel_rfl)
  obtain⟨s,rfl,l3⟩:=su h3 (by kernel_rfl)
  obtain⟨es,rfl,l4,h5⟩:=jr h4 (e:=na) (by kernel_rfl)
  have hs1:SizeOf.sizeOf [PV.lst (Tryz.prog.cellsOf na) es]<n+1:=by simp at hn⊢;omega
  obtain⟨l,rfl,hl⟩:=jG Ex.cs Ex.fit (λx hx=>ih x (by have:=yI hx (Tryz.prog.cellsOf na);omega) (h5 x hx))
  refine⟨⟨n1,n2,s,l⟩,?_,?_⟩
  ·rw[show Tryz.prog.cellsOf na=4 by kernel_rfl,Ex.cs_eq];rfl
  ·exact⟨l3,by rwa[RM] at l4,tB hl⟩
theorem IO{vs:List PV}(h:Conf Tryz.prog uD vs):∃l:List Ex,vs=[exL l]/\l.length<=BL/\ma l:=by
 obtain⟨es,rfl,l4,h5⟩:=jr h (e:=na) (by kernel_rfl)
 obtain⟨l,rfl,hl⟩:=jG Ex.cs Ex.fit (λx hx=>Ma _ x (Nat.lt_succ_self _) (h5 x hx))
 rw[show Tryz.prog.cellsOf na=4 by kernel_rfl]
 exact⟨l,rfl,by rwa[RM] at l4,tB hl⟩
theorem LZ:∀(n:Nat) (vs:List PV),SizeOf.sizeOf vs<n->Conf Tryz.prog jF vs->∃e:Sm,vs=e.cs/\e.fit:=by
 intro n
 induction n with
 |zero=>intro vs h;omega
 |succ n ih=>
  intro vs hn h
  have h:=uF (ts:=[BN,Ao,uD,rg,rg]) h (by kernel_rfl)
  obtain⟨a,r,rfl,h1,h⟩:=bM h
  obtain⟨b,r,rfl,h2,h⟩:=bM h
  obtain⟨c,r,rfl,h3,h⟩:=bM h
  obtain⟨d,r,rfl,h4,h⟩:=bM h
  obtain⟨d',r,rfl,h4',h⟩:=bM h
  cases oc h
  obtain⟨n1,rfl,_⟩:=vf h1 (k:= .i64) (by kernel_rfl)
  obtain⟨s,rfl,l3⟩:=su h2 (by kernel_rfl)
  obtain⟨ar,rfl,la,fa⟩:=IO h3
  obtain⟨es,rfl,l4,h5⟩:=jr h4 (e:=jF) (by kernel_rfl)
  obtain⟨es',rfl,l4',h5'⟩:=jr h4' (e:=jF) (by kernel_rfl)
  have hs1:SizeOf.sizeOf [PV.lst (Tryz.prog.cellsOf jF) es]<n+1:=by simp at hn⊢;omega
  have hs2:SizeOf.sizeOf [PV.lst (Tryz.prog.cellsOf jF) es']<n+1:=by simp at hn⊢;omega
  obtain⟨l,rfl,hl⟩:=jG Sm.cs Sm.fit (λx hx=>ih x (by have:=yI hx (Tryz.prog.cellsOf jF);omega) (h5 x hx))
  obtain⟨l',rfl,hl'⟩:=jG Sm.cs Sm.fit (λx hx=>ih x (by have:=yI hx (Tryz.prog.cellsOf jF);omega) (h5' x hx))
  refine⟨⟨n1,s,ar,l,l'⟩,?_,?_⟩
  ·rw[show Tryz.prog.cellsOf jF=5 by kernel_rfl,Sm.cs_eq];rfl
  ·exact⟨l3,⟨la,fa⟩,⟨by rwa[RM] at l4,ov hl⟩,⟨by rwa[RM] at l4',ov hl'⟩⟩
theorem Jt{vs:List PV}(h:Conf Tryz.prog rg vs):∃l:List Sm,vs=[smL l]/\l.length<=BL/\jx l:=by
 obtain⟨es,rfl,l4,h5⟩:=jr h (e:=jF) (by kernel_rfl)
 obtain⟨l,rfl,hl⟩:=jG Sm.cs Sm.fit (λx hx=>LZ _ x (Nat.lt_succ_self _) (h5 x hx))
 rw[show Tryz.prog.cellsOf jF=5 by kernel_rfl]
 exact⟨l,rfl,by rwa[RM] at l4,ov hl⟩
theorem Lh{vs:List PV}(h:Conf Tryz.prog KR vs):∃f:Fd,vs=f.cs/\f.fit:=by
 have h:=uF (ts:=[Ao,DX,rg]) h (by kernel_rfl)
 obtain⟨a,r,rfl,h1,h⟩:=bM h
 obtain⟨b,r,rfl,h2,h⟩:=bM h
 obtain⟨c,r,rfl,h3,h⟩:=bM h
 cases oc h
 obtain⟨s,rfl,l1⟩:=su h1 (by kernel_rfl)
 obtain⟨ws,rfl,l2,w2⟩:=Gt h2
 obtain⟨bd,rfl,l3,f3⟩:=Jt h3
 exact⟨⟨s,ws,bd⟩,rfl,l1,⟨l2,w2⟩,l3,f3⟩
theorem Hk{vs:List PV}(h:Conf Tryz.prog Hy vs):∃l:List Fd,vs=[fdL l]/\NC l:=by
 have h:=uF (ts:=[MD]) h (by kernel_rfl)
 obtain⟨a,r,rfl,h1,h⟩:=bM h
 cases oc h
 obtain⟨es,rfl,l4,h5⟩:=jr h1 (e:=KR) (by kernel_rfl)
 obtain⟨l,rfl,hl⟩:=jG Fd.cs Fd.fit (λx hx=>Lh (h5 x hx))
 rw[show Tryz.prog.cellsOf KR=3 by kernel_rfl]
 exact⟨l,rfl,by rwa[RM] at l4,hl⟩
def G0:ay:=λg=>if g=de then some cX else if g=bx then some [.tbl opK opV] else none
theorem Nc:∀k,gJ Tryz.prog (k+10) ER (Rows.laid_loop_example_wholeway_impl_keys (H:=Unit))=cX:=λk=>by kernel_rfl
theorem Qy{W:World}{laid:List (String × DataW Unit)}(hL:laidMet Tryz.prog laid W)(h1:("loop.example/wholeway/impl.keys",Rows.laid_loop_example_wholeway_impl_keys)∈laid)(h2:("loop.example/wholeway/impl.opSign",Rows.laid_loop_example_wholeway_impl_opSign)∈laid):
 ∀g cs,G0 g=some cs->g<W.heap.size/\∀(j:Nat) (c:PV),cs[j]?=some c->∃v,W.cell? ⟨g,j,none⟩=some v/\PRel W (· <W.heap.size) c v:=by
 intro g cs h
 unfold G0 at h
 split at h
 ·rename_i e;subst e;cases h
  exact GP DE hL (n:= "loop.example/wholeway/impl.keys") (d:=Rows.laid_loop_example_wholeway_impl_keys) (t:=ER) h1 (by kernel_rfl) (by kernel_rfl) (by decide) Nc
 ·split at h
  ·rename_i e;subst e;cases h
   exact HO DE hL (n:= "loop.example/wholeway/impl.opSign") h2 (t:=Mp) (k:=BN) (e:=IF) (by kernel_rfl) (by kernel_rfl) (by kernel_rfl) (.inl ⟨.i64,by kernel_rfl⟩) (by decide) (by kernel_rfl) (by kernel_rfl) (λm=>by kernel_rfl)
  ·cases h
end Go.Proofs.YthfklclcofcpiaaGreatDoor
