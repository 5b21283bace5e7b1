/-
  Contracts and lemmas that the card needs, part 7.
-/
import Derived.Test.YtnjbhgpbgmpkcaaGreatDoorNd6
import Derived.Shelf.Slices.In.SortNone
import Derived.Maps.RangeRun
namespace Go.Proofs.YtnjbhgpbgmpkcaaGreatDoor
open Go Go.Aw
set_option maxRecDepth 100000
set_option maxHeartbeats 4000000
mutual
def mkE(k:Nat):Ex→Ex
 | .mk _ _ _ ks=> .mk k ((k+1:Nat):Int) (cZ (k+2)) (nR (k+3) ks)
def nR(k:Nat):List Ex→List Ex
 |[]=>[]
 |e::r=>mkE k e::nR (k+3*e.parts) r
end
theorem ti:∀(l:List Ex) (k:Nat),(nR k l).length=l.length
 |[],k=>rfl
 |e::r,k=>by rw[nR,List.length_cons,ti r,List.length_cons]
theorem zQ:∀(l:List Ex) (k i:Nat) (e:Ex),l[i]?=some e→(nR k l)[i]?=some (mkE (k+3*aB (l.take i)) e)
 |x::r,k,0,e,h=>by cases h;rfl
 |x::r,k,i+1,e,h=>by
  have:=zQ r (k+3*x.parts) i e h
  rw[nR,List.getElem?_cons_succ,this,List.take_succ_cons,aB]
  congr 2
  omega
theorem HQ(k:Nat)(e:Ex):(mkE k e).cs=[.int .i64 k,.int .i64 ((k+1:Nat):Int),.str (cZ (k+2)),exL (nR (k+3) e.kids)]:=by
 obtain⟨o,n,s,ks⟩:=e;rw[mkE,Ex.cs_eq];rfl
theorem xS{l:List Ex}{i:Nat}(h:i<l.length):aB (l.take (i+1))=aB (l.take i)+l[i].parts:=by
 rw[ah h,cu];simp[aB]
theorem Ar(l:List Ex)(i:Nat):aB (l.take i)≤aB l:=by
 have e:aB l=aB (l.take i)+aB (l.drop i):=by rw[←cu,List.take_append_drop]
 omega
theorem Bc{l:List Ex}{e:Ex}(h:e∈l):e.parts≤aB l:=by
 induction l with
 |nil=>cases h
 |cons x r ih=>
  rw[aB]
  rcases List.mem_cons.1 h with rfl|h
  ·omega
  ·have:=ih h;omega
theorem AU(l:List Ex):l.length≤aB l:=by
 induction l with
 |nil=>exact Nat.le_refl _
 |cons x r ih=>have:=x.parts_eq;rw[aB,List.length_cons];omega
variable (G:aw)
theorem wA:∀(N:Nat) (l:List Ex),aB l<N→∀(h:List AO) (v:AV) (I:List Nat) (k:Nat),OwnL true h [v] [exL l] I→I.Nodup→k+3*aB l≤1152921504606846976→
 AC Tryz.prog G dI [v,.p (.int .i64 k)] h (Mkd h v I (exL (nR k l)) (.int .i64 ((k+3*aB l:Nat):Int))):=by
 intro N
 induction N with
 |zero=>intro l hl;omega
 |succ N ih=>
  intro l hl h v I k ho nd hk
  have hxl:∀l,exL l= .lst 4 (l.map Ex.cs):=fun _=>rfl
  have hll:=AU l
  rcases ho.inv nd with⟨h0,rfl,rfl|rfl⟩|⟨h0,_⟩|⟨id,rows,J,rfl,rfl,hr⟩
  ·have hl0:l=[]:=List.map_eq_nil_iff.1 h0
   subst hl0
   refine AC.go fQ ?_
   have hst:Mkd h .nils [] (exL (nR k [])) (.int .i64 ((k+3*aB []:Nat):Int)) (.ret (.p (.int .i64 k))) h:=⟨rfl,.nils 4 .nil,fun _ _ _=>rfl,Nat.le_refl _⟩
   simp-implicitDefEqProofs[dD]
   refine aq (fun _:Unit=>af 42 [(0,.nils),(1,.p (.int .i64 k)),(5,.p (.int .i64 0))]) (fun _=>h) (fun _=>True) (fun _=>0) () trivial (aP (Nat.le_refl _) (by simp[below])) ?_
   intro _ _
   simp-implicitDefEqProofs[]
   exact hst
  ·have hl0:l=[]:=List.map_eq_nil_iff.1 h0
   subst hl0
   refine AC.go fQ ?_
   have hst:Mkd h (.p (.lst 4 [])) [] (exL (nR k [])) (.int .i64 ((k+3*aB []:Nat):Int)) (.ret (.p (.int .i64 k))) h:=⟨rfl,.p _ (fun _=>rfl) .nil,fun _ _ _=>rfl,Nat.le_refl _⟩
   simp-implicitDefEqProofs[dD]
   refine aq (fun _:Unit=>af 42 [(0,(.p (.lst 4 []))),(1,.p (.int .i64 k)),(5,.p (.int .i64 0))]) (fun _=>h) (fun _=>True) (fun _=>0) () trivial (aP (Nat.le_refl _) (by simp[below])) ?_
   intro _ _
   simp-implicitDefEqProofs[]
   exact hst
  ·cases h0
  rw[List.length_map]
  refine AC.go fQ ?_
  simp-implicitDefEqProofs[dD]
  refine aq (fun a:FilS=>af 42 [(0,.sl id 4 0 l.length),(1,.p (.int .i64 ((k+3*aB (l.take a.i):Nat):Int))),(5,.p (.int .i64 a.i))]) (fun a=>a.h) (MkI h id 4 ((nR k l).map Ex.cs) (l.map Ex.cs) J) (fun a=>l.length-a.i) ⟨0,h⟩ (MkI.init hr) ?_ ?_
  ·exact aP (Nat.le_refl _) (by simp[below,aB,hr.lt])
  rintro⟨i,hh⟩ hI
  simp-implicitDefEqProofs[]
  refine aQ (fun h1=>?_) (fun h1=>?_)
  ·simp at h1
   have hg:=List.getElem?_eq_getElem h1
   have hP:=xS h1
   have hM:=Bc (List.getElem_mem h1)
   have hT:=Ar l (i+1)
   generalize l[i]=e at hg hP hM
   have hD:(l.map Ex.cs)[i]?=some e.cs:=by rw[List.getElem?_map,hg];rfl
   have hA:((nR k l).map Ex.cs)[i]?=some (mkE (k+3*aB (l.take i)) e).cs:=by rw[List.getElem?_map,zQ l k i e hg];rfl
   obtain⟨rows',r,Ji,s1,s2,s3,s4,s5,s6,s7⟩:=hI.step hD hA
   obtain⟨K,rfl,hK⟩:=Cj s3
   obtain⟨c1,c2⟩:=dO hK
   have q1:∀x,(hh.set id x)[id]?=some x:=fun x=>List.getElem?_set_self s5
   have q2:∀x,(rows'.set i x)[i]?=some x:=fun x=>List.getElem?_set_self s6
   have hnid:id∉Ji:=fun hm=>by rw[List.nodup_cons] at s4;exact s4.1 hm
   have hpe:=e.parts_eq
   have hmt:=ki G (k+3*aB (l.take i)+2) (by omega)
   generalize hkk:k+3*aB (l.take i)=kk at*
   have hkI:(k:Int)+3*(aB (l.take i):Int)=(kk:Int):=by omega
   have w0:IntKind.i64.wrap ((kk:Int)+1)=(kk:Int)+1:=al (by omega) (by omega)
   have w2:IntKind.i64.wrap ((kk:Int)+1+1)=(kk:Int)+1+1:=al (by omega) (by omega)
   have w3:IntKind.i64.wrap ((kk:Int)+1+1+1)=(kk:Int)+1+1+1:=al (by omega) (by omega)
   have hm2:VF Tryz.prog G aS [.p (.int .i64 ((kk:Int)+1+1))] (.p (.str (cZ (kk+2)))):=by
    have e:((kk+2:Nat):Int)=(kk:Int)+1+1:=by omega
    rw[←e];exact hmt
   have hIH:=fun h1 ho=>ih e.kids (by have:=e.parts_eq;omega) h1 K Ji (kk+3) ho (List.nodup_cons.1 s4).2 (by have:=e.parts_eq;omega)
   have e3:((kk+3:Nat):Int)=(kk:Int)+1+1+1:=by omega
   rw[e3] at hIH
   simp-implicitDefEqProofs[-AV.cells,-AV.isCell,jv,bB,cD,jr,bz,c1,c2,s1,s2,q1,q2,hkI,w0,w2,w3]
   refine⟨h1,?_⟩
   refine hm2.use ?_
   simp-implicitDefEqProofs[-AV.cells,-AV.isCell,jv,bB,cD,jr,bz,c1,c2,s1,s2,q1,q2,w3]
   refine⟨h1,(hIH _ (hK.set_out hnid _)).mono ?_⟩
   rintro r h2 ⟨rfl,o2,f2,l2⟩
   rw[List.length_set] at f2 l2
   have hgo:=s7 h2 [.p (.int .i64 kk),.p (.int .i64 ((kk+1:Nat):Int)),.p (.str (cZ (kk+2))),K] (by rw[f2 id s5 hnid,q1];simp) (fun j hj hn hm=>by rw[f2 j hj hm,List.getElem?_set_ne (fun e=>hn e.symm)]) (by rw[HQ];exact .p _ (fun _=>rfl) (.p _ (fun _=>rfl) (.p _ (fun _=>rfl) o2))) (Ex.cs_len _) l2
   have hid2:id<h2.length:=by omega
   have hwi:=w1 (i:=i) (by omega)
   have hkn:k+3*aB (l.take (i+1))=kk+3+3*aB e.kids:=by omega
   simp-implicitDefEqProofs[aa]
   refine⟨⟨i+1,h2⟩,hgo,by simp only;omega,aP hgo.2.2.2 ?_⟩
   simp[below,hid2,hwi]
   omega
  ·simp at h1
   have hie:i=l.length:=by have:=hI.1;simp at this;omega
   obtain⟨⟨rows2,d1⟩,d2,d3⟩:=hI.done (by simpa using h1) (by simp[ti])
   subst hie
   rw[List.take_length]
   simp-implicitDefEqProofs[]
   refine⟨by simp,?_,d2,d3⟩
   have:=d1.tree (n:=l.length) (by simp[ti])
   exact this
theorem xu{h:List AO}:∀{ps:List (List UInt8)} {vs:List AV} {J:List Nat},OwnL true h vs (ps.map PV.str) J→vs=ps.map (fun w=> .p (.str w))∧J=[]
 |[],vs,J,H=>by
  cases H
  exact⟨rfl,rfl⟩
 |w::r,vs,J,H=>by
  rw[List.map_cons] at H
  cases H with
  |p _ _ H=>
   obtain⟨e1,e2⟩:=xu H
   exact⟨by rw[e1];rfl,e2⟩
theorem td{α:Type}:∀{rows:List (List α)} {l:List α},rows.flatten=l→(∀e∈rows,e.length=1)→rows=l.map fun x=>[x]
 |[],l,e,_=>by subst e;rfl
 |r::rs,l,e,h=>by
  subst e
  have h1:=h r (by simp)
  match r,h1 with
  |[x],_=>
   have ih:=td (rows:=rs) rfl fun e he=>h e (by simp[he])
   rw[List.flatten_cons,List.singleton_append,List.map_cons,←ih]
theorem uL:∀ps:List (List UInt8),(ps.map fun w=>[PV.str w]).flatten=ps.map PV.str
 |[]=>rfl
 |w::r=>by rw[List.map_cons,List.flatten_cons,uL r];rfl
theorem GT(h:List AO)(v:AV)(I:List Nat)(ps:List (List UInt8))(k:Nat)(ho:OwnL true h [v] [aC ps] I)(nd:I.Nodup)(hk:k+ps.length≤1152921504606846976):
 AC Tryz.prog G cS [v,.p (.int .i64 k)] h (Mkd h v I (aC (jV k ps.length)) (.int .i64 ((k+ps.length:Nat):Int))):=by
 rcases ho.inv nd with⟨h0,rfl,rfl|rfl⟩|⟨h0,_⟩|⟨id,rows,J,rfl,rfl,hr⟩
 ·have hl0:ps=[]:=List.map_eq_nil_iff.1 h0
  subst hl0
  refine AC.go cT ?_
  have hst:Mkd h .nils [] (aC (jV k 0)) (.int .i64 ((k+0:Nat):Int)) (.ret (.p (.int .i64 k))) h:=⟨rfl,.nils 1 .nil,fun _ _ _=>rfl,Nat.le_refl _⟩
  simp-implicitDefEqProofs[cW]
  refine aq (fun _:Unit=>af 20 [(0,.nils),(1,.p (.int .i64 k)),(5,.p (.int .i64 0))]) (fun _=>h) (fun _=>True) (fun _=>0) () trivial (aP (Nat.le_refl _) (by simp[below])) ?_
  intro _ _
  simp-implicitDefEqProofs[]
  exact hst
 ·have hl0:ps=[]:=List.map_eq_nil_iff.1 h0
  subst hl0
  refine AC.go cT ?_
  have hst:Mkd h (.p (.lst 1 [])) [] (aC (jV k 0)) (.int .i64 ((k+0:Nat):Int)) (.ret (.p (.int .i64 k))) h:=⟨rfl,.p _ (fun _=>rfl) .nil,fun _ _ _=>rfl,Nat.le_refl _⟩
  simp-implicitDefEqProofs[cW]
  refine aq (fun _:Unit=>af 20 [(0,.p (.lst 1 [])),(1,.p (.int .i64 k)),(5,.p (.int .i64 0))]) (fun _=>h) (fun _=>True) (fun _=>0) () trivial (aP (Nat.le_refl _) (by simp[below])) ?_
  intro _ _
  simp-implicitDefEqProofs[]
  exact hst
 ·cases h0
 rw[List.length_map]
 have hfl:(ps.map fun w=>[PV.str w]).flatten=ps.map PV.str:=by
  exact uL ps
 have hown:=hr.own
 rw[hfl] at hown
 obtain⟨e1,e2⟩:=xu hown
 subst e2
 have e3:=td e1 hr.rl
 have hh:h[id]?=some (cJ ps):=by rw[hr.here,e3,List.map_map];rfl
 refine(uc G hh hk).mono ?_
 rintro x h' ⟨rfl,rfl⟩
 have hid:id<h.length:=hr.lt
 refine⟨rfl,uO (List.getElem?_set_self hid) (by simp[xr]),fun j hj hn=>?_,by simp⟩
 simp at hn
 exact List.getElem?_set_ne fun e=>hn e.symm
mutual
def Sm.mq:Sm→Nat
 | .mk _ _ a b e=>2+3*aB a+bN b+bN e
def bN:List Sm→Nat
 |[]=>0
 |s::r=>s.mq+bN r
end
mutual
def mkS(k:Nat):Sm→Sm
 | .mk _ _ a b e=> .mk k (cZ (k+1)) (nR (k+2) a) (lI (k+2+3*aB a) b) (lI (k+2+3*aB a+bN b) e)
def lI(k:Nat):List Sm→List Sm
 |[]=>[]
 |s::r=>mkS k s::lI (k+s.mq) r
end
theorem Sm.mq_eq(s:Sm):s.mq=2+3*aB s.args+bN s.body+bN s.els:=by cases s;rfl
theorem sY:∀a b:List Sm,bN (a++b)=bN a+bN b
 |[],b=>by simp[bN]
 |s::r,b=>by rw[List.cons_append,bN,bN,sY r b];omega
theorem rN:∀(l:List Sm) (k:Nat),(lI k l).length=l.length
 |[],k=>rfl
 |e::r,k=>by rw[lI,List.length_cons,rN r,List.length_cons]
theorem zA:∀(l:List Sm) (k i:Nat) (e:Sm),l[i]?=some e→(lI k l)[i]?=some (mkS (k+bN (l.take i)) e)
 |x::r,k,0,e,h=>by cases h;rfl
 |x::r,k,i+1,e,h=>by
  have:=zA r (k+x.mq) i e h
  rw[lI,List.getElem?_cons_succ,this,List.take_succ_cons,bN]
  congr 2
  omega
theorem He(k:Nat)(e:Sm):(mkS k e).cs=[.int .i64 k,.str (cZ (k+1)),exL (nR (k+2) e.args),smL (lI (k+2+3*aB e.args) e.body),smL (lI (k+2+3*aB e.args+bN e.body) e.els)]:=by
 obtain⟨o,s,a,b,el⟩:=e;rw[mkS,Sm.cs_eq];rfl
theorem Cc{l:List Sm}{i:Nat}(h:i<l.length):bN (l.take (i+1))=bN (l.take i)+l[i].mq:=by
 rw[ah h,sY];simp[bN]
theorem vI(l:List Sm)(i:Nat):bN (l.take i)≤bN l:=by
 have e:bN l=bN (l.take i)+bN (l.drop i):=by rw[←sY,List.take_append_drop]
 omega
theorem CS{l:List Sm}{e:Sm}(h:e∈l):e.mq≤bN l:=by
 induction l with
 |nil=>cases h
 |cons x r ih=>
  rw[bN]
  rcases List.mem_cons.1 h with rfl|h
  ·omega
  ·have:=ih h;omega
theorem Ey(l:List Sm):l.length≤bN l:=by
 induction l with
 |nil=>exact Nat.le_refl _
 |cons x r ih=>have:=x.mq_eq;rw[bN,List.length_cons];omega
theorem xN:∀(N:Nat) (l:List Sm),bN l<N→∀(h:List AO) (v:AV) (I:List Nat) (k:Nat),OwnL true h [v] [smL l] I→I.Nodup→k+bN l≤1152921504606846976→
 AC Tryz.prog G cG [v,.p (.int .i64 k)] h (Mkd h v I (smL (lI k l)) (.int .i64 ((k+bN l:Nat):Int))):=by
 intro N
 induction N with
 |zero=>intro l hl;omega
 |succ N ih=>
  intro l hl h v I k ho nd hk
  have hll:=Ey l
  rcases ho.inv nd with⟨h0,rfl,rfl|rfl⟩|⟨h0,_⟩|⟨id,rows,J,rfl,rfl,hr⟩
  ·have hl0:l=[]:=List.map_eq_nil_iff.1 h0
   subst hl0
   refine AC.go fN ?_
   have hst:Mkd h .nils [] (smL (lI k [])) (.int .i64 ((k+bN []:Nat):Int)) (.ret (.p (.int .i64 k))) h:=⟨rfl,.nils 5 .nil,fun _ _ _=>rfl,Nat.le_refl _⟩
   simp-implicitDefEqProofs[dJ]
   refine aq (fun _:Unit=>af 49 [(0,.nils),(1,.p (.int .i64 k)),(5,.p (.int .i64 0))]) (fun _=>h) (fun _=>True) (fun _=>0) () trivial (aP (Nat.le_refl _) (by simp[below])) ?_
   intro _ _
   simp-implicitDefEqProofs[]
   exact hst
  ·have hl0:l=[]:=List.map_eq_nil_iff.1 h0
   subst hl0
   refine AC.go fN ?_
   have hst:Mkd h (.p (.lst 5 [])) [] (smL (lI k [])) (.int .i64 ((k+bN []:Nat):Int)) (.ret (.p (.int .i64 k))) h:=⟨rfl,.p _ (fun _=>rfl) .nil,fun _ _ _=>rfl,Nat.le_refl _⟩
   simp-implicitDefEqProofs[dJ]
   refine aq (fun _:Unit=>af 49 [(0,(.p (.lst 5 []))),(1,.p (.int .i64 k)),(5,.p (.int .i64 0))]) (fun _=>h) (fun _=>True) (fun _=>0) () trivial (aP (Nat.le_refl _) (by simp[below])) ?_
   intro _ _
   simp-implicitDefEqProofs[]
   exact hst
  ·cases h0
  rw[List.length_map]
  refine AC.go fN ?_
  simp-implicitDefEqProofs[dJ]
  refine aq (fun a:FilS=>af 49 [(0,.sl id 5 0 l.length),(1,.p (.int .i64 ((k+bN (l.take a.i):Nat):Int))),(5,.p (.int .i64 a.i))]) (fun a=>a.h) (MkI h id 5 ((lI k l).map Sm.cs) (l.map Sm.cs) J) (fun a=>l.length-a.i) ⟨0,h⟩ (MkI.init hr) ?_ ?_
  ·exact aP (Nat.le_refl _) (by simp[below,bN,hr.lt])
  rintro⟨i,hh⟩ hI
  simp-implicitDefEqProofs[]
  refine aQ (fun h1=>?_) (fun h1=>?_)
  ·simp at h1
   have hg:=List.getElem?_eq_getElem h1
   have hP:=Cc h1
   have hM:=CS (List.getElem_mem h1)
   have hT:=vI l (i+1)
   generalize l[i]=e at hg hP hM
   have hD:(l.map Sm.cs)[i]?=some e.cs:=by rw[List.getElem?_map,hg];rfl
   have hA:((lI k l).map Sm.cs)[i]?=some (mkS (k+bN (l.take i)) e).cs:=by rw[List.getElem?_map,zA l k i e hg];rfl
   obtain⟨rows',r,Ji,s1,s2,s3,s4,s5,s6,s7⟩:=hI.step hD hA
   obtain⟨A,B,E,I1,I2,I3,rfl,rfl,oA,oB,oE⟩:=Dh s3
   obtain⟨c1,c2⟩:=dO oA
   obtain⟨c3,c4⟩:=dO oB
   obtain⟨c5,c6⟩:=dO oE
   have q1:∀x,(hh.set id x)[id]?=some x:=fun x=>List.getElem?_set_self s5
   have q2:∀x,(rows'.set i x)[i]?=some x:=fun x=>List.getElem?_set_self s6
   rw[List.nodup_cons] at s4
   obtain⟨hnid,n123⟩:=s4
   simp only[List.mem_append,not_or] at hnid
   obtain⟨x1,x2,x3⟩:=hnid
   obtain⟨n1,n23,d123⟩:=List.nodup_append.1 n123
   obtain⟨n2,n3,d23⟩:=List.nodup_append.1 n23
   have hpe:=e.mq_eq
   have hmt:=ki G (k+bN (l.take i)+1) (by omega)
   generalize hkk:k+bN (l.take i)=kk at*
   have hkI:(k:Int)+(bN (l.take i):Int)=(kk:Int):=by omega
   have w0:IntKind.i64.wrap ((kk:Int)+1)=(kk:Int)+1:=al (by omega) (by omega)
   have w2:IntKind.i64.wrap ((kk:Int)+1+1)=(kk:Int)+1+1:=al (by omega) (by omega)
   have hm2:VF Tryz.prog G aS [.p (.int .i64 ((kk:Int)+1))] (.p (.str (cZ (kk+1)))):=by
    have e:((kk+1:Nat):Int)=(kk:Int)+1:=by omega
    rw[←e];exact hmt
   have e2:((kk+2:Nat):Int)=(kk:Int)+1+1:=by omega
   have mA:=fun h1 ho=>wA G (aB e.args+1) e.args (by omega) h1 A I1 (kk+2) ho n1 (by omega)
   have mB:=fun h1 ho=>ih e.body (by omega) h1 B I2 (kk+2+3*aB e.args) ho n2 (by omega)
   have mE:=fun h1 ho=>ih e.els (by omega) h1 E I3 (kk+2+3*aB e.args+bN e.body) ho n3 (by omega)
   rw[e2] at mA
   simp-implicitDefEqProofs[-AV.cells,-AV.isCell,jv,bB,cD,jr,bz,c1,c2,c3,c4,c5,c6,s1,s2,q1,q2,hkI,w0,w2]
   refine⟨h1,?_⟩
   refine hm2.use ?_
   simp-implicitDefEqProofs[-AV.cells,-AV.isCell,jv,bB,cD,jr,bz,c1,c2,c3,c4,c5,c6,s1,s2,q1,q2,w2]
   refine⟨h1,(mA _ (oA.set_out x1 _)).mono ?_⟩
   rintro r h2 ⟨rfl,o2,f2,l2⟩
   rw[List.length_set] at f2 l2
   have g2:h2[id]?=some (.row 5 (rows'.set i [.p (.int .i64 kk),.p (.str (cZ (kk+1))),A,B,E])):=by rw[f2 id s5 x1,q1]
   simp-implicitDefEqProofs[-AV.cells,-AV.isCell,jv,bB,cD,jr,bz,c1,c2,c3,c4,c5,c6,aa,g2,q2]
   have oB2:OwnL true h2 [B] [smL e.body] I2:=oB.frame fun j hj=>by
    have hne:id≠j:=fun e=>x2 (by rw[e];exact hj)
    rw[f2 j (oB.lt hj) (fun hm=>d123 j hm j (List.mem_append_left _ hj) rfl),List.getElem?_set_ne hne]
   refine⟨h1,(mB _ oB2).mono ?_⟩
   rintro r h3 ⟨rfl,o3,f3,l3⟩
   have g3:h3[id]?=some (.row 5 (rows'.set i [.p (.int .i64 kk),.p (.str (cZ (kk+1))),A,B,E])):=by rw[f3 id (by omega) x2,g2]
   simp-implicitDefEqProofs[-AV.cells,-AV.isCell,jv,bB,cD,jr,bz,c1,c2,c3,c4,c5,c6,aa,g3,q2]
   have oE3:OwnL true h3 [E] [smL e.els] I3:=oE.frame fun j hj=>by
    have:=oE.lt hj
    have hne:id≠j:=fun e=>x3 (by rw[e];exact hj)
    rw[f3 j (by omega) (fun hm=>d23 j hm j hj rfl),f2 j this (fun hm=>d123 j hm j (List.mem_append_right _ hj) rfl),List.getElem?_set_ne hne]
   refine⟨h1,(mE _ oE3).mono ?_⟩
   rintro r h4 ⟨rfl,o4,f4,l4⟩
   have hid4:id<h4.length:=by omega
   have hwi:=w1 (i:=i) (by omega)
   have hkn:k+bN (l.take (i+1))=kk+2+3*aB e.args+bN e.body+bN e.els:=by omega
   have oA4:OwnL true h4 [A] [exL (nR (kk+2) e.args)] I1:=o2.frame fun j hj=>by
    have:=o2.lt hj
    rw[f4 j (by omega) (fun hm=>d123 j hj j (List.mem_append_right _ hm) rfl),f3 j this (fun hm=>d123 j hj j (List.mem_append_left _ hm) rfl)]
   have oB4:OwnL true h4 [B] [smL (lI (kk+2+3*aB e.args) e.body)] I2:=o3.frame fun j hj=>by
    have:=o3.lt hj
    rw[f4 j this (fun hm=>d23 j hj j hm rfl)]
   have hgo:=s7 h4 [.p (.int .i64 kk),.p (.str (cZ (kk+1))),A,B,E] (by rw[f4 id (by omega) x3,g3]) (fun j hj hn hm=>by
    simp only[List.mem_append,not_or] at hm
    rw[f4 j (by omega) hm.2.2,f3 j (by omega) hm.2.1,f2 j hj hm.1,List.getElem?_set_ne (fun e=>hn e.symm)]) (by
    rw[He];exact .p _ (fun _=>rfl) (.p _ (fun _=>rfl) (oA4.app (oB4.app o4)))) (Sm.cs_len _) (by omega)
   simp-implicitDefEqProofs[aa]
   refine⟨⟨i+1,h4⟩,hgo,by simp only;omega,aP hgo.2.2.2 ?_⟩
   simp[below,hid4,hwi]
   omega
  ·simp at h1
   have hie:i=l.length:=by have:=hI.1;simp at this;omega
   obtain⟨⟨rows2,d1⟩,d2,d3⟩:=hI.done (by simpa using h1) (by simp[rN])
   subst hie
   rw[List.take_length]
   simp-implicitDefEqProofs[]
   refine⟨by simp,?_,d2,d3⟩
   have:=d1.tree (n:=l.length) (by simp[rN])
   exact this
def Fd.mq(f:Fd):Nat:=1+f.params.length+bN f.body
def cC(l:List Fd):Nat:=(l.map Fd.mq).sum
def mkF(k:Nat)(f:Fd):Fd:=⟨cZ k,jV (k+1) f.params.length,lI (k+1+f.params.length) f.body⟩
def tn(k:Nat):List Fd→List Fd
 |[]=>[]
 |s::r=>mkF k s::tn (k+s.mq) r
theorem xq(a b:List Fd):cC (a++b)=cC a+cC b:=by simp[cC]
theorem tv:∀(l:List Fd) (k:Nat),(tn k l).length=l.length
 |[],k=>rfl
 |e::r,k=>by rw[tn,List.length_cons,tv r,List.length_cons]
theorem Af:∀(l:List Fd) (k i:Nat) (e:Fd),l[i]?=some e→(tn k l)[i]?=some (mkF (k+cC (l.take i)) e)
 |x::r,k,0,e,h=>by cases h;rfl
 |x::r,k,i+1,e,h=>by
  have:=Af r (k+x.mq) i e h
  have e1:cC (x::r.take i)=x.mq+cC (r.take i):=by simp[cC]
  rw[tn,List.getElem?_cons_succ,this,List.take_succ_cons,e1]
  congr 2
  omega
theorem Hl(k:Nat)(e:Fd):(mkF k e).cs=[.str (cZ k),aC (jV (k+1) e.params.length),smL (lI (k+1+e.params.length) e.body)]:=rfl
theorem BB{l:List Fd}{i:Nat}(h:i<l.length):cC (l.take (i+1))=cC (l.take i)+l[i].mq:=by
 rw[ah h,xq];simp[cC]
theorem vh(l:List Fd)(i:Nat):cC (l.take i)≤cC l:=by
 have e:cC l=cC (l.take i)+cC (l.drop i):=by rw[←xq,List.take_append_drop]
 omega
theorem Df{l:List Fd}{e:Fd}(h:e∈l):e.mq≤cC l:=by
 induction l with
 |nil=>cases h
 |cons x r ih=>
  have e1:cC (x::r)=x.mq+cC r:=by simp[cC]
  rw[e1]
  rcases List.mem_cons.1 h with rfl|h
  ·omega
  ·have:=ih h;omega
theorem DH(l:List Fd):l.length≤cC l:=by
 induction l with
 |nil=>exact Nat.zero_le _
 |cons x r ih=>
  have e1:cC (x::r)=x.mq+cC r:=by simp[cC]
  have e2:x.mq=1+x.params.length+bN x.body:=rfl
  rw[e1,List.length_cons];omega
theorem AN(l:List Fd)(h:List AO)(v:AV)(I:List Nat)(k:Nat)(ho:OwnL true h [v] [fdL l] I)(nd:I.Nodup)(hk:k+cC l≤1152921504606846976):
 AC Tryz.prog G hY [v,.p (.int .i64 k)] h (Mkd h v I (fdL (tn k l)) (.int .i64 ((k+cC l:Nat):Int))):=by
 have hll:=DH l
 rcases ho.inv nd with⟨h0,rfl,rfl|rfl⟩|⟨h0,_⟩|⟨id,rows,J,rfl,rfl,hr⟩
 ·have hl0:l=[]:=List.map_eq_nil_iff.1 h0
  subst hl0
  refine AC.go iP ?_
  have hst:Mkd h .nils [] (fdL (tn k [])) (.int .i64 ((k+cC []:Nat):Int)) (.ret (.p (.int .i64 k))) h:=⟨rfl,.nils 3 .nil,fun _ _ _=>rfl,Nat.le_refl _⟩
  simp-implicitDefEqProofs[fe]
  refine aq (fun _:Unit=>af 35 [(0,.nils),(1,.p (.int .i64 k)),(5,.p (.int .i64 0))]) (fun _=>h) (fun _=>True) (fun _=>0) () trivial (aP (Nat.le_refl _) (by simp[below])) ?_
  intro _ _
  simp-implicitDefEqProofs[]
  exact hst
 ·have hl0:l=[]:=List.map_eq_nil_iff.1 h0
  subst hl0
  refine AC.go iP ?_
  have hst:Mkd h (.p (.lst 3 [])) [] (fdL (tn k [])) (.int .i64 ((k+cC []:Nat):Int)) (.ret (.p (.int .i64 k))) h:=⟨rfl,.p _ (fun _=>rfl) .nil,fun _ _ _=>rfl,Nat.le_refl _⟩
  simp-implicitDefEqProofs[fe]
  refine aq (fun _:Unit=>af 35 [(0,(.p (.lst 3 []))),(1,.p (.int .i64 k)),(5,.p (.int .i64 0))]) (fun _=>h) (fun _=>True) (fun _=>0) () trivial (aP (Nat.le_refl _) (by simp[below])) ?_
  intro _ _
  simp-implicitDefEqProofs[]
  exact hst
 ·cases h0
 rw[List.length_map]
 refine AC.go iP ?_
 simp-implicitDefEqProofs[fe]
 refine aq (fun a:FilS=>af 35 [(0,.sl id 3 0 l.length),(1,.p (.int .i64 ((k+cC (l.take a.i):Nat):Int))),(5,.p (.int .i64 a.i))]) (fun a=>a.h) (MkI h id 3 ((tn k l).map Fd.cs) (l.map Fd.cs) J) (fun a=>l.length-a.i) ⟨0,h⟩ (MkI.init hr) ?_ ?_
 ·exact aP (Nat.le_refl _) (by simp[below,cC,hr.lt])
 rintro⟨i,hh⟩ hI
 simp-implicitDefEqProofs[]
 refine aQ (fun h1=>?_) (fun h1=>?_)
 ·simp at h1
  have hg:=List.getElem?_eq_getElem h1
  have hP:=BB h1
  have hM:=Df (List.getElem_mem h1)
  have hT:=vh l (i+1)
  generalize l[i]=e at hg hP hM
  have hD:(l.map Fd.cs)[i]?=some e.cs:=by rw[List.getElem?_map,hg];rfl
  have hA:((tn k l).map Fd.cs)[i]?=some (mkF (k+cC (l.take i)) e).cs:=by rw[List.getElem?_map,Af l k i e hg];rfl
  obtain⟨rows',r,Ji,s1,s2,s3,s4,s5,s6,s7⟩:=hI.step hD hA
  obtain⟨A,B,I1,I2,rfl,rfl,oA,oB⟩:=DF s3
  obtain⟨c1,c2⟩:=dO oA
  obtain⟨c3,c4⟩:=dO oB
  have q1:∀x,(hh.set id x)[id]?=some x:=fun x=>List.getElem?_set_self s5
  have q2:∀x,(rows'.set i x)[i]?=some x:=fun x=>List.getElem?_set_self s6
  rw[List.nodup_cons] at s4
  obtain⟨hnid,n12⟩:=s4
  simp only[List.mem_append,not_or] at hnid
  obtain⟨x1,x2⟩:=hnid
  obtain⟨n1,n2,d12⟩:=List.nodup_append.1 n12
  have hpe:e.mq=1+e.params.length+bN e.body:=rfl
  have hmt:=ki G (k+cC (l.take i)) (by omega)
  generalize hkk:k+cC (l.take i)=kk at*
  have hkI:(k:Int)+(cC (l.take i):Int)=(kk:Int):=by omega
  have w0:IntKind.i64.wrap ((kk:Int)+1)=(kk:Int)+1:=al (by omega) (by omega)
  have e2:((kk+1:Nat):Int)=(kk:Int)+1:=by omega
  have mA:=fun h1 ho=>GT G h1 A I1 e.params (kk+1) ho n1 (by omega)
  have mB:=fun h1 ho=>xN G (bN e.body+1) e.body (by omega) h1 B I2 (kk+1+e.params.length) ho n2 (by omega)
  rw[e2] at mA
  simp-implicitDefEqProofs[-AV.cells,-AV.isCell,jv,bB,cD,jr,bz,c1,c2,c3,c4,s1,s2,q1,q2,hkI,w0]
  refine hmt.use ?_
  simp-implicitDefEqProofs[-AV.cells,-AV.isCell,jv,bB,cD,jr,bz,c1,c2,c3,c4,s1,s2,q1,q2,w0]
  refine⟨h1,(mA _ (oA.set_out x1 _)).mono ?_⟩
  rintro r h2 ⟨rfl,o2,f2,l2⟩
  rw[List.length_set] at f2 l2
  have g2:h2[id]?=some (.row 3 (rows'.set i [.p (.str (cZ kk)),A,B])):=by rw[f2 id s5 x1,q1]
  simp-implicitDefEqProofs[-AV.cells,-AV.isCell,jv,bB,cD,jr,bz,c1,c2,c3,c4,aa,g2,q2]
  have oB2:OwnL true h2 [B] [smL e.body] I2:=oB.frame fun j hj=>by
   have hne:id≠j:=fun e=>x2 (by rw[e];exact hj)
   rw[f2 j (oB.lt hj) (fun hm=>d12 j hm j hj rfl),List.getElem?_set_ne hne]
  refine⟨h1,(mB _ oB2).mono ?_⟩
  rintro r h3 ⟨rfl,o3,f3,l3⟩
  have hid3:id<h3.length:=by omega
  have hwi:=w1 (i:=i) (by omega)
  have hkn:k+cC (l.take (i+1))=kk+1+e.params.length+bN e.body:=by omega
  have oA3:OwnL true h3 [A] [aC (jV (kk+1) e.params.length)] I1:=o2.frame fun j hj=>by
   have:=o2.lt hj
   rw[f3 j this (fun hm=>d12 j hj j hm rfl)]
  have hgo:=s7 h3 [.p (.str (cZ kk)),A,B] (by rw[f3 id (by omega) x2,g2]) (fun j hj hn hm=>by
   simp only[List.mem_append,not_or] at hm
   rw[f3 j (by omega) hm.2,f2 j hj hm.1,List.getElem?_set_ne (fun e=>hn e.symm)]) (by
   rw[Hl];exact .p _ (fun _=>rfl) (oA3.app o3)) (Fd.cs_len _) (by omega)
  simp-implicitDefEqProofs[aa]
  refine⟨⟨i+1,h3⟩,hgo,by simp only;omega,aP hgo.2.2.2 ?_⟩
  simp[below,hid3,hwi]
  omega
 ·simp at h1
  have hie:i=l.length:=by have:=hI.1;simp at this;omega
  obtain⟨⟨rows2,d1⟩,d2,d3⟩:=hI.done (by simpa using h1) (by simp[tv])
  subst hie
  rw[List.take_length]
  simp-implicitDefEqProofs[]
  refine⟨by simp,?_,d2,d3⟩
  have:=d1.tree (n:=l.length) (by simp[tv])
  exact this
theorem tP(l:List Fd)(h:List AO)(v:AV)(I:List Nat)(k:Nat)(ho:OwnL true h [v] [fdL l] I)(nd:I.Nodup)(hk:k+cC l≤1152921504606846976):
 AC Tryz.prog G eU [.agg [v],.p (.int .i64 k)] h (Mkd h v I (fdL (tn k l)) (.int .i64 ((k+cC l:Nat):Int))):=by
 obtain⟨c1,c2⟩:=dO ho
 have hm:=AN G l (h++[.row 1 [[v]]]) v I k (ho.more _) nd hk
 refine AC.go nC ?_
 simp-implicitDefEqProofs[-AV.cells,-AV.isCell,jv,bB,cD,jr,bz,c1,c2,ik]
 refine hm.mono ?_
 rintro r h2 ⟨rfl,o2,f2,l2⟩
 simp-implicitDefEqProofs[aa]
 rw[List.length_append] at f2 l2
 refine⟨by simp,o2,fun j hj hn=>?_,by omega⟩
 rw[f2 j (by omega) hn,List.getElem?_append_left hj]
end Go.Proofs.YtnjbhgpbgmpkcaaGreatDoor
namespace Go.Proofs.YtnjbhgpbgmpkcaaGreatDoor
open Go Go.Aw
set_option maxRecDepth 100000
set_option maxHeartbeats 4000000
abbrev Fr:Nat:=0
def FG:List PV:=[.int .i64 0,.int .i64 0,.int .i64 0,.int .i64 1,.int .i64 2,.int .i64 3,.int .i64 255,.int .i64 16,.int .i64 7]
variable (G:aw)
end Go.Proofs.YtnjbhgpbgmpkcaaGreatDoor
namespace Go.Proofs.YtnjbhgpbgmpkcaaGreatDoor
open Go Go.Aw
set_option maxRecDepth 100000
set_option maxHeartbeats 4000000
variable (G:aw)
variable (hT:G Fr=some FG)
include hT
omit hT
theorem pG{h:List AO}{id:Nat}{l:List Int}(e:h[id]?=some (nS l)){n:Nat}(hn:n=l.length):OwnL true h [.sl id 1 0 n] [eM l] [id]:=by
 subst hn
 have hf:∀l:List Int,OwnL true h (l.map fun w=>[AV.p (.int .i64 w)]).flatten (l.map fun w=>[PV.int .i64 w]).flatten []:=by
  intro l
  induction l with
  |nil=>exact .nil
  |cons w r ih=>exact .p _ (fun _=>rfl) ih
 have:RowOwn true h id 1 (l.map fun w=>[.p (.int .i64 w)]) (l.map fun w=>[.int .i64 w]) []:=⟨e,by simp,by simp,by simp,hf l,by simp⟩
 exact this.tree (by simp)
include hT
end Go.Proofs.YtnjbhgpbgmpkcaaGreatDoor
namespace Go.Proofs.YtnjbhgpbgmpkcaaGreatDoor
open Go Go.Aw
set_option maxRecDepth 100000
set_option maxHeartbeats 4000000
theorem AC.shelfNil{P:Program}{G:aw}{f:FuncId}{h:List AO}{rv:AV}{r:Value}(hf:ee P f=true)(hr:∀(W:World) (S:Nat→Prop) (φ:Aw.Place) (n:Nat),VRel W S φ n rv r)
 (H:∀W:World,Calls P f #[.slice none 0 0] W fun e W'=>e= .returned r∧W'=W):AC P G f [.nils] h fun x h'=>x= .ret rv∧h'=h:=by
 refine⟨hf,fun W S φ vs hH hA=>?_⟩
 have hs1:vs.size=1:=hA.1
 obtain⟨v0,rfl⟩:∃v0,vs=#[v0]:=⟨vs[0],by
  apply Array.ext
  ·simp[hs1]
  ·intro i h1 h2
   have:i=0:=by omega
   subst this;rfl⟩
 have hv:=hA.2 0 _ v0 rfl rfl
 cases hv
 refine(H W).mono ?_
 rintro e W' ⟨rfl,rfl⟩
 exact⟨.ret rv,S,φ,h,⟨rfl,rfl⟩,hH,.ret _ _ (hr _ _ _ _),Keep.refl hH⟩
theorem jT:∀h:List AO,Cuts h h
 |[]=>trivial
 |_::r=>⟨.inl rfl,jT r⟩
theorem wb:∀{h:List AO} {id sz:Nat} {es:List (List AV)} (k:Nat),h[id]?=some (.row sz es)→Cuts h (h.set id (.row sz (es.take k)))
 |[],_,_,_,_,e=>by simp at e
 |o::r,0,sz,es,k,e=>by
  simp at e;subst e
  exact⟨.inr ⟨sz,es,k,rfl,rfl⟩,jT r⟩
 |o::r,id+1,sz,es,k,e=>⟨.inl rfl,wb k (by simpa using e)⟩
variable (G:aw)
theorem uA(h:List AO):AC Tryz.prog G (lays189_ren.f 189) [.nils] h fun x h'=>x= .ret (.tup [])∧h'=h:=
 AC.shelfNil (r:= .tuple #[]) (by kernel_rfl) (fun _ _ _ _=> .tup [] #[] rfl (fun j c v e=>by simp at e)) fun W=>Any.slices_Sort_int_none zS none 0 W
theorem vn(h:List AO):AC Tryz.prog G (lays20_ren.f 20) [.nils] h fun x h'=>x= .ret .nils∧h'=h:=
 AC.shelfNil (r:= .slice none 0 0) (by kernel_rfl) (fun _ _ _ _=> .nils) fun W=>Any.slices_Compact_int_empty Dw none 0 W
def tg(l:List Fd)(out:List Int)(x:Sm × Nat):List Int:=(bC x.1.args).foldl (eL l) out
theorem zH{out:List Int}{a b:Nat}(h:ko out b)(hab:a≤b):ko out a:=by unfold ko at*;omega
theorem ta(l:List Fd):∀out (s:Sm) (d k:Nat),ko out (k+s.own)→ko (tg l out (s,d)) k:=by
 intro out s d k h
 have:=oZ s.args
 exact lF (nD l) s.args out k (zH h (by unfold Sm.own;omega))
theorem wQ(l:List Fd)(hl:l.length≤1073741824):∀out (s:Sm) (d k id:Nat) h,ko out (k+s.own)→s.sz≤1073741824→Al l out id h→
 AC Tryz.prog G cL (.agg (s.cs.map .p):: .p (.int .i64 (d:Nat))::[.ptr 1 1 0 0,.ptr 0 1 0 0]) h fun x h'=>x= .ret (.tup [])∧(cHV cL l).Left id h (tg l out (s,d)) h':=by
 intro out s d k id h hk hz hI
 have hcs:=s.cs_eq
 have hsz:=s.sz_eq
 have hal:=aW s.args
 have hap:=oZ s.args
 have hxl:exL s.args= .lst 4 (s.args.map Ex.cs):=rfl
 have hlen:=(cHV aA l).len hI
 have hn2:2≤h.length:=hlen.1
 have hid:id<h.length:=hlen.2
 have hk0:ko out (k+aB s.args):=zH hk (by unfold Sm.own;omega)
 refine AC.go qg ?_
 simp-implicitDefEqProofs[jL,hcs,hxl]
 refine aq (fun a:HS=>af 19 [(2,.ptr 1 1 0 0),(3,.ptr 0 1 0 0),(9,.p (exL s.args)),(10,.p (.int .i64 s.args.length)),(11,.p (.int .i64 a.i))])
  (fun a=>a.h) (fun a=>a.i≤s.args.length∧Al l ((bC (s.args.take a.i)).foldl (eL l) out) a.id a.h∧h.length<a.h.length∧(∀i,i<h.length→2≤i→i≠id→a.h[i]?=h[i]?)∧(a.id=id∨h.length≤a.id)) (fun a=>s.args.length-a.i) ⟨0,id,h++[.row 5 [[.p (.int .i64 s.op),.p (.str s.name),.p (exL s.args),.p (smL s.body),.p (smL s.els)]]]⟩ ⟨Nat.zero_le _,(cHV aA l).more hI _,by simp,fun i a1 a2 a3=>List.getElem?_append_left a1,.inl rfl⟩ ?_ ?_
 ·exact aP (by simp) (by simp[below,hxl];omega)
 rintro⟨i,idc,hc⟩ ⟨hil,hIc,hlc,hkc,hic⟩
 simp only at hil hIc hlc hkc hic
 simp-implicitDefEqProofs[hxl]
 refine aQ (fun hcc=>?_) (fun hcc=>?_)
 ·simp at hcc
  have hg:=List.getElem?_eq_getElem hcc
  have hks:=aO (List.getElem_mem hcc)
  have hkc2:=s.args[i].cs_eq
  have hT:s.args.take (i+1)=s.args.take i++[s.args[i]]:=ah hcc
  have hsum:aB s.args=aB (s.args.take i)+(s.args[i].parts+aB (s.args.drop (i+1))):=by
   have e1:aB s.args=aB (s.args.take i)+aB (s.args.drop i):=by rw[←cu,List.take_append_drop]
   have e2:aB (s.args.drop i)=s.args[i].parts+aB (s.args.drop (i+1)):=by rw[List.drop_eq_getElem_cons hcc,aB]
   omega
  have hic2:ko ((bC (s.args.take i)).foldl (eL l) out) (k+aB (s.args.drop (i+1))+s.args[i].parts):=
   lF (nD l) _ _ _ (by rw[show k+aB (s.args.drop (i+1))+s.args[i].parts+aB (s.args.take i)=k+aB s.args by omega];exact hk0)
  have hA:=fun os=>DK G (cHV aA l) (eL l) ko 1073741824 (Nat.le_refl _) (nD l) (ue G l hl) 1073741825 s.args[i] (by omega) (by omega) _ _ idc (hc++os) hic2 ((cHV aA l).more hIc os)
  have hf:(bC (s.args.take (i+1))).foldl (eL l) out=s.args[i].pre.foldl (eL l) ((bC (s.args.take i)).foldl (eL l) out):=by
   rw[hT,jU,List.foldl_append,bC,bC,List.append_nil]
  have hF:(cHV aA l).F=aA:=rfl
  have hC:(cHV aA l).caps=[.ptr 1 1 0 0,.ptr 0 1 0 0]:=rfl
  rw[hkc2,hF,hC] at hA
  simp-implicitDefEqProofs[hg,hkc2]
  refine(hA _).mono ?_
  rintro r h3 ⟨rfl,id3,M1,M2,M3,M4⟩
  rw[List.length_append] at M2 M3 M4
  simp only[List.length_cons,List.length_nil] at M2 M3 M4
  have M3':∀i,i<hc.length+(0+1)→2≤i→i≠idc→h3[i]?=_:=M3
  simp-implicitDefEqProofs[aa]
  refine⟨⟨i+1,id3,h3⟩,⟨hcc,by rw[hf];exact M1,by show h.length<h3.length;omega,fun j a1 a2 a3=>?_,?_⟩,by show s.args.length-(i+1)<s.args.length-i;omega,aP (by show h.length≤h3.length;omega) ?_⟩
  ·show h3[j]?=h[j]?
   rw[M3' j (by omega) a2 (by omega),List.getElem?_append_left (by omega),hkc j a1 a2 a3]
  ·show id3=id∨h.length≤id3
   omega
  ·simp[below,hxl,w1 (i:=i) (by omega)]
   omega
 ·simp at hcc
  have hie:i=s.args.length:=by omega
  subst hie
  rw[List.take_length] at hIc
  simp-implicitDefEqProofs[]
  exact⟨idc,hIc,by omega,hkc,by omega⟩
theorem tt(l:List Fd):∀(xs:List (Sm × Nat)) (out:List Int),xs.foldl (tg l) out=(xs.flatMap fun x=>bC x.1.args).foldl (eL l) out
 |[],out=>rfl
 |x::r,out=>by rw[List.foldl_cons,tt l r,List.flatMap_cons,List.foldl_append];rfl
theorem qt(l:List Fd)(bd:List Sm):(aJ 1 bd).foldl (tg l) []=iA l bd:=by
 rw[tt,sG];rfl
def rm(l:List Fd)(bd:List Sm):List Int:=Lib.compact ((iA l bd).mergeSort fun x y=>decide (x≤y))
theorem Ca(l:List Fd)(hz:bL l≤1073741824){k:Nat}{f:Fd}(hk:l[k]?=some f):AC Tryz.prog G dy [.agg [.p (fdL l)],.p (.int .i64 k)] [] (MkW dk true [eM (rm l f.body)]):=by
 have hll:=br l
 have hfm:=dc (List.mem_of_getElem? hk)
 have hfz:f.sz=1+f.name.length+(f.params.length+(f.params.map List.length).sum)+au f.body:=rfl
 have hfl:fdL l= .lst 3 (l.map Fd.cs):=rfl
 have hcs:f.cs=[.str f.name,aC f.params,smL f.body]:=rfl
 have hin:∀xs,dN xs=nS xs:=fun _=>rfl
 generalize hS:(iA l f.body).mergeSort (fun x y=>decide (x≤y))=S
 have hSl:S.length=(iA l f.body).length:=by rw[←hS,List.length_mergeSort]
 have hcl:=xo S
 have hcnt:ko (iA l f.body) 0:=by
  rw[←qt]
  exact mD (ta l) f.body 1 [] 0 (by unfold ko;simp;omega)
 have hnum:(iA l f.body).length≤1099511627776:=by unfold ko at hcnt;omega
 have key:AC Tryz.prog G dy [.agg [.p (fdL l)],.p (.int .i64 k)] [] fun x h=>(x= .ret .nils∧iA l f.body=[])∨∃id t,x= .ret (.sl id 1 0 (Lib.compact S).length)∧h[id]?=some (dN (Lib.compact S++t)):=by
  refine AC.go sg ?_
  simp-implicitDefEqProofs[lA,hfl,hk,hcs]
  refine(Du G (cHV cL l) (tg l) ko 1073741824 (Nat.le_refl _) (ta l) (fun st s d k id h=>wQ G l (by omega) st s d k id h) 1073741825 f.body (by omega) (by omega) 1 (by omega) [] 0 0 [.row 1 [[.p (fdL l)]],.row 1 [[.nils]]] (by unfold ko;simp;omega) ⟨rfl,by simp,.inl ⟨rfl,rfl,rfl⟩⟩).mono ?_
  rintro r h ⟨rfl,id,L1,L2,L3,L4⟩
  rw[qt] at L1
  obtain⟨h0,h2,⟨hn,rfl,h1⟩|⟨hn,hid,h1,hr⟩⟩:Al l (iA l f.body) id h:=L1
  ·simp-implicitDefEqProofs[aa,h1]
   refine(uA G h).mono ?_
   rintro r h' ⟨rfl,rfl⟩
   simp-implicitDefEqProofs[aa,h1]
   refine(vn G h').mono ?_
   rintro r h'' ⟨rfl,rfl⟩
   simp-implicitDefEqProofs[aa]
   exact hn
  ·have hidl:=(List.getElem?_eq_some_iff.1 hr).1
   simp-implicitDefEqProofs[aa,h1]
   refine(Et G hr hn (by omega)).mono ?_
   rintro r h' ⟨rfl,rfl⟩
   rw[hS]
   have hne:id≠1:=by omega
   have hC:=Cd G (h:=h.set id (dN S)) (id:=id) (xs:=S) (by simp[hidl]) (by intro e;rw[e] at hSl;simp at hSl;exact hn (List.length_eq_zero_iff.1 hSl.symm)) (by omega) hcl
   rw[hSl] at hC
   simp-implicitDefEqProofs[aa,h1,List.getElem?_set_ne hne]
   refine hC.mono ?_
   rintro r h'' ⟨rfl,rfl⟩
   simp-implicitDefEqProofs[aa]
   exact⟨List.replicate ((iA l f.body).length-(Lib.compact S).length) 0,by simp[hidl]⟩
 refine key.wk (fun t v h hh=>?_) fun v h hh=>?_
 ·rcases hh with⟨e,_⟩|⟨_,_,e,_⟩<;>cases e
 have hO:rm l f.body=Lib.compact S:=by rw[rm,hS]
 rw[hO]
 rcases hh with⟨e,hn⟩|⟨id,t,e,hid⟩
 ·cases e
  have:S=[]:=by rw[hn] at hSl;exact List.length_eq_zero_iff.1 (by simpa using hSl)
  rw[this]
  exact⟨.nils,h,oa (jT h),[.nils],[],rfl,.nils 1 .nil,List.nodup_nil⟩
 ·cases e
  have hidl:=(List.getElem?_eq_some_iff.1 hid).1
  refine⟨_,_,oa (wb (Lib.compact S).length hid),[.sl id 1 0 (Lib.compact S).length],[id],rfl,pG ?_ rfl,by simp⟩
  rw[List.getElem?_set_self hidl]
  simp[nS,←List.map_take]
end Go.Proofs.YtnjbhgpbgmpkcaaGreatDoor
namespace Go.Aw
open Go
theorem nA{h:List AO}{id i:Nat}{o:AO}(e:(h.set id .dead)[i]?=some o)(l:o.live):i≠id∧h[i]?=some o:=by
 rw[List.getElem?_set] at e
 split at e
 ·split at e
  ·cases e;exact l.elim
  ·cases e
 ·rename_i hne
  exact⟨fun h=>hne h.symm,e⟩
theorem cN{h:List AO}{id i:Nat}(l:Live (h.set id .dead) i):i≠id∧Live h i:=by
 obtain⟨o,e,l⟩:=l
 obtain⟨h1,h2⟩:=nA e l
 exact⟨h1,o,h2,l⟩
section
variable {G:aw} {W:World} {S:Nat→Prop} {φ:Aw.Place} {h:List AO}
theorem HRel.forget(H:HRel G W S φ h)(id:Nat):HRel G W S φ (h.set id .dead) where
 obj:=fun i sz es e=>by
  rw[List.length_set]
  exact H.obj i sz es (nA e trivial).2
 oobj:=fun i o e l=>by
  rw[List.length_set]
  exact H.oobj i o (nA e l).2 l
 inj:=fun i j li lj e=>H.inj i j (cN li).2 (cN lj).2 e
 sep:=fun b hb=>⟨(H.sep b hb).1,fun i li=>(H.sep b hb).2 i (cN li).2⟩
 bnd:=fun i hi=>H.bnd i (by simpa using hi)
 glob:=H.glob
theorem Keep.forget{id:Nat}{W':World}{S':Nat→Prop}{φ':Aw.Place}{h':List AO}(K:Keep W S φ (h.set id .dead) W' S' φ' h'):Keep W S φ h W' S' φ' h' where
 pure:=K.pure
 len:=by have:=K.len;rwa[List.length_set] at this
 same:=fun i hi=>K.same i (by rw[List.length_set];exact hi)
 blk:=fun i hi=>K.blk i (by rw[List.length_set];exact hi)
 os:=K.os
 tape:=K.tape
 output:=K.output
 size:=K.size
 out:=fun b hb hn=>K.out b hb fun i li=>hn i (cN li).2
 img:=fun i li=>by
  rcases K.img i li with h1|⟨j,h1,h2⟩
  ·exact .inl h1
  ·exact .inr ⟨j,(cN h1).2,h2⟩
 newS:=fun b hb=>by
  rcases K.newS b hb with h1|h1|⟨j,h1,h2⟩
  ·exact .inl h1
  ·exact .inr (.inl h1)
  ·exact .inr (.inr ⟨j,(cN h1).2,h2⟩)
structure Aside (r:Nat) (w w':World):Prop where
 other:∀b,b≠r→w'.heap[b]?=w.heap[b]?
 size:w'.heap.size=w.heap.size
 cells:∀c t fr,w'.heap[r]?≠some (.cells c t fr)
 os:w'.os=w.os
 tape:w'.tape=w.tape
 output:w'.output=w.output
theorem Aside.kept{r n:Nat}{w w':World}(A:Aside r w w')(hS:¬S r):Kept w S φ n w' S φ n where
 pure:=fun b hb=>⟨hb,A.other b fun e=>hS (e▸hb)⟩
 len:=Nat.le_refl _
 same:=fun _ _=>rfl
 blk:=fun i _ c t fr e=>by
  by_cases he:(φ i).1=r
  ·rw[he] at e;exact(A.cells c t fr e).elim
  ·rw[A.other _ he] at e;exact⟨c,t,fr,e,rfl⟩
theorem HRel.aside{r:Nat}{w w':World}(H:HRel G w S φ h)(A:Aside r w w')(hn:∀i,Live h i→(φ i).1≠r)(hS:¬S r):HRel G w' S φ h where
 obj:=fun i sz es e=>by
  obtain⟨c,t,fr,a1,a2,a3,a4,a5⟩:=H.obj i sz es e
  refine⟨c,t,fr,by rw[A.other _ (hn i (bg e))];exact a1,a2,a3,a4,fun j u hj=>?_⟩
  obtain⟨b1,v,b2,b3⟩:=a5 j u hj
  exact⟨b1,v,b2,b3.kept (A.kept hS)⟩
 oobj:=fun i o e l=>by
  rw[A.other _ (hn i ⟨o,e,l⟩)]
  exact(H.oobj i o e l).mono fun a v q=>q.kept (A.kept hS)
 inj:=H.inj
 sep:=fun b hb=>⟨by rw[A.size];exact(H.sep b hb).1,(H.sep b hb).2⟩
 bnd:=fun i hi=>by rw[A.size];exact H.bnd i hi
 glob:=fun g cs hg=>by
  obtain⟨g1,g2⟩:=H.glob g cs hg
  refine⟨g1,fun j c hj=>?_⟩
  obtain⟨v,v1,v2⟩:=g2 j c hj
  have hne:g≠r:=fun e=>hS (e▸g1)
  exact⟨v,by rw[aK (A.other g hne)];exact v1,v2.mono fun b hb=>⟨hb,A.other b fun e=>hS (e▸hb)⟩⟩
theorem St.aside{W0:World}{S0:Nat→Prop}{φ0:Aw.Place}{h0:List AO}{a:Act}{ts:List AV}{r:Nat}{w w':World}(s:St G W0 S0 φ0 h0 w S φ a ts h)(A:Aside r w w')(hn:∀i,Live h i→(φ i).1≠r)(hS:¬S r)(hr:W0.heap.size≤r):St G W0 S0 φ0 h0 w' S φ a ts h where
 hrel:=s.hrel.aside A hn hS
 trel:=s.trel.kept (A.kept hS)
 defers:=s.defers
 keep:=by
  have k:=s.keep
  have q:Kept w S φ h.length w' S φ h.length:=A.kept hS
  exact{pure:=fun b hb=>⟨(k.pure b hb).1,(q.pure b (k.pure b hb).1).2.trans (k.pure b hb).2⟩
        len:=k.len
        same:=k.same
        blk:=fun i hi c t fr e=>by
         have h1:=q.blk i (Nat.lt_of_lt_of_le hi k.len) c t fr (by rw[k.same i hi];exact e)
         rw[k.same i hi] at h1
         obtain⟨c1,t1,fr1,e1,s1⟩:=h1
         obtain⟨c2,t2,fr2,e2,s2⟩:=k.blk i hi c1 t1 fr1 e1
         exact⟨c2,t2,fr2,e2,s2.trans s1⟩
        os:=A.os.trans k.os
        tape:=A.tape.trans k.tape
        output:=A.output.trans k.output
        size:=by rw[A.size];exact k.size
        out:=fun b hb hn2=>(A.other b (by omega)).trans (k.out b hb hn2)
        img:=k.img
        newS:=k.newS}
end
structure Free (W:World) (S:Nat→Prop) (φ:Aw.Place) (h:List AO) (b:Nat):Prop where
 lt:b<W.heap.size
 live:∀i,Live h i→(φ i).1≠b
 notS:¬S b
theorem Free.keep{W W':World}{S S':Nat→Prop}{φ φ':Aw.Place}{h h':List AO}{b:Nat}(F:Free W S φ h b)(K:Keep W S φ h W' S' φ' h'):Free W' S' φ' h' b∧W'.heap[b]?=W.heap[b]?:=
 ⟨⟨Nat.lt_of_lt_of_le F.lt K.size,fun i li e=>by
   rcases K.img i li with h1|⟨j,h1,h2⟩
   ·have:=F.lt;omega
   ·exact F.live j h1 (h2.trans e),fun hb=>by
   rcases K.newS b hb with h1|h1|⟨j,h1,h2⟩
   ·exact F.notS h1
   ·have:=F.lt;omega
   ·exact F.live j h1 h2⟩,K.out b F.lt F.live⟩
theorem zZ{P:Program}{G:aw}{W0:World}{S0:Nat→Prop}{φ0:Aw.Place}{h0:List AO}{c:Code}{k:AK}(hk:iy P c=some k){W:World}{S:Nat→Prop}{φ:Aw.Place}{a:Act}{ts:List AV}{h:List AO}(s:St G W0 S0 φ0 h0 W S φ a ts h)
 {Q:AX→List AV→List AO→Prop}(hq:AKW P G h.length k ts h Q){Q':Exit→Act→World→Prop}
 (K:∀x ts' h' S' φ' e a' W',Q x ts' h'→XRel W' S' x e→St G W0 S0 φ0 h0 W' S' φ' a' ts' h'→Keep W S φ h W' S' φ' h'→Q' e a' W'):c.wp P Q' a W:=by
 have s1:St G W S φ h W S φ a ts h:=⟨s.hrel,s.trel,s.defers,Keep.refl s.hrel⟩
 refine wp_mono (uw (gB hk) s1 hq) fun e a' W' ⟨x,ts',h',S',φ',q1,q2,q3⟩=>?_
 exact K x ts' h' S' φ' e a' W' q1 q2 ⟨q3.hrel,q3.trel,q3.defers,s.keep.trans q3.keep⟩ q3.keep
theorem St.forget{G:aw}{W0:World}{S0:Nat→Prop}{φ0:Aw.Place}{h0:List AO}{id:Nat}{W:World}{S:Nat→Prop}{φ:Aw.Place}{a:Act}{ts:List AV}{h:List AO}(s:St G W0 S0 φ0 (h0.set id .dead) W S φ a ts h):St G W0 S0 φ0 h0 W S φ a ts h:=
 ⟨s.hrel,s.trel,s.defers,s.keep.forget⟩
theorem us{l:List (Nat × AV)}:∀{l1:List (Nat × AV)},(∀x∈l1,look l x.1=x.2)→∀i,look l1 i= .any∨look l1 i=look l i
 |[],_,i=> .inl rfl
 |x::r,h,i=>by
  by_cases e:x.1=i
  ·right
   rw[look,if_pos e,←e]
   exact(h x (by simp)).symm
  ·rw[look,if_neg e]
   exact us (fun y hy=>h y (by simp[hy])) i
theorem St.less{G:aw}{W0:World}{S0:Nat→Prop}{φ0:Aw.Place}{h0:List AO}{W:World}{S:Nat→Prop}{φ:Aw.Place}{a:Act}{n:Nat}{l l1:List (Nat × AV)}{h:List AO}(s:St G W0 S0 φ0 h0 W S φ a (af n l) h)(hl:∀x∈l1,look l x.1=x.2):St G W0 S0 φ0 h0 W S φ a (af n l1) h:=by
 refine⟨s.hrel,⟨by simpa[af] using s.trel.size,fun i v hi=>?_⟩,s.defers,s.keep⟩
 have hin:i<n:=by have:=(List.getElem?_eq_some_iff.1 hi).1;simpa[af] using this
 rw[ff hin] at hi
 cases hi
 rcases us hl i with e|e
 ·rw[e];exact .any _
 ·rw[e];exact s.trel.get i _ (ff hin)
theorem DV(n d:Nat)(v:AV)(l:List (Nat × AV)):put (some d) v (af n l)=af n ((d,v)::l):=by
 rw[←Bb,←re];rfl
theorem St.set{G:aw}{W0:World}{S0:Nat→Prop}{φ0:Aw.Place}{h0:List AO}{W:World}{S:Nat→Prop}{φ:Aw.Place}{a:Act}{n:Nat}{l:List (Nat × AV)}{h:List AO}(s:St G W0 S0 φ0 h0 W S φ a (af n l) h){v:AV}{x:Value}(hv:VRel W S φ h.length v x)(d:Nat):St G W0 S0 φ0 h0 W S φ (a.put (some d) x) (af n ((d,v)::l)) h:=by
 rw[←DV]
 exact s.put (some d) hv s.hrel (Keep.refl s.hrel)
theorem St.look{G:aw}{W0:World}{S0:Nat→Prop}{φ0:Aw.Place}{h0:List AO}{W:World}{S:Nat→Prop}{φ:Aw.Place}{a:Act}{n:Nat}{l:List (Nat × AV)}{h:List AO}(s:St G W0 S0 φ0 h0 W S φ a (af n l) h)(i:Nat)(hi:i<n):VRel W S φ h.length (look l i) (a.tmps.getD i undef):=s.trel.get i _ (ff hi)
theorem St.size{G:aw}{W0:World}{S0:Nat→Prop}{φ0:Aw.Place}{h0:List AO}{W:World}{S:Nat→Prop}{φ:Aw.Place}{a:Act}{n:Nat}{l:List (Nat × AV)}{h:List AO}(s:St G W0 S0 φ0 h0 W S φ a (af n l) h):a.tmps.size=n:=by
 have:=s.trel.size
 simpa[af] using this
theorem rT{e:MapEntry}{p:MapEntry→Bool}:∀{l:List MapEntry},l.Pairwise (fun x y=>x.born≠y.born)→e∈l→p e=true→(l.filter p).Perm (e::l.filter fun x=>p x&&x.born !=e.born)
 |x::r,hp,he,hpe=>by
  obtain⟨h1,h2⟩:=List.pairwise_cons.1 hp
  rcases List.mem_cons.1 he with rfl|he
  ·have e1:(r.filter fun x=>p x&&x.born !=e.born)=r.filter p:=List.filter_congr fun y hy=>by
    have:y.born≠e.born:=fun q=>h1 y hy q.symm
    simp[this]
   rw[List.filter_cons,if_pos hpe,List.filter_cons,if_neg (by simp),e1]
  ·have hne:x.born≠e.born:=h1 e he
   have ih:=rT h2 he hpe
   rw[List.filter_cons,List.filter_cons]
   by_cases hx:p x=true
   ·rw[if_pos hx,if_pos (by simp[hx,hne])]
    exact(ih.cons x).trans (List.Perm.swap e x _)
   ·rw[if_neg hx,if_neg (by simp[hx])]
    exact ih
theorem uN{ents:Array MapEntry}{seen:Array Nat}{e:MapEntry}(hp:ents.toList.Pairwise (fun x y=>x.born≠y.born))(he:e∈(leftOf ents seen).toList):(leftOf ents seen).toList.Perm (e::(leftOf ents (seen.push e.born)).toList):=by
 simp only[leftOf,Array.toList_filter] at he⊢
 obtain⟨h1,h2⟩:=List.mem_filter.1 he
 refine(rT hp h1 h2).trans (List.Perm.of_eq ?_)
 congr 1
 refine List.filter_congr fun x _=>?_
 by_cases hx:x.born=e.born
 ·simp[hx]
 ·simp[hx]
theorem yS{ents:Array MapEntry}(h:∀(i j:Nat) (e e':MapEntry),ents[i]?=some e→ents[j]?=some e'→e.born=e'.born→i=j):ents.toList.Pairwise (fun x y=>x.born≠y.born):=by
 rw[List.pairwise_iff_getElem]
 intro i j hi hj hij e
 have:=h i j ents.toList[i] ents.toList[j] (by rw[←Array.getElem?_toList];exact List.getElem?_eq_getElem hi) (by rw[←Array.getElem?_toList];exact List.getElem?_eq_getElem hj) e
 omega
theorem Bn{w w1:World}(hw:w1=w∨w1=w.drew){r:Nat}{o:Obj}(ho:∀c t fr,o≠ .cells c t fr):Aside r w (Go.ChangeMaps.setBlock w1 r o):=by
 have hh:w1.heap=w.heap:=by rcases hw with rfl|rfl<;>rfl
 refine⟨fun b hb=>?_,?_,fun c t fr e=>?_,?_,?_,?_⟩
 ·simp only[Go.ChangeMaps.setBlock,hh]
  exact Array.getElem?_setIfInBounds_ne fun e=>hb e.symm
 ·simp[Go.ChangeMaps.setBlock,hh]
 ·simp only[Go.ChangeMaps.setBlock,hh] at e
  rw[Array.getElem?_setIfInBounds] at e
  rw[if_pos rfl] at e
  split at e
  ·cases e;exact ho _ _ _ rfl
  ·cases e
 ·rcases hw with rfl|rfl<;>rfl
 ·rcases hw with rfl|rfl<;>rfl
 ·rcases hw with rfl|rfl<;>rfl
theorem ft{P:Program}{ops:Array Oper}{Q:Exit→Act→World→Prop}{o:Oper}{rest:List Oper}{a:Act}{w w':World}{v:Value}(hg:o.guard=none)(hr:(execOp a.eval o).run P w= .ok (.value v) w')(h:wpList P ops Q rest (a.put o.dst v) w'):wpList P ops Q (o::rest) a w:=by
 simp only[wpList]
 rw[if_pos (by simp[Region.wanted,hg])]
 refine .inl ?_
 unfold Oper.wp
 rw[hr]
 exact h
theorem iD{a:Act}{d:Nat}{v:Value}(h:d<a.tmps.size):(a.put (some d) v).eval (.tmp d)=v:=by simp[Act.eval,Act.put,h]
theorem si(a:Act)(d:Nat)(v:Value):(a.put (some d) v).tmps.size=a.tmps.size:=by simp[Act.put]
theorem tq{P:Program}{m:Sem Value}{w w':World}{v:Value}(h:m.run P w= .ok v w'):(do let x ←m;pure (Next.value x):Sem Next).run P w= .ok (.value v) w':=by
 rw[Sem.run_bind,h];rfl
theorem zk(w:World)(o:Obj):w.alloc o=Go.Sort.grow w #[o]:=by
 simp only[World.alloc,Go.Sort.grow]
 rw[Array.push_eq_append]
theorem AC.enterC{P:Program}{G:aw}{f:FuncId}{fn:Func}{c:Code}{rs:List RV}(hf:P.funcs[f]?=some fn)(hb:fn.body=some c)(hr:lG P fn.results.toList=some rs)(hcall:ee P f=true){args:List AV}{h:List AO}{R:ARes→List AO→Prop}
 (H:∀(W:World) (S:Nat→Prop) (φ:Aw.Place) (a:Act),HRel G W S φ h→St G W S φ h W S φ a (args++List.replicate (fn.ntmps-args.length) .any) h→c.wp P (tQ G W S φ h (ow G rs R)) a W):AC P G f args h R:=by
 refine⟨hcall,fun W S φ vs hH hA=>?_⟩
 have s:St G W S φ h W S φ {tmps:=vs++Array.replicate (fn.ntmps-vs.size) undef,defers:=[]} (args++List.replicate (fn.ntmps-args.length) .any) h:=by
  refine⟨hH,⟨by simp[hA.1],fun i v hi=>?_⟩,rfl,Keep.refl hH⟩
  rw[List.getElem?_append] at hi
  split at hi
  ·rename_i hl
   have hl':i<vs.size:=by rw[hA.1];exact hl
   have:(vs++Array.replicate (fn.ntmps-vs.size) undef).getD i undef=vs[i]:=by
    rw[Array.getD_eq_getD_getElem?,Array.getElem?_append_left hl',Array.getElem?_eq_getElem hl'];rfl
   simp only
   rw[this]
   exact hA.2 i v _ hi (Array.getElem?_eq_getElem hl')
  ·have:=List.mem_of_getElem? hi
   rw[(List.mem_replicate.1 this).2]
   exact .any _
 refine calls_of_wp hf hb (wp_mono (H W S φ _ hH s) fun e a' W' ⟨x,ts,h',S',φ',q1,q2,q3⟩=>?_)
 have fin:(∃vs,kQ G ts h' rs=some vs∧R (.ret (nv vs)) h')→a'.defers=[]∧∃v,(results fn a'.tmps).run P W'= .ok v W'∧∃r S' φ' h',R r h'∧HRel G W' S' φ' h'∧ERel W' S' φ' h'.length r (.returned v)∧Keep W S φ h W' S' φ' h':=fun⟨vs,e1,e2⟩=>by
  obtain⟨xs,k1,k2⟩:=tr q3.hrel q3.trel hr e1
  have hm:(fn.results.mapM fun r=>(match r with| .tmp t=>pure (a'.tmps.getD t undef)| .cell d t=>do loadVar t (←asAddr (a'.tmps.getD d undef)):Sem Value)).run P W'= .ok xs.toArray W':=by
   rw[Array.mapM_eq_mapM_toList,Sem.run_map]
   exact(congrArg (fun r=>Result.andThen r fun a w'=>Result.ok a.toArray w') k1).trans rfl
  refine⟨q3.defers,if h:xs.toArray.size=1 then xs.toArray[0] else .tuple xs.toArray,?_,.ret (nv vs),S',φ',h',e2,q3.hrel,.ret _ _ ?_,q3.keep⟩
  ·unfold results
   rw[Sem.run_bind]
   refine(congrArg (fun r=>Result.andThen r _) hm).trans ?_
   rfl
  ·have hl:=k2.1
   match vs,xs,hl,k2 with
   |[],[],_,k2=>exact .tup _ _ rfl fun j c v h1=>by simp at h1
   |[v],[x],_,k2=>exact k2.2 0 v x rfl rfl
   |v::v'::r,x::x'::r',hl,k2=>exact .tup _ _ (by simpa using hl) fun j c y h1 h2=>k2.2 j c y h1 (by simpa using h2)
 cases q2 with
 |normal=>exact fin q1
 |ret=>exact fin q1
 |exit id=>exact q1.elim
 |pan t v x hp=>exact⟨q3.defers,_,S',φ',h',q1,q3.hrel,.pan t v x hp,q3.keep⟩
end Go.Aw
namespace Go.Proofs.YtnjbhgpbgmpkcaaGreatDoor
open Go Go.Aw
set_option maxRecDepth 100000
set_option maxHeartbeats 4000000
variable (G:aw)
def tH(e:MapEntry):Int:=match e.key with| .int _ n=>n|_=>0
def GC(ents:Array MapEntry)(r:Nat)(w:World):Nat:=match w.heap[r]? with|some (.mapIter _ _ seen _)=>(leftOf ents seen).size|_=>0
structure SkInv (G:aw) (W:World) (S:Nat→Prop) (φ:Aw.Place) (h1:List AO) (ks:List Int) (ents:Array MapEntry) (clock b r:Nat) (a:Act) (w:World) (S':Nat→Prop) (φ':Aw.Place) (hh d:List AO) (xs:List Int) (o:AV) (seen:Array Nat) (c0:Nat):Prop where
 st:St G W S φ h1 w S' φ' a (af 18 [(6,.gp r 0),(3,o)]) hh
 hb:w.heap[b]?=some (.map ents clock)
 hr:w.heap[r]?=some (.mapIter (some b) clock seen c0)
 hc:clock≤c0
 fb:Free w S' φ' hh b
 fr:Free w S' φ' hh r
 pre:hh=h1++d
 out:(xs=[]∧o= .nils)∨∃j,xs≠[]∧o= .sl j 1 0 xs.length∧h1.length≤j∧hh[j]?=some (dN xs)
 perm:(xs++(leftOf ents seen).toList.map tH).Perm ks
def skR(ks:List Int)(h1:List AO)(x:ARes)(h':List AO):Prop:=∃xs d,xs.Perm ks∧h'=h1++d∧((xs=[]∧x= .ret .nils)∨∃j,x= .ret (.sl j 1 0 xs.length)∧h1.length≤j∧h'[j]?=some (dN (xs.mergeSort fun x y=>decide (x≤y))))
def skQ(h1:List AO)(r:Nat)(xs:List Int)(x:Aw.AX)(ts':List AV)(h2:List AO):Prop:=∃(l:List (Nat × AV)) (d:List AO) (j:Nat),x= .normal∧ts'=af 18 l∧Aw.look l 6= .gp r 0∧Aw.look l 3= .sl j 1 0 xs.length∧h2=h1++d∧h1.length≤j∧h2[j]?=some (dN xs)
theorem vP{h:List AO}{id:Nat}{es:List (PV × AV)}{ks:List Int}(hid:h[id]?=some (.mp es))(hk:es.map (·.1)=ks.map (PV.int .i64))(hb:ks.length≤1099511627776):
 AC Tryz.prog G fy [.mp id] h (skR ks (h.set id .dead)):=by
 refine AC.enterC Tryz.func133 rfl (rs:=[.t 2]) (by kernel_rfl) (by kernel_rfl) fun W S φ a hH s0=>?_
 obtain⟨ents,clock,hbl,hm1,hm2,hm3,hm4⟩:=hH.oobj id _ hid trivial
 generalize hbb:(φ id).1=b at hbl
 have hidl:=(List.getElem?_eq_some_iff.1 hid).1
 have F0:Free W S φ (h.set id .dead) b:=⟨by rw[←hbb];exact hH.bnd id hidl,fun i li e=>(cN li).1 (hH.inj i id (cN li).2 (ox hid) (e.trans hbb.symm)),fun hS=>(hH.sep b hS).2 id (ox hid) hbb⟩
 have s1:St G W S φ (h.set id .dead) W S φ a (af 18 [(0,.mp id)]) (h.set id .dead):=⟨hH.forget id,by rw[List.length_set];exact s0.trel,s0.defers,Keep.refl (hH.forget id)⟩
 refine wp_mono (Q:=tQ G W S φ (h.set id .dead) (ow G [.t 2] _)) ?_ fun e a' W' ⟨x,ts,h',S',φ',q1,q2,q3⟩=>⟨x,ts,h',S',φ',q1,q2,q3.forget⟩
 have hl1:(h.set id .dead).length=h.length:=List.length_set
 generalize hh1:h.set id .dead=h1 at*
 refine wp_seq (zZ (k:= .reg [⟨some 2,none,.mov (.c .nils)⟩]) (by kernel_rfl) s1 (Q:=fun x ts' h'=>x= .normal∧ts'=af 18 [(2,.nils),(0,.mp id)]∧h'=h1) (by simp) ?_)
 rintro x ts' h' S2 φ2 e a2 W2 ⟨rfl,rfl,rfl⟩ hx s2 K2
 cases hx
 refine wp_seq (zZ (k:= .reg [⟨some 3,none,.mov (.c .nils)⟩]) (by kernel_rfl) s2 (Q:=fun x ts' h2=>x= .normal∧ts'=af 18 [(3,.nils),(2,.nils),(0,.mp id)]∧h2=h') (by simp) ?_)
 rintro x ts' h1 S3 φ3 e a3 W3 ⟨rfl,rfl,rfl⟩ hx s3 K3
 cases hx
 have F3:=(F0.keep s3.keep).1
 have e3:=(F0.keep s3.keep).2
 rw[hbl] at e3
 have hbeq:φ3 id=φ id:=s3.keep.same id (by rw[hl1];exact hidl)
 have hm0:a3.tmps.getD 0 undef= .map (some b):=by
  have:=s3.trel.get 0 (.mp id) rfl
  generalize a3.tmps.getD 0 undef=x at this
  cases this with
  |mp _ _=>rw[hbeq,hbb]
 refine wp_seq (wp_seq (wp_region_list (ft (v:= .map (some b)) (w':=W3) rfl ?_ (ft (v:= .pointer (some ⟨W3.heap.size,0,none⟩)) (w':=W3.alloc (.mapIter (some b) clock #[] clock)) rfl ?_ (wpList_nil ?_)))))
 ·simp[execOp,Act.eval,hm0]
 ·have hr0:(Instr.range (Tryz.f133.params.getD 0 0) (.map (some b))).run Tryz.prog W3=_:=run_range_map W3 _ _ _ b ents clock (show Tryz.prog.underlying (Tryz.f133.params.getD 0 0)=some (.map (match Tryz.prog.underlying (Tryz.f133.params.getD 0 0) with|some (.map k _)=>k|_=>0) (match Tryz.prog.underlying (Tryz.f133.params.getD 0 0) with|some (.map _ e)=>e|_=>0)) by kernel_rfl) e3
  have hev:(a3.put (some 5) (.map (some b))).eval (.tmp 5)= .map (some b):=iD (by rw[s3.size];decide)
  refine tq (m:=Instr.range (Tryz.f133.params.getD 0 0) ((a3.put (some 5) (.map (some b))).eval (.tmp 5))) ?_
  rw[hev]
  exact hr0
 have hG:=s3.hrel.grown #[.mapIter (some b) clock #[] clock]
 rw[←zk] at hG
 generalize hr3:W3.heap.size=r
 have s4:St G W S φ h1 (W3.alloc (.mapIter (some b) clock #[] clock)) S3 φ3 ((a3.put (some 5) (.map (some b))).put (some 6) (.pointer (some ⟨r,0,none⟩))) (af 18 [(6,.gp r 0),(3,.nils)]) h1:=by
  have q:St G W S φ h1 (W3.alloc (.mapIter (some b) clock #[] clock)) S3 φ3 a3 (af 18 [(3,.nils),(2,.nils),(0,.mp id)]) h1:=⟨hG.1,s3.trel.kept hG.2.toKept,s3.defers,s3.keep.trans hG.2⟩
  exact((q.set (.any _) 5).set (.gp r 0) 6).less (by simp[Aw.look])
 have F4:=F3.keep hG.2
 have hrl:∀i,Live h1 i→(φ3 i).1≠r:=fun i li e=>by have:=s3.hrel.bnd i li.lt;omega
 have hrS:¬S3 r:=fun hS=>by have:=(s3.hrel.sep r hS).1;omega
 have hr4:(W3.alloc (.mapIter (some b) clock #[] clock)).heap[r]?=some (.mapIter (some b) clock #[] clock):=by
  rw[←hr3];exact heap_alloc_new _ _
 have hr4l:r<(W3.alloc (.mapIter (some b) clock #[] clock)).heap.size:=(Array.getElem?_eq_some_iff.1 hr4).1
 have hWr:W.heap.size≤r:=by have:=s3.keep.size;omega
 have hborn:=yS hm4
 have hold:∀x∈ents.toList,x.born<clock:=fun x hx=>by
  obtain⟨j,hj,e⟩:=List.mem_iff_getElem.1 hx
  exact hm3 j x (by rw[←Array.getElem?_toList,List.getElem?_eq_getElem hj,e])
 have hkey:∀e∈ents.toList,e.key= .int .i64 (tH e):=fun e he=>by
  obtain⟨j,hj,hje⟩:=List.mem_iff_getElem.1 he
  have hje':ents[j]?=some e:=by rw[←Array.getElem?_toList,List.getElem?_eq_getElem hj,hje]
  have hjl:j<es.length:=by rw[←hm1];simpa using hj
  obtain⟨e',k1,k2,_⟩:=hm2 j es[j].1 es[j].2 (List.getElem?_eq_getElem hjl)
  rw[hje'] at k1;cases k1
  have h2:(es.map (·.1))[j]?=(ks.map (PV.int .i64))[j]?:=by rw[hk]
  rw[List.getElem?_map,List.getElem?_map,List.getElem?_eq_getElem hjl] at h2
  simp only[Option.map_some] at h2
  rw[eq_comm,Option.map_eq_some_iff] at h2
  obtain⟨n,_,h3⟩:=h2
  rw[←h3] at k2
  simp only[oQ,Option.some.injEq] at k2
  rw[tH,←k2]
 have hkeys:ents.toList.map tH=ks:=by
  refine List.ext_getElem? fun j=>?_
  rw[List.getElem?_map]
  have h2:(es.map (·.1))[j]?=(ks.map (PV.int .i64))[j]?:=by rw[hk]
  rw[List.getElem?_map,List.getElem?_map] at h2
  cases hj:es[j]? with
  |none=>
   rw[hj] at h2
   have:es.length≤j:=List.getElem?_eq_none_iff.1 hj
   have hn:ents.toList[j]?=none:=List.getElem?_eq_none (by simpa[hm1] using this)
   rw[hn]
   cases hq:ks[j]? with
   |none=>rfl
   |some n=>rw[hq] at h2;cases h2
  |some p=>
   rw[hj] at h2
   obtain⟨e',k1,k2,_⟩:=hm2 j p.1 p.2 hj
   rw[Array.getElem?_toList,k1]
   cases hq:ks[j]? with
   |none=>rw[hq] at h2;cases h2
   |some n=>
    rw[hq] at h2
    simp only[Option.map_some,Option.some.injEq] at h2
    rw[h2] at k2
    simp only[oQ,Option.some.injEq] at k2
    simp only[Option.map_some,tH,←k2]
 have I0:SkInv G W S φ h1 ks ents clock b r ((a3.put (some 5) (.map (some b))).put (some 6) (.pointer (some ⟨r,0,none⟩))) (W3.alloc (.mapIter (some b) clock #[] clock)) S3 φ3 h1 [] [] .nils #[] clock:=
  ⟨s4,by rw[F4.2];exact e3,hr4,Nat.le_refl _,F4.1,⟨hr4l,hrl,hrS⟩,by simp,.inl ⟨rfl,rfl⟩,by
    have:leftOf ents #[]=ents:=by simp[leftOf]
    rw[List.nil_append,this,hkeys]⟩
 refine wp_block (wp_loop (fun a w=>∃S' φ' hh d xs o seen c0,SkInv G W S φ h1 ks ents clock b r a w S' φ' hh d xs o seen c0) (fun _ w=>GC ents r w) ⟨_,_,_,_,_,_,_,_,I0⟩ ?_)
 clear I0 s4 hr4 hr4l F4 hG hrl hrS hr3 hm0 F3 e3 s3 K3 s2 K2 s1 s0
 rintro a w ⟨S',φ',hh,d,xs,o,seen,c0,I⟩
 have h6:a.tmps.getD 6 undef= .pointer (some ⟨r,0,none⟩):=by
  have:VRel w S' φ' hh.length (.gp r 0) (a.tmps.getD 6 undef):=I.st.look 6 (by omega)
  generalize a.tmps.getD 6 undef=x at this
  cases this;rfl
 have hasz:=I.st.size
 rcases run_next_at (P:=Tryz.prog) w 0 r b clock c0 seen ents clock I.hr I.hb hold I.hc with⟨h0,hrun⟩|⟨e,he,w1,hw1,hrun⟩
 ·refine wp_seq (wp_region_list (ft (v:= .tuple #[.bool false]) (w':=w) rfl ?_ (ft (v:= .bool false) (w':=w) rfl ?_ (wpList_nil ?_))))
  ·refine tq (m:=Instr.next (a.eval (.tmp 6)) false 0) ?_
   rw[show a.eval (.tmp 6)= .pointer (some ⟨r,0,none⟩) from h6]
   exact hrun
  ·refine tq (m:=Instr.extract ((a.put (some 7) (.tuple #[.bool false])).eval (.tmp 7)) 0) ?_
   rw[iD (by rw[hasz];decide)]
   rfl
  have hperm:xs.Perm ks:=by
   have e0:leftOf ents seen=#[]:=Array.eq_empty_of_size_eq_zero h0
   have:=I.perm
   rw[e0] at this
   simpa using this
  refine wp_seq (wp_cond (t:=false) (iD (by rw[si,hasz];decide)) (wp_exit ?_))
  have s5:St G W S φ h1 w S' φ' ((a.put (some 7) (.tuple #[.bool false])).put (some 8) (.bool false)) (af 18 [(3,o)]) hh:=((I.st.set (.any _) 7).set (.any _) 8).less (by simp[Aw.look])
  have hxl:xs.length≤1099511627776:=by rw[hperm.length_eq];exact hb
  show Code.wp _ _ _ _ _
  refine zZ (k:= .seq (.reg [⟨some 15,none,.mov (.t 3)⟩,⟨some 16,none,.call jf [.t 15]⟩]) (.seq (.reg [⟨some 17,none,.mov (.t 3)⟩,⟨some 2,none,.mov (.t 17)⟩]) .ret)) (by kernel_rfl) s5 (Q:=ow G [.t 2] (skR ks h1)) ?_ ?_
  ·rcases I.out with⟨rfl,rfl⟩|⟨j,hne,rfl,hj,hgj⟩
   ·simp-implicitDefEqProofs[]
    refine(uA G hh).mono ?_
    rintro x h2 ⟨rfl,rfl⟩
    simp-implicitDefEqProofs[aa]
    exact⟨[],d,hperm,I.pre,.inl ⟨rfl,rfl⟩⟩
   ·simp-implicitDefEqProofs[]
    refine(Et G hgj hne (by omega)).mono ?_
    rintro x h2 ⟨rfl,rfl⟩
    simp-implicitDefEqProofs[aa]
    have hjl:=(List.getElem?_eq_some_iff.1 hgj).1
    refine⟨xs,d.set (j-h1.length) (dN (xs.mergeSort fun x y=>decide (x≤y))),hperm,?_,.inr ⟨j,rfl,hj,by simp[hjl]⟩⟩
    rw[I.pre,List.set_append_right _ _ hj]
  ·intro x ts' h' S5 φ5 e a5 W5 q1 q2 q3 _
   exact⟨x,ts',h',S5,φ5,q1,q2,q3⟩
 have hel:=mem_left he
 have hA:=Bn (r:=r) (o:= .mapIter (some b) clock (seen.push e.born) clock) hw1 (fun _ _ _ h=>by cases h)
 have s6:=I.st.aside hA I.fr.live I.fr.notS hWr
 generalize hw':Go.ChangeMaps.setBlock w1 r (.mapIter (some b) clock (seen.push e.born) clock)=w' at*
 have hrb:r≠b:=fun q=>by have h1:=I.hr;rw[q,I.hb] at h1;cases h1
 have hb6:w'.heap[b]?=some (.map ents clock):=by rw[hA.other b fun q=>hrb q.symm];exact I.hb
 have hr6:w'.heap[r]?=some (.mapIter (some b) clock (seen.push e.born) clock):=by
  have hh:w1.heap=w.heap:=by rcases hw1 with rfl|rfl<;>rfl
  rw[←hw']
  simp only[Go.ChangeMaps.setBlock,hh]
  rw[Array.getElem?_setIfInBounds,if_pos rfl,if_pos I.fr.lt]
 have fb6:Free w' S' φ' hh b:=⟨by rw[hA.size];exact I.fb.lt,I.fb.live,I.fb.notS⟩
 have fr6:Free w' S' φ' hh r:=⟨by rw[hA.size];exact I.fr.lt,I.fr.live,I.fr.notS⟩
 refine wp_seq (wp_region_list (ft (v:= .tuple #[.bool true,e.key,e.val]) (w':=w') rfl ?_ (ft (v:= .bool true) (w':=w') rfl ?_ (wpList_nil ?_))))
 ·refine tq (m:=Instr.next (a.eval (.tmp 6)) false 0) ?_
  rw[show a.eval (.tmp 6)= .pointer (some ⟨r,0,none⟩) from h6]
  exact hrun
 ·refine tq (m:=Instr.extract ((a.put (some 7) (.tuple #[.bool true,e.key,e.val])).eval (.tmp 7)) 0) ?_
  rw[iD (by rw[hasz];decide)]
  rfl
 refine wp_seq (wp_cond (t:=true) (iD (by rw[si,hasz];decide)) (wp_skip ?_))
 have s7:St G W S φ h1 w' S' φ' ((a.put (some 7) (.tuple #[.bool true,e.key,e.val])).put (some 8) (.bool true)) (af 18 [(6,.gp r 0),(3,o)]) hh:=((s6.set (.any _) 7).set (.any _) 8).less (by simp[Aw.look])
 have h66:((a.put (some 7) (.tuple #[.bool true,e.key,e.val])).put (some 8) (.bool true)).eval (.tmp 6)= .pointer (some ⟨r,0,none⟩):=by
  have:VRel w' S' φ' hh.length (.gp r 0) (((a.put (some 7) (.tuple #[.bool true,e.key,e.val])).put (some 8) (.bool true)).tmps.getD 6 undef):=s7.look 6 (by omega)
  show((a.put (some 7) (.tuple #[.bool true,e.key,e.val])).put (some 8) (.bool true)).tmps.getD 6 undef=_
  generalize ((a.put (some 7) (.tuple #[.bool true,e.key,e.val])).put (some 8) (.bool true)).tmps.getD 6 undef=x at this
  cases this;rfl
 generalize ((a.put (some 7) (.tuple #[.bool true,e.key,e.val])).put (some 8) (.bool true))=a7 at*
 have hasz7:=s7.size
 show Code.wp _ _ _ _ _
 refine wp_block (wp_seq (wp_region_list (ft (v:= .tuple #[e.key,e.val]) (w':=w') rfl ?_ (ft (v:=e.key) (w':=w') rfl ?_ (ft (v:=e.key) (w':=w') rfl ?_ (wpList_nil ?_))))))
 ·refine tq (m:=Instr.entry (a7.eval (.tmp 6))) ?_
  rw[h66]
  exact run_entry_at w' r b clock seen ents clock e hr6 hb6 hel.1 (List.pairwise_map.2 hborn)
 ·refine tq (m:=Instr.extract ((a7.put (some 9) (.tuple #[e.key,e.val])).eval (.tmp 9)) 0) ?_
  rw[iD (by rw[hasz7];decide)]
  rfl
 ·have hev:(((a7.put (some 9) (.tuple #[e.key,e.val])).put (some 10) e.key).eval (.tmp 10))=e.key:=iD (by rw[si,hasz7];decide)
  simp only[execOp]
  rw[hev]
  rfl
 have hke:=hkey e hel.1
 have hpp:(xs++(leftOf ents seen).toList.map tH).Perm ((xs++[tH e])++(leftOf ents (seen.push e.born)).toList.map tH):=by
  rw[List.append_assoc]
  exact List.Perm.append_left xs ((uN hborn he).map tH)
 have hsz2:=(uN hborn he).length_eq
 have hlen:=I.perm.length_eq
 rw[List.length_append,List.length_map] at hlen
 simp only[List.length_cons,Array.length_toList] at hsz2 hlen
 rw[hke]
 generalize tH e=n at*
 have s8:St G W S φ h1 w' S' φ' (((a7.put (some 9) (.tuple #[.int .i64 n,e.val])).put (some 10) (.int .i64 n)).put (some 4) (.int .i64 n)) (af 18 [(4,.p (.int .i64 n)),(6,.gp r 0),(3,o)]) hh:=
  (((s7.set (.any _) 9).set (.any _) 10).set (.p _ _ (.int _ _)) 4).less (by simp[Aw.look])
 show Code.wp _ _ _ _ _
 refine zZ (k:= .reg [⟨some 11,none,.mov (.t 3)⟩,⟨some 12,none,.mov (.t 4)⟩,⟨some 13,none,.bsl 1 [.p (.int .i64 0)] 1 [(0,1,.t 12)]⟩,⟨some 14,none,.app 1 8 (.t 11) (.t 13)⟩,⟨some 3,none,.mov (.t 14)⟩]) (by kernel_rfl) s8 (Q:=skQ h1 r (xs++[n])) ?_ ?_
 ·rcases I.out with⟨rfl,rfl⟩|⟨j,hne,rfl,hj,hgj⟩
  ·simp-implicitDefEqProofs[]
   refine⟨_,d++[.row 1 [[.p (.int .i64 n)]],.row 1 [[.p (.int .i64 n)]]],hh.length+1,rfl,rfl,rfl,rfl,by rw[I.pre];simp,by rw[I.pre];simp;omega,by simp[dN]⟩
  ·have hjl:=(List.getElem?_eq_some_iff.1 hgj).1
   have gr:∀t,(hh++t)[j]?=some (.row 1 (xs.map fun x=>[.p (.int .i64 x)])):=fun t=>by rw[List.getElem?_append_left hjl];exact hgj
   have ht:List.take xs.length (xs.map fun x=>[AV.p (.int .i64 x)])=xs.map fun x=>[AV.p (.int .i64 x)]:=List.take_of_length_le (by simp)
   simp-implicitDefEqProofs[gr]
   refine⟨⟨by omega,by omega⟩,?_⟩
   refine⟨_,(d++[AO.row 1 [[AV.p (.int .i64 n)]]]).set (j-h1.length) AO.dead++[AO.row 1 ((xs.map fun x=>[AV.p (.int .i64 x)])++[[AV.p (.int .i64 n)]])],hh.length+1,rfl,rfl,rfl,by simp[Aw.look],?_,by rw[I.pre];simp;omega,?_⟩
   ·rw[ht,I.pre,List.append_assoc,List.set_append_right _ _ hj,List.append_assoc]
   ·simp[dN,ht]
 rintro x ts' h2 S8 φ8 e8 a8 w8 ⟨l,d2,j2,rfl,rfl,l6,l3,e2,hj2,hg2⟩ hx s9 K9
 cases hx
 have fb9:=fb6.keep K9
 have fr9:=fr6.keep K9
 refine⟨⟨S8,φ8,h2,d2,xs++[n],.sl j2 1 0 (xs++[n]).length,seen.push e.born,clock,⟨s9.less ?_,by rw[fb9.2];exact hb6,by rw[fr9.2];exact hr6,Nat.le_refl _,fb9.1,fr9.1,e2,.inr ⟨j2,by simp,rfl,hj2,hg2⟩,hpp.symm.trans I.perm⟩⟩,?_⟩
 ·intro y hy
  rcases List.mem_cons.1 hy with rfl|hy
  ·exact l6
  ·rw[List.mem_singleton.1 hy];exact l3
 ·simp only[GC,I.hr,fr9.2,hr6]
  omega
end Go.Proofs.YtnjbhgpbgmpkcaaGreatDoor
namespace Go.Proofs.YtnjbhgpbgmpkcaaGreatDoor
open Go Go.Aw
set_option maxRecDepth 100000
set_option maxHeartbeats 4000000
def pu(s:List Nat):List (PV × AV):=s.map fun(k:Nat)=>(PV.int .i64 (k:Int),AV.p (.bool true))
theorem xd(n:Nat):∀s:List Nat,dQ (.int .i64 (n:Int)) (pu s)=some (if n∈s then some (AV.p (.bool true)) else none)
 |[]=>rfl
 |k::r=>by
  have ih:=xd n r
  by_cases h:n=k
  ·subst h;simp[pu,dQ,keq]
  ·have h':¬(n:Int)=(k:Int):=by omega
   simp only[pu,List.map_cons,dQ,keq,h',decide_false]
   simp only[pu] at ih
   simp[ih,h,h']
theorem wo(n:Nat):∀s:List Nat,n∉s→gw (.int .i64 (n:Int)) (.p (.bool true)) (pu s)=some (pu (s++[n]))
 |[],_=>rfl
 |k::r,hn=>by
  simp only[List.mem_cons,not_or] at hn
  have ih:=wo n r hn.2
  have h':¬(n:Int)=(k:Int):=by omega
  simp only[pu,List.map_cons,List.cons_append,gw,keq,h',decide_false]
  simp only[pu] at ih
  simp[ih,h']
def VH(l:List Fd)(m:Int)(s:List Nat):List AO:=[.row 1 [[.p (fdL l)]],.row 1 [[.p (.int .i64 m)]],.row 1 [[.fn (.func bj) [.ptr 0 1 0 0]]],.mp (pu s),.row 1 [[.mp 3]],.row 1 [[.fn (.func bY) [.ptr 4 1 0 0,.ptr 2 1 0 0,.ptr 5 1 0 0]]]]
theorem zm(l:List Fd)(m:Int)(s:List Nat):∀o∈VH l m s,okO (VH l m s).length o:=by
 have hm:okO 6 (.mp (pu s)):=by
  intro e he
  obtain⟨k,_,rfl⟩:=List.mem_map.1 he
  simp[below]
 have hlen:(VH l m s).length=6:=rfl
 rw[hlen]
 exact ae (by simp[okO,below]) (ae (by simp[okO,below]) (ae (by simp[okO,below,aj]) (ae hm (ae (by simp[okO,below]) (ae (by simp[okO,below,aj]) bA)))))
variable (G:aw)
theorem Aq(l:List Fd)(hz:bL l≤1073741824)(hc:cm l=0){k:Nat}(hk:k<l.length):VF Tryz.prog G dy [.agg [.p (fdL l)],.p (.int .i64 k)] (.p (eM (fF (ay l k)))):=by
 have hg:=List.getElem?_eq_getElem hk
 have e:ay l k=gU l l[k].body k:=by rw[ay,hg]
 have:=AC.mkFreeze (w:=dk) (qs:=[_]) gm (Ca G l hz hg)
 rw[e,←BC hc hg]
 exact this
theorem vb(l:List Fd)(hz:bL l≤1073741824)(hc:cm l=0){k:Nat}(hk:k<l.length){h:List AO}(h0:h[0]?=some (.row 1 [[.p (fdL l)]])):
 AC Tryz.prog G bj [.p (.int .i64 k),.ptr 0 1 0 0] h fun x h'=>x= .ret (.p (eM (fF (ay l k))))∧h'=h:=by
 refine AC.go pt ?_
 simp-implicitDefEqProofs[iZ,h0]
 refine(Aq G l hz hc hk).use ?_
 simp-implicitDefEqProofs[]
theorem FT(l:List Fd)(hz:bL l≤1073741824)(hc:cm l=0)(m:Int):∀(f n:Nat) (s:List Nat),n<f→n<l.length→
 AC Tryz.prog G bY [.p (.int .i64 n),.ptr 4 1 0 0,.ptr 2 1 0 0,.ptr 5 1 0 0] (VH l m s) fun x h=>x= .ret (.tup [])∧h=VH l m (gG (ay l) f n s):=by
 intro f
 induction f with
 |zero=>intro n s h;omega
 |succ f ih=>
  intro n s hn hl
  have hgm:=xd n s
  have hvh:∀s,VH l m s=[.row 1 [[.p (fdL l)]],.row 1 [[.p (.int .i64 m)]],.row 1 [[.fn (.func bj) [.ptr 0 1 0 0]]],.mp (pu s),.row 1 [[.mp 3]],.row 1 [[.fn (.func bY) [.ptr 4 1 0 0,.ptr 2 1 0 0,.ptr 5 1 0 0]]]]:=fun _=>rfl
  refine AC.go qe ?_
  by_cases hin:n∈s
  ·rw[gG,if_pos hin]
   simp-implicitDefEqProofs[gd,hvh,hgm,hin]
  ·rw[gG,if_neg hin]
   have hsm:=wo n s hin
   have hnd:=vb G l hz hc hl (h:=VH l m (s++[n])) rfl
   have hcl:∀k∈ay l n,k<n:=kj l n
   have hys:fF (ay l n)=(ay l n).map fun(k:Nat)=>(k:Int):=rfl
   have hll:=br l
   have hcc:(ay l n).length≤n:=by
    unfold ay
    split
    ·exact lH l _ n
    ·simp
   generalize ay l n=ys at*
   simp-implicitDefEqProofs[gd,hvh,hgm,hin,hsm]
   rw[←hvh]
   refine hnd.mono ?_
   rintro x h ⟨rfl,rfl⟩
   have hnum:∀l,eM l= .lst 1 (l.map fun w=>[.int .i64 w]):=fun _=>rfl
   simp-implicitDefEqProofs[aa,hnum,hys]
   refine aq (fun i:Nat=>af 25 [(1,.ptr 4 1 0 0),(2,.ptr 2 1 0 0),(3,.ptr 5 1 0 0),(15,.p (eM (fF ys))),(16,.p (.int .i64 ys.length)),(17,.p (.int .i64 i))]) (fun i=>VH l m ((ys.take i).foldl (fun s k=>gG (ay l) f k s) (s++[n]))) (fun i=>i≤ys.length) (fun i=>ys.length-i) 0 (by simp) ?_ ?_
   ·refine ab (show 6≤6 from Nat.le_refl 6) (zm l m _) ?_
    rw[hvh]
    simp[below,hnum,hys]
   intro i hi
   simp-implicitDefEqProofs[hnum,hys]
   refine aQ (fun h1=>?_) (fun h1=>?_)
   ·simp at h1
    have hg:=List.getElem?_eq_getElem h1
    have hlt:=hcl _ (List.getElem_mem h1)
    have hT:(ys.take (i+1)).foldl (fun s k=>gG (ay l) f k s) (s++[n])=gG (ay l) f ys[i] ((ys.take i).foldl (fun s k=>gG (ay l) f k s) (s++[n])):=by
     rw[ah h1,List.foldl_append];rfl
    generalize ys[i]=y at hg hlt hT
    have hv:=ih y ((ys.take i).foldl (fun s k=>gG (ay l) f k s) (s++[n])) (by omega) (by omega)
    generalize (ys.take i).foldl (fun s k=>gG (ay l) f k s) (s++[n])=t at hv hT⊢
    simp-implicitDefEqProofs[hg,hvh]
    rw[←hvh]
    refine hv.mono ?_
    rintro x h ⟨rfl,rfl⟩
    simp-implicitDefEqProofs[aa]
    refine⟨i+1,h1,by omega,?_⟩
    rw[hT]
    refine ab (show 6≤6 from Nat.le_refl 6) (zm l m _) ?_
    rw[hvh]
    simp[below,hnum,hys,w1 (i:=i) (by omega)]
   ·simp at h1
    have hie:i=ys.length:=by omega
    subst hie
    rw[List.take_length]
    simp-implicitDefEqProofs[]
    exact hvh _
theorem Bu(l:List Fd)(hz:bL l≤1073741824)(hc:cm l=0)(h1:1≤l.length):AC Tryz.prog G ib [.sl 1 1 0 1,.fn (.func bj) [.ptr 0 1 0 0]] [.row 1 [[.p (fdL l)]],.row 1 [[.p (.int .i64 ((l.length-1:Nat):Int))]]] fun x h=>
 (x= .ret .nils∧dG (ay l) l.length=[])∨∃j,x= .ret (.sl j 1 0 (fF (dG (ay l) l.length)).length)∧h[j]?=some (dN (fF (dG (ay l) l.length))):=by
 refine AC.go sJ ?_
 have hll:=br l
 have hvh:∀s,VH l ((l.length-1:Nat):Int) s=[.row 1 [[.p (fdL l)]],.row 1 [[.p (.int .i64 ((l.length-1:Nat):Int))]],.row 1 [[.fn (.func bj) [.ptr 0 1 0 0]]],.mp (pu s),.row 1 [[.mp 3]],.row 1 [[.fn (.func bY) [.ptr 4 1 0 0,.ptr 2 1 0 0,.ptr 5 1 0 0]]]]:=fun _=>rfl
 have hv:=FT G l hz hc ((l.length-1:Nat):Int) l.length (l.length-1) [] (by omega) (by omega)
 have hsn:gG (ay l) l.length (l.length-1) []=qn (ay l) l.length:=rfl
 rw[hsn] at hv
 have hpm:=uo (kj l) h1 (List.Perm.refl _)
 have hnl:(qn (ay l) l.length).length≤l.length:=by
  have e:=congrArg List.length hpm
  rw[List.length_mergeSort,fF,fF,List.length_map,List.length_map] at e
  have:=List.length_filter_le (bAt (ja (ay l) l.length)) (List.range l.length)
  rw[List.length_range] at this
  rw[e];exact this
 have hne:=fun(xs:List Int) (hp:xs.Perm (fF (qn (ay l) l.length)))=>uo (kj l) h1 hp
 generalize qn (ay l) l.length=sn at*
 generalize dG (ay l) l.length=nd at*
 have hsk:=vP G (h:=VH l ((l.length-1:Nat):Int) sn) (id:=3) (es:=pu sn) (ks:=fF sn) rfl (by simp[pu,fF]) (by rw[fF,List.length_map];omega)
 simp-implicitDefEqProofs[lZ]
 refine aq (fun i:Nat=>af 23 [(4,.nils),(5,.ptr 4 1 0 0),(6,.ptr 5 1 0 0),(11,.sl 1 1 0 1),(12,.p (.int .i64 1)),(13,.p (.int .i64 i))]) (fun i=>VH l ((l.length-1:Nat):Int) (if i=0 then[] else sn)) (fun i=>i≤1) (fun i=>1-i) 0 (by simp) ?_ ?_
 ·refine ab (h:=VH l ((l.length-1:Nat):Int) []) (show 2≤6 by omega) (zm l _ _) ?_
  show FgA 6 _ _
  simp[below]
 intro i hi
 have hw1:IntKind.i64.wrap 1=1:=al (by omega) (by omega)
 match i,hi with
 |0,_=>
  simp-implicitDefEqProofs[hvh]
  rw[←hvh]
  refine hv.mono ?_
  rintro x h ⟨rfl,rfl⟩
  simp-implicitDefEqProofs[aa]
  refine⟨1,by omega,by omega,?_⟩
  refine ab (show 2≤6 by omega) (zm l _ _) ?_
  show FgA 6 _ _
  simp[below,hw1]
 |1,_=>
  simp-implicitDefEqProofs[hvh]
  rw[←hvh]
  refine hsk.mono ?_
  rintro x h ⟨xs,d,hp,rfl,⟨rfl,rfl⟩|⟨j,rfl,hj,hg⟩⟩
  ·have e:=hne [] hp
   simp-implicitDefEqProofs[aa]
   have:fF nd=[]:=by rw[←e];simp
   simpa[fF] using this
  ·have e:=hne xs hp
   simp-implicitDefEqProofs[aa]
   rw[e] at hg
   have el:=congrArg List.length e
   rw[List.length_mergeSort] at el
   exact⟨j,⟨rfl,el⟩,hg⟩
variable (hK:G gE=some fW) (hS:G dq=some [.tbl opK opV])
include hK hS
def cw(l:List Fd):List Int:=if cm l=0 then fF (dG (ay l) l.length) else[]
theorem sm(l:List Fd)(hz:bL l≤1073741824):AC Tryz.prog G bM [.agg [.p (fdL l)]] [] (MkW dk true [eM (cw l)]):=by
 have key:AC Tryz.prog G bM [.agg [.p (fdL l)]] [] fun x h=>(x= .ret .nils∧cw l=[])∨∃j,x= .ret (.sl j 1 0 (cw l).length)∧h[j]?=some (dN (cw l)):=by
  refine AC.go qP ?_
  have hll:=br l
  have hfl:fdL l= .lst 3 (l.map Fd.cs):=rfl
  simp-implicitDefEqProofs[kN]
  refine(Hk G hK hS l hz).use ?_
  by_cases h0:cm l=0
  case neg=>
   have:cw l=[]:=if_neg h0
   simp-implicitDefEqProofs[h0,this]
  have hP:cw l=fF (dG (ay l) l.length):=if_pos h0
  have hp:=((vu l).1 h0).1
  obtain⟨⟨h1,_⟩,_,_⟩:=(rr l).1 hp
  have h1l:1≤l.length:=by omega
  have hw:IntKind.i64.wrap ((l.length:Int)-1)=((l.length-1:Nat):Int):=by rw[al (by omega) (by omega)];omega
  have hcl:=Bu G l hz h0 h1l
  rw[hP]
  simp-implicitDefEqProofs[h0,hfl,hw]
  refine hcl.mono ?_
  rintro x h (⟨rfl,e⟩|⟨j,rfl,hg⟩)
  ·simp-implicitDefEqProofs[aa]
   simp[fF,e]
  ·simp-implicitDefEqProofs[aa]
   exact hg
 refine key.wk (fun t v h hh=>?_) fun v h hh=>?_
 ·rcases hh with⟨e,_⟩|⟨_,e,_⟩<;>cases e
 rcases hh with⟨e,hn⟩|⟨id,e,hid⟩
 ·cases e
  rw[hn]
  exact⟨.nils,h,oa (jT h),[.nils],[],rfl,.nils 1 .nil,List.nodup_nil⟩
 ·cases e
  exact⟨_,h,oa (jT h),[.sl id 1 0 (cw l).length],[id],rfl,pG hid rfl,by simp⟩
theorem yH(l:List Fd)(hz:bL l≤1073741824):VF Tryz.prog G bM [.agg [.p (fdL l)]] (.p (eM (cw l))):=
 AC.mkFreeze (w:=dk) (qs:=[_]) gm (sm G hK hS l hz)
end Go.Proofs.YtnjbhgpbgmpkcaaGreatDoor
namespace Go.Proofs.YtnjbhgpbgmpkcaaGreatDoor
open Go Go.Aw
set_option maxRecDepth 100000
set_option maxHeartbeats 4000000
def pK(nd:List Bool):AO:= .row 1 (nd.map fun b=>[.p (.bool b)])
theorem fc(nd:List Bool):∀x∈nd.map fun b=>[AV.p (.bool b)],aj 0 x:=fun x hx=>by obtain⟨_,_,rfl⟩:=List.mem_map.1 hx;simp
theorem vV{nd:List Bool}{i:Nat}(h:i<nd.length):nd[i]?=some (bAt nd i):=by simp[bAt,h]
structure NdS where (j:Nat) (nd:List Bool)
variable (G:aw)
theorem yC(l:List Fd)(hz:bL l≤1073741824):VF Tryz.prog G eC [.agg [.p (fdL l)]] (.p (eM (cw l))):=by
 have key:AC Tryz.prog G eC [.agg [.p (fdL l)]] [] fun x h=>x= .ret (.sl 1 1 0 (cw l).length)∧h[1]?=some (nS (cw l)):=by
  refine AC.go qN ?_
  have hll:=br l
  have hfl:fdL l= .lst 3 (l.map Fd.cs):=rfl
  simp-implicitDefEqProofs[kK]
  refine(Cw G l hz).use ?_
  by_cases h0:cm l=0
  case neg=>
   have:cw l=[]:=if_neg h0
   simp-implicitDefEqProofs[h0,this,nS]
  have hP:cw l=fF (dG (ay l) l.length):=if_pos h0
  have hp:=((vu l).1 h0).1
  obtain⟨⟨h1,_⟩,_,_⟩:=(rr l).1 hp
  have h1l:1≤l.length:=by omega
  have hw:IntKind.i64.wrap ((l.length:Int)-1)=((l.length-1:Nat):Int):=by rw[al (by omega) (by omega)];omega
  have hdn:=kj l
  have hbo:∀nd,pK nd= .row 1 (nd.map fun b=>[.p (.bool b)]):=fun _=>rfl
  have hB:=sC hdn h1l
  rw[hP]
  have hrep:(List.replicate l.length [AV.p (.bool false)])[l.length-1]?=some [AV.p (.bool false)]:=by
   rw[List.getElem?_replicate,if_pos (by omega)]
  have hset:(List.replicate l.length [AV.p (.bool false)]).set (l.length-1) [AV.p (.bool true)]=(lv l.length).map fun b=>[AV.p (.bool b)]:=by
   rw[lv,List.map_set,List.map_replicate]
  simp-implicitDefEqProofs[h0,hfl,hw,hrep,hset]
  refine⟨by omega,by omega,?_⟩
  refine aq (fun a:NdS=>af 75 [(1,.ptr 0 1 0 0),(3,.sl 1 1 0 0),(4,.sl 2 1 0 l.length),(5,.p (.int .i64 ((a.j:Int)-1)))]) (fun a=>[.row 1 [[.p (fdL l)]],.row 1 [],pK a.nd]) (fun a=>a.j≤l.length∧a.nd.length=l.length∧sc (ay l) a.j a.nd=ja (ay l) l.length) (fun a=>a.j) ⟨l.length,lv l.length⟩ ⟨Nat.le_refl _,by simp[lv],rfl⟩ ?_ ?_
  ·refine ab (h:=[.row 1 [[.p (fdL l)]],.row 1 [],pK (lv l.length)]) (by simp) (ae (by simp[okO,below]) (ae (by simp[okO]) (ae (bx (fc _)) bA))) ?_
   simp[below]
   omega
  rintro⟨j,nd⟩ ⟨hj,hnl,hnd⟩
  simp only at hj hnl hnd
  simp-implicitDefEqProofs[hfl]
  refine aQ (fun hc=>?_) (fun hc=>?_)
  ·simp at hc
   obtain⟨k,rfl⟩:∃k,j=k+1:=⟨j-1,by omega⟩
   have hk1:((k+1:Nat):Int)-1=(k:Int):=by omega
   have hkl:k<l.length:=by omega
   have hg:=List.getElem?_eq_getElem hkl
   have hce:ay l k=gU l l[k].body k:=by rw[ay,hg]
   have hcal:=ze G hg hz
   rw[←hce] at hcal
   have hlt:=hdn k
   have hcl:(ay l k).length≤k:=by rw[hce];exact lH l _ k
   have hstep:pD (ay l) nd k=(ay l k).foldl (eZ k) nd:=rfl
   obtain⟨hb1,hb2⟩:=pk (ay l k) nd (fun i hi=>hlt i hi) (by omega)
   rw[sc,hstep] at hnd
   generalize hys:ay l k=ys at*
   have hnat:∀l,EY l= .lst 1 (l.map fun(n:Nat)=>[.int .i64 (n:Int)]):=fun _=>rfl
   simp-implicitDefEqProofs[hk1,hfl]
   refine hcal.use ?_
   simp-implicitDefEqProofs[]
   refine aq (fun i:Nat=>af 75 [(1,.ptr 0 1 0 0),(3,.sl 1 1 0 0),(4,.sl 2 1 0 l.length),(5,.p (.int .i64 k)),(6,.p (EY ys)),(7,.p (.int .i64 i))]) (fun i=>[.row 1 [[.p (fdL l)]],.row 1 [],pK ((ys.take i).foldl (eZ k) nd)]) (fun i=>i≤ys.length) (fun i=>ys.length-i) 0 (by simp) ?_ ?_
   ·refine ab (h:=[.row 1 [[.p (fdL l)]],.row 1 [],pK nd]) (by simp) (ae (by simp[okO,below]) (ae (by simp[okO]) (ae (bx (fc _)) bA))) ?_
    simp[below,hnat]
   intro i hi
   simp-implicitDefEqProofs[hnat]
   refine aQ (fun hci=>?_) (fun hci=>?_)
   ·simp at hci
    have hgi:=List.getElem?_eq_getElem hci
    have hyk:ys[i]<k:=hlt _ (List.getElem_mem hci)
    have hT:(ys.take (i+1)).foldl (eZ k) nd=eZ k ((ys.take i).foldl (eZ k) nd) ys[i]:=by rw[ah hci,List.foldl_append];rfl
    have hl2:((ys.take i).foldl (eZ k) nd).length=l.length:=by
     rw[(pk (ys.take i) nd (fun x hx=>hlt x (List.mem_of_mem_take hx)) (by omega)).1,hnl]
    generalize (ys.take i).foldl (eZ k) nd=md at hT hl2⊢
    generalize ys[i]=y at hgi hyk hT
    have g1:=vV (nd:=md) (i:=y) (by omega)
    have g2:=vV (nd:=md) (i:=k) (by omega)
    have hyl:y<l.length:=by omega
    have hyI:(y:Int)<(l.length:Int):=by omega
    have hkI:(k:Int)<(l.length:Int):=by omega
    have e1:eZ k md y=md.set y (bAt md y||bAt md k):=rfl
    have hset2:∀b:Bool,pK (md.set y b)= .row 1 ((md.map fun b=>[AV.p (.bool b)]).set y [AV.p (.bool b)]):=fun b=>by rw[pK,List.map_set]
    rw[e1] at hT
    cases hby:bAt md y with
    |true=>
     rw[hby] at g1 hT
     rw[Bool.true_or] at hT
     simp-implicitDefEqProofs[hgi,hbo,g1,hyl,hyI]
     refine⟨i+1,hci,by omega,?_⟩
     have hok:okO 3 (pK (md.set y true)):=bx (fc _)
     rw[hset2] at hok
     rw[hT,List.map_set]
     refine ab (h:=[.row 1 [[.p (fdL l)]],.row 1 [],.row 1 ((md.map fun b=>[AV.p (.bool b)]).set y [AV.p (.bool true)])]) (by simp) (ae (by simp[okO,below]) (ae (by simp[okO]) (ae hok bA))) ?_
     simp[below,hnat,w1 (i:=i) (by omega)]
    |false=>
     rw[hby] at g1 hT
     rw[Bool.false_or] at hT
     generalize bAt md k=bk at g2 hT
     simp-implicitDefEqProofs[hgi,hbo,g1,g2,hyl,hyI,hkI,hkl]
     refine⟨i+1,hci,by omega,?_⟩
     have hok:okO 3 (pK (md.set y bk)):=bx (fc _)
     rw[hset2] at hok
     rw[hT,List.map_set]
     refine ab (h:=[.row 1 [[.p (fdL l)]],.row 1 [],.row 1 ((md.map fun b=>[AV.p (.bool b)]).set y [AV.p (.bool bk)])]) (by simp) (ae (by simp[okO,below]) (ae (by simp[okO]) (ae hok bA))) ?_
     simp[below,hnat,w1 (i:=i) (by omega)]
   ·simp at hci
    have hie:i=ys.length:=by omega
    subst hie
    rw[List.take_length]
    have hwk:IntKind.i64.wrap ((k:Int)-1)=(k:Int)-1:=al (by omega) (by omega)
    simp-implicitDefEqProofs[hwk]
    refine⟨⟨k,ys.foldl (eZ k) nd⟩,⟨by simp only;omega,by simp only;rw[hb1,hnl],hnd⟩,by simp only;omega,?_⟩
    refine ab (h:=[.row 1 [[.p (fdL l)]],.row 1 [],pK (ys.foldl (eZ k) nd)]) (by simp) (ae (by simp[okO,below]) (ae (by simp[okO]) (ae (bx (fc _)) bA))) ?_
    simp[below]
  ·simp at hc
   have hj0:j=0:=by omega
   subst hj0
   have hnd':nd=ja (ay l) l.length:=hnd
   have hft:∀i,i<nd.length→(List.range (i+1)).filter (bAt nd)=(List.range i).filter (bAt nd)++if bAt nd i=true then[i] else[]:=fun i _=>by
    rw[List.range_succ,List.filter_append]
    congr 1
    cases h:bAt nd i<;>simp[h]
   have hfl2:∀i,((List.range i).filter (bAt nd)).length≤i:=fun i=>by
    have:=List.length_filter_le (bAt nd) (List.range i)
    rwa[List.length_range] at this
   simp-implicitDefEqProofs[]
   refine aq (fun i:Nat=>af 75 [(1,.ptr 0 1 0 0),(3,.sl 1 1 0 ((List.range i).filter (bAt nd)).length),(4,.sl 2 1 0 l.length),(8,.p (.int .i64 i))]) (fun i=>[.row 1 [[.p (fdL l)]],tN ((List.range i).filter (bAt nd)),pK nd]) (fun i=>i≤l.length) (fun i=>l.length-i) 0 (by simp) ?_ ?_
   ·refine ab (h:=[.row 1 [[.p (fdL l)]],.row 1 [],pK nd]) (by simp) (ae (by simp[okO,below]) (ae (by simp[okO]) (ae (bx (fc _)) bA))) ?_
    simp[below]
   intro i hi
   simp-implicitDefEqProofs[]
   refine aQ (fun hci=>?_) (fun hci=>?_)
   ·simp at hci
    have g1:=vV (nd:=nd) (i:=i) (by omega)
    have hT:=hft i (by omega)
    have hL:=hfl2 i
    have hno:∀l,tN l= .row 1 (l.map fun(n:Nat)=>[.p (.int .i64 (n:Int))]):=fun _=>rfl
    generalize (List.range i).filter (bAt nd)=c at hT hL⊢
    generalize bAt nd i=bi at g1 hT
    cases bi with
    |true=>
     rw[if_pos rfl] at hT
     simp-implicitDefEqProofs[hbo,g1,hno]
     refine⟨hci,⟨by omega,by omega⟩,i+1,hci,by omega,?_⟩
     have htk:List.take c.length (c.map fun(n:Nat)=>[AV.p (.int .i64 (n:Int))])=c.map fun(n:Nat)=>[AV.p (.int .i64 (n:Int))]:=List.take_of_length_le (by simp)
     rw[hT,htk,List.map_append]
     refine dw [0,4,2] rfl (by decide) (bf rfl (by simp) (bf rfl (fun x hx=>?_) (bf rfl (fun x hx=>fc _ x hx) bp))) (by simp[below,ren,w1 (i:=i) (by omega)])
     rcases List.mem_append.1 hx with h|h
     ·exact gZ _ x h
     ·exact gZ _ x h
    |false=>
     rw[if_neg (by simp),List.append_nil] at hT
     simp-implicitDefEqProofs[hbo,g1,hno]
     refine⟨hci,i+1,hci,by omega,?_⟩
     rw[hT]
     exact ab (h:=[.row 1 [[.p (fdL l)]],tN c,pK nd]) (by simp) (ae (by simp[okO,below]) (ae (bx (gZ _)) (ae (bx (fc _)) bA))) (by simp[below,w1 (i:=i) (by omega)])
   ·simp at hci
    have hie:i=l.length:=by omega
    subst hie
    have hN:(List.range l.length).filter (bAt nd)=dG (ay l) l.length:=by rw[dG,hnd']
    rw[hN]
    simp-implicitDefEqProofs[]
    simp[fF,tN,nS]
 refine key.freezeR (fun t v h ⟨e,_⟩=>by cases e) fun v h ⟨e1,e2⟩=>?_
 cases e1
 exact .one (Bv e2) .nil
end Go.Proofs.YtnjbhgpbgmpkcaaGreatDoor
namespace Go.Proofs.YtnjbhgpbgmpkcaaGreatDoor
open Go Go.Aw
set_option maxRecDepth 100000
set_option maxHeartbeats 4000000
variable (G:aw)
theorem BT(xs:List Int)(hb:xs.length≤1048576):VF Tryz.prog G eh [.p (eM xs),.p (eM xs)] (.p (.bool true)):=by
 refine AC.go tV ?_
 have hsl:∀l,eM l= .lst 1 (l.map fun w=>[.int .i64 w]):=fun _=>rfl
 simp-implicitDefEqProofs[mU,hsl]
 refine aq (fun i:Nat=>af 26 [(0,.p (eM xs)),(1,.p (eM xs)),(5,.p (.int .i64 i))]) (fun _=>[]) (fun i=>i≤xs.length) (fun i=>xs.length-i) 0 (by simp) ?_ ?_
 ·exact aD rfl (by simp[below,eM])
 intro i hi
 simp-implicitDefEqProofs[hsl]
 refine aQ (fun h1=>?_) (fun h1=>?_)
 ·simp at h1
  have hg:xs[i]?=some xs[i]:=List.getElem?_eq_getElem h1
  generalize xs[i]=x at hg
  simp-implicitDefEqProofs[hg]
  refine⟨i+1,by omega,by omega,aD rfl ?_⟩
  simp[below,eM,w1 (i:=i) (by omega)]
 ·simp at h1
  simp-implicitDefEqProofs[]
theorem wz{h:List AO}:∀{ps:List Int} {vs:List AV} {J:List Nat},OwnL true h vs (ps.map (PV.int .i64)) J→vs=ps.map (fun w=> .p (.int .i64 w))∧J=[]
 |[],vs,J,H=>by
  cases H
  exact⟨rfl,rfl⟩
 |w::r,vs,J,H=>by
  rw[List.map_cons] at H
  cases H with
  |p _ _ H=>
   obtain⟨e1,e2⟩:=wz H
   exact⟨by rw[e1];rfl,e2⟩
theorem uk:∀ps:List Int,(ps.map fun w=>[PV.int .i64 w]).flatten=ps.map (PV.int .i64)
 |[]=>rfl
 |w::r=>by rw[List.map_cons,List.flatten_cons,uk r];rfl
theorem Hj(h:List AO)(v:AV)(I:List Nat)(ps:List Int)(k:Nat)(ho:OwnL true h [v] [eM ps] I)(nd:I.Nodup)(hk:k+ps.length≤1152921504606846976):
 AC Tryz.prog G eB [v,.p (.int .i64 k)] h (Mkd h v I (eM (kV k ps.length)) (.int .i64 ((k+ps.length:Nat):Int))):=by
 rcases ho.inv nd with⟨h0,rfl,rfl|rfl⟩|⟨h0,_⟩|⟨id,rows,J,rfl,rfl,hr⟩
 ·have hl0:ps=[]:=List.map_eq_nil_iff.1 h0
  subst hl0
  refine AC.go eG ?_
  have hst:Mkd h .nils [] (eM (kV k 0)) (.int .i64 ((k+0:Nat):Int)) (.ret (.p (.int .i64 k))) h:=⟨rfl,.nils 1 .nil,fun _ _ _=>rfl,Nat.le_refl _⟩
  simp-implicitDefEqProofs[eE]
  refine aq (fun _:Unit=>af 19 [(0,.nils),(1,.p (.int .i64 k)),(5,.p (.int .i64 0))]) (fun _=>h) (fun _=>True) (fun _=>0) () trivial (aP (Nat.le_refl _) (by simp[below])) ?_
  intro _ _
  simp-implicitDefEqProofs[]
  exact hst
 ·have hl0:ps=[]:=List.map_eq_nil_iff.1 h0
  subst hl0
  refine AC.go eG ?_
  have hst:Mkd h (.p (.lst 1 [])) [] (eM (kV k 0)) (.int .i64 ((k+0:Nat):Int)) (.ret (.p (.int .i64 k))) h:=⟨rfl,.p _ (fun _=>rfl) .nil,fun _ _ _=>rfl,Nat.le_refl _⟩
  simp-implicitDefEqProofs[eE]
  refine aq (fun _:Unit=>af 19 [(0,.p (.lst 1 [])),(1,.p (.int .i64 k)),(5,.p (.int .i64 0))]) (fun _=>h) (fun _=>True) (fun _=>0) () trivial (aP (Nat.le_refl _) (by simp[below])) ?_
  intro _ _
  simp-implicitDefEqProofs[]
  exact hst
 ·cases h0
 rw[List.length_map]
 have hown:=hr.own
 have hfl:(ps.map fun w=>[PV.int .i64 w]).flatten=ps.map (PV.int .i64):=uk ps
 rw[hfl] at hown
 obtain⟨e1,e2⟩:=wz hown
 subst e2
 have e3:=td e1 hr.rl
 have hh:h[id]?=some (nS ps):=by rw[hr.here,e3,List.map_map];rfl
 refine(yG G hh hk).mono ?_
 rintro x h' ⟨rfl,rfl⟩
 have hid:id<h.length:=hr.lt
 refine⟨rfl,pG (List.getElem?_set_self hid) (by simp[wI]),fun j hj hn=>?_,by simp⟩
 simp at hn
 exact List.getElem?_set_ne fun e=>hn e.symm
end Go.Proofs.YtnjbhgpbgmpkcaaGreatDoor
namespace Go.Proofs.YtnjbhgpbgmpkcaaGreatDoor
open Go Go.Aw
set_option maxRecDepth 100000
mutual
theorem Ex.parts_szI:∀e:Ex,e.parts≤e.sz
 | .mk _ _ w k=>by
   have:=tj k
   rw[Ex.parts_eq,Ex.sz_eq]
   simp only[Ex.kids,Ex.name]
   omega
theorem tj:∀l:List Ex,aB l≤bv l
 |[]=>by simp[aB]
 |e::r=>by
  have h1:=Ex.parts_szI e
  have h2:=tj r
  rw[aB,bv]
  omega
end
mutual
theorem Sm.mq_sz:∀s:Sm,s.mq≤3*s.sz
 | .mk _ w a b e=>by
   have h1:=tj a
   have h2:=og b
   have h3:=og e
   rw[Sm.mq_eq,Sm.sz_eq]
   simp only[Sm.args,Sm.body,Sm.els,Sm.name]
   omega
theorem og:∀l:List Sm,bN l≤3*au l
 |[]=>by simp[bN]
 |s::r=>by
  have h1:=Sm.mq_sz s
  have h2:=og r
  rw[bN,au]
  omega
end
theorem wH:∀l:List Fd,cC l≤3*bL l
 |[]=>by simp[cC]
 |f::r=>by
  have h1:=og f.body
  have h2:=wH r
  have e1:bL (f::r)=f.sz+bL r:=by simp[bL]
  have e2:cC (f::r)=f.mq+cC r:=by simp[cC]
  have e3:f.mq=1+f.params.length+bN f.body:=rfl
  have e4:f.sz=1+f.name.length+(f.params.length+(f.params.map List.length).sum)+au f.body:=rfl
  omega
end Go.Proofs.YtnjbhgpbgmpkcaaGreatDoor
namespace Go.Proofs.YtnjbhgpbgmpkcaaGreatDoor
open Go Go.Aw
set_option maxRecDepth 100000
set_option maxHeartbeats 4000000
variable (G:aw)
def PshF(s:Bool)(sz:Nat)(D:List (List PV))(h0:List AO)(a:PshS):Prop:=a.i≤D.length∧h0.length≤a.id∧h0.length≤a.h.length∧(∀j,j<h0.length→a.h[j]?=h0[j]?)∧∃rows J,RowOwn s a.h a.id sz rows (D.take a.i) J∧∀j∈J,h0.length≤j
theorem xR{h h2:List AO}(hl:h.length≤h2.length)(hf:∀j,j<h.length→h2[j]?=h[j]?):h2=h++h2.drop h.length:=by
 have e:h2.take h.length=h:=by
  apply List.ext_getElem?
  intro j
  by_cases hj:j<h.length
  ·rw[List.getElem?_take_of_lt hj];exact hf j hj
  ·rw[List.getElem?_eq_none (by rw[List.length_take];omega),List.getElem?_eq_none (by omega)]
 have e2:=List.take_append_drop h.length h2
 rw[e] at e2
 exact e2.symm
theorem PshF.init{s:Bool}{sz:Nat}{D:List (List PV)}(h0 os:List AO):PshF s sz D h0 ⟨0,h0.length,h0++ .row sz []::os⟩:=
 ⟨Nat.zero_le _,Nat.le_refl _,by simp,fun j hj=>List.getElem?_append_left hj,[],[],⟨by simp,rfl,fun _ h=>(by cases h),fun _ h=>(by cases h),.nil,by simp⟩,fun j hj=>by cases hj⟩
theorem PshF.step{s:Bool}{sz i id:Nat}{D:List (List PV)}{h0 h:List AO}(H:PshF s sz D h0 ⟨i,id,h⟩){e:List PV}(hi:D[i]?=some e){h2:List AO}(hl:h.length≤h2.length)(hf:∀j,j<h.length→h2[j]?=h[j]?){r':List AV}{I2:List Nat}(ho:OwnL s h2 r' e I2)(nd2:I2.Nodup)(hn:∀j∈I2,h.length≤j)(he:e.length=sz):
 ∃rows,(∀os,(h2++os)[id]?=some (.row sz rows))∧rows.length=i∧i<D.length∧id<h2.length∧∀os1 os2,PshF s sz D h0 ⟨i+1,(h2++os1).length,(h2++os1).set id .dead++ .row sz (rows++[r'])::os2⟩:=by
 obtain⟨h1,h3,h4,h5,rows,J,hr,hJ⟩:=H
 have hil:i<D.length:=(List.getElem?_eq_some_iff.1 hi).1
 have hlen:=hr.len
 simp only at h1 h3 h4 h5 hlen hr
 rw[List.length_take,Nat.min_eq_left h1] at hlen
 have e2:=xR hl hf
 have hid:=hr.lt
 have h2e:h2[id]?=some (.row sz rows):=by rw[hf id hid];exact hr.here
 refine⟨rows,fun os=>by rw[List.getElem?_append_left (by omega)];exact h2e,hlen,hil,by omega,fun os1 os2=>⟨hil,by simp only[List.length_append];omega,by simp;omega,fun j hj=>?_,rows++[r'],J++I2,?_,fun j hj=>?_⟩⟩
 ·simp only
  rw[List.getElem?_append_left (by simp only[List.length_set,List.length_append,List.length_cons];omega),List.getElem?_set_ne (by omega),List.getElem?_append_left (by omega),hf j (by omega)]
  exact h5 j hj
 ·have hp:=(hr.push (h2:=h2++os1) (os:=h2.drop h.length++os1) (by rw[←List.append_assoc,←e2]) (ho.more os1) nd2 hn he).more os2
  have hd:D.take i++[e]=D.take (i+1):=by rw[List.take_add_one,hi];rfl
  rw[hd,List.append_assoc] at hp
  exact hp
 ·rcases List.mem_append.1 hj with hj|hj
  ·exact hJ j hj
  ·have:=hn j hj;omega
theorem PshF.done{s:Bool}{sz i id:Nat}{D:List (List PV)}{h0 h:List AO}(H:PshF s sz D h0 ⟨i,id,h⟩)(hi:D.length≤i):h0.length≤h.length∧(∀j,j<h0.length→h[j]?=h0[j]?)∧∃I,OwnL s h [.sl id sz 0 i] [.lst sz D] I∧I.Nodup∧∀j∈I,h0.length≤j:=by
 obtain⟨h1,h3,h4,h5,rows,J,hr,hJ⟩:=H
 simp only at h1 h3 h4 h5 hr
 rw[List.take_of_length_le hi] at hr
 exact⟨h4,h5,id::J,hr.tree (by omega),hr.nd,fun j hj=>by
  rcases List.mem_cons.1 hj with rfl|hj
  ·exact h3
  ·exact hJ j hj⟩
end Go.Proofs.YtnjbhgpbgmpkcaaGreatDoor
namespace Go.Proofs.YtnjbhgpbgmpkcaaGreatDoor
open Go Go.Aw
set_option maxRecDepth 100000
set_option maxHeartbeats 4000000
variable (G:aw)
def Fd.more(f:Fd):Fd:=⟨f.name,f.params,f.body++[⟨1,[122,113],[⟨1,0,[],[]⟩],[],[]⟩]⟩
variable (hK:G gE=some fW) (hS:G dq=some [.tbl opK opV])
include hK hS
end Go.Proofs.YtnjbhgpbgmpkcaaGreatDoor
namespace Go.Proofs.YtnjbhgpbgmpkcaaGreatDoor
open Go Go.Aw
set_option maxRecDepth 100000
set_option maxHeartbeats 4000000
theorem yO(l:List Fd):(cw l).length≤l.length:=by
 unfold cw
 split
 ·have:=List.length_filter_le (bAt (ja (ay l) l.length)) (List.range l.length)
  rw[List.length_range] at this
  rw[fF,List.length_map]
  exact this
 ·simp
variable (G:aw) (hK:G gE=some fW) (hS:G dq=some [.tbl opK opV])
include hK hS
theorem vF(l:List Fd)(hf:GG l):VF Tryz.prog G fA [.agg [.p (fdL l)]] (.p (.bool true)):=by
 refine AC.go kA ?_
 have hsz':VF Tryz.prog G dK [.agg [.p (fdL l)],.p (.int .i64 1048576)] (.p (.int .i64 (bs 1048576 (bL l)))):=wq G l hf 1048576 (Nat.le_refl _)
 simp-implicitDefEqProofs[fC]
 refine hsz'.use ?_
 by_cases hz:bL l≤1048576
 case neg=>
  rw[bm hz]
  simp-implicitDefEqProofs[]
 have hto:=we G l hz
 have hnn:¬((1048576-bL l:Nat):Int)<0:=by omega
 have hot:=fun h:List AO=>AC.mkLift rj (xC G l hz) (h:=h) (by simp)
 have hlen:(cw l).length≤1048576:=by
  have:=yO l
  have:=br l
  omega
 have hsp:=yC G l (by omega)
 have hic:=sm G hK hS l (by omega)
 have htc:=yH G hK hS l (by omega)
 generalize cw l=xs at*
 have hin:∀(h:List AO) (v:AV) (I:List Nat),OwnL true h [v] [fdL l] I→AC Tryz.prog G bM [.agg [v]] h (Mk dk true [eM xs] h):=fun h v I ho=>AC.mkLend gm hic (.agg ho.views .nil)
 rw[de hz]
 simp-implicitDefEqProofs[hnn]
 refine hto.use ?_
 simp-implicitDefEqProofs[]
 refine hsp.use ?_
 simp-implicitDefEqProofs[]
 refine(hot _).mono ?_
 rintro x h2 ⟨vs,I,os,rfl,e2,ho,nd,hf⟩
 obtain⟨v,rfl⟩:=cz ho
 obtain⟨c1,c2⟩:=dO ho
 have hl2:h2[0]?=some (.row 1 [[.p (fdL l)]]):=by rw[e2];rfl
 simp-implicitDefEqProofs[-AV.cells,-AV.isCell,jv,bB,cD,jr,bz,c1,c2,aa,hl2]
 refine(hin _ v I (ho.more _)).mono ?_
 rintro x h3 ⟨vs6,I6,os6,rfl,e3,ho6,nd6,hf6⟩
 obtain⟨v6,rfl⟩:=cz ho6
 obtain⟨c3,c4⟩:=dO ho6
 have hb0:h3[0]?=some (.row 1 [[.p (fdL l)]]):=by rw[e3,e2];rfl
 have hb5:h3[h2.length]?=some (.row 1 [[v]]):=by rw[e3];simp
 have ho3:OwnL true h3 [v] [fdL l] I:=by rw[e3];exact(ho.more _).more _
 have hlen3:h2.length<h3.length:=(List.getElem?_eq_some_iff.1 hb5).1
 have hI5:∀i∈I,i≠h2.length:=fun i hi e=>by have:=ho.lt hi;omega
 have hI0:∀i∈I,i≠0:=fun i hi e=>by have:=hf i hi;simp at this;omega
 have h6:∀i∈I6,h2.length<i:=fun i hi=>by have:=hf6 i hi;simp at this;omega
 have heq:=BT G xs hlen
 have hdl:=fun h v6 I6 (ho6:OwnL true h [v6] [eM xs] I6)=>heq.lend (h:=h) (args:=[v6,.p (eM xs)]) (.one (ho6.view 0 _ _ rfl rfl) (.keep (by simp[below]) .nil)) rfl
 simp-implicitDefEqProofs[dk,aa,hb5,hb0]
 refine(hdl _ v6 I6 ho6).mono ?_
 rintro x h4 ⟨rfl,rfl⟩
 simp-implicitDefEqProofs[aa,hb5,hb0]
 refine hto.use ?_
 simp-implicitDefEqProofs[aa,hb5,hb0]
 have hep:=fun h v I (ho:OwnL true h [v] [fdL l] I)=>(xB G l hz).lend (h:=h) (args:=[.agg [v],.agg [.p (fdL l)]]) (.agg ho.views (.keep (by simp[below]) .nil)) rfl
 refine(hep _ v I ho3).mono ?_
 rintro x h5 ⟨rfl,rfl⟩
 simp-implicitDefEqProofs[aa,hb5,hb0]
 have hQ:=wH l
 refine(tP G l _ v I 1 ho3 nd (by omega)).mono ?_
 rintro x h6' ⟨rfl,o7,f7,l7⟩
 have hnn7:¬(1:Int)+(cC l:Int)<0:=by omega
 have ho7:OwnL true h6' [v6] [eM xs] I6:=ho6.frame fun i hi=>f7 i (ho6.lt hi) fun hm=>by have:=h6 i hi;have:=ho.lt hm;omega
 have hb5':h6'[h2.length]?=some (.row 1 [[v]]):=by rw[f7 _ hlen3 fun hm=>hI5 _ hm rfl,hb5]
 have hb0':h6'[0]?=some (.row 1 [[.p (fdL l)]]):=by rw[f7 _ (by omega) fun hm=>hI0 _ hm rfl,hb0]
 clear hb5 hb0
 simp-implicitDefEqProofs[aa,hb5',hb0',hnn7]
 refine(hdl _ v6 I6 ho7).mono ?_
 rintro x h8 ⟨rfl,rfl⟩
 simp-implicitDefEqProofs[aa,hb5',hb0']
 refine(Hj G _ v6 I6 xs 1 ho7 nd6 (by omega)).mono ?_
 rintro x h9 ⟨rfl,o9,f9,l9⟩
 have hb0:h9[0]?=some (.row 1 [[.p (fdL l)]]):=by rw[f9 _ (by omega) fun hm=>by have:=h6 _ hm;omega,hb0']
 clear hb5' hb0'
 have hhe:=fun h v6 I6 (ho6:OwnL true h [v6] [eM (kV 1 xs.length)] I6)=>(yA G 1 xs.length (by omega)).lend (h:=h) (args:=[v6,.p (.int .i64 1)]) (.one (ho6.view 0 _ _ rfl rfl) (.keep (by simp[below]) .nil)) rfl
 have hnn9:¬(1:Int)+(xs.length:Int)<0:=by omega
 simp-implicitDefEqProofs[aa,hb0]
 refine(hhe _ v6 I6 o9).mono ?_
 rintro x h10 ⟨rfl,rfl⟩
 simp-implicitDefEqProofs[aa,hb0,hnn9]
 refine hto.use ?_
 simp-implicitDefEqProofs[]
 refine htc.use ?_
 simp-implicitDefEqProofs[]
 refine heq.use ?_
 simp-implicitDefEqProofs[aa,hb0,hnn9]
 refine(hhe _ v6 I6 o9).mono ?_
 rintro x h11 ⟨rfl,rfl⟩
 simp-implicitDefEqProofs[aa,hb0,hnn9]
end Go.Proofs.YtnjbhgpbgmpkcaaGreatDoor
