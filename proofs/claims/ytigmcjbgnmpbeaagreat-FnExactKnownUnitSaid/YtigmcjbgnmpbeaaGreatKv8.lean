/-
  Contracts and lemmas that the card needs, part 8.
-/
import Derived.Test.YtigmcjbgnmpbeaaGreatKv7
namespace Go.Proofs.YtigmcjbgnmpbeaaGreat
open Go Go.Aw
set_option maxRecDepth 100000
set_option maxHeartbeats 4000000
section
def mo(bs:List Bk):List (List Bool):=bs.map λx=>List.replicate x.next.length false
theorem Qw(c:Cd):WayR c [] (mo c.blocks):=by
 refine⟨by simp[mo],λb x hb=>⟨List.replicate x.next.length false,by simp[mo,hb],by simp,λt=>?_⟩⟩;constructor
 ·intro h;cases h
 ·rintro⟨i,h1,h2⟩;rw[Xi] at h2;split at h2<;>simp at h2
theorem OE(Y:List (List Bool))(l:List Bool):boT (Y++[l])= .lst 1 ((Y.map λl=>[boL l])++[[boL l]]):=by simp[boT]
theorem DQ(l:List Int)(n:Int):ah (l++[n])= .lst 1 ((l.map λn=>[PV.int .i64 n])++[[.int .i64 n]]):=by simp[ah]
theorem QV{c:Cd}{i:Nat}(h:i<c.regs.toNat):(ksC c).regs[i]?=some (if i<c.params.toNat then-1 else-2):=by
 show((List.replicate c.regs.toNat (-2)).mapIdx λi v=>if i<c.params.toNat then-1 else v)[i]?=_;rw[WH,Xi,Wz h];rfl
theorem Own.growL2{W os W3:List AO}{U V V':AV}{q:PV}{sz k:Nat}{D:List (List PV)}{r:List AV}{e:List PV}{I IA:List Nat}{o2:AO}(hV:Own (k+1) W [U,V] [q,.lst sz D] I)(hr:Own W.length (W++os) r e IA)(he:e.length=sz)(hp:Psh (W++os) V sz r W3 V')(h2:k<W.length):
 ∃I',Own (k+1) (W3.set k o2) [U,V'] [q,.lst sz (D++[e])] I'/\W.length<=(W3.set k o2).length/\(W3.set k o2)[k]?=some o2/\∀i,i<k->(W3.set k o2)[i]?=W[i]?:=by
 obtain⟨I',n1,n2⟩:=(hV.more os).psh2 (hr.low λj hj=>by have:=hr.ge j hj;omega) (λj hj hm=>by have:=hV.lt j hj;have:=hr.ge j hm;omega) he (by simp;omega) hp;have hl:=hp.len;simp only[Wn] at hl n2;refine⟨I',n1.frame λi hi=>Wd λe=>?_,by simp;omega,Wh (by omega),λi hi=>?_⟩
 ·have:=n1.ge i hi;omega
 ·rw[Wd (by omega)];rcases hp with⟨_,rfl,_⟩|⟨id,rows,m,rfl,e2,_,rfl,_⟩
  ·rw[Wb (by simp;omega),Wb (by omega)]
  ·obtain⟨_,_,I1,I2,e1,rfl,p1,p2⟩:=hV.one;cases e1
   have hid:k+1<=id:=by
    rcases p2.row with⟨e1,_⟩|⟨id2,rows2,J,e1,e2,_⟩
    ·cases e1
    ·cases e1;exact p2.ge id (by rw[e2];simp)
   rw[Wb (by simp;omega),Wd (by omega),Wb (by omega)]
def KpF(h X:List AO):Prop:=∀j,j<h.length->X[j]?=h[j]?
def NzV(n:Nat)(V:AV):Prop:=n=0->V= .nils
def Vc(h X:List AO)(V:AV)(S:KS)(Y:List (List Bool))(m:Bool):Prop:=∃r I,KW X (h.length+2) r (h.length+1) V I S Y m/\h.length+2<=r/\∀j∈I,h.length+3<=j
def Ve(c:Cd)(h:List AO)(w:Nat)(X:List AO):Prop:=∃r o Yv I Y m,KW X w r o Yv I (KF c) Y m/\h.length<=w/\h.length<=r/\h.length<=X.length/\KpF h X
structure RdkS where (k:Nat) (X:List AO) (Y:List (List Bool)) (m:Bool)
def VI(c:Cd)(k:Nat)(m:Bool):Prop:=m=false->∃j,k=j+1/\rndN c.blocks (ksC c) (j+1)=rndN c.blocks (ksC c) j
structure OfkS where (i:Nat) (X:List AO) (V:AV)
theorem EZ:AK.whole nK=FK.ak ny:=rfl
variable (G:aw)
theorem TN{h:List AO}{c:Cd}(hk:KFit c)(hv:CVal c)(hf:en 1073741824 c):
 AC Tryz.prog G ni [.agg (c.cs.map .p)] h λz h'=>∃w,z= .ret (.ptr w 4 0 0)/\Ve c h w h':=by
 have hc:CBd c:=⟨hf.1,λx hx=>(hf.2 x hx).next⟩;have hcs:=c.cs_eq2;have hbl:bkL c.blocks= .lst 5 (c.blocks.map Bk.cs):=rfl;have hp0:=hk.p0;have hpr:=hk.pr;have hr3:=hk.r3;have hcl:=hf.1;obtain⟨n,hn⟩:∃n:Nat,c.regs=(n:Int):=⟨c.regs.toNat,by omega⟩;have hnt:c.regs.toNat=n:=by omega
 have hrl:(ksC c).regs.length=n:=by simp[ksC,hnt]
 obtain⟨RC,hRC⟩:∃RC,RC=AO.row 3 [[.p (.int .i64 c.params),.p (.int .i64 n),.p (.lst 5 (c.blocks.map Bk.cs))]]:=⟨_,rfl⟩;refine AC.goK EA EZ ?_;simp[nK,ny,hcs,hbl,hn];refine⟨by omega,?_⟩
 refine dc (λa:OfkS=>aj 96 [(3,.ptr (h.length+2) 4 0 0),(1,.ptr h.length 3 0 0)]) (λa=>a.X)
  (λa=>a.X[h.length]?=some RC/\a.X[h.length+1]?=some (.row 1 (aG (List.replicate c.blocks.length false)))/\a.X[h.length+2]?=some (.row 4 [[a.V,.sl (h.length+1) 1 0 c.blocks.length,.nils,.p (.bool true)]])/\KpF h a.X/\NzV n a.V/\∃I,Own (h.length+3) a.X [a.V] [ah (ksC c).regs] I) ?_ ?_
 ·simp[]
  refine am (λa:OfkS=>aj 96 [(4,.p (.int .i64 a.i)),(3,.ptr (h.length+2) 4 0 0),(1,.ptr h.length 3 0 0)]) (λa=>a.X)
   (λa=>a.i<=n/\a.X[h.length]?=some RC/\a.X[h.length+1]?=some (.row 1 (aG (List.replicate c.blocks.length false)))/\a.X[h.length+2]?=some (.row 4 [[a.V,.sl (h.length+1) 1 0 c.blocks.length,.nils,.p (.bool true)]])/\KpF h a.X/\NzV n a.V/\∃I,Own (h.length+3) a.X [a.V] [ah ((ksC c).regs.take a.i)] I) (λa=>n-a.i) ⟨0,h++[RC,.row 1 (aG (List.replicate c.blocks.length false)),.row 4 [[.nils,.sl (h.length+1) 1 0 c.blocks.length,.nils,.p (.bool true)]]],.nils⟩ ⟨We _,by simp,by simp,by simp,λj hj=>Wb hj,λ_=>rfl,[],Own.nil _ _ 1⟩ ?_ ?_
  ·rw[hRC];have:aG (List.replicate c.blocks.length false)=List.replicate c.blocks.length [AV.p (.bool false)]:=by simp[aG]
   rw[this];exact aa (by simp) (by simp[below])
  rintro⟨i,X,V⟩ ⟨hi,g0,g1,g2,hkp,hnz,I,hV⟩;simp only at hi g0 g1 g2 hkp hnz hV;have g0c:=g0;rw[hRC] at g0c;have h0l:=(Wa.1 g0).1;have h2l:=(Wa.1 g2).1;obtain⟨v1,v2⟩:=hV.cell;simp[g0c];refine aA (λhcc=>?_) (λhcc=>?_)
  ·have hcc:i<n:=by simpa using hcc
   have hgi:=QV (c:=c) (i:=i) (by omega);have htk:(ksC c).regs.take (i+1)=(ksC c).regs.take i++[if i<c.params.toNat then-1 else-2]:=(by rw[WQ,hgi];rfl);generalize hL:(ksC c).regs.take i=L at hV htk;have hLl:L.length=i:=(by rw[←hL,WD];omega);have hwi:=w1 (i:=i) (by omega);have m0:∀t,(X++t)[h.length]?=some RC:=λt=>(by rw[Wb h0l];exact g0);simp[g0c];refine aA (λhpp=>?_) (λhpp=>?_)
   ·have hpp:(i:Int)<c.params:=(by simpa using hpp);rw[Wz (by omega)] at htk;have hOR:Own X.length (X++[AO.row 1 [[AV.p (.int .i64 (-1))]]]) [AV.p (.int .i64 (-1))] [.int .i64 (-1)] []:=vO _ _ _;have hnl2:=DQ L (-1);have hLm:(L.map λn=>[PV.int .i64 n]).length=i:=(by simp[hLl]);rcases hV.rowAt with⟨rfl,hz⟩|⟨f,rows,hVf,hg2,hrl2,hf3⟩
    ·obtain⟨IV',q1,q2,q3,q4⟩:=hV.growL (k:=h.length+2) (o2:= .row 4 [[.sl (X.length+1) 1 0 1,.sl (h.length+1) 1 0 c.blocks.length,.nils,.p (.bool true)]]) hOR rfl (.inl ⟨rfl,rfl,rfl⟩) h2l;have m2:∀t,(X++t)[h.length+2]?=some (.row 4 [[.nils,.sl (h.length+1) 1 0 c.blocks.length,.nils,.p (.bool true)]]):=λt=>(by rw[Wb h2l];exact g2);have m2e:=λt hh=>ag (m2 t) hh;rw[Wn,Xf,←hnl2,←htk] at q1;simp[-AV.cells,-AV.isCell,kR,iv,aO,eG,cI,g2,m2];simp only[Wp,Xt,Xj] at q1 q2 q3 q4;have hi0:i=0:=(by rw[←hLm];exact XQ.2 hz);refine⟨⟨i+1,_,_⟩,⟨hcc,(q4 _ (by omega)).trans g0,(q4 _ (by omega)).trans g1,q3,λj hj=>(q4 j (by omega)).trans (hkp j hj),λh=>by omega,IV',q1⟩,by simp only;omega,aa (by simp;omega) (by simp[below,hwi];omega)⟩
    ·rw[hLm] at hVf hrl2;subst hVf;have hfl:=(Wa.1 hg2).1;obtain⟨IV',q1,q2,q3,q4⟩:=hV.growL (k:=h.length+2) (o2:= .row 4 [[.sl (X.length+1) 1 0 (i+1),.sl (h.length+1) 1 0 c.blocks.length,.nils,.p (.bool true)]]) hOR rfl (.inr ⟨f,rows,i,rfl,(by rw[Wb hfl];exact hg2),hrl2,rfl,rfl⟩) h2l;rw[Wn,Xf,←hnl2,←htk] at q1;have m7:∀t,(X++t)[f]?=some (.row 1 rows):=λt=>(by rw[Wb hfl];exact hg2);have m8:∀t t',((X++t).set f .dead++t')[h.length+2]?=some (.row 4 [[.sl f 1 0 i,.sl (h.length+1) 1 0 c.blocks.length,.nils,.p (.bool true)]]):=λt t'=>(by rw[Wb (by simp;omega),Wd (by omega),Wb h2l];exact g2);have m8e:=λt t' hh=>ag (m8 t t') hh;have htk2:List.take i rows=rows:=Wi (by omega);simp[-AV.cells,-AV.isCell,kR,iv,aO,cI,g2,m7,m8,htk2,hrl2];refine⟨by omega,⟨i+1,_,_⟩,⟨hcc,(q4 _ (by omega)).trans g0,(q4 _ (by omega)).trans g1,q3,λj hj=>(q4 j (by omega)).trans (hkp j hj),λh=>by omega,IV',q1⟩,by simp only;omega,aa (by simp;omega) (by simp[below,hwi];omega)⟩
   ·have hpp:¬(i:Int)<c.params:=(by simpa using hpp);rw[WB (by omega)] at htk;have hOR:Own X.length (X++[AO.row 1 [[AV.p (.int .i64 (-2))]]]) [AV.p (.int .i64 (-2))] [.int .i64 (-2)] []:=vO _ _ _;have hnl2:=DQ L (-2);have hLm:(L.map λn=>[PV.int .i64 n]).length=i:=(by simp[hLl]);rcases hV.rowAt with⟨rfl,hz⟩|⟨f,rows,hVf,hg2,hrl2,hf3⟩
    ·obtain⟨IV',q1,q2,q3,q4⟩:=hV.growL (k:=h.length+2) (o2:= .row 4 [[.sl (X.length+1) 1 0 1,.sl (h.length+1) 1 0 c.blocks.length,.nils,.p (.bool true)]]) hOR rfl (.inl ⟨rfl,rfl,rfl⟩) h2l;have m2:∀t,(X++t)[h.length+2]?=some (.row 4 [[.nils,.sl (h.length+1) 1 0 c.blocks.length,.nils,.p (.bool true)]]):=λt=>(by rw[Wb h2l];exact g2);have m2e:=λt hh=>ag (m2 t) hh;rw[Wn,Xf,←hnl2,←htk] at q1;simp[-AV.cells,-AV.isCell,kR,iv,aO,eG,cI,g2,m2];simp only[Wp,Xt,Xj] at q1 q2 q3 q4;have hi0:i=0:=(by rw[←hLm];exact XQ.2 hz);refine⟨⟨i+1,_,_⟩,⟨hcc,(q4 _ (by omega)).trans g0,(q4 _ (by omega)).trans g1,q3,λj hj=>(q4 j (by omega)).trans (hkp j hj),λh=>by omega,IV',q1⟩,by simp only;omega,aa (by simp;omega) (by simp[below,hwi];omega)⟩
    ·rw[hLm] at hVf hrl2;subst hVf;have hfl:=(Wa.1 hg2).1;obtain⟨IV',q1,q2,q3,q4⟩:=hV.growL (k:=h.length+2) (o2:= .row 4 [[.sl (X.length+1) 1 0 (i+1),.sl (h.length+1) 1 0 c.blocks.length,.nils,.p (.bool true)]]) hOR rfl (.inr ⟨f,rows,i,rfl,(by rw[Wb hfl];exact hg2),hrl2,rfl,rfl⟩) h2l;rw[Wn,Xf,←hnl2,←htk] at q1;have m7:∀t,(X++t)[f]?=some (.row 1 rows):=λt=>(by rw[Wb hfl];exact hg2);have m8:∀t t',((X++t).set f .dead++t')[h.length+2]?=some (.row 4 [[.sl f 1 0 i,.sl (h.length+1) 1 0 c.blocks.length,.nils,.p (.bool true)]]):=λt t'=>(by rw[Wb (by simp;omega),Wd (by omega),Wb h2l];exact g2);have m8e:=λt t' hh=>ag (m8 t t') hh;have htk2:List.take i rows=rows:=Wi (by omega);simp[-AV.cells,-AV.isCell,kR,iv,aO,cI,g2,m7,m8,htk2,hrl2];refine⟨by omega,⟨i+1,_,_⟩,⟨hcc,(q4 _ (by omega)).trans g0,(q4 _ (by omega)).trans g1,q3,λj hj=>(q4 j (by omega)).trans (hkp j hj),λh=>by omega,IV',q1⟩,by simp only;omega,aa (by simp;omega) (by simp[below,hwi];omega)⟩
  ·have hcc:n<=i:=by simpa using hcc
   rw[Wi (by omega)] at hV;exact⟨⟨i,X,V⟩,⟨g0,g1,g2,hkp,hnz,I,hV⟩,aa (by omega) (by simp[below];omega)⟩
 rintro⟨i0,X0,R⟩ ⟨g0,g1,g2,hkp,hnz,IR,hR⟩;simp only at g0 g1 g2 hkp hnz hR
 refine dc (λa:OfkS=>aj 96 [(3,.ptr (h.length+2) 4 0 0),(1,.ptr h.length 3 0 0)]) (λa=>a.X)
  (λa=>a.X[h.length]?=some RC/\Vc h a.X a.V ⟨(ksC c).regs,List.replicate c.blocks.length false,[]⟩ (mo c.blocks) true/\KpF h a.X) ?_ ?_
 ·obtain⟨w1',w2'⟩:=hR.cell;have h0l:=(Wa.1 g0).1;have h2l:=(Wa.1 g2).1;simp[]
  refine am (λa:OfkS=>aj 96 [(5,.p (.int .i64 a.i)),(3,.ptr (h.length+2) 4 0 0),(1,.ptr h.length 3 0 0)]) (λa=>a.X)
   (λa=>a.i<=c.blocks.length/\a.X[h.length]?=some RC/\a.X[h.length+1]?=some (.row 1 (aG (List.replicate c.blocks.length false)))/\a.X[h.length+2]?=some (.row 4 [[R,.sl (h.length+1) 1 0 c.blocks.length,a.V,.p (.bool true)]])/\KpF h a.X/\∃I,Own (h.length+3) a.X [R,a.V] [ah (ksC c).regs,boT (mo (c.blocks.take a.i))] I) (λa=>c.blocks.length-a.i) ⟨0,X0,.nils⟩ ⟨We _,g0,g1,g2,hkp,IR++[],hR.app (Own.nil _ _ 1) (λj _ hm=>by cases hm)⟩ (aa (by omega) (by simp[below];omega)) ?_
  clear g0 g1 g2 hkp hR h0l h2l;rintro⟨i,X,V⟩ ⟨hi,g0,g1,g2,hkp,I,hV⟩;simp only at hi g0 g1 g2 hkp hV;have g0c:=g0;rw[hRC] at g0c;have h0l:=(Wa.1 g0).1;have h2l:=(Wa.1 g2).1;simp[g0c];refine aA (λhcc=>?_) (λhcc=>?_)
  ·have hcc:i<c.blocks.length:=by simpa using hcc
   have hgi:=Wc hcc;have htk:mo (c.blocks.take (i+1))=mo (c.blocks.take i)++[List.replicate (c.blocks[i]).next.length false]:=(by rw[mo,aq hcc,WF];rfl);have hmx:=hf.2 _ (Wm hcc);generalize c.blocks[i]=x at hgi htk hmx;have hxn:=hmx.next;have hxs:=x.cs_eq2;have hnl:ah x.next= .lst 1 (x.next.map λn=>[.int .i64 n]):=rfl;have hwl:(mo (c.blocks.take i)).length=i:=(by simp[mo];omega);generalize mo (c.blocks.take i)=L at hV htk hwl;have hwi:=w1 (i:=i) (by omega);have hbs:=OE L (List.replicate x.next.length false);rw[←htk] at hbs;have hLm:(L.map λl=>[boL l]).length=i:=(by simp[hwl]);have hbR:aG (List.replicate x.next.length false)=List.replicate x.next.length [AV.p (.bool false)]:=(by simp[aG]);obtain⟨R1,V1,I1,I2,e1,rfl,hR1,hV1⟩:=hV.one;cases e1;obtain⟨v1,v2⟩:=hV1.cell;obtain⟨u1,u2⟩:=hR1.cell;have m2:∀t,(X++t)[h.length+2]?=some (.row 4 [[R,.sl (h.length+1) 1 0 c.blocks.length,V,.p (.bool true)]]):=λt=>(by rw[Wb h2l];exact g2);have m2e:=λt hh=>ag (m2 t) hh;have hOR:Own X.length (X++[AO.row 1 (List.replicate x.next.length [AV.p (.bool false)]),AO.row 1 [[AV.sl X.length 1 0 x.next.length]]]) [AV.sl X.length 1 0 x.next.length] [boL (List.replicate x.next.length false)] [X.length]:=KR (by rw[hbR];simp) (Wo _) (by simp);rcases hV1.rowAt with⟨rfl,hz⟩|⟨f,rows,hVf,hg2,hrl2,hf3⟩
   ·obtain⟨IV',q1,q2,q3,q4⟩:=hV.growL2 (k:=h.length+2) (o2:= .row 4 [[R,.sl (h.length+1) 1 0 c.blocks.length,.sl (X.length+2) 1 0 1,.p (.bool true)]]) hOR rfl (.inl ⟨rfl,rfl,rfl⟩) h2l;rw[←hbs] at q1;simp only[Wp,Xt,Xj,Wn,WC,WL] at q1 q2 q3 q4;simp[-AV.cells,-AV.isCell,iv,aO,eG,cI,g0c,g2,hgi,hxs,hnl,m2];exact⟨by omega,⟨i+1,_,_⟩,⟨hcc,(q4 _ (by omega)).trans g0,(q4 _ (by omega)).trans g1,q3,λj hj=>(q4 j (by omega)).trans (hkp j hj),IV',q1⟩,by simp only;omega,aa (by simp;omega) (by simp[below,hwi];omega)⟩
   ·rw[hLm] at hVf hrl2;subst hVf;have hfl:=(Wa.1 hg2).1;obtain⟨IV',q1,q2,q3,q4⟩:=hV.growL2 (k:=h.length+2) (o2:= .row 4 [[R,.sl (h.length+1) 1 0 c.blocks.length,.sl (X.length+2) 1 0 (i+1),.p (.bool true)]]) hOR rfl (.inr ⟨f,rows,i,rfl,(by rw[Wb hfl];exact hg2),hrl2,rfl,rfl⟩) h2l;rw[←hbs] at q1;simp only[Wn,WC,WL] at q1;have m7:∀t,(X++t)[f]?=some (.row 1 rows):=λt=>(by rw[Wb hfl];exact hg2);have m8:∀t t',((X++t).set f .dead++t')[h.length+2]?=some (.row 4 [[R,.sl (h.length+1) 1 0 c.blocks.length,.sl f 1 0 i,.p (.bool true)]]):=λt t'=>(by rw[Wb (by simp;omega),Wd (by omega),Wb h2l];exact g2);have m8e:=λt t' hh=>ag (m8 t t') hh;have htk2:List.take i rows=rows:=Wi (by omega);simp[-AV.cells,-AV.isCell,iv,aO,cI,g0c,g2,hgi,hxs,hnl,m2,m7,m8,htk2,hrl2];exact⟨by omega,by omega,⟨i+1,_,_⟩,⟨hcc,(q4 _ (by omega)).trans g0,(q4 _ (by omega)).trans g1,q3,λj hj=>(q4 j (by omega)).trans (hkp j hj),IV',q1⟩,by simp only;omega,aa (by simp;omega) (by simp[below,hwi];omega)⟩
  ·have hcc:c.blocks.length<=i:=by simpa using hcc
   rw[Wi hcc] at hV;obtain⟨R1,V1,I1,I2,e1,rfl,hR1,hV1⟩:=hV.one;cases e1;have hge:=hV1.ge
   have hrow:∃r,R=rqV (ksC c).regs r/\((ksC c).regs≠[]->X[r]?=some (.row 1 (ae (ksC c).regs)))/\h.length+2<=r/\r<X.length/\((ksC c).regs≠[]->h.length+2≠r/\r≠h.length+1/\r∉I2):=by
    rcases io (λn=>PV.int .i64 n) (λ_ _ _ e=>by cases e) hR1 with⟨e1,e2,_⟩|⟨r,e1,e2,e3,e4⟩
    ·exact⟨h.length+2,by rw[e1,e2];rfl,λhne=>absurd e2 hne,Wo _,h2l,λhne=>absurd e2 hne⟩
    ·refine⟨r,?_,λ_=>e3,by omega,(Wa.1 e3).1,λ_=>⟨by omega,by omega,λhm=>?_⟩⟩
     ·rw[e1,rqV];split
      ·rename_i h0;rw[h0] at hrl;have:=hnz hrl.symm;rw[e1] at this;cases this
      ·rfl
     ·have hnd:=hV.nd;rw[e2,WG] at hnd;exact hnd.2.2 r (by simp) r hm rfl
   obtain⟨r,r1,r2,r3,r4,r8⟩:=hrow;refine⟨⟨i,X,V⟩,⟨g0,⟨r,I2,⟨?_,r2,?_,⟨I2,hV1.low λ_ _=>We _,λ_ h=>h⟩,hV1.lt,r4,r8,by omega,λhm=>by have:=hge _ hm;omega,λhm=>by have:=hge _ hm;omega⟩,r3,hge⟩,hkp⟩,aa (by omega) (by simp[below];omega)⟩
   ·simp only;rw[g2,r1,Xs]
   ·exact g1
 rintro⟨i0,X0,V0⟩ ⟨g0,⟨r,I0,H0,hr0,hIge⟩,hkp⟩;simp only at g0 H0 hkp;have h0l:=(Wa.1 g0).1;have hg:=H0.hw;have ho:=H0.ho;have hwl:=H0.lt (h.length+2) (by simp);have hol:=H0.lt (h.length+1) (by simp);obtain⟨rc1,rc2⟩:=tS (ksC c).regs r;simp only at hg ho;have hbl0:=hv.bl;have hB0:(aG (List.replicate c.blocks.length false))[0]?=some [.p (.bool false)]:=bh (by rw[Xi,Wz (by omega)]);have hB0l:0<(aG (List.replicate c.blocks.length false)).length:=by rw[jT];simp;omega
 have hB0e:∀hh,(aG (List.replicate c.blocks.length false))[0]'hh=[.p (.bool false)]:=λhh=>ag hB0 hh;have hop0:(ksC c).opn=(List.replicate c.blocks.length false).set 0 true:=rfl;obtain⟨X1,hX1⟩:∃X1,X1=X0.set (h.length+1) (.row 1 (aG (ksC c).opn)):=⟨_,rfl⟩
 have H1:KW X1 (h.length+2) r (h.length+1) V0 I0 (ksC c) (mo c.blocks) true:=by
  rw[hX1];obtain⟨J,j1,j2⟩:=H0.own;refine⟨by rw[Wd (by omega),hg,hop0,Wy],λhne=>by rw[Wd (H0.ra hne).2.1.symm];exact H0.hr hne,by rw[Wh hol],⟨J,j1.frame λi hi=>Wd λe=>H0.no (by rw[e];exact j2 i hi),j2⟩,λj hj=>by rw[Wy];exact H0.li j hj,by rw[Wy];exact H0.rl,H0.ra,H0.wo,H0.nw,H0.no⟩
 have g01:X1[h.length]?=some RC:=by rw[hX1,Wd (by omega)];exact g0
 have hkp1:KpF h X1:=λj hj=>by rw[hX1,Wd (by omega)];exact hkp j hj
 have hl1:h.length<X1.length:=by rw[hX1,Wy];exact h0l
 simp[hg,ho,hB0l,hB0e,bP];rw[←hop0,←hX1];refine⟨by omega,?_⟩;clear hX1 H0 g0 hkp h0l hg ho hwl hol
 have hx2:∀x∈c.blocks,x.next.length<=2:=λx hx=>by
  obtain⟨b,hb⟩:=WA hx;have h1:=hv.nc b x hb;have h2:=hv.jp b x hb;have e1:nxN 1=1:=rfl;have e2:nxN 2=2:=rfl;have e3:nxN 3=0:=rfl;rcases h2 with e|e|e<;>rw[e] at h1<;>omega
 have h160:=hv.b160
 refine am (λa:RdkS=>aj 96 [(3,.ptr (h.length+2) 4 0 0),(1,.ptr h.length 3 0 0)]) (λa=>a.X)
  (λa=>a.X[h.length]?=some RC/\KpF h a.X/\h.length<a.X.length/\KW a.X (h.length+2) r (h.length+1) V0 I0 (rndN c.blocks (ksC c) a.k) a.Y a.m/\WayR c (rndN c.blocks (ksC c) a.k).W a.Y/\VI c a.k a.m)
  (λa=>if a.m then 1+(920-(zt (rndN c.blocks (ksC c) a.k)+vj a.Y)) else 0) ⟨0,X1,mo c.blocks,true⟩ ⟨g01,hkp1,hl1,H1,Qw c,λh=>by cases h⟩ (aa (by omega) (by simp[below];exact⟨H1.lt _ (by simp),hl1⟩)) ?_
 clear g01 hkp1 hl1 H1 X1;rintro⟨k,X,Y,m⟩ ⟨g0,hkp,hxl,H,hW,hst⟩;simp only at g0 hkp hxl H hW hst⊢;have hV:=KV.rndN hk hv k;have hwl:=H.lt (h.length+2) (by simp);cases m with
 |false=>
  have hw:=H.hw;simp[hw];obtain⟨j,rfl,hj⟩:=hst rfl;refine⟨r,h.length+1,V0,I0,Y,false,?_,by omega,by omega,by omega,hkp⟩;rw[Rs hj,←hj];exact H
 |true=>
  have hw:=H.hw;obtain⟨rc1,rc2⟩:=tS (rndN c.blocks (ksC c) k).regs r;simp[hw];obtain⟨X2,hX2⟩:∃X2,X2=X.set (h.length+2) (.row 4 [[rqV (rndN c.blocks (ksC c) k).regs r,.sl (h.length+1) 1 0 (rndN c.blocks (ksC c) k).opn.length,V0,.p (.bool false)]]):=⟨_,rfl⟩
  have H2:KW X2 (h.length+2) r (h.length+1) V0 I0 (rndN c.blocks (ksC c) k) Y false:=by
   rw[hX2];obtain⟨J,j1,j2⟩:=H.own;refine⟨by rw[Wh hwl],λhne=>by rw[Wd (H.ra hne).1];exact H.hr hne,by rw[Wd H.wo];exact H.ho,⟨J,j1.frame λi hi=>Wd λe=>H.nw (by rw[e];exact j2 i hi),j2⟩,λj hj=>by rw[Wy];exact H.li j hj,by rw[Wy];exact H.rl,H.ra,H.wo,H.nw,H.no⟩
  have g02:X2[h.length]?=some RC:=by rw[hX2,Wd (by omega)];exact g0
  have hkp2:KpF h X2:=λj hj=>by rw[hX2,Wd (by omega)];exact hkp j hj
  have hl2:h.length<X2.length:=by rw[hX2,Wy];exact hxl
  rw[←hX2];clear hX2;generalize hSk:rndN c.blocks (ksC c) k=Sk at H2 hW hV
  refine am (λa:RdkS=>aj 96 [(6,.p (.int .i64 a.k)),(3,.ptr (h.length+2) 4 0 0),(1,.ptr h.length 3 0 0)]) (λa=>a.X)
   (λa=>a.k<=c.blocks.length/\a.X[h.length]?=some RC/\KpF h a.X/\h.length<a.X.length/\KW a.X (h.length+2) r (h.length+1) V0 I0 ((List.range a.k).foldl (fS c.blocks) Sk) a.Y a.m/\WayR c ((List.range a.k).foldl (fS c.blocks) Sk).W a.Y/\RRel Sk Y false ((List.range a.k).foldl (fS c.blocks) Sk) a.Y a.m)
   (λa=>c.blocks.length-a.k) ⟨0,X2,Y,false⟩ ⟨We _,g02,hkp2,hl2,H2,hW,.refl _ _ _⟩ (aa (by omega) (by simp[below];exact⟨H2.lt _ (by simp),hl2⟩)) ?_
  rintro⟨b,X3,Y3,m3⟩ ⟨hb,g03,hkp3,hl3,H3,W3,R3⟩;simp only at hb g03 hkp3 hl3 H3 W3 R3;have g0c:=g03;rw[hRC] at g0c;have hV3:=KV.blks hk hv (List.range b) hV;simp[g0c];refine aA (λhcc=>?_) (λhcc=>?_)
  ·have hcc:b<c.blocks.length:=by simpa using hcc
   have hgb:=Wc hcc;generalize c.blocks[b]=x at hgb;have hrs:(List.range (b+1)).foldl (fS c.blocks) Sk=fS c.blocks ((List.range b).foldl (fS c.blocks) Sk) b:=(by rw[Yz,Zf];rfl);generalize (List.range b).foldl (fS c.blocks) Sk=S3 at H3 W3 R3 hV3 hrs;have hob:b<S3.opn.length:=(by rw[hV3.ol];exact hcc);have hgo:=Wc hob;generalize S3.opn[b]=v at hgo;have hgo2:=bh hgo;have hw3:=H3.hw;have ho3:=H3.ho;have hwi:=w1 (i:=b) (by omega);cases v with
   |false=>
    have he:fS c.blocks S3 b=S3:=(by rw[fS,hgb];simp[hgo]);rw[he] at hrs;simp[hw3,ho3,hgo2];exact⟨hob,⟨b+1,X3,Y3,m3⟩,⟨hcc,g03,hkp3,hl3,by simp only;rw[hrs];exact H3,by simp only;rw[hrs];exact W3,by simp only;rw[hrs];exact R3⟩,by simp only;omega,aa (by omega) (by simp[below,hwi];exact⟨H3.lt _ (by simp),hl3⟩)⟩
   |true=>
    have he:fS c.blocks S3 b=mC (x.ins.foldl cQ (x.phis.foldl (λS f=>jF S c.blocks b f) S3)) b x:=(by rw[fS,hgb];simp[hgo]);rw[he] at hrs;have hB:=Nd G H3 hk hv hV3 W3 hf hgb;rw[hcs,hbl,hn] at hB;simp[hw3,ho3,hgo2,g0c];refine⟨hob,hB.mono ?_⟩;rintro z h' ⟨rfl,Y4,m4,H4,W4,R4,F4⟩;have hlt4:=H3.lt
    have g04:h'[h.length]?=some RC:=by
     rw[F4.2 _ hl3 λhm=>?_]
     ·exact g03
     ·simp only[WE] at hm;rcases hm with e|e|e|e
      ·omega
      ·omega
      ·omega
      ·have:=hIge _ e;omega
    have hkp4:KpF h h':=λj hj=>by
     rw[F4.2 _ (by omega) λhm=>?_]
     ·exact hkp3 j hj
     ·simp only[WE] at hm;rcases hm with e|e|e|e
      ·omega
      ·omega
      ·omega
      ·have:=hIge j e;omega
    simp[];exact⟨⟨b+1,h',Y4,m4⟩,⟨hcc,g04,hkp4,by have:=F4.1;simp only;omega,by simp only;rw[hrs];exact H4,by simp only;rw[hrs];exact W4,by simp only;rw[hrs];exact R3.trans R4⟩,by simp only;omega,aa (by have:=F4.1;omega) (by simp[below,hwi];exact⟨H4.lt _ (by simp),by have:=F4.1;omega⟩)⟩
  ·have hcc:c.blocks.length<=b:=by simpa using hcc
   have hbe:b=c.blocks.length:=(by omega);subst hbe;have hS:rndN c.blocks (ksC c) (k+1)=(List.range c.blocks.length).foldl (fS c.blocks) Sk:=(by rw[rndN,hSk];rfl);rw[←hS] at H3 W3 R3;have hV4:=KV.rndN hk hv (k+1);have p1:=Lt hV4.j hk.r3;have p2:=II W3 hx2;refine⟨⟨k+1,X3,Y3,m3⟩,⟨g03,hkp3,hl3,H3,W3,λe=>⟨k,rfl,?_⟩⟩,?_,aa (by omega) (by simp[below];exact⟨H3.lt _ (by simp),hl3⟩)⟩
   ·rw[(R3.eq e).2,hSk]
   ·simp only;rw[hSk];cases m3 with
    |false=>simp;omega
    |true=>
     rcases R3.up rfl with e|e
     ·cases e
     ·simp;omega
end
section
def phT(F:Ph->Ph)(l:List Ph)(i:Nat):List Ph:=(l.take i).map F++l.drop i
theorem Ke{F:Ph->Ph}{l:List Ph}{i:Nat}(h:i<l.length):(phT F l i)[i]?=some l[i]:=by rw[phT,Wg (by simp;omega),Wj,WD,XK (by omega),Xd,WZ,Yq,Wc h]
theorem Kh{F:Ph->Ph}{l:List Ph}{i:Nat}(h:i<l.length):(phT F l i).set i (F l[i])=phT F l (i+1):=by
 have hd:l.drop i=l[i]::l.drop (i+1):=Xa h;have hl:((l.take i).map F).length=i:=by rw[Wj,WD];omega
 rw[phT,hd,Xy _ _ (by rw[hl];exact Wo _),hl,Xd,phT,aq h,WF,XY,Wp];rfl
theorem Kg(F:Ph->Ph)(l:List Ph)(i:Nat):(phT F l i).length=l.length:=by simp[phT];omega
theorem JB{olds:List Int}{f:Ph}{p:Int}(hp:p∈olds)(hl:f.args.length=olds.length):∃k:Nat,olds.findIdx? (λx=>decide (x=p))=some k/\f.args[k]?=some (nE olds f p):=by
 cases h:olds.findIdx? (λx=>decide (x=p)) with
 |none=>
  have:=XD.1 h p hp;simp at this
 |some k=>
  have hk:=(Xe.1 h).1;refine⟨k,rfl,?_⟩;have:nE olds f p=(f.args[k]?).getD 0:=by rw[nE,h];rfl
  rw[this,Wc (by omega)];rfl
structure ArS where (i o:Nat) (X:List AO)
variable (G:aw)
theorem Mg{n:Nat}{h:List AO}{xw:Nat}{B:AV}{xs:List Bk}{I:List Nat}{pm rg:Int}(hxw:h[xw]?=some (.row 3 [[.p (.int .i64 pm),.p (.int .i64 rg),B]]))(HV:Own n h [B] [bkL xs] I)(hxI:xw∉I)(hn:n<=h.length)
 (c:Cd)(hc:CBd c)(hxb:CBd ⟨pm,rg,xs⟩){b:Nat}{x:Bk}(hb:xs[b]?=some x)(hsub:∀p∈ab xs b,p∈ab c.blocks b)(hal:∀f∈x.phis,f.args.length=(ab c.blocks b).length)(hpl:x.phis.length<=1073741824):
 AC Tryz.prog G kw [.agg (c.cs.map .p),.ptr xw 3 0 0,.p (.int .i64 b)] h λz h'=>z= .ret (.tup [])/\∃I',h'[xw]?=some (.row 3 [[.p (.int .i64 pm),.p (.int .i64 rg),B]])/\Own n h' [B] [bkL (xs.set b {x with phis:=x.phis.map (bD (ab c.blocks b) (ab xs b))})] I'/\(∀j∈I',j∈I\/h.length<=j)/\Frm I h h':=by
 have hcs:=c.cs_eq2;have hbl:bkL c.blocks= .lst 5 (c.blocks.map Bk.cs):=rfl;have hP1:=mI G c b hc.1 hc.2;have hP2:=λ(X:List AO) (I:List Nat) (HX:Own n X [B] [bkL xs] I)=>vR G (c:=⟨pm,rg,xs⟩) HX hxb b;simp only at hP2;rw[hcs,hbl] at hP1;have hol:=aU c.blocks (b:Int);have hnl:=aU xs (b:Int);have hc1:=hc.1;have hx1:xs.length<=1073741824:=hxb.1;generalize ab c.blocks b=olds at hP1 hsub hal hol;generalize ab xs b=news at hP2 hsub hnl;have hon:ah olds= .lst 1 (olds.map λn=>[.int .i64 n]):=rfl;have hnn:ah news= .lst 1 (news.map λn=>[.int .i64 n]):=rfl;have hxl:=(Wa.1 hxw).1;have hbx:=(Wa.1 hb).1;refine AC.go BN ?_;simp[pe,hcs,hbl];refine hP1.use ?_;have m1:∀t,(h++t)[xw]?=some (.row 3 [[.p (.int .i64 pm),.p (.int .i64 rg),B]]):=λt=>by rw[Wb hxl];exact hxw
 obtain⟨bc1,bc2⟩:=HV.cell;simp[-AV.cells,-AV.isCell,m1];refine(hP2 _ I (HV.more _)).mono ?_;rintro z h1 ⟨rfl,rfl⟩;rw[hnn,hon];simp[]
 refine am (λa:ArS=>aj 74 [(8,.p (.int .i64 a.i)),(7,.p (.lst 1 (news.map λn=>[.int .i64 n]))),(6,.p (.lst 1 (olds.map λn=>[.int .i64 n]))),(1,.ptr xw 3 0 0),(2,.p (.int .i64 b))]) (λa=>a.X)
  (λa=>a.i<=x.phis.length/\a.X[xw]?=some (.row 3 [[.p (.int .i64 pm),.p (.int .i64 rg),B]])/\h.length<=a.X.length/\∃I',Own n a.X [B] [bkL (xs.set b {x with phis:=phT (bD olds news) x.phis a.i})] I'/\(∀j∈I',j∈I\/h.length<=j)/\Frm I h a.X) (λa=>x.phis.length-a.i) ⟨0,0,h++[.row 3 [[.p (.int .i64 c.params),.p (.int .i64 c.regs),.p (.lst 5 (c.blocks.map Bk.cs))]]]⟩ ⟨We _,m1 _,by simp,I,?_,λj hj=> .inl hj,Frm.more _ _ _⟩ (aa (by simp) (by simp[below];omega)) ?_
 ·have:xs.set b {x with phis:=phT (bD olds news) x.phis 0}=xs:=by
   obtain⟨_,q⟩:=Wa.1 hb;have e:({x with phis:=phT (bD olds news) x.phis 0}:Bk)=xs[b]:=(by rw[q];simp[phT]);rw[e,Xl]
  simp only;rw[this];exact HV.more _
 rintro⟨i,_,X⟩ ⟨hi,g0,hXl,I',hV,hI',hF⟩;simp only at hi g0 hXl hV hF;have hxX:=(Wa.1 g0).1;have hgx:(xs.set b {x with phis:=phT (bD olds news) x.phis i})[b]?=some {x with phis:=phT (bD olds news) x.phis i}:=Wh hbx;have hxsl:(xs.set b {x with phis:=phT (bD olds news) x.phis i}).length=xs.length:=by simp
 have hpTl:=Kg (bD olds news) x.phis i
 by_cases hcc:i<x.phis.length
 ·have hgi:=Ke (F:=bD olds news) hcc;have hset:=Kh (F:=bD olds news) hcc;have hmf:=Wm hcc;have hgj:=Wc hcc;generalize x.phis[i]=f at hgi hset hmf;have hfl:=hal f hmf;obtain⟨gid,rows,pid,rows2,N,Z,A,IA,e1,e2,e3,e4,e5,e6,e7,e8,e9,e10,e11,e12⟩:=hV.phi hgx hgi;rw[hxsl] at e1;subst e1;simp only at e3 e5;rw[hpTl] at e3 e5;have hgl:=(Wa.1 e2).1;have hpl':=(Wa.1 e4).1;have hwi:=w1 (i:=i) (by omega);have hfcs:=f.cs_eq2;have hfa:ah f.args= .lst 1 (f.args.map λn=>[.int .i64 n]):=rfl;obtain⟨LL,hLL⟩:∃LL:Nat->List Int,LL=λk=>(news.take k).map (nE olds f):=⟨_,rfl⟩;have L0:LL 0=[]:=by rw[hLL];simp
  have LN:LL news.length=news.map (nE olds f):=by rw[hLL];simp
  have Llen:∀k,k<=news.length->(LL k).length=k:=λk hk=>by rw[hLL];simp;omega
  have Lsuc:∀k p,news[k]?=some p->LL (k+1)=LL k++[nE olds f p]:=λk p hp=>by rw[hLL];simp only;rw[WQ,hp,WF];rfl
  clear hLL;simp[g0,e2,e3,hcc];refine⟨hbx,?_⟩
  refine am (λa:ArS=>aj 74 [(10,.p (.int .i64 a.i)),(9,.sl a.o 1 0 a.i),(8,.p (.int .i64 i)),(7,.p (.lst 1 (news.map λn=>[.int .i64 n]))),(6,.p (.lst 1 (olds.map λn=>[.int .i64 n]))),(1,.ptr xw 3 0 0),(2,.p (.int .i64 b))]) (λa=>a.X)
   (λa=>a.i<=news.length/\X.length<=a.o/\a.X[a.o]?=some (.row 1 (ae (LL a.i)))/\KpF X a.X) (λa=>news.length-a.i) ⟨0,X.length,X++[.row 1 []]⟩ ⟨We _,Wo _,by simp[ae,L0],λj hj=>Wb hj⟩ (aa (by simp;omega) (by simp[below];omega)) ?_
  rintro⟨k,o,X2⟩ ⟨hk,ho,hX2,hkp⟩;simp only at hk ho hX2 hkp;have hol2:=(Wa.1 hX2).1;have n0:X2[xw]?=some (.row 3 [[.p (.int .i64 pm),.p (.int .i64 rg),.sl gid 5 0 xs.length]]):=(hkp _ hxX).trans g0;have n2:X2[gid]?=some (.row 5 rows):=(hkp _ hgl).trans e2;have n4:X2[pid]?=some (.row 2 rows2):=(hkp _ hpl').trans e4;have nA:∀j∈IA,X2[j]?=X[j]?:=λj hj=>hkp j (e7.lt j hj);simp[];refine aA (λhc2=>?_) (λhc2=>?_)
  ·have hc2:k<news.length:=by simpa using hc2
   have hgk:=Wc hc2;have hmk:=Wm hc2;have htk:news.take (k+1)=news.take k++[news[k]]:=aq hc2;generalize news[k]=p at hgk hmk htk;obtain⟨q,q1,q2⟩:=JB (hsub p hmk) hfl;have hAt:=Kd G olds p (by omega);rw[hon,q1] at hAt;have hixI:ixI (some q)=(q:Int):=rfl;rw[hixI] at hAt;have hwk:=w1 (i:=k) (by omega);have hql:=(Wa.1 q2).1;rcases io (λn=>PV.int .i64 n) (λ_ _ _ e=>by cases e) e7 with⟨_,z,_⟩|⟨aid,rfl,rfl,f3,f4⟩
   ·rw[z] at hql;simp at hql
   have n5:X2[aid]?=some (.row 1 (ae f.args)):=(nA aid (by simp)).trans f3;have n6:=bW q2;simp[hgk,n0,n2,n4,e3,e6,hcc];refine⟨hbx,hAt.use ?_⟩;have hLl:=Llen k hk;have hLs:=Lsuc k p hgk;have htl:List.take k (ae (LL k))=ae (LL k):=Wi (by rw[di,hLl];exact Wo _);have hrl:(ae (LL k)).length=k:=(by rw[di,hLl]);have m7:∀t,(X2++t)[o]?=some (.row 1 (ae (LL k))):=λt=>(by rw[Wb hol2];exact hX2);simp[n0,n2,n4,e3,e6,n5,n6,hql,m7,htl,hrl];refine⟨⟨by omega,by omega⟩,⟨k+1,X2.length+1,_⟩,⟨by simp only;omega,by have:=hkp;simp only;omega,?_,λj hj=>?_⟩,by simp only;omega,aa (by simp;omega) (by simp[below,hwk];omega)⟩
   ·simp only;rw[Wg (by simp),hLs];simp[ae]
   ·simp only;rw[Wb (by simp;omega),Wd (by omega),Wb (by omega)];exact hkp j hj
  ·have hc2:news.length<=k:=by simpa using hc2
   have hke:k=news.length:=(by omega);subst hke;rw[LN] at hX2;simp[n0,n2,n4,e3,e6,hcc]
   have hoI:∀j∈[o],j∈IA\/j∉I':=λj hj=>by
    rw[Wt.1 hj];exact .inr λhm=>by have:=hV.lt _ hm;omega
   have hpo:pid≠o:=by omega
   have hxp:xw≠pid:=λe=>by
    rcases hI' pid e9 with h2|h2
    ·exact hxI (e▸h2)
    ·omega
   obtain⟨I2,r1,r2⟩:=e12 (X2.set pid (.row 2 (rows2.set i [.p (.int .i64 f.to),.sl o 1 0 news.length]))) (.sl o 1 0 news.length) (news.map (nE olds f)) [o] (Wh (by have:=hkp;omega)) (λj hj hn1 _=>by rw[Wd (Ne.symm hn1)];exact hkp j (hV.lt j hj)) (aX (by rw[Wd hpo];exact hX2) (by omega) (by simp)) hoI;rw[Yf] at r1;simp only at r1;have hpa:(⟨f.to,news.map (nE olds f)⟩:Ph)=bD olds news f:=rfl;rw[hpa,hset] at r1;refine⟨hbx,⟨i+1,0,_⟩,⟨by simp only;omega,?_,by simp;omega,I2,r1,λj hj=>?_,by simp;omega,λj hj hn1=>?_⟩,by simp only;omega,aa (by simp;omega) (by simp[below,hwi];omega)⟩
   ·simp only;rw[Wd (Ne.symm hxp)];exact n0
   ·rcases r2 j hj with h2|h2
    ·exact hI' j h2
    ·rw[Wt.1 h2];exact .inr (by omega)
   ·have hjp:pid≠j:=λe=>by
     rcases hI' pid e9 with h2|h2
     ·exact hn1 (e▸h2)
     ·omega
    simp only;rw[Wd hjp,hkp j (by omega)];exact hF.2 j hj hn1
 ·have hie:i=x.phis.length:=by omega
  subst hie;have hpe:phT (bD olds news) x.phis x.phis.length=x.phis.map (bD olds news):=by rw[phT];simp
  have hV2:=hV;rw[hpe] at hV2;obtain⟨gid,rows,r,Jb,b1,b2,b3,b4,b5,b6,b7,b8⟩:=hV.bks hgx;obtain⟨P,N,Z,IP,IN,IZ,rfl,rfl,hP,hN,hZ⟩:=eF b5;rw[hxsl] at b1;subst b1;have hPl:phL (phT (bD olds news) x.phis x.phis.length)= .lst 2 ((phT (bD olds news) x.phis x.phis.length).map Ph.cs):=rfl;simp only at hP b4;rw[hPl] at hP;rcases hP.row with⟨rfl,h2,_⟩|⟨pid,rows2,J,rfl,h2,hr,_⟩
  ·have h0:x.phis.length=0:=by have:=congrArg List.length h2;simpa[hpTl] using this
   simp[g0,b2,b4,h0];exact⟨hbx,I',hV2,hI',hF⟩
  ·rw[Wj,hpTl] at b4;simp[g0,b2,b4];exact⟨hbx,I',hV2,hI',hF⟩
end
section
def Iz(ord:List Nat)(k x:Nat):Int:=if x∈ord.take k then(ord.idxOf x:Int) else-1
def plK(ord:List Nat)(n k:Nat):List Int:=(List.range n).map (Iz ord k)
theorem KI(ord:List Nat)(n k:Nat):(plK ord n k).length=n:=by simp[plK]
theorem MR(ord:List Nat)(n:Nat):plK ord n 0=List.replicate n (-1):=by
 rw[plK];refine List.ext_getElem (by simp) λi h1 h2=>?_;simp[Iz]
theorem Qf{ord:List Nat}(nd:ord.Nodup){n k y:Nat}(hy:ord[k]?=some y)(hn:y<n):(plK ord n k).set y (k:Int)=plK ord n (k+1):=by
 have hk:=(Wa.1 hy).1
 have hidx:ord.idxOf y=k:=by
  have h1:ord.idxOf y<ord.length:=List.idxOf_lt_length_of_mem (Wq hy);have h2:ord[ord.idxOf y]?=some y:=by rw[Wc h1,Za]
  exact Nq nd h2 hy
 have ht:ord.take (k+1)=ord.take k++[y]:=by rw[WQ,hy];rfl
 refine List.ext_getElem (by simp[plK]) λi h1 h2=>?_;rw[List.getElem_set];simp only[plK,List.getElem_map,List.getElem_range];split
 ·rename_i e;subst e;rw[Iz,ht,Wz (by simp),hidx]
 ·rename_i e;rw[Iz,Iz,ht];have:i∈ord.take k++[y]↔i∈ord.take k:=by simp;omega
  simp only[this]
variable (G:aw)
theorem Ht(ord:List Nat)(n:Nat)(nd:ord.Nodup)(hm:∀x∈ord,x<n)(hn:n<=1073741824)(hol:ord.length<=1073741824):VF Tryz.prog G jc [.p (.int .i64 n),.p (ah (an ord))] (.p (ah (plK ord n ord.length))):=by
 have hLn:ah (an ord)= .lst 1 ((an ord).map λx=>[.int .i64 x]):=rfl;have hLl:(an ord).length=ord.length:=dR ord;refine jw G ?_;refine AC.go zF ?_;simp[oo,hLn,Se];refine⟨by omega,?_⟩;refine am (λi:Nat=>aj 32 [(6,.p (.int .i64 i)),(5,.sl 0 1 0 n),(0,.p (.int .i64 n)),(1,.p (.lst 1 ((an ord).map λx=>[.int .i64 x])))]) (λi=>[.row 1 (ae (List.replicate i (-1)++List.replicate (n-i) 0))]) (λi=>i<=n) (λi=>n-i) 0 (We _) (aa (We _) (by simp[below])) ?_;intro i hi;simp[];refine aA (λhc=>?_) (λhc=>?_)
 ·have hc:i<n:=by simpa using hc
  have hwi:=w1 (i:=i) (by omega)
  have hset:(List.replicate i (-1:Int)++List.replicate (n-i) 0).set i (-1)=List.replicate (i+1) (-1)++List.replicate (n-(i+1)) 0:=by
   rw[Xy _ _ (by simp),show n-i=(n-(i+1))+1 by omega,XT];simp[List.replicate_succ']
  have hgl:(List.replicate i (-1:Int)++List.replicate (n-i) 0)[i]?=some 0:=by rw[Wg (by simp),show n-i=(n-(i+1))+1 by omega,XT];simp
  have hri:(ae (List.replicate i (-1:Int)++List.replicate (n-i) 0))[i]?=some [.p (.int .i64 0)]:=by rw[ae,Wl,hgl];rfl
  have hrl:(ae (List.replicate i (-1:Int)++List.replicate (n-i) 0)).length=n:=by simp[ae];omega
  generalize List.replicate i (-1:Int)++List.replicate (n-i) 0=Z at hset hri hrl;simp[hri,hc,jJ,hset];exact⟨i+1,hc,by omega,aa (We _) (by simp[below,hwi])⟩
 have hie:i=n:=by simp at hc;omega
 subst hie;simp[];rw[←MR ord];refine am (λk:Nat=>aj 32 [(7,.p (.int .i64 k)),(5,.sl 0 1 0 i),(0,.p (.int .i64 i)),(1,.p (.lst 1 ((an ord).map λx=>[.int .i64 x])))]) (λk=>[.row 1 (ae (plK ord i k))]) (λk=>k<=ord.length) (λk=>ord.length-k) 0 (We _) (aa (We _) (by simp[below])) ?_;intro k hk;simp[hLl];refine aA (λhc2=>?_) (λhc2=>?_)
 ·have hc2:k<ord.length:=by simpa using hc2
  have hwk:=w1 (i:=k) (by omega);have hgk:=Wc hc2;have hyn:=hm _ (Wm hc2);generalize ord[k]=y at hgk hyn;have hset:=Qf nd hgk hyn;have hLk:(an ord)[k]?=some (y:Int):=by rw[an,Wl,hgk];rfl
  have hyl:y<(plK ord i k).length:=by rw[KI];exact hyn
  have hgz:(plK ord i k)[y]?=some (plK ord i k)[y]:=Wc hyl;generalize (plK ord i k)[y]=z at hgz;have hri:(ae (plK ord i k))[y]?=some [.p (.int .i64 z)]:=by rw[ae,Wl,hgz];rfl
  simp[hLk,hri,hyn,jJ,hset];exact⟨k+1,hc2,by omega,aa (We _) (by simp[below,hwk])⟩
 ·have hke:k=ord.length:=by simp at hc2;omega
  subst hke;simp[];have:=dN (h:=[.row 1 (ae (plK ord i ord.length))]) (id:=0) (l:=plK ord i ord.length) rfl;rwa[KI] at this
end
section
theorem DK{X Y:List AO}(h:KpF X Y)(hl:X.length<=Y.length):Y=X++Y.drop X.length:=by
 refine WT λi=>?_
 by_cases hi:i<X.length
 ·rw[Wb hi];exact h i hi
 ·rw[Wg (by omega),WZ];congr 1;omega
theorem PE{rl:List Nat}{x:Nat}:Iz rl rl.length x=plI rl (x:Int):=by rw[Iz,plI,Xm,XF]
def nxT(F:Int->Int)(l:List Int)(i:Nat):List Int:=(l.take i).map F++l.drop i
theorem Qc{F:Int->Int}{l:List Int}{i:Nat}(h:i<l.length):(nxT F l i)[i]?=some l[i]:=by rw[nxT,Wg (by simp;omega),Wj,WD,XK (by omega),Xd,WZ,Yq,Wc h]
theorem Qh{F:Int->Int}{l:List Int}{i:Nat}(h:i<l.length):(nxT F l i).set i (F l[i])=nxT F l (i+1):=by
 have hd:l.drop i=l[i]::l.drop (i+1):=Xa h;have hl:((l.take i).map F).length=i:=by rw[Wj,WD];omega
 rw[nxT,hd,Xy _ _ (by rw[hl];exact Wo _),hl,Xd,nxT,aq h,WF,XY,Wp];rfl
theorem Ee(F:Int->Int)(l:List Int)(i:Nat):(nxT F l i).length=l.length:=by simp[nxT];omega
theorem KK(F:Int->Int)(l:List Int):nxT F l l.length=l.map F:=by simp[nxT]
theorem NF(F:Int->Int)(l:List Int):nxT F l 0=l:=by simp[nxT]
theorem BB:AK.whole jW=FK.ak jQ:=rfl
variable (G:aw)
theorem KB{bs:List Bk}{rl:List Nat}{i b:Nat}{x:Bk}(h:rl[i]?=some b)(hb:bs[b]?=some x):(aH bs rl)[i]?=some {x with next:=x.next.map (plI rl)}:=by
 rw[aH,Wl,h];show some {mj bs b with next:=(mj bs b).next.map (plI rl)}=_;have:mj bs b=x:=by rw[mj,hb];rfl
 rw[this]
theorem iq{bs bs':List Bk}(h:bs.map Bk.next=bs'.map Bk.next)(b:Int):ab bs b=ab bs' b:=by
 have key:∀l:List Bk,ab l b=((l.map Bk.next).zipIdx.filter λx=>decide (b∈x.1)).map λx=>(x.2:Int):=λl=>by
  rw[ab,List.zipIdx_map,YW,Yu];rfl
 rw[key,key,h]
def pkF(bs:List Bk)(rl:List Nat)(b i:Nat):Ph->Ph:=λf=>⟨f.to,(ab (aH bs rl) i).map λj=>nE (ab bs b) f ((rl[j.toNat]?).getD 0:Nat)⟩
def pk2(bs:List Bk)(rl:List Nat)(i:Nat):List Bk:=(ff bs rl).take i++(aH bs rl).drop i
theorem Ql{bs:List Bk}{rl:List Nat}{i:Nat}{x:Bk}(h:(aH bs rl)[i]?=some x):(pk2 bs rl i)[i]?=some x:=by
 have hl:=(Wa.1 h).1;have hl2:(ff bs rl).length=(aH bs rl).length:=by rw[ff,XN]
 rw[pk2,Wg (by rw[WD];omega),WD,XK (by omega),Xd,WZ,Yq];exact h
theorem KU(bs:List Bk)(rl:List Nat){i:Nat}(h:i<=(aH bs rl).length):(pk2 bs rl i).length=(aH bs rl).length:=by
 have hl2:(ff bs rl).length=(aH bs rl).length:=by rw[ff,XN]
 rw[pk2,Wn,WD,ZH];omega
theorem Pj(bs:List Bk)(rl:List Nat):pk2 bs rl 0=aH bs rl:=by simp[pk2]
theorem PJ(bs:List Bk)(rl:List Nat):pk2 bs rl (aH bs rl).length=ff bs rl:=by
 have hl2:(ff bs rl).length=(aH bs rl).length:=by rw[ff,XN]
 rw[pk2,Wi (by omega),Ze (Wo _),WI]
theorem Qe{bs:List Bk}{rl:List Nat}{i b:Nat}{x:Bk}(h:(aH bs rl)[i]?=some x)(hb:rl[i]?=some b):(pk2 bs rl i).set i {x with phis:=x.phis.map (pkF bs rl b i)}=pk2 bs rl (i+1):=by
 have hl:=(Wa.1 h).1;have hl2:(ff bs rl).length=(aH bs rl).length:=by rw[ff,XN]
 have hd:(aH bs rl).drop i=x::(aH bs rl).drop (i+1):=by rw[Xa hl,(Wa.1 h).2]
 have hg:(ff bs rl)[i]?=some {x with phis:=x.phis.map (pkF bs rl b i)}:=by
  rw[ff,WH,h];show some _=_;rw[hb];rfl
 have hlt:((ff bs rl).take i).length=i:=by rw[WD];omega
 rw[pk2,hd,Xy _ _ (by omega),hlt,Xd,XY,pk2,WQ,hg,Wp];rfl
theorem GC(bs:List Bk)(rl:List Nat)(i:Nat):(pk2 bs rl i).map Bk.next=(aH bs rl).map Bk.next:=by
 have h:(ff bs rl).map Bk.next=(aH bs rl).map Bk.next:=by
  refine WT λk=>?_;rw[ff,Wl,WH,Wl];cases (aH bs rl)[k]?<;>rfl
 rw[pk2,WF,XX,ZV,h,XH]
structure PkU where (i o:Nat) (X:List AO)
structure PkS where (i:Nat) (X:List AO)
structure PkT where (k:Nat) (Y:List AO)
theorem Mi(c:Cd)(hc:CBd c)(hs:∀x∈c.blocks,SmX x)(rl:List Nat)(nd:rl.Nodup)(hin:∀b∈rl,b<c.blocks.length)(h160:c.blocks.length<=160)(hne:∀b∈rl,∀x,c.blocks[b]?=some x->∀t∈x.next,0<=t/\t.toNat<c.blocks.length)(hpa:∀b∈rl,∀x,c.blocks[b]?=some x->∀f∈x.phis,f.args.length=(ab c.blocks b).length)
 (hcl:∀(i b:Nat),rl[i]?=some b->∀j∈ab (aH c.blocks rl) i,0<=j/\∃p:Nat,rl[j.toNat]?=some p/\(p:Int)∈ab c.blocks b):AC Tryz.prog G fK [.agg (c.cs.map .p),.p (ah (an rl))] [] (OwW .agg (jh c rl).cs):=by
 have hcs:=c.cs_eq2;have hbl:bkL c.blocks= .lst 5 (c.blocks.map Bk.cs):=rfl;have hLn:ah (an rl)= .lst 1 ((an rl).map λx=>[.int .i64 x]):=rfl;have hLl:(an rl).length=rl.length:=dR rl
 have hrl:rl.length<=160:=by
  have:=vp (b:=List.range c.blocks.length) nd λv hv=>Xn.2 (hin v hv);rw[Xq] at this;omega
 have hPl:=Ht G rl c.blocks.length nd hin hc.1 (by omega);have hpg:∀x:Nat,x<c.blocks.length->(plK rl c.blocks.length rl.length)[x]?=some (plI rl (x:Int)):=λx hx=>by rw[plK,Wl,YJ hx,Xx,PE]
 generalize plK rl c.blocks.length rl.length=P at hPl hpg;have hPn:ah P= .lst 1 (P.map λn=>[.int .i64 n]):=rfl;have hp1l:(aH c.blocks rl).length=rl.length:=by rw[aH,Wj]
 refine AC.goK Cj BB ?_;rw[hLn] at hPl⊢;simp[jW,jQ,hcs,hbl];refine hPl.use ?_;rw[hPn];simp[]
 refine dc (λa:PkT=>aj 134 [(6,.ptr 2 3 0 0),(4,.ptr 1 3 0 0),(2,.ptr 0 3 0 0),(1,.p (.lst 1 ((an rl).map λx=>[.int .i64 x])))]) (λa=>a.Y)
  (λa=>a.Y[0]?=some (AO.row 3 [[.p (.int .i64 c.params),.p (.int .i64 c.regs),.p (.lst 5 (c.blocks.map Bk.cs))]])/\a.Y[1]?=some (.row 3 [[.p (.int .i64 0),.p (.int .i64 0),.nils]])/\∃V I,a.Y[2]?=some (.row 3 [[.p (.int .i64 c.params),.p (.int .i64 c.regs),V]])/\Own 3 a.Y [V] [bkL (aH c.blocks rl)] I) ?_ ?_
 ·simp[]
  refine am (λa:PkS=>aj 134 [(7,.p (.int .i64 a.i)),(6,.ptr 2 3 0 0),(5,.p (.lst 1 (P.map λn=>[.int .i64 n]))),(4,.ptr 1 3 0 0),(2,.ptr 0 3 0 0),(1,.p (.lst 1 ((an rl).map λx=>[.int .i64 x])))]) (λa=>a.X)
   (λa=>a.i<=rl.length/\a.X[0]?=some (AO.row 3 [[.p (.int .i64 c.params),.p (.int .i64 c.regs),.p (.lst 5 (c.blocks.map Bk.cs))]])/\a.X[1]?=some (.row 3 [[.p (.int .i64 0),.p (.int .i64 0),.nils]])/\∃V I,a.X[2]?=some (.row 3 [[.p (.int .i64 c.params),.p (.int .i64 c.regs),V]])/\Own 3 a.X [V] [bkL ((aH c.blocks rl).take a.i)] I) (λa=>rl.length-a.i) ⟨0,_⟩ ⟨We _,rfl,rfl,_,_,rfl,Own.nil _ _ 5⟩ (aa (We _) (by simp[below])) ?_
  rintro⟨i,X⟩ ⟨hi,g0,g1,V,I,g2,hV⟩;simp only at hi g0 g1 g2 hV;have h0l:=(Wa.1 g0).1;have h1l:=(Wa.1 g1).1;have h2l:=(Wa.1 g2).1;obtain⟨v1,v2⟩:=hV.cell;simp[hLl];refine aA (λhcc=>?_) (λhcc=>?_)
  ·have hcc:i<rl.length:=by simpa using hcc
   have hgi:=Wc hcc;have hmi:=Wm hcc;generalize rl[i]=b at hgi hmi;have hbl2:=hin b hmi;have hgb:=Wc hbl2;have hmb:=Wm hbl2;generalize c.blocks[b]=x at hgb hmb;have hxs:=x.cs_eq2;have hgn:(an rl)[i]?=some (b:Int):=(by rw[an,Wl,hgi];rfl);have hpk:=KB hgi hgb;have hcall0:=AC.ownLift G bC (pu G x (hs x hmb)) (h:=X) (by simp);rw[hxs] at hcall0;simp[g0,hgn,hgb,hxs];refine hcall0.mono ?_;rintro r h ⟨vs,IA,os,rfl,rfl,hO⟩;rw[←hxs] at hO;obtain⟨Pp,N,Z,IP,IN,IX,rfl,rfl,hP,hN,hZ⟩:=eF hO;obtain⟨p1,p2⟩:=hP.cell;obtain⟨n1,n2⟩:=hN.cell;obtain⟨x1,x2⟩:=hZ.cell;have hx2:=(hs x hmb).2.2.1;simp[-AV.cells,-AV.isCell,az,aO,p2,n2,x2];obtain⟨t,ht⟩:∃t,t=X.length+os.length:=⟨_,rfl⟩
   refine dc (λa:PkT=>aj 134 [(8,.ptr t 5 0 0),(7,.p (.int .i64 i)),(6,.ptr 2 3 0 0),(5,.p (.lst 1 (P.map λn=>[.int .i64 n]))),(4,.ptr 1 3 0 0),(2,.ptr 0 3 0 0),(1,.p (.lst 1 ((an rl).map λx=>[.int .i64 x])))]) (λa=>a.Y)
    (λa=>KpF X a.Y/\t<a.Y.length/\a.Y[t]?=some (.row 5 [[Pp,N,.p (.int .i64 x.jump),.p (.int .i64 x.on),Z]])/\∃IA,Own X.length a.Y [Pp,N,.p (.int .i64 x.jump),.p (.int .i64 x.on),Z] ({x with next:=x.next.map (plI rl)}:Bk).cs IA) ?_ ?_
   ·simp[]
    refine am (λa:PkT=>aj 134 [(9,.p (.int .i64 a.k)),(8,.ptr t 5 0 0),(7,.p (.int .i64 i)),(6,.ptr 2 3 0 0),(5,.p (.lst 1 (P.map λn=>[.int .i64 n]))),(4,.ptr 1 3 0 0),(2,.ptr 0 3 0 0),(1,.p (.lst 1 ((an rl).map λx=>[.int .i64 x])))]) (λa=>a.Y)
     (λa=>a.k<=x.next.length/\KpF X a.Y/\t<a.Y.length/\a.Y[t]?=some (.row 5 [[Pp,N,.p (.int .i64 x.jump),.p (.int .i64 x.on),Z]])/\∃IA,Own X.length a.Y [Pp,N,.p (.int .i64 x.jump),.p (.int .i64 x.on),Z] ({x with next:=nxT (plI rl) x.next a.k}:Bk).cs IA/\t∉IA) (λa=>x.next.length-a.k) ⟨0,X++(os++[.row 5 [[Pp,N,.p (.int .i64 x.jump),.p (.int .i64 x.on),Z]]])⟩ ⟨We _,λj hj=>Wb hj,by simp;omega,?_,IP++(IN++IX),?_,λhm=>?_⟩ ?_ ?_
    ·rw[ht,Wg (by omega),Wg (by omega)];simp
    ·rw[NF,←Wp];exact hO.more _
    ·have:=hO.lt _ hm;simp at this;omega
    ·rw[ht];exact aa (We _) (by simp[below];omega)
    rintro⟨k,Y⟩ ⟨hk,hkp,htl,gt,IB,hB,htI⟩;simp only at hk hkp htl gt hB;obtain⟨Pp',N',Z',IP',IN',IX',e0,rfl,hP',hN',hZ'⟩:=eF hB;have y0:Y[0]?=some (AO.row 3 [[.p (.int .i64 c.params),.p (.int .i64 c.regs),.p (.lst 5 (c.blocks.map Bk.cs))]]):=(hkp _ h0l).trans g0;have y1:Y[1]?=some (.row 3 [[.p (.int .i64 0),.p (.int .i64 0),.nils]]):=(hkp _ h1l).trans g1;have y2:Y[2]?=some (.row 3 [[.p (.int .i64 c.params),.p (.int .i64 c.regs),V]]):=(hkp _ h2l).trans g2;simp only[Yh,and_true,true_and] at e0;obtain⟨rfl,rfl,rfl⟩:=e0;have hnd:=hB.nd;have hnT:=Ee (plI rl) x.next k;have hYd:=DK hkp (by omega);rcases io (λn=>PV.int .i64 n) (λ_ _ _ e=>by cases e) hZ' with⟨rfl,z2,z3⟩|⟨zid,rfl,rfl,z3,z4⟩
    ·have h0:x.next.length=0:=by
      have z2':nxT (plI rl) x.next k=[]:=z2;rw[←Ee (plI rl) x.next k,z2'];rfl
     simp[gt,h0];have hke:k=x.next.length:=(by omega);subst hke;rw[KK] at hB;exact⟨⟨0,Y⟩,⟨hkp,htl,gt,_,hB⟩,aa (We _) (by simp[below];omega)⟩
    ·rw[hnT];have hzl:=(Wa.1 z3).1;have z3:Y[zid]?=some (.row 1 (ae (nxT (plI rl) x.next k))):=z3;have hzt:zid≠t:=λe=>htI (by simp[e])
     by_cases hc2:k<x.next.length
     ·have hgk:=Wc hc2;have hgk2:=Qc (F:=plI rl) hc2;have hset:=Qh (F:=plI rl) hc2;have hmk:=Wm hc2;generalize x.next[k]=tt at hgk hgk2 hset hmk;obtain⟨t0,t1⟩:=hne b hmi x hgb tt hmk;have hpt:=hpg tt.toNat t1;have hte:((tt.toNat:Nat):Int)=tt:=(by omega);rw[hte] at hpt;have hwk:=w1 (i:=k) (by omega);have hri:=bW hgk2;have hril:(ae (nxT (plI rl) x.next k)).length=x.next.length:=(by rw[di,hnT]);have hrie:∀hh,(ae (nxT (plI rl) x.next k))[k]'hh=[.p (.int .i64 tt)]:=λhh=>ag hri hh;simp only[hnT] at gt⊢;simp[gt,hc2,z3,hpt,t0,jJ,hset,hril,hrie];refine⟨⟨k+1,Y.set zid (.row 1 (ae (nxT (plI rl) x.next (k+1))))⟩,⟨hc2,λj hj=>?_,by simpa using htl,?_,IP'++(IN'++[zid]),?_,htI⟩,by simp only;omega,aa (We _) (by simp[below,hwk];omega)⟩
      ·simp only;rw[Wd (by omega)];exact hkp j hj
      ·simp only;rw[Wd hzt,←hnT];rw[hnT];exact gt
      ·have hn1:=WG.1 hnd;have hn2:=WG.1 hn1.2.1;have hP2:∀j∈IP',zid≠j:=λj hj e=>hn1.2.2 j hj zid (by simp) e.symm;have hN2:∀j∈IN',zid≠j:=λj hj e=>hn2.2.2 j hj zid (by simp) e.symm;exact gX (b:={x with next:=nxT (plI rl) x.next (k+1)}) (hP'.frame λj hj=>Wd (hP2 j hj)) (hN'.frame λj hj=>Wd (hN2 j hj)) (aX (Wh hzl) z4 (by rw[Ee])) (λj hj=>⟨λhm=>hn1.2.2 j hj j (by simp[hm]) rfl,λhm=>hP2 j hj (Wt.1 hm).symm⟩) (λj hj hm=>hN2 j hj (Wt.1 hm).symm)
     ·have hke:k=x.next.length:=(by omega);simp only[hnT] at gt hB⊢;simp[gt,hc2];subst hke;rw[KK] at hB;exact⟨⟨0,Y⟩,⟨hkp,htl,gt,_,hB⟩,aa (We _) (by simp[below];omega)⟩
   rintro⟨_,Y⟩ ⟨hkp,htl,gt,IB,hB⟩;simp only at hkp htl gt hB;have y0:Y[0]?=some (AO.row 3 [[.p (.int .i64 c.params),.p (.int .i64 c.regs),.p (.lst 5 (c.blocks.map Bk.cs))]]):=(hkp _ h0l).trans g0;have y1:Y[1]?=some (.row 3 [[.p (.int .i64 0),.p (.int .i64 0),.nils]]):=(hkp _ h1l).trans g1;have y2:Y[2]?=some (.row 3 [[.p (.int .i64 c.params),.p (.int .i64 c.regs),V]]):=(hkp _ h2l).trans g2;have hYd:=DK hkp (by omega);simp[]
   obtain⟨IB2,hOR⟩:∃IB2,Own X.length (X++(Y.drop X.length++[AO.row 5 [[Pp,N,.p (.int .i64 x.jump),.p (.int .i64 x.on),Z]]])) [Pp,N,.p (.int .i64 x.jump),.p (.int .i64 x.on),Z] ({x with next:=x.next.map (plI rl)}:Bk).cs IB2:=⟨_,by
    rw[←Wp,←hYd];exact hB.more _⟩
   have hbt:bkL ((aH c.blocks rl).take (i+1))= .lst 5 (((aH c.blocks rl).take i).map Bk.cs++[({x with next:=x.next.map (plI rl)}:Bk).cs]):=(by rw[WQ,hpk,bkL,WF];rfl);have hlm:(((aH c.blocks rl).take i).map Bk.cs).length=i:=(by simp;omega);have hwi:=w1 (i:=i) (by omega);have hXY:X++(Y.drop X.length++[AO.row 5 [[Pp,N,.p (.int .i64 x.jump),.p (.int .i64 x.on),Z]]])=Y++[AO.row 5 [[Pp,N,.p (.int .i64 x.jump),.p (.int .i64 x.on),Z]]]:=(by rw[←Wp,←hYd]);have m2:∀t,(Y++t)[2]?=some (.row 3 [[.p (.int .i64 c.params),.p (.int .i64 c.regs),V]]):=λt=>(by rw[Wb (by omega)];exact y2);have m2e:=λt hh=>ag (m2 t) hh;rcases hV.rowAt with⟨rfl,hz⟩|⟨f,rows,hVf,hg2,hrl2,hf3⟩
   ·obtain⟨IV',q1,q2,q3,q4⟩:=hV.growL (k:=2) (o2:= .row 3 [[.p (.int .i64 c.params),.p (.int .i64 c.regs),.sl (Y.length+1) 5 0 1]]) hOR rfl (.inl ⟨rfl,rfl,rfl⟩) h2l;rw[hXY,←hbt] at q1;rw[hXY] at q2 q3 q4;simp only[Wp,Xt,Xj,Wn,WC,WL] at q1 q2 q3 q4;simp[-AV.cells,-AV.isCell,az,iv,aO,cI,p2,n2,x2,gt,y2,m2];exact⟨⟨i+1,_⟩,⟨hcc,(q4 0 (by omega)).trans g0,(q4 1 (by omega)).trans g1,_,q3,IV',q1⟩,by simp only;omega,aa (We _) (by simp[below,hwi];omega)⟩
   ·rw[hlm] at hVf hrl2;subst hVf;have hfl:=(Wa.1 hg2).1;have hgf:Y[f]?=some (.row 5 rows):=(hkp _ hfl).trans hg2;obtain⟨IV',q1,q2,q3,q4⟩:=hV.growL (k:=2) (o2:= .row 3 [[.p (.int .i64 c.params),.p (.int .i64 c.regs),.sl (Y.length+1) 5 0 (i+1)]]) hOR rfl (.inr ⟨f,rows,i,rfl,(by rw[Wb hfl];exact hg2),hrl2,rfl,rfl⟩) h2l;rw[hXY,←hbt] at q1;rw[hXY] at q2 q3 q4;simp only[Wn,WC,WL] at q1;have m7:∀t,(Y++t)[f]?=some (.row 5 rows):=λt=>(by rw[Wb (by omega)];exact hgf);have m8:∀t t',((Y++t).set f .dead++t')[2]?=some (.row 3 [[.p (.int .i64 c.params),.p (.int .i64 c.regs),.sl f 5 0 i]]):=λt t'=>(by rw[Wb (by simp;omega),Wd (by omega)];exact m2 t);have m8e:=λt t' hh=>ag (m8 t t') hh;have htk2:List.take i rows=rows:=Wi (by omega);simp[-AV.cells,-AV.isCell,az,iv,aO,cI,p2,n2,x2,gt,y2,m7,m8,htk2,hrl2];exact⟨by omega,⟨i+1,_⟩,⟨hcc,(q4 0 (by omega)).trans g0,(q4 1 (by omega)).trans g1,_,q3,IV',q1⟩,by simp only;omega,aa (We _) (by simp[below,hwi];omega)⟩
  ·have hcc:rl.length<=i:=by simpa using hcc
   rw[Wi (by omega)] at hV;exact⟨⟨0,X⟩,⟨g0,g1,V,g2,I,hV⟩,aa (We _) (by simp[below];omega)⟩
 rintro⟨_,X⟩ ⟨g0,g1,V,I,g2,hV⟩;simp only at g0 g1 g2 hV;have h0l:=(Wa.1 g0).1;have h1l:=(Wa.1 g1).1;have h2l:=(Wa.1 g2).1
 have hB0:CBd ⟨c.params,c.regs,aH c.blocks rl⟩:=by
  refine⟨by simp only;omega,λx hx=>?_⟩;obtain⟨b,hb,rfl⟩:=Ww.1 hx;have hbl2:=hin b hb;have:mj c.blocks b=c.blocks[b]:=by rw[mj,Wc hbl2];rfl
  simp only[Wj];rw[this];have:=(hs _ (Wm hbl2)).2.2.1;omega
 have hBi:∀i,i<=rl.length->CBd ⟨c.params,c.regs,pk2 c.blocks rl i⟩:=λi hi=>by
  refine⟨by simp only;rw[KU _ _ (by omega)];omega,λx hx=>?_⟩;have h1:x.next∈(pk2 c.blocks rl i).map Bk.next:=Zw hx;rw[GC] at h1;obtain⟨y,hy,he⟩:=Ww.1 h1;rw[←he];exact hB0.2 y hy
 simp[]
 refine am (λa:PkS=>aj 134 [(10,.p (.int .i64 a.i)),(6,.ptr 2 3 0 0),(4,.ptr 1 3 0 0),(2,.ptr 0 3 0 0),(1,.p (.lst 1 ((an rl).map λx=>[.int .i64 x])))]) (λa=>a.X)
  (λa=>a.i<=rl.length/\a.X[0]?=some (AO.row 3 [[.p (.int .i64 c.params),.p (.int .i64 c.regs),.p (.lst 5 (c.blocks.map Bk.cs))]])/\a.X[1]?=some (.row 3 [[.p (.int .i64 0),.p (.int .i64 0),.nils]])/\a.X[2]?=some (.row 3 [[.p (.int .i64 c.params),.p (.int .i64 c.regs),V]])/\∃I,Own 3 a.X [V] [bkL (pk2 c.blocks rl a.i)] I) (λa=>rl.length-a.i) ⟨0,X⟩ ⟨We _,g0,g1,g2,I,by rw[Pj];exact hV⟩ (aa (We _) (by simp[below];omega)) ?_
 clear g0 g1 g2 hV h0l h1l h2l X I;rintro⟨i,X⟩ ⟨hi,g0,g1,g2,I,hV⟩;simp only at hi g0 g1 g2 hV;have h0l:=(Wa.1 g0).1;have h1l:=(Wa.1 g1).1;have h2l:=(Wa.1 g2).1;obtain⟨v1,v2⟩:=hV.cell;simp[hLl];refine aA (λhcc=>?_) (λhcc=>?_)
 ·have hcc:i<rl.length:=by simpa using hcc
  have hgi:=Wc hcc;have hmi:=Wm hcc;generalize rl[i]=b at hgi hmi;have hbl2:=hin b hmi;have hgb:=Wc hbl2;have hmb:=Wm hbl2;generalize c.blocks[b]=x at hgb hmb;have hgn:(an rl)[i]?=some (b:Int):=by rw[an,Wl,hgi];rfl
  have hpk:=KB hgi hgb;have hpk2:=Ql hpk;have hstep:=Qe hpk hgi;have hwi:=w1 (i:=i) (by omega);have hP1:=mI G c b hc.1 hc.2;have hP2:=vR G (c:=⟨c.params,c.regs,pk2 c.blocks rl i⟩) hV (hBi i hi) i;have hnx:=iq (GC c.blocks rl i) (i:Int);have hclI:=hcl i b hgi;have hpal:=hpa b hmi x hgb;have hpl3:=(hs x hmb).1;have hol:=aU c.blocks (b:Int);have hnl:=aU (aH c.blocks rl) (i:Int);simp only at hP2;rw[hnx] at hP2;rw[hcs,hbl] at hP1;have hF:∀f:Ph,pkF c.blocks rl b i f=⟨f.to,(ab (aH c.blocks rl) i).map λj=>nE (ab c.blocks b) f ((rl[j.toNat]?).getD 0:Nat)⟩:=λ_=>rfl;generalize pkF c.blocks rl b i=F at hF hstep;generalize ab c.blocks b=olds at hP1 hclI hpal hol hF;generalize ab (aH c.blocks rl) i=news at hP2 hclI hnl hF;have hon:ah olds= .lst 1 (olds.map λn=>[.int .i64 n]):=rfl;have hnn:ah news= .lst 1 (news.map λn=>[.int .i64 n]):=rfl;have hxsl:(pk2 c.blocks rl i).length=rl.length:=by rw[KU _ _ (by omega)];exact hp1l
  generalize pk2 c.blocks rl i=xs at hV hP2 hpk2 hstep hxsl;obtain⟨xs',hxs'⟩:∃xs',xs'=pk2 c.blocks rl (i+1):=⟨_,rfl⟩;rw[←hxs'] at hstep;simp[g0,hgn];refine hP1.use ?_;simp[-AV.cells,-AV.isCell,g2];refine hP2.mono ?_;rintro z h1 ⟨rfl,rfl⟩;rw[hnn,hon];simp[];have hbx:i<xs.length:=by omega
  refine am (λa:PkU=>aj 134 [(13,.p (.int .i64 a.i)),(12,.p (.lst 1 (news.map λn=>[.int .i64 n]))),(11,.p (.lst 1 (olds.map λn=>[.int .i64 n]))),(10,.p (.int .i64 i)),(6,.ptr 2 3 0 0),(4,.ptr 1 3 0 0),(2,.ptr 0 3 0 0),(1,.p (.lst 1 ((an rl).map λx=>[.int .i64 x])))]) (λa=>a.X)
   (λa=>a.i<=x.phis.length/\a.X[0]?=some (AO.row 3 [[.p (.int .i64 c.params),.p (.int .i64 c.regs),.p (.lst 5 (c.blocks.map Bk.cs))]])/\a.X[1]?=some (.row 3 [[.p (.int .i64 0),.p (.int .i64 0),.nils]])/\a.X[2]?=some (.row 3 [[.p (.int .i64 c.params),.p (.int .i64 c.regs),V]])/\∃I,Own 3 a.X [V] [bkL (xs.set i {x with next:=x.next.map (plI rl),phis:=phT F x.phis a.i})] I) (λa=>x.phis.length-a.i) ⟨0,0,h1⟩ ⟨We _,g0,g1,g2,I,?_⟩ (aa (We _) (by simp[below];omega)) ?_
  ·have:xs.set i {x with next:=x.next.map (plI rl),phis:=phT F x.phis 0}=xs:=by
    obtain⟨_,q⟩:=Wa.1 hpk2;have e:({x with next:=x.next.map (plI rl),phis:=phT F x.phis 0}:Bk)=xs[i]:=(by rw[q];simp[phT]);rw[e,Xl]
   simp only;rw[this];exact hV
  clear hP2 g0 g1 g2 h0l h1l h2l hV I;rintro⟨k,_,X⟩ ⟨hk,g0,g1,g2,I,hV⟩;simp only at hk g0 g1 g2 hV;have h0l:=(Wa.1 g0).1;have h1l:=(Wa.1 g1).1;have h2l:=(Wa.1 g2).1;have hgx:(xs.set i {x with next:=x.next.map (plI rl),phis:=phT F x.phis k})[i]?=some {x with next:=x.next.map (plI rl),phis:=phT F x.phis k}:=Wh hbx;have hxsl2:(xs.set i {x with next:=x.next.map (plI rl),phis:=phT F x.phis k}).length=rl.length:=by simp[hxsl]
  have hpTl:=Kg F x.phis k
  by_cases hc3:k<x.phis.length
  ·have hgk:=Ke (F:=F) hc3;have hset:=Kh (F:=F) hc3;have hmf:=Wm hc3;generalize x.phis[k]=f at hgk hset hmf;have hfl:=hpal f hmf;obtain⟨gid,rows,pid,rows2,N,Z,A,IA,e1,e2,e3,e4,e5,e6,e7,e8,e9,e10,e11,e12⟩:=hV.phi hgx hgk;rw[hxsl2] at e1;subst e1;simp only at e3 e5;rw[hpTl] at e3 e5;have hgl:=(Wa.1 e2).1;have hpl':=(Wa.1 e4).1;have hg3:=hV.ge gid e8;have hp3:=hV.ge pid e9;have hwk:=w1 (i:=k) (by omega);have hfcs:=f.cs_eq2;have hfa:ah f.args= .lst 1 (f.args.map λn=>[.int .i64 n]):=rfl;obtain⟨LL,hLL⟩:∃LL:Nat->List Int,LL=λk=>(news.take k).map λj=>nE olds f ((rl[j.toNat]?).getD 0:Nat):=⟨_,rfl⟩;have L0:LL 0=[]:=by rw[hLL];simp
   have LN:(⟨f.to,LL news.length⟩:Ph)=F f:=(by rw[hLL,hF];simp);have Llen:∀k,k<=news.length->(LL k).length=k:=λk hk=>(by rw[hLL];simp;omega);have Lsuc:∀k p,news[k]?=some p->LL (k+1)=LL k++[nE olds f ((rl[p.toNat]?).getD 0:Nat)]:=λk p hp=>(by rw[hLL];simp only;rw[WQ,hp,WF];rfl);clear hLL;simp[g2,e2,e3,hc3];refine⟨hcc,?_⟩
   refine am (λa:PkU=>aj 134 [(15,.p (.int .i64 a.i)),(14,.sl a.o 1 0 a.i),(13,.p (.int .i64 k)),(12,.p (.lst 1 (news.map λn=>[.int .i64 n]))),(11,.p (.lst 1 (olds.map λn=>[.int .i64 n]))),(10,.p (.int .i64 i)),(6,.ptr 2 3 0 0),(4,.ptr 1 3 0 0),(2,.ptr 0 3 0 0),(1,.p (.lst 1 ((an rl).map λx=>[.int .i64 x])))]) (λa=>a.X)
    (λa=>a.i<=news.length/\X.length<=a.o/\a.X[a.o]?=some (.row 1 (ae (LL a.i)))/\KpF X a.X) (λa=>news.length-a.i) ⟨0,X.length,X++[.row 1 []]⟩ ⟨We _,Wo _,by simp[ae,L0],λj hj=>Wb hj⟩ (aa (We _) (by simp[below];omega)) ?_
   rintro⟨j,o,X2⟩ ⟨hj,ho,hX2,hkp⟩;simp only at hj ho hX2 hkp;have hol2:=(Wa.1 hX2).1;have n0:X2[2]?=some (.row 3 [[.p (.int .i64 c.params),.p (.int .i64 c.regs),.sl gid 5 0 rl.length]]):=(hkp _ h2l).trans g2;have n2:X2[gid]?=some (.row 5 rows):=(hkp _ hgl).trans e2;have n4:X2[pid]?=some (.row 2 rows2):=(hkp _ hpl').trans e4;have nA:∀j∈IA,X2[j]?=X[j]?:=λj hj=>hkp j (e7.lt j hj);simp[];refine aA (λhc2=>?_) (λhc2=>?_)
   ·have hc2:j<news.length:=(by simpa using hc2);have hgj:=Wc hc2;have hmj:=Wm hc2;generalize news[j]=pj at hgj hmj;obtain⟨j0,p,hjp,hpo⟩:=hclI pj hmj;obtain⟨q,q1,q2⟩:=JB hpo hfl;have hAt:=Kd G olds (p:Int) (by omega);rw[hon,q1] at hAt;have hixI:ixI (some q)=(q:Int):=rfl;rw[hixI] at hAt;have hwj:=w1 (i:=j) (by omega);have hql:=(Wa.1 q2).1;have hgn2:(an rl)[pj.toNat]?=some (p:Int):=(by rw[an,Wl,hjp];rfl);rcases io (λn=>PV.int .i64 n) (λ_ _ _ e=>by cases e) e7 with⟨_,z,_⟩|⟨aid,rfl,rfl,f3,f4⟩
    ·rw[z] at hql;simp at hql
    have n5:X2[aid]?=some (.row 1 (ae f.args)):=(nA aid (by simp)).trans f3;have n6:=bW q2;simp[hgj,n0,n2,n4,e3,e6,hc3,hgn2,j0];refine⟨hcc,hAt.use ?_⟩;have hLl:=Llen j hj;have hLs:=Lsuc j pj hgj;rw[hjp,Yb] at hLs;have htl:List.take j (ae (LL j))=ae (LL j):=Wi (by rw[di,hLl];exact Wo _);have hrl2:(ae (LL j)).length=j:=(by rw[di,hLl]);have m7:∀t,(X2++t)[o]?=some (.row 1 (ae (LL j))):=λt=>(by rw[Wb hol2];exact hX2);simp[n0,n2,n4,e3,e6,n5,n6,hql,m7,htl,hrl2];refine⟨⟨by omega,by omega⟩,⟨j+1,X2.length+1,_⟩,⟨by simp only;omega,by have:=hkp;simp only;omega,?_,λj2 hj2=>?_⟩,by simp only;omega,aa (We _) (by simp[below,hwj];omega)⟩
    ·simp only;rw[Wg (by simp),hLs];simp[ae]
    ·simp only;rw[Wb (by simp;omega),Wd (by omega),Wb (by omega)];exact hkp j2 hj2
   ·have hc2:news.length<=j:=(by simpa using hc2);have hje:j=news.length:=(by omega);subst hje;simp[n0,n2,n4,e3,e6,hc3]
    have hoI:∀j∈[o],j∈IA\/j∉I:=λj hj=>by
     rw[Wt.1 hj];exact .inr λhm=>by have:=hV.lt _ hm;omega
    have hpo:pid≠o:=(by omega);obtain⟨I2,r1,r2⟩:=e12 (X2.set pid (.row 2 (rows2.set k [.p (.int .i64 f.to),.sl o 1 0 news.length]))) (.sl o 1 0 news.length) (LL news.length) [o] (Wh (by have:=hkp;omega)) (λj hj hn1 _=>by rw[Wd (Ne.symm hn1)];exact hkp j (hV.lt j hj)) (aX (by rw[Wd hpo];exact hX2) (by omega) (Llen _ (Wo _)).symm) hoI;rw[Yf] at r1;simp only at r1;rw[LN,hset] at r1;refine⟨hcc,⟨k+1,0,_⟩,⟨by simp only;omega,?_,?_,?_,I2,r1⟩,by simp only;omega,aa (We _) (by simp[below,hwk];omega)⟩
    ·simp only;rw[Wd (by omega)];exact(hkp _ h0l).trans g0
    ·simp only;rw[Wd (by omega)];exact(hkp _ h1l).trans g1
    ·simp only;rw[Wd (by omega)];exact n0
  ·have hke:k=x.phis.length:=by omega
   subst hke;have hpe:phT F x.phis x.phis.length=x.phis.map F:=(by rw[phT];simp);have hV2:=hV;rw[hpe] at hV2;have hst:xs.set i {x with next:=x.next.map (plI rl),phis:=x.phis.map F}=xs':=hstep;rw[hst] at hV2;obtain⟨gid,rows,r,Jb,b1,b2,b3,b4,b5,b6,b7,b8⟩:=hV.bks hgx;obtain⟨Pp,N,Z,IP,IN,IZ,rfl,rfl,hP,hN,hZ⟩:=eF b5;rw[hxsl2] at b1;subst b1;have hPl:phL (phT F x.phis x.phis.length)= .lst 2 ((phT F x.phis x.phis.length).map Ph.cs):=rfl;simp only at hP b4;rw[hPl] at hP;rcases hP.row with⟨rfl,h2,_⟩|⟨pid,rows2,J,rfl,h2,hr,_⟩
   ·have h0:x.phis.length=0:=(by have:=congrArg List.length h2;simpa[hpTl] using this);simp[g2,b2,b4,h0];exact⟨hcc,⟨i+1,X⟩,⟨hcc,g0,g1,g2,I,by simp only;rw[←hxs'];exact hV2⟩,by simp only;omega,aa (We _) (by simp[below,hwi];omega)⟩
   ·rw[Wj,hpTl] at b4;simp[g2,b2,b4];exact⟨hcc,⟨i+1,X⟩,⟨hcc,g0,g1,g2,I,by simp only;rw[←hxs'];exact hV2⟩,by simp only;omega,aa (We _) (by simp[below,hwi];omega)⟩
 ·have hcc:rl.length<=i:=by simpa using hcc
  have hie:i=rl.length:=by omega
  subst hie;rw[←hp1l,PJ] at hV;have hs1:∀o,(X.set 1 o)[1]?=some o:=λo=>Wh (by omega);simp[-AV.cells,-AV.isCell,az,aO,v2,g1,g2,hs1];exact⟨_,I,rfl,nB (c:=jh c rl) ((hV.frame λj hj=>Wd λe=>by have:=hV.ge j hj;omega).low λj _=>We _)⟩
end
section
variable (G:aw)
theorem Fi(c:Cd)(hc:CBd c)(hf:be c.blocks=true):VF Tryz.prog G ca [.agg (c.cs.map .p)] (.p (ah (an (ew c.blocks)))):=
 jw G ((vX G c hc hf).mono λr h ⟨id,e1,e2⟩=>⟨_,e1,by rw[←dR (ew c.blocks)];exact dN e2⟩)
end
section
theorem Fj{n sz:Nat}{W:List AO}{id:Nat}:∀{m:Nat},W[id]?=some (.row 1 (List.replicate m [AV.nils]))->n<=id->Own n W [.sl id 1 0 m] [.lst 1 (List.replicate m [PV.lst sz []])] [id]:=by
 intro m hg hn
 have hfl:∀m,OwnL true W (List.replicate m [AV.nils]).flatten (List.replicate m [PV.lst sz []]).flatten []:=λm=>by
  induction m with
  |zero=>exact .nil
  |succ m ih=>rw[XT,XT,WX,WX];exact .nils sz ih
 exact Own.of ⟨hg,by simp,(λe he=>by rw[(XL.1 he).2];rfl),(λe he=>by rw[(XL.1 he).2];rfl),hfl m,by simp⟩ (λr hr v hv=>by rw[(XL.1 hr).2,Wt] at hv;rw[hv];rfl) (λj hj=>by cases hj) (λj hj=>by rw[Wt.1 hj];exact hn) (by simp)
theorem Km(n sz:Nat)(f:Int × Int->List PV):ju sz f (stT n [])= .lst 1 (List.replicate n [PV.lst sz []]):=by
 rw[ju,stT,Yu];congr 1;rw[List.eq_replicate_iff];simp[evR]
theorem lc{sz:Nat}{f:Int × Int->List PV}{T:List (List (Int × Int))}{i:Nat}{l:List (Int × Int)}(h:T[i]?=some l):(T.map λl=>[PV.lst sz (l.map f)])[i]?=some [.lst sz (l.map f)]:=by simp[h]
theorem kZ{sz:Nat}{f:Int × Int->List PV}{T:List (List (Int × Int))}(i:Nat)(l:List (Int × Int))(p:Int × Int):(T.map λl=>[PV.lst sz (l.map f)]).set i [.lst sz (l.map f++[f p])]=(T.set i (l++[p])).map λl=>[PV.lst sz (l.map f)]:=by rw[Ym];simp
theorem Al(E:List Ev5)(r:Int):(evR E r).length<=E.length:=by rw[evR,Wj];exact Xk _ _
theorem Qk(b:Nat)(x:Bk):(evB b x).length<=bkN x:=by
 rw[evB,Wn,bkN,evP,Wj,evI,Wj];have:=Xk (λy:Ii × Nat=>aI y.1.op) x.ins.zipIdx;rw[List.length_zipIdx] at this;omega
theorem Ai:∀(bs:List Bk),(evC bs).length<=(bs.map bkN).sum:=by
 intro bs
 have h:∀(k:Nat) (l:List Bk),((l.zipIdx k).flatMap λx=>evB x.2 x.1).length<=(l.map bkN).sum:=λk l=>by
  induction l generalizing k with
  |nil=>simp
  |cons x l ih=>
   rw[ZG,Zg,Wn,WJ,XC];have:=ih (k+1);have:=Qk k x;simp only at*
   omega
 exact h 0 bs
theorem Own.slLt{n sz m id:Nat}{X:List AO}{D:List (List PV)}{I:List Nat}(H:Own n X [.sl id sz 0 m] [.lst sz D] I):id<X.length:=by
 rcases H.row with⟨e,_⟩|⟨id2,rows,J,e,_,hr,_⟩
 ·cases e
 ·cases e;exact hr.lt
def mdB(x:Ii):Int:=if aI x.op=true then x.to else-1
def prL(p:Int × Int):List PV:=[ah [p.1,p.2]]
structure SetS where (i:Nat) (X:List AO)
variable (G:aw)
theorem MQ(x:Ii):VF Tryz.prog G lD [.agg (x.cs.map .p)] (.p (.int .i64 (mdB x))):=by
 have hxs:=x.cs_eq2;refine AC.go CT ?_;simp[rU,hxs];refine(gA G x.op).use ?_;cases hs:aI x.op with
 |true=>simp[mdB,hs]
 |false=>simp[mdB,hs]
theorem Mo(c:Cd)(hc:CVal c)(hf:en 1073741824 c)(h8:cdN c<=800):VF Tryz.prog G fT [.agg (c.cs.map .p)] (.p (ju 1 prL (stT c.regs.toNat (evC c.blocks)))):=by
 have hcs:=c.cs_eq2;have hbl:bkL c.blocks= .lst 5 (c.blocks.map Bk.cs):=rfl;have hp0:=hc.p0;have hpr:=hc.pr;have hr3:=hc.r3;obtain⟨n,hn⟩:∃n:Nat,c.regs=(n:Int):=⟨c.regs.toNat,by omega⟩;have hnt:c.regs.toNat=n:=by omega
 have hEl:=Ai c.blocks;have h8':(c.blocks.map bkN).sum<=800:=h8;rw[hnt];refine jw G ?_;refine AC.go Bh ?_;simp[oM,hcs,hbl,hn];refine⟨by omega,?_⟩;obtain⟨RC,hRC⟩:∃RC,RC=AO.row 3 [[.p (.int .i64 c.params),.p (.int .i64 n),.p (.lst 5 (c.blocks.map Bk.cs))]]:=⟨_,rfl⟩
 refine am (λa:SetS=>aj 87 [(4,.p (.int .i64 a.i)),(3,.sl 1 1 0 n),(1,.ptr 0 3 0 0)]) (λa=>a.X)
  (λa=>a.i<=c.blocks.length/\a.X[0]?=some RC/\∃I,Own 1 a.X [.sl 1 1 0 n] [ju 1 prL (stT n (evC (c.blocks.take a.i)))] I) (λa=>c.blocks.length-a.i) ⟨0,[RC,.row 1 (List.replicate n [.nils])]⟩ ⟨We _,rfl,[1],by rw[Yc,show evC []=[] from rfl,Km];exact Fj (by rfl) (Wo _)⟩ (by rw[hRC];exact aa (We _) (by simp[below])) ?_
 rintro⟨i,X⟩ ⟨hi,g0,I,hV⟩;simp only at hi g0 hV;have g0c:=g0;rw[hRC] at g0c;have h0l:=(Wa.1 g0).1;simp[g0c];refine aA (λhcc=>?_) (λhcc=>?_)
 ·have hcc:i<c.blocks.length:=by simpa using hcc
  have hgi:=Wc hcc;have hmi:=Wm hcc;generalize c.blocks[i]=x at hgi hmi;have hEt:=Gi hgi
  have hEl2:(evC (c.blocks.take i)).length+(evB i x).length<=800:=by
   have h1:=Ai (c.blocks.take (i+1));have h2:=dy bkN c.blocks (i+1);rw[hEt,Wn] at h1;omega
  generalize evC (c.blocks.take i)=E at hV hEt hEl2;have hxs:=x.cs_eq2;have hxf:=hf.2 x hmi;have hil:inL x.ins= .lst 4 (x.ins.map Ii.cs):=rfl;have hpl:phL x.phis= .lst 2 (x.phis.map Ph.cs):=rfl;have hwi:=w1 (i:=i) (by have:=hf.1;omega);simp[]
  refine am (λa:SetS=>aj 87 [(5,.p (.int .i64 a.i)),(4,.p (.int .i64 i)),(3,.sl 1 1 0 n),(1,.ptr 0 3 0 0)]) (λa=>a.X)
   (λa=>a.i<=x.phis.length/\a.X[0]?=some RC/\∃I,Own 1 a.X [.sl 1 1 0 n] [ju 1 prL (stT n (E++evP i (x.phis.take a.i)))] I) (λa=>x.phis.length-a.i) ⟨0,X⟩ ⟨We _,g0,I,by simpa[evP] using hV⟩ (aa (We _) (by simp[below];have:=Own.slLt hV;omega)) ?_
  ·clear g0 g0c h0l hV;rintro⟨j,X⟩ ⟨hj,g0,I,hV⟩;simp only at hj g0 hV;have g0c:=g0;rw[hRC] at g0c;have h0l:=(Wa.1 g0).1;have hVl:=Own.slLt hV;simp[g0c,hgi,hxs,hpl];refine aA (λhc2=>?_) (λhc2=>?_)
   ·have hc2:j<x.phis.length:=(by simpa using hc2);have hgj:=Wc hc2;have hmj:=Wm hc2;generalize x.phis[j]=f at hgj hmj;have hfs:=f.cs_eq2;have hEp:=Fv (b:=i) hgj;obtain⟨_,_,hto0,hto1⟩:=hc.pa i x hgi f hmj;have hton:f.to.toNat<n:=(by omega);have hwj:=w1 (i:=j) (by have:=hxf.phis;omega)
    have hE0l:(E++evP i (x.phis.take j)).length<=800:=by
     have:(evP i (x.phis.take j)).length<=(evB i x).length:=by rw[evB,Wn,evP,evP,Wj,Wj,WD];omega
     rw[Wn];omega
    have hEp2:E++evP i (x.phis.take (j+1))=(E++evP i (x.phis.take j))++[(f.to,((i:Int),(-1:Int)))]:=(by rw[hEp,Wp]);generalize E++evP i (x.phis.take j)=E0 at hV hE0l hEp2;have hgt:=mZ (n:=n) (r:=f.to.toNat) hton E0;have hpu:=uz (n:=n) hto0 E0 (((i:Int),(-1:Int)));have hto:((f.to.toNat:Nat):Int)=f.to:=(by omega);rw[hto] at hgt;have hel:=Al E0 f.to;generalize hLs:evR E0 f.to=Ls at hgt hpu hel;have hLsl:(Ls.map prL).length=Ls.length:=(by simp);obtain⟨id,rows,A,e1,e2,e3,e4,e5,e6,e7,e8⟩:=Own.cellPsh hV (lc (sz:=1) (f:=prL) hgt);have hDl:((stT n E0).map λl=>[PV.lst 1 (l.map prL)]).length=n:=(by rw[Wj,ll]);rw[hDl] at e1 e3;cases e1;have h1l:=(Wa.1 e2).1;have hOR:Own 1 (X++[AO.row 1 [[.p (.int .i64 i)],[.p (.int .i64 (-1))]],.row 1 [[.sl X.length 1 0 2]]]) [.sl X.length 1 0 2] [ah [(i:Int),-1]] [X.length]:=aX (l:=[(i:Int),-1]) (by simp) (by omega) rfl;have m1:∀t,(X++t)[1]?=some (.row 1 rows):=λt=>(by rw[Wb h1l];exact e2);have m1e:=λt hh=>ag (m1 t) hh;rcases e7 with rfl|⟨jd,rs,rfl,f2,f3,f4,f5⟩
    ·obtain⟨I',q1,q2,q3,q4⟩:=e8 _ _ [ah [(i:Int),-1]] _ _ _ hOR (λj hj=>by rw[Wt.1 hj];exact Wo _) rfl (.inl ⟨rfl,rfl,rfl⟩);have hset:=kZ (sz:=1) (f:=prL) (T:=stT n E0) f.to.toNat Ls (((i:Int),(-1:Int)));simp[g0c,hgi,hxs,hpl,hgj,hfs,e2,m1e,e4,hto0];have h0I:0∉I:=λhm=>(by have:=hV.ge 0 hm;omega);have g0':=q3 0 h0l h0I;have hset2:(List.map (λl=>[PV.lst 1 (List.map prL l)]) (stT n E0)).set f.to.toNat [PV.lst 1 (List.map prL Ls++[[ah [(i:Int),-1]]])]=List.map (λl=>[PV.lst 1 (List.map prL l)]) (stT n (E0++[(f.to,((i:Int),(-1:Int)))])):=(by rw[hpu];exact hset);rw[hset2] at q1;simp only[Wp,Xt,Xj,Wn,WC,WL] at q1 g0';exact⟨by omega,⟨j+1,_⟩,⟨hc2,by simp only;rw[g0',g0],I',by simp only;rw[hEp2];exact q1⟩,by simp only;omega,aa (We _) (by simp[below,hwj])⟩
    ·have hjl:=(Wa.1 f2).1;obtain⟨I',q1,q2,q3,q4⟩:=e8 _ _ [ah [(i:Int),-1]] _ _ _ hOR (λj hj=>by rw[Wt.1 hj];exact Wo _) rfl (.inr ⟨jd,rs,Ls.length,by rw[hLsl],(by rw[Wb hjl];exact f2),by rw[f3,hLsl],rfl,rfl⟩);have hset:=kZ (sz:=1) (f:=prL) (T:=stT n E0) f.to.toNat Ls (((i:Int),(-1:Int)));have m7:∀t,(X++t)[jd]?=some (.row 1 rs):=λt=>(by rw[Wb hjl];exact f2);have m8:∀t t',((X++t).set jd .dead++t')[1]?=some (.row 1 rows):=λt t'=>(by rw[Wb (by simp;omega),Wd f4,Wb h1l];exact e2);have m8e:=λt t' hh=>ag (m8 t t') hh;rw[hLsl] at f3;have htk2:List.take Ls.length rs=rs:=Wi (by omega);simp[g0c,hgi,hxs,hpl,hgj,hfs,e2,e4,hto0,hLsl,m7,m8e,htk2,f3];have h0I:0∉I:=λhm=>(by have:=hV.ge 0 hm;omega);have g0':=q3 0 h0l h0I;have hset2:(List.map (λl=>[PV.lst 1 (List.map prL l)]) (stT n E0)).set f.to.toNat [PV.lst 1 (List.map prL Ls++[[ah [(i:Int),-1]]])]=List.map (λl=>[PV.lst 1 (List.map prL l)]) (stT n (E0++[(f.to,((i:Int),(-1:Int)))])):=(by rw[hpu];exact hset);rw[hset2] at q1;rw[Zq _ _ (by simp)] at q1 g0';simp only[Wn,WC,WL] at q1 g0';exact⟨by omega,by omega,by omega,⟨j+1,_⟩,⟨hc2,by simp only;rw[g0',g0],I',by simp only;rw[hEp2];exact q1⟩,by simp only;omega,aa (We _) (by simp[below,hwj])⟩
   ·have hc2:x.phis.length<=j:=(by simpa using hc2);rw[Wi hc2] at hV;simp[];have hEB:E++evB i x=(E++evP i x.phis)++evI i x.ins:=by rw[evB,Wp]
    have hEl3:(E++evP i x.phis).length+(evI i x.ins).length<=800:=by rw[evB,Wn] at hEl2;rw[Wn];omega
    rw[hEB] at hEt;generalize E++evP i x.phis=E at hV hEt hEl3
    refine am (λa:SetS=>aj 87 [(7,.p (.int .i64 a.i)),(4,.p (.int .i64 i)),(3,.sl 1 1 0 n),(1,.ptr 0 3 0 0)]) (λa=>a.X)
     (λa=>a.i<=x.ins.length/\a.X[0]?=some RC/\∃I,Own 1 a.X [.sl 1 1 0 n] [ju 1 prL (stT n (E++evI i (x.ins.take a.i)))] I) (λa=>x.ins.length-a.i) ⟨0,X⟩ ⟨We _,g0,I,by simpa[evI] using hV⟩ (aa (We _) (by simp[below];have:=Own.slLt hV;omega)) ?_
    clear g0 g0c h0l hV hVl;rintro⟨j,X⟩ ⟨hj,g0,I,hV⟩;simp only at hj g0 hV;have g0c:=g0;rw[hRC] at g0c;have h0l:=(Wa.1 g0).1;have hVl:=Own.slLt hV;simp[g0c,hgi,hxs,hil];refine aA (λhc2=>?_) (λhc2=>?_)
    ·have hc2:j<x.ins.length:=(by simpa using hc2);have hgj:=Wc hc2;have hmj:=Wm hc2;generalize x.ins[j]=y at hgj hmj;have hys:=y.cs_eq2;have hEp:=Gj (b:=i) hgj;have hia:=hc.ia i x hgi y hmj;have hwj:=w1 (i:=j) (by have:=hxf.ins;omega)
     have hE0l:(E++evI i (x.ins.take j)).length<=800:=by
      have h1:(evI i (x.ins.take j)).length<=(evI i x.ins).length:=by
       have:x.ins=x.ins.take j++x.ins.drop j:=(XH j x.ins).symm
       have h2:(x.ins.take j).zipIdx.filter (λy=>aI y.1.op)<+:x.ins.zipIdx.filter (λy=>aI y.1.op):=by
        conv=>rhs;rw[this,YZ,Yl]
        exact List.prefix_append _ _
       rw[evI,evI,Wj,Wj];exact h2.length_le
      rw[Wn];omega
     have hEp2:E++evI i (x.ins.take (j+1))=(E++evI i (x.ins.take j))++if aI y.op=true then[(y.to,((i:Int),(j:Int)))] else[]:=by rw[hEp,Wp]
     generalize E++evI i (x.ins.take j)=E0 at hV hE0l hEp2;have hM:=MQ G y;rw[hys] at hM;simp[g0c,hgi,hxs,hil,hgj,hys];refine hM.use ?_;cases hs:aI y.op with
     |false=>
      have hmd:mdB y= -1:=(by rw[mdB,hs];rfl);rw[hs] at hEp2;simp only[Ye,if_false,WI] at hEp2;simp[hmd];exact⟨⟨j+1,X⟩,⟨hc2,g0,I,by simp only;rw[hEp2];exact hV⟩,by simp only;omega,aa (We _) (by simp[below,hwj];omega)⟩
     |true=>
      have hmd:mdB y=y.to:=(by rw[mdB,hs];rfl);rw[hs] at hEp2;simp only[if_true] at hEp2;obtain⟨hto0,hto1⟩:=hia.2.2.2.1 hs;have hton:y.to.toNat<n:=(by omega);rw[hmd];simp[hto0];have hgt:=mZ (n:=n) (r:=y.to.toNat) hton E0;have hpu:=uz (n:=n) hto0 E0 (((i:Int),((j:Int):Int)));have hto:((y.to.toNat:Nat):Int)=y.to:=(by omega);rw[hto] at hgt;have hel:=Al E0 y.to;generalize hLs:evR E0 y.to=Ls at hgt hpu hel;have hLsl:(Ls.map prL).length=Ls.length:=(by simp);obtain⟨id,rows,A,e1,e2,e3,e4,e5,e6,e7,e8⟩:=Own.cellPsh hV (lc (sz:=1) (f:=prL) hgt);have hDl:((stT n E0).map λl=>[PV.lst 1 (l.map prL)]).length=n:=(by rw[Wj,ll]);rw[hDl] at e1 e3;cases e1;have h1l:=(Wa.1 e2).1;have hOR:Own 1 (X++[AO.row 1 [[.p (.int .i64 i)],[.p (.int .i64 (j:Int))]],.row 1 [[.sl X.length 1 0 2]]]) [.sl X.length 1 0 2] [ah [(i:Int),(j:Int)]] [X.length]:=aX (l:=[(i:Int),(j:Int)]) (by simp) (by omega) rfl;have m1:∀t,(X++t)[1]?=some (.row 1 rows):=λt=>(by rw[Wb h1l];exact e2);have m1e:=λt hh=>ag (m1 t) hh;rcases e7 with rfl|⟨jd,rs,rfl,f2,f3,f4,f5⟩
      ·obtain⟨I',q1,q2,q3,q4⟩:=e8 _ _ [ah [(i:Int),(j:Int)]] _ _ _ hOR (λj hj=>by rw[Wt.1 hj];exact Wo _) rfl (.inl ⟨rfl,rfl,rfl⟩);have hset:=kZ (sz:=1) (f:=prL) (T:=stT n E0) y.to.toNat Ls (((i:Int),((j:Int):Int)));simp[e2,m1e,e4,hto0];have h0I:0∉I:=λhm=>(by have:=hV.ge 0 hm;omega);have g0':=q3 0 h0l h0I;have hset2:(List.map (λl=>[PV.lst 1 (List.map prL l)]) (stT n E0)).set y.to.toNat [PV.lst 1 (List.map prL Ls++[[ah [(i:Int),(j:Int)]]])]=List.map (λl=>[PV.lst 1 (List.map prL l)]) (stT n (E0++[(y.to,((i:Int),((j:Int):Int)))])):=(by rw[hpu];exact hset);rw[hset2] at q1;simp only[Wp,Xt,Xj,Wn,WC,WL] at q1 g0';exact⟨by omega,⟨j+1,_⟩,⟨hc2,by simp only;rw[g0',g0],I',by simp only;rw[hEp2];exact q1⟩,by simp only;omega,aa (We _) (by simp[below,hwj])⟩
      ·have hjl:=(Wa.1 f2).1;obtain⟨I',q1,q2,q3,q4⟩:=e8 _ _ [ah [(i:Int),(j:Int)]] _ _ _ hOR (λj hj=>by rw[Wt.1 hj];exact Wo _) rfl (.inr ⟨jd,rs,Ls.length,by rw[hLsl],(by rw[Wb hjl];exact f2),by rw[f3,hLsl],rfl,rfl⟩);have hset:=kZ (sz:=1) (f:=prL) (T:=stT n E0) y.to.toNat Ls (((i:Int),((j:Int):Int)));have m7:∀t,(X++t)[jd]?=some (.row 1 rs):=λt=>(by rw[Wb hjl];exact f2);have m8:∀t t',((X++t).set jd .dead++t')[1]?=some (.row 1 rows):=λt t'=>(by rw[Wb (by simp;omega),Wd f4,Wb h1l];exact e2);have m8e:=λt t' hh=>ag (m8 t t') hh;rw[hLsl] at f3;have htk2:List.take Ls.length rs=rs:=Wi (by omega);simp[e2,e4,hto0,hLsl,m7,m8e,htk2,f3];have h0I:0∉I:=λhm=>(by have:=hV.ge 0 hm;omega);have g0':=q3 0 h0l h0I;have hset2:(List.map (λl=>[PV.lst 1 (List.map prL l)]) (stT n E0)).set y.to.toNat [PV.lst 1 (List.map prL Ls++[[ah [(i:Int),(j:Int)]]])]=List.map (λl=>[PV.lst 1 (List.map prL l)]) (stT n (E0++[(y.to,((i:Int),((j:Int):Int)))])):=(by rw[hpu];exact hset);rw[hset2] at q1;rw[Zq _ _ (by simp)] at q1 g0';simp only[Wn,WC,WL] at q1 g0';exact⟨by omega,by omega,by omega,⟨j+1,_⟩,⟨hc2,by simp only;rw[g0',g0],I',by simp only;rw[hEp2];exact q1⟩,by simp only;omega,aa (We _) (by simp[below,hwj])⟩
    ·have hc2:x.ins.length<=j:=(by simpa using hc2);rw[Wi hc2] at hV;simp[];exact⟨⟨i+1,X⟩,⟨hcc,g0,I,by simp only;rw[hEt];exact hV⟩,by simp only;omega,aa (We _) (by simp[below,hwi];omega)⟩
 ·have hcc:c.blocks.length<=i:=by simpa using hcc
  rw[Wi hcc] at hV;simp[];exact hV.view
end
section
def AllB{α:Type}(p:α->Bool)(l:List α):Prop:=l.all p=true
theorem AllB.nil{α:Type}(p:α->Bool):AllB p []:=rfl
theorem AllB.snoc{α:Type}{p:α->Bool}{l:List α}{x:α}(h:AllB p l)(hx:p x=true):AllB p (l++[x]):=by rw[AllB] at*;rw[List.all_append,h];simp[hx]
def AllT{α:Type}(p:Nat->α->Bool)(l:List α)(i:Nat):Prop:=∀(k:Nat) (x:α),k<i->l[k]?=some x->p k x=true
theorem AllT.nil{α:Type}(p:Nat->α->Bool)(l:List α):AllT p l 0:=λk x h=>by omega
theorem AllT.snoc{α:Type}{p:Nat->α->Bool}{l:List α}{i:Nat}{x:α}(h:AllT p l i)(hx:l[i]?=some x)(hp:p i x=true):AllT p l (i+1):=λk y hk hy=>by
 by_cases e:k=i
 ·subst e;rw[hx] at hy;cases hy;exact hp
 ·exact h k y (by omega) hy
theorem AllT.all{α:Type}{p:Nat->α->Bool}{l:List α}{i:Nat}(h:AllT p l i)(hi:l.length<=i):uc p l=true:=
 allI_iff.2 λk x hx=>h k x (by have:=(Wa.1 hx).1;omega) hx
def stL(c:Cd):List (List (Int × Int)):=stT c.regs.toNat (evC c.blocks)
theorem Aj{c:Cd}{r:Int}(h0:0<=r)(h1:r<c.regs):(stL c)[r.toNat]?=some (dB c.blocks r):=by
 rw[stL,mZ (by omega),ND];have:((r.toNat:Nat):Int)=r:=by omega
 rw[this]
theorem Fz{bs:List Bk}{r:Int}{p:Int × Int}(h:p∈dB bs r):0<=p.1/\p.1.toNat<bs.length:=by
 obtain⟨b,x,hb,h|⟨i,y,_,_,_,rfl⟩⟩:=mem_setsC.1 h
 ·rw[h.1];have:=(Wa.1 hb).1;simp;omega
 ·have:=(Wa.1 hb).1;simp;omega
theorem zD:AK.whole iV=FK.ak iJ:=rfl
variable (G:aw)
theorem Jd(c:Cd){r b i:Int}(h0:0<=r)(h1:r<c.regs)(hb0:0<=b)(hb1:b<c.blocks.length):VF Tryz.prog G db [.agg (c.cs.map .p),.p (ju 1 prL (stL c)),.p (CZ c.blocks),.p (.int .i64 r),.p (.int .i64 b),.p (.int .i64 i)] (.p (.bool (gB c r b i))):=by
 have hcs:=c.cs_eq2;have hg:=Aj h0 h1;have hl:=(Wa.1 hg).1;have hin:=λp hp=> @Fz c.blocks r p hp;have htb:ju 1 prL (stL c)= .lst 1 ((stL c).map λl=>[PV.lst 1 (l.map prL)]):=rfl;rw[gB];generalize dB c.blocks r=Ls at hg hin;generalize stL c=T at hg hl htb;have hmg:(T.map λl=>[PV.lst 1 (l.map prL)])[r.toNat]?=some [.lst 1 (Ls.map prL)]:=lc hg;have hml:r<((T.map λl=>[PV.lst 1 (l.map prL)]).length:Int):=by rw[Wj];omega
 rw[htb];clear htb hg hl;generalize (T.map λl=>[PV.lst 1 (l.map prL)])=D at hmg hml;have hml2:r.toNat<D.length:=(Wa.1 hmg).1;refine AC.go zI ?_
 by_cases hp:r<c.params
 ·simp[cX,hcs,hp]
 ·cases Ls with
  |nil=>simp[cX,hcs,hp,hmg,h0]
  |cons p t=>
   obtain⟨q0,q1⟩:=hin p (by simp);have hd1:((List.range c.blocks.length).map λi=>[boL (gF c.blocks i)])[p.1.toNat]?=some [boL (gF c.blocks p.1.toNat)]:=(by rw[Wl,YJ q1];rfl);have hd2:(gF c.blocks p.1.toNat)[b.toNat]?=some (rE c.blocks p.1.toNat b.toNat):=(by rw[gF,Wl,YJ (by omega)];rfl);have hbl:boL (gF c.blocks p.1.toNat)= .lst 1 ((gF c.blocks p.1.toNat).map λb=>[.bool b]):=rfl;have hdl:CZ c.blocks= .lst 1 ((List.range c.blocks.length).map λi=>[boL (gF c.blocks i)]):=rfl;have hpr:prL p=[.lst 1 [[.int .i64 p.1],[.int .i64 p.2]]]:=rfl;have hne:¬(t.length:Int)+1=0:=by omega
   by_cases hpb:p.1=b
   ·simp[cX,hcs,hp,hmg,h0,hpr,hpb,hne]
   ·simp[cX,hcs,hp,hmg,h0,hpr,hpb,hdl,hd2,hbl,q0,q1,hb0,hne]
theorem HC(c:Cd)(hv:CVal c)(hf:en 1073741824 c){b:Nat}{x:Bk}(hb:c.blocks[b]?=some x):VF Tryz.prog G iO [.agg (c.cs.map .p),.p (ju 1 prL (stL c)),.p (CZ c.blocks),.p (.int .i64 b)] (.p (.bool (bV c b x))):=by
 have hcs:=c.cs_eq2;have hbl:bkL c.blocks= .lst 5 (c.blocks.map Bk.cs):=rfl;have hxs:=x.cs_eq2;have hxf:=hf.2 x (Wq hb);have hil:inL x.ins= .lst 4 (x.ins.map Ii.cs):=rfl;have hpl:phL x.phis= .lst 2 (x.phis.map Ph.cs):=rfl;have hc:CBd c:=⟨hf.1,λx hx=>(hf.2 x hx).next⟩;have hPr:=mI G c b hf.1 hc.2;have hR:=λ(r b i:Int) (h0:0<=r) (h1:r<c.regs) (hb0:0<=b) (hb1:b<c.blocks.length)=>Jd G c (i:=i) h0 h1 hb0 hb1;have hbb:(b:Int)<c.blocks.length:=by have:=(Wa.1 hb).1;omega
 have hpn:ah (ab c.blocks b)= .lst 1 ((ab c.blocks b).map λn=>[.int .i64 n]):=rfl;have hpml:=aU c.blocks b;have hcl:=hf.1;rw[hcs,hbl] at hPr;simp only[hcs,hbl] at hR;generalize ju 1 prL (stL c)=TB at hR;generalize CZ c.blocks=DB at hR;obtain⟨H0,hH0⟩:∃H0,H0=[AO.row 3 [[.p (.int .i64 c.params),.p (.int .i64 c.regs),.p (.lst 5 (c.blocks.map Bk.cs))]],.row 5 [[.p (.lst 2 (x.phis.map Ph.cs)),.p (.lst 4 (x.ins.map Ii.cs)),.p (.int .i64 x.jump),.p (.int .i64 x.on),.p (ah x.next)]]]:=⟨_,rfl⟩;have g0:H0[0]?=some (AO.row 3 [[.p (.int .i64 c.params),.p (.int .i64 c.regs),.p (.lst 5 (c.blocks.map Bk.cs))]]):=by rw[hH0];rfl
 have g1:H0[1]?=some (.row 5 [[.p (.lst 2 (x.phis.map Ph.cs)),.p (.lst 4 (x.ins.map Ii.cs)),.p (.int .i64 x.jump),.p (.int .i64 x.on),.p (ah x.next)]]):=by rw[hH0];rfl
 have gl:H0.length=2:=by rw[hH0];rfl
 refine AC.goK zM zD ?_;simp[iV,iJ,hcs,hbl,hb,hxs,hil,hpl];refine hPr.use ?_;rw[hpn,←hH0];clear hH0;simp[];refine dc (λ_:Unit=>aj 113 [(9,.ptr 1 5 0 0),(4,.ptr 0 3 0 0),(1,.p TB),(2,.p DB),(3,.p (.int .i64 b))]) (λ_=>H0) (λ_=>AllB (nO c b) x.phis) ?_ ?_
 ·simp[];refine am (λi:Nat=>aj 113 [(11,.p (.int .i64 i)),(10,.p (.lst 1 ((ab c.blocks b).map λn=>[.int .i64 n]))),(9,.ptr 1 5 0 0),(4,.ptr 0 3 0 0),(1,.p TB),(2,.p DB),(3,.p (.int .i64 b))]) (λ_=>H0) (λi=>i<=x.phis.length/\AllB (nO c b) (x.phis.take i)) (λi=>x.phis.length-i) 0 ⟨We _,by rw[Yc];exact .nil _⟩ (aa (We _) (by simp[below,gl])) ?_;rintro i ⟨hi,hq⟩;simp[g1];refine aA (λhcc=>?_) (λhcc=>?_)
  ·have hcc:i<x.phis.length:=by simpa using hcc
   have hgi:=Wc hcc;have hmi:=Wm hcc;have htk:x.phis.take (i+1)=x.phis.take i++[x.phis[i]]:=aq hcc;generalize x.phis[i]=f at hgi hmi htk;have hfs:=f.cs_eq2;have hfa:ah f.args= .lst 1 (f.args.map λn=>[.int .i64 n]):=rfl;obtain⟨pa1,pa2,pa3,pa4⟩:=hv.pa b x hb f hmi;have hwi:=w1 (i:=i) (by have:=hxf.phis;omega);simp[];refine am (λk:Nat=>aj 113 [(12,.p (.int .i64 k)),(11,.p (.int .i64 i)),(10,.p (.lst 1 ((ab c.blocks b).map λn=>[.int .i64 n]))),(9,.ptr 1 5 0 0),(4,.ptr 0 3 0 0),(1,.p TB),(2,.p DB),(3,.p (.int .i64 b))]) (λ_=>H0) (λk=>k<=(ab c.blocks b).length/\AllB (λx=>gB c x.2 x.1 (sO c.blocks x.1)) (((ab c.blocks b).zip f.args).take k)) (λk=>(ab c.blocks b).length-k) 0 ⟨We _,by rw[Yc];exact .nil _⟩ (aa (We _) (by simp[below,gl])) ?_;rintro k ⟨hk,hqk⟩;simp[];refine aA (λhc2=>?_) (λhc2=>?_)
   ·have hc2:k<(ab c.blocks b).length:=(by simpa using hc2);have hgk:=Wc hc2;have hmk:=Wm hc2;generalize (ab c.blocks b)[k]=p at hgk hmk;obtain⟨pn,px,rfl,hpx,_⟩:=eW hmk;have hgr:k<f.args.length:=(by omega);have hgq:=Wc hgr;have hmq:=Wm hgr;generalize f.args[k]=q at hgq hmq;have hq2:=pa2 q hmq;have hzk:((ab c.blocks b).zip f.args)[k]?=some ((pn:Int),q):=(by rw[Yo];exact⟨hgk,hgq⟩);have hzt:((ab c.blocks b).zip f.args).take (k+1)=((ab c.blocks b).zip f.args).take k++[((pn:Int),q)]:=(by rw[WQ,hzk];rfl);have hpl2:=(Wa.1 hpx).1;have hinl:sO c.blocks (pn:Int)=px.ins.length:=(by rw[sO,XF,hpx]);have hpxs:=px.cs_eq2;have hpil:inL px.ins= .lst 4 (px.ins.map Ii.cs):=rfl;have hRR:=hR q pn px.ins.length hq2.1 hq2.2 (by omega) (by omega);simp[g0,g1,hgi,hfs,hfa,hgk,hgq,hpx,hpxs,hpil];refine hRR.use ?_;cases hrr:gB c q pn px.ins.length with
    |false=>
     have hff:bV c b x=false:=by
      have h1:nO c b f=false:=by
       rw[nO,Yp];exact⟨_,Wq hzk,by simp[hinl,hrr]⟩
      have h2:x.phis.all (nO c b)=false:=(by rw[Yp];exact⟨f,hmi,by simp[h1]⟩);rw[bV,h2];rfl
     simp[hff]
    |true=>
     simp[];refine⟨k+1,⟨by omega,?_⟩,by omega,aa (We _) (by simp[below,gl,w1 (i:=k) (by omega)])⟩;rw[hzt];exact hqk.snoc (by simp only[hinl];exact hrr)
   ·have hc2:(ab c.blocks b).length<=k:=(by simpa using hc2);rw[Wi (by rw[YX];omega)] at hqk;simp[];refine⟨i+1,⟨by omega,?_⟩,by omega,aa (We _) (by simp[below,gl,hwi])⟩;rw[htk];exact hq.snoc hqk
  ·have hcc:x.phis.length<=i:=by simpa using hcc
   rw[Wi hcc] at hq;exact⟨(),hq,aa (We _) (by simp[below,gl])⟩
 rintro⟨⟩ hphi;refine dc (λ_:Unit=>aj 113 [(9,.ptr 1 5 0 0),(4,.ptr 0 3 0 0),(1,.p TB),(2,.p DB),(3,.p (.int .i64 b))]) (λ_=>H0) (λ_=>uc (λi (y:Ii)=>y.args.all λr=>gB c r b i) x.ins=true) ?_ ?_
 ·simp[];refine am (λi:Nat=>aj 113 [(13,.p (.int .i64 i)),(9,.ptr 1 5 0 0),(4,.ptr 0 3 0 0),(1,.p TB),(2,.p DB),(3,.p (.int .i64 b))]) (λ_=>H0) (λi=>i<=x.ins.length/\AllT (λi (y:Ii)=>y.args.all λr=>gB c r b i) x.ins i) (λi=>x.ins.length-i) 0 ⟨We _,.nil _ _⟩ (aa (We _) (by simp[below,gl])) ?_;rintro i ⟨hi,hq⟩;simp[g1];refine aA (λhcc=>?_) (λhcc=>?_)
  ·have hcc:i<x.ins.length:=by simpa using hcc
   have hgi:=Wc hcc;have hmi:=Wm hcc;generalize x.ins[i]=y at hgi hmi;have hys:=y.cs_eq2;have hya:ah y.args= .lst 1 (y.args.map λn=>[.int .i64 n]):=rfl;have hia:=(hv.ia b x hb y hmi).2.2.1;have hal:=hxf.ia y hmi;have hwi:=w1 (i:=i) (by have:=hxf.ins;omega);simp[];refine am (λk:Nat=>aj 113 [(14,.p (.int .i64 k)),(13,.p (.int .i64 i)),(9,.ptr 1 5 0 0),(4,.ptr 0 3 0 0),(1,.p TB),(2,.p DB),(3,.p (.int .i64 b))]) (λ_=>H0) (λk=>k<=y.args.length/\AllB (λr=>gB c r b i) (y.args.take k)) (λk=>y.args.length-k) 0 ⟨We _,by rw[Yc];exact .nil _⟩ (aa (We _) (by simp[below,gl])) ?_;rintro k ⟨hk,hqk⟩;simp[g1,hgi,hys,hya];refine aA (λhc2=>?_) (λhc2=>?_)
   ·have hc2:k<y.args.length:=(by simpa using hc2);have hgk:=Wc hc2;have hmk:=Wm hc2;have htk:y.args.take (k+1)=y.args.take k++[y.args[k]]:=aq hc2;generalize y.args[k]=q at hgk hmk htk;have hq2:=hia q hmk;have hRR:=hR q b i hq2.1 hq2.2 (by omega) hbb;simp[g0,g1,hgi,hys,hya,hgk];refine hRR.use ?_;cases hrr:gB c q b i with
    |false=>
     have hff:bV c b x=false:=by
      have h2:uc (λi (y:Ii)=>y.args.all λr=>gB c r b i) x.ins=false:=dA hgi (by rw[Yp];exact⟨q,hmk,by simp[hrr]⟩);rw[bV,h2,Yw];rfl
     simp[hff]
    |true=>
     simp[];refine⟨k+1,⟨by omega,?_⟩,by omega,aa (We _) (by simp[below,gl,w1 (i:=k) (by omega)])⟩;rw[htk];exact hqk.snoc hrr
   ·have hc2:y.args.length<=k:=(by simpa using hc2);rw[Wi hc2] at hqk;simp[];exact⟨i+1,⟨by omega,hq.snoc hgi hqk⟩,by omega,aa (We _) (by simp[below,gl,hwi])⟩
  ·have hcc:x.ins.length<=i:=by simpa using hcc
   exact⟨(),hq.all hcc,aa (We _) (by simp[below,gl])⟩
 rintro⟨⟩ hins
 have hB:bV c b x=(decide (x.jump=1)||gB c x.on b x.ins.length):=by
  have h1:x.phis.all (nO c b)=true:=hphi;rw[bV,h1,hins];rfl
 rw[hB]
 by_cases hj:x.jump=1
 ·simp[g1,hj]
 ·have hon:=hv.on b x hb hj;have hRR:=hR x.on b x.ins.length hon.1 hon.2 (by omega) hbb;simp[g0,g1,hj];refine hRR.use ?_;simp[]
theorem QL(c:Cd)(hv:CVal c)(hf:en 1073741824 c)(h8:cdN c<=800)(hfit:be c.blocks=true):VF Tryz.prog G nk [.agg (c.cs.map .p)] (.p (.bool (dP c))):=by
 have hcs:=c.cs_eq2;have hbl:bkL c.blocks= .lst 5 (c.blocks.map Bk.cs):=rfl;have hc:CBd c:=⟨hf.1,λx hx=>(hf.2 x hx).next⟩;have hO:=Fi G c hc hfit;have hS:=Mo G c hv hf h8;have hD:=Lg G c hc hfit;have hB:=λ(b:Nat) (x:Bk) (hb:c.blocks[b]?=some x)=>HC G c hv hf hb;have hnn:ah (an (ew c.blocks))= .lst 1 ((an (ew c.blocks)).map λn=>[.int .i64 n]):=rfl;have hol:=Au hfit
 have hRl:(ew c.blocks).length=c.blocks.length↔(List.range c.blocks.length).all (cz c.blocks)=true:=by
  rw[hol,cF,Wj];constructor
  ·intro h;rw[Wu]
   have:(List.range c.blocks.length).filter (cz c.blocks)=List.range c.blocks.length:=List.filter_eq_self.2 λa ha=>by
    have h2:=List.filter_sublist (p:=cz c.blocks) (l:=List.range c.blocks.length);have h3:=h2.eq_of_length (by rw[h,Xq]);rw[←h3] at ha;exact(WM.1 ha).2
   intro a ha;rw[←this] at ha;exact(WM.1 ha).2
  ·intro h;rw[List.filter_eq_self.2 (Wu.1 h),Xq]
 have hbl':bkL c.blocks= .lst 5 (c.blocks.map Bk.cs):=rfl;have htb:ju 1 prL (stL c)= .lst 1 ((stL c).map λl=>[PV.lst 1 (l.map prL)]):=rfl;have hS':VF Tryz.prog G fT [.agg (c.cs.map .p)] (.p (ju 1 prL (stL c))):=hS;have hcl:=hf.1;have hr3:=hv.r3;have hp0:=hv.p0;have hpr:=hv.pr;obtain⟨n,hn⟩:∃n:Nat,c.regs=(n:Int):=⟨c.regs.toNat,by omega⟩;have hln:(an (ew c.blocks)).length=(ew c.blocks).length:=dR _;have hgt:=λ(r:Nat) (hr:r<n)=>Aj (c:=c) (r:=r) (by omega) (by omega);clear hS;rw[hcs,hbl] at hO hS' hD;simp only[hcs,hbl] at hB;generalize hTB:ju 1 prL (stL c)=TB at hS' hB;generalize CZ c.blocks=DB at hD hB;obtain⟨H0,hH0⟩:∃H0,H0=[AO.row 3 [[.p (.int .i64 c.params),.p (.int .i64 c.regs),.p (.lst 5 (c.blocks.map Bk.cs))]]]:=⟨_,rfl⟩;have g0:H0[0]?=some (AO.row 3 [[.p (.int .i64 c.params),.p (.int .i64 c.regs),.p (.lst 5 (c.blocks.map Bk.cs))]]):=by rw[hH0];rfl
 have gl:H0.length=1:=by rw[hH0];rfl
 refine AC.go EC ?_;simp[uA,hcs,hbl];refine hO.use ?_;rw[hnn,←hH0];clear hH0
 by_cases hRR:(ew c.blocks).length=c.blocks.length
 ·have hall:=hRl.1 hRR;simp[g0,hln,hRR];refine hS'.use ?_;simp[];refine am (λr:Nat=>aj 57 [(4,.p (.int .i64 r)),(3,.p TB),(1,.ptr 0 3 0 0)]) (λ_=>H0) (λr=>r<=n/\AllB (mP c) (List.range r)) (λr=>n-r) 0 ⟨We _,.nil _⟩ (aa (We _) (by simp[below,gl])) ?_;rintro r ⟨hr,hq⟩;simp[g0,hn];refine aA (λhcc=>?_) (λhcc=>?_)
  ·have hcc:r<n:=by simpa using hcc
   have hg:=hgt r hcc;have hmg:=lc (sz:=1) (f:=prL) hg;have hone:mP c r=(decide ((dB c.blocks r).length<=1)&&(decide ((c.params:Int)<=r)||decide ((dB c.blocks r).length=0))):=rfl;have hwr:=w1 (i:=r) (by omega);rw[XF] at hmg;generalize dB c.blocks r=Ls at hmg hone;rw[htb] at hTB;generalize ((stL c).map λl=>[PV.lst 1 (l.map prL)])=D at hTB hmg;subst hTB
   by_cases h1:Ls.length<=1
   ·have i1:¬(1:Int)<(Ls.length:Int):=by omega
    by_cases h2:c.params<=r
    ·have i2:¬(r:Int)<c.params:=(by omega);have ho:mP c r=true:=(by rw[hone];simp[h1,h2]);simp[g0,hmg,i1,i2];refine⟨r+1,⟨by omega,?_⟩,by omega,aa (We _) (by simp[below,gl,hwr])⟩;rw[Yz];exact hq.snoc ho
    ·have i2:(r:Int)<c.params:=by omega
     by_cases h3:Ls.length=0
     ·have i3:¬0<Ls.length:=(by omega);have ho:mP c r=true:=(by rw[hone];simp[h3]);simp[g0,hmg,i1,i2,i3];refine⟨r+1,⟨by omega,?_⟩,by omega,aa (We _) (by simp[below,gl,hwr])⟩;rw[Yz];exact hq.snoc ho
     ·have ho:mP c r=false:=by rw[hone];simp[h1,h2,h3]
      have hf:dP c=false:=by
       have:(List.range c.regs.toNat).all (mP c)=false:=(by rw[Yp];exact⟨r,Xn.2 (by omega),by simp[ho]⟩);rw[dP,this];simp
      have i3:0<Ls.length:=(by omega);simp[g0,hmg,i1,i2,i3,hf]
   ·have ho:mP c r=false:=by rw[hone];simp[h1]
    have hf:dP c=false:=by
     have:(List.range c.regs.toNat).all (mP c)=false:=(by rw[Yp];exact⟨r,Xn.2 (by omega),by simp[ho]⟩);rw[dP,this];simp
    have i1:(1:Int)<(Ls.length:Int):=(by omega);simp[hmg,hf,i1]
  ·have hcc:n<=r:=by simpa using hcc
   have hre:r=n:=(by omega);subst hre;have hone:(List.range c.regs.toNat).all (mP c)=true:=(by rw[hn,XF];exact hq);simp[g0];refine hD.use ?_;simp[];refine am (λb:Nat=>aj 57 [(6,.p (.int .i64 b)),(5,.p DB),(3,.p TB),(1,.ptr 0 3 0 0)]) (λ_=>H0) (λb=>b<=c.blocks.length/\AllT (bV c) c.blocks b) (λb=>c.blocks.length-b) 0 ⟨We _,.nil _ _⟩ (aa (We _) (by simp[below,gl])) ?_;rintro b ⟨hb,hqb⟩;simp[g0];refine aA (λhc2=>?_) (λhc2=>?_)
   ·have hc2:b<c.blocks.length:=(by simpa using hc2);have hgb:=Wc hc2;generalize c.blocks[b]=x at hgb;have hBB:=hB b x hgb;have hwb:=w1 (i:=b) (by omega);simp[g0];refine hBB.use ?_;cases hbr:bV c b x with
    |false=>
     have hf:dP c=false:=by
      have:uc (bV c) c.blocks=false:=dA hgb hbr;rw[dP,this,Yw]
     simp[hf]
    |true=>
     simp[];exact⟨b+1,⟨by omega,hqb.snoc hgb hbr⟩,by omega,aa (We _) (by simp[below,gl,hwb])⟩
   ·have hc2:c.blocks.length<=b:=(by simpa using hc2);have hf:dP c=true:=(by rw[dP,hall,hone,hqb.all hc2];rfl);simp[hf]
 ·have hf:dP c=false:=by
   have:(List.range c.blocks.length).all (cz c.blocks)=false:=by
    cases h:(List.range c.blocks.length).all (cz c.blocks) with
    |false=>rfl
    |true=>exact absurd (hRl.2 h) hRR
   rw[dP,this];rfl
  have hRI:¬((ew c.blocks).length:Int)=(c.blocks.length:Int):=by omega
  simp[g0,hln,hRI,hf]
theorem Oa{c:Cd}(hv:CVal c):be c.blocks=true:=by
 have hbl:=hv.bl
 have h1:∀x∈c.blocks,sF c.blocks.length x.next=true:=λx hx=>by
  obtain⟨b,hb⟩:=WA hx;rw[sF,Wu];intro t ht;have:=hv.nx b x hb t ht;simp only[inR,Wr,Wx];omega
 rw[uj,Cf,Wr];exact⟨by simp;omega,Wu.2 h1⟩
theorem Rj{u:List Cd}(h:unB u=true){k:Nat}{c:Cd}(hk:u[k]?=some c):CVal c/\cdN c<=800:=by
 refine⟨Sl h hk,?_⟩;simp only[unB,Wr,Wx] at h;have h1:=mb cdN hk;have h2:=dy cdN u (k+1);have h3:unN u=(u.map cdN).sum:=rfl;omega
theorem Jp(u:List Cd)(hu:rH 1073741824 u):VF Tryz.prog G iH [.agg [.p (cdL u)]] (.p (.bool (mR u))):=by
 have hul:cdL u= .lst 3 (u.map Cd.cs):=rfl;have hUV:=pD G u hu;rw[hul] at hUV;have hu1:=hu.1;refine AC.go zG ?_;simp[oq,hul];refine am (λk:Nat=>aj 24 [(3,.p (.int .i64 k)),(1,.ptr 0 1 0 0)]) (λ_=>[AO.row 1 [[.p (.lst 3 (u.map Cd.cs))]]]) (λk=>k<=u.length/\(0<k->unB u=true)/\AllB dP (u.take k)) (λk=>u.length-k) 0 ⟨We _,λh=>by omega,by rw[Yc];exact .nil _⟩ (aa (We _) (by simp[below])) ?_;rintro k ⟨hk,hv0,hq⟩
 by_cases hcc:k<u.length
 ·have hgk:=Wc hcc;have htk:u.take (k+1)=u.take k++[u[k]]:=aq hcc;have hcf:=hu.2 _ (Wm hcc);generalize u[k]=c at hgk htk hcf;have hcs:=c.cs_eq2;have hwk:=w1 (i:=k) (by omega);have hcI:(k:Int)<u.length:=by omega
  simp[hcc];refine hUV.use ?_;cases hv:unB u with
  |false=>
   have hf:mR u=false:=(by rw[mR,hv];rfl);simp[];rw[hv] at hUV;refine hUV.use ?_;simp[hf]
  |true=>
   obtain⟨hcv,h8⟩:=Rj hv hgk;have hI:=QL G c hcv hcf h8 (Oa hcv);rw[hcs] at hI;simp[hgk,hcs];refine hI.use ?_;cases hs:dP c with
   |false=>
    have hf:mR u=false:=by
     have:u.all dP=false:=fm (Wq hgk) hs;rw[mR,this,Yw]
    simp[hf]
   |true=>
    simp[];refine⟨k+1,⟨by omega,?_⟩,by omega,aa (We _) (by simp[below,hwk])⟩;rw[htk];exact hq.snoc hs
 ·have hke:k=u.length:=by omega
  have hcI:¬(k:Int)<u.length:=by omega
  subst hke;rw[Xm] at hq
  have hf:mR u=unB u:=by
   have h1:u.all dP=true:=hq;rw[mR,h1,Bool.and_true]
  simp[];refine hUV.use ?_;simp[hf]
end
section
def mxT{α:Type}(F:Nat->α->α)(l:List α)(b:Nat):List α:=(l.take b).mapIdx F++l.drop b
theorem fw{α:Type}(F:Nat->α->α)(l:List α):mxT F l 0=l:=by simp[mxT]
theorem jn{α:Type}{F:Nat->α->α}{l:List α}{b:Nat}(h:l.length<=b):mxT F l b=l.mapIdx F:=by rw[mxT,Wi h,Ze h,WI]
theorem fu{α:Type}(F:Nat->α->α)(l:List α)(b:Nat):(mxT F l b).length=l.length:=by simp[mxT];omega
theorem ic{α:Type}{F:Nat->α->α}{l:List α}{b:Nat}{x:α}(h:l[b]?=some x):(mxT F l b)[b]?=some x:=by
 have hl:=(Wa.1 h).1;rw[mxT,Wg (by rw[XN,WD];omega),XN,WD,XK (by omega),Xd,WZ,Yq];exact h
theorem gS{α:Type}{F:Nat->α->α}{l:List α}{b:Nat}{x:α}(h:l[b]?=some x):(mxT F l b).set b (F b x)=mxT F l (b+1):=by
 have hl:=(Wa.1 h).1;have hd:l.drop b=x::l.drop (b+1):=by rw[Xa hl,(Wa.1 h).2]
 have hlt:((l.take b).mapIdx F).length=b:=by rw[XN,WD];omega
 have htk:(l.take (b+1)).mapIdx F=(l.take b).mapIdx F++[F b x]:=by
  rw[WQ,h];show(l.take b++[x]).mapIdx F=_;rw[List.mapIdx_append];have:(l.take b).length=b:=by rw[WD];omega
  simp[this]
 rw[mxT,hd,Xy _ _ (by omega),hlt,Xd,XY,mxT,htk,Wp];rfl
def iQ(R:List Int)(bs:List Bk):List Bk:=bs.mapIdx λ_ x=>bE R x
def BM(R:List Int)(bs:List Bk):List Bk:=(iQ R bs).mapIdx λb x=>{x with phis:=x.phis.map (bD (ab bs b) (ab (iQ R bs) b))}
def Fc(R:List Int)(x:Bk):Bk:={x with phis:=aM R x.phis,ins:=aB R x.phis++x.ins.map (putI R)}
def Sv(R:List Int)(bs:List Bk):List Bk:=(BM R bs).mapIdx λ_ x=>Fc R x
theorem fx(R:List Int)(bs:List Bk):iQ R bs=bs.map (bE R):=by
 refine WT λk=>?_;rw[iQ,WH,Wl]
theorem uI(R:List Int)(x:Bk):(bE R x).phis=x.phis/\(bE R x).ins=x.ins:=by unfold bE;split<;>exact⟨rfl,rfl⟩
theorem QC(R:List Int)(c:Cd):Sv R c.blocks=(iw R c).blocks:=by
 have h1:=fx R c.blocks;refine WT λb=>?_;rw[Sv,BM,WH,WH,h1,Wl,iw,WH];cases hb:c.blocks[b]? with
 |none=>rfl
 |some x=>
  obtain⟨k1,k2⟩:=uI R x
  have hf:∀P:Ph->Ph,(∀f,(P f).to=f.to)->∀l:List Ph,aM R (l.map P)=(aM R l).map P/\aB R (l.map P)=aB R l:=λP hP l=>by
   constructor
   ·rw[aM,aM,YW];congr 1;refine YG λf _=>?_;simp[hP]
   ·rw[aB,aB,YW,Yu];have e:(l.filter ((λf=>decide (0<=rg R f.to))∘P))=l.filter λf=>decide (0<=rg R f.to):=YG λf _=>(by simp[hP]);rw[e];refine WY λf _=>?_;simp[hP]
  obtain⟨f1,f2⟩:=hf (bD (ab c.blocks b) (ab (c.blocks.map (bE R)) b)) (λ_=>rfl) x.phis;simp only[Xx,Fc,Dd,k1,k2,f1,f2]
structure CdA (c:Cd):Prop where
 v:CVal c
 n8:cdN c<=800
 a3:∀x∈c.blocks,∀y∈x.ins,y.args.length<=3
theorem CdA.bk{c:Cd}(h:CdA c){b:Nat}{x:Bk}(hb:c.blocks[b]?=some x):x.ins.length+x.phis.length<=800/\x.next.length<=2/\(∀f∈x.phis,f.args.length<=160):=by
 have h1:=mb bkN hb;have h2:=dy bkN c.blocks (b+1);have h3:cdN c=(c.blocks.map bkN).sum:=rfl;have h4:=h.n8;have h5:bkN x=x.ins.length+x.phis.length:=rfl;have e1:nxN 1=1:=rfl;have e2:nxN 2=2:=rfl;have e3:nxN 3=0:=rfl;refine⟨by omega,?_,λf hf=>?_⟩
 ·have h6:=h.v.nc b x hb;rcases h.v.jp b x hb with e|e|e<;>rw[e] at h6<;>omega
 ·have h7:=(h.v.pa b x hb f hf).1;have:=aU c.blocks (b:Int);have:=h.v.b160;omega
theorem CdA.smx{c:Cd}(h:CdA c):∀x∈c.blocks,SmX x:=λx hx=>by
 obtain⟨b,hb⟩:=WA hx;obtain⟨h1,h2,h3⟩:=h.bk hb;exact⟨by omega,by omega,h2,λy hy=>by have:=h.a3 x hx y hy;omega,λf hf=>by have:=h3 f hf;omega⟩
theorem CdA.smy{c:Cd}(h:CdA c):SmY c:=⟨h.v.p3,h.v.bl,h.v.b160,h.smx⟩
theorem CdA.fit{c:Cd}(h:CdA c):en 1073741824 c:=by
 refine⟨by have:=h.v.b160;omega,λx hx=>?_⟩;obtain⟨h1,h2,h3,h4,h5⟩:=h.smx x hx;exact⟨by omega,by omega,by omega,λf hf=>by have:=h5 f hf;omega,λy hy=>by have:=h4 y hy;omega⟩
theorem DN(R:List Int){x:Bk}(hx:x.jump=2->x.next.length=2):∀t∈(bE R x).next,t∈x.next:=λt ht=>by
 unfold bE at ht;split at ht
 ·rename_i hj;simp only[isJ,Wr,Wx] at hj;have h2:=hx hj.1;have hne:x.next≠[]:=λe=>by rw[e] at h2;cases h2
  rw[Wt.1 ht];split
  ·exact mL hne
  ·exact rn hne
 ·exact ht
theorem Lf{bs bs':List Bk}(hl:bs.length=bs'.length)(h:∀(b:Nat) (x x':Bk),bs[b]?=some x->bs'[b]?=some x'->∀t∈x'.next,t∈x.next)(b:Int):∀p∈ab bs' b,p∈ab bs b:=λp hp=>by
 obtain⟨k,x',rfl,hx',hb⟩:=eW hp;have hkl:=(Wa.1 hx').1;have hx:=Wc (l:=bs) (i:=k) (by omega);refine Ww.2 ⟨(bs[k],k),WM.2 ⟨XW.2 hx,?_⟩,rfl⟩;simpa using h k _ x' hx hx' _ hb
theorem DC{c:Cd}(h:CdA c)(R:List Int)(b:Int):∀p∈ab (iQ R c.blocks) b,p∈ab c.blocks b:=
 Lf (by rw[fx,Wj]) (λk x x' hx hx' t ht=>by
  rw[fx,Wl,hx] at hx';cases hx';refine DN R (λhj=>?_) t ht;have:=h.v.nc k x hx;rw[hj] at this;have e2:nxN 2=2:=rfl;omega) b
structure DrpC (c:Cd):Prop where
 bl:1<=c.blocks.length
 b160:c.blocks.length<=160
 sm:∀x∈c.blocks,SmX x
 nx:∀(b:Nat) (x:Bk),c.blocks[b]?=some x->∀t∈x.next,0<=t/\t.toNat<c.blocks.length
 pa:∀(b:Nat) (x:Bk),c.blocks[b]?=some x->∀f∈x.phis,f.args.length=(ab c.blocks b).length
theorem DrpC.fit{c:Cd}(h:DrpC c):be c.blocks=true:=by
 have hbl:=h.bl
 have h1:∀x∈c.blocks,sF c.blocks.length x.next=true:=λx hx=>by
  obtain⟨b,hb⟩:=WA hx;rw[sF,Wu];intro t ht;have:=h.nx b x hb t ht;simp only[inR,Wr,Wx];omega
 rw[uj,Cf,Wr];exact⟨by simp;omega,Wu.2 h1⟩
theorem KA{bs:List Bk}{rl:List Nat}(nd:rl.Nodup)(hin:∀b∈rl,b<bs.length)(hnx:∀(b:Nat) (x:Bk),bs[b]?=some x->∀t∈x.next,0<=t/\t.toNat<bs.length)(i b:Nat)(hi:rl[i]?=some b):∀j∈ab (aH bs rl) i,0<=j/\∃p:Nat,rl[j.toNat]?=some p/\(p:Int)∈ab bs b:=λj hj=>by
 obtain⟨k,x',rfl,hx',hb⟩:=eW hj;rw[aH,Wl] at hx';cases hk:rl[k]? with
 |none=>rw[hk] at hx';cases hx'
 |some p=>
  rw[hk] at hx';have hpl:=hin p (Wq hk);have hgp:=Wc hpl;have hbk:mj bs p=bs[p]:=by rw[mj,hgp];rfl
  simp only[Xx,WO,hbk] at hx';rw[←hx'] at hb;simp only[Ww] at hb;obtain⟨t,ht,hti⟩:=hb;have ht2:=hnx p _ hgp t ht;refine⟨by omega,p,by simpa using hk,?_⟩;unfold plI at hti;split at hti
  ·rename_i hm;have hid:rl.idxOf t.toNat=i:=by omega
   have h2:rl[rl.idxOf t.toNat]?=some t.toNat:=(by rw[Wc (List.idxOf_lt_length_of_mem hm),Za]);rw[hid,hi] at h2;have hbt:(b:Int)=t:=(by cases h2;omega);refine Ww.2 ⟨(bs[p],p),WM.2 ⟨XW.2 hgp,?_⟩,rfl⟩;simp only[Wx];rw[hbt];exact ht
  ·omega
theorem EH(bs:List Bk):(oA bs).Nodup:=List.nodup_range.filter _
theorem EN{bs:List Bk}:∀b∈oA bs,b<bs.length:=λb hb=>Xn.1 (WM.1 hb).1
variable (G:aw)
theorem LF(c:Cd)(h:DrpC c):AC Tryz.prog G fV [.agg (c.cs.map .p)] [] (OwW .agg (jh c (oA c.blocks)).cs):=by
 have hcs:=c.cs_eq2;have hbl:bkL c.blocks= .lst 5 (c.blocks.map Bk.cs):=rfl;have hc:CBd c:=⟨by have:=h.b160;omega,λx hx=>by have:=(h.sm x hx).2.2.1;omega⟩;have hR:=Ge G c hc;have hre:lS c.blocks=an (oA c.blocks):=by rw[sN h.fit];rfl
 rw[hre,hcs,hbl] at hR;have hP:=Mi G c hc h.sm (oA c.blocks) (EH _) EN h.b160 (λb _ x hx=>h.nx b x hx) (λb _ x hx=>h.pa b x hx) (KA (EH _) EN h.nx);refine AC.go BU ?_;simp[py,hcs,hbl];refine hR.use ?_;have hP2:=AC.ownLift G bC hP (h:=[AO.row 3 [[.p (.int .i64 c.params),.p (.int .i64 c.regs),.p (.lst 5 (c.blocks.map Bk.cs))]],.row 3 [[.p (.int .i64 0),.p (.int .i64 0),.nils]]]) (by simp);rw[hcs,hbl] at hP2;simp[];refine hP2.mono ?_;rintro r X ⟨vs,IA,os,rfl,rfl,hO⟩;obtain⟨B,rfl,hB⟩:=jG hO;obtain⟨b1,b2⟩:=hB.cell;simp[-AV.cells,-AV.isCell,az,aO,b2]
 exact⟨_,IA,rfl,nB (c:=jh c (oA c.blocks)) ((hB.frame λi hi=>by
  have h2:=hB.ge i hi;simp only[WC,WL] at h2;obtain⟨k,rfl⟩:∃k,i=k+2:=⟨i-2,by omega⟩;rfl).low λj _=>We _)⟩
theorem Ex{c:Cd}(h:CdA c)(R:List Int):DrpC (iw R c):=by
 have hlen:(iw R c).blocks.length=c.blocks.length:=by rw[iw,XN]
 have hget:∀(b:Nat) (x:Bk),(iw R c).blocks[b]?=some x->∃y,c.blocks[b]?=some y/\x=Dd R c.blocks b y:=λb x hx=>by
  rw[iw,WH] at hx;cases hy:c.blocks[b]? with
  |none=>rw[hy] at hx;cases hx
  |some y=>rw[hy] at hx;exact⟨y,rfl,by simpa using hx.symm⟩
 have hj2:∀(b:Nat) (y:Bk),c.blocks[b]?=some y->y.jump=2->y.next.length=2:=λb y hy hj=>by
  have:=h.v.nc b y hy;rw[hj] at this;have e2:nxN 2=2:=rfl;omega
 have hnext:(iw R c).blocks.map Bk.next=(c.blocks.map (bE R)).map Bk.next:=by
  refine WT λk=>?_;rw[iw,Wl,WH,Wl,Wl];cases c.blocks[k]?<;>rfl
 refine⟨by rw[hlen];exact h.v.bl,by rw[hlen];exact h.v.b160,λx hx=>?_,λb x hx t ht=>?_,λb x hx f hf=>?_⟩
 ·obtain⟨b,hb⟩:=WA hx;obtain⟨y,hy,rfl⟩:=hget b x hb;obtain⟨q1,q2,q3⟩:=h.bk hy;have f1:(aB R y.phis).length<=y.phis.length:=by rw[aB,Wj];exact Xk _ _
  have f2:(aM R y.phis).length<=y.phis.length:=by rw[aM];exact Xk _ _
  have hpl:=aU (c.blocks.map (bE R)) (b:Int);rw[Wj] at hpl;have h160:=h.v.b160;refine⟨?_,?_,?_,λz hz=>?_,λf hf=>?_⟩
  ·simp only[Dd,Wj];omega
  ·simp only[Dd,Wn,Wj];omega
  ·have:(Dd R c.blocks b y).next=(bE R y).next:=rfl;rw[this];unfold bE;split
   ·simp
   ·exact q2
  ·simp only[Dd,Ws,Ww] at hz;rcases hz with hz|⟨w,hw,rfl⟩
   ·rw[aB] at hz;obtain⟨w,_,rfl⟩:=Ww.1 hz;simp
   ·have:=h.a3 y (Wq hy) w hw;unfold putI;split
    ·simp
    ·omega
  ·simp only[Dd,Ww] at hf;obtain⟨g,hg,rfl⟩:=hf;simp only[bD,Wj];omega
 ·obtain⟨y,hy,rfl⟩:=hget b x hx;have h1:=DN R (hj2 b y hy) t ht;have:=h.v.nx b y hy t h1;rw[hlen];omega
 ·obtain⟨y,hy,rfl⟩:=hget b x hx;rw[iq hnext];simp only[Dd,Ww] at hf;obtain⟨g,hg,rfl⟩:=hf;simp only[bD,Wj]
end
section
theorem Own.cat{n sz b:Nat}{H:List AO}{V N:AV}{D E:List (List PV)}{IV IN:List Nat}(hV:Own n H [V] [.lst sz D] IV)(hN:Own n H [N] [.lst sz E] IN)(hd:∀j∈IV,j∉IN)(hE:∀e∈E,e.length=sz)(hn:n<=H.length)(hb:(D.length+E.length)*b<=140737488355328/\D.length+E.length<=140737488355328):
 ∃V' H' I',Cp H sz b (elems H sz N) V=some (V',H')/\Own n H' [V'] [.lst sz (D++E)] I'/\(∀j∈I',j∈IV\/j∈IN\/j=H.length)/\H.length<=H'.length/\∀j,j<H.length->j∉IV->H'[j]?=H[j]?:=by
 obtain⟨xs,J2,hx,hrl,ho,hn2,nd2,hno,hJ2,hxl⟩:∃xs J2,elems H sz N=some xs/\(∀e∈xs,e.length=sz)/\OwnL true H xs.flatten E.flatten J2/\(∀r∈xs,∀v∈r,AN v=true)/\J2.Nodup/\NoL H J2/\(∀j∈J2,j∈IN)/\xs.length=E.length:=by
  rcases hN.row with⟨rfl,rfl,rfl⟩|⟨nid,rows,J,rfl,rfl,hr,hnl⟩
  ·exact⟨[],[],rfl,(λe h=>by cases h),.nil,(λe h=>by cases h),Yk,(λj h=>by cases h),(λj h=>by cases h),rfl⟩
  ·have hl:=hr.len;refine⟨rows,J,?_,hr.rl,hr.own,hnl,(WR.1 hN.nd).2,hN.no.sub λj hj=>by simp[hj],λj hj=>by simp[hj],hl⟩;simp only[elems,hr.here,true_and,WV,Zh];rw[Wz (by omega),Wi (by omega)]
 rw[hx];rcases hV.row with⟨rfl,rfl,rfl⟩|⟨did,rows,J,rfl,rfl,hr,hnl⟩
 ·by_cases hE0:xs=[]
  ·subst hE0;have:E=[]:=XQ.1 (by simpa using hxl.symm);subst this;exact⟨.nils,H,[],by rw[mM];simp,Own.nil n H sz,(λj h=>by cases h),Wo _,λj _ _=>rfl⟩
  ·refine⟨.sl H.length sz 0 xs.length,H++[.row sz xs],H.length::J2,?_,?_,λj hj=>?_,by simp,λj hj _=>Wb hj⟩
   ·rw[mM,Wz (by rw[hxl];simpa using hb),WB hE0]
   ·rw[Xj,hxl];have hlt:∀j∈J2,j<H.length:=λj hj=>ho.lt hj;have hf:∀j∈J2,(H++[AO.row sz xs])[j]?=H[j]?:=λj hj=>Wb (hlt j hj)
    exact Own.of ⟨by simp,hxl,hrl,hE,ho.frame hf,WR.2 ⟨λhm=>by have:=hlt _ hm;omega,nd2⟩⟩ hn2 (hno.frame hf) (λj hj=>by
     rcases WE.1 hj with rfl|hj
     ·exact hn
     ·exact hN.ge j (hJ2 j hj)) rfl
   ·rcases WE.1 hj with rfl|hj
    ·exact .inr (.inr rfl)
    ·exact .inr (.inl (hJ2 j hj))
 ·have hl:=hr.len;have hnd:=WR.1 hV.nd;have hdl:=hr.lt;have hR:=NI hr (h2:=H) (os:=[]) (by simp) ho hxl hrl hE nd2 (λj hj=>⟨λe=>hd j (by simp[e]) (hJ2 j hj),λhm=>hd j (by simp[hm]) (hJ2 j hj)⟩)
  have hf:∀j,j<H.length->j≠did->(H.set did .dead++[AO.row sz (rows++xs)])[j]?=H[j]?:=λj hj hne=>by rw[Wb (by simpa using hj),Wd (Ne.symm hne)]
  refine⟨.sl H.length sz 0 (D.length+xs.length),H.set did .dead++[.row sz (rows++xs)],H.length::(J++J2),?_,?_,λj hj=>?_,by simp,λj hj hne=>hf j hj λe=>hne (by simp[e])⟩
  ·rw[tz,hr.here];simp only[hxl,true_and,WV,Zh];rw[Wz ⟨by omega,hb⟩,Wi (by omega)]
  ·refine Own.of hR (λr hr2=>?_) (NoL.app ((hV.no.sub λj hj=>by simp[hj]).frame λj hj=>hf j (hV.lt j (by simp[hj])) λe=>hnd.1 (e▸hj)) (hno.frame λj hj=>hf j (ho.lt hj) λe=>hd j (by simp[e]) (hJ2 j hj))) (λj hj=>?_) (by simp[hxl])
   ·rcases Ws.1 hr2 with h1|h1
    ·exact hnl r h1
    ·exact hn2 r h1
   ·rcases WE.1 hj with rfl|hj
    ·exact hn
    ·rcases Ws.1 hj with h1|h1
     ·exact hV.ge j (by simp[h1])
     ·exact hN.ge j (hJ2 j h1)
  ·rcases WE.1 hj with rfl|hj
   ·exact .inr (.inr rfl)
   ·rcases Ws.1 hj with h1|h1
    ·exact .inl (by simp[h1])
    ·exact .inr (.inl (hJ2 j h1))
theorem Own.push1{n sz b:Nat}{H:List AO}{V:AV}{D:List (List PV)}{IV:List Nat}(hV:Own n H [V] [.lst sz D] IV)(r:List AV)(hb:(D.length+1)*b<=140737488355328/\D.length+1<=140737488355328):
 ∃V' H',Cp H sz b (some [r]) V=some (V',H')/\Psh H V sz r H' V':=by
 rcases hV.rowAt with⟨rfl,rfl⟩|⟨id,rows,rfl,hg,hl,_⟩
 ·exact⟨_,_,by rw[mM,Wz (by simpa using hb),WB (by simp)];rfl,.inl ⟨rfl,rfl,rfl⟩⟩
 ·refine⟨_,_,by rw[tz,hg];simp only[Xf,true_and,WV,Zh];rw[Wz ⟨by omega,hb⟩,Wi (by omega)],.inr ⟨id,rows,_,rfl,hg,hl,rfl,rfl⟩⟩
def LU:AV->Nat
 | .sl _ _ _ l=>l+1
 |_=>1
def kU(H:List AO)(sz:Nat)(r:List AV):AV->List AO
 | .sl id _ _ _=>match H[id]? with
   |some (.row _ rows)=>H.set id .dead++[.row sz (rows++[r])]
   |_=>H++[.dead]
 |_=>H++[.row sz [r]]
theorem kN(H:List AO)(sz:Nat)(r:List AV)(V:AV):(kU H sz r V).length=H.length+1:=by
 unfold kU;split
 ·split<;>simp
 ·simp
theorem Og{H:List AO}{sz:Nat}{r:List AV}{V:AV}{j:Nat}(hj:j<H.length)(hV:∀sz o l,V≠ .sl j sz o l):(kU H sz r V)[j]?=H[j]?:=by
 unfold kU;split
 ·rename_i id _ _ _;have hne:id≠j:=λe=>hV _ _ _ (by rw[e]);split
  ·rw[Wb (by simpa using hj),Wd hne]
  ·exact Wb hj
 ·exact Wb hj
theorem JP{H:List AO}{sz b m:Nat}{V:AV}(hV:(V= .nils/\m=0)\/∃id rows,V= .sl id sz 0 m/\H[id]?=some (.row sz rows)/\rows.length=m)(r:List AV)(hb:(m+1)*b<=140737488355328/\m+1<=140737488355328):
 Cp H sz b (some [r]) V=some (.sl H.length sz 0 (LU V),kU H sz r V)/\Psh H V sz r (kU H sz r V) (.sl H.length sz 0 (LU V)):=by
 rcases hV with⟨rfl,rfl⟩|⟨id,rows,rfl,hg,hl⟩
 ·exact⟨by rw[mM,Wz (by simpa using hb),WB (by simp)];rfl,.inl ⟨rfl,rfl,rfl⟩⟩
 ·have e:kU H sz r (.sl id sz 0 m)=H.set id .dead++[.row sz (rows++[r])]:=by simp only[kU,hg]
  rw[e];refine⟨?_,.inr ⟨id,rows,m,rfl,hg,hl,rfl,rfl⟩⟩;rw[tz,hg];simp only[Xf,true_and,WV,Zh];rw[Wz ⟨by omega,hb⟩,Wi (by omega)];rfl
theorem Own.pshA{n sz b:Nat}{H:List AO}{V:AV}{D:List (List PV)}{I:List Nat}(hV:Own n H [V] [.lst sz D] I)(r:List AV)(hb:(D.length+1)*b<=140737488355328/\D.length+1<=140737488355328)(os:List AO):
 Cp (H++os) sz b (some [r]) V=some (.sl (H.length+os.length) sz 0 (LU V),kU (H++os) sz r V)/\Psh (H++os) V sz r (kU (H++os) sz r V) (.sl (H.length+os.length) sz 0 (LU V)):=by
 have h1:=JP (H:=H++os) (sz:=sz) (b:=b) (m:=D.length) (V:=V) (by
  rcases hV.rowAt with⟨rfl,rfl⟩|⟨id,rows,rfl,hg,hl,_⟩
  ·exact .inl ⟨rfl,rfl⟩
  ·exact .inr ⟨id,rows,rfl,by rw[Wb (Wa.1 hg).1];exact hg,hl⟩) r hb
 rwa[Wn] at h1
theorem Own.pshG{n sz sz':Nat}{H:List AO}{V:AV}{D:List (List PV)}{I:List Nat}(hV:Own n H [V] [.lst sz D] I)(r:List AV)(os:List AO)(j:Nat)(hj:j<H.length+os.length)(hI:j∉I):(kU (H++os) sz' r V)[j]?=(H++os)[j]?:=
 Og (by rw[Wn];exact hj) λs o l e=>hI (by
  subst e;cases hV.own with
  |sl=>simp)
end
section
theorem Ef{s:Bool}{h:List AO}{vs:List AV}{c:Cd}{I:List Nat}(H:OwnL s h vs c.cs I):∃B,vs=[.p (.int .i64 c.params),.p (.int .i64 c.regs),B]/\OwnL s h [B] [bkL c.blocks] I:=by
 have hl:=H.len;rw[c.cs_eq2] at H hl
 obtain⟨x,y,B,rfl⟩:∃x y B,vs=[x,y,B]:=by
  match vs,hl with
  |[x,y,B],_=>exact⟨x,y,B,rfl⟩
 cases H with
 |p _ _ H=>cases H with
  |p _ _ H=>exact⟨B,rfl,H⟩
theorem JG{s:Bool}{h:List AO}{c:Cd}{B:AV}{I:List Nat}(H:OwnL s h [B] [bkL c.blocks] I):OwnL s h [.p (.int .i64 c.params),.p (.int .i64 c.regs),B] c.cs I:=by
 rw[c.cs_eq2];exact .p _ (λ_=>rfl) (.p _ (λ_=>rfl) H)
structure PuI (c:Cd) (R:List Int) (w r n1 xw:Nat) (X:List AO) (B:AV) (bs:List Bk):Prop where
 x0:X[0]?=some (.row 3 [[.p (.int .i64 c.params),.p (.int .i64 c.regs),.p (.lst 5 (c.blocks.map Bk.cs))]])
 x1:X[1]?=some (.row 3 [[.p (.int .i64 0),.p (.int .i64 0),.nils]])
 hw:R≠[]->∃O Yv M,X[w]?=some (.row 4 [[.sl r 1 0 R.length,O,Yv,M]])
 hr:R≠[]->X[r]?=some (.row 1 (ae R))
 lw:w<n1
 lr:r<n1
 n2:2<=n1
 xx:X[xw]?=some (.row 3 [[.p (.int .i64 c.params),.p (.int .i64 c.regs),B]])
 xge:n1<=xw
 own:∃I,Own n1 X [B] [bkL bs] I/\xw∉I
theorem PuI.upd{c:Cd}{R:List Int}{w r n1 xw:Nat}{X X2:List AO}{B:AV}{bs bs2:List Bk}(H:PuI c R w r n1 xw X B bs)(e:∀j,j<n1->X2[j]?=X[j]?)(ex:X2[xw]?=X[xw]?)(ho:∃I,Own n1 X2 [B] [bkL bs2] I/\xw∉I):PuI c R w r n1 xw X2 B bs2:=by
 have h2:=H.n2;exact⟨by rw[e 0 (by omega)];exact H.x0,by rw[e 1 (by omega)];exact H.x1,λhne=>by rw[e _ H.lw];exact H.hw hne,λhne=>by rw[e _ H.lr];exact H.hr hne,H.lw,H.lr,h2,ex.trans H.xx,H.xge,ho⟩
theorem PuI.bsl{c:Cd}{R:List Int}{w r n1 xw:Nat}{X:List AO}{B:AV}{bs:List Bk}(H:PuI c R w r n1 xw X B bs)(hne:1<=bs.length):∃gid,B= .sl gid 5 0 bs.length:=by
 obtain⟨I,hV,_⟩:=H.own;rcases hV.row with⟨_,h2,_⟩|⟨id,rows,J,h1,_⟩
 ·rw[WK.1 h2] at hne;simp at hne
 ·rw[Wj] at h1;exact⟨id,h1⟩
theorem PuI.lt{c:Cd}{R:List Int}{w r n1 xw:Nat}{X:List AO}{B:AV}{bs:List Bk}(H:PuI c R w r n1 xw X B bs):xw<X.length:=(Wa.1 H.xx).1
structure PuS where (b:Nat) (X:List AO)
structure F3S where (i a b:Nat) (X:List AO)
theorem CV:AK.whole lT=FK.ak lM:=rfl
def FrN(N:List Nat)(h h':List AO):Prop:=h.length<=h'.length/\∀i,i<h.length->i∉N->h'[i]?=h[i]?
def F3I(R:List Int)(n1:Nat)(X:List AO)(x:Bk)(IP:List Nat)(rows2:List (List AV))(a:F3S):Prop:=KpF X a.X/\X.length<=a.X.length/\X.length<=a.a/\a.a<a.X.length/\a.b<a.X.length/\∃Ia Ib Jr,Own n1 a.X [.sl a.a 2 0 (aM R (x.phis.take a.i)).length] [phL (aM R (x.phis.take a.i))] Ia/\Own X.length a.X [.sl a.b 4 0 (aB R (x.phis.take a.i)).length] [inL (aB R (x.phis.take a.i))] Ib/\(∀j∈Ia,(j∈IP\/X.length<=j)/\j∉Ib/\j∉Jr)/\Own n1 X (rows2.drop a.i).flatten ((x.phis.drop a.i).map Ph.cs).flatten Jr/\∀j∈Jr,j∈IP
variable (G:aw)
theorem Pa(c:Cd)(h:CdA c)(hk:KFit c):AC Tryz.prog G gZ [.agg (c.cs.map .p)] [] (MkW .agg true (mh c).cs):=by
 have hcs:=c.cs_eq2;have hbl:bkL c.blocks= .lst 5 (c.blocks.map Bk.cs):=rfl;have hv:=h.v;have hf:=h.fit;have hc:CBd c:=⟨hf.1,λx hx=>(hf.2 x hx).next⟩;have h160:=hv.b160;have hb1:=hv.bl;have hR0:=(KV.rndN hk hv 0).j;obtain⟨R,hR⟩:∃R,R=(KF c).regs:=⟨_,rfl⟩
 have hKJ:KV c (KF c):=by
  unfold KF;split
  ·exact KV.rndN hk hv _
  ·exact KV.start hk
 have hRl:R.length=c.regs.toNat:=by rw[hR];exact hKJ.j.len
 have hRv:∀q,VK (rg R q):=by rw[hR];exact hKJ.vk
 have hp0:=hv.p0;have hpr:=hv.pr;have hcode:mh c=jh (iw R c) (oA (iw R c).blocks):=by rw[mh,hR]
 rw[hcode];have hDrop:=LF G (iw R c) (Ex h R);have hKO:=TN G (h:=[AO.row 3 [[.p (.int .i64 c.params),.p (.int .i64 c.regs),.p (.lst 5 (c.blocks.map Bk.cs))]],.row 3 [[.p (.int .i64 0),.p (.int .i64 0),.nils]]]) hk hv hf;have hCp:=λX:List AO=>AC.ownLift G bC (Mf G c h.smy) (h:=X) (by simp);rw[hcs,hbl] at hKO;simp only[hcs,hbl] at hCp;rw[←hbl,←hcs] at hCp;refine AC.goK Dj CV ?_;simp[lT,lM,hcs,hbl];refine hKO.mono ?_;rintro z X0 ⟨w,rfl,r,o,Yv,I0,Y,m,HK,hw2,hr2,hX0,hkp⟩;have g0:X0[0]?=some (AO.row 3 [[.p (.int .i64 c.params),.p (.int .i64 c.regs),.p (.lst 5 (c.blocks.map Bk.cs))]]):=hkp 0 (by simp);have g1:X0[1]?=some (AO.row 3 [[.p (.int .i64 0),.p (.int .i64 0),.nils]]):=hkp 1 (by simp);simp[g0];have hCp0:=hCp X0;rw[hcs,hbl] at hCp0;refine hCp0.mono ?_;rintro z X1 ⟨vs,IA,os,rfl,rfl,hO⟩;have hO:Own X0.length (X0++os) vs c.cs IA:=by rw[hcs,hbl];exact hO
 obtain⟨B,rfl,hB⟩:=jG hO;obtain⟨b1,b2⟩:=hB.cell;simp[-AV.cells,-AV.isCell,az,aO,b2];have hX02:2<=X0.length:=hX0;have hwl:=HK.lt w (by simp);have hrl:=HK.rl
 have hPu:PuI c R w r X0.length (X0.length+os.length) (X0++(os++[.row 3 [[.p (.int .i64 c.params),.p (.int .i64 c.regs),B]]])) B c.blocks:=by
  refine⟨by rw[Wb (by omega)];exact g0,by rw[Wb (by omega)];exact g1,λhne=>⟨_,_,_,by rw[Wb hwl,HK.hwN (by rw[←hR];exact hne),hR]⟩,λhne=>by rw[Wb hrl,HK.hr (by rw[←hR];exact hne),hR],hwl,hrl,hX0,?_,by omega,IA,?_,λhm=>?_⟩
  ·rw[Wg (by omega),Wg (by omega)];simp
  ·rw[←Wp];exact hB.more _
  ·have:=hB.lt _ hm;simp at this
 generalize X0.length+os.length=xw at hPu;generalize X0++(os++[.row 3 [[.p (.int .i64 c.params),.p (.int .i64 c.regs),B]]])=X1 at hPu;have hn1:∃n1,n1=X0.length:=⟨_,rfl⟩;obtain⟨n1,hn1⟩:=hn1;rw[←hn1] at hPu;obtain⟨gid0,hB0⟩:=hPu.bsl hb1;clear hB hO hwl hrl b1 b2 hCp0 HK g0 g1 hkp hw2 hr2 hX0 hn1;refine dc (λa:PuS=>aj 228 [(4,.ptr xw 3 0 0),(3,.ptr w 4 0 0),(2,.ptr 1 3 0 0),(1,.ptr 0 3 0 0)]) (λa=>a.X) (λa=>PuI c R w r n1 xw a.X B (iQ R c.blocks)) ?_ ?_
 ·simp[];refine am (λa:PuS=>aj 228 [(5,.p (.int .i64 a.b)),(4,.ptr xw 3 0 0),(3,.ptr w 4 0 0),(2,.ptr 1 3 0 0),(1,.ptr 0 3 0 0)]) (λa=>a.X) (λa=>a.b<=c.blocks.length/\PuI c R w r n1 xw a.X B (mxT (λ_ x=>bE R x) c.blocks a.b)) (λa=>c.blocks.length-a.b) ⟨0,X1⟩ ⟨We _,by rw[fw];exact hPu⟩ (aa (We _) (by have h1:=hPu.lt;have h2:=hPu.lw;have h3:=hPu.xge;have h4:=hPu.n2;simp[below];omega)) ?_;rintro⟨b,X⟩ ⟨hb,H⟩;simp only at hb H;have hxx:=H.xx;have hxl:=H.lt;have hlw:=H.lw;have hge:=H.xge;have hn2:=H.n2;obtain⟨I,hV,hxI⟩:=H.own;have hml:=fu (λ_ x=>bE R x) c.blocks b;have hbel:∀Y:List AO,X.length<=Y.length->xw<Y.length/\w<Y.length/\1<Y.length/\0<Y.length:=λY hY=>by omega
  by_cases hcc:b<c.blocks.length
  ·have hgb:=Wc hcc;generalize c.blocks[b]=x at hgb;have hgm:=ic (F:=λ_ x=>bE R x) hgb;have hst:=gS (F:=λ_ x=>bE R x) hgb;have hwb:=w1 (i:=b) (by omega);obtain⟨gid,rows,rr,Jb,e1,e2,e3,e4,e5,e6,e7,e8⟩:=hV.bks hgm;obtain⟨Pp,N,Z,IP,IN,IX,rfl,rfl,hP,hN,hZ⟩:=eF e5;obtain⟨p1,p2⟩:=hP.cell;obtain⟨q1,q2⟩:=hN.cell;obtain⟨z1,z2⟩:=hZ.cell;rw[hml] at e1;subst e1;have hgl:=(Wa.1 e2).1;have hg3:=hV.ge gid e6;rw[hml] at e3;have hbr:b<rows.length:=by omega
   have hgx:gid≠xw:=λe=>hxI (by rw[←e];exact e6)
   have hkeep:bE R x=x->∃a':PuS,(a'.b<=c.blocks.length/\PuI c R w r n1 xw a'.X (.sl gid 5 0 c.blocks.length) (mxT (λ_ x=>bE R x) c.blocks a'.b))/\a'.b=b+1/\a'.X=X:=λhe=>by
    rw[he] at hst
    have:(mxT (λ_ x=>bE R x) c.blocks b).set b x=mxT (λ_ x=>bE R x) c.blocks b:=by
     obtain⟨_,q⟩:=Wa.1 hgm
     conv=>lhs;arg 3;rw[←q]
     exact Xl _
    rw[this] at hst;exact⟨⟨b+1,X⟩,⟨hcc,by simp only;rw[←hst];exact H⟩,rfl,rfl⟩
   by_cases hj:x.jump=2
   ·have hon:=hv.on b x hgb (by omega);have hne:R≠[]:=λe=>(by rw[e] at hRl;simp at hRl;omega);obtain⟨O',Yv',M',hww⟩:=H.hw hne;have hrr:=H.hr hne;have hql:x.on.toNat<R.length:=(by rw[hRl];omega);have hqr:=bW (oT hql);have hqe:((x.on.toNat:Nat):Int)=x.on:=(by omega);rw[hqe] at hqr;have honl:x.on<R.length:=(by omega);have hvq:=hRv x.on;generalize hvv:rg R x.on=v at hqr hvq
    by_cases hv0:0<=v
    ·obtain⟨t0,t1,hnx⟩:∃t0 t1,x.next=[t0,t1]:=by
      have h2:=hk.n2 b x hgb hj
      match hx:x.next,h2 with
      |[t0,t1],_=>exact⟨t0,t1,rfl⟩
     have hpj:bE R x={x with jump:=1,on:=0,next:=[if v=0 then t1 else t0]}:=by
      have:isJ R x=true:=(by simp[isJ,hj,hvv,hv0]);rw[bE,Wz this,hvv,hnx];rfl
     rw[hpj] at hst;rcases io (λn=>PV.int .i64 n) (λ_ _ _ e=>by cases e) hZ with⟨_,z,_⟩|⟨zid,rfl,rfl,f3,f4⟩
     ·rw[z] at hnx;cases hnx
     rw[hnx] at f3;have hzl:=(Wa.1 f3).1;have hzg:zid≠gid:=(e7 zid (by simp)).2;have hwg:w≠gid:=(by omega);have hrg:r≠gid:=(by have:=H.lr;omega);have e4e:=λhh=>ag e4 hh;have e2e:=λhh=>ag e2 hh;have s1:∀t,(X.set gid t)[gid]?=some t:=λt=>Wh hgl;have s2:∀t,(X.set gid t)[w]?=X[w]?:=λt=>Wd (Ne.symm hwg);have s3:∀t,(X.set gid t)[r]?=X[r]?:=λt=>Wd (Ne.symm hrg);have s4:∀t,(X.set gid t)[zid]?=X[zid]?:=λt=>Wd (Ne.symm hzg);have s5:∀t,(rows.set b t)[b]?=some t:=λt=>Wh hbr;simp[hxx,e2e,e4e,hj,hcc,hww,hrr,hqr,hon.1,honl,hv0,hbr,hgl,s2,s3,hnx];refine(lZ G _).use ?_;obtain⟨X1',hX1'⟩:∃X1',X1'=X.set gid (AO.row 5 (rows.set b [Pp,N,AV.p (PV.int IntKind.i64 1),AV.p (PV.int IntKind.i64 x.on),AV.sl zid 1 0 2])):=⟨_,rfl⟩;have u1:X1'[gid]?=some (AO.row 5 (rows.set b [Pp,N,AV.p (PV.int IntKind.i64 1),AV.p (PV.int IntKind.i64 x.on),AV.sl zid 1 0 2])):=(by rw[hX1'];exact s1 _);have u2:X1'[zid]?=X[zid]?:=(by rw[hX1'];exact s4 _);have ul:X1'.length=X.length:=(by rw[hX1',Wy]);have u3:∀j,j≠gid->X1'[j]?=X[j]?:=λj hj=>(by rw[hX1',Wd (Ne.symm hj)]);rw[←hX1'];have e4f:(rows.set b [Pp,N,AV.p (PV.int IntKind.i64 1),AV.p (PV.int IntKind.i64 x.on),AV.sl zid 1 0 2])[b]?=some [Pp,N,AV.p (PV.int IntKind.i64 1),AV.p (PV.int IntKind.i64 x.on),AV.sl zid 1 0 2]:=s5 _;have e4g:=λhh=>ag e4f hh;have f5:X1'[zid]?=some (.row 1 [[.p (.int .i64 t0)],[.p (.int .i64 t1)]]):=(by rw[u2,f3];rfl);have u1a:∀t,(X1'++t)[gid]?=some (AO.row 5 (rows.set b [Pp,N,AV.p (PV.int IntKind.i64 1),AV.p (PV.int IntKind.i64 x.on),AV.sl zid 1 0 2])):=λt=>(by rw[Wb (by omega)];exact u1);have u1e:=λt hh=>ag (u1a t) hh;have u1s:∀t o,((X1'++t).set gid o)[gid]?=some o:=λt o=>Wh (by simp;omega);have u1se:=λt o hh=>ag (u1s t o) hh;have hbr2:∀o,b<(rows.set b o).length:=λo=>(by rw[Wy];exact hbr);have s5e:=λt hh=>ag (s5 t) hh;clear hX1' s1 s2 s3 s4
     have hfin:∀q:Int,(if v=0 then t1 else t0)=q->∃a':PuS,(a'.b<=c.blocks.length/\PuI c R w r n1 xw a'.X (.sl gid 5 0 c.blocks.length) (mxT (λ_ x=>bE R x) c.blocks a'.b))/\a'.b=b+1/\a'.X=(X1'++[AO.row 1 [[.p (.int .i64 q)]]]).set gid (.row 5 (rows.set b [Pp,N,.p (.int .i64 1),.p (.int .i64 0),.sl X1'.length 1 0 1])):=λq hq=>by
      have hn:=e5.nd;have hn1:=WG.1 hn;have hn2:=WG.1 hn1.2.1;have hlen:n1<=X.length:=by omega
      obtain⟨I',r1,r2⟩:=e8 ((X1'++[AO.row 1 [[.p (.int .i64 q)]]]).set gid (.row 5 (rows.set b [Pp,N,.p (.int .i64 1),.p (.int .i64 0),.sl X1'.length 1 0 1]))) [Pp,N,.p (.int .i64 1),.p (.int .i64 0),.sl X1'.length 1 0 1] {x with jump:=1,on:=0,next:=[q]} (IP++(IN++[X1'.length])) (u1s _ _) (λj hj hjg hm=>by
       have hjl:=hV.lt j hj;rw[Wd (Ne.symm hjg),Wb (by omega),u3 j hjg]) (by
       have hfr:∀j,j∈IP++(IN++[zid])->((X1'++[AO.row 1 [[.p (.int .i64 q)]]]).set gid (.row 5 (rows.set b [Pp,N,.p (.int .i64 1),.p (.int .i64 0),.sl X1'.length 1 0 1])))[j]?=X[j]?:=λj hj=>by
        have hjg:=(e7 j hj).2;have hjl:=hV.lt j (e7 j hj).1;rw[Wd (Ne.symm hjg),Wb (by omega),u3 j hjg]
       exact gX (b:={x with jump:=1,on:=0,next:=[q]}) (hP.frame λj hj=>hfr j (by simp[hj])) (hN.frame λj hj=>hfr j (by simp[hj])) (aX (l:=[q]) (by rw[Wd (by omega),Wg (Wo _),Xd];rfl) (by omega) rfl) (λj hj=>⟨λhm=>hn1.2.2 j hj j (by simp[hm]) rfl,λhm=>by have:=hP.lt j hj;rw[Wt.1 hm] at this;omega⟩) (λj hj hm=>by have:=hN.lt j hj;rw[Wt.1 hm] at this;omega)) (λj hj=>by
       simp only[Ws] at hj;rcases hj with h1|h1|h1
       ·exact .inl (by simp[h1])
       ·exact .inl (by simp[h1])
       ·rw[Wt.1 h1];exact .inr λhm=>by have:=hV.lt _ hm;omega)
      rw[hq] at hst;rw[hst] at r1;refine⟨⟨b+1,_⟩,⟨hcc,H.upd (λj hj=>?_) ?_ ⟨I',r1,λhm=>?_⟩⟩,rfl,rfl⟩
      ·rw[Wd (by omega),Wb (by omega),u3 j (by omega)]
      ·rw[Wd hgx,Wb (by omega),u3 xw (Ne.symm hgx)]
      ·rcases r2 xw hm with h1|h1
       ·exact hxI h1
       ·simp only[Ws] at h1;rcases h1 with h1|h1|h1
        ·exact hxI (e7 xw (by simp[h1])).1
        ·exact hxI (e7 xw (by simp[h1])).1
        ·have:=Wt.1 h1;omega
     by_cases hvz:v=0
     ·rw[Wz hvz] at hfin;obtain⟨a',k1,k2,k3⟩:=hfin t1 rfl;simp[hvz,tr5,u1,e4f,f5,u1a,u1s,s5,Yf];refine⟨a',k1,by omega,?_⟩;rw[k2,k3];exact aa (We _) (by simp[below,hwb];omega)
     ·rw[WB hvz] at hfin;obtain⟨a',k1,k2,k3⟩:=hfin t0 rfl;simp[hvz,tr5,u1,e4f,f5,u1a,u1s,s5,Yf];refine⟨a',k1,by omega,?_⟩;rw[k2,k3];exact aa (We _) (by simp[below,hwb];omega)
    ·have hpj:bE R x=x:=by
      have:isJ R x=false:=(by simp[isJ,hvv,hv0]);rw[bE,this];rfl
     obtain⟨a',k1,k2,k3⟩:=hkeep hpj;simp[hxx,e2,e4,hj,hcc,hww,hrr,hqr,hon.1,honl,hv0];refine⟨a',k1,by omega,?_⟩;rw[k2,k3];exact aa (We _) (by simp[below,hwb];omega)
   ·have hpj:bE R x=x:=by
     have:isJ R x=false:=(by simp[isJ,hj]);rw[bE,this];rfl
    obtain⟨a',k1,k2,k3⟩:=hkeep hpj;simp[hxx,e2,e4,hj,hcc];refine⟨a',k1,by omega,?_⟩;rw[k2,k3];exact aa (We _) (by simp[below,hwb];omega)
  ·have hbe:c.blocks.length<=b:=by omega
   rw[jn hbe] at H;have hcI:¬b<c.blocks.length:=hcc;rw[hB0] at hxx⊢;simp[hxx,hcI];rw[hB0] at H;exact⟨⟨0,X⟩,H,aa (We _) (by simp[below];omega)⟩
 clear hPu X1;rintro⟨_,X1⟩ hPu;simp only at hPu;have hp1l:(iQ R c.blocks).length=c.blocks.length:=by rw[fx,Wj]
 have hbel:∀{X:List AO} {bs:List Bk},PuI c R w r n1 xw X B bs->xw<X.length/\w<X.length/\1<X.length/\0<X.length:=λH=>by
  have h1:=H.lt;have h2:=H.lw;have h3:=H.xge;have h4:=H.n2;omega
 refine dc (λa:PuS=>aj 228 [(4,.ptr xw 3 0 0),(3,.ptr w 4 0 0),(2,.ptr 1 3 0 0),(1,.ptr 0 3 0 0)]) (λa=>a.X) (λa=>PuI c R w r n1 xw a.X B (BM R c.blocks)) ?_ ?_
 ·simp[];obtain⟨F2,hF2⟩:∃F2:Nat->Bk->Bk,F2=λb x=>{x with phis:=x.phis.map (bD (ab c.blocks b) (ab (iQ R c.blocks) b))}:=⟨_,rfl⟩;have hp2:BM R c.blocks=(iQ R c.blocks).mapIdx F2:=by rw[hF2];rfl
  rw[hp2];refine am (λa:PuS=>aj 228 [(7,.p (.int .i64 a.b)),(4,.ptr xw 3 0 0),(3,.ptr w 4 0 0),(2,.ptr 1 3 0 0),(1,.ptr 0 3 0 0)]) (λa=>a.X) (λa=>a.b<=c.blocks.length/\PuI c R w r n1 xw a.X B (mxT F2 (iQ R c.blocks) a.b)) (λa=>c.blocks.length-a.b) ⟨0,X1⟩ ⟨We _,by rw[fw];exact hPu⟩ (aa (We _) (by simp[below];exact hbel hPu)) ?_;clear hPu X1;rintro⟨b,X⟩ ⟨hb,H⟩;simp only at hb H;have hxx:=H.xx;have hx0:=H.x0;have hxl:=H.lt;have hge:=H.xge;have hlw:=H.lw;have hn2:=H.n2;obtain⟨I,hV,hxI⟩:=H.own;have hml:=fu F2 (iQ R c.blocks) b
  have hnxt:(mxT F2 (iQ R c.blocks) b).map Bk.next=(iQ R c.blocks).map Bk.next:=by
   have h1:((iQ R c.blocks).mapIdx F2).map Bk.next=(iQ R c.blocks).map Bk.next:=by
    refine WT λk=>?_;rw[Wl,WH,Wl,hF2];cases (iQ R c.blocks)[k]?<;>rfl
   have h2:((iQ R c.blocks).take b).mapIdx F2=((iQ R c.blocks).mapIdx F2).take b:=by
    refine WT λk=>?_;rw[WH,Xo,Xo,WH];split<;>rfl
   rw[mxT,WF,h2,XX,h1,ZV,XH]
  by_cases hcc:b<c.blocks.length
  ·have hgb:=Wc hcc;generalize c.blocks[b]=x0 at hgb;have hg1:(iQ R c.blocks)[b]?=some (bE R x0):=by rw[fx,Wl,hgb];rfl
   obtain⟨kp1,kp2⟩:=uI R x0;have hgm:=ic (F:=F2) hg1;have hst:=gS (F:=F2) hg1;have hwb:=w1 (i:=b) (by omega);have hpn:=iq hnxt (b:Int)
   have hxb:CBd ⟨c.params,c.regs,mxT F2 (iQ R c.blocks) b⟩:=by
    refine⟨by simp only;rw[hml,hp1l];omega,λy hy=>?_⟩;have h1:y.next∈(mxT F2 (iQ R c.blocks) b).map Bk.next:=Zw hy;rw[hnxt,fx] at h1;obtain⟨z,hz,he⟩:=Ww.1 h1;obtain⟨z0,hz0,rfl⟩:=Ww.1 hz;have h3:=(h.smx z0 hz0).2.2.1;rw[←he];unfold bE;split
    ·simp
    ·omega
   have hA:=Mg G hxx hV hxI (by omega) c hc hxb hgm (λp hp=>DC h R b p (by rw[hpn] at hp;exact hp)) (λf hf=>(hv.pa b x0 hgb f (by rw[←kp1];exact hf)).1) (by rw[kp1];have:=(h.bk hgb).1;omega);rw[hcs,hbl] at hA;rw[hB0] at hxx;have hcI:b<(iQ R c.blocks).length:=(by omega);simp[hxx,hx0,hcc];refine hA.mono ?_;rintro z X' ⟨rfl,I',a1,a2,a3,a4⟩;rw[hpn] at a2;have hFe:F2 b (bE R x0)={bE R x0 with phis:=(bE R x0).phis.map (bD (ab c.blocks b) (ab (iQ R c.blocks) b))}:=(by rw[hF2]);rw[←hFe,hst] at a2
   have H':PuI c R w r n1 xw X' B (mxT F2 (iQ R c.blocks) (b+1)):=H.upd (λj hj=>a4.2 j (by omega) λhm=>by have:=hV.ge j hm;omega) (by rw[a1,H.xx]) ⟨I',a2,λhm=>by
    rcases a3 xw hm with h1|h1
    ·exact hxI h1
    ·omega⟩
   simp[];exact⟨⟨b+1,X'⟩,⟨hcc,H'⟩,by simp only;omega,aa (We _) (by simp[below,hwb];exact hbel H')⟩
  ·have hbe:c.blocks.length<=b:=by omega
   have hcI:¬b<c.blocks.length:=hcc;rw[jn (by omega)] at H;rw[hB0] at hxx⊢;simp[hxx,hcI];rw[hB0] at H;exact⟨⟨0,X⟩,H,aa (We _) (by simp[below];omega)⟩
 clear hPu X1;rintro⟨_,X1⟩ hPu;simp only at hPu;have hp2l:(BM R c.blocks).length=c.blocks.length:=by rw[BM,XN,hp1l]
 refine dc (λa:PuS=>aj 228 [(4,.ptr xw 3 0 0),(3,.ptr w 4 0 0),(2,.ptr 1 3 0 0),(1,.ptr 0 3 0 0)]) (λa=>a.X) (λa=>PuI c R w r n1 xw a.X B (Sv R c.blocks)) ?_ ?_
 ·simp[];refine am (λa:PuS=>aj 228 [(8,.p (.int .i64 a.b)),(4,.ptr xw 3 0 0),(3,.ptr w 4 0 0),(2,.ptr 1 3 0 0),(1,.ptr 0 3 0 0)]) (λa=>a.X) (λa=>a.b<=c.blocks.length/\PuI c R w r n1 xw a.X B (mxT (λ_ x=>Fc R x) (BM R c.blocks) a.b)) (λa=>c.blocks.length-a.b) ⟨0,X1⟩ ⟨We _,by rw[fw];exact hPu⟩ (aa (We _) (by simp[below];exact hbel hPu)) ?_;clear hPu X1;rintro⟨b,X⟩ ⟨hb,H⟩;simp only at hb H;have hxx:=H.xx;have hxl:=H.lt;have hge:=H.xge;have hlw:=H.lw;have hlr:=H.lr;have hn2:=H.n2;obtain⟨I,hV,hxI⟩:=H.own;have hml:=fu (λ_ x=>Fc R x) (BM R c.blocks) b
  by_cases hcc:b<c.blocks.length
  ·have hgb:=Wc hcc;generalize c.blocks[b]=x0 at hgb;obtain⟨kp1,kp2⟩:=uI R x0;obtain⟨x,hx⟩:∃x:Bk,x={bE R x0 with phis:=x0.phis.map (bD (ab c.blocks b) (ab (iQ R c.blocks) b))}:=⟨_,rfl⟩;have hg1:(BM R c.blocks)[b]?=some x:=by rw[BM,WH,fx,Wl,hgb,hx,←fx,←kp1];rfl
   have hxi:x.ins=x0.ins:=by rw[hx];exact kp2
   have hxp:∀f∈x.phis,0<=f.to/\f.to<c.regs:=λf hf=>by
    rw[hx] at hf;obtain⟨g,hg,rfl⟩:=Ww.1 hf;exact(hv.pa b x0 hgb g hg).2.2
   have hxia:∀y∈x.ins,aI y.op=true->0<=y.to/\y.to<c.regs:=λy hy hs=>by
    rw[hxi] at hy;exact(hv.ia b x0 hgb y hy).2.2.2.1 hs
   have hcn:x.ins.length+x.phis.length<=800:=by
    have h1:=(h.bk hgb).1;rw[hxi,hx];simp only[Wj];exact h1
   have hgm:=ic (F:=λ_ x=>Fc R x) hg1;have hst:=gS (F:=λ_ x=>Fc R x) hg1;clear hx hxi hgb kp1 kp2 hg1;have hwb:=w1 (i:=b) (by omega);obtain⟨gid,rows,rr,Jb,e1,e2,e3,e4,e5,e6,e7,e8⟩:=hV.bks hgm;obtain⟨Pp,N,Z,IP,IN,IX,rfl,rfl,hP,hN,hZ⟩:=eF e5;obtain⟨p1,p2⟩:=hP.cell;obtain⟨q1,q2⟩:=hN.cell;obtain⟨z1,z2⟩:=hZ.cell;rw[hml,hp2l] at e1;subst e1;have hgl:=(Wa.1 e2).1;have hg3:=hV.ge gid e6;have hbr:b<rows.length:=(by rw[e3,hml,hp2l];exact hcc);have hgx:gid≠xw:=λe=>hxI (by rw[←e];exact e6);simp[hxx,hcc]
   refine dc (λa:F3S=>aj 228 [(11,.sl a.b 4 0 (aB R x.phis).length),(10,.sl a.a 2 0 (aM R x.phis).length),(9,.ptr gid 5 b 0),(8,.p (.int .i64 b)),(4,.ptr xw 3 0 0),(3,.ptr w 4 0 0),(2,.ptr 1 3 0 0),(1,.ptr 0 3 0 0)]) (λa=>a.X)
    (λa=>KpF X a.X/\X.length<=a.X.length/\∃Ia Ib,Own n1 a.X [.sl a.a 2 0 (aM R x.phis).length] [phL (aM R x.phis)] Ia/\Own X.length a.X [.sl a.b 4 0 (aB R x.phis).length] [inL (aB R x.phis)] Ib/\(∀j∈Ia,(j∈IP\/X.length<=j)/\j∉Ib)) ?_ ?_
   ·simp[]
    obtain⟨rows2,J0,hPp,r2l,r2c,hR2,hJ0⟩:∃rows2 J0,((Pp= .nils/\x.phis=[])\/∃pid,Pp= .sl pid 2 0 x.phis.length/\X[pid]?=some (.row 2 rows2))/\rows2.length=x.phis.length/\(∀r∈rows2,r.length=2)/\Own n1 X rows2.flatten (x.phis.map Ph.cs).flatten J0/\∀j∈J0,j∈IP:=by
     have hpl:phL x.phis= .lst 2 (x.phis.map Ph.cs):=rfl;rw[hpl] at hP;rcases hP.row with⟨h1,h2,h3⟩|⟨pid,rows2,J,h1,h2,hr,hnl⟩
     ·have h4:=WK.1 h2;exact⟨[],[],.inl ⟨h1,h4⟩,by rw[h4];rfl,(λr hr=>by cases hr),by rw[h4];exact Own.nix _ _,λj hj=>by cases hj⟩
     ·have hrl:=hr.len;rw[Wj] at hrl h1;have hnd:=hP.nd;rw[h2] at hnd;exact⟨rows2,J,.inr ⟨pid,h1,hr.here⟩,hrl,hr.rl,⟨hr.own,(WR.1 hnd).2,hP.no.sub λj hj=>by rw[h2];simp[hj],λv hv=>(by obtain⟨r,h5,h6⟩:=Yt.1 hv;exact hnl r h5 v h6),λj hj=>hP.ge j (by rw[h2];simp[hj])⟩,λj hj=>by rw[h2];simp[hj]⟩
    have hXn:n1<=X.length:=by omega
    refine am (λa:F3S=>aj 228 [(12,.p (.int .i64 a.i)),(11,.sl a.b 4 0 (aB R (x.phis.take a.i)).length),(10,.sl a.a 2 0 (aM R (x.phis.take a.i)).length),(9,.ptr gid 5 b 0),(8,.p (.int .i64 b)),(4,.ptr xw 3 0 0),(3,.ptr w 4 0 0),(2,.ptr 1 3 0 0),(1,.ptr 0 3 0 0)]) (λa=>a.X)
     (λa=>a.i<=x.phis.length/\F3I R n1 X x IP rows2 a) (λa=>x.phis.length-a.i) ⟨0,X.length,X.length+1,X++[.row 2 [],.row 4 []]⟩ ⟨We _,λj hj=>Wb hj,by simp,Wo _,by simp,by simp,[X.length],[X.length+1],J0,?_,?_,λj hj=>?_,hR2,hJ0⟩ (aa (We _) (by simp[below,aB,aM];omega)) ?_
    ·exact Own.of (D:=[]) (J:=[]) (rows:=[]) ⟨by simp,rfl,(λ_ h=>by cases h),(λ_ h=>by cases h),.nil,by simp⟩ (λ_ h=>by cases h) (λ_ h=>by cases h) (λj hj=>by rw[Wt.1 hj];exact hXn) rfl
    ·exact Own.of (D:=[]) (J:=[]) (rows:=[]) ⟨by simp,rfl,(λ_ h=>by cases h),(λ_ h=>by cases h),.nil,by simp⟩ (λ_ h=>by cases h) (λ_ h=>by cases h) (λj hj=>by rw[Wt.1 hj];simp) rfl
    ·rw[Wt.1 hj];exact⟨.inr (Wo _),by simp,λhm=>by have:=hR2.lt _ hm;omega⟩
    rintro⟨i,a,d,X'⟩ ⟨hi,hkp,hXl,haX,hal,hdl,Ia,Ib,Jr,hA,hD,hdis,hRr,hJr⟩;simp only at hi hkp hXl haX hal hdl hA hD hdis hRr hJr;have y1:X'[xw]?=some (.row 3 [[.p (.int .i64 c.params),.p (.int .i64 c.regs),.sl gid 5 0 c.blocks.length]]):=(hkp _ hxl).trans hxx;have y2:X'[gid]?=some (.row 5 rows):=(hkp _ hgl).trans e2;have e4e:=λhh=>ag e4 hh;have y2e:=λhh=>ag y2 hh
    by_cases hc2:i<x.phis.length
    ·have hgi:=Wc hc2;have hmf:=Wm hc2;have htk:x.phis.take (i+1)=x.phis.take i++[x.phis[i]]:=aq hc2;have hdr:x.phis.drop i=x.phis[i]::x.phis.drop (i+1):=Xa hc2;generalize x.phis[i]=f at hgi hmf htk hdr;have hi2:i<rows2.length:=(by omega);have hdr2:rows2.drop i=rows2[i]::rows2.drop (i+1):=Xa hi2;have hg2:=Wc hi2;have hl2:=r2c _ (Wm hi2);generalize rows2[i]=rf at hdr2 hg2 hl2
     obtain⟨u,A,rfl⟩:∃u A,rf=[u,A]:=by
      match rf,hl2 with
      |[u,A],_=>exact⟨u,A,rfl⟩
     rw[hdr2,hdr] at hRr;have hRr2:Own n1 X (u::A::(rows2.drop (i+1)).flatten) (.int .i64 f.to::ah f.args::((x.phis.drop (i+1)).map Ph.cs).flatten) Jr:=hRr;obtain⟨us,e0,hRr3⟩:=hRr2.int;simp only[Yh] at e0;obtain⟨rfl,rfl⟩:=e0;obtain⟨A',us',IA,Jr',e0,rfl,hAo,hRr4⟩:=hRr3.one;simp only[Yh] at e0;obtain⟨rfl,rfl⟩:=e0;obtain⟨a1,a2⟩:=hAo.cell;rcases hPp with⟨_,z⟩|⟨pid,rfl,hpid⟩
     ·rw[z] at hc2;simp at hc2
     have hpl':=(Wa.1 hpid).1;have y3:X'[pid]?=some (.row 2 rows2):=(hkp _ hpl').trans hpid;obtain⟨t0,t1⟩:=hxp f hmf;have hne:R≠[]:=λe=>(by rw[e] at hRl;simp at hRl;omega);obtain⟨O',Yv',M',hww⟩:=H.hw hne;have hrr:=H.hr hne;have y4:X'[w]?=_:=(hkp w (by omega)).trans hww;have y5:X'[r]?=_:=(hkp r (by omega)).trans hrr;have hql:f.to.toNat<R.length:=(by rw[hRl];omega);have hqr:=bW (oT hql);have hqe:((f.to.toNat:Nat):Int)=f.to:=(by omega);rw[hqe] at hqr;have htl:f.to<R.length:=(by omega);have hwi:=w1 (i:=i) (by omega);have hndJ:=WG.1 hRr3.nd
     have hLf:aM R (x.phis.take (i+1))=aM R (x.phis.take i)++if 0<=rg R f.to then[] else[f]:=by
      rw[htk,aM,Yl,aM];congr 1
      by_cases e:0<=rg R f.to<;>simp[e]
     have hFf:aB R (x.phis.take (i+1))=aB R (x.phis.take i)++if 0<=rg R f.to then[⟨1,f.to,[],rg R f.to⟩] else[]:=by
      rw[htk,aB,Yl,WF,aB];congr 1
      by_cases e:0<=rg R f.to<;>simp[e]
     by_cases hv0:0<=rg R f.to
     ·rw[Wz hv0,WI] at hLf;rw[Wz hv0] at hFf;rcases hD.row with⟨e0,_⟩|⟨d',rowsD,JD,e0,eI,hrD,hnD⟩
      ·cases e0
      simp only[AV.sl.injEq,true_and] at e0;obtain⟨rfl,hlD⟩:=e0;have hrDl:rowsD.length=(aB R (x.phis.take i)).length:=(by rw[hrD.len];exact hlD.symm);have y6:∀t,(X'++t)[d]?=some (.row 4 rowsD):=λt=>(by rw[Wb hdl];exact hrD.here);have htl4:List.take (aB R (x.phis.take i)).length rowsD=rowsD:=Wi (by omega);have hFl:(aB R (x.phis.take i)).length<=i:=(by rw[aB,Wj];exact Xw (Xk _ _) (by rw[WD];omega));have hOR:Own X.length (X'++[AO.row 1 [],.row 4 [[.p (.int .i64 1),.p (.int .i64 f.to),.sl X'.length 1 0 0,.p (.int .i64 (rg R f.to))]]]) [.p (.int .i64 1),.p (.int .i64 f.to),.sl X'.length 1 0 0,.p (.int .i64 (rg R f.to))] (Ii.cs ⟨1,f.to,[],rg R f.to⟩) [X'.length]:=rz (x:=⟨1,f.to,[],rg R f.to⟩) (aX (l:=[]) (by simp) hXl rfl);obtain⟨IV,w1',w2',w3',w4'⟩:=Own.psh (hD.more [AO.row 1 [],.row 4 [[.p (.int .i64 1),.p (.int .i64 f.to),.sl X'.length 1 0 0,.p (.int .i64 (rg R f.to))]]]) hOR (λj hj hm=>by have:=hD.lt j hj;rw[Wt.1 hm] at this;omega) rfl (by simp;omega) (.inr ⟨d,rowsD,_,rfl,y6 _,hrDl,rfl,rfl⟩);have hIe:inL (aB R (x.phis.take (i+1)))= .lst 4 ((aB R (x.phis.take i)).map Ii.cs++[Ii.cs ⟨1,f.to,[],rg R f.to⟩]):=(by rw[hFf,inL,WF];rfl);rw[←hIe] at w1';have hFle:(aB R (x.phis.take (i+1))).length=(aB R (x.phis.take i)).length+1:=(by rw[hFf];simp);simp[y2,e4,hc2,y3,hg2,y4,y5,hqr,t0,htl,hv0,y6,htl4,hrDl];refine⟨⟨by omega,by omega⟩,⟨i+1,a,X'.length+2,_⟩,⟨hc2,λj hj=>?_,?_,haX,?_,?_,Ia,IV,Jr',?_,?_,λj hj=>?_,hRr4,λj hj=>hJr j (by simp[hj])⟩,by simp only;omega,aa (We _) ?_⟩
      ·have hdX:X.length<=d:=hD.ge d (by rw[eI];simp);simp only;rw[Wb (by simp;omega),Wd (by omega),Wb (by omega)];exact hkp j hj
      ·simp;omega
      ·simp;omega
      ·simp
      ·simp only;rw[hLf];refine hA.frame λj hj=>?_;have hjl:=hA.lt j hj;have hjd:d≠j:=λe=>(hdis j hj).2.1 (by rw[eI,←e];simp);rw[Wb (by simp;omega),Wd hjd,Wb hjl]
      ·simp only;rw[hFle];simpa using w1'
      ·obtain⟨d1,d2,d3⟩:=hdis j hj;refine⟨d1,λhm=>?_,λhm=>d3 (by simp[hm])⟩;have hjl:=hA.lt j hj;rcases w2' j hm with h1|h1|h1
       ·exact d2 h1
       ·rw[Wt.1 h1] at hjl;omega
       ·rw[h1] at hjl;simp at hjl;omega
      ·have h9:(aM R (x.phis.take i)).length=(aM R (x.phis.take (i+1))).length:=(by rw[hLf]);simp[below,hwi,hFle,←h9];omega
     ·rw[WB hv0] at hLf;rw[WB hv0,WI] at hFf;rcases hA.row with⟨e0,_⟩|⟨a',rowsA,JA,e0,eI,hrA,hnA⟩
      ·cases e0
      simp only[AV.sl.injEq,true_and] at e0;obtain⟨rfl,hlA⟩:=e0;have hrAl:rowsA.length=(aM R (x.phis.take i)).length:=(by rw[hrA.len];exact hlA.symm);have y6:∀t,(X'++t)[a]?=some (.row 2 rowsA):=λt=>(by rw[Wb hal];exact hrA.here);have htl4:List.take (aM R (x.phis.take i)).length rowsA=rowsA:=Wi (by omega);have hFl:(aM R (x.phis.take i)).length<=i:=(by rw[aM];exact Xw (Xk _ _) (by rw[WD];omega));have hAo':Own n1 (X'++[AO.row 2 [[.p (.int .i64 f.to),A]]]) [A] [ah f.args] IA:=(hAo.frame λj hj=>hkp j (hAo.lt j hj)).more _;obtain⟨IV,w1',w2',w3',w4'⟩:=Own.psh (hA.more [AO.row 2 [[.p (.int .i64 f.to),A]]]) (hAo'.putI f.to) (λj hj hm=>(hdis j hj).2.2 (by simp[hm])) rfl (by simp;omega) (.inr ⟨a,rowsA,_,rfl,y6 _,hrAl,rfl,rfl⟩);have hIe:phL (aM R (x.phis.take (i+1)))= .lst 2 ((aM R (x.phis.take i)).map Ph.cs++[[.int .i64 f.to,ah f.args]]):=(by rw[hLf,phL,WF];rfl);rw[←hIe] at w1';have hFle:(aM R (x.phis.take (i+1))).length=(aM R (x.phis.take i)).length+1:=(by rw[hLf];simp);simp[-AV.cells,-AV.isCell,az,aO,cI,a2,y2,e4,hc2,y3,hg2,y4,y5,hqr,t0,htl,hv0,y6,htl4,hrAl];have haI:a∈Ia:=(by rw[eI];simp);refine⟨⟨by omega,by omega⟩,⟨i+1,X'.length+1,d,_⟩,⟨hc2,λj hj=>?_,?_,by simp only;omega,?_,?_,IV,Ib,Jr',?_,?_,λj hj=>?_,hRr4,λj hj=>hJr j (by simp[hj])⟩,by simp only;omega,aa (We _) ?_⟩
      ·simp only;rw[Wb (by simp;omega),Wd (by omega),Wb (by omega)];exact hkp j hj
      ·simp;omega
      ·simp
      ·simp;omega
      ·simp only;rw[hFle];simpa using w1'
      ·simp only;rw[hFf];refine hD.frame λj hj=>?_;have hjl:=hD.lt j hj;have hja:a≠j:=λe=>(hdis a haI).2.1 (by rw[e];exact hj);rw[Wb (by simp;omega),Wd hja,Wb hjl]
      ·rcases w2' j hj with h1|h1|h1
       ·obtain⟨d1,d2,d3⟩:=hdis j h1;exact⟨d1,d2,λhm=>d3 (by simp[hm])⟩
       ·refine⟨.inl (hJr j (by simp[h1])),λhm=>?_,λhm=>hndJ.2.2 j h1 j hm rfl⟩;have:=hD.ge j hm;have:=hAo.lt j h1;omega
       ·rw[h1];refine⟨.inr (by simp;omega),λhm=>?_,λhm=>?_⟩
        ·have:=hD.lt _ hm;simp at this;omega
        ·have:=hRr4.lt _ hm;simp at this;omega
      ·have h9:(aB R (x.phis.take i)).length=(aB R (x.phis.take (i+1))).length:=(by rw[hFf]);simp[below,hwi,hFle,←h9];omega
    ·have hie:i=x.phis.length:=(by omega);subst hie;rw[Xm] at hA hD
     have hPl:∀Q:Prop,(∀pid,Pp= .sl pid 2 0 x.phis.length->Q)->(Pp= .nils->x.phis.length=0->Q)->Q:=λQ h1 h2=>by
      rcases hPp with⟨e,z⟩|⟨pid,e,_⟩
      ·exact h2 e (by rw[z];rfl)
      ·exact h1 pid e
     rw[Xm];refine hPl _ (λpid e=>?_) (λe e0=>?_)
     ·subst e;simp[y2,e4];exact⟨⟨0,a,d,X'⟩,⟨hkp,hXl,Ia,hA,Ib,hD,λj hj=>⟨(hdis j hj).1,(hdis j hj).2.1⟩⟩,aa (We _) (by simp[below];omega)⟩
     ·subst e;simp[y2,e4,e0];exact⟨⟨0,a,d,X'⟩,⟨hkp,hXl,Ia,hA,Ib,hD,λj hj=>⟨(hdis j hj).1,(hdis j hj).2.1⟩⟩,aa (We _) (by simp[below];omega)⟩
   ·rintro⟨_,a,d,X'⟩ ⟨hkp,hXl,Ia,Ib,hA,hD,hdis⟩;simp only at hkp hXl hA hD hdis;have hnd:=WG.1 e5.nd;have hnd2:=WG.1 hnd.2.1
    have haN:∀j∈Ia,j∉IN:=λj hj hm=>by
     rcases(hdis j hj).1 with h1|h1
     ·exact hnd.2.2 j h1 j (by simp[hm]) rfl
     ·have:=hN.lt j hm;omega
    have hdN:∀j∈Ib,j∉IN:=λj hj hm=>by
     have:=hN.lt j hm;have:=hD.ge j hj;omega
    have hgN:gid∉IN:=λhm=>(e7 gid (by simp[hm])).2 rfl;have hN':Own n1 X' [N] [inL x.ins] IN:=hN.frame λj hj=>hkp j (hN.lt j hj);have hil:inL x.ins= .lst 4 (x.ins.map Ii.cs):=rfl
    refine dc (λa':PuS=>aj 228 [(11,.sl d 4 0 (aB R x.phis).length),(10,.sl a 2 0 (aM R x.phis).length),(9,.ptr gid 5 b 0),(8,.p (.int .i64 b)),(4,.ptr xw 3 0 0),(3,.ptr w 4 0 0),(2,.ptr 1 3 0 0),(1,.ptr 0 3 0 0)]) (λa=>a.X)
     (λa'=>FrN IN X' a'.X/\∃IN',Own n1 a'.X [N] [inL (x.ins.map (putI R))] IN'/\∀j∈IN',j∈IN\/X'.length<=j) ?_ ?_
    ·simp[]
     refine am (λa':PuS=>aj 228 [(14,.p (.int .i64 a'.b)),(11,.sl d 4 0 (aB R x.phis).length),(10,.sl a 2 0 (aM R x.phis).length),(9,.ptr gid 5 b 0),(8,.p (.int .i64 b)),(4,.ptr xw 3 0 0),(3,.ptr w 4 0 0),(2,.ptr 1 3 0 0),(1,.ptr 0 3 0 0)]) (λa=>a.X)
      (λa'=>a'.b<=x.ins.length/\FrN IN X' a'.X/\∃IN',Own n1 a'.X [N] [inL (mxT (λ_ y=>putI R y) x.ins a'.b)] IN'/\∀j∈IN',j∈IN\/X'.length<=j) (λa'=>x.ins.length-a'.b) ⟨0,X'⟩ ⟨We _,⟨Wo _,λ_ _ _=>rfl⟩,IN,by rw[fw];exact hN',λj hj=> .inl hj⟩ (aa (We _) (by have h1:=Own.slLt hA;have h2:=Own.slLt hD;simp[below];omega)) ?_
     rintro⟨i,X2⟩ ⟨hi,hfr,IN',hNn,hIN'⟩;simp only at hi hfr hNn hIN';have y1:X2[xw]?=some (.row 3 [[.p (.int .i64 c.params),.p (.int .i64 c.regs),.sl gid 5 0 c.blocks.length]]):=(hfr.2 _ (by omega) (λhm=>hxI (e7 xw (by simp[hm])).1)).trans ((hkp _ hxl).trans hxx);have y2:X2[gid]?=some (.row 5 rows):=(hfr.2 _ (by omega) hgN).trans ((hkp _ hgl).trans e2);have hml2:=fu (λ_ y=>putI R y) x.ins i;have hla:=Own.slLt hA;have hld:=Own.slLt hD;have hXf:=hfr.1;have e4e:=λhh=>ag e4 hh;have hilm:inL (mxT (λ_ y=>putI R y) x.ins i)= .lst 4 ((mxT (λ_ y=>putI R y) x.ins i).map Ii.cs):=rfl;have hlm:((mxT (λ_ y=>putI R y) x.ins i).map Ii.cs).length=x.ins.length:=by rw[Wj,hml2]
     by_cases hc2:i<x.ins.length
     ·have hgi:=Wc hc2;have hmy:=Wm hc2;generalize x.ins[i]=y at hgi hmy;have hgm2:=ic (F:=λ_ y=>putI R y) hgi;have hst2:=gS (F:=λ_ y=>putI R y) hgi;rw[hilm] at hNn;rcases hNn.row with⟨_,z,_⟩|⟨nid,rowsN,JN,rfl,eIN,hrN,hnN⟩
      ·have z2:=WK.1 z;rw[z2] at hml2;simp at hml2;omega
      rw[hlm] at hNn⊢;rw[hlm] at e4 e4e;subst eIN;obtain⟨ry,IA,g1,g2,g3,g4⟩:=Own.upd (D:=(mxT (λ_ y=>putI R y) x.ins i).map Ii.cs) (by rw[hlm];exact hNn) hrN (i:=i) (e:=y.cs) (by rw[Wl,hgm2];rfl);obtain⟨A,rfl,hAy⟩:=Er g2;have y3:=hrN.here;have hrNl:=hrN.len;rw[hlm] at hrNl;have hnl:=(Wa.1 y3).1;have hMk:=gA G y.op;have hwi:=w1 (i:=i) (by omega)
      have hkeep:putI R y=y->∃a':PuS,(a'.b<=x.ins.length/\FrN IN X' a'.X/\∃IN',Own n1 a'.X [.sl nid 4 0 x.ins.length] [inL (mxT (λ_ y=>putI R y) x.ins a'.b)] IN'/\∀j∈IN',j∈IN\/X'.length<=j)/\a'.b=i+1/\a'.X=X2:=λhe=>by
       rw[he] at hst2
       have:(mxT (λ_ y=>putI R y) x.ins i).set i y=mxT (λ_ y=>putI R y) x.ins i:=by
        obtain⟨_,q⟩:=Wa.1 hgm2
        conv=>lhs;arg 3;rw[←q]
        exact Xl _
       rw[this] at hst2;exact⟨⟨i+1,X2⟩,⟨hc2,hfr,_,by simp only;rw[←hst2];exact hNn,hIN'⟩,rfl,rfl⟩
      simp[y2,e4,hc2,y3,g1];refine hMk.use ?_;cases hs:aI y.op with
      |false=>
       obtain⟨a',k1,k2,k3⟩:=hkeep (by rw[putI,hs];simp);simp[];refine⟨a',k1,by omega,?_⟩;rw[k2,k3];exact aa (We _) (by simp[below,hwi];omega)
      |true=>
       obtain⟨t0,t1⟩:=hxia y hmy hs;have hne:R≠[]:=λe=>(by rw[e] at hRl;simp at hRl;omega);obtain⟨O',Yv',M',hww⟩:=H.hw hne;have hrr:=H.hr hne;have hwN:w∉IN:=λhm=>(by have:=hN.ge w hm;omega);have hrNn:r∉IN:=λhm=>(by have:=hN.ge r hm;omega);have y4:X2[w]?=_:=(hfr.2 w (by omega) hwN).trans ((hkp w (by omega)).trans hww);have y5:X2[r]?=_:=(hfr.2 r (by omega) hrNn).trans ((hkp r (by omega)).trans hrr);have hql:y.to.toNat<R.length:=(by rw[hRl];omega);have hqr:=bW (oT hql);have hqe:((y.to.toNat:Nat):Int)=y.to:=(by omega);rw[hqe] at hqr;have htl:y.to<R.length:=by omega
       by_cases hv0:0<=rg R y.to
       ·have hpi:putI R y=⟨1,y.to,[],rg R y.to⟩:=(by rw[putI,Wz ⟨hs,hv0⟩]);rw[hpi] at hst2;have z1':∀t,(X2++t)[xw]?=some (.row 3 [[.p (.int .i64 c.params),.p (.int .i64 c.regs),.sl gid 5 0 c.blocks.length]]):=λt=>(by rw[Wb (by omega)];exact y1);have z2':∀t,(X2++t)[gid]?=some (.row 5 rows):=λt=>(by rw[Wb (by omega)];exact y2);have z3':∀t,(X2++t)[nid]?=some (.row 4 rowsN):=λt=>(by rw[Wb (by omega)];exact y3);have z4':=λt=>(Wb (l₂:=t) (show w<X2.length by omega)).trans y4;have z5':=λt=>(Wb (l₂:=t) (show r<X2.length by omega)).trans y5;have z2e:=λt hh=>ag (z2' t) hh;have z3e:=λt hh=>ag (z3' t) hh;have z4e:=λt hh=>ag (z4' t) hh;have z5e:=λt hh=>ag (z5' t) hh;have g1e:=λhh=>ag g1 hh;have hqre:=λhh=>ag hqr hh;have hrNi:i<rowsN.length:=(by omega);simp[y2,e4,hc2,y3,y4,y5,hqr,t0,htl,hv0,z2',z3',z4',z5',g1e,hrNi];have hgeN:=hNn.ge nid (by simp);have hnI:nid∈IN\/X'.length<=nid:=hIN' nid (by simp)
        obtain⟨J',r1,r2⟩:=g4 ((X2++[AO.row 1 []]).set nid (.row 4 (rowsN.set i [.p (.int .i64 1),.p (.int .i64 y.to),.sl X2.length 1 0 0,.p (.int .i64 (rg R y.to))]))) [.p (.int .i64 1),.p (.int .i64 y.to),.sl X2.length 1 0 0,.p (.int .i64 (rg R y.to))] (Ii.cs ⟨1,y.to,[],rg R y.to⟩) [X2.length] (Wh (by simp;omega)) (λj hj _=>by
         have hjl:=hNn.lt j (by simp[hj]);have hjn:nid≠j:=λe=>(WR.1 hNn.nd).1 (by rw[e];exact hj);rw[Wd hjn,Wb hjl]) (rz (x:=⟨1,y.to,[],rg R y.to⟩) (aX (l:=[]) (by rw[Wd (by omega),Wg (Wo _),Xd];rfl) (by omega) rfl)) (λj hj=>by
         rw[Wt.1 hj];exact .inr ⟨by omega,λhm=>by have:=hNn.lt _ (Xb nid hm);omega⟩) rfl
        rw[←Ym,hst2,hlm] at r1;refine⟨⟨i+1,_⟩,⟨hc2,⟨by simp;omega,λj hj hn=>?_⟩,nid::J',r1,λj hj=>?_⟩,by simp only;omega,aa (We _) (by simp[below,hwi];omega)⟩
        ·have hjn:nid≠j:=λe=>by
          rcases hnI with h1|h1
          ·exact hn (e▸h1)
          ·omega
         simp only;rw[Wd hjn,Wb (by omega)];exact hfr.2 j hj hn
        ·rcases WE.1 hj with rfl|hj
         ·exact hnI
         ·rcases r2 j hj with h1|h1
          ·exact hIN' j (by simp[h1])
          ·rw[Wt.1 h1];exact .inr (by omega)
       ·obtain⟨a',k1,k2,k3⟩:=hkeep (by rw[putI,WB (λe=>hv0 e.2)]);simp[y2,e4,hc2,y3,g1,y4,y5,hqr,t0,htl,hv0];refine⟨a',k1,by omega,?_⟩;rw[k2,k3];exact aa (We _) (by simp[below,hwi];omega)
     ·have hie:x.ins.length<=i:=(by omega);rw[jn hie] at hNn
      have hmm:(x.ins.mapIdx λ_ y=>putI R y)=x.ins.map (putI R):=by
       refine WT λk=>?_;rw[WH,Wl]
      rw[hmm] at hNn;have hNn0:=hNn;have hilm2:inL (x.ins.map (putI R))= .lst 4 ((x.ins.map (putI R)).map Ii.cs):=rfl;rw[hilm2] at hNn0;have hcI:¬i<x.ins.length:=hc2;rcases hNn0.row with⟨rfl,z,_⟩|⟨nid,rowsN,JN,rfl,eIN,hrN,hnN⟩
      ·have h0:x.ins.length=0:=(by have:=congrArg List.length z;simpa using this);simp[y2,e4,h0];exact⟨⟨0,X2⟩,⟨hfr,IN',hNn,hIN'⟩,aa (We _) (by simp[below];omega)⟩
      ·have hl3:((x.ins.map (putI R)).map Ii.cs).length=x.ins.length:=(by simp);rw[hl3] at hNn e4⊢;simp[y2,e4,hcI];exact⟨⟨0,X2⟩,⟨hfr,IN',hNn,hIN'⟩,aa (We _) (by simp[below];omega)⟩
    ·rintro⟨_,X2⟩ ⟨hfr,IN',hNn,hIN'⟩;simp only at hfr hNn hIN';have y1:X2[xw]?=some (.row 3 [[.p (.int .i64 c.params),.p (.int .i64 c.regs),.sl gid 5 0 c.blocks.length]]):=(hfr.2 _ (by omega) (λhm=>hxI (e7 xw (by simp[hm])).1)).trans ((hkp _ hxl).trans hxx);have y2:X2[gid]?=some (.row 5 rows):=(hfr.2 _ (by omega) hgN).trans ((hkp _ hgl).trans e2);have e4e:=λhh=>ag e4 hh;have hla:=Own.slLt hA;have hld:=Own.slLt hD;have hXf:=hfr.1;have hA2:Own n1 X2 [.sl a 2 0 (aM R x.phis).length] [phL (aM R x.phis)] Ia:=hA.frame λj hj=>hfr.2 j (hA.lt j hj) (haN j hj);have hD2:Own X.length X2 [.sl d 4 0 (aB R x.phis).length] [inL (aB R x.phis)] Ib:=hD.frame λj hj=>hfr.2 j (hD.lt j hj) (hdN j hj);have hDb:∀j∈Ib,X.length<=j/\j<X'.length:=λj hj=>⟨hD.ge j hj,hD.lt j hj⟩;have hbr2:∀o,b<(rows.set b o).length:=λo=>(by rw[Wy];exact hbr);have hgl2:gid<X2.length:=(by omega);have s5:∀t,(rows.set b t)[b]?=some t:=λt=>Wh hbr;have s5e:=λt hh=>ag (s5 t) hh;have hFl3:(aB R x.phis).length<=x.phis.length:=(by rw[aB,Wj];exact Xk _ _);obtain⟨o1,ho1⟩:∃o1,o1=AO.row 5 (rows.set b [.sl a 2 0 (aM R x.phis).length,N,.p (.int .i64 x.jump),.p (.int .i64 x.on),Z]):=⟨_,rfl⟩;have hg1:∀j,j≠gid->(X2.set gid o1)[j]?=X2[j]?:=λj hj=>Wd (Ne.symm hj);have hgB:∀j∈Ib,j≠gid:=λj hj e=>by have:=(hDb j hj).1;omega
     have hgI':∀j∈IN',j≠gid:=λj hj e=>by
      rcases hIN' j hj with h1|h1
      ·exact hgN (e▸h1)
      ·omega
     have hD3:Own n1 (X2.set gid o1) [.sl d 4 0 (aB R x.phis).length] [inL (aB R x.phis)] Ib:=(hD2.frame λj hj=>hg1 j (hgB j hj)).low λj hj=>(by have:=(hDb j hj).1;omega);have hN3:=hNn.frame (h2:=X2.set gid o1) λj hj=>hg1 j (hgI' j hj);have hla2:((aB R x.phis).map Ii.cs).length=(aB R x.phis).length:=Wj ..
     have hlb2:((x.ins.map (putI R)).map Ii.cs).length=x.ins.length:=by rw[Wj,Wj]
     obtain⟨V,H3,IV,happ,hVo,hIV,hl3,hf3⟩:=Own.cat (b:=48) (D:=(aB R x.phis).map Ii.cs) (E:=(x.ins.map (putI R)).map Ii.cs) hD3 hN3 (λj hj hm=>by
      rcases hIN' j hm with h1|h1
      ·exact hdN j hj h1
      ·have:=(hDb j hj).2;omega) (λe he=>by obtain⟨_,_,rfl⟩:=Ww.1 he;rfl) (by rw[Wy];omega) (by rw[hla2,hlb2];omega)
     rw[←WF] at hVo;rw[Wy] at hIV hl3 hf3;have hVo2:Own n1 H3 [V] [inL (aB R x.phis++x.ins.map (putI R))] IV:=hVo;obtain⟨v1,v2⟩:=hVo2.cell;have q0:(X2.set gid o1)[gid]?=some (.row 5 (rows.set b [.sl a 2 0 (aM R x.phis).length,N,.p (.int .i64 x.jump),.p (.int .i64 x.on),Z])):=(by rw[ho1];exact Wh hgl2);have g3:H3[gid]?=_:=(hf3 gid hgl2 λhm=>hgB _ hm rfl).trans q0;have q0e:=λhh=>ag q0 hh;have g3e:=λhh=>ag g3 hh;have g2e:=λhh=>ag y2 hh;have hf4:∀j,j<X2.length->j≠gid->j∉Ib->H3[j]?=X2[j]?:=λj h1 h2 h3=>(hf3 j h1 h3).trans (hg1 j h2);obtain⟨Hf,hHf⟩:∃Hf,Hf=H3.set gid (.row 5 (rows.set b [.sl a 2 0 (aM R x.phis).length,V,.p (.int .i64 x.jump),.p (.int .i64 x.on),Z])):=⟨_,rfl⟩;have f1:Hf[gid]?=some (.row 5 (rows.set b [.sl a 2 0 (aM R x.phis).length,V,.p (.int .i64 x.jump),.p (.int .i64 x.on),Z])):=(by rw[hHf];exact Wh (by omega));have f2:∀j,j≠gid->Hf[j]?=H3[j]?:=λj hj=>(by rw[hHf];exact Wd (Ne.symm hj));have f3:∀j,j<X2.length->j≠gid->j∉Ib->Hf[j]?=X2[j]?:=λj h1 h2 h3=>(f2 j h2).trans (hf4 j h1 h2 h3)
     have hIa:∀j∈Ia,j≠gid/\j∉Ib/\j∉IN/\j<X'.length:=λj hj=>⟨λe=>by
      rcases(hdis j hj).1 with h1|h1
      ·exact(e7 j (by simp[h1])).2 e
      ·omega,(hdis j hj).2,haN j hj,hA.lt j hj⟩
     have hIV2:∀j∈IV,j∈Ib\/j∈IN\/X'.length<=j:=λj hj=>by
      rcases hIV j hj with h1|h1|h1
      ·exact .inl h1
      ·exact .inr (hIN' j h1)
      ·exact .inr (.inr (by omega))
     have hIVg:∀j∈IV,j≠gid:=λj hj=>by
      rcases hIV j hj with h1|h1|h1
      ·exact hgB j h1
      ·exact hgI' j h1
      ·omega
     obtain⟨I',r1,r2⟩:=e8 Hf [.sl a 2 0 (aM R x.phis).length,V,.p (.int .i64 x.jump),.p (.int .i64 x.on),Z] (Fc R x) (Ia++(IV++IX)) f1 (λj hj hjg hm=>by
      have hjl:=hV.lt j hj;rw[f3 j (by omega) hjg (λh=>by have:=(hDb j h).1;omega),hfr.2 j (by omega) (λhm2=>hm (by simp[hm2]))];exact hkp j hjl)
      (gX (b:=Fc R x) (hA2.frame λj hj=>by have h1:=hIa j hj;exact f3 j (by omega) h1.1 h1.2.1) (hVo2.frame λj hj=>f2 j (hIVg j hj))
        (hZ.frame λj hj=>by
          have hjl:=hZ.lt j hj;have h7:=e7 j (by simp[hj]);rw[f3 j (by omega) h7.2 (λh=>by have:=(hDb j h).1;omega),hfr.2 j (by omega) (λhm=>hnd2.2.2 j hm j hj rfl)];exact hkp j hjl)
        (λj hj=>⟨λhm=>by
          have h1:=hIa j hj;rcases hIV2 j hm with h2|h2|h2
          ·exact h1.2.1 h2
          ·exact h1.2.2.1 h2
          ·omega,λhm=>by
          rcases(hdis j hj).1 with h1|h1
          ·exact hnd.2.2 j h1 j (by simp[hm]) rfl
          ·have:=hZ.lt j hm;omega⟩)
        (λj hj hm=>by
          have:=hZ.lt j hm;rcases hIV2 j hj with h2|h2|h2
          ·have:=(hDb j h2).1;omega
          ·exact hnd2.2.2 j h2 j hm rfl
          ·omega)) (λj hj=>by
        have hin:∀j∈I,j<X.length:=hV.lt;simp only[Ws] at hj;rcases hj with h1|h1|h1
        ·rcases(hdis j h1).1 with h2|h2
         ·exact .inl (by simp[h2])
         ·exact .inr λhm=>by have:=hin j hm;omega
        ·rcases hIV2 j h1 with h2|h2|h2
         ·exact .inr λhm=>by have:=hin j hm;have:=(hDb j h2).1;omega
         ·exact .inl (by simp[h2])
         ·exact .inr λhm=>by have:=hin j hm;omega
        ·exact .inl (by simp[h1]))
     rw[hst] at r1;have hxB:xw∉Ib:=λh=>by have:=(hDb xw h).1;omega
     have hfin:PuI c R w r n1 xw Hf (.sl gid 5 0 c.blocks.length) (mxT (λ_ x=>Fc R x) (BM R c.blocks) (b+1)):=H.upd (λj hj=>by
      rw[f3 j (by omega) (by omega) (λh=>by have:=(hDb j h).1;omega),hfr.2 j (by omega) (λhm=>by have:=hN.ge j hm;omega)];exact hkp j (by omega)) (by rw[f3 xw (by omega) (Ne.symm hgx) hxB,y1,hxx]) ⟨I',r1,λhm=>by
      rcases r2 xw hm with h1|h1
      ·exact hxI h1
      ·simp only[Ws] at h1;rcases h1 with h1|h1|h1
       ·rcases(hdis xw h1).1 with h2|h2
        ·exact hxI (e7 xw (by simp[h2])).1
        ·omega
       ·rcases hIV2 xw h1 with h2|h2|h2
        ·exact hxB h2
        ·exact hxI (e7 xw (by simp[h2])).1
        ·omega
       ·exact hxI (e7 xw (by simp[h1])).1⟩
     rw[ho1] at happ q0 q0e;simp[-elems,-tz,-AV.cells,-AV.isCell,iv,cI,q2,v1,v2,y2,e4e,hbr,q0,happ,g3,s5e,Yf];exact⟨⟨b+1,_⟩,⟨hcc,by rw[←hHf];exact hfin⟩,by simp only;omega,aa (We _) (by simp[below,hwb];omega)⟩
  ·have hbe:c.blocks.length<=b:=by omega
   have hcI:¬b<c.blocks.length:=hcc;rw[jn (by omega)] at H;rw[hB0] at hxx⊢;simp[hxx,hcI];rw[hB0] at H;exact⟨⟨0,X⟩,H,aa (We _) (by simp[below];omega)⟩
 clear hPu X1;rintro⟨_,X⟩ hPu;simp only at hPu;have hxx:=hPu.xx;have hx1:=hPu.x1;rw[QC] at hPu;obtain⟨I,hV,hxI⟩:=hPu.own;have hD:=AC.mkLend bC (hDrop.mono λr h ⟨vs,I,e,ho⟩=>⟨vs,I,e,ho.own,ho.nd⟩) (h:=X) (args:=[.agg [.p (.int .i64 c.params),.p (.int .i64 c.regs),B]]) (.agg (.one (.p _) (.one (.p _) (.one hV.view .nil))) .nil);obtain⟨b1,b2⟩:=hV.cell;have h1l:=(Wa.1 hx1).1;simp[-AV.cells,-AV.isCell,hxx];refine hD.mono ?_;rintro z X' ⟨vs,IA,os,rfl,rfl,hO,hnd,hge⟩;obtain⟨B',rfl,hB'⟩:=Ef hO;obtain⟨c1,c2⟩:=Su hB';have hx1':∀t,(X++t)[1]?=some (.row 3 [[.p (.int .i64 0),.p (.int .i64 0),.nils]]):=λt=>by rw[Wb h1l];exact hx1
 have hs1:∀t o,((X++t).set 1 o)[1]?=some o:=λt o=>Wh (by simp;omega);have hs1e:=λt o hh=>ag (hs1 t o) hh;have hx1e:=λt hh=>ag (hx1' t) hh;simp[-AV.cells,-AV.isCell,az,aO,c2,hx1',hs1];exact⟨_,IA,rfl,JG (c:=jh (iw R c) (oA (iw R c).blocks)) (hB'.frame λj hj=>Wd λe=>by have:=hge j hj;omega),hnd⟩
end
end Go.Proofs.YtigmcjbgnmpbeaaGreat
