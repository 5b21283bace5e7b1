/-
  Contracts and lemmas that the card needs, part 8.
-/
import Derived.Test.YtokiapglmedipaaGreatDoorRr7
namespace Go.Proofs.YtokiapglmedipaaGreatDoor
open Go Go.Aw
set_option maxRecDepth 100000
set_option maxHeartbeats 4000000
section
variable (G:am)
def PshF(s:Bool)(sz:Nat)(D:List (List PV))(h0:List AO)(a:PshS):Prop:=a.i<=D.length/\h0.length<=a.id/\h0.length<=a.h.length/\(∀j,j<h0.length->a.h[j]?=h0[j]?)/\∃rows J,RowOwn s a.h a.id sz rows (D.take a.i) J/\∀j∈J,h0.length<=j
theorem De{h h2:List AO}(hl:h.length<=h2.length)(hf:∀j,j<h.length->h2[j]?=h[j]?):h2=h++h2.drop h.length:=by
 have e:h2.take h.length=h:=by
  apply List.ext_getElem?
  intro j
  by_cases hj:j<h.length
  ·rw[List.getElem?_take_of_lt hj];exact hf j hj
  ·rw[ZC (by rw[Zl];omega),ZC (by omega)]
 have e2:=ZH h.length h2
 rw[e] at e2
 exact e2.symm
theorem PshF.init{s:Bool}{sz:Nat}{D:List (List PV)}(h0 os:List AO):PshF s sz D h0 ⟨0,h0.length,h0++ .row sz []::os⟩:=
 ⟨ZD _,YY _,by simp,λj hj=>YN hj,[],[],⟨by simp,rfl,λ_ h=>(by cases h),λ_ h=>(by cases h),.nil,by simp⟩,λj hj=>by cases hj⟩
theorem PshF.step{s:Bool}{sz i id:Nat}{D:List (List PV)}{h0 h:List AO}(H:PshF s sz D h0 ⟨i,id,h⟩){e:List PV}(hi:D[i]?=some e){h2:List AO}(hl:h.length<=h2.length)(hf:∀j,j<h.length->h2[j]?=h[j]?){r':List AV}{I2:List Nat}(ho:OwnL s h2 r' e I2)(nd2:I2.Nodup)(hn:∀j∈I2,h.length<=j)(he:e.length=sz):
 ∃rows,(∀os,(h2++os)[id]?=some (.row sz rows))/\rows.length=i/\i<D.length/\id<h2.length/\∀os1 os2,PshF s sz D h0 ⟨i+1,(h2++os1).length,(h2++os1).set id .dead++ .row sz (rows++[r'])::os2⟩:=by
 obtain⟨h1,h3,h4,h5,rows,J,hr,hJ⟩:=H
 have hil:i<D.length:=(YL.1 hi).1
 have hlen:=hr.len
 simp only at h1 h3 h4 h5 hlen hr
 rw[Zl,Nat.min_eq_left h1] at hlen
 have e2:=De hl hf
 have hid:=hr.lt
 have h2e:h2[id]?=some (.row sz rows):=by rw[hf id hid];exact hr.here
 refine⟨rows,λos=>by rw[YN (by omega)];exact h2e,hlen,hil,by omega,λos1 os2=>⟨hil,by simp only[YZ];omega,by simp;omega,λj hj=>?_,rows++[r'],J++I2,?_,λj hj=>?_⟩⟩
 ·simp only
  rw[YN (by simp only[Zq,YZ,Ze];omega),YM (by omega),YN (by omega),hf j (by omega)]
  exact h5 j hj
 ·have hp:=(hr.push (h2:=h2++os1) (os:=h2.drop h.length++os1) (by rw[←Zt,←e2]) (ho.more os1) nd2 hn he).more os2
  have hd:D.take i++[e]=D.take (i+1):=by rw[List.take_add_one,hi];rfl
  rw[hd,Zt] at hp
  exact hp
 ·rcases YV.1 hj with hj|hj
  ·exact hJ j hj
  ·have:=hn j hj;omega
theorem PshF.done{s:Bool}{sz i id:Nat}{D:List (List PV)}{h0 h:List AO}(H:PshF s sz D h0 ⟨i,id,h⟩)(hi:D.length<=i):h0.length<=h.length/\(∀j,j<h0.length->h[j]?=h0[j]?)/\∃I,OwnL s h [.sl id sz 0 i] [.lst sz D] I/\I.Nodup/\∀j∈I,h0.length<=j:=by
 obtain⟨h1,h3,h4,h5,rows,J,hr,hJ⟩:=H
 simp only at h1 h3 h4 h5 hr
 rw[YU hi] at hr
 exact⟨h4,h5,id::J,hr.tree (by omega),hr.nd,λj hj=>by
  rcases Za.1 hj with rfl|hj
  ·exact h3
  ·exact hJ j hj⟩
theorem HY{s:Bool}{n:Nat}{h1 os:List AO}{a b:List AV}{c d:List PV}{I1 I2:List Nat}(H1:OwnL s h1 a c I1)(n1:I1.Nodup)(f1:∀i∈I1,n<=i)(H2:OwnL s (h1++os) b d I2)(n2:I2.Nodup)(f2:∀i∈I2,h1.length<=i)(hn:n<=h1.length):
 OwnL s (h1++os) (a++b) (c++d) (I1++I2)/\(I1++I2).Nodup/\∀i∈I1++I2,n<=i:=by
 refine⟨(H1.more os).app H2,?_,λi hi=>?_⟩
 ·rw[List.nodup_append]
  refine⟨n1,n2,λa ha b hb e=>?_⟩
  have:=H1.lt ha;have:=f2 b hb;omega
 ·rcases YV.1 hi with hi|hi
  ·exact f1 i hi
  ·have:=f2 i hi;omega
theorem BL{α:Type}(l:List α)(a b:α):(l++[a]).set l.length b=l++[b]:=by
 rw[List.set_append_right _ _ (YY _),Nat.sub_self];rfl
theorem RA{h:List AO}{s:Sm}{A B E:AV}{I:List Nat}(H:OwnL true h ([A]++[B]++[E]) ([exL s.args]++[smL s.body]++[smL s.els]) I):OwnL true h [.p (.int .i64 s.op),.p (.str s.name),A,B,E] s.cs I:=by
 rw[s.cs_eq]
 exact .p _ (λ_=>rfl) (.p _ (λ_=>rfl) H)
theorem mr{s:Bool}{h:List AO}{v:AV}{q:PV}{I:List Nat}(H:OwnL s h [v] [q] I):(∃q',v= .p q')\/v= .nils\/∃a b n,v= .sl a b 0 n:=by
 cases H with
 |p q=>exact .inl ⟨_,rfl⟩
 |nils=>exact .inr (.inl rfl)
 |sl id sz n=>exact .inr (.inr ⟨_,_,_,rfl⟩)
theorem Re{s:Bool}{h:List AO}{e:Ex}{K:AV}{I:List Nat}(H:OwnL s h [K] [exL e.kids] I):OwnL s h [.p (.int .i64 e.op),.p (.int .i64 e.n),.p (.str e.name),K] e.cs I:=by
 rw[e.cs_eq]
 exact .p _ (λ_=>rfl) (.p _ (λ_=>rfl) (.p _ (λ_=>rfl) H))
theorem Pq:∀(N:Nat) (e:Ex),e.sz<=N->e.sz<=1073741824->AC Tryz.prog G kx [.agg (e.cs.map .p)] [] (MkW .agg true e.cs):=by
 intro N
 induction N with
 |zero=>intro e he;have:=e.sz_eq;omega
 |succ N ih=>
  intro e he hb
  have hsz:=e.sz_eq
  have hkl:=bB e.kids
  refine AC.go DN ?_
  have hec:=e.cs_eq
  have hsl:exL e.kids= .lst 4 (e.kids.map Ex.cs):=rfl
  simp-implicitDefEqProofs[ug,hec,hsl]
  obtain⟨hb0,ehb⟩:∃hb0:List AO,hb0=[.row 4 [[.p (.int .i64 e.op),.p (.int .i64 e.n),.p (.str e.name),.p (.lst 4 (e.kids.map Ex.cs))]],.row 4 [[.p (.int .i64 0),.p (.int .i64 0),.p (.str []),.nils]]]:=⟨_,rfl⟩
  have hini:PshF true 4 (e.kids.map Ex.cs) hb0 ⟨0,2,[.row 4 [[.p (.int .i64 e.op),.p (.int .i64 e.n),.p (.str e.name),.p (.lst 4 (e.kids.map Ex.cs))]],.row 4 [[.p (.int .i64 0),.p (.int .i64 0),.p (.str []),.nils]],.row 4 []]⟩:=by
   rw[ehb];exact PshF.init _ []
  refine aN (λa:PshS=>aj 25 [(4,.p (.int .i64 a.i)),(3,.sl a.id 4 0 a.i),(2,.ptr 1 4 0 0),(1,.ptr 0 4 0 0)]) (λa=>a.h) (PshF true 4 (e.kids.map Ex.cs) hb0) (λa=>e.kids.length-a.i) _ hini ?_ ?_
  ·exact bj (by simp) (by simp[below])
  rintro⟨i,id,h'⟩ hJ
  have hl0:hb0.length=2:=by rw[ehb];rfl
  have g0:h'[0]?=some (.row 4 [[.p (.int .i64 e.op),.p (.int .i64 e.n),.p (.str e.name),.p (.lst 4 (e.kids.map Ex.cs))]]):=by rw[hJ.2.2.2.1 0 (by omega),ehb];rfl
  have g1:h'[1]?=some (.row 4 [[.p (.int .i64 0),.p (.int .i64 0),.p (.str []),.nils]]):=by rw[hJ.2.2.2.1 1 (by omega),ehb];rfl
  have hl2:2<=h'.length:=by have:=hJ.2.2.1;simp only at this;omega
  simp-implicitDefEqProofs[g0]
  refine bi (λh1=>?_) (λh1=>?_)
  ·simp at h1
   have hg:=YO h1
   have hm:=bS (Zf h1)
   have hH:=ih e.kids[i] (by omega) (by omega)
   have hcs:=e.kids[i].cs_eq
   have hDa:(e.kids.map Ex.cs)[i]?=some e.kids[i].cs:=by rw[Zb,hg];rfl
   generalize e.kids[i]=k at hg hH hcs hDa
   have hA:=AC.mkLift Ff hH (h:=h') (by rw[hcs];simp)
   rw[hcs] at hA
   simp-implicitDefEqProofs[g0,hg,hcs]
   refine hA.mono ?_
   rintro r h2 ⟨vs,I2,os,rfl,e2,ho,nd,hf⟩
   rw[←hcs] at ho
   obtain⟨rows,k1,k2,k3,k4,k5⟩:=hJ.step hDa (h2:=h2) (by rw[e2];simp) (λx hx=>by rw[e2,YN hx]) ho nd hf k.cs_len
   obtain⟨K,rfl,hK⟩:=JO ho
   have hwi:=w1 (i:=i) (by omega)
   rcases mr hK with⟨q1,rfl⟩|rfl|⟨x1,x2,x3,rfl⟩
   ·have k6:=k5 [.row 4 [[.p (.int .i64 k.op),.p (.int .i64 k.n),.p (.str k.name),.p q1]]] []
    simp-implicitDefEqProofs[aa,k1,k2]
    rw[YU (l:=rows) (i:=i) (by omega)]
    refine⟨⟨by omega,by omega⟩,_,k6,by simp only;omega,bj (by simp) ?_⟩
    simp[below,hwi]
   ·have k6:=k5 [.row 4 [[.p (.int .i64 k.op),.p (.int .i64 k.n),.p (.str k.name),.nils]]] []
    simp-implicitDefEqProofs[aa,k1,k2]
    rw[YU (l:=rows) (i:=i) (by omega)]
    refine⟨⟨by omega,by omega⟩,_,k6,by simp only;omega,bj (by simp) ?_⟩
    simp[below,hwi]
   ·have k6:=k5 [.row 4 [[.p (.int .i64 k.op),.p (.int .i64 k.n),.p (.str k.name),.sl x1 x2 0 x3]]] []
    simp-implicitDefEqProofs[aa,k1,k2]
    rw[YU (l:=rows) (i:=i) (by omega)]
    refine⟨⟨by omega,by omega⟩,_,k6,by simp only;omega,bj (by simp) ?_⟩
    simp[below,hwi]
  ·simp at h1
   have hie:i=e.kids.length:=by have:=hJ.1;simp at this;omega
   obtain⟨d1,d2,I,ho,nd,hI⟩:=hJ.done (by simpa using h1)
   subst hie
   have hn0:0∉I:=λhm=>by have:=hI 0 hm;omega
   have hn1:1∉I:=λhm=>by have:=hI 1 hm;omega
   have s0:∀x,(h'.set 0 x)[0]?=some x:=λx=>YR (by omega)
   have s1:∀x,(h'.set 0 x)[1]?=some (.row 4 [[.p (.int .i64 0),.p (.int .i64 0),.p (.str []),.nils]]):=λx=>by rw[YM (by omega)];exact g1
   have s2:∀x y,((h'.set 0 x).set 1 y)[1]?=some y:=λx y=>YR (by rw[Zq];omega)
   simp-implicitDefEqProofs[g0,g1,s0,s1,s2]
   rw[←hsl,←hec]
   exact⟨_,I,rfl,Re ((ho.set_out hn0 _).set_out hn1 _),nd⟩
theorem EJ:∀(N:Nat) (l:List Sm),ay l<N->ay l<=1073741824->AC Tryz.prog G eB [.p (smL l)] [] (MkW dT true [smL l]):=by
 intro N
 induction N with
 |zero=>intro l he;omega
 |succ N ih=>
  intro l hN hz
  have hsl:∀l,smL l= .lst 5 (l.map Sm.cs):=λ_=>rfl
  have hll:=cC l
  refine AC.go BC ?_
  simp-implicitDefEqProofs[rt,hsl]
  refine aN (λa:PshS=>aj 52 [(4,.p (.int .i64 a.i)),(3,.sl a.id 5 0 a.i),(0,.p (smL l))]) (λa=>a.h) (PshF true 5 (l.map Sm.cs) []) (λa=>l.length-a.i) ⟨0,0,[.row 5 []]⟩ (PshF.init [] []) ?_ ?_
  ·exact bj (by simp) (by simp[below,hsl])
  rintro⟨i,id,hh⟩ hI
  simp-implicitDefEqProofs[hsl]
  refine bi (λh1=>?_) (λh1=>?_)
  ·simp at h1
   have hg:=YO h1
   have hm:=ew (Zf h1)
   have hcs:=l[i].cs_eq
   have hse:=l[i].sz_eq
   have hD:(l.map Sm.cs)[i]?=some l[i].cs:=by rw[Zb,hg];rfl
   generalize l[i]=s at hg hm hcs hse hD
   simp-implicitDefEqProofs[hg,hcs,BL]
   have hid:id<hh.length:=by obtain⟨_,_,_,_,_,_,hr,_⟩:=hI;exact hr.lt
   have hal:=bB s.args
   have hxl:exL s.args= .lst 4 (s.args.map Ex.cs):=rfl
   obtain⟨hb,ehb⟩:∃hb,hb=hh++[AO.row 5 [[.p (.int .i64 s.op),.p (.str s.name),.p (exL s.args),.p (smL s.body),.p (smL s.els)]]]:=⟨_,rfl⟩
   have hbl:hb.length=hh.length+1:=by rw[ehb];simp
   have hbx:hb[hh.length]?=some (.row 5 [[.p (.int .i64 s.op),.p (.str s.name),.p (exL s.args),.p (smL s.body),.p (smL s.els)]]):=by rw[ehb];simp
   have hini:PshF true 4 (s.args.map Ex.cs) hb ⟨0,hh.length+1,hh++[AO.row 5 [[.p (.int .i64 s.op),.p (.str s.name),.p (exL s.args),.p (smL s.body),.p (smL s.els)]],.row 4 []]⟩:=by
    have:=PshF.init (s:=true) (sz:=4) (D:=s.args.map Ex.cs) hb []
    rw[hbl,ehb,Zt] at this
    rw[ehb];exact this
   refine aN (λa:PshS=>aj 52 [(7,.p (.int .i64 a.i)),(6,.sl a.id 4 0 a.i),(5,.ptr hh.length 5 0 0),(4,.p (.int .i64 i)),(3,.sl id 5 0 i),(0,.p (smL l))]) (λa=>a.h) (PshF true 4 (s.args.map Ex.cs) hb) (λa=>s.args.length-a.i) _ hini ?_ ?_
   ·refine bj (by simp) ?_
    simp[below,hsl]
    omega
   rintro⟨j,id2,h'⟩ hJ
   have hjb:h'[hh.length]?=some (.row 5 [[.p (.int .i64 s.op),.p (.str s.name),.p (exL s.args),.p (smL s.body),.p (smL s.els)]]):=by
    rw[hJ.2.2.2.1 _ (by omega)];exact hbx
   have hlb:hh.length+1<=h'.length:=by have:=hJ.2.2.1;simp only at this;omega
   simp-implicitDefEqProofs[hjb,hxl]
   refine bi (λh2=>?_) (λh2=>?_)
   ·simp at h2
    have hga:=YO h2
    have hma:=bS (Zf h2)
    have hC:=Pq G _ s.args[j] (YY _) (by omega)
    have hka:=s.args[j].cs_eq
    have hDa:(s.args.map Ex.cs)[j]?=some s.args[j].cs:=by rw[Zb,hga];rfl
    generalize s.args[j]=e at hga hma hC hka hDa
    have hA:=AC.mkLift Ff hC (h:=h') (by rw[hka];simp)
    rw[hka] at hA
    simp-implicitDefEqProofs[hjb,hga,hka,hxl]
    refine hA.mono ?_
    rintro r h2 ⟨vs,I2,os,rfl,e2,ho,nd,hf⟩
    rw[←hka] at ho
    obtain⟨rows,k1,k2,k3,k4,k5⟩:=hJ.step hDa (h2:=h2) (by rw[e2];simp) (λx hx=>by rw[e2,YN hx]) ho nd hf e.cs_len
    obtain⟨K,rfl,hK⟩:=JO ho
    have hwj:=w1 (i:=j) (by omega)
    have hl2:h'.length<=h2.length:=by rw[e2];simp
    rcases mr hK with⟨q1,rfl⟩|rfl|⟨x1,x2,x3,rfl⟩
    ·have k6:=k5 [.row 4 [[.p (.int .i64 e.op),.p (.int .i64 e.n),.p (.str e.name),.p q1]]] []
     simp-implicitDefEqProofs[aa,k1,k2]
     rw[YU (l:=rows) (i:=j) (by omega)]
     refine⟨⟨by omega,by omega⟩,_,k6,by simp only;omega,bj (by simp) ?_⟩
     simp[below,hsl,hwj]
     omega
    ·have k6:=k5 [.row 4 [[.p (.int .i64 e.op),.p (.int .i64 e.n),.p (.str e.name),.nils]]] []
     simp-implicitDefEqProofs[aa,k1,k2]
     rw[YU (l:=rows) (i:=j) (by omega)]
     refine⟨⟨by omega,by omega⟩,_,k6,by simp only;omega,bj (by simp) ?_⟩
     simp[below,hsl,hwj]
     omega
    ·have k6:=k5 [.row 4 [[.p (.int .i64 e.op),.p (.int .i64 e.n),.p (.str e.name),.sl x1 x2 0 x3]]] []
     simp-implicitDefEqProofs[aa,k1,k2]
     rw[YU (l:=rows) (i:=j) (by omega)]
     refine⟨⟨by omega,by omega⟩,_,k6,by simp only;omega,bj (by simp) ?_⟩
     simp[below,hsl,hwj]
     omega
   ·simp at h2
    have hjl:j=s.args.length:=by have:=hJ.1;simp at this;omega
    obtain⟨d1,d2,IA,oA,nA,fA⟩:=hJ.done (by simpa using h2)
    subst hjl
    have hB:=ih s.body (by omega) (by omega)
    have hE:=ih s.els (by omega) (by omega)
    simp-implicitDefEqProofs[hjb]
    refine(AC.mkLift zg hB (h:=h') (by simp)).mono ?_
    rintro r h3 ⟨vB,IB,o1,rfl,e3,oB,nB,fB⟩
    obtain⟨B,rfl⟩:=iA oB
    have hjb3:h3[hh.length]?=some (.row 5 [[.p (.int .i64 s.op),.p (.str s.name),.p (exL s.args),.p (smL s.body),.p (smL s.els)]]):=by
     rw[e3,YN (by omega)];exact hjb
    simp-implicitDefEqProofs[aa,dT,hjb3]
    refine(AC.mkLift zg hE (h:=h3) (by simp)).mono ?_
    rintro r h4 ⟨vE,IE,o2,rfl,e4,oE,nE,fE⟩
    obtain⟨E,rfl⟩:=iA oE
    have hjb4:h4[hh.length]?=some (.row 5 [[.p (.int .i64 s.op),.p (.str s.name),.p (exL s.args),.p (smL s.body),.p (smL s.els)]]):=by
     have:hh.length<h3.length:=(YL.1 hjb3).1
     rw[e4,YN this];exact hjb3
    have cB:=mr oB
    have cE:=mr oE
    obtain⟨a1,a2,a3⟩:=HY oA nA fA (by rw[←e3];exact oB) nB fB d1
    rw[←e3] at a1
    obtain⟨b1,b2,b3⟩:=HY a1 a2 a3 (by rw[←e4];exact oE) nE fE (by rw[e3];simp;omega)
    rw[←e4] at b1
    have hS:=RA (s:=s) b1
    obtain⟨rows,k1,k2,k3,k4,k5⟩:=hI.step hD (h2:=h4) (by rw[e4,e3];simp;omega) (λx hx=>by
     rw[e4,YN (by rw[e3];simp;omega),e3,YN (by omega),d2 x (by omega),ehb,YN hx]) hS b2 (λx hx=>by have:=b3 x hx;omega) s.cs_len
    have k6:=k5 [.row 5 [[.p (.int .i64 s.op),.p (.str s.name),.sl id2 4 0 s.args.length,B,E]]] []
    have hwi:=w1 (i:=i) (by omega)
    rcases cB with⟨q1,rfl⟩|rfl|⟨x1,x2,x3,rfl⟩<;>rcases cE with⟨q2,rfl⟩|rfl|⟨y1,y2,y3,rfl⟩<;>
    ·simp-implicitDefEqProofs[aa,dT,hjb4,k1,k2]
     rw[YU (l:=rows) (i:=i) (by omega)]
     refine⟨⟨by omega,by omega⟩,_,k6,by simp only;omega,bj (by simp) ?_⟩
     simp[below,hsl,hwi]
  ·simp at h1
   obtain⟨_,_,I,ho,nd,_⟩:=hI.done (by simpa using h1)
   have hie:i=l.length:=by have:=hI.1;simp at this;omega
   subst hie
   simp-implicitDefEqProofs[]
   exact⟨_,I,rfl,ho,nd⟩
def cpK(a:PshS):AV:=if a.i=0 then .nils else .sl a.id 3 0 a.i
def CpI(l:List Fd)(a:PshS):Prop:=a.i<=l.length/\a.h[0]?=some (.row 1 [[.p (fdL l)]])/\a.h[1]?=some (.row 1 [[.nils]])/\a.h[2]?=some (.row 1 [[cpK a]])/\
 (0<a.i->3<=a.id/\∃rows J,RowOwn true a.h a.id 3 rows ((l.map Fd.cs).take a.i) J/\∀j∈J,3<=j)
theorem iD:∀l:List Fd,l.length<=aH l
 |[]=>YY _
 |f::r=>by
  have:=iD r
  have h1:aH (f::r)=f.sz+aH r:=by simp[aH]
  have h2:f.sz=1+f.name.length+(f.params.length+(f.params.map List.length).sum)+ay f.body:=rfl
  simp only[Ze];omega
theorem Ho{h:List AO}{id:Nat}{l:List (List UInt8)}(e:h[id]?=some (dt l)){n:Nat}(hn:n=l.length):OwnL true h [.sl id 1 0 n] [al l] [id]:=by
 have hr:RowOwn true h id 1 (l.map λw=>[AV.p (.str w)]) (l.map λw=>[PV.str w]) []:=by
  refine⟨e,by simp,λx hx=>by obtain⟨w,_,rfl⟩:=Zh.1 hx;rfl,λx hx=>by obtain⟨w,_,rfl⟩:=Zh.1 hx;rfl,?_,by simp⟩
  clear e hn
  induction l with
  |nil=>exact .nil
  |cons w r ih=>exact .p _ (λ_=>rfl) ih
 exact hr.tree (by simpa using hn)
theorem Np{h3:List AO}(hl:3<=h3.length){r:List AV}{f:Fd}{I2:List Nat}(ho:OwnL true h3 r f.cs I2)(nd:I2.Nodup)(hf:∀j∈I2,3<=j)(o x:AO):∃J,RowOwn true ((h3++[o,.row 3 [r]]).set 2 x) (h3.length+1) 3 [r] [f.cs] J/\∀j∈J,3<=j:=by
 have hr:r.length=3:=by rw[ho.len,Fd.cs_len]
 refine⟨I2,⟨?_,rfl,λe he=>by rw[YQ.1 he];exact hr,λe he=>by rw[YQ.1 he];exact Fd.cs_len f,?_,?_⟩,hf⟩
 ·rw[YM (by omega),YT (by omega),Zw];rfl
 ·have:=(ho.more [o,.row 3 [r]]).set_out (λhm=>by have:=hf 2 hm;omega:2∉I2) x
  simpa using this
 ·rw[ZN]
  exact⟨λhm=>by have:=ho.lt hm;omega,nd⟩
theorem RN{h h3:List AO}{id:Nat}{rows:List (List AV)}{D:List (List PV)}{J:List Nat}(H:RowOwn true h id 3 rows D J)(hJ:∀j∈J,3<=j)(hid:3<=id)(hh:3<=h.length)(e3:h3=h++h3.drop h.length){r:List AV}{f:Fd}{I2:List Nat}(ho:OwnL true h3 r f.cs I2)(nd:I2.Nodup)(hf:∀j∈I2,h.length<=j)(o x:AO):
 ∃J,RowOwn true (((h3++[o]).set id .dead++[AO.row 3 (rows++[r])]).set 2 x) (h3.length+1) 3 (rows++[r]) (D++[f.cs]) J/\∀j∈J,3<=j:=by
 have hp:=H.push (h2:=h3++[o]) (os:=h3.drop h.length++[o]) (by rw[←Zt,←e3]) (ho.more [o]) nd hf (Fd.cs_len f)
 have hl:(h3++[o]).length=h3.length+1:=by simp
 rw[hl] at hp
 have hl3:h.length<=h3.length:=by rw[e3];simp
 refine⟨J++I2,hp.frame λk hk=>?_,λj hj=>?_⟩
 ·have:3<=k:=by
   rcases Za.1 hk with rfl|hk
   ·omega
   ·rcases YV.1 hk with hk|hk
    ·exact hJ k hk
    ·have:=hf k hk;omega
  rw[YM (by omega)]
 ·rcases YV.1 hj with hj|hj
  ·exact hJ j hj
  ·have:=hf j hj;omega
theorem Ou(l:List Fd)(hz:aH l<=1073741824):AC Tryz.prog G oo [.agg [.p (fdL l)]] [] (MkW .agg true [fdL l]):=by
 have hfl:∀l,fdL l= .lst 3 (l.map Fd.cs):=λ_=>rfl
 have hll:l.length<=aH l:=iD l
 refine AC.go DQ ?_
 simp-implicitDefEqProofs[uf,hfl]
 refine aN (λa:PshS=>aj 35 [(4,.p (.int .i64 a.i)),(3,.ptr 2 1 0 0),(2,.ptr 1 1 0 0),(1,.ptr 0 1 0 0)]) (λa=>a.h) (CpI l) (λa=>l.length-a.i) ⟨0,0,[.row 1 [[.p (fdL l)]],.row 1 [[.nils]],.row 1 [[.nils]]]⟩ ⟨ZD _,rfl,rfl,rfl,λh=>by simp at h⟩ ?_ ?_
 ·exact bj (by simp) (by simp[below])
 rintro⟨i,id,h⟩ ⟨i1,i2,i3,i4,i5⟩
 simp only at i1 i2 i3 i4 i5
 have hl3:3<=h.length:=by have:=(YL.1 i4).1;omega
 have j2:∀os,(h++os)[0]?=some (.row 1 [[.p (fdL l)]]):=λos=>by rw[YN (by omega)];exact i2
 have j4:∀os,(h++os)[2]?=some (.row 1 [[cpK ⟨i,id,h⟩]]):=λos=>by rw[YN (by omega)];exact i4
 simp-implicitDefEqProofs[i2,hfl]
 refine bi (λh1=>?_) (λh1=>?_)
 ·simp at h1
  have hg:=YO h1
  have hm:=cG (Zf h1)
  have hD:(l.map Fd.cs)[i]?=some l[i].cs:=by rw[Zb,hg];rfl
  generalize l[i]=f at hg hm hD
  have hcs:f.cs=[.str f.name,al f.params,smL f.body]:=rfl
  have hsp:al f.params= .lst 1 (f.params.map λw=>[.str w]):=rfl
  have hfz:f.sz=1+f.name.length+(f.params.length+(f.params.map List.length).sum)+ay f.body:=rfl
  have hB:=EJ G _ f.body (Nat.lt_succ_self _) (by omega)
  by_cases hi0:i=0
  ·subst hi0
   have hk:cpK ⟨0,id,h⟩= .nils:=rfl
   rw[hk] at j4 i4
   have fin0:∀(h3:List AO) (r:List AV) (I2:List Nat) (l0:List (Nat × AV)),h.length+3<=h3.length->(∀j,j<h.length->h3[j]?=h[j]?)->OwnL true h3 r f.cs I2->I2.Nodup->(∀j∈I2,h.length<=j)->∀(o:AO) (hw:Aw.look l0 4= .p (.int .i64 (IntKind.i64.wrap 1))/\Aw.look l0 3= .ptr 2 1 0 0/\Aw.look l0 2= .ptr 1 1 0 0/\Aw.look l0 1= .ptr 0 1 0 0),
    ∃a',CpI l a'/\l.length-a'.i<l.length/\Wk 0 (aj 35 l0) ((h3++[o,.row 3 [r]]).set 2 (.row 1 [[.sl (h3.length+1) 3 0 1]])) (aj 35 [(4,.p (.int .i64 a'.i)),(3,.ptr 2 1 0 0),(2,.ptr 1 1 0 0),(1,.ptr 0 1 0 0)]) a'.h:=by
    intro h3 r I2 l0 hl4 hg3 oR nR fR o ⟨e4,e3,e2,e1⟩
    obtain⟨J,hJ,hJ3⟩:=Np (by omega) oR nR (λj hj=>by have:=fR j hj;omega) o (.row 1 [[.sl (h3.length+1) 3 0 1]])
    have hd:(l.map Fd.cs).take 1=[f.cs]:=by rw[List.take_add_one,hD];rfl
    refine⟨⟨1,h3.length+1,_⟩,⟨by simp only;omega,?_,?_,?_,λ_=>⟨by simp only;omega,_,J,by simp only[hd];exact hJ,hJ3⟩⟩,by simp only;omega,bj (by simp) ?_⟩
    ·rw[YM (by omega),YN (by omega),hg3 0 (by omega)];exact i2
    ·rw[YM (by omega),YN (by omega),hg3 1 (by omega)];exact i3
    ·rw[YR (by simp;omega)];rfl
    ·simp[e1,e2,e3,e4,below]
     exact⟨by have:=w1 (i:=0) (by omega);simpa using this,by omega⟩
   simp-implicitDefEqProofs[i2,hfl,hg,hcs,hsp,BL, ↓j2, ↓j4]
   refine⟨⟨by omega,by omega⟩,?_⟩
   refine(AC.mkLift zg hB (by simp)).mono ?_
   rintro r h3 ⟨vB,IB,o1,rfl,e3,oB,nB,fB⟩
   obtain⟨B,rfl⟩:=iA oB
   simp at fB
   have hg3:∀j,j<h.length->h3[j]?=h[j]?:=λj hj=>by rw[e3,Zt,YN hj]
   have p0:h3[h.length]?=some (.row 3 [[.p (.str f.name),.p (.lst 1 (f.params.map λw=>[.str w])),.p (smL f.body)]]):=by
    rw[e3,Zt,YT (YY _),Nat.sub_self];rfl
   have p2:h3[h.length+2]?=some (dt f.params):=by
    rw[e3,Zt,YT (by omega),Zw]
    simp[dt,Function.comp_def]
   have oP:=Ho p2 (n:=f.params.length) rfl
   have hl4:h.length+3<=h3.length:=by rw[e3];simp
   have q0:∀os,(h3++os)[2]?=some (.row 1 [[.nils]]):=λos=>by rw[YN (by omega),hg3 2 (by omega)];exact i4
   have q1:h3[2]?=some (.row 1 [[.nils]]):=by rw[hg3 2 (by omega)];exact i4
   have q2:∀os,(h3++os)[h.length]?=some (.row 3 [[.p (.str f.name),.p (.lst 1 (f.params.map λw=>[.str w])),.p (smL f.body)]]):=λos=>by rw[YN (by omega)];exact p0
   clear p2
   have hfR:∀j∈[h.length+2]++IB,h.length<=j:=λj hj=>by
    rcases YV.1 hj with hj|hj
    ·rw[YQ.1 hj];omega
    ·have:=fB j hj;omega
   have hnR:([h.length+2]++IB).Nodup:=ZN.2 ⟨λhm=>by have:=fB _ hm;omega,nB⟩
   rcases mr oB with⟨b1,rfl⟩|rfl|⟨x1,x2,x3,rfl⟩
   ·have oR:=vf (s:=true) (w:=f.name) oP oB
    simp-implicitDefEqProofs[aa,dT, ↓q1, ↓p0, ↓q0, ↓q2]
    exact fin0 h3 _ _ _ hl4 hg3 oR hnR hfR _ (by simp)
   ·have oR:=vf (s:=true) (w:=f.name) oP oB
    simp-implicitDefEqProofs[aa,dT, ↓q1, ↓p0, ↓q0, ↓q2]
    exact fin0 h3 _ _ _ hl4 hg3 oR hnR hfR _ (by simp)
   ·have oR:=vf (s:=true) (w:=f.name) oP oB
    simp-implicitDefEqProofs[aa,dT, ↓q1, ↓p0, ↓q0, ↓q2]
    exact fin0 h3 _ _ _ hl4 hg3 oR hnR hfR _ (by simp)
  ·have hk:cpK ⟨i,id,h⟩= .sl id 3 0 i:=if_neg hi0
   rw[hk] at j4 i4
   obtain⟨hid3,rows,J,hr,hJ3⟩:=i5 (by omega)
   have hrl:rows.length=i:=by have:=hr.len;rw[Zl,Zu] at this;omega
   have hidl:=hr.lt
   have fin0:∀(h3:List AO) (r:List AV) (I2:List Nat) (l0:List (Nat × AV)),h.length+3<=h3.length->(∀j,j<h.length->h3[j]?=h[j]?)->OwnL true h3 r f.cs I2->I2.Nodup->(∀j∈I2,h.length<=j)->∀(o:AO) (hw:Aw.look l0 4= .p (.int .i64 (IntKind.i64.wrap ((i:Int)+1)))/\Aw.look l0 3= .ptr 2 1 0 0/\Aw.look l0 2= .ptr 1 1 0 0/\Aw.look l0 1= .ptr 0 1 0 0),
    ∃a',CpI l a'/\l.length-a'.i<l.length-i/\Wk 0 (aj 35 l0) (((h3++[o]).set id .dead++[AO.row 3 (rows++[r])]).set 2 (.row 1 [[.sl (h3.length+1) 3 0 (i+1)]])) (aj 35 [(4,.p (.int .i64 a'.i)),(3,.ptr 2 1 0 0),(2,.ptr 1 1 0 0),(1,.ptr 0 1 0 0)]) a'.h:=by
    intro h3 r I2 l0 hl4 hg3 oR nR fR o ⟨e4,e3,e2,e1⟩
    obtain⟨J2,hJ,hJ4⟩:=RN hr hJ3 hid3 hl3 (De (by omega) hg3) oR nR fR o (.row 1 [[.sl (h3.length+1) 3 0 (i+1)]])
    have hd:(l.map Fd.cs).take i++[f.cs]=(l.map Fd.cs).take (i+1):=by rw[List.take_add_one,hD];rfl
    rw[hd] at hJ
    refine⟨⟨i+1,h3.length+1,_⟩,⟨by simp only;omega,?_,?_,?_,λ_=>⟨by simp only;omega,_,J2,hJ,hJ4⟩⟩,by simp only;omega,bj (by simp) ?_⟩
    ·rw[YM (by omega),YN (by simp only[Zq,YZ,Ze];omega),YM (by omega),YN (by omega),hg3 0 (by omega)];exact i2
    ·rw[YM (by omega),YN (by simp only[Zq,YZ,Ze];omega),YM (by omega),YN (by omega),hg3 1 (by omega)];exact i3
    ·rw[YR (by simp;omega),cpK,if_neg (show¬(i+1=0) by omega)]
    ·simp[e1,e2,e3,e4,below]
     exact⟨w1 (i:=i) (by omega),by omega⟩
   simp-implicitDefEqProofs[i2,hfl,hg,hcs,hsp,BL, ↓j2, ↓j4]
   refine⟨⟨by omega,by omega⟩,?_⟩
   refine(AC.mkLift zg hB (by simp)).mono ?_
   rintro r h3 ⟨vB,IB,o1,rfl,e3,oB,nB,fB⟩
   obtain⟨B,rfl⟩:=iA oB
   simp at fB
   have hg3:∀j,j<h.length->h3[j]?=h[j]?:=λj hj=>by rw[e3,Zt,YN hj]
   have p0:h3[h.length]?=some (.row 3 [[.p (.str f.name),.p (.lst 1 (f.params.map λw=>[.str w])),.p (smL f.body)]]):=by
    rw[e3,Zt,YT (YY _),Nat.sub_self];rfl
   have p2:h3[h.length+2]?=some (dt f.params):=by
    rw[e3,Zt,YT (by omega),Zw]
    simp[dt,Function.comp_def]
   have oP:=Ho p2 (n:=f.params.length) rfl
   have hl4:h.length+3<=h3.length:=by rw[e3];simp
   have q0:∀os,(h3++os)[2]?=some (.row 1 [[.sl id 3 0 i]]):=λos=>by rw[YN (by omega),hg3 2 (by omega)];exact i4
   have q1:h3[2]?=some (.row 1 [[.sl id 3 0 i]]):=by rw[hg3 2 (by omega)];exact i4
   have q2:∀os,(h3++os)[h.length]?=some (.row 3 [[.p (.str f.name),.p (.lst 1 (f.params.map λw=>[.str w])),.p (smL f.body)]]):=λos=>by rw[YN (by omega)];exact p0
   clear p2
   have q4:∀x o y,((h3++x).set id o++y)[2]?=some (.row 1 [[.sl id 3 0 i]]):=λx o y=>by
    rw[YN (by simp only[Zq,YZ];omega),YM (by omega),YN (by omega),hg3 2 (by omega)];exact i4
   have q3:∀os,(h3++os)[id]?=some (.row 3 rows):=λos=>by rw[YN (by omega),hg3 id hidl];exact hr.here
   have hfR:∀j∈[h.length+2]++IB,h.length<=j:=λj hj=>by
    rcases YV.1 hj with hj|hj
    ·rw[YQ.1 hj];omega
    ·have:=fB j hj;omega
   have hnR:([h.length+2]++IB).Nodup:=ZN.2 ⟨λhm=>by have:=fB _ hm;omega,nB⟩
   rcases mr oB with⟨b1,rfl⟩|rfl|⟨x1,x2,x3,rfl⟩
   ·have oR:=vf (s:=true) (w:=f.name) oP oB
    simp-implicitDefEqProofs[aa,dT, ↓q1, ↓p0, ↓q0, ↓q2, ↓q3, ↓q4,hrl]
    rw[YU (l:=rows) (i:=i) (by omega)]
    refine⟨⟨by omega,by omega⟩,?_⟩
    exact fin0 h3 _ _ _ hl4 hg3 oR hnR hfR _ (by simp)
   ·have oR:=vf (s:=true) (w:=f.name) oP oB
    simp-implicitDefEqProofs[aa,dT, ↓q1, ↓p0, ↓q0, ↓q2, ↓q3, ↓q4,hrl]
    rw[YU (l:=rows) (i:=i) (by omega)]
    refine⟨⟨by omega,by omega⟩,?_⟩
    exact fin0 h3 _ _ _ hl4 hg3 oR hnR hfR _ (by simp)
   ·have oR:=vf (s:=true) (w:=f.name) oP oB
    simp-implicitDefEqProofs[aa,dT, ↓q1, ↓p0, ↓q0, ↓q2, ↓q3, ↓q4,hrl]
    rw[YU (l:=rows) (i:=i) (by omega)]
    refine⟨⟨by omega,by omega⟩,?_⟩
    exact fin0 h3 _ _ _ hl4 hg3 oR hnR hfR _ (by simp)
 ·simp at h1
  have hie:i=l.length:=by omega
  subst hie
  have s1:∀x,(h.set 1 x)[1]?=some x:=λx=>YR (by omega)
  by_cases hi0:l.length=0
  ·have hk:cpK ⟨l.length,id,h⟩= .nils:=if_pos hi0
   rw[hk] at i4
   simp-implicitDefEqProofs[i4,i3,s1]
   obtain rfl:=ZE hi0
   exact⟨[.nils],[],rfl,.nils 3 .nil,by simp⟩
  ·have hk:cpK ⟨l.length,id,h⟩= .sl id 3 0 l.length:=if_neg hi0
   rw[hk] at i4
   obtain⟨hid3,rows,J,hr,hJ3⟩:=i5 (by omega)
   rw[YU (by simp)] at hr
   simp-implicitDefEqProofs[i4,i3,s1]
   have ho:=hr.tree (n:=l.length) (by simp)
   exact⟨[.sl id 3 0 l.length],id::J,rfl,ho.set_out (λhm=>by
    rcases Za.1 hm with hm|hm
    ·omega
    ·have:=hJ3 _ hm;omega) _,hr.nd⟩
end
section
variable (G:am)
theorem Ny{s:Bool}{b:List Int}{q:Nat}{T:List AO}{vs:List AV}{qs:List PV}{I:List Nat}(H:OwnL s (rdO b q::T) vs qs I)(hI:∀i∈I,1<=i)(o:AO):OwnL s (o::T) vs qs I:=
 H.frame λi hi=>by
  have:=hI i hi
  obtain⟨k,rfl⟩:∃k,i=k+1:=⟨i-1,by omega⟩
  rfl
theorem NG{b:List Int}{p q:Nat}{T:List AO}{v:AV}{l:List Fd}{I:List Nat}(H:OwnL true (rdO b q::T) [v] [fdL l] I)(hI:∀i∈I,1<=i)(hz:aH l<=900000000)(h1:p<=q)(h2:q<=p+400500000):DP b (PgQ p 900000000 400500000) (.ret (.agg [v])) (rdO b q::T):=
 ⟨_,T,q,.agg [.p (fdL l)],rfl,rfl,.agg (.one ((Ny H hI .dead).view 0 v _ rfl rfl) .nil) .nil,⟨l,rfl,hz⟩,h1,h2⟩
theorem Oh{l:List Sm}{k:Nat}{s0:Sm}(s:Sm)(h:l[k]?=some s0):ay (l.set k s)+s0.sz=ay l+s.sz:=by
 obtain⟨hk,h⟩:=YL.1 h
 subst h
 ·rw[gV s hk,bM]
  have e:l=l.take k++l.drop k:=(ZH _ _).symm
  have h1:ay l=ay (l.take k)+ay (l.drop k):=by rw[←bM,←e]
  have h4:ay (l.drop k)=l[k].sz+ay (l.drop (k+1)):=by rw[ZJ hk];rfl
  simp only[ay]
  omega
theorem NJ(l:List Ex)(k:Nat)(s:Ex):aY (l.set k s)<=aY l+s.sz:=by
 by_cases hk:k<l.length
 ·rw[gV s hk,gd]
  have e:l=l.take k++l.drop k:=(ZH _ _).symm
  have h1:aY l=aY (l.take k)+aY (l.drop k):=by rw[←gd,←e]
  have h4:aY (l.drop k)=l[k].sz+aY (l.drop (k+1)):=by rw[ZJ hk];rfl
  simp only[aY]
  omega
 ·rw[List.set_eq_of_length_le (by omega)];omega
theorem pm{α:Type}{l:List α}{k:Nat}{x:α}(h:l[k]?=some x):l.set k x=l:=by
 apply List.ext_getElem?
 intro i
 by_cases hi:k=i
 ·subst hi;rw[YR (YL.1 h).1,h]
 ·rw[YM hi]
theorem Hx{h:List AO}{id sz n m:Nat}{es:List (List PV)}(H:View h (.sl id sz 0 n) (.lst sz es))(hm:m<=es.length):View h (.sl id sz 0 m) (.lst sz (es.take m)):=by
 cases H with
 |sl _ _ _ rows _ e1 e2 e3 e4=>
  have hl:(es.take m).length=m:=by rw[Zl];omega
  have:=View.sl id sz 0 rows (es.take m) e1 (by omega) (λe he=>e3 e (ZG he)) (λi j e q e' a a1 a2 a3 a4=>by
   have hi:i<m:=by have:=(YL.1 a1).1;omega
   rw[List.getElem?_take_of_lt hi] at a1
   exact e4 i j e q e' a a1 a2 a3 a4)
  rwa[hl] at this
theorem OL{b:List Int}(hb:Byt b)(hl:b.length<=2000){p:Nat}(hp:p<=5000000000):AC Tryz.prog G oq [.ptr 0 2 0 0] [rdO b p] λx h=>∃v q,x= .ret v/\h=[rdO b q]/\PgQ p 900000000 400500000 v q:=by
 refine nr G (AC.go Dv ?_)
 have hprog:AC Tryz.prog G dM [.ptr 0 2 0 0] [rdO b p] λx h=>∃v q,x= .ret v/\h=[rdO b q]/\((∃l:List Fd,v= .agg [.p (fdL l)]/\bA l=true/\aH l<=200000000)/\p<=q/\q<=p+200000000):=
  (Jm G hb hl (by omega)).mono λx h ⟨l,q,e1,e2,e3,e4,e5,e6⟩=>⟨_,q,e1,e2,⟨l,rfl,e3,e4⟩,e5,e6⟩
 simp-implicitDefEqProofs[ux]
 refine(lL G hprog _ (by simp[below])).mono ?_
 rintro r h ⟨v,q,rfl,rfl,⟨l,rfl,hok,hz⟩,h1,h2⟩
 have hlen:=((fT l).1 hok).1
 have hfd:=((fT l).1 hok).2.1
 simp-implicitDefEqProofs[aa]
 refine(aW G b hb hl q (by omega) 5 _).mono ?_
 rintro r h ⟨k1,rfl,rfl,_⟩
 simp-implicitDefEqProofs[aa]
 refine bi (λhc=>?_) (λhc=>?_)
 ·simp-implicitDefEqProofs[]
  exact⟨_,_,q+1,.agg [.p (fdL l)],rfl,rfl,.keep (by simp) .nil,⟨l,rfl,by omega⟩,by omega,by omega⟩
 simp-implicitDefEqProofs[]
 refine(aW G b hb hl (q+1) (by omega) 6 _).mono ?_
 rintro r h ⟨k2,rfl,rfl,_⟩
 simp-implicitDefEqProofs[aa]
 refine bi (λhc2=>?_) (λhc2=>?_)
 ·simp-implicitDefEqProofs[]
  refine(lL G (PY G hb hl (p:=q+1+1) (by omega)) _ (by simp[below])).mono ?_
  rintro r h ⟨v,q2,rfl,rfl,⟨l2,rfl,hz2⟩,h3,h4⟩
  simp-implicitDefEqProofs[aa]
  exact⟨_,_,q2,.agg [.p (fdL l2)],rfl,rfl,.keep (by simp) .nil,⟨l2,rfl,by omega⟩,by omega,by omega⟩
 simp-implicitDefEqProofs[]
 refine(AC.mkLift Ff (Ou G l (by omega)) (by simp)).mono ?_
 rintro r h ⟨vs,I,os,rfl,rfl,ho,nd,hI⟩
 obtain⟨v,rfl⟩:=iA ho
 have hne:l.map Fd.cs≠[]:=by intro h;rw[List.map_eq_nil_iff] at h;rw[h] at hlen;simp at hlen
 simp at hI
 rcases ho.inv nd with⟨h0,_⟩|⟨h0,_⟩|⟨id,rowsF,JF,rfl,rfl,hF⟩
 ·exact absurd h0 hne
 ·cases h0
 have hid3:3<=id:=hI id (by simp)
 obtain⟨fF,rfl⟩:∃fF,id=fF+1:=⟨id-1,by omega⟩
 rw[Zu]
 simp-implicitDefEqProofs[aa]
 have hF2:∀q',RowOwn true (rdO b q':: .row 1 [[.nils]]:: .row 1 [[.sl (fF+1) 3 0 l.length]]::os) (fF+1) 3 rowsF (l.map Fd.cs) JF:=λq'=>hF.frame λi hi=>by
  have:=hI i (by simpa using hi)
  obtain⟨k,rfl⟩:∃k,i=k+3:=⟨i-3,by omega⟩
  rfl
 have hI3:∀j∈JF,3<=j:=λj hj=>hI j (by simp[hj])
 have hnF:=hF.nd
 clear hF ho
 obtain⟨T,hT⟩:∃T,T= .row 1 [[.nils]]:: .row 1 [[AV.sl (fF+1) 3 0 l.length]]::os:=⟨_,rfl⟩
 rw[←hT] at hF2⊢
 have t0:T[0]?=some (.row 1 [[.nils]]):=by rw[hT];rfl
 have t1:T[1]?=some (.row 1 [[.sl (fF+1) 3 0 l.length]]):=by rw[hT];rfl
 have tF:T[fF]?=some (.row 3 rowsF):=(hF2 0).here
 clear hT
 refine(aW G b hb hl (q+1+1) (by omega) l.length _).mono ?_
 rintro r h ⟨k,rfl,rfl,hk⟩
 have hkl:k<l.length:=by omega
 have hgk:=YO hkl
 have hfk:=hfd _ (Zf hkl)
 have hzk:=cG (Zf hkl)
 have hDk:(l.map Fd.cs)[k]?=some l[k].cs:=by rw[Zb,hgk];rfl
 generalize l[k]=f at hgk hfk hzk hDk
 obtain⟨rF,J1,Jk,J2,r1,rfl,r2,r5⟩:=(hF2 (q+1+1+1)).own.put (hF2 0).len (hF2 0).rl (hF2 0).dl hDk
 obtain⟨A,B,IA,IB,rfl,rfl,oA,oB⟩:=Ur r2
 have hltJ:∀j∈J1++(IA++IB++J2),j<T.length+1:=λj hj=>by have:=(hF2 0).own.lt hj;simpa using this
 have hnd:=hnF
 rw[ZN] at hnd
 have hn1:fF+1∉J1++(IA++IB++J2):=hnd.1
 have hn2:=hnd.2
 have hIB:∀j∈IB,3<=j:=λj hj=>hI3 j (by simp[hj])
 have nIB:IB.Nodup:=(List.nodup_append.1 (List.nodup_append.1 (List.nodup_append.1 hn2).2.1).1).2.1
 have hDl:(l.map Fd.cs).length=l.length:=by simp
 have finG:∀(U:List AO) (q':Nat) (B':AV) (I':List Nat) (sl':List Sm),(∀i,2<=i->i<T.length->i≠fF->i+1∉IB->U[i]?=T[i]?)->U[fF]?=some (.row 3 (rowsF.set k [.p (.str f.name),A,B']))->OwnL true (rdO b q'::U) [B'] [smL sl'] I'->(∀i∈I',1<=i)->
  ay sl'<=450000000->p<=q'->q'<=p+400500000->DP b (PgQ p 900000000 400500000) (.ret (.agg [.sl (fF+1) 3 0 l.length])) (rdO b q'::U):=by
  intro U q' B' I' sl' hU hUF oB' hI' hz' h3 h4
  have hfr:∀j∈J1++J2++IA,(rdO b q'::U)[j]?=(rdO b (q+1+1+1)::T)[j]?:=λj hj=>by
   have hjm:j∈J1++(IA++IB++J2):=by simp only[YV] at hj⊢;rcases hj with(hj|hj)|hj<;>simp[hj]
   have hj3:=hI3 j hjm
   have hjl:=hltJ j hjm
   obtain⟨i,rfl⟩:∃i,j=i+1:=⟨j-1,by omega⟩
   rw[Zd,Zd]
   refine hU i (by omega) (by omega) (λe=>hn1 (e▸hjm)) λhm=>?_
   simp only[List.nodup_append,YV] at hn2
   obtain⟨n1,⟨⟨n2,n3,n4⟩,n5,n6⟩,n7⟩:=hn2
   simp only[YV] at hj
   rcases hj with(hj|hj)|hj
   ·exact n7 _ hj _ (.inl (.inr hm)) rfl
   ·exact n6 _ (.inr hm) _ hj rfl
   ·exact n4 _ hj _ hm rfl
  have oR:=vf (s:=true) (w:=f.name) (oA.frame λi hi=>hfr i (by simp[hi])) oB'
  have oW:=r5 (rdO b q'::U) _ _ _ (λj hj=>hfr j (by simp only[YV] at hj⊢;exact .inl hj)) oR
  have hD':(l.map Fd.cs).set k (Fd.mk f.name f.params sl').cs=(l.set k ⟨f.name,f.params,sl'⟩).map Fd.cs:=by rw[List.map_set]
  have tree:=OwnL.sl (s:=true) (h:=rdO b q'::U) (fF+1) 3 l.length (rowsF.set k [.p (.str f.name),A,B']) ((l.map Fd.cs).set k (Fd.mk f.name f.params sl').cs) hUF (by simp) (by have:=(hF2 0).len;simpa using this) (λe he=>by
   rcases ZI he with h|rfl
   ·exact(hF2 0).rl e h
   ·rfl) (λe he=>by
   rcases ZI he with h|rfl
   ·exact(hF2 0).dl e h
   ·rfl) oW .nil
  rw[hD'] at tree
  have hsz:=GZ l k ⟨f.name,f.params,sl'⟩
  have hfz:f.sz=1+f.name.length+(f.params.length+(f.params.map List.length).sum)+ay f.body:=rfl
  have hfz':(Fd.mk f.name f.params sl').sz=1+f.name.length+(f.params.length+(f.params.map List.length).sum)+ay sl':=rfl
  refine NG (l:=l.set k ⟨f.name,f.params,sl'⟩) tree (λi hi=>?_) (by omega) h3 h4
  simp only[Za,YV,Zj,or_false] at hi
  rcases hi with rfl|hi|(hi|hi)|hi
  ·omega
  ·have:=hI3 i (by simp[hi]);omega
  ·have:=hI3 i (by simp[hi]);omega
  ·exact hI' i hi
  ·have:=hI3 i (by simp[hi]);omega
 have hset:rowsF.set k [.p (.str f.name),A,B]=rowsF:=by
  apply List.ext_getElem?
  intro i
  by_cases hi:k=i
  ·subst hi;rw[YR (YL.1 r1).1,r1]
  ·rw[YM hi]
 have hf2:2<=fF:=by omega
 have s0:∀x,(T.set 0 x)[0]?=some x:=λx=>YR (by have:=(YL.1 t0).1;omega)
 have hbz:f.sz=1+f.name.length+(f.params.length+(f.params.map List.length).sum)+ay f.body:=rfl
 simp-implicitDefEqProofs[aa,t0,t1,tF,r1,hkl]
 have fin0:∀q' x,p<=q'->q'<=p+400500000->DP b (PgQ p 900000000 400500000) (.ret (.agg [.sl (fF+1) 3 0 l.length])) (rdO b q'::T.set 0 x):=λq' x h3 h4=>
  finG (T.set 0 x) q' B IB f.body (λi h1 _ _ _=>YM (by omega)) (by rw[YM (by omega),hset];exact tF) (oB.frame λj hj=>by
   have:=hIB j hj
   obtain⟨i,rfl⟩:∃i,j=i+1:=⟨j-1,by omega⟩
   rw[Zd,Zd,YM (by omega)]) (λi hi=>by have:=hIB i hi;omega) (by omega) h3 h4
 rcases oB.inv nIB with⟨h0,_,rfl|rfl⟩|⟨h0,_⟩|⟨idB,rowsB,JB,rfl,rfl,hB⟩
 ·simp-implicitDefEqProofs[t0,t1,s0]
  exact fin0 _ _ (by omega) (by omega)
 ·simp-implicitDefEqProofs[t0,t1,s0]
  exact fin0 _ _ (by omega) (by omega)
 ·cases h0
 rw[Zu] at*
 by_cases hbe:f.body.length=0
 ·simp-implicitDefEqProofs[hbe,t0,t1,s0]
  have:=fin0 (q+1+1+1) (.row 1 [[.sl (fF+1) 3 0 l.length]]) (by omega) (by omega)
  exact this
 simp-implicitDefEqProofs[hbe,t0,t1,tF,r1]
 refine(aW G b hb hl (q+1+1+1) (by omega) f.body.length _).mono ?_
 rintro r h ⟨j,rfl,rfl,hj⟩
 have hjl:j<f.body.length:=by omega
 obtain⟨fB,rfl⟩:∃fB,idB=fB+1:=⟨idB-1,by have:=hIB idB (by simp);omega⟩
 have hB3:=hIB (fB+1) (by simp)
 have tB:T[fB]?=some (.row 5 rowsB):=hB.here
 have hgj:=YO hjl
 have hzj:=ew (Zf hjl)
 have hok5:az 4 f.body[j]=true:=by
  simp only[iO,YX] at hfk
  exact YW.1 hfk.2 _ (Zf hjl)
 have hDj:(f.body.map Sm.cs)[j]?=some f.body[j].cs:=by rw[Zb,hgj];rfl
 generalize f.body[j]=sm at hgj hzj hok5 hDj
 obtain⟨rB,K1,Kj,K2,u1,rfl,u2,u5⟩:=hB.own.put hB.len hB.rl hB.dl hDj
 obtain⟨A1,B1,E1,I1,I2,I3,rfl,rfl,oA1,oB1,oE1⟩:=Uu u2
 simp-implicitDefEqProofs[aa,hjl,t0,t1,tF,r1,tB,u1]
 refine(Is G hb hl (p:=q+1+1+1+1) (by omega) [[122,122],[97],[98],[99],[100]] (k:=T.length+1) (by simp) (by simp) (by omega) rfl (by simp[dt])).mono ?_
 rintro r h ⟨s,hs,rfl,rfl⟩
 have hs8:s.length<=8:=by simp at hs;rcases hs with rfl|rfl|rfl|rfl|rfl<;>simp
 have nB:=nIB
 rw[ZN] at nB
 have finS:∀(U:List AO) (q':Nat) (o':Int) (nm':List UInt8) (A':AV) (I':List Nat) (ar':List Ex),(∀i,2<=i->i<T.length->i≠fB->i+1∉I1->U[i]?=T[i]?)->U[fB]?=some (.row 5 (rowsB.set j [.p (.int .i64 o'),.p (.str nm'),A',B1,E1]))->OwnL true (rdO b q'::U) [A'] [exL ar'] I'->(∀i∈I',1<=i)->
  aY ar'+nm'.length<=aY sm.args+sm.name.length+1000->p<=q'->q'<=p+400500000->DP b (PgQ p 900000000 400500000) (.ret (.agg [.sl (fF+1) 3 0 l.length])) (rdO b q'::U):=by
  intro U q' o' nm' A' I' ar' hU hUB oA' hI' hz' h3 h4
  have hmem:∀x∈K1++K2++I2++I3,x∈K1++(I1++(I2++I3)++K2):=λx hx=>by
   simp only[YV] at hx⊢
   rcases hx with((hx|hx)|hx)|hx<;>simp[hx]
  have hltB:∀x∈K1++(I1++(I2++I3)++K2),x<T.length+1:=λx hx=>by have:=hB.own.lt hx;simpa using this
  have hfr:∀x∈K1++K2++I2++I3,(rdO b q'::U)[x]?=(rdO b (q+1+1+1)::T)[x]?:=λx hx=>by
   have hm:=hmem x hx
   have hx3:=hIB x (ZF _ hm)
   have hxl:=hltB x hm
   obtain⟨i,rfl⟩:∃i,x=i+1:=⟨x-1,by omega⟩
   rw[Zd,Zd]
   refine hU i (by omega) (by omega) (λe=>nB.1 (e▸hm)) λhm1=>?_
   have hn:=nB.2
   simp only[List.nodup_append,YV] at hn
   obtain⟨n1,⟨⟨n2,⟨n3,n3',n3''⟩,n4⟩,n5,n6⟩,n7⟩:=hn
   simp only[YV] at hx
   rcases hx with((hx|hx)|hx)|hx
   ·exact n7 _ hx _ (.inl (.inl hm1)) rfl
   ·exact n6 _ (.inl hm1) _ hx rfl
   ·exact n4 _ hm1 _ (.inl hx) rfl
   ·exact n4 _ hm1 _ (.inr hx) rfl
  have oS:=UG (s:=true) (o:=o') (w:=nm') oA' (oB1.frame λi hi=>hfr i (by simp[hi])) (oE1.frame λi hi=>hfr i (by simp[hi]))
  have oW:=u5 (rdO b q'::U) _ _ _ (λx hx=>hfr x (by simp only[YV] at hx⊢;exact .inl (.inl hx))) oS
  have hD':(f.body.map Sm.cs).set j (Sm.mk o' nm' ar' sm.body sm.els).cs=(f.body.set j ⟨o',nm',ar',sm.body,sm.els⟩).map Sm.cs:=by rw[List.map_set]
  have tree:=OwnL.sl (s:=true) (h:=rdO b q'::U) (fB+1) 5 f.body.length (rowsB.set j [.p (.int .i64 o'),.p (.str nm'),A',B1,E1]) ((f.body.map Sm.cs).set j (Sm.mk o' nm' ar' sm.body sm.els).cs) hUB (by simp) (by have:=hB.len;simpa using this) (λe he=>by
   rcases ZI he with h|rfl
   ·exact hB.rl e h
   ·rfl) (λe he=>by
   rcases ZI he with h|rfl
   ·exact hB.dl e h
   ·exact Sm.cs_len _) oW .nil
  rw[hD'] at tree
  have hsz:=Oh (s:=⟨o',nm',ar',sm.body,sm.els⟩) hgj
  have hsm:=sm.sz_eq
  have hsm':(Sm.mk o' nm' ar' sm.body sm.els).sz=1+nm'.length+aY ar'+ay sm.body+ay sm.els:=rfl
  have hFB:fF≠fB:=λe=>hn1 (by rw[e];simp)
  have hFI:fF+1∉I1:=λhm=>hn1 (by simp[hm])
  have hFT:fF<T.length:=(YL.1 tF).1
  refine finG U q' (.sl (fB+1) 5 0 f.body.length) _ (f.body.set j ⟨o',nm',ar',sm.body,sm.els⟩) (λi g1 g2 g3 g4=>hU i g1 g2 (λe=>g4 (by rw[e];simp)) λhm=>g4 (by simp[hm])) (by rw[hU fF hf2 hFT hFB hFI,hset];exact tF) tree (λi hi=>?_) (by omega) h3 h4
  simp only[Za,YV,Zj,or_false] at hi
  rcases hi with rfl|hi|(hi|hi|hi)|hi
  ·omega
  ·have:=hIB i (by simp[hi]);omega
  ·exact hI' i hi
  ·have:=hIB i (by simp[hi]);omega
  ·have:=hIB i (by simp[hi]);omega
  ·have:=hIB i (by simp[hi]);omega
 have hTl:2<=T.length:=by have:=(YL.1 t1).1;omega
 have hBT:fB<T.length:=(YL.1 tB).1
 have hI1:∀i∈I1,3<=i/\i<T.length+1:=λi hi=>⟨hIB i (by simp[hi]),by have:=oA1.lt hi;simpa using this⟩
 have oA1u:∀(U:List AO) (q':Nat),(∀i,2<=i->i<T.length->i+1∈I1->U[i]?=T[i]?)->OwnL true (rdO b q'::U) [A1] [exL sm.args] I1:=λU q' hU=>oA1.frame λx hx=>by
  obtain⟨h3,h4⟩:=hI1 x hx
  obtain⟨i,rfl⟩:∃i,x=i+1:=⟨x-1,by omega⟩
  rw[Zd,Zd]
  exact hU i (by omega) (by omega) hx
 have hsmz:=sm.sz_eq
 have finU:∀(U:List AO) (q':Nat),(∀i,2<=i->i<T.length->U[i]?=T[i]?)->p<=q'->q'<=p+400500000->DP b (PgQ p 900000000 400500000) (.ret (.agg [.sl (fF+1) 3 0 l.length])) (rdO b q'::U):=λU q' hU h3 h4=>
  finS U q' sm.op sm.name A1 I1 sm.args (λi a1 a2 _ _=>hU i a1 a2) (by rw[hU fB (by omega) hBT,pm u1];exact tB) (oA1u U q' λi a1 a2 _=>hU i a1 a2) (λi hi=>by have:=(hI1 i hi).1;omega) (by omega) h3 h4
 have a0:∀os,(T++os)[0]?=some (.row 1 [[.nils]]):=λos=>by rw[YN (YL.1 t0).1];exact t0
 have a1:∀os,(T++os)[1]?=some (.row 1 [[.sl (fF+1) 3 0 l.length]]):=λos=>by rw[YN (YL.1 t1).1];exact t1
 have aF:∀os,(T++os)[fF]?=some (.row 3 rowsF):=λos=>by rw[YN (YL.1 tF).1];exact tF
 have aB:∀os,(T++os)[fB]?=some (.row 5 (rowsB)):=λos=>by rw[YN (YL.1 tB).1];exact tB
 simp-implicitDefEqProofs[aa]
 refine(aW G b hb hl (q+1+1+1+1+1) (by omega) 4 _).mono ?_
 rintro r h ⟨k3,rfl,rfl,_⟩
 have nI1:I1.Nodup:=(List.nodup_append.1 (List.nodup_append.1 (List.nodup_append.1 nB.2).2.1).1).1
 have hargs:0<sm.args.length:=by
  simp only[az,gu,YX,decide_eq_true_eq] at hok5
  have:=hok5.1.1.1.1.1.1.1.1.2
  rw[this];unfold iI;split<;>omega
 have hA0:sm.args.map Ex.cs≠[]:=by intro h;rw[List.map_eq_nil_iff] at h;rw[h] at hargs;simp at hargs
 obtain⟨idA,rowsA,JA,rfl,rfl,hA⟩:∃id rows J,A1= .sl id 4 0 sm.args.length/\I1=id::J/\RowOwn true (rdO b (q+1+1+1)::T) id 4 rows (sm.args.map Ex.cs) J:=by
  rcases oA1.inv nI1 with⟨h0,_⟩|⟨h0,_⟩|⟨id,rows,J,e1,e2,e3⟩
  ·exact absurd h0 hA0
  ·cases h0
  ·rw[Zu] at e1;exact⟨id,rows,J,e1,e2,e3⟩
 obtain⟨fA,rfl⟩:∃fA,idA=fA+1:=⟨idA-1,by have:=(hI1 idA (by simp)).1;omega⟩
 have hA3:=hI1 (fA+1) (by simp)
 have tA:T[fA]?=some (.row 4 rowsA):=hA.here
 have aA:∀os,(T++os)[fA]?=some (.row 4 rowsA):=λos=>by rw[YN (by omega)];exact tA
 have hg0:=YO hargs
 have hz0:=bS (Zf hargs)
 have hD0:(sm.args.map Ex.cs)[0]?=some sm.args[0].cs:=by rw[Zb,hg0];rfl
 generalize sm.args[0]=e0 at hg0 hz0 hD0
 obtain⟨r0,L1,L0,L2,g1,rfl,g3,g5⟩:=hA.own.put hA.len hA.rl hA.dl hD0
 obtain⟨K0,rfl,_⟩:=JO g3
 have nA:=nI1
 rw[ZN] at nA
 have finA:∀(U:List AO) (q':Nat) (o n:Int) (w:List UInt8) (K:AV) (IK:List Nat) (ks:List Ex),(∀i,2<=i->i<T.length->i≠fA->U[i]?=T[i]?)->U[fA]?=some (.row 4 (rowsA.set 0 [.p (.int .i64 o),.p (.int .i64 n),.p (.str w),K]))->OwnL true (rdO b q'::U) [K] [exL ks] IK->(∀i∈IK,1<=i)->
  (Ex.mk o n w ks).sz<=500->p<=q'->q'<=p+400500000->DP b (PgQ p 900000000 400500000) (.ret (.agg [.sl (fF+1) 3 0 l.length])) (rdO b q'::U):=by
  intro U q' o n w K IK ks hU hUA oK hIK hz' h3 h4
  have hfr:∀x∈L1++L2,(rdO b q'::U)[x]?=(rdO b (q+1+1+1)::T)[x]?:=λx hx=>by
   have hm:x∈L1++(L0++L2):=by
    simp only[YV] at hx⊢
    rcases hx with hx|hx
    ·exact .inl hx
    ·exact .inr (.inr hx)
   obtain⟨hx3,hx4⟩:=hI1 x (ZF _ hm)
   obtain⟨i,rfl⟩:∃i,x=i+1:=⟨x-1,by omega⟩
   rw[Zd,Zd]
   exact hU i (by omega) (by omega) λe=>nA.1 (e▸hm)
  have oW:=g5 (rdO b q'::U) _ _ _ hfr (Nv (o:=o) (n:=n) (w:=w) oK)
  have hD':(sm.args.map Ex.cs).set 0 (Ex.mk o n w ks).cs=(sm.args.set 0 ⟨o,n,w,ks⟩).map Ex.cs:=by rw[List.map_set]
  have tree:=OwnL.sl (s:=true) (h:=rdO b q'::U) (fA+1) 4 sm.args.length (rowsA.set 0 [.p (.int .i64 o),.p (.int .i64 n),.p (.str w),K]) ((sm.args.map Ex.cs).set 0 (Ex.mk o n w ks).cs) hUA (by simp) (by have:=hA.len;simpa using this) (λe he=>by
   rcases ZI he with h|rfl
   ·exact hA.rl e h
   ·rfl) (λe he=>by
   rcases ZI he with h|rfl
   ·exact hA.dl e h
   ·exact Ex.cs_len _) oW .nil
  rw[hD'] at tree
  have hsz:=NJ sm.args 0 ⟨o,n,w,ks⟩
  have hBA:fB≠fA:=λe=>nB.1 (by rw[e];simp)
  refine finS U q' sm.op sm.name (.sl (fA+1) 4 0 sm.args.length) _ (sm.args.set 0 ⟨o,n,w,ks⟩) (λi g1 g2 _ g4=>hU i g1 g2 λe=>g4 (by rw[e];simp)) (by rw[hU fB (by omega) hBT hBA,pm u1];exact tB) tree (λi hi=>?_) (by omega) h3 h4
  simp only[Za,YV,Zj,or_false] at hi
  rcases hi with rfl|hi|hi|hi
  ·omega
  ·have:=(hI1 i (by simp[hi])).1;omega
  ·exact hIK i hi
  ·have:=(hI1 i (by simp[hi])).1;omega
 have w0:∀os x,((T++os).set 0 x)[0]?=some x:=λos x=>YR (by simp only[YZ];omega)
 have v0:∀os x,((T++os).set fA x)[0]?=some (.row 1 [[.nils]]):=λos x=>by rw[YM (by omega)];exact a0 os
 have v1:∀os x,((T++os).set fA x)[1]?=some (.row 1 [[.sl (fF+1) 3 0 l.length]]):=λos x=>by rw[YM (by omega)];exact a1 os
 have v2:∀os x y,(((T++os).set fA x).set 0 y)[0]?=some y:=λos x y=>YR (by simp only[Zq,YZ];omega)
 have hv:∀os x y (i:Nat),2<=i->i<T.length->i≠fA->(((T++os).set fA x).set 0 y)[i]?=T[i]?:=λos x y i h1 h2 h3=>by
  rw[YM (by omega),YM (by omega),YN h2]
 have aE:∀x y os,(T++x::y::os)[T.length+1]?=some y:=λx y os=>by rw[YT (by omega),Zw];rfl
 have aE2:∀x y z os,(T++x::y::os).set (T.length+1) z=T++x::z::os:=λx y z os=>by rw[List.set_append_right _ _ (by omega),Zw];rfl
 by_cases c1:k3=1
 ·subst c1
  simp-implicitDefEqProofs[aa, ↓a0, ↓a1, ↓aF, ↓aB,u1,hjl]
  refine bi (λhn=>?_) (λhn=>?_)
  ·simp-implicitDefEqProofs[]
   refine(Is G hb hl (p:=q+1+1+1+1+1+1) (by omega) [[97],[98],[122,122],[99],[100]] (k:=T.length+2+1) (by simp) (by simp) (by omega) rfl (by simp[dt])).mono ?_
   rintro r h ⟨s2,hs2,rfl,rfl⟩
   have hs28:s2.length<=8:=by simp at hs2;rcases hs2 with rfl|rfl|rfl|rfl|rfl<;>simp
   have v0:∀os x,((T++os).set fB x)[0]?=some (.row 1 [[.nils]]):=λos x=>by rw[YM (by omega)];exact a0 os
   have v1:∀os x,((T++os).set fB x)[1]?=some (.row 1 [[.sl (fF+1) 3 0 l.length]]):=λos x=>by rw[YM (by omega)];exact a1 os
   have v2:∀os x y,(((T++os).set fB x).set 0 y)[0]?=some y:=λos x y=>YR (by simp only[Zq,YZ];omega)
   simp-implicitDefEqProofs[aa, ↓a0, ↓a1, ↓aF, ↓aB,u1,hjl, ↓v0, ↓v1, ↓v2,-getElem?_pos,ZK,Zd]
   have hv:∀os x y (i:Nat),2<=i->i<T.length->i≠fB->(((T++os).set fB x).set 0 y)[i]?=T[i]?:=λos x y i h1 h2 h3=>by
    rw[YM (by omega),YM (by omega),YN h2]
   refine finS _ _ sm.op s2 (.sl (fA+1) 4 0 sm.args.length) _ sm.args ?_ ?_ (oA1u _ _ ?_) (λi hi=>by have:=(hI1 i hi).1;omega) (by omega) (by omega) (by omega)
   ·intro i h1 h2 h3 _;exact hv _ _ _ i h1 h2 h3
   ·rw[YM (by omega),YR (by simp only[YZ];omega)]
   ·intro i h1 h2 h3
    exact hv _ _ _ i h1 h2 (λe=>nB.1 (by rw[←e];simp only[YV];exact .inr (.inl (.inl h3))))
  ·simp-implicitDefEqProofs[↓a0, ↓a1, ↓w0,-getElem?_pos,ZK,Zd]
   refine finU _ _ ?_ (by omega) (by omega)
   intro i h1 h2
   rw[YM (by omega),YN h2]
 by_cases c2:k3=2
 ·subst c2
  have hw:∀(q':Nat) (os:List AO),OwnL true (rdO b q'::(T++os)) [.sl (fB+1) 5 0 f.body.length] [smL f.body] ((fB+1)::(K1++(((fA+1)::(L1++(L0++L2)))++(I2++I3)++K2))):=λq' os=>oB.frame λx hx=>by
   have h3:=hIB x hx
   have h4:x<T.length+1:=by have:=oB.lt hx;simpa using this
   obtain⟨i,rfl⟩:∃i,x=i+1:=⟨x-1,by omega⟩
   rw[Zd,Zd,YN (by omega)]
  have hv1:∀(q':Nat) (os:List AO),View (rdO b q'::(T++os)) (.sl (fB+1) 5 0 1) (smL (f.body.take 1)):=λq' os=>by
   have:=Hx (m:=1) ((hw q' os).view 0 _ _ rfl rfl) (by simp;omega)
   rw[←List.map_take] at this
   exact this
  have hz1:ay (f.body.take 1)<=ay f.body:=by
   have e:f.body=f.body.take 1++f.body.drop 1:=(ZH _ _).symm
   have:ay f.body=ay (f.body.take 1)+ay (f.body.drop 1):=by rw[←bM,←e]
   omega
  have hS:=EJ G _ (f.body.take 1) (Nat.lt_succ_self _) (by omega)
  simp-implicitDefEqProofs[aa, ↓a0, ↓a1, ↓aF, ↓aB,r1,hkl]
  refine⟨by omega,?_⟩
  refine(AC.mkLend zg hS (.one (hv1 _ _) .nil)).mono ?_
  rintro r h ⟨vs,IN,os2,rfl,rfl,oN,nN,hN⟩
  obtain⟨vN,rfl⟩:=iA oN
  have hl1:(f.body.take 1).length=1:=by rw[Zl];omega
  have hneN:(f.body.take 1).map Sm.cs≠[]:=by intro h;rw[List.map_eq_nil_iff] at h;rw[h] at hl1;simp at hl1
  obtain⟨idN,rowsN,JN,rfl,rfl,hRN⟩:∃id rows J,vN= .sl id 5 0 1/\IN=id::J/\RowOwn true _ id 5 rows ((f.body.take 1).map Sm.cs) J:=by
   rcases oN.inv nN with⟨h0,_⟩|⟨h0,_⟩|⟨id,rows,J,e1,e2,e3⟩
   ·exact absurd h0 hneN
   ·cases h0
   ·rw[Zu,hl1] at e1;exact⟨id,rows,J,e1,e2,e3⟩
  have hidN:=hN idN (by simp)
  simp at hidN
  obtain⟨fN,rfl⟩:∃fN,idN=fN+1:=⟨idN-1,by omega⟩
  have hFT:fF<T.length:=(YL.1 tF).1
  have tN:=hRN.here
  simp only[Zx,Zt,Zd,List.nil_append] at tN
  have hrN:rowsN.length=1:=by have:=hRN.len;rw[Zu,hl1] at this;exact this
  have hrB:rowsB.length=f.body.length:=by have:=hB.len;simpa using this
  have z1:∀os o y,((T++os).set fB o++y)[fF]?=some (.row 3 rowsF):=λos o y=>by
   rw[YN (by simp only[Zq,YZ];omega),YM (λe=>hn1 (by rw[←e];simp))];exact aF os
  have z2:∀os o y x,(((T++os).set fB o++y).set fF x)[0]?=some (.row 1 [[.nils]]):=λos o y x=>by
   rw[YM (by omega),YN (by simp only[Zq,YZ];omega),YM (by omega)];exact a0 os
  have z3:∀os o y x,(((T++os).set fB o++y).set fF x)[1]?=some (.row 1 [[.sl (fF+1) 3 0 l.length]]):=λos o y x=>by
   rw[YM (by omega),YN (by simp only[Zq,YZ];omega),YM (by omega)];exact a1 os
  have z4:∀os o y x w,((((T++os).set fB o++y).set fF x).set 0 w)[0]?=some w:=λos o y x w=>YR (by simp only[Zq,YZ];omega)
  simp-implicitDefEqProofs[aa,dT, ↓a0, ↓a1, ↓aF, ↓aB, ↓tN, ↓z1, ↓z2, ↓z3, ↓z4,r1,hkl,hrN,hrB,-getElem?_pos,ZK,Zd]
  rw[YU (l:=rowsB) (by omega),YU (l:=rowsN) (by omega)]
  have hbl:=cC f.body
  refine⟨⟨by omega,by omega⟩,?_⟩
  have hJB:∀x∈K1++(((fA+1)::(L1++(L0++L2)))++(I2++I3)++K2),3<=x/\x<T.length+1/\x≠fF+1/\x≠fB+1:=λx hx=>⟨hIB x (ZF _ hx),by have:=hB.own.lt hx;simpa using this,λe=>hn1 (by rw[←e];simp only[YV];exact .inr (.inl (.inr (ZF _ hx)))),λe=>nB.1 (e▸hx)⟩
  have hJN:∀x∈JN,T.length+3<=x/\x<T.length+3+os2.length:=λx hx=>⟨by have:=hN x (by simp[hx]);simp at this;omega,by have:=hRN.own.lt hx;simp at this;omega⟩
  have nle:∀(W:List AO) (fo bo:AO) (x y:AO),∀i,2<=i->i<T.length->i≠fF->i≠fB->(((((T++W).set fB bo)++[y]).set fF fo).set 0 x)[i]?=T[i]?:=λW fo bo x y i h1 h2 h3 h4=>by
   rw[YM (by omega),YM (by omega),YN (by simp only[Zq,YZ];omega),YM (by omega),YN h2]
  have nri:∀(W:List AO) (fo bo:AO) (x y:AO),∀i,T.length<=i->i<(T++W).length->(((((T++W).set fB bo)++[y]).set fF fo).set 0 x)[i]?=(T++W)[i]?:=λW fo bo x y i h1 h2=>by
   rw[YM (by omega),YM (by omega),YN (by simpa using h2),YM (by omega)]
  have hbl2:=cC f.body
  have hzN:ay (f.body++f.body.take 1)<=400000000:=by rw[bM];omega
  refine finG _ _ (.sl (T.length+(os2.length+1+1)+1) 5 0 (f.body.length+1)) ((T.length+(os2.length+1+1)+1)::((K1++(((fA+1)::(L1++(L0++L2)))++(I2++I3)++K2))++JN++[])) (f.body++f.body.take 1) (λi g1 g2 g3 g4=>nle _ _ _ _ _ i g1 g2 g3 (λe=>g4 (by rw[e];simp))) ?_ ?_ ?_ (by omega) (by omega) (by omega)
  ·rw[YM (by omega),YR (by simp only[Zq,YZ];omega)]
  ·refine OwnL.sl _ 5 (f.body.length+1) (rowsB++rowsN) ((f.body++f.body.take 1).map Sm.cs) ?_ (by rw[Zu,YZ,hl1]) (by rw[YZ,Zu,YZ,hl1,hrB,hrN]) (λe he=>?_) (λe he=>by obtain⟨x,_,rfl⟩:=Zh.1 he;simp) ?_ .nil
   ·rw[Zd,YM (by omega),YM (by omega),YT (by simp)]
    simp
   ·rcases YV.1 he with h|h
    ·exact hB.rl e h
    ·exact hRN.rl e h
   ·rw[List.map_append,List.flatten_append,List.flatten_append]
    refine(hB.own.frame λx hx=>?_).app (hRN.own.frame λx hx=>?_)
    ·obtain⟨x1,x2,x3,x4⟩:=hJB x hx
     obtain⟨i,rfl⟩:∃i,x=i+1:=⟨x-1,by omega⟩
     rw[Zd,Zd]
     exact nle _ _ _ _ _ i (by omega) (by omega) (by omega) (by omega)
    ·obtain⟨x1,x2⟩:=hJN x hx
     obtain⟨i,rfl⟩:∃i,x=i+1:=⟨x-1,by omega⟩
     simp only[Zx,Zt,Zd,List.nil_append]
     exact nri _ _ _ _ _ i (by omega) (by simp;omega)
  ·intro i hi
   simp only[Za,YV,Zj,or_false] at hi
   rcases hi with rfl|hi|hi
   ·omega
   ·have:=(hJB i (by simp only[Za,YV];exact hi)).1;omega
   ·have:=(hJN i hi).1;omega
 by_cases c0:k3=0
 ·subst c0
  simp-implicitDefEqProofs[aa]
  refine(Is G hb hl (p:=q+1+1+1+1+1+1) (by omega) [[102],[103],[109],[113]] (k:=T.length+2+1) (by simp) (by simp) (by omega) rfl (by simp[dt])).mono ?_
  rintro r h ⟨s2,hs2,rfl,rfl⟩
  have hs28:s2.length<=8:=by simp at hs2;rcases hs2 with rfl|rfl|rfl|rfl<;>simp
  simp-implicitDefEqProofs[aa, ↓a0, ↓a1, ↓aB,u1,hjl, ↓aE, ↓aE2,-getElem?_pos,ZK,Zd]
  refine bi (λhn=>?_) (λhn=>?_)
  ·simp-implicitDefEqProofs[↓a0, ↓a1, ↓aB, ↓aA,u1,hjl,g1,hargs, ↓v0, ↓v1, ↓v2, ↓aE,-getElem?_pos,ZK,Zd]
   refine finA _ _ 13 0 s2 (.sl (T.length+3+1) 4 0 1) [T.length+3+1] [⟨1,1,[],[]⟩] (λi h1 h2 h3=>hv _ _ _ i h1 h2 h3) ?_ ?_ (by simp) (by simp[Ex.sz,aY];omega) (by omega) (by omega)
   ·rw[YM (by omega),YR (by simp only[YZ];omega)]
   ·refine RowOwn.tree (rows:=[[.p (.int .i64 1),.p (.int .i64 1),.p (.str []),.nils]]) (J:=[]) ⟨?_,rfl,by simp,by simp,?_,by simp⟩ rfl
    ·rw[Zd,YM (by omega),YM (by omega),YT (by omega),Zw];rfl
    ·simpa using Nv (s:=true) (o:=1) (n:=1) (w:=[]) (k:=[]) (.nils 4 .nil)
  ·simp-implicitDefEqProofs[↓a0, ↓a1, ↓w0,-getElem?_pos,ZK,Zd]
   refine finU _ _ ?_ (by omega) (by omega)
   intro i h1 h2
   rw[YM (by omega),YN h2]
 have d1:¬(k3:Int)=1:=by omega
 have d2:¬(k3:Int)=2:=by omega
 simp-implicitDefEqProofs[aa,c0,d1,d2, ↓a0, ↓a1, ↓aF, ↓aB,u1,hjl]
 refine bi (λhn=>?_) (λhn=>?_)
 ·simp-implicitDefEqProofs[↓a0, ↓a1, ↓aB, ↓aA,u1,hjl,g1,hargs, ↓v0, ↓v1, ↓v2, ↓aE,-getElem?_pos,ZK,Zd]
  refine finA _ _ 2 0 s .nils [] [] (λi h1 h2 h3=>hv _ _ _ i h1 h2 h3) ?_ (.nils 4 .nil) (by simp) (by simp[Ex.sz,aY];omega) (by omega) (by omega)
  rw[YM (by omega),YR (by simp only[YZ];omega)]
 ·simp-implicitDefEqProofs[↓a0, ↓a1, ↓w0,-getElem?_pos,ZK,Zd]
  refine finU _ _ ?_ (by omega) (by omega)
  intro i h1 h2
  rw[YM (by omega),YN h2]
end
section
variable (G:am)
theorem Cu{R cid sid:Nat}{l:List Fd}{s:S5}{e c:Int}{o:Bool}{h:List AO}(H:h[R]?=some (aQ l sid cid s e o)):
 AC Tryz.prog G cJ [.ptr R 7 0 0,.p (.int .i64 c)] h λx h'=>x= .ret (.tup [])/\h'=h.set R (aQ l sid cid s (if o then e else c) true):=by
 have s0:∀z,(h.set R z)[R]?=some z:=λz=>YR (YL.1 H).1
 refine AC.go yQ ?_
 cases o with
 |true=>
  simp-implicitDefEqProofs[jw,H,aQ]
  exact(pm (by rw[H];rfl)).symm
 |false=>simp-implicitDefEqProofs[jw,H,aQ,s0]
theorem Od{R cid sid:Nat}{l:List Fd}{s:S5}{h:List AO}(H:h[R]?=some (aQ l sid cid s 0 false))(hs:s.left<=1000000):
 AC Tryz.prog G fP [.ptr R 7 0 0] h λx h'=>x= .ret (.tup [])/\h'=h.set R (if s.left=0 then aQ l sid cid s 3 true else aQ l sid cid (s.at_ (s.left-1)) 0 false):=by
 refine AC.go vI ?_
 by_cases h0:s.left=0
 ·simp-implicitDefEqProofs[jj,H,aQ,h0]
  refine(Cu G H).mono ?_
  rintro r h1 ⟨rfl,rfl⟩
  simp-implicitDefEqProofs[aa,aQ,h0]
 ·have h1:IntKind.i64.wrap ((s.left:Int)-1)=((s.left-1:Nat):Int):=by rw[ab (by omega) (by omega)];omega
  simp-implicitDefEqProofs[jj,H,aQ,h0,h1,S5.at_]
theorem Hh(a:Sc5)(x:List UInt8 × Int)(s:List UInt8):dB (a++[x]) s=if x.1=s then some a.length else dB a s:=by
 rw[pI]
 by_cases h:x.1=s
 ·simp[dB,h]
 ·simp[dB,h]
theorem KE(w:Sc5)(s:List UInt8)(hl:w.length<=1000000000000):VF Tryz.prog G mj [.p (al (w.map (·.1))),.p (.str s)] (.p (.int .i64 (ixI (dB w s)))):=by
 have hsl:al (w.map (·.1))= .lst 1 (w.map λx=>[.str x.1]):=by simp[al,Function.comp_def]
 refine AC.go FP ?_
 have hw:∀n:Nat,n<=1000000000000->IntKind.i64.wrap ((n:Int)-1)=(n:Int)-1:=λn hn=>ab (by omega) (by omega)
 simp-implicitDefEqProofs[vr,hsl,hw _ hl]
 refine aN (λn:Nat=>aj 20 [(5,.p (.int .i64 ((n:Int)-1))),(1,.p (.str s)),(0,.p (.lst 1 (w.map λx=>[.str x.1])))]) (λ_=>[]) (λn=>n<=w.length/\dB w s=dB (w.take n) s) (λn=>n) w.length ⟨YY _,by rw[ZM]⟩ ?_ ?_
 ·exact bJ rfl (by simp[below])
 rintro n ⟨hn,hi⟩
 simp-implicitDefEqProofs[]
 refine bi (λh1=>?_) (λh1=>?_)
 ·simp at h1
  obtain⟨m,rfl⟩:∃m,n=m+1:=⟨n-1,by omega⟩
  have hg:=YO (show m<w.length by omega)
  have ht:w.take (m+1)=w.take m++[w[m]]:=an (by omega)
  have hnn:((m+1:Nat):Int)-1=(m:Int):=by omega
  rw[ht,Hh,Zl,Nat.min_eq_left (by omega)] at hi
  generalize w[m]=x at hg hi
  simp-implicitDefEqProofs[hnn,hg]
  by_cases hx:x.1=s
  ·rw[if_pos hx] at hi
   simp-implicitDefEqProofs[hx,hi,ixI]
  ·rw[if_neg hx] at hi
   simp-implicitDefEqProofs[hx,hw m (by omega)]
   exact⟨m,⟨by omega,hi⟩,by omega,bJ rfl (by simp[below])⟩
 ·simp at h1
  have:n=0:=by omega
  subst this
  simp-implicitDefEqProofs[hi,dB,ixI]
theorem Bl{R:Nat}{cid sid:Nat}{l:List Fd}{s:S5}{c:Int}{h:List AO}(H:h[R]?=some (aQ l sid cid s c true))(e:Ex)(v:AV):
 AC Tryz.prog G bp [.ptr R 7 0 0,.agg (e.cs.map .p),v] h λx h'=>x= .ret (.p (.int .i64 0))/\∃os,h'=h++os:=by
 have hec:=e.cs_eq
 have a0:∀os,(h++os)[R]?=some (aQ l sid cid s c true):=λos=>by rw[YN (YL.1 H).1];exact H
 refine AC.go jv ?_
 simp-implicitDefEqProofs[aG,hec, ↓a0,aQ]
end
section
def Cok(l:List Fd)(k:Nat)(x:Ex):Prop:=∃j f,cg l x.name=some j/\j<k/\l[j]?=some f/\f.params.length=x.kids.length
mutual
theorem Ph{fns:List Fd}{k:Nat}{vs:List LV}:∀(e:Ex) (c:Int),iM fns k vs e c=0->∀x∈e.pre,x.op=13->Cok fns k x
 | .mk o n t ks,c,h,x,hx,hop=>by
   rw[iM] at h
   rw[Ex.pre] at hx
   have h0:=bL h
   rcases Za.1 hx with rfl|hx
   ·have hop':o=13:=hop
    have hz:¬(13:Int)=2:=by omega
    rw[fZ,hop',if_neg hz,if_pos rfl,mS] at h0
    show∃j f,cg fns t=some j/\j<k/\fns[j]?=some f/\f.params.length=ks.length
    cases e:cg fns t with
    |none=>rw[e] at h0;simp only[fl] at h0;split at h0<;>omega
    |some j=>
     rw[e] at h0
     simp only[fl] at h0
     by_cases hj:k<=j
     ·rw[if_pos hj] at h0;split at h0<;>omega
     ·rw[if_neg hj] at h0
      have hjl:j<fns.length:=(Zg.1 e).1
      have hg:=YO hjl
      refine⟨j,fns[j],rfl,by omega,hg,?_⟩
      rw[AD,hg] at h0
      simp only at h0
      by_cases hp:fns[j].params.length=ks.length
      ·exact hp
      ·rw[if_neg hp] at h0;split at h0<;>omega
   ·exact zA ks _ h x hx hop
theorem zA{fns:List Fd}{k:Nat}{vs:List LV}:∀(l:List Ex) (c:Int),aK fns k vs l c=0->∀x∈dQ l,x.op=13->Cok fns k x
 |[],c,h,x,hx,_=>by simp[dQ] at hx
 |e::r,c,h,x,hx,hop=>by
  rw[aK] at h
  rw[dQ] at hx
  rcases YV.1 hx with hx|hx
  ·exact Ph e _ (bL h) x hx hop
  ·exact zA r _ h x hx hop
end
mutual
theorem QX{fns:List Fd}{k:Nat}:∀(s:Sm) (b d:Nat) (w:WS),(stW fns k b s w).code=0->∀x∈dQ s.args++(dZ (d+1) s.body++dZ (d+1) s.els),x.op=13->Cok fns k x
 | .mk o n a bd el,b,d,w,h,x,hx,hop=>by
   rw[stW] at h
   rw[cb] at h
   have h1:=bg h
   rw[cb] at h1
   have h2:=bg h1
   have h3:=ry h2
   simp only[Sm.args,Sm.body,Sm.els,YV] at hx
   rcases hx with hx|hx|hx
   ·exact zA a _ h3 x hx hop
   ·exact yR bd _ (d+1) _ h1 x hx hop
   ·exact yR el _ (d+1) _ h x hx hop
theorem yR{fns:List Fd}{k:Nat}:∀(l:List Sm) (b d:Nat) (w:WS),(aO fns k b l w).code=0->∀x∈dZ d l,x.op=13->Cok fns k x
 |[],b,d,w,h,x,hx,_=>by simp[dZ,bC] at hx
 |s::r,b,d,w,h,x,hx,hop=>by
  rw[aO] at h
  rw[px] at hx
  rcases YV.1 hx with hx|hx
  ·exact QX s b d _ (bg h) x hx hop
  ·exact yR r b d _ h x hx hop
end
theorem Rc{l:List Fd}{k:Nat}{f:Fd}(hc:aI l=0)(hk:l[k]?=some f):(fnW l k f).code=0:=by
 unfold aI at hc
 split at hc
 ·have:=(rE l l 0).1 hc k f hk
  rwa[Zz] at this
 ·omega
theorem Cy{l:List Fd}{k:Nat}{f:Fd}(hc:aI l=0)(hk:l[k]?=some f):∀x∈dZ 1 f.body,x.op=13->Cok l k x:=by
 have h:=Rc hc hk
 rw[fnW] at h
 exact yR _ _ 1 _ h
def CoE(l:List Fd)(k:Nat)(e:Ex):Prop:=∀x∈e.pre,x.op=13->Cok l k x
def CoS(l:List Fd)(k d:Nat)(xs:List Sm):Prop:=∀x∈dZ d xs,x.op=13->Cok l k x
theorem CY{a:Ex}:∀{l:List Ex},a∈l->∀x∈a.pre,x∈dQ l
 |b::r,h,x,hx=>by
  rw[dQ]
  rcases Za.1 h with rfl|h
  ·exact List.mem_append_left _ hx
  ·exact List.mem_append_right _ (CY h x hx)
theorem CoE.kid{l:List Fd}{k:Nat}{e a:Ex}(h:CoE l k e)(ha:a∈e.kids):CoE l k a:=λx hx ho=>h x (by rw[Ex.pre_eq];exact ZF _ (CY ha x hx)) ho
theorem CoS.head{l:List Fd}{k d:Nat}{s:Sm}{r:List Sm}(h:CoS l k d (s::r)):(∀a∈s.args,CoE l k a)/\CoS l k (d+1) s.body/\CoS l k (d+1) s.els/\CoS l k d r:=by
 have e:=px d s r
 unfold CoS at*
 rw[e] at h
 simp only[YV] at h
 exact⟨λa ha x hx ho=>h x (.inl (.inl (CY ha x hx))) ho,λx hx ho=>h x (.inl (.inr (.inl hx))) ho,λx hx ho=>h x (.inl (.inr (.inr hx))) ho,λx hx ho=>h x (.inr hx) ho⟩
end
section
structure In5 (v:List Sc5) (s:S5):Prop where
 g:G5 s
 ge:GE5 v
 un:Un5 v
 m:M5 s<=4000
 f:(aC v).length+s.left<=1073750000
theorem In5.ex{l:List Fd}{k:Nat}{v:List Sc5}{s s':S5}{e:Ex}{r:O5 Int}(I:In5 v s)(h:Ev l (.ex k v s e s' r)):In5 v s'/\∀n,r= .ok n->V5 n:=by
 have a:=dG h ⟨I.g,I.ge⟩
 have b:=om h
 exact⟨⟨a.1,I.ge,I.un,Zi b.1 I.m,by have:=b.2;have:=I.f;omega⟩,a.2.2⟩
structure WfE (l:List Fd) (k:Nat) (e:Ex):Prop where
 form:∃d,bV d e=true
 co:CoE l k e
 sz:e.sz<=1073741824
theorem LX{d:Nat}{e a:Ex}(h:bV d e=true)(ha:a∈e.kids):∃d,bV d a=true:=by
 obtain⟨c,rfl⟩:=Mf h
 exact⟨c,MF h ha⟩
theorem WfE.kid{l:List Fd}{k:Nat}{e a:Ex}(h:WfE l k e)(ha:a∈e.kids):WfE l k a:=by
 obtain⟨d,hd⟩:=h.form
 exact⟨LX hd ha,h.co.kid ha,by have:=bS ha;have:=e.sz_eq;have:=h.sz;omega⟩
variable (G:am)
def ExC(l:List Fd)(R cid k:Nat)(e:Ex):Prop:=∀v s s' r,Ev l (.ex k v s e s' r)->In5 v s->∀V b x sid nid uid uv h,RI R cid l sid s 0 false h->EI V nid uid uv (aC v) b x h->Ap R V sid cid nid uid->
 AC Tryz.prog G bp [.ptr R 7 0 0,.agg (e.cs.map .p),.ptr V 4 0 0] h (ExL R cid l sid h s' r)
def StC(l:List Fd)(R cid k:Nat):Prop:=∀(xs:List Sm) v s v' s' r,(∀x∈xs,∃d,az d x=true)->ay xs<=1073741824->(∃d,CoS l k d xs)->Ev l (.blk k v s xs v' s' r)->In5 v s->
 ∀V x0 sid nid uid uv h,RI R cid l sid s 0 false h->EI V nid uid uv (aC v) false x0 h->Ap R V sid cid nid uid->AC Tryz.prog G aP [.ptr R 7 0 0,.p (smL xs),.ptr V 4 0 0] h (StL R cid l V sid nid uid h ((aC v').take (aC v).length) x0 s' r)
theorem Bz{l:List Fd}{R cid sid:Nat}{v:List Sc5}{s s1:S5}{r:O5 Int}{V nid uid:Nat}{uv:AV}{b:Bool}{x:Int}{h os h2:List AO}{z:ARes}(H:RI R cid l sid s 0 false h)(E:EI V nid uid uv (aC v) b x h)(A:Ap R V sid cid nid uid)
 (L:ExL R cid l sid (h++os) s1 r z h2):∃n sid1,z= .ret (.p (.int .i64 n))/\V5 n/\(∀m,r= .ok m->n=m)/\RI R cid l sid1 s1 (cf r) (dL r) h2/\EI V nid uid uv (aC v) b x h2/\Ap R V sid1 cid nid uid/\Fr [R,sid,cid] h h2/\(sid1=sid\/h.length<=sid1)/\
   (∀i,i<os.length->h2[h.length+i]?=os[i]?)/\h.length+os.length<=h2.length:=by
 obtain⟨n,sid1,rfl,e1,e2,e3,e4,e5⟩:=L
 have hl:=H.lt
 refine⟨n,sid1,rfl,e1,e2,e3,?_,?_,e4.from,?_,λi hi=>?_,by have:=e4.1;simpa using this⟩
 ·exact(E.more os).keep (H.more os) A e4
 ·exact Ap.step (E.more os) A e5
 ·rcases e5 with e|e
  ·exact .inl e
  ·exact .inr (by simp at e;omega)
 ·rw[e4.2 (h.length+i) (by simp;omega) (by simp;omega),YT (by omega),Zw]
theorem BH{V nid uid:Nat}{uv:AV}{w:Sc5}{b:Bool}{x:Int}{h:List AO}(E:EI V nid uid uv w b x h):View h (.sl nid 1 0 w.length) (al (w.map (·.1))):=by
 obtain⟨t,hn⟩:=E.names
 have h1:View h (.sl nid 1 0 (w.map (·.1)++t).length) (al (w.map (·.1)++t)):=iH hn
 have h2:=Hx (m:=w.length) h1 (by simp)
 have e:((w.map (·.1)++t).map λn=>[PV.str n]).take w.length=(w.map (·.1)).map λn=>[PV.str n]:=by
  rw[List.map_append,List.take_append_of_le_length (by simp),YU (by simp)]
 rw[e] at h2
 exact h2
theorem RF{s:S5}(g:G5 s){n:Int}(hn:V5 n)(h16:n<16):∃(m:Nat) (c:Int),n=(m:Int)/\m<16/\s.cells[m]?=some c/\V5 c:=by
 obtain⟨m,rfl⟩:∃m:Nat,n=(m:Int):=⟨n.toNat,by have:=hn.1;omega⟩
 have hm:m<s.cells.length:=by rw[g.len];omega
 exact⟨m,s.cells[m],rfl,by omega,YO hm,g.cells _ (Zf hm)⟩
theorem RI.ended{R cid:Nat}{l:List Fd}{sid:Nat}{s:S5}{e c:Int}{o:Bool}{h:List AO}(H:RI R cid l sid s e o h):RI R cid l sid s c true (h.set R (aQ l sid cid s c true)):=
 ⟨YR H.lt.1,by rw[YM H.neR.1];exact H.said,by rw[YM H.neR.2];exact H.cells,H.ne⟩
theorem Fr.set{K:List Nat}{h h2:List AO}(F:Fr K h h2){i:Nat}(hi:i∈K)(o:AO):Fr K h (h2.set i o):=
 ⟨by rw[Zq];exact F.1,λj hj hn=>by
   rw[YM (show i≠j from λe=>hn (e▸hi))];exact F.2 j hj hn⟩
theorem TP{l:List Fd}{R cid k:Nat}(hC:∀e:Ex,e.op=13->WfE l k e->(∀a∈e.kids,ExC G l R cid k a)->∀v s s' r,Ev l (.ex k v s e s' r)->In5 v s->∀V b x sid nid uid uv h,RI R cid l sid s 0 false h->EI V nid uid uv (aC v) b x h->Ap R V sid cid nid uid->
 AC Tryz.prog G fG [.ptr R 7 0 0,.agg (e.cs.map .p),.ptr V 4 0 0] h (ExL R cid l sid h s' r)):∀(N:Nat) (e:Ex),e.sz<=N->WfE l k e->ExC G l R cid k e:=by
 intro N
 induction N with
 |zero=>intro e he;have:=e.sz_eq;omega
 |succ N ih=>
  intro e hN W v s s' r hE I V b x sid nid uid uv h H E A
  have hec:=e.cs_eq
  have hsz:=e.sz_eq
  have hkl:=bB e.kids
  have hsl:exL e.kids= .lst 4 (e.kids.map Ex.cs):=rfl
  have ihk:∀a∈e.kids,ExC G l R cid k a:=λa ha=>ih a (by have:=bS ha;omega) (W.kid ha)
  have aR:∀os,(h++os)[R]?=some (aQ l sid cid s 0 false):=λos=>(H.more os).run
  have aV:∀os,(h++os)[V]?=some (cF nid (aC v).length uv b x):=λos=>(E.more os).env
  have fin0:∀n os,V5 n->ExL R cid l sid h s (.ok n) (.ret (.p (.int .i64 n))) (h++os):=λn os hn=>⟨n,sid,rfl,hn,λm h=>by cases h;rfl,H.more _,Fr.more _ _ _,.inl rfl⟩
  by_cases hop:e.op=13
  ·refine AC.go jv ?_
   simp-implicitDefEqProofs[aG,hec, ↓aR, ↓aV,aQ,cF,hop]
   have hcall:=hC e hop W ihk v s s' r hE I V b x sid nid uid uv _ (H.more [.row 4 [[.p (.int .i64 13),.p (.int .i64 e.n),.p (.str e.name),.p (exL e.kids)]]]) (E.more _) A
   rw[hec,hop] at hcall
   refine hcall.mono ?_
   rintro z h2 L
   obtain⟨n,sid1,rfl,e1,e2,e3,E2,A2,e4,e5,e6,e7⟩:=Bz H E A L
   simp-implicitDefEqProofs[aa]
   exact⟨n,sid1,rfl,e1,e2,e3,e4,e5⟩
  refine AC.go jv ?_
  obtain⟨box,hbox⟩:∃box,box=AO.row 4 [[.p (.int .i64 e.op),.p (.int .i64 e.n),.p (.str e.name),.p (.lst 4 (e.kids.map Ex.cs))]]:=⟨_,rfl⟩
  have first:∀a s1 r1 (Q:ARes->List AO->Prop),a∈e.kids->Ev l (.ex k v s a s1 r1)->(∀n sid1 h2,V5 n->(∀m,r1= .ok m->n=m)->RI R cid l sid1 s1 (cf r1) (dL r1) h2->EI V nid uid uv (aC v) b x h2->Ap R V sid1 cid nid uid->Fr [R,sid,cid] h h2->(sid1=sid\/h.length<=sid1)->
   h2[h.length]?=some box->h.length+1<=h2.length->In5 v s1->Q (.ret (.p (.int .i64 n))) h2)->AC Tryz.prog G bp [.ptr R 7 0 0,.agg [.p (.int .i64 a.op),.p (.int .i64 a.n),.p (.str a.name),.p (exL a.kids)],.ptr V 4 0 0] (h++[box]) Q:=λa s1 r1 Q ha hE1 hq=>by
   have hac:a.cs.map AV.p=[.p (.int .i64 a.op),.p (.int .i64 a.n),.p (.str a.name),.p (exL a.kids)]:=by rw[a.cs_eq];rfl
   rw[←hac]
   refine(ihk a ha v s s1 r1 hE1 I V b x sid nid uid uv _ (H.more [box]) (E.more _) A).mono ?_
   rintro z h2 L
   obtain⟨n,sid1,rfl,e1,e2,e3,E2,A2,e4,e5,e6,e7⟩:=Bz H E A L
   exact hq n sid1 h2 e1 e2 e3 E2 A2 e4 e5 (by have:=e6 0 (by simp);simpa using this) (by simpa using e7) (I.ex hE1).1
  have second:∀a s1 s2 r2 sid1 h2 (Q:ARes->List AO->Prop),a∈e.kids->Ev l (.ex k v s1 a s2 r2)->In5 v s1->RI R cid l sid1 s1 0 false h2->EI V nid uid uv (aC v) b x h2->Ap R V sid1 cid nid uid->Fr [R,sid,cid] h h2->(sid1=sid\/h.length<=sid1)->h2[h.length]?=some box->h.length+1<=h2.length->
   (∀n sid2 h3,V5 n->(∀m,r2= .ok m->n=m)->RI R cid l sid2 s2 (cf r2) (dL r2) h3->Fr [R,sid,cid] h h3->(sid2=sid\/h.length<=sid2)->h3[h.length]?=some box->In5 v s2->Q (.ret (.p (.int .i64 n))) h3)->
   AC Tryz.prog G bp [.ptr R 7 0 0,.agg [.p (.int .i64 a.op),.p (.int .i64 a.n),.p (.str a.name),.p (exL a.kids)],.ptr V 4 0 0] h2 Q:=λa s1 s2 r2 sid1 h2 Q ha hE1 I1 H1 E1 A1 F1 f1 b1 l1 hq=>by
   have hac:a.cs.map AV.p=[.p (.int .i64 a.op),.p (.int .i64 a.n),.p (.str a.name),.p (exL a.kids)]:=by rw[a.cs_eq];rfl
   rw[←hac]
   refine(ihk a ha v s1 s2 r2 hE1 I1 V b x sid1 nid uid uv h2 H1 E1 A1).mono ?_
   rintro z h3 ⟨n,sid2,rfl,e1,e2,e3,e4,e5⟩
   have hlR:=H.lt
   refine hq n sid2 h3 e1 e2 e3 (F1.trans e4 λi hi=>?_) ?_ ?_ (I1.ex hE1).1
   ·simp only[Za,Zj,or_false] at hi⊢
    rcases hi with rfl|rfl|rfl
    ·exact .inl (.inl rfl)
    ·rcases f1 with rfl|f1
     ·exact .inl (.inr (.inl rfl))
     ·exact .inr f1
    ·exact .inl (.inr (.inr rfl))
   ·rcases e5 with rfl|e5
    ·exact f1
    ·exact .inr (by omega)
   ·rw[e4.2 _ (by omega) ?_,b1]
    simp only[Za,Zj,or_false,not_or]
    refine⟨by omega,λe=>?_,by omega⟩
    have:=H1.said
    rw[←e,b1,hbox] at this
    simp[bz] at this
  have kids2:3<=e.op->e.op<=10->∃a b,e.kids=[a,b]:=λq1 q2=>by
   obtain⟨d,hd⟩:=W.form
   obtain⟨f1,f2,_,_⟩:=Ew hd
   have hlen:e.kids.length=2:=by
    have:e.op=3\/e.op=4\/e.op=5\/e.op=6\/e.op=7\/e.op=8\/e.op=9\/e.op=10:=by omega
    rcases this with q|q|q|q|q|q|q|q<;>rw[q] at f1 f2<;>simp[loK,hiK] at f1 f2<;>omega
   match hk:e.kids,hlen with
   |[a,b],_=>exact⟨a,b,rfl⟩
  cases hE with
  |num hop hv=>
   simp-implicitDefEqProofs[aG,hec, ↓aR,aQ,hop]
   exact fin0 _ _ hv
  | @var _ _ _ _ n hop hv=>
    obtain⟨i,v1,v2,v3⟩:=BR I.un hv
    have hiw:i<(aC v).length:=(YL.1 v2).1
    have hnv:=zY I.ge hv
    obtain⟨t,rfl,hu⟩:=E.vals.ne (by simpa using Nat.lt_of_le_of_lt (ZD _) hiw)
    obtain⟨t2,hn⟩:=E.names
    obtain⟨rows,hr,hri⟩:∃rows,bz ((aC v).map (·.2)++t)= .row 1 rows/\rows[i]?=some [.p (.int .i64 n)]:=⟨_,rfl,by
     rw[Zb,YN (by simpa using hiw),Zb,v2];rfl⟩
    rw[hr] at hu
    have au:∀os,(h++os)[uid]?=some (.row 1 rows):=λos=>by rw[YN E.ul];exact hu
    simp-implicitDefEqProofs[aG,hec, ↓aR, ↓aV,aQ,cF,hop]
    refine((KE G (aC v) e.name (by have:=I.f;omega)).lend (.one (BH (E.more _)) (.keep (by simp) .nil)) rfl).mono ?_
    rintro r h' ⟨rfl,rfl⟩
    simp-implicitDefEqProofs[aa,v1,ixI]
    refine⟨by simp[aV,cF],?_⟩
    simp-implicitDefEqProofs[hiw, ↓au,hri]
    exact fin0 _ _ hnv
  |call h0 _ _ _ _=>exact(hop h0).elim
  |callS h0 _=>exact(hop h0).elim
  | @firstS _ _ _ _ a rr _ c h1 h2 h3 h4=>
    have ha:a∈e.kids:=by rw[h3];simp
    have n1:¬e.op=1:=by omega
    have n2:¬e.op=2:=by omega
    have hg:e.kids[0]?=some a:=by rw[h3];rfl
    have hka:=a.cs_eq
    simp-implicitDefEqProofs[aG,hec,hsl, ↓aR, ↓aV,aQ,cF,hg,hka,n1,n2,hop]
    rw[←hbox]
    refine first a _ _ _ ha h4 ?_
    intro n sid1 h2 e1 e2 e3 E2 A2 e4 e5 e6 e7 I2
    have cR:=e3.run
    have finO:∀n' os,V5 n'->ExL R cid l sid h s' (.st c) (.ret (.p (.int .i64 n'))) (h2++os):=λn' os hn'=>⟨n',sid1,rfl,hn',(λm h=>by cases h),e3.more os,⟨by have:=e4.1;simp;omega,λi hi hh=>by rw[YN (by omega)];exact e4.2 i hi hh⟩,e5⟩
    have finO':∀n',V5 n'->ExL R cid l sid h s' (.st c) (.ret (.p (.int .i64 n'))) h2:=λn' hn'=>by have:=finO n' [] hn';rwa[ZB] at this
    simp only[cf,dL] at cR
    have cO:∀b:Ex,AC Tryz.prog G bp [.ptr R 7 0 0,.agg [.p (.int .i64 b.op),.p (.int .i64 b.n),.p (.str b.name),.p (exL b.kids)],.ptr V 4 0 0] h2 λx h'=>x= .ret (.p (.int .i64 0))/\∃os,h'=h2++os:=λb=>by
     have hbc:b.cs.map AV.p=[.p (.int .i64 b.op),.p (.int .i64 b.n),.p (.str b.name),.p (exL b.kids)]:=by rw[b.cs_eq];rfl
     rw[←hbc]
     exact Bl G cR b _
    have cR2:∀os,(h2++os)[R]?=some (aQ l sid1 cid s' c true):=λos=>by rw[YN (e3.lt.1)];exact cR
    have cB:∀os,(h2++os)[h.length]?=some box:=λos=>by rw[YN (by omega)];exact e6
    simp only[aQ] at cR cR2
    rw[hbox] at e6 cB
    by_cases o11:e.op=11
    ·simp-implicitDefEqProofs[aa,cR,e6,o11]
     refine(kq G _).use ?_
     simp-implicitDefEqProofs[]
     exact finO' _ (iS _)
    by_cases o12:e.op=12
    ·by_cases hn:16<=n
     ·simp-implicitDefEqProofs[aa,cR,e6,o11,o12,hn]
      refine(Cu G e3.run).mono ?_
      rintro z h3 ⟨rfl,rfl⟩
      rw[show h2.set R (aQ l sid1 cid s' (if dL (O5.st c:O5 Int)=true then cf (O5.st c:O5 Int) else 2) true)=h2 from pm e3.run]
      simp-implicitDefEqProofs[aa]
      exact finO' 0 ⟨by omega,by omega⟩
     ·obtain⟨m,c0,rfl,hm,hc0,hcv⟩:=RF I2.g e1 (by omega)
      have cc:=e3.cells
      have hcr:(bz s'.cells)= .row 1 (s'.cells.map λx=>[.p (.int .i64 x)]):=rfl
      rw[hcr] at cc
      simp-implicitDefEqProofs[aa,cR,e6,o11,o12,hn,hm,cc,hc0]
      exact⟨by omega,finO' _ hcv⟩
    obtain⟨a',b',hk⟩:=kids2 h1 (by omega)
    have hgb:e.kids[1]?=some b':=by rw[hk];rfl
    have hkb:=b'.cs_eq
    by_cases o10:e.op=10
    ·by_cases hn0:n=0
     ·simp-implicitDefEqProofs[aa,cR,e6,o11,o12,o10,hn0]
      exact finO' 0 ⟨by omega,by omega⟩
     ·simp-implicitDefEqProofs[aa,cR,e6,o11,o12,o10,hn0,hgb,hkb]
      refine(cO b').mono ?_
      rintro z h3 ⟨rfl,os,rfl⟩
      simp-implicitDefEqProofs[aa]
      refine(kq G _).use ?_
      simp-implicitDefEqProofs[]
      exact finO _ _ (iS _)
    ·simp-implicitDefEqProofs[aa,cR,e6,o11,o12,o10,hgb,hkb]
     refine(cO b').mono ?_
     rintro z h3 ⟨rfl,os,rfl⟩
     simp-implicitDefEqProofs[aa, ↓cR2]
     exact finO 0 _ ⟨by omega,by omega⟩
  | @and0 _ _ _ _ a b' _ h1 h2 h3=>
    have ha:a∈e.kids:=by rw[h2];simp
    have n1:¬e.op=1:=by omega
    have n2:¬e.op=2:=by omega
    have hg:e.kids[0]?=some a:=by rw[h2];rfl
    have hka:=a.cs_eq
    simp-implicitDefEqProofs[aG,hec,hsl, ↓aR, ↓aV,aQ,cF,hg,hka,n1,n2,hop]
    rw[←hbox]
    refine first a _ _ _ ha h3 ?_
    intro n' sid1 hh2 e1 e2 e3 E2 A2 e4 e5 e6 e7 I2
    have hnn:=e2 _ rfl
    have cR:=e3.run
    simp only[cf,dL] at cR e3
    subst hnn
    simp only[aQ] at cR
    rw[hbox] at e6
    simp-implicitDefEqProofs[aa,cR,e6,h1]
    exact⟨0,sid1,rfl,⟨by omega,by omega⟩,(λm h=>by cases h;rfl),e3,e4,e5⟩
  | @not _ _ _ _ a _ n h1 h2 h3=>
    have ha:a∈e.kids:=by rw[h2];simp
    have n1:¬e.op=1:=by omega
    have n2:¬e.op=2:=by omega
    have hg:e.kids[0]?=some a:=by rw[h2];rfl
    have hka:=a.cs_eq
    simp-implicitDefEqProofs[aG,hec,hsl, ↓aR, ↓aV,aQ,cF,hg,hka,n1,n2,hop]
    rw[←hbox]
    refine first a _ _ _ ha h3 ?_
    intro n' sid1 hh2 e1 e2 e3 E2 A2 e4 e5 e6 e7 I2
    have hnn:=e2 _ rfl
    have cR:=e3.run
    simp only[cf,dL] at cR e3
    subst hnn
    simp only[aQ] at cR
    rw[hbox] at e6
    simp-implicitDefEqProofs[aa,cR,e6,h1]
    refine(kq G _).use ?_
    simp-implicitDefEqProofs[]
    exact⟨_,sid1,rfl,iS _,(λm h=>by cases h;rfl),e3,e4,e5⟩
  | @at_ _ _ _ _ a _ n m h1 h2 h3 h4 h5=>
    have ha:a∈e.kids:=by rw[h2];simp
    have n1:¬e.op=1:=by omega
    have n2:¬e.op=2:=by omega
    have hg:e.kids[0]?=some a:=by rw[h2];rfl
    have hka:=a.cs_eq
    simp-implicitDefEqProofs[aG,hec,hsl, ↓aR, ↓aV,aQ,cF,hg,hka,n1,n2,hop]
    rw[←hbox]
    refine first a _ _ _ ha h3 ?_
    intro n' sid1 hh2 e1 e2 e3 E2 A2 e4 e5 e6 e7 I2
    have hnn:=e2 _ rfl
    have cR:=e3.run
    simp only[cf,dL] at cR e3
    subst hnn
    have cc:=e3.cells
    have hcr:(bz s'.cells)= .row 1 (s'.cells.map λx=>[.p (.int .i64 x)]):=rfl
    rw[hcr] at cc
    have hn16:¬(16:Int)<=n:=by omega
    have hmv:V5 m:=I2.g.cells _ (YS h5)
    simp only[aQ] at cR
    rw[hbox] at e6
    simp-implicitDefEqProofs[aa,cR,e6,h1,hn16,cc,h4,h5]
    exact⟨by omega,m,sid1,rfl,hmv,(λm h=>by cases h;rfl),e3,e4,e5⟩
  | @atS _ _ _ _ a _ n h1 h2 h3 h4=>
    have ha:a∈e.kids:=by rw[h2];simp
    have n1:¬e.op=1:=by omega
    have n2:¬e.op=2:=by omega
    have hg:e.kids[0]?=some a:=by rw[h2];rfl
    have hka:=a.cs_eq
    simp-implicitDefEqProofs[aG,hec,hsl, ↓aR, ↓aV,aQ,cF,hg,hka,n1,n2,hop]
    rw[←hbox]
    refine first a _ _ _ ha h3 ?_
    intro n' sid1 hh2 e1 e2 e3 E2 A2 e4 e5 e6 e7 I2
    have hnn:=e2 _ rfl
    have cR:=e3.run
    simp only[cf,dL] at cR e3
    subst hnn
    have hst:=Cu G (c:=2) cR
    simp only[aQ] at cR
    rw[hbox] at e6
    simp-implicitDefEqProofs[aa,cR,e6,h1,h4]
    refine hst.mono ?_
    rintro z h3 ⟨rfl,rfl⟩
    simp-implicitDefEqProofs[aa]
    exact⟨0,sid1,rfl,⟨by omega,by omega⟩,(λm h=>by cases h),e3.ended,e4.set (by simp) _,e5⟩
  | @and1 _ _ _ _ a b' s1 n _ m h1 h2 h3 h4 h5=>
    have ha:a∈e.kids:=by rw[h2];simp
    have n1:¬e.op=1:=by omega
    have n2:¬e.op=2:=by omega
    have hg:e.kids[0]?=some a:=by rw[h2];rfl
    have hka:=a.cs_eq
    simp-implicitDefEqProofs[aG,hec,hsl, ↓aR, ↓aV,aQ,cF,hg,hka,n1,n2,hop]
    rw[←hbox]
    refine first a _ _ _ ha h3 ?_
    intro n' sid1 hh2 e1 e2 e3 E2 A2 e4 e5 e6 e7 I2
    have hnn:=e2 _ rfl
    have cR:=e3.run
    simp only[cf,dL] at cR e3
    have hb:b'∈e.kids:=by rw[h2];simp
    have hgb:e.kids[1]?=some b':=by rw[h2];rfl
    have hkb:=b'.cs_eq
    have e6':=e6
    subst hnn
    simp only[aQ] at cR
    rw[hbox] at e6
    simp-implicitDefEqProofs[aa,cR,e6,h1,h4,hgb,hkb]
    refine second b' _ _ _ _ _ _ hb h5 I2 e3 E2 A2 e4 e5 e6' e7 ?_
    intro n2 sid2 h3 i1 i2 i3 i4 i5 i6 i7
    have:=i2 _ rfl
    subst this
    simp-implicitDefEqProofs[aa]
    refine(kq G _).use ?_
    simp-implicitDefEqProofs[]
    exact⟨_,sid2,rfl,iS _,(λm h=>by cases h;simp),i3,i4,i5⟩
  | @andS _ _ _ _ a b' s1 n _ c h1 h2 h3 h4 h5=>
    have ha:a∈e.kids:=by rw[h2];simp
    have n1:¬e.op=1:=by omega
    have n2:¬e.op=2:=by omega
    have hg:e.kids[0]?=some a:=by rw[h2];rfl
    have hka:=a.cs_eq
    simp-implicitDefEqProofs[aG,hec,hsl, ↓aR, ↓aV,aQ,cF,hg,hka,n1,n2,hop]
    rw[←hbox]
    refine first a _ _ _ ha h3 ?_
    intro n' sid1 hh2 e1 e2 e3 E2 A2 e4 e5 e6 e7 I2
    have hnn:=e2 _ rfl
    have cR:=e3.run
    simp only[cf,dL] at cR e3
    have hb:b'∈e.kids:=by rw[h2];simp
    have hgb:e.kids[1]?=some b':=by rw[h2];rfl
    have hkb:=b'.cs_eq
    have e6':=e6
    subst hnn
    simp only[aQ] at cR
    rw[hbox] at e6
    simp-implicitDefEqProofs[aa,cR,e6,h1,h4,hgb,hkb]
    refine second b' _ _ _ _ _ _ hb h5 I2 e3 E2 A2 e4 e5 e6' e7 ?_
    intro n2 sid2 h3 i1 i2 i3 i4 i5 i6 i7
    simp-implicitDefEqProofs[aa]
    refine(kq G _).use ?_
    simp-implicitDefEqProofs[]
    exact⟨_,sid2,rfl,iS _,(λm h=>by cases h),i3,i4,i5⟩
  | @bin _ _ _ _ a b' s1 n _ m q h1 h2 h3 h4 h5 h6=>
    have ha:a∈e.kids:=by rw[h3];simp
    have n1:¬e.op=1:=by omega
    have n2:¬e.op=2:=by omega
    have hg:e.kids[0]?=some a:=by rw[h3];rfl
    have hka:=a.cs_eq
    simp-implicitDefEqProofs[aG,hec,hsl, ↓aR, ↓aV,aQ,cF,hg,hka,n1,n2,hop]
    rw[←hbox]
    refine first a _ _ _ ha h4 ?_
    intro n' sid1 hh2 e1 e2 e3 E2 A2 e4 e5 e6 e7 I2
    have hnn:=e2 _ rfl
    have cR:=e3.run
    simp only[cf,dL] at cR e3
    have hb:b'∈e.kids:=by rw[h3];simp
    have hgb:e.kids[1]?=some b':=by rw[h3];rfl
    have hkb:=b'.cs_eq
    have e6':=e6
    have o10:¬e.op=10:=by omega
    have o11:¬e.op=11:=by omega
    have o12:¬e.op=12:=by omega
    subst hnn
    simp only[aQ] at cR
    rw[hbox] at e6
    simp-implicitDefEqProofs[aa,cR,e6,o10,o11,o12,hgb,hkb]
    refine second b' _ _ _ _ _ _ hb h5 I2 e3 E2 A2 e4 e5 e6' e7 ?_
    intro n2 sid2 h3 i1 i2 i3 i4 i5 i6 i7
    have:=i2 _ rfl
    subst this
    have dR:=i3.run
    simp only[cf,dL,aQ] at dR i3
    rw[hbox] at i6
    simp-implicitDefEqProofs[aa,dR,i6]
    have hT:=Lh G e.op _ _ h1 h2 e1 i1
    rw[h6] at hT
    simp only[EZ] at hT
    refine hT.use ?_
    simp-implicitDefEqProofs[]
    exact⟨_,sid2,rfl,Eu e1 i1 h6,(λm h=>by cases h;rfl),i3,i4,i5⟩
  | @binS _ _ _ _ a b' s1 n _ c h1 h2 h3 h4 h5=>
    have ha:a∈e.kids:=by rw[h3];simp
    have n1:¬e.op=1:=by omega
    have n2:¬e.op=2:=by omega
    have hg:e.kids[0]?=some a:=by rw[h3];rfl
    have hka:=a.cs_eq
    simp-implicitDefEqProofs[aG,hec,hsl, ↓aR, ↓aV,aQ,cF,hg,hka,n1,n2,hop]
    rw[←hbox]
    refine first a _ _ _ ha h4 ?_
    intro n' sid1 hh2 e1 e2 e3 E2 A2 e4 e5 e6 e7 I2
    have hnn:=e2 _ rfl
    have cR:=e3.run
    simp only[cf,dL] at cR e3
    have hb:b'∈e.kids:=by rw[h3];simp
    have hgb:e.kids[1]?=some b':=by rw[h3];rfl
    have hkb:=b'.cs_eq
    have e6':=e6
    have o10:¬e.op=10:=by omega
    have o11:¬e.op=11:=by omega
    have o12:¬e.op=12:=by omega
    subst hnn
    simp only[aQ] at cR
    rw[hbox] at e6
    simp-implicitDefEqProofs[aa,cR,e6,o10,o11,o12,hgb,hkb]
    refine second b' _ _ _ _ _ _ hb h5 I2 e3 E2 A2 e4 e5 e6' e7 ?_
    intro n2 sid2 h3 i1 i2 i3 i4 i5 i6 i7
    have dR:=i3.run
    simp only[cf,dL,aQ] at dR i3
    simp-implicitDefEqProofs[aa,dR]
    exact⟨0,sid2,rfl,⟨by omega,by omega⟩,(λm h=>by cases h),i3,i4,i5⟩
  | @binD _ _ _ _ a b' s1 n _ m h1 h2 h3 h4 h5 h6=>
    have ha:a∈e.kids:=by rw[h3];simp
    have n1:¬e.op=1:=by omega
    have n2:¬e.op=2:=by omega
    have hg:e.kids[0]?=some a:=by rw[h3];rfl
    have hka:=a.cs_eq
    simp-implicitDefEqProofs[aG,hec,hsl, ↓aR, ↓aV,aQ,cF,hg,hka,n1,n2,hop]
    rw[←hbox]
    refine first a _ _ _ ha h4 ?_
    intro n' sid1 hh2 e1 e2 e3 E2 A2 e4 e5 e6 e7 I2
    have hnn:=e2 _ rfl
    have cR:=e3.run
    simp only[cf,dL] at cR e3
    have hb:b'∈e.kids:=by rw[h3];simp
    have hgb:e.kids[1]?=some b':=by rw[h3];rfl
    have hkb:=b'.cs_eq
    have e6':=e6
    have o10:¬e.op=10:=by omega
    have o11:¬e.op=11:=by omega
    have o12:¬e.op=12:=by omega
    subst hnn
    simp only[aQ] at cR
    rw[hbox] at e6
    simp-implicitDefEqProofs[aa,cR,e6,o10,o11,o12,hgb,hkb]
    refine second b' _ _ _ _ _ _ hb h5 I2 e3 E2 A2 e4 e5 e6' e7 ?_
    intro n2 sid2 h3 i1 i2 i3 i4 i5 i6 i7
    have:=i2 _ rfl
    subst this
    have dR:=i3.run
    simp only[cf,dL] at dR i3
    have hst:=Cu G (c:=1) dR
    simp only[aQ] at dR
    rw[hbox] at i6
    simp-implicitDefEqProofs[aa,dR,i6]
    have hT:=Lh G e.op _ _ h1 h2 e1 i1
    rw[h6] at hT
    simp only[EZ] at hT
    refine hT.use ?_
    simp-implicitDefEqProofs[]
    refine hst.mono ?_
    rintro z h3 ⟨rfl,rfl⟩
    simp-implicitDefEqProofs[aa]
    exact⟨0,sid2,rfl,⟨by omega,by omega⟩,(λm h=>by cases h),i3.ended,i4.set (by simp) _,i5⟩
end
section
def aT{σ α β:Type}(g:σ->α->β × σ):σ->List α->List β × σ
 |st,[]=>([],st)
 |st,x::r=>((g st x).1::(aT g (g st x).2 r).1,(aT g (g st x).2 r).2)
theorem Ip{σ α β:Type}(g:σ->α->β × σ):∀(a b:List α) (st:σ),aT g st (a++b)=((aT g st a).1++(aT g (aT g st a).2 b).1,(aT g (aT g st a).2 b).2)
 |[],b,st=>rfl
 |x::r,b,st=>by rw[Zx,aT,Ip g r];rfl
theorem sX{σ α β:Type}{g:σ->α->β × σ}{l:List α}{st:σ}{i:Nat}(h:i<l.length):aT g st (l.take (i+1))=((aT g st (l.take i)).1++[(g (aT g st (l.take i)).2 l[i]).1],(g (aT g st (l.take i)).2 l[i]).2):=by
 rw[an h,Ip];rfl
theorem sf{σ α β:Type}(g:σ->α->β × σ):∀(l:List α) (st:σ),(aT g st l).1.length=l.length
 |[],st=>rfl
 |x::r,st=>by rw[aT,Ze,Ze,sf g r]
theorem rz{σ α β:Type}{g:σ->α->β × σ}{inv:Nat->σ->Prop}:∀{l:List α} {st:σ} {k:Nat},inv k st->(∀(i:Nat) st (h:i<l.length),inv (k+i) st->inv (k+i+1) (g st l[i]).2)->∀i,i<=l.length->inv (k+i) (aT g st (l.take i)).2
 |[],st,k,h0,_,i,hi=>by
  have:i=0:=by simpa using hi
  subst this;exact h0
 |x::r,st,k,h0,hs,0,_=>h0
 |x::r,st,k,h0,hs,i+1,hi=>by
  have h1:=hs 0 st (by simp) h0
  have:=rz (g:=g) (l:=r) (st:=(g st x).2) (k:=k+1) h1 (λj st hj hv=>by
   have:=hs (j+1) st (by simp;omega) (by rw[show k+(j+1)=k+1+j by omega];exact hv)
   rw[show k+(j+1)+1=k+1+j+1 by omega] at this
   exact this) i (by simpa using hi)
  rw[List.take_succ_cons,aT,show k+(i+1)=k+1+i by omega]
  exact this
theorem UC{n k:Nat}{A:List AO}{π:List Nat}{h r1:List AO}(hl:A.length=n)(ha:∀o∈A,okO n o)(hh:∀i,i<n->h[i]?=A[i]?)(ρ:List Nat)(hρ:∀i,i<n->ρ.getD i 0=i)(hρn:n<=ρ.length)(hk:k=n)(hr:HW ρ h π r1):HW ρ h (List.range' 0 k++π) (A++r1):=by
 subst hk
 have key:∀(B:List AO) (s:Nat),(∀i:Nat,B[i]?=h[s+i]?\/B.length<=i)->s+B.length=k->(∀o∈B,okO k o)->HW ρ h (List.range' s B.length++π) (B++r1):=by
  intro B
  induction B with
  |nil=>intro s _ _ _;exact hr
  |cons o r ih=>
   intro s hb hs ho
   rw[Ze,List.range'_succ]
   have h0:h[s]?=some o:=by
    rcases hb 0 with h0|h0
    ·simpa using h0.symm
    ·simp at h0
   have hok:=ho o (by simp)
   have ih:=ih (s+1) (λi=>by
    rcases hb (i+1) with h1|h1
    ·rw[Zd] at h1;left;rw[h1];congr 1;omega
    ·right;simpa using h1) (by simp at hs;omega) (λo ho'=>ho o (by simp[ho']))
   have hsl:=(YL.1 h0).1
   cases o with
   |dead=>exact fO hsl ih
   |row sz es=>
    refine da (λx hx=>aJ hρn _ (hok x hx)) ?_ ih
    rw[h0,Zk (g:=id) λx hx=>mv hρ x (hok x hx)];simp
   |mp es=>exact⟨hsl,⟨λx hx=>by exact(aJ hρn [x.2] ⟨hok x hx,trivial⟩).1,by rw[h0,Zk (g:=id) λx hx=>by rw[mg hρ x.2 (hok x hx)];rfl];simp⟩,ih⟩
   |sit s p=>exact⟨hsl,h0,ih⟩
 have:=key A 0 (λi=>by
  rcases Zy i A.length with hi|hi
  ·left;rw[Zz];exact(hh i (by omega)).symm
  ·right;exact hi) (by omega) ha
 rwa[hl] at this
theorem Fj{kk q n m d sz c:Nat}{A mid s:List AO}{es:List (List AV)}{l l1:List (Nat × AV)}(hl:A.length=n)(hm:mid.length=m)(hk:kk<=n)(ha:∀o∈A,okO n o)(he:∀x∈es,ah 0 x)(H:FgA n l l1)(hd:Aw.look l d= .sl (n+m) sz 0 c):
 Wk kk (aj q l) (A++(mid++ .row sz es::s)) (aj q ((d,.sl n sz 0 c)::l1)) (A++[.row sz es]):=by
 have hρ:∀i,i<n->(List.range' 0 n++[n+m]).getD i 0=i:=λi hi=>by
  rw[Zc,YN (by simp;exact hi)];simp[hi]
 have hρn:(List.range' 0 n++[n+m]).getD n 0=n+m:=by
  rw[Zc,YT (by simp)];simp
 refine dx (List.range' 0 n++[n+m]) (by simp;omega) (λi hi=>hρ i (by omega)) ?_ ?_ ?_
 ·refine List.nodup_append.2 ⟨List.nodup_range',by simp,λa ha b hb e=>?_⟩
  rw[YQ] at hb
  have:=(List.mem_range'_1.1 ha).2
  omega
 ·refine UC hl ha (λi hi=>by rw[YN (by omega)]) _ hρ (by simp) rfl ?_
  refine br ?_ he cm
  rw[YT (by omega),hl,Zw,YT (by omega),hm,Nat.sub_self];rfl
 ·refine⟨⟨by simp only[below];simp,by simp only[ren,hρn];exact hd.symm⟩,?_⟩
  clear hd
  induction l1 with
  |nil=>trivial
  |cons x r ih=>
   obtain⟨⟨a,c⟩,e⟩:=H
   exact⟨⟨(aJ (by simp) [x.2] ⟨a,trivial⟩).1,by rw[mg hρ _ a,c]⟩,ih e⟩
theorem zm{hF:List AO}{n:Nat}:∀{A r:List AO},(∀o∈A,okO n o)->FzO hF n (A++r) A
 |[],r,_=> .nil r
 |o::a,r,h=> .same (h o (by simp)) (zm λo ho=>h o (by simp[ho]))
theorem Ba{n:Nat}{A r:List AO}{o:AO}(hl:A.length=n):(tail n (A++o::r))[n]?=some o:=by
 unfold tail
 rw[YT (by simp),List.length_replicate,Nat.sub_self,←hl,List.drop_left']
 ·rfl
 ·rfl
variable (G:am)
theorem EO{σ:Type}(V:Vis σ)(g:σ->Ex->Ex × σ)(inv:Nat->σ->Prop)(l:List Ex)(hb:l.length<=1073741824)(hn:0<V.n)
 (hv:∀(i:Nat) st (h:i<l.length),inv i st->inv (i+1) (g st l[i]).2/\AC Tryz.prog G V.F (.agg (l[i].cs.map .p)::V.caps) (V.I st) λx h'=>x= .ret (.agg ((g st l[i]).1.cs.map .p))/\h'=V.I (g st l[i]).2)(st:σ)(h0:inv 0 st):
 AC Tryz.prog G aX [.p (exL l),.fn (.func V.F) V.caps] (V.I st) λx h=>x= .ret (.p (exL (aT g st l).1))/\h=V.I (aT g st l).2:=by
 have hxl:∀l,exL l= .lst 4 (l.map Ex.cs):=λ_=>rfl
 have hlen:=V.len
 have hcb:=V.capsOk
 have hinv:∀i,i<=l.length->inv i (aT g st (l.take i)).2:=λi hi=>by
  have:=rz (g:=g) (inv:=inv) (l:=l) (st:=st) (k:=0) h0 (λi st h hi=>by
   rw[Zz] at hi⊢;exact(hv i st h hi).1) i hi
  rwa[Zz] at this
 have hRp:∀l:List Ex,∀x∈exR l,ah 0 x:=ey
 have hRl:∀l:List Ex,(exR l).length=l.length:=λl=>by simp[exR]
 have hRa:∀(l:List Ex) (y:Ex),exR (l++[y])=exR l++[y.cs.map .p]:=λl y=>by simp[exR]
 have key:AC Tryz.prog G aX [.p (exL l),.fn (.func V.F) V.caps] (V.I st) λx h=>x= .ret (slE V.n 4 (exR (aT g st l).1))/\h=V.I (aT g st l).2++[bx 4 (exR (aT g st l).1)]:=by
  refine AC.go pq ?_
  simp-implicitDefEqProofs[iE,hxl]
  refine aN (λi:Nat=>aj 22 [(5,slE V.n 4 (exR (aT g st (l.take i)).1)),(0,.p (exL l)),(1,.fn (.func V.F) V.caps),(8,.p (exL l)),(9,.p (.int .i64 l.length)),(10,.p (.int .i64 i))])
   (λi=>V.I (aT g st (l.take i)).2++[bx 4 (exR (aT g st (l.take i)).1)]) (λi=>i<=l.length) (λi=>l.length-i) 0 (by simp) ?_ ?_
  ·have e:bx 4 (exR (aT g st (l.take 0)).1)= .dead:=rfl
   rw[e]
   exact kQ (by rw[hlen];exact YY _) (by rw[hlen];exact hn) (by rw[hlen];exact V.ok st) (by simp[below,hxl,hcb,hlen,aT,exR,pM])
  intro i hi
  have hT:=λh=>sX (g:=g) (l:=l) (st:=st) (i:=i) h
  have hi2:=hinv i hi
  have hml:=sf g (l.take i) st
  rw[Zl,Nat.min_eq_left hi] at hml
  generalize hcur:aT g st (l.take i)=cur at hT hi2 hml⊢
  obtain⟨out,s⟩:=cur
  simp only at hT hi2 hml⊢
  simp-implicitDefEqProofs[hxl]
  refine bi (λhc=>?_) (λhc=>?_)
  ·simp at hc
   have hg:=YO hc
   have hT:=hT hc
   obtain⟨_,hA⟩:=hv i s hc hi2
   generalize l[i]=x at hg hT hA
   have hkc:=x.cs_eq
   have hyc:=(g s x).1.cs_eq
   rw[hkc] at hA
   simp-implicitDefEqProofs[hg,hkc,hlen]
   refine(V.pre G hA _ ⟨by simp[below],hcb⟩).mono ?_
   rintro r h ⟨rfl,rfl⟩
   rw[hyc]
   simp-implicitDefEqProofs[aa,hlen]
   have hol:=hRl out
   refine⟨⟨by omega,by omega⟩,i+1,hc,by omega,?_⟩
   rw[hT]
   simp only[hRa]
   rw[sP _ (by simp),oQ _ (by simp),hyc]
   refine Fj (mid:=[_,_,_]) (s:=[]) (hlen _) rfl (YY _) (V.ok _) ?_ ?_ ?_
   ·intro x hx
    rcases YV.1 hx with h|h
    ·exact hRp _ x h
    ·rw[YQ.1 h];simp
   ·simp[below,hxl,hcb,w1 (i:=i) (by omega)]
   ·simp
  ·simp at hc
   have hie:i=l.length:=by omega
   subst hie
   rw[ZM] at hcur
   rw[hcur]
   simp-implicitDefEqProofs[]
 refine key.frz V.n (by rw[hlen];exact YY _) (λt v h ⟨e,_⟩=>by cases e) ?_
 rintro v h ⟨e,rfl⟩
 cases e
 refine⟨_,V.I (aT g st l).2,by rw[YZ,hlen];omega,hlen _,.one ?_ .nil,zm (V.ok _),rfl,rfl⟩
 have ht:=Ba (r:=[]) (o:=bx 4 (exR (aT g st l).1)) (hlen (aT g st l).2)
 have hh:exR (aT g st l).1=((aT g st l).1.map Ex.cs).map (·.map .p):=by simp[exR]
 rw[hh] at ht⊢
 exact BE ht (λx hx=>by obtain⟨b,_,rfl⟩:=Zh.1 hx;simp)
theorem LJ{σ:Type}(V:Vis σ)(g:σ->Sm->Sm × σ)(inv:Nat->σ->Prop)(l:List Sm)(hb:l.length<=1073741824)(hn:0<V.n)
 (hv:∀(i:Nat) st (h:i<l.length),inv i st->inv (i+1) (g st l[i]).2/\AC Tryz.prog G V.F (.agg (l[i].cs.map .p)::V.caps) (V.I st) λx h'=>x= .ret (.agg ((g st l[i]).1.cs.map .p))/\h'=V.I (g st l[i]).2)(st:σ)(h0:inv 0 st):
 AC Tryz.prog G cK [.p (smL l),.fn (.func V.F) V.caps] (V.I st) λx h=>x= .ret (.p (smL (aT g st l).1))/\h=V.I (aT g st l).2:=by
 have hxl:∀l,smL l= .lst 5 (l.map Sm.cs):=λ_=>rfl
 have hlen:=V.len
 have hcb:=V.capsOk
 have hinv:∀i,i<=l.length->inv i (aT g st (l.take i)).2:=λi hi=>by
  have:=rz (g:=g) (inv:=inv) (l:=l) (st:=st) (k:=0) h0 (λi st h hi=>by
   rw[Zz] at hi⊢;exact(hv i st h hi).1) i hi
  rwa[Zz] at this
 have hRp:∀l:List Sm,∀x∈smR l,ah 0 x:=ep
 have hRl:∀l:List Sm,(smR l).length=l.length:=λl=>by simp[smR]
 have hRa:∀(l:List Sm) (y:Sm),smR (l++[y])=smR l++[y.cs.map .p]:=λl y=>by simp[smR]
 have key:AC Tryz.prog G cK [.p (smL l),.fn (.func V.F) V.caps] (V.I st) λx h=>x= .ret (slE V.n 5 (smR (aT g st l).1))/\h=V.I (aT g st l).2++[bx 5 (smR (aT g st l).1)]:=by
  refine AC.go po ?_
  simp-implicitDefEqProofs[iF,hxl]
  refine aN (λi:Nat=>aj 22 [(5,slE V.n 5 (smR (aT g st (l.take i)).1)),(0,.p (smL l)),(1,.fn (.func V.F) V.caps),(8,.p (smL l)),(9,.p (.int .i64 l.length)),(10,.p (.int .i64 i))])
   (λi=>V.I (aT g st (l.take i)).2++[bx 5 (smR (aT g st (l.take i)).1)]) (λi=>i<=l.length) (λi=>l.length-i) 0 (by simp) ?_ ?_
  ·have e:bx 5 (smR (aT g st (l.take 0)).1)= .dead:=rfl
   rw[e]
   exact kQ (by rw[hlen];exact YY _) (by rw[hlen];exact hn) (by rw[hlen];exact V.ok st) (by simp[below,hxl,hcb,hlen,aT,smR,pM])
  intro i hi
  have hT:=λh=>sX (g:=g) (l:=l) (st:=st) (i:=i) h
  have hi2:=hinv i hi
  have hml:=sf g (l.take i) st
  rw[Zl,Nat.min_eq_left hi] at hml
  generalize hcur:aT g st (l.take i)=cur at hT hi2 hml⊢
  obtain⟨out,s⟩:=cur
  simp only at hT hi2 hml⊢
  simp-implicitDefEqProofs[hxl]
  refine bi (λhc=>?_) (λhc=>?_)
  ·simp at hc
   have hg:=YO hc
   have hT:=hT hc
   obtain⟨_,hA⟩:=hv i s hc hi2
   generalize l[i]=x at hg hT hA
   have hkc:=x.cs_eq
   have hyc:=(g s x).1.cs_eq
   rw[hkc] at hA
   simp-implicitDefEqProofs[hg,hkc,hlen]
   refine(V.pre G hA _ ⟨by simp[below],hcb⟩).mono ?_
   rintro r h ⟨rfl,rfl⟩
   rw[hyc]
   simp-implicitDefEqProofs[aa,hlen]
   have hol:=hRl out
   refine⟨⟨by omega,by omega⟩,i+1,hc,by omega,?_⟩
   rw[hT]
   simp only[hRa]
   rw[sP _ (by simp),oQ _ (by simp),hyc]
   refine Fj (mid:=[_,_,_]) (s:=[]) (hlen _) rfl (YY _) (V.ok _) ?_ ?_ ?_
   ·intro x hx
    rcases YV.1 hx with h|h
    ·exact hRp _ x h
    ·rw[YQ.1 h];simp
   ·simp[below,hxl,hcb,w1 (i:=i) (by omega)]
   ·simp
  ·simp at hc
   have hie:i=l.length:=by omega
   subst hie
   rw[ZM] at hcur
   rw[hcur]
   simp-implicitDefEqProofs[]
 refine key.frz V.n (by rw[hlen];exact YY _) (λt v h ⟨e,_⟩=>by cases e) ?_
 rintro v h ⟨e,rfl⟩
 cases e
 refine⟨_,V.I (aT g st l).2,by rw[YZ,hlen];omega,hlen _,.one ?_ .nil,zm (V.ok _),rfl,rfl⟩
 have ht:=Ba (r:=[]) (o:=bx 5 (smR (aT g st l).1)) (hlen (aT g st l).2)
 have hh:smR (aT g st l).1=((aT g st l).1.map Sm.cs).map (·.map .p):=by simp[smR]
 rw[hh] at ht⊢
 exact BE ht (λx hx=>by obtain⟨b,_,rfl⟩:=Zh.1 hx;simp)
theorem Sf{σ:Type}(V:Vis σ)(g:σ->Fd->Fd × σ)(inv:Nat->σ->Prop)(l:List Fd)(hb:l.length<=1073741824)(hn:0<V.n)
 (hv:∀(i:Nat) st (h:i<l.length),inv i st->inv (i+1) (g st l[i]).2/\AC Tryz.prog G V.F (.agg (l[i].cs.map .p)::V.caps) (V.I st) λx h'=>x= .ret (.agg ((g st l[i]).1.cs.map .p))/\h'=V.I (g st l[i]).2)(st:σ)(h0:inv 0 st):
 AC Tryz.prog G dw [.p (fdL l),.fn (.func V.F) V.caps] (V.I st) λx h=>x= .ret (.p (fdL (aT g st l).1))/\h=V.I (aT g st l).2:=by
 have hxl:∀l,fdL l= .lst 3 (l.map Fd.cs):=λ_=>rfl
 have hlen:=V.len
 have hcb:=V.capsOk
 have hinv:∀i,i<=l.length->inv i (aT g st (l.take i)).2:=λi hi=>by
  have:=rz (g:=g) (inv:=inv) (l:=l) (st:=st) (k:=0) h0 (λi st h hi=>by
   rw[Zz] at hi⊢;exact(hv i st h hi).1) i hi
  rwa[Zz] at this
 have hRp:∀l:List Fd,∀x∈aS l,ah 0 x:=sN
 have hRl:∀l:List Fd,(aS l).length=l.length:=λl=>by simp[aS]
 have hRa:∀(l:List Fd) (y:Fd),aS (l++[y])=aS l++[y.cs.map .p]:=λl y=>by simp[aS]
 have key:AC Tryz.prog G dw [.p (fdL l),.fn (.func V.F) V.caps] (V.I st) λx h=>x= .ret (slE V.n 3 (aS (aT g st l).1))/\h=V.I (aT g st l).2++[bx 3 (aS (aT g st l).1)]:=by
  refine AC.go rn ?_
  simp-implicitDefEqProofs[jY,hxl]
  refine aN (λi:Nat=>aj 22 [(5,slE V.n 3 (aS (aT g st (l.take i)).1)),(0,.p (fdL l)),(1,.fn (.func V.F) V.caps),(8,.p (fdL l)),(9,.p (.int .i64 l.length)),(10,.p (.int .i64 i))])
   (λi=>V.I (aT g st (l.take i)).2++[bx 3 (aS (aT g st (l.take i)).1)]) (λi=>i<=l.length) (λi=>l.length-i) 0 (by simp) ?_ ?_
  ·have e:bx 3 (aS (aT g st (l.take 0)).1)= .dead:=rfl
   rw[e]
   exact kQ (by rw[hlen];exact YY _) (by rw[hlen];exact hn) (by rw[hlen];exact V.ok st) (by simp[below,hxl,hcb,hlen,aT,aS,pM])
  intro i hi
  have hT:=λh=>sX (g:=g) (l:=l) (st:=st) (i:=i) h
  have hi2:=hinv i hi
  have hml:=sf g (l.take i) st
  rw[Zl,Nat.min_eq_left hi] at hml
  generalize hcur:aT g st (l.take i)=cur at hT hi2 hml⊢
  obtain⟨out,s⟩:=cur
  simp only at hT hi2 hml⊢
  simp-implicitDefEqProofs[hxl]
  refine bi (λhc=>?_) (λhc=>?_)
  ·simp at hc
   have hg:=YO hc
   have hT:=hT hc
   obtain⟨_,hA⟩:=hv i s hc hi2
   generalize l[i]=x at hg hT hA
   have hkc:=x.cs_eq'
   have hyc:=(g s x).1.cs_eq'
   rw[hkc] at hA
   simp-implicitDefEqProofs[hg,hkc,hlen]
   refine(V.pre G hA _ ⟨by simp[below],hcb⟩).mono ?_
   rintro r h ⟨rfl,rfl⟩
   rw[hyc]
   simp-implicitDefEqProofs[aa,hlen]
   have hol:=hRl out
   refine⟨⟨by omega,by omega⟩,i+1,hc,by omega,?_⟩
   rw[hT]
   simp only[hRa]
   rw[sP _ (by simp),oQ _ (by simp),hyc]
   refine Fj (mid:=[_,_,_]) (s:=[]) (hlen _) rfl (YY _) (V.ok _) ?_ ?_ ?_
   ·intro x hx
    rcases YV.1 hx with h|h
    ·exact hRp _ x h
    ·rw[YQ.1 h];simp
   ·simp[below,hxl,hcb,w1 (i:=i) (by omega)]
   ·simp
  ·simp at hc
   have hie:i=l.length:=by omega
   subst hie
   rw[ZM] at hcur
   rw[hcur]
   simp-implicitDefEqProofs[]
 refine key.frz V.n (by rw[hlen];exact YY _) (λt v h ⟨e,_⟩=>by cases e) ?_
 rintro v h ⟨e,rfl⟩
 cases e
 refine⟨_,V.I (aT g st l).2,by rw[YZ,hlen];omega,hlen _,.one ?_ .nil,zm (V.ok _),rfl,rfl⟩
 have ht:=Ba (r:=[]) (o:=bx 3 (aS (aT g st l).1)) (hlen (aT g st l).2)
 have hh:aS (aT g st l).1=((aT g st l).1.map Fd.cs).map (·.map .p):=by simp[aS]
 rw[hh] at ht⊢
 exact BE ht (λx hx=>by obtain⟨b,_,rfl⟩:=Zh.1 hx;simp)
theorem Tf{σ:Type}(V:Vis σ)(g:σ->List UInt8->List UInt8 × σ)(inv:Nat->σ->Prop)(l:List (List UInt8))(hb:l.length<=1073741824)(hn:0<V.n)
 (hv:∀(i:Nat) st (h:i<l.length),inv i st->inv (i+1) (g st l[i]).2/\AC Tryz.prog G V.F (.p (.str l[i])::V.caps) (V.I st) λx h'=>x= .ret (.p (.str (g st l[i]).1))/\h'=V.I (g st l[i]).2)(st:σ)(h0:inv 0 st):
 AC Tryz.prog G dF [.p (al l),.fn (.func V.F) V.caps] (V.I st) λx h=>x= .ret (.p (al (aT g st l).1))/\h=V.I (aT g st l).2:=by
 have hxl:∀l,al l= .lst 1 (l.map λw=>[.str w]):=λ_=>rfl
 have hlen:=V.len
 have hcb:=V.capsOk
 have hinv:∀i,i<=l.length->inv i (aT g st (l.take i)).2:=λi hi=>by
  have:=rz (g:=g) (inv:=inv) (l:=l) (st:=st) (k:=0) h0 (λi st h hi=>by
   rw[Zz] at hi⊢;exact(hv i st h hi).1) i hi
  rwa[Zz] at this
 have hRp:∀l:List (List UInt8),∀x∈tw l,ah 0 x:=pj
 have hRl:∀l:List (List UInt8),(tw l).length=l.length:=λl=>by simp[tw]
 have hRa:∀(l:List (List UInt8)) (y:List UInt8),tw (l++[y])=tw l++[[.p (.str y)]]:=λl y=>by simp[tw]
 have key:AC Tryz.prog G dF [.p (al l),.fn (.func V.F) V.caps] (V.I st) λx h=>x= .ret (slE V.n 1 (tw (aT g st l).1))/\h=V.I (aT g st l).2++[bx 1 (tw (aT g st l).1)]:=by
  refine AC.go rR ?_
  simp-implicitDefEqProofs[lr,hxl]
  refine aN (λi:Nat=>aj 22 [(5,slE V.n 1 (tw (aT g st (l.take i)).1)),(0,.p (al l)),(1,.fn (.func V.F) V.caps),(8,.p (al l)),(9,.p (.int .i64 l.length)),(10,.p (.int .i64 i))])
   (λi=>V.I (aT g st (l.take i)).2++[bx 1 (tw (aT g st (l.take i)).1)]) (λi=>i<=l.length) (λi=>l.length-i) 0 (by simp) ?_ ?_
  ·have e:bx 1 (tw (aT g st (l.take 0)).1)= .dead:=rfl
   rw[e]
   exact kQ (by rw[hlen];exact YY _) (by rw[hlen];exact hn) (by rw[hlen];exact V.ok st) (by simp[below,hxl,hcb,hlen,aT,tw,pM])
  intro i hi
  have hT:=λh=>sX (g:=g) (l:=l) (st:=st) (i:=i) h
  have hi2:=hinv i hi
  have hml:=sf g (l.take i) st
  rw[Zl,Nat.min_eq_left hi] at hml
  generalize hcur:aT g st (l.take i)=cur at hT hi2 hml⊢
  obtain⟨out,s⟩:=cur
  simp only at hT hi2 hml⊢
  simp-implicitDefEqProofs[hxl]
  refine bi (λhc=>?_) (λhc=>?_)
  ·simp at hc
   have hg:=YO hc
   have hT:=hT hc
   obtain⟨_,hA⟩:=hv i s hc hi2
   generalize l[i]=x at hg hT hA
   simp-implicitDefEqProofs[hg,hlen]
   refine(V.pre G hA _ ⟨by simp[below],hcb⟩).mono ?_
   rintro r h ⟨rfl,rfl⟩
   simp-implicitDefEqProofs[aa,hlen]
   have hol:=hRl out
   refine⟨⟨by omega,by omega⟩,i+1,hc,by omega,?_⟩
   rw[hT]
   simp only[hRa]
   rw[sP _ (by simp),oQ _ (by simp)]
   refine Fj (mid:=[_,_]) (s:=[]) (hlen _) rfl (YY _) (V.ok _) ?_ ?_ ?_
   ·intro x hx
    rcases YV.1 hx with h|h
    ·exact hRp _ x h
    ·rw[YQ.1 h];simp
   ·simp[below,hxl,hcb,w1 (i:=i) (by omega)]
   ·simp
  ·simp at hc
   have hie:i=l.length:=by omega
   subst hie
   rw[ZM] at hcur
   rw[hcur]
   simp-implicitDefEqProofs[]
 refine key.frz V.n (by rw[hlen];exact YY _) (λt v h ⟨e,_⟩=>by cases e) ?_
 rintro v h ⟨e,rfl⟩
 cases e
 refine⟨_,V.I (aT g st l).2,by rw[YZ,hlen];omega,hlen _,.one ?_ .nil,zm (V.ok _),rfl,rfl⟩
 have ht:=Ba (r:=[]) (o:=bx 1 (tw (aT g st l).1)) (hlen (aT g st l).2)
 have hh:tw (aT g st l).1=((aT g st l).1.map λw=>[PV.str w]).map (·.map .p):=by simp[tw]
 rw[hh] at ht⊢
 exact BE ht (λx hx=>by obtain⟨b,_,rfl⟩:=Zh.1 hx;rfl)
end
section
variable (G:am)
theorem oY(b:Bool):VF Tryz.prog G mz [.p (.bool b)] (.p (.int .i64 (tr5 b))):=by
 refine AC.go By ?_
 cases b<;>simp-implicitDefEqProofs[sH,tr5]
def AE:Option Int->AV
 |some q=> .tup [.p (.int .i64 q),.p (.bool true)]
 |none=> .tup [.p (.int .i64 0),.p (.bool false)]
theorem NL(a b:Int):VF Tryz.prog G iU [.p (.int .i64 11),.p (.int .i64 a),.p (.int .i64 b)] (.tup [.p (.int .i64 (tr5 (decide (a=0)))),.p (.bool true)]):=by
 refine AC.go vX ?_
 simp-implicitDefEqProofs[py]
 refine(oY G _).use ?_
 simp-implicitDefEqProofs[]
theorem Ge(o a b:Int)(ho:3<=o)(h9:o<=10)(ha:V5 a)(hb:V5 b):VF Tryz.prog G iU [.p (.int .i64 o),.p (.int .i64 a),.p (.int .i64 b)] (AE (ar5 o a b)):=by
 obtain⟨a0,a1⟩:=ha
 obtain⟨b0,b1⟩:=hb
 refine AC.go vX ?_
 have hm:a*b<=65025:=by
  have h1:=Int.mul_le_mul_of_nonneg_right a1 b0
  omega
 have hm0:0<=a*b:=Int.mul_nonneg a0 b0
 have ho':o=3\/o=4\/o=5\/o=6\/o=7\/o=8\/o=9\/o=10:=by omega
 rcases ho' with rfl|rfl|rfl|rfl|rfl|rfl|rfl|rfl
 all_goals simp-implicitDefEqProofs[py,ar5,Gn]
 ·rw[ab (by omega) (by omega),Int.tmod_eq_emod_of_nonneg (by omega)];rfl
 ·have hw:IntKind.i64.wrap (a-b)=a-b:=ab (by omega) (by omega)
  rw[hw,ab (by omega) (by omega),Int.tmod_eq_emod_of_nonneg (by omega)]
  have:(a-b+256)%256=(a-b)%256:=by omega
  rw[this];rfl
 ·rw[ab (by omega) (by omega),Int.tmod_eq_emod_of_nonneg (by omega)];rfl
 ·refine bi (λh=>?_) (λh=>?_)
  ·simp at h
   simp-implicitDefEqProofs[h,AE]
  ·simp at h
   simp-implicitDefEqProofs[h,AE]
   rw[Int.tdiv_eq_ediv_of_nonneg (by omega)]
   have h1:a/b<=a:=Int.ediv_le_self b a0
   have h2:0<=a/b:=Int.ediv_nonneg a0 b0
   exact ab (by omega) (by omega)
 ·refine bi (λh=>?_) (λh=>?_)
  ·simp at h
   simp-implicitDefEqProofs[h,AE]
  ·simp at h
   simp-implicitDefEqProofs[h,AE]
   rw[Int.tmod_eq_emod_of_nonneg (by omega)]
 ·refine(oY G _).use ?_
  simp-implicitDefEqProofs[AE]
 ·refine(oY G _).use ?_
  simp-implicitDefEqProofs[AE]
 ·by_cases h:a=0
  ·simp-implicitDefEqProofs[h]
   refine(oY G _).use ?_
   simp-implicitDefEqProofs[AE]
  ·simp-implicitDefEqProofs[h]
   refine(oY G _).use ?_
   simp-implicitDefEqProofs[AE]
end
section
def dS:O5 Int->ARes
 | .ok n=> .ret (.p (.int .i64 n))
 | .st c=> .pan bU (.int .i64 c)
structure PL (M:Nat) (l:List Fd) (fuel sid:Nat) (h:List AO) (s':S5) (sv':AV) (sid':Nat) (h':List AO):Prop where
 run:MI M l fuel sv' sid' s' h'
 fr:Fr [M,sid] h h'
 fs:sid'=sid\/h.length<=sid'
def PxL(M:Nat)(l:List Fd)(fuel sid:Nat)(h:List AO)(s':S5)(r:O5 Int)(x:ARes)(h':List AO):Prop:=x=dS r/\∃sv' sid',PL M l fuel sid h s' sv' sid' h'
structure CI (h:List AO) (u:AV) (v:List Sc5) (I:List Nat) (M sid:Nat):Prop where
 chn:Chn h u v I
 nd:I.Nodup
 sn:sid∉I
 mn:M∉I
section
variable {M:Nat} {l:List Fd} {fuel sid:Nat} {h h' h2 os:List AO} {s s1 s':S5} {sv sv1 sv':AV} {sid1 sid':Nat} {u:AV} {v:List Sc5} {I:List Nat}
theorem CI.more(C:CI h u v I M sid)(os:List AO):CI (h++os) u v I M sid:=⟨C.chn.more os,C.nd,C.sn,C.mn⟩
theorem PL.from(P:PL M l fuel sid (h++os) s' sv' sid' h'):PL M l fuel sid h s' sv' sid' h':=⟨P.run,P.fr.from,by
 rcases P.fs with e|e
 ·exact .inl e
 ·exact .inr (by simp at e;omega)⟩
theorem CI.after(C:CI h u v I M sid)(P:PL M l fuel sid h s' sv' sid' h'):CI h' u v I M sid':=
 ⟨C.chn.frame λi hi=>P.fr.2 i (C.chn.lt i hi) (by simp only[Za,Zj,or_false,not_or];exact⟨λe=>C.mn (e▸hi),λe=>C.sn (e▸hi)⟩),C.nd,λhm=>by
   rcases P.fs with e|e
   ·exact C.sn (e▸hm)
   ·have:=C.chn.lt _ hm;omega,C.mn⟩
theorem PL.keep(H:MI M l fuel sv sid s h)(P:PL M l fuel sid (h++os) s' sv' sid' h'){i:Nat}(hi:i<os.length):h'[h.length+i]?=os[i]?:=by
 have a:=H.lt
 have b:=H.said.lt
 rw[P.fr.2 (h.length+i) (by simp;omega) (by simp;omega),YT (by omega),Zw]
theorem PL.trans(P:PL M l fuel sid h s1 sv1 sid1 h2)(Q:PL M l fuel sid1 h2 s' sv' sid' h'):PL M l fuel sid h s' sv' sid' h':=by
 refine⟨Q.run,P.fr.trans Q.fr λi hi=>?_,?_⟩
 ·have:=P.fs
  simp only[Za,Zj,or_false] at hi⊢
  omega
 ·have:=P.fs
  have:=Q.fs
  have:=P.fr.1
  omega
theorem PL.refl(H:MI M l fuel sv sid s h)(os:List AO):PL M l fuel sid h s sv sid (h++os):=⟨H.more os,Fr.more _ _ _,.inl rfl⟩
end
variable (G:am)
def PxC(l:List Fd)(M k fuel:Nat)(e:Ex):Prop:=∀v s s' r,Ev l (.ex k v s e s' r)->In5 v s->∀u I sid sv h,MI M l fuel sv sid s h->CI h u v I M sid->
 AC Tryz.prog G cd [.ptr M 20 0 0,.agg (e.cs.map .p),u] h (PxL M l fuel sid h s' r)
inductive AgV (h:List AO) (lo sid:Nat):AV->List Int->Prop where
 |nn:AgV h lo sid .nils []
 |ss (aid:Nat) (xs:List Int):h[aid]?=some (bz xs)->lo<=aid->aid≠sid->AgV h lo sid (.sl aid 1 0 xs.length) xs
 |pp (xs:List Int):AgV h lo sid (.p (bl xs)) xs
def PcC(l:List Fd)(M k fuel:Nat):Prop:=∀us s s' r,Ev l (.cal k us s s' r)->(∀n∈us,V5 n)->G5 s->M5 s<=4000->∀av sid sv h,MI M l fuel sv sid s h->AgV h 0 sid av us->
 AC Tryz.prog G ed [.ptr M 20 0 0,.p (.int .i64 k),av] h (PxL M l fuel sid h s' r)
theorem Us{l:List Fd}{M k fuel:Nat}(hC:∀e:Ex,e.op=13->WfE l k e->(∀a∈e.kids,PxC G l M k fuel a)->PxC G l M k fuel e):∀(N:Nat) (e:Ex),e.sz<=N->WfE l k e->PxC G l M k fuel e:=by
 intro N
 induction N with
 |zero=>intro e he;have:=e.sz_eq;omega
 |succ N ih=>
  intro e hN W
  have hsz:=e.sz_eq
  have ihk:∀a∈e.kids,PxC G l M k fuel a:=λa ha=>ih a (by have:=bS ha;omega) (W.kid ha)
  by_cases hop:e.op=13
  ·exact hC e hop W ihk
  intro v s s' r hE I0 u I sid sv h H C
  have hec:=e.cs_eq
  have hkl:=bB e.kids
  have hsl:exL e.kids= .lst 4 (e.kids.map Ex.cs):=rfl
  have fin0:∀n os,PxL M l fuel sid h s (.ok n) (.ret (.p (.int .i64 n))) (h++os):=λn os=>⟨rfl,_,_,PL.refl H os⟩
  obtain⟨e0,rfl,_,hue⟩:=C.chn.is
  obtain⟨box,hbox⟩:∃box,box=AO.row 4 [[.p (.int .i64 e.op),.p (.int .i64 e.n),.p (.str e.name),.p (.lst 4 (e.kids.map Ex.cs))]]:=⟨_,rfl⟩
  have first:∀a s1 r1 (Q:ARes->List AO->Prop),a∈e.kids->Ev l (.ex k v s a s1 r1)->(∀sv1 sid1 h2,PL M l fuel sid (h++[box]) s1 sv1 sid1 h2->CI h2 (.ptr e0 2 0 0) v I M sid1->h2[h.length]?=some box->In5 v s1->(∀n,r1= .ok n->V5 n)->Q (dS r1) h2)->
   AC Tryz.prog G cd [.ptr M 20 0 0,.agg [.p (.int .i64 a.op),.p (.int .i64 a.n),.p (.str a.name),.p (exL a.kids)],.ptr e0 2 0 0] (h++[box]) Q:=λa s1 r1 Q ha hE1 hq=>by
   have hac:a.cs.map AV.p=[.p (.int .i64 a.op),.p (.int .i64 a.n),.p (.str a.name),.p (exL a.kids)]:=by rw[a.cs_eq];rfl
   rw[←hac]
   refine(ihk a ha v s s1 r1 hE1 I0 _ I sid sv _ (H.more [box]) (C.more [box])).mono ?_
   rintro z h2 ⟨rfl,sv1,sid1,P⟩
   have I1:=I0.ex hE1
   exact hq sv1 sid1 h2 P ((C.more [box]).after P) (by have:=PL.keep H P (i:=0) (by simp);simpa using this) I1.1 I1.2
  have second:∀a s1 s2 r2 sv1 sid1 h2 (Q:ARes->List AO->Prop),a∈e.kids->Ev l (.ex k v s1 a s2 r2)->In5 v s1->PL M l fuel sid (h++[box]) s1 sv1 sid1 h2->CI h2 (.ptr e0 2 0 0) v I M sid1->
   (∀sv2 sid2 h3,PL M l fuel sid (h++[box]) s2 sv2 sid2 h3->h3[h.length]?=some box->In5 v s2->(∀n,r2= .ok n->V5 n)->Q (dS r2) h3)->
   AC Tryz.prog G cd [.ptr M 20 0 0,.agg [.p (.int .i64 a.op),.p (.int .i64 a.n),.p (.str a.name),.p (exL a.kids)],.ptr e0 2 0 0] h2 Q:=λa s1 s2 r2 sv1 sid1 h2 Q ha hE1 I1 P1 C1 hq=>by
   have hac:a.cs.map AV.p=[.p (.int .i64 a.op),.p (.int .i64 a.n),.p (.str a.name),.p (exL a.kids)]:=by rw[a.cs_eq];rfl
   rw[←hac]
   refine(ihk a ha v s1 s2 r2 hE1 I1 _ I sid1 sv1 _ P1.run C1).mono ?_
   rintro z h3 ⟨rfl,sv2,sid2,P⟩
   have I2:=I1.ex hE1
   exact hq sv2 sid2 h3 (P1.trans P) (by have:=PL.keep H (P1.trans P) (i:=0) (by simp);simpa using this) I2.1 I2.2
  have kids2:3<=e.op->e.op<=10->∃a b,e.kids=[a,b]:=λq1 q2=>by
   obtain⟨d,hd⟩:=W.form
   obtain⟨f1,f2,_,_⟩:=Ew hd
   have hlen:e.kids.length=2:=by
    have:e.op=3\/e.op=4\/e.op=5\/e.op=6\/e.op=7\/e.op=8\/e.op=9\/e.op=10:=by omega
    rcases this with q|q|q|q|q|q|q|q<;>rw[q] at f1 f2<;>simp[loK,hiK] at f1 f2<;>omega
   match hk:e.kids,hlen with
   |[a,b],_=>exact⟨a,b,rfl⟩
  refine AC.go lT ?_
  cases hE with
  |num hop hv=>
   simp-implicitDefEqProofs[aw,hec,hop]
   exact fin0 _ _
  | @var _ _ _ _ n hop hv=>
    simp-implicitDefEqProofs[aw,hec,hop]
    refine(KO G (C.more _).chn C.nd hv).mono ?_
    rintro z h1 ⟨rfl,e1,rfl,m,c,w,g1,g2,g3,g4,g5⟩
    have hq:=Bx e.name c
    rw[g3] at hq
    simp-implicitDefEqProofs[aa,g1,g2,hq]
    exact fin0 _ _
  |call h0 _ _ _ _=>exact(hop h0).elim
  |callS h0 _=>exact(hop h0).elim
  | @firstS _ _ _ _ a rr _ c h1 h2 h3 h4=>
    have ha:a∈e.kids:=by rw[h3];simp
    have n1:¬e.op=1:=by omega
    have n2:¬e.op=2:=by omega
    have hg:e.kids[0]?=some a:=by rw[h3];rfl
    have hka:=a.cs_eq
    by_cases o10:e.op=10
    ·rw[o10] at hbox
     simp-implicitDefEqProofs[aw,hec,hsl,hg,hka,o10]
     rw[←hbox]
     refine first a _ _ _ ha h4 λsv1 sid1 h2 P C1 b1 I1 hv=>?_
     simp-implicitDefEqProofs[dS]
     exact⟨rfl,sv1,sid1,P.from⟩
    by_cases o12:e.op=12
    ·rw[o12] at hbox
     simp-implicitDefEqProofs[aw,hec,hsl,hg,hka,o12]
     rw[←hbox]
     refine first a _ _ _ ha h4 λsv1 sid1 h2 P C1 b1 I1 hv=>?_
     simp-implicitDefEqProofs[dS]
     exact⟨rfl,sv1,sid1,P.from⟩
    simp-implicitDefEqProofs[aw,hec,hsl,hg,hka,n1,n2,hop,o10,o12]
    rw[←hbox]
    refine first a _ _ _ ha h4 λsv1 sid1 h2 P C1 b1 I1 hv=>?_
    simp-implicitDefEqProofs[dS]
    exact⟨rfl,sv1,sid1,P.from⟩
  | @and0 _ _ _ _ a b _ h1 h2 h3=>
    have ha:a∈e.kids:=by rw[h2];simp
    have n1:¬e.op=1:=by omega
    have n2:¬e.op=2:=by omega
    have hg:e.kids[0]?=some a:=by rw[h2];rfl
    have hka:=a.cs_eq
    rw[h1] at hbox
    simp-implicitDefEqProofs[aw,hec,hsl,hg,hka,n1,n2,hop,h1]
    rw[←hbox]
    refine first a _ _ _ ha h3 λsv1 sid1 h2 P C1 b1 I1 hv=>?_
    simp-implicitDefEqProofs[dS,aa]
    exact⟨rfl,sv1,sid1,P.from⟩
  | @and1 _ _ _ _ a b s1 n _ m h1 h2 h3 h4 h5=>
    have ha:a∈e.kids:=by rw[h2];simp
    have n1:¬e.op=1:=by omega
    have n2:¬e.op=2:=by omega
    have hg:e.kids[0]?=some a:=by rw[h2];rfl
    have hka:=a.cs_eq
    have hb:b∈e.kids:=by rw[h2];simp
    have hgb:e.kids[1]?=some b:=by rw[h2];rfl
    have hkb:=b.cs_eq
    rw[h1] at hbox
    simp-implicitDefEqProofs[aw,hec,hsl,hg,hka,n1,n2,hop,h1]
    rw[←hbox]
    refine first a _ _ _ ha h3 λsv1 sid1 h2 P C1 b1 I1 hv=>?_
    rw[hbox] at b1
    simp-implicitDefEqProofs[dS,aa,h4,b1,hsl,hgb,hkb]
    refine second b _ _ _ _ _ _ _ hb h5 I1 P C1 λsv2 sid2 h3 P2 b2 I2 hv2=>?_
    have hA:ar5 10 1 m=some (tr5 (decide (m≠0))):=by simp[ar5]
    have hT:=Ge G 10 1 m (by omega) (by omega) ⟨by omega,by omega⟩ (hv2 m rfl)
    rw[hA] at hT
    simp only[AE] at hT
    simp-implicitDefEqProofs[dS,aa]
    refine hT.use ?_
    simp-implicitDefEqProofs[]
    exact⟨by simp[dS],sv2,sid2,P2.from⟩
  | @andS _ _ _ _ a b s1 n _ c h1 h2 h3 h4 h5=>
    have ha:a∈e.kids:=by rw[h2];simp
    have n1:¬e.op=1:=by omega
    have n2:¬e.op=2:=by omega
    have hg:e.kids[0]?=some a:=by rw[h2];rfl
    have hka:=a.cs_eq
    have hb:b∈e.kids:=by rw[h2];simp
    have hgb:e.kids[1]?=some b:=by rw[h2];rfl
    have hkb:=b.cs_eq
    rw[h1] at hbox
    simp-implicitDefEqProofs[aw,hec,hsl,hg,hka,n1,n2,hop,h1]
    rw[←hbox]
    refine first a _ _ _ ha h3 λsv1 sid1 h2 P C1 b1 I1 hv=>?_
    rw[hbox] at b1
    simp-implicitDefEqProofs[dS,aa,h4,b1,hsl,hgb,hkb]
    refine second b _ _ _ _ _ _ _ hb h5 I1 P C1 λsv2 sid2 h3 P2 b2 I2 hv2=>?_
    simp-implicitDefEqProofs[dS]
    exact⟨rfl,sv2,sid2,P2.from⟩
  | @not _ _ _ _ a _ n h1 h2 h3=>
    have ha:a∈e.kids:=by rw[h2];simp
    have n1:¬e.op=1:=by omega
    have n2:¬e.op=2:=by omega
    have hg:e.kids[0]?=some a:=by rw[h2];rfl
    have hka:=a.cs_eq
    have hl1:e.kids.length=1:=by rw[h2];rfl
    rw[h1] at hbox
    simp-implicitDefEqProofs[aw,hec,hsl,hg,hka,n1,n2,hop,h1]
    rw[←hbox]
    refine first a _ _ _ ha h3 λsv1 sid1 h2 P C1 b1 I1 hv=>?_
    rw[hbox] at b1
    simp-implicitDefEqProofs[dS,aa,b1,hsl,hl1]
    refine(NL G n 0).use ?_
    simp-implicitDefEqProofs[]
    exact⟨by simp[dS],sv1,sid1,P.from⟩
  | @at_ _ _ _ _ a s1 n m h1 h2 h3 h4 h5=>
    have ha:a∈e.kids:=by rw[h2];simp
    have n1:¬e.op=1:=by omega
    have n2:¬e.op=2:=by omega
    have hg:e.kids[0]?=some a:=by rw[h2];rfl
    have hka:=a.cs_eq
    rw[h1] at hbox
    simp-implicitDefEqProofs[aw,hec,hsl,hg,hka,n1,n2,hop,h1]
    rw[←hbox]
    refine first a _ _ _ ha h3 λsv1 sid1 h2 P C1 b1 I1 hv=>?_
    simp-implicitDefEqProofs[dS,aa]
    refine(Jw G P.run n (by omega)).mono ?_
    rintro z h3 hz
    rw[if_neg (by omega)] at hz
    obtain⟨rfl,rfl⟩:=hz
    have hm:=P.run.men
    simp only[kX] at hm
    have hcl:∀a b c d,(a::b::c::d::s'.cells.map (λn=>AV.p (.int .i64 n)))[4+n]?=some (.p (.int .i64 m)):=λa b c d=>by
     rw[show 4+n=n+1+1+1+1 by omega]
     simp[h5]
    simp-implicitDefEqProofs[aa,hm,hcl]
    exact⟨rfl,sv1,sid1,P.from⟩
  | @atS _ _ _ _ a _ n h1 h2 h3 h4=>
    have ha:a∈e.kids:=by rw[h2];simp
    have n1:¬e.op=1:=by omega
    have n2:¬e.op=2:=by omega
    have hg:e.kids[0]?=some a:=by rw[h2];rfl
    have hka:=a.cs_eq
    rw[h1] at hbox
    simp-implicitDefEqProofs[aw,hec,hsl,hg,hka,n1,n2,hop,h1]
    rw[←hbox]
    refine first a _ _ _ ha h3 λsv1 sid1 h2 P C1 b1 I1 hv=>?_
    simp-implicitDefEqProofs[dS,aa]
    obtain⟨q0,q1⟩:=hv n rfl
    obtain⟨i,rfl⟩:∃i:Nat,n=(i:Int):=⟨n.toNat,by omega⟩
    refine(Jw G P.run i (by omega)).mono ?_
    rintro z h3 hz
    rw[if_pos (by omega)] at hz
    obtain⟨rfl,rfl⟩:=hz
    simp-implicitDefEqProofs[]
    exact⟨rfl,sv1,sid1,P.from⟩
  | @bin _ _ _ _ a b s1 n _ m q h1 h2 h3 h4 h5 h6=>
    have ha:a∈e.kids:=by rw[h3];simp
    have n1:¬e.op=1:=by omega
    have n2:¬e.op=2:=by omega
    have hg:e.kids[0]?=some a:=by rw[h3];rfl
    have hka:=a.cs_eq
    have hb:b∈e.kids:=by rw[h3];simp
    have hgb:e.kids[1]?=some b:=by rw[h3];rfl
    have hkb:=b.cs_eq
    have hl2:e.kids.length=2:=by rw[h3];rfl
    have hgi:e.kids[1]'(by omega)=b:=(YL.1 hgb).2
    have o10:¬e.op=10:=by omega
    have o12:¬e.op=12:=by omega
    simp-implicitDefEqProofs[aw,hec,hsl,hg,hka,n1,n2,hop,o10,o12]
    rw[←hbox]
    refine first a _ _ _ ha h4 λsv1 sid1 h2 P C1 b1 I1 hv=>?_
    rw[hbox] at b1
    simp-implicitDefEqProofs[dS,aa,b1,hsl,hgi,hkb,hl2]
    refine second b _ _ _ _ _ _ _ hb h5 I1 P C1 λsv2 sid2 h3 P2 b2 I2 hv2=>?_
    rw[hbox] at b2
    have hT:=Ge G e.op n m h1 (by omega) (hv n rfl) (hv2 m rfl)
    rw[ar5,if_neg o10,h6] at hT
    simp only[AE] at hT
    simp-implicitDefEqProofs[dS,aa,b2]
    refine hT.use ?_
    simp-implicitDefEqProofs[]
    exact⟨rfl,sv2,sid2,P2.from⟩
  | @binS _ _ _ _ a b s1 n _ c h1 h2 h3 h4 h5=>
    have ha:a∈e.kids:=by rw[h3];simp
    have n1:¬e.op=1:=by omega
    have n2:¬e.op=2:=by omega
    have hg:e.kids[0]?=some a:=by rw[h3];rfl
    have hka:=a.cs_eq
    have hb:b∈e.kids:=by rw[h3];simp
    have hgb:e.kids[1]?=some b:=by rw[h3];rfl
    have hkb:=b.cs_eq
    have hl2:e.kids.length=2:=by rw[h3];rfl
    have hgi:e.kids[1]'(by omega)=b:=(YL.1 hgb).2
    have o10:¬e.op=10:=by omega
    have o12:¬e.op=12:=by omega
    simp-implicitDefEqProofs[aw,hec,hsl,hg,hka,n1,n2,hop,o10,o12]
    rw[←hbox]
    refine first a _ _ _ ha h4 λsv1 sid1 h2 P C1 b1 I1 hv=>?_
    rw[hbox] at b1
    simp-implicitDefEqProofs[dS,aa,b1,hsl,hgi,hkb,hl2]
    refine second b _ _ _ _ _ _ _ hb h5 I1 P C1 λsv2 sid2 h3 P2 b2 I2 hv2=>?_
    simp-implicitDefEqProofs[dS]
    exact⟨rfl,sv2,sid2,P2.from⟩
  | @binD _ _ _ _ a b s1 n _ m h1 h2 h3 h4 h5 h6=>
    have ha:a∈e.kids:=by rw[h3];simp
    have n1:¬e.op=1:=by omega
    have n2:¬e.op=2:=by omega
    have hg:e.kids[0]?=some a:=by rw[h3];rfl
    have hka:=a.cs_eq
    have hb:b∈e.kids:=by rw[h3];simp
    have hgb:e.kids[1]?=some b:=by rw[h3];rfl
    have hkb:=b.cs_eq
    have hl2:e.kids.length=2:=by rw[h3];rfl
    have hgi:e.kids[1]'(by omega)=b:=(YL.1 hgb).2
    have o10:¬e.op=10:=by omega
    have o12:¬e.op=12:=by omega
    simp-implicitDefEqProofs[aw,hec,hsl,hg,hka,n1,n2,hop,o10,o12]
    rw[←hbox]
    refine first a _ _ _ ha h4 λsv1 sid1 h2 P C1 b1 I1 hv=>?_
    rw[hbox] at b1
    simp-implicitDefEqProofs[dS,aa,b1,hsl,hgi,hkb,hl2]
    refine second b _ _ _ _ _ _ _ hb h5 I1 P C1 λsv2 sid2 h3 P2 b2 I2 hv2=>?_
    rw[hbox] at b2
    have hT:=Ge G e.op n m h1 (by omega) (hv n rfl) (hv2 m rfl)
    rw[ar5,if_neg o10,h6] at hT
    simp only[AE] at hT
    simp-implicitDefEqProofs[dS,aa,b2]
    refine hT.use ?_
    simp-implicitDefEqProofs[]
    refine(JP G 1 h3).mono ?_
    rintro z h4 ⟨rfl,rfl⟩
    simp-implicitDefEqProofs[]
    exact⟨rfl,sv2,sid2,P2.from⟩
end
section
theorem iB{l:List Fd}(h:aI l=0):l≠[]/\∀f∈l,∀x∈f.body,az 4 x=true:=by
 have hp:=((pU l).1 h).1
 obtain⟨h1,h2,h3⟩:=(fT l).1 hp
 refine⟨?_,λf hf x hx=>?_⟩
 ·rintro rfl;simp at h1
 ·have:=h2 f hf
  simp only[iO,YX,YW] at this
  exact this.2 x hx
variable (G:am)
end
section
variable (G:am)
theorem Pg{R cid sid W nid n:Nat}{l:List Fd}{s:S5}{c x:Int}{b:Bool}{uv:AV}{h:List AO}(H:h[R]?=some (aQ l sid cid s c true))(E:h[W]?=some (cF nid n uv b x))(hu:(uv= .nils/\n=0)\/∃uid,uv= .sl uid 1 0 n)(xs:List Sm):
 AC Tryz.prog G aP [.ptr R 7 0 0,.p (smL xs),.ptr W 4 0 0] h λz h'=>z= .ret (.tup [])/\h'=h:=by
 have hsl:smL xs= .lst 5 (xs.map Sm.cs):=rfl
 have hW:=(YL.1 E).1
 have s0:∀z,(h.set W z)[W]?=some z:=λz=>YR hW
 have key:AC Tryz.prog G aP [.ptr R 7 0 0,.p (smL xs),.ptr W 4 0 0] h λz h'=>z= .ret (.tup [])/\h'=h.set W (cF nid n uv b x):=by
  refine AC.go mT ?_
  simp-implicitDefEqProofs[io,hsl,E,cF]
  refine aN (λ_:Unit=>aj 65 [(7,.p (.int .i64 0)),(6,.p (.int .i64 n)),(0,.ptr R 7 0 0),(1,.p (.lst 5 (xs.map Sm.cs))),(2,.ptr W 4 0 0)]) (λ_=>h) (λ_=>True) (λ_=>0) () trivial ?_ ?_
  ·exact bj (YY _) (by simp[below];exact⟨(YL.1 H).1,hW⟩)
  rintro⟨⟩-
  by_cases h0:xs.length=0
  ·rcases hu with⟨rfl,rfl⟩|⟨uid,rfl⟩
   ·simp-implicitDefEqProofs[h0,H,E,aQ,cF,s0]
   ·simp-implicitDefEqProofs[h0,H,E,aQ,cF,s0]
  ·have hpos:0<xs.length:=by omega
   rcases hu with⟨rfl,rfl⟩|⟨uid,rfl⟩
   ·simp-implicitDefEqProofs[hpos,H,E,aQ,cF,s0]
   ·simp-implicitDefEqProofs[hpos,H,E,aQ,cF,s0]
 refine key.mono ?_
 rintro z h' ⟨rfl,rfl⟩
 exact⟨rfl,pm E⟩
def AU(xs:List Int):O5 (List Int)->O5 (List Int)
 | .ok us=> .ok (xs++us)
 | .st c=> .st c
structure CaS where (i sid uw:Nat) (hh:List AO) (wv:AV) (xs:List Int) (s:S5) (o:Bool)
structure CaI (l:List Fd) (R cid k V sid nid uid:Nat) (uv:AV) (v:List Sc5) (b:Bool) (x:Int) (h:List AO) (e:Ex) (f:Fd) (s1:S5) (rr:O5 (List Int)) (a:CaS):Prop where
 run:RI R cid l a.sid a.s (if a.o then cf rr else 0) a.o a.hh
 env:EI V nid uid uv (aC v) b x a.hh
 ap:Ap R V a.sid cid nid uid
 fr:Fr [R,sid,cid] h a.hh
 fs:a.sid=sid\/h.length+5<=a.sid
 box:a.hh[h.length]?=some (.row 4 [[.p (.int .i64 13),.p (.int .i64 e.n),.p (.str e.name),.p (exL e.kids)]])
 fbox:a.hh[h.length+1]?=some (.row 3 [[.p (.str f.name),.p (al f.params),.p (smL f.body)]])
 nms:a.hh[h.length+3]?=some (dt f.params)
 envW:a.hh[h.length+4]?=some (cF (h.length+3) f.params.length a.wv false 0)
 len:h.length+5<=a.hh.length
 vals:UV a.hh a.wv a.uw a.xs
 fu:a.uw=h.length+2\/h.length+5<=a.uw
 ul:a.uw<a.hh.length
 us:a.uw≠a.sid
 xl:a.xs.length=a.i
 il:a.i<=e.kids.length
 v5:∀n∈a.xs,V5 n
 go:a.o=false->In5 v a.s/\∃r2,Ev l (.exs k v a.s (e.kids.drop a.i) s1 r2)/\rr=AU a.xs r2
 over:a.o=true->a.s=s1/\∃c,rr= .st c
theorem TN{l:List Fd}{R cid k:Nat}(hc:aI l=0)(hz:aH l<=1073741824)(hB:∀j,j<k->StC G l R cid j)(e:Ex)(hop:e.op=13)(W:WfE l k e)(ihk:∀a∈e.kids,ExC G l R cid k a)(v:List Sc5)(s s':S5)(r:O5 Int)(hE:Ev l (.ex k v s e s' r))(I:In5 v s)
 (V:Nat)(b:Bool)(x:Int)(sid nid uid:Nat)(uv:AV)(h:List AO)(H:RI R cid l sid s 0 false h)(E:EI V nid uid uv (aC v) b x h)(A:Ap R V sid cid nid uid):
 AC Tryz.prog G fG [.ptr R 7 0 0,.agg (e.cs.map .p),.ptr V 4 0 0] h (ExL R cid l sid h s' r):=by
 obtain⟨j,f,hj,hjk,hf,hpl⟩:=W.co e (by rw[Ex.pre_eq];simp) hop
 obtain⟨s1,rr,hX,hX2⟩:∃s1 rr,Ev l (.exs k v s e.kids s1 rr)/\((∃us,rr= .ok us/\Ev l (.cal j us s1 s' r))\/∃c,rr= .st c/\s'=s1/\r= .st c):=by
  cases hE with
  |call _ h1 h2 h3 h4=>
   rw[hj] at h2;cases h2
   exact⟨_,_,h1,.inl ⟨_,rfl,h4⟩⟩
  |callS _ h1=>exact⟨_,_,h1,.inr ⟨_,rfl,rfl,rfl⟩⟩
  |num h1 _=>omega
  |var h1 _=>omega
  |firstS h1 h2 _ _=>omega
  |and0 h1 _ _=>omega
  |and1 h1 _ _ _ _=>omega
  |andS h1 _ _ _ _=>omega
  |not h1 _ _=>omega
  |at_ h1 _ _ _ _=>omega
  |atS h1 _ _ _=>omega
  |bin _ h1 _ _ _ _=>omega
  |binS _ h1 _ _ _=>omega
  |binD _ h1 _ _ _ _=>omega
 have hec:=e.cs_eq
 have hsl:exL e.kids= .lst 4 (e.kids.map Ex.cs):=rfl
 have hfl:fdL l= .lst 3 (l.map Fd.cs):=rfl
 have hfc:f.cs=[.str f.name,al f.params,smL f.body]:=rfl
 have hpL:al f.params= .lst 1 (f.params.map λw=>[.str w]):=rfl
 have hfz:=cG (YS hf)
 have hfs:f.sz=1+f.name.length+(f.params.length+(f.params.map List.length).sum)+ay f.body:=rfl
 have hll:l.length<=aH l:=iD l
 have hjl:=(YL.1 hf).1
 have aR:∀os,(h++os)[R]?=some (aQ l sid cid s 0 false):=λos=>(H.more os).run
 refine AC.go yO ?_
 simp-implicitDefEqProofs[nJ,hec,hop, ↓aR,aQ]
 refine(Jx G l e.name (by omega)).use ?_
 simp-implicitDefEqProofs[hj,ixI]
 refine⟨by simp[aR,aQ],?_⟩
 simp-implicitDefEqProofs[hfl,hf,hfc,hpL]
 have hst:(AO.row 1 (List.map ((λx=>List.map AV.p x)∘λw=>[PV.str w]) f.params))=dt f.params:=by simp[dt,Function.comp_def]
 rw[hst,←hpL]
 refine⟨⟨by omega,by omega⟩,?_⟩
 obtain⟨hR0,hs0,hc0⟩:=H.lt
 have helt:=E.lt
 have hRV:=E.neR H
 obtain⟨hh0,hhh⟩:∃x,x=h++[.row 4 [[.p (.int .i64 13),.p (.int .i64 e.n),.p (.str e.name),.p (exL e.kids)]],.row 3 [[.p (.str f.name),.p (al f.params),.p (smL f.body)]],.dead,dt f.params,.row 4 [[.sl (h.length+3) 1 0 f.params.length,.nils,.p (.bool false),.p (.int .i64 0)]]]:=⟨_,rfl⟩
 rw[←hhh]
 have J0:CaI l R cid k V sid nid uid uv v b x h e f s1 rr ⟨0,sid,h.length+2,hh0,.nils,[],s,false⟩:=by
  subst hhh
  refine⟨H.more _,E.more _,A,Fr.more _ _ _,.inl rfl,by simp,by simp,by simp,by simp[cF],by simp,.nn _,.inl rfl,by simp,?_,rfl,ZD _,(λn h=>by cases h),(λ_=>⟨I,rr,hX,?_⟩),(λh=>by cases h)⟩
  ·simp only;omega
  ·cases rr<;>rfl
 clear hhh
 refine aN (λa:CaS=>aj 67 [(9,.p (.int .i64 a.i)),(8,.ptr (h.length+4) 4 0 0),(7,.ptr (h.length+1) 3 0 0),(4,.ptr h.length 4 0 0),(0,.ptr R 7 0 0),(2,.ptr V 4 0 0)]) (λa=>a.hh) (CaI l R cid k V sid nid uid uv v b x h e f s1 rr) (λa=>e.kids.length-a.i) ⟨0,sid,h.length+2,hh0,.nils,[],s,false⟩ J0 ?_ ?_
 ·refine bj (by have:=J0.len;simp only at this;omega) ?_
  have:=J0.len
  simp only at this
  simp[below]
  omega
 clear J0
 rintro⟨i,sidc,uw,hh,wv,xs,sc,o⟩ J
 have jR:=J.run.run
 have jB:=J.box
 have jF:=J.fbox
 have jN:=J.nms
 have jW:=J.envW
 have jl:=J.len
 have jc:=J.vals.cell
 simp only at jR jB jF jN jW jl jc
 simp-implicitDefEqProofs[jB,hsl]
 refine bi (λh1=>?_) (λh1=>?_)
 ·simp at h1
  have hg:=YO h1
  have ha:=Zf h1
  generalize e.kids[i]=a at hg ha
  have hka:=a.cs_eq
  have hdr:e.kids.drop i=a::e.kids.drop (i+1):=by
   rw[ZJ h1,(YL.1 hg).2]
  have step:AC Tryz.prog G bp [.ptr R 7 0 0,.agg [.p (.int .i64 a.op),.p (.int .i64 a.n),.p (.str a.name),.p (exL a.kids)],.ptr V 4 0 0] hh λz h3=>∃n sid2 s2 o2,z= .ret (.p (.int .i64 n))/\V5 n/\RI R cid l sid2 s2 (if o2 then cf rr else 0) o2 h3/\Fr [R,sidc,cid] hh h3/\(sid2=sidc\/hh.length<=sid2)/\
   (o2=false->In5 v s2/\∃r2,Ev l (.exs k v s2 (e.kids.drop (i+1)) s1 r2)/\rr=AU (xs++[n]) r2)/\(o2=true->s2=s1/\∃c,rr= .st c):=by
   have hac:a.cs.map AV.p=[.p (.int .i64 a.op),.p (.int .i64 a.n),.p (.str a.name),.p (exL a.kids)]:=by rw[a.cs_eq];rfl
   rw[←hac]
   cases o with
   |true=>
    refine(Bl G jR a _).mono ?_
    rintro z h3 ⟨rfl,os,rfl⟩
    exact⟨0,sidc,sc,true,rfl,⟨by omega,by omega⟩,J.run.more os,Fr.more _ _ _,.inl rfl,(λh=>by cases h),J.over⟩
   |false=>
    obtain⟨Ic,r2,hx,hr⟩:=J.go rfl
    simp only[hdr] at hx
    have hexc:=λs2 r3 (he:Ev l (.ex k v sc a s2 r3))=>ihk a ha v sc s2 r3 he Ic V b x sidc nid uid uv hh J.run J.env J.ap
    cases hx with
    | @cons _ _ _ _ _ s2 n _ ns h1 h2=>
      refine(hexc _ _ h1).mono ?_
      rintro z h3 ⟨n',sid2,rfl,e1,e2,e3,e4,e5⟩
      have:=e2 _ rfl
      subst this
      refine⟨n',sid2,s2,false,rfl,e1,e3,e4,e5,λ_=>⟨(Ic.ex h1).1,_,h2,?_⟩,λh=>by cases h⟩
      rw[hr];simp[AU]
    | @consS _ _ _ _ _ _ c h1=>
      refine(hexc _ _ h1).mono ?_
      rintro z h3 ⟨n',sid2,rfl,e1,e2,e3,e4,e5⟩
      rw[hr]
      exact⟨n',sid2,s1,true,rfl,e1,e3,e4,e5,(λh=>by cases h),λ_=>⟨rfl,c,rfl⟩⟩
    | @consT _ _ _ _ _ s2 n _ c h1 h2=>
      refine(hexc _ _ h1).mono ?_
      rintro z h3 ⟨n',sid2,rfl,e1,e2,e3,e4,e5⟩
      have:=e2 _ rfl
      subst this
      refine⟨n',sid2,s2,false,rfl,e1,e3,e4,e5,λ_=>⟨(Ic.ex h1).1,_,h2,?_⟩,λh=>by cases h⟩
      rw[hr];simp[AU]
  simp-implicitDefEqProofs[-AV.isCell,-AV.cells,Wx,Wj,Uh,Wa,VY,UB,jB,jW,cF,jc.1,jc.2,hg,hka,hsl]
  refine step.mono ?_
  rintro z h3 ⟨n,sid2,s2,o2,rfl,t1,t2,t3,t4,t5,t6⟩
  have hlR:=J.run.lt
  simp only at hlR
  have hsc:=J.fs
  have hsv:=J.us
  have huf:=J.fu
  have hul:=J.ul
  simp only at hsc hsv huf hul
  have kB:=t3.2 (h.length) (by omega) (by simp;omega)
  have kF:=t3.2 (h.length+1) (by omega) (by simp;omega)
  have kN:=t3.2 (h.length+3) (by omega) (by simp;omega)
  have kW:=t3.2 (h.length+4) (by omega) (by simp;omega)
  have kU:=t3.2 uw (by omega) (by simp;omega)
  rw[jB] at kB
  rw[jF] at kF
  rw[jN] at kN
  rw[jW] at kW
  have kE:EI V nid uid uv (aC v) b x h3:=J.env.keep J.run J.ap t3
  have kA:Ap R V sid2 cid nid uid:=Ap.step J.env J.ap t4
  have kv:=J.vals
  simp only at kv
  have kl:=t3.1
  have hs2:sid2<h3.length:=t2.lt.2.1
  have hsb:sid2≠h.length+4/\sid2≠uw:=by rcases t4 with rfl|t4<;>omega
  obtain⟨hV0,hn0,hu0⟩:=helt
  have hxl:=J.xl
  simp only at hxl
  have hkb:e.kids.length<=1073741824:=by have:=W.sz;have:=bB e.kids;have:=e.sz_eq;omega
  have next:∀h5:List AO,h5.length=h3.length+1->(∀j,j<h3.length->j≠h.length+4->j≠uw->h5[j]?=h3[j]?)->h5[h.length+4]?=some (cF (h.length+3) f.params.length (.sl h3.length 1 0 (xs++[n]).length) false 0)->h5[h3.length]?=some (bz (xs++[n]))->
   CaI l R cid k V sid nid uid uv v b x h e f s1 rr ⟨i+1,sid2,h3.length,h5,.sl h3.length 1 0 (xs++[n]).length,xs++[n],s2,o2⟩:=λh5 g1 g2 g3 g4=>by
   refine⟨t2.frame (g2 _ (by omega) (by omega) (by omega)) (g2 _ (by omega) hsb.1 hsb.2) (g2 _ (by omega) (by omega) (by omega)),kE.frame (show h3.length<=h5.length by omega) (g2 _ (by omega) (by omega) (by omega)) (g2 _ (by omega) (by omega) (by omega)) (g2 _ (by omega) (by omega) (by omega)),kA,?_,?_,by rw[g2 _ (by omega) (by omega) (by omega)];exact kB,by rw[g2 _ (by omega) (by omega) (by omega)];exact kF,by rw[g2 _ (by omega) (by omega) (by omega)];exact kN,g3,by simp only;omega,.ss _ _ [] (by rw[ZB];exact g4),.inr (by simp only;omega),by simp only;omega,by simp only;omega,by simp[hxl],by simp only;omega,λm hm=>?_,t5,t6⟩
   ·refine⟨by simp only;omega,λj j1 j2=>?_⟩
    simp only[Za,Zj,or_false,not_or] at j2
    rw[g2 j (by omega) (by omega) (by omega),t3.2 j (by omega) ?_,J.fr.2 j j1 (by simp[j2])]
    simp only[Za,Zj,or_false,not_or]
    exact⟨j2.1,by omega,j2.2.2⟩
   ·simp only
    rcases t4 with rfl|t4
    ·exact hsc
    ·exact .inr (by omega)
   ·rcases YV.1 hm with hm|hm
    ·exact J.v5 m hm
    ·rw[YQ.1 hm];exact t1
  have hwi:=w1 (i:=i) (by have:=W.sz;have:=bB e.kids;have:=e.sz_eq;omega)
  have kWa:∀os,(h3++os)[h.length+4]?=some (cF (h.length+3) f.params.length wv false 0):=λos=>by rw[YN (by omega)];exact kW
  have kWs:∀os z,(h3.set uw z++os)[h.length+4]?=some (cF (h.length+3) f.params.length wv false 0):=λos z=>by
   rw[YN (by rw[Zq];omega),YM (by omega)];exact kW
  have fin:∀(h5:List AO) (sl:List (Nat × AV)),CaI l R cid k V sid nid uid uv v b x h e f s1 rr ⟨i+1,sid2,h3.length,h5,.sl h3.length 1 0 (xs++[n]).length,xs++[n],s2,o2⟩->Aw.look sl 9= .p (.int .i64 (IntKind.i64.wrap ((i:Int)+1)))->Aw.look sl 8= .ptr (h.length+4) 4 0 0->Aw.look sl 7= .ptr (h.length+1) 3 0 0->Aw.look sl 4= .ptr h.length 4 0 0->Aw.look sl 0= .ptr R 7 0 0->Aw.look sl 2= .ptr V 4 0 0->
   ∃a:CaS,CaI l R cid k V sid nid uid uv v b x h e f s1 rr a/\e.kids.length-a.i<e.kids.length-i/\Wk h.length (aj 67 sl) h5 (aj 67 [(9,.p (.int .i64 a.i)),(8,.ptr (h.length+4) 4 0 0),(7,.ptr (h.length+1) 3 0 0),(4,.ptr h.length 4 0 0),(0,.ptr R 7 0 0),(2,.ptr V 4 0 0)]) a.hh:=λh5 sl J5 e9 e8 e7 e4 e0 e2=>by
   have hl5:=J5.len
   simp only at hl5
   refine⟨_,J5,by simp only;omega,bj (by omega) ?_⟩
   simp[below,e9,e8,e7,e4,e0,e2,hwi]
   omega
  cases kv with
  |nn=>
   simp-implicitDefEqProofs[aa,kW, ↓kWa,cF]
   refine fin _ _ (next _ (by simp) (λj j1 j2 j3=>?_) ?_ ?_) (by simp) (by simp) (by simp) (by simp) (by simp) (by simp)
   ·rw[YM (by omega),YN j1]
   ·rw[YR (by simp;omega)];rfl
   ·rw[YM (by omega),YT (YY _),Nat.sub_self];rfl
  |ss _ _ t hu=>
   rw[hu] at kU
   simp-implicitDefEqProofs[aa,kW, ↓kWs,cF,kU,bz]
   refine⟨⟨by omega,by omega⟩,?_⟩
   refine fin _ _ (next _ (by simp) (λj j1 j2 j3=>?_) ?_ ?_) (by simp) (by simp) (by simp) (by simp) (by simp) (by simp)
   ·rw[YM (by omega),YN (by simpa using j1),YM (by omega)]
   ·rw[YR (by simp;omega)];simp[cF]
   ·rw[YM (by omega),YT (by simp)];simp[bz]
 ·simp at h1
  have hie:i=e.kids.length:=by have:=J.il;simp only at this;omega
  subst hie
  obtain⟨hR0',hs0',hc0'⟩:=J.run.lt
  simp only at hR0' hs0' hc0'
  have hsc:=J.fs
  have hsv:=J.us
  have huf:=J.fu
  have hul:=J.ul
  simp only at hsc hsv huf hul
  obtain⟨hV0,hn0,hu0⟩:=helt
  have hxl:=J.xl
  simp only at hxl
  simp-implicitDefEqProofs[jF]
  have hvu:=J.vals
  simp only at hvu
  cases o with
  |true=>
   obtain⟨e1,c,e2⟩:=J.over rfl
   simp only at e1
   subst e1
   rcases hX2 with⟨us,h3,_⟩|⟨c',h3,rfl,rfl⟩
   ·rw[e2] at h3;cases h3
   rw[e2] at h3
   cases h3
   have hrun:=J.run
   simp only[e2] at hrun
   refine(Pg G hrun.run jW (by
    cases hvu with
    |nn=>exact .inl ⟨rfl,by rw[hpl,←hxl];rfl⟩
    |ss _ _ t _=>exact .inr ⟨uw,by rw[hpl,←hxl]⟩) f.body).mono ?_
   rintro z h' ⟨rfl,rfl⟩
   have jR2:=hrun.run
   simp only[aQ] at jR2
   simp-implicitDefEqProofs[aa,jR2]
   exact⟨0,sidc,rfl,⟨by omega,by omega⟩,(λm h=>by cases h),hrun,J.fr,by rcases hsc with e|e<;>omega⟩
  |false=>
   obtain⟨Ic,r2,hx,hr⟩:=J.go rfl
   simp only[List.drop_length] at hx Ic hr
   cases hx with
   |nil=>
   have hrr:rr= .ok xs:=by rw[hr];simp[AU]
   rcases hX2 with⟨us,h3,hcal⟩|⟨c',h3,_,_⟩
   case inr=>rw[hrr] at h3;cases h3
   rw[hrr] at h3
   cases h3
   cases hcal with
   | @cal _ f' _ _ v'' _ r'' q1 q2 q3=>
   rw[hf] at q1
   cases q1
   have hap:=pF hc hf
   have hflat:aC [f.params.zip xs]=f.params.zip xs:=by simp[aC]
   have hz1:(f.params.zip xs).map (·.1)=f.params:=List.map_fst_zip (by omega)
   have hz2:(f.params.zip xs).map (·.2)=xs:=List.map_snd_zip (by omega)
   have hzl:(f.params.zip xs).length=f.params.length:=by rw[List.length_zip];omega
   have IW:In5 [f.params.zip xs] s1:=by
    refine⟨Ic.g,λm hm y hy=>?_,zP hap q2,Ic.m,?_⟩
    ·rw[YQ.1 hm] at hy
     exact J.v5 _ (by rw[show y.2=y.2 from rfl];have:=List.mem_map_of_mem (f:=Prod.snd) hy;rw[hz2] at this;exact this)
    ·rw[hflat,hzl]
     have:=Ic.m
     unfold M5 at this
     omega
   have EW:EI (h.length+4) (h.length+3) uw wv (aC [f.params.zip xs]) false 0 hh:=by
    rw[hflat]
    refine⟨by rw[hzl];exact jW,⟨[],by rw[hz1,ZB];exact jN⟩,by rw[hz2];exact hvu,by omega,hul⟩
   have AW:Ap R (h.length+4) sidc cid (h.length+3) uw:=⟨by omega,by omega,hsv,by omega,by omega,by omega⟩
   have hrun:=J.run
   simp only at hrun
   refine(hB j hjk f.body [f.params.zip xs] s1 v'' s' r'' (λy hy=>⟨4,(iB hc).2 f (YS hf) y hy⟩) (by omega) ⟨1,Cy hc hf⟩ q3 IW (h.length+4) 0 sidc (h.length+3) uw wv hh hrun EW AW).mono ?_
   rintro z h' ⟨sid',nid',uid',uv',rfl,p1,p2,p3,p4,p5,p6,p7⟩
   have pR:=p1.run
   have pW:=p2.env
   simp only[aQ] at pR
   have hfr:Fr [R,sid,cid] h h':=by
    refine J.fr.trans p4 λy hy=>?_
    simp only[Za,Zj,or_false] at hy⊢
    rcases hy with rfl|rfl|rfl|rfl|rfl|rfl
    ·exact .inl (.inl rfl)
    ·rcases hsc with e|e
     ·exact .inl (.inr (.inl e))
     ·exact .inr (by omega)
    ·exact .inl (.inr (.inr rfl))
    ·exact .inr (by omega)
    ·exact .inr (by omega)
    ·exact .inr (by omega)
   have hsd:sid'=sid\/h.length<=sid':=by
    have hl0:=J.len
    simp only at hl0
    rcases p5 with e|e
    ·rw[e];rcases hsc with q|q<;>omega
    ·exact .inr (by omega)
   cases r'' with
   |st c=>
    simp only[dL,cf] at pR p1
    simp-implicitDefEqProofs[aa,pR]
    exact⟨0,sid',rfl,⟨by omega,by omega⟩,(λm h=>by cases h),p1,hfr,hsd⟩
   |ok q=>
    simp only[dL,cf] at pR p1
    simp-implicitDefEqProofs[aa,pR,pW,cF]
    have hgood:=(dG q3 ⟨IW.g,IW.ge⟩).2.2.2
    cases q with
    |none=>exact⟨0,sid',rfl,⟨by omega,by omega⟩,(λm h=>by cases h;rfl),p1,hfr,hsd⟩
    |some n=>exact⟨n,sid',rfl,hgood n rfl,(λm h=>by cases h;rfl),p1,hfr,hsd⟩
end
section
theorem AgV.step{h h':List AO}{lo sid sid':Nat}{av:AV}{xs:List Int}(A:AgV h lo sid av xs)(e:∀i,lo<=i->i<h.length->i≠sid->h'[i]?=h[i]?)(hs:sid'=sid\/h.length<=sid'):AgV h' lo sid' av xs:=by
 cases A with
 |nn=>exact .nn
 |pp xs=>exact .pp xs
 |ss aid xs h1 h2 h3=>
  have hl:=(YL.1 h1).1
  exact .ss aid xs (by rw[e aid h2 hl h3];exact h1) h2 (by omega)
theorem AgV.low{h:List AO}{lo lo' sid:Nat}{av:AV}{xs:List Int}(A:AgV h lo sid av xs)(hl:lo'<=lo):AgV h lo' sid av xs:=by
 cases A with
 |nn=>exact .nn
 |pp xs=>exact .pp xs
 |ss aid xs h1 h2 h3=>exact .ss aid xs h1 (Zi hl h2) h3
theorem AgV.sl_inv{h:List AO}{lo sid nid n:Nat}{xs:List Int}(A:AgV h lo sid (.sl nid 1 0 n) xs):h[nid]?=some (bz xs)/\lo<=nid/\nid≠sid:=by
 generalize hz:AV.sl nid 1 0 n=z at A
 cases A with
 |nn=>cases hz
 |pp=>cases hz
 |ss aid _ h1 h2 h3=>
  simp only[AV.sl.injEq] at hz
  obtain⟨rfl,_⟩:=hz
  exact⟨h1,h2,h3⟩
structure CbS where (i sid:Nat) (sv:AV) (hh:List AO) (av:AV) (xs:List Int) (s:S5)
structure CbI (l:List Fd) (M k fuel sid:Nat) (u:AV) (v:List Sc5) (I:List Nat) (h:List AO) (box:AO) (e:Ex) (s1:S5) (rr:O5 (List Int)) (a:CbS):Prop where
 pl:PL M l fuel sid (h++[box]) a.s a.sv a.sid a.hh
 ci:CI a.hh u v I M a.sid
 args:AgV a.hh (h.length+1) a.sid a.av a.xs
 np:∀xs,a.av≠ .p (bl xs)
 xl:a.xs.length=a.i
 il:a.i<=e.kids.length
 v5:∀n∈a.xs,V5 n
 go:In5 v a.s/\∃r2,Ev l (.exs k v a.s (e.kids.drop a.i) s1 r2)/\rr=AU a.xs r2
variable (G:am)
theorem HE{P:Program}{k:Nat}{c:AK}{ts:List AV}{h:List AO}{Q:Aw.AX->List AV->List AO->Prop}(n:Nat)(R:List AV->List AO->Prop)(Z:TypeId->PV->List AO->Prop)
 (h1:∀Q',(∀ts' h',R ts' h'->Q' (.exit n) ts' h')->(∀t v ts' h',Z t v h'->Q' (.pan t v) ts' h')->AKW P G k c ts h Q')(h2:∀ts' h',R ts' h'->Q (.exit n) ts' h')(h3:∀t v ts' h',Z t v h'->Q (.pan t v) ts' h'):AKW P G k c ts h Q:=h1 Q h2 h3
theorem Rz{l:List Fd}{M k fuel:Nat}(hc:aI l=0)(hz:aH l<=1073741824)(hB:∀j,j<k->PcC G l M j fuel)(e:Ex)(hop:e.op=13)(W:WfE l k e)(ihk:∀a∈e.kids,PxC G l M k fuel a):PxC G l M k fuel e:=by
 intro v s s' r hE I0 u I sid sv h H C
 obtain⟨j,f,hj,hjk,hf,hpl⟩:=W.co e (by rw[Ex.pre_eq];simp) hop
 obtain⟨s1,rr,hX,hX2⟩:∃s1 rr,Ev l (.exs k v s e.kids s1 rr)/\((∃us,rr= .ok us/\Ev l (.cal j us s1 s' r))\/∃c,rr= .st c/\s'=s1/\r= .st c):=by
  cases hE with
  |call _ h1 h2 h3 h4=>
   rw[hj] at h2;cases h2
   exact⟨_,_,h1,.inl ⟨_,rfl,h4⟩⟩
  |callS _ h1=>exact⟨_,_,h1,.inr ⟨_,rfl,rfl,rfl⟩⟩
  |num h1 _=>omega
  |var h1 _=>omega
  |firstS h1 h2 _ _=>omega
  |and0 h1 _ _=>omega
  |and1 h1 _ _ _ _=>omega
  |andS h1 _ _ _ _=>omega
  |not h1 _ _=>omega
  |at_ h1 _ _ _ _=>omega
  |atS h1 _ _ _=>omega
  |bin _ h1 _ _ _ _=>omega
  |binS _ h1 _ _ _=>omega
  |binD _ h1 _ _ _ _=>omega
 have hec:=e.cs_eq
 have hsl:exL e.kids= .lst 4 (e.kids.map Ex.cs):=rfl
 have hll:l.length<=aH l:=iD l
 obtain⟨e0,rfl,_,hue⟩:=C.chn.is
 obtain⟨box,hbox⟩:∃box,box=AO.row 4 [[.p (.int .i64 13),.p (.int .i64 e.n),.p (.str e.name),.p (.lst 4 (e.kids.map Ex.cs))]]:=⟨_,rfl⟩
 refine AC.go lT ?_
 simp-implicitDefEqProofs[aw,hec,hsl,hop]
 rw[←hbox]
 have J0:CbI l M k fuel sid (.ptr e0 2 0 0) v I h box e s1 rr ⟨0,sid,sv,h++[box],.nils,[],s⟩:=by
  refine⟨⟨H.more _,Fr.refl _ _,.inl rfl⟩,C.more _,.nn,(λxs h=>by cases h),rfl,ZD _,(λn h=>by cases h),I0,rr,hX,?_⟩
  cases rr<;>rfl
 have hmb:M<h.length:=H.lt
 have hsb:=H.said.lt
 refine HE G 1 (λts' h'=>∃a,CbI l M k fuel sid (.ptr e0 2 0 0) v I h box e s1 rr a/\a.i=e.kids.length/\h'=a.hh/\∃z,ts'=aj 126 ((75,z)::[(74,.p (.int .i64 a.i)),(73,.p (.int .i64 e.kids.length)),(72,.p (.lst 4 (e.kids.map Ex.cs))),(9,a.av),(4,.ptr h.length 4 0 0),(0,.ptr M 20 0 0),(2,.ptr e0 2 0 0)]))
  (λt x h'=>∃c,t=bU/\x= .int .i64 c/\rr= .st c/\∃sv' sid',PL M l fuel sid h s1 sv' sid' h') (λQ' qE qP=>?_) ?_ ?_
 ·refine aN (λa:CbS=>aj 126 [(74,.p (.int .i64 a.i)),(73,.p (.int .i64 e.kids.length)),(72,.p (.lst 4 (e.kids.map Ex.cs))),(9,a.av),(4,.ptr h.length 4 0 0),(0,.ptr M 20 0 0),(2,.ptr e0 2 0 0)]) (λa=>a.hh) (CbI l M k fuel sid (.ptr e0 2 0 0) v I h box e s1 rr) (λa=>e.kids.length-a.i) ⟨0,sid,sv,h++[box],.nils,[],s⟩ J0 ?_ ?_
  ·refine bj (by simp) ?_
   simp[below]
   omega
  clear J0
  rintro⟨i,sidc,svc,hh,av,xs,sc⟩ J
  have jB:hh[h.length]?=some box:=by have:=PL.keep H J.pl (i:=0) (by simp);simpa using this
  have jl:=J.pl.fr.1
  simp only[YZ,Ze,List.length_nil] at jl
  have hxl:=J.xl
  have hil:=J.il
  simp only at hxl hil
  by_cases h1:i<e.kids.length
  ·have hg:=YO h1
   have ha:=Zf h1
   obtain⟨a,hga⟩:∃a,a=e.kids[i]:=⟨_,rfl⟩
   rw[←hga] at hg ha
   have hka:=a.cs_eq
   have hdr:e.kids.drop i=a::e.kids.drop (i+1):=by
    rw[ZJ h1,hga]
   obtain⟨Ic,r2,hx,hr⟩:=J.go
   simp only[hdr] at hx hr Ic
   simp-implicitDefEqProofs[h1,hg,hka]
   rw[←hga]
   have P0:PL M l fuel sid (h++[box]) sc svc sidc (hh++[.row 4 [a.cs.map .p]]):=⟨J.pl.run.more _,J.pl.fr.trans (Fr.more [] _ _) (λi hi=>by cases hi),J.pl.fs⟩
   have C0:CI (hh++[.row 4 [a.cs.map .p]]) (.ptr e0 2 0 0) v I M sidc:=J.ci.more _
   have hexc:=λs2 r3 (he:Ev l (.ex k v sc a s2 r3))=>ihk a ha v sc s2 r3 he Ic _ I sidc svc (hh++[.row 4 [a.cs.map .p]]) P0.run C0
   have hwi:=w1 (i:=i) (by have:=W.sz;have:=bB e.kids;have:=e.sz_eq;omega)
   have hav:=J.args
   have hnp:=J.np
   simp only at hav hnp
   have step:∀s2 n r4,Ev l (.ex k v sc a s2 (.ok n))->Ev l (.exs k v s2 (e.kids.drop (i+1)) s1 r4)->rr=AU (xs++[n]) r4->AC Tryz.prog G cd [.ptr M 20 0 0,.agg (a.cs.map .p),.ptr e0 2 0 0] (hh++[.row 4 [a.cs.map .p]]) λz h2=>z= .ret (.p (.int .i64 n))/\∃sv2 sid2,CI h2 (.ptr e0 2 0 0) v I M sid2/\PL M l fuel sid (h++[box]) s2 sv2 sid2 h2/\V5 n/\In5 v s2/\AgV h2 (h.length+1) sid2 av xs:=λs2 n r4 q1 q2 q3=>by
    refine(hexc _ _ q1).mono ?_
    rintro z h2 ⟨rfl,sv2,sid2,P⟩
    have Ie:=Ic.ex q1
    refine⟨rfl,sv2,sid2,C0.after P,P0.trans P,Ie.2 n rfl,Ie.1,AgV.step hav (λj j1 j2 j3=>?_) ?_⟩
    ·rw[P.fr.2 j (by simp;omega) (by simp only[Za,Zj,or_false,not_or];exact⟨by omega,j3⟩),YN j2]
    ·rcases P.fs with q|q
     ·exact .inl q
     ·simp at q;exact .inr (by omega)
   have next:∀s2 n r4,Ev l (.exs k v s2 (e.kids.drop (i+1)) s1 r4)->rr=AU (xs++[n]) r4->∀sv2 sid2 h2,CI h2 (.ptr e0 2 0 0) v I M sid2->PL M l fuel sid (h++[box]) s2 sv2 sid2 h2->V5 n->In5 v s2->∀h5 nid,h2.length<=nid->(∀j,j<h2.length->j<h.length+1\/j=sid2->h5[j]?=h2[j]?)->h5[nid]?=some (bz (xs++[n]))->
    CbI l M k fuel sid (.ptr e0 2 0 0) v I h box e s1 rr ⟨i+1,sid2,sv2,h5,.sl nid 1 0 (xs++[n]).length,xs++[n],s2⟩:=λs2 n r4 q2 q3 sv2 sid2 h2 C2 P hn I2 h5 nid g1 g2 g3=>by
    have hnl:=(YL.1 g3).1
    have hM:=P.run.lt
    have hS:=P.run.said.lt
    have hl:=P.fr.1
    simp only[YZ,Ze,List.length_nil] at hl
    refine⟨⟨P.run.frame (by simp only;omega) (g2 _ hM (.inl (by omega))) (g2 _ hS (.inr rfl)),⟨by simp only[YZ,Ze,List.length_nil];omega,λj j1 j2=>?_⟩,P.fs⟩,⟨C2.chn.frame λj j1=>g2 j (C2.chn.lt j j1) (.inl (by have:=C.chn.lt j j1;omega)),C2.nd,C2.sn,C2.mn⟩,.ss _ _ g3 (by omega) (by simp only;omega),(λxs h=>by cases h),by simp[hxl],by simp only;omega,λm hm=>?_,I2,r4,q2,q3⟩
    ·simp only[YZ,Ze,List.length_nil] at j1
     rw[g2 j (by omega) (.inl (by omega))]
     exact P.fr.2 j (by simp;omega) j2
    ·rcases YV.1 hm with hm|hm
     ·exact J.v5 m hm
     ·rw[YQ.1 hm];exact hn
   have fin:∀(h5:List AO) (sl:List (Nat × AV)) (nid sid2:Nat) (sv2:AV) (n:Int) (s2:S5),CbI l M k fuel sid (.ptr e0 2 0 0) v I h box e s1 rr ⟨i+1,sid2,sv2,h5,.sl nid 1 0 (xs++[n]).length,xs++[n],s2⟩->Aw.look sl 74= .p (.int .i64 (IntKind.i64.wrap ((i:Int)+1)))->Aw.look sl 73= .p (.int .i64 e.kids.length)->Aw.look sl 72= .p (.lst 4 (e.kids.map Ex.cs))->Aw.look sl 9= .sl nid 1 0 (xs++[n]).length->Aw.look sl 4= .ptr h.length 4 0 0->Aw.look sl 0= .ptr M 20 0 0->Aw.look sl 2= .ptr e0 2 0 0->
    ∃a:CbS,CbI l M k fuel sid (.ptr e0 2 0 0) v I h box e s1 rr a/\e.kids.length-a.i<e.kids.length-i/\Wk h.length (aj 126 sl) h5 (aj 126 [(74,.p (.int .i64 a.i)),(73,.p (.int .i64 e.kids.length)),(72,.p (.lst 4 (e.kids.map Ex.cs))),(9,a.av),(4,.ptr h.length 4 0 0),(0,.ptr M 20 0 0),(2,.ptr e0 2 0 0)]) a.hh:=λh5 sl nid sid2 sv2 n s2 J5 e74 e73 e72 e9 e4 e0' e2=>by
    have hl5:=J5.pl.fr.1
    simp only[YZ,Ze,List.length_nil] at hl5
    have hn5:nid<h5.length:=by
     exact(YL.1 J5.args.sl_inv.1).1
    refine⟨_,J5,by simp only;omega,bj (by omega) ?_⟩
    simp[below,e74,e73,e72,e9,e4,e0',e2,hwi]
    omega
   have hx':(∃c,Ev l (.ex k v sc a s1 (.st c))/\rr= .st c)\/∃s2 n r4,Ev l (.ex k v sc a s2 (.ok n))/\Ev l (.exs k v s2 (e.kids.drop (i+1)) s1 r4)/\rr=AU (xs++[n]) r4:=by
    cases hx with
    |consS h1=>exact .inl ⟨_,h1,hr⟩
    |cons h1 h2=>exact .inr ⟨_,_,_,h1,h2,by rw[hr];simp[AU]⟩
    |consT h1 h2=>exact .inr ⟨_,_,_,h1,h2,by rw[hr];simp[AU]⟩
   rcases hx' with⟨c,h1,hr'⟩|⟨s2,n,r4,h1,h2,hr'⟩
   ·refine(hexc _ _ h1).mono ?_
    rintro z h3 ⟨rfl,sv2,sid2,P⟩
    simp-implicitDefEqProofs[dS]
    exact λts=>qP _ _ _ _ ⟨c,rfl,rfl,hr',sv2,sid2,(P0.trans P).from⟩
   ·have hkb:e.kids.length<=1073741824:=by have:=W.sz;have:=bB e.kids;have:=e.sz_eq;omega
    cases hav with
    |pp=>exact(hnp _ rfl).elim
    |nn=>
     refine(step s2 n _ h1 h2 hr').mono ?_
     rintro z h3 ⟨rfl,sv2,sid2,C2,P,hn,I2,A2⟩
     simp-implicitDefEqProofs[aa]
     refine fin _ _ (h3.length+1) _ _ n _ (next _ n _ h2 hr' _ _ _ C2 P hn I2 _ _ (by omega) (λj j1 j2=>by rw[YN j1]) ?_) (by simp) (by simp) (by simp) (by simp) (by simp) (by simp) (by simp)
     rw[YT (by omega)];simp[bz]
    |ss aid _ hu h4 h5=>
     refine(step s2 n _ h1 h2 hr').mono ?_
     rintro z h3 ⟨rfl,sv2,sid2,C2,P,hn,I2,A2⟩
     obtain⟨hu3,h43,h53⟩:=A2.sl_inv
     have hul:=(YL.1 hu3).1
     simp only[bz] at hu3
     have hua:∀os,(h3++os)[aid]?=some (.row 1 (xs.map λn=>[.p (.int .i64 n)])):=λos=>by rw[YN hul];exact hu3
     simp-implicitDefEqProofs[aa, ↓hua]
     refine⟨⟨by omega,by omega⟩,?_⟩
     refine fin _ _ (h3.length+1) _ _ n _ (next _ n _ h2 hr' _ _ _ C2 P hn I2 _ _ (by omega) (λj j1 j2=>?_) ?_) (by simp) (by simp) (by simp) (by simp) (by simp) (by simp) (by simp)
     ·rw[YN (by simp;omega),YM (by omega),YN j1]
     ·rw[YT (by simp)];simp[bz]
      exact YU (by simp)
  ·simp-implicitDefEqProofs[h1]
   refine qE _ _ ⟨⟨i,sidc,svc,hh,av,xs,sc⟩,J,by simp only;omega,rfl,_,rfl⟩
 ·rintro ts' h' ⟨a,J,hi,rfl,z,rfl⟩
  obtain⟨i,sidc,svc,hh,av,xs,sc⟩:=a
  have jB:hh[h.length]?=some box:=by have:=PL.keep H J.pl (i:=0) (by simp);simpa using this
  simp only at hi
  subst hi
  obtain⟨Ic,r2,hx,hr⟩:=J.go
  simp only[List.drop_length] at hx Ic hr
  cases hx with
  |nil=>
  have hrr:rr= .ok xs:=by rw[hr];simp[AU]
  rcases hX2 with⟨us,h3,hcal⟩|⟨c',h3,_,_⟩
  case inr=>rw[hrr] at h3;cases h3
  rw[hrr] at h3
  cases h3
  have jM:=J.pl.run.men
  simp only[kX] at jM
  rw[hbox] at jB
  simp-implicitDefEqProofs[jM,jB]
  refine(Jc G l e.name (by omega)).use ?_
  simp-implicitDefEqProofs[hj,ixI]
  refine(hB j hjk xs s1 s' r hcal J.v5 Ic.g Ic.m av sidc svc hh J.pl.run (J.args.low (ZD _))).mono ?_
  rintro z h3 ⟨rfl,sv2,sid2,P⟩
  have PP:=(J.pl.trans P).from
  cases r with
  |ok n=>
   simp-implicitDefEqProofs[aa,dS]
   exact⟨rfl,sv2,sid2,PP⟩
  |st c=>
   simp-implicitDefEqProofs[dS]
   exact⟨rfl,sv2,sid2,PP⟩
 ·rintro t x ts' h' ⟨c,rfl,rfl,hr,sv',sid',P⟩
  rcases hX2 with⟨us,h3,hcal⟩|⟨c',h3,rfl,rfl⟩
  ·rw[hr] at h3;cases h3
  rw[hr] at h3
  cases h3
  simp-implicitDefEqProofs[]
  exact⟨rfl,sv',sid',P⟩
end
section
def XV(r:O5 (Option Int))(x:ARes)(h':List AO):Prop:=
 match r with
 | .ok none=>x= .ret .nilp
 | .ok (some n)=>∃b,x= .ret (.ptr b 1 0 0)/\h'[b]?=some (.row 1 [[.p (.int .i64 n)]])
 | .st c=>x= .pan bU (.int .i64 c)
structure BkL (M:Nat) (l:List Fd) (fuel sid:Nat) (u:AV) (v':List Sc5) (I:List Nat) (h:List AO) (s':S5) (sv':AV) (sid':Nat) (h':List AO):Prop where
 run:MI M l fuel sv' sid' s' h'
 ci:CI h' u v' I M sid'
 fr:Fr (M::sid::I) h h'
 fs:sid'=sid\/h.length<=sid'
 env:∀i∈I,∀x,h[i]?=some (.row 2 x)->h'[i]?=some (.row 2 x)
def BkX(M:Nat)(l:List Fd)(fuel sid:Nat)(u:AV)(v':List Sc5)(I:List Nat)(h:List AO)(s':S5)(r:O5 (Option Int))(x:ARes)(h':List AO):Prop:=XV r x h'/\∃sv' sid',BkL M l fuel sid u v' I h s' sv' sid' h'
def lM(h:List AO)(ps:List (List UInt8))(us:List Int)(i:Nat):List AO:=h++[.mp (mpV ((ps.zip us).take i)),.row 2 [[.mp h.length,.nilp]]]
theorem KV{h:List AO}{ps:List (List UInt8)}{us:List Int}{i j:Nat}(hj:j<h.length):(lM h ps us i)[j]?=h[j]?:=YN hj
theorem Ju{h:List AO}{ps:List (List UInt8)}{us:List Int}{i:Nat}:(lM h ps us i)[h.length]?=some (.mp (mpV ((ps.zip us).take i))):=by simp[lM]
theorem JY{h:List AO}{ps:List (List UInt8)}{us:List Int}{i:Nat}:(lM h ps us i)[h.length+1]?=some (.row 2 [[.mp h.length,.nilp]]):=by simp[lM]
theorem Mi{h:List AO}{ps:List (List UInt8)}{us:List Int}{i:Nat}{p:List UInt8}{n:Int}(hp:ps[i]?=some p)(hn:us[i]?=some n)(hap:ps.Pairwise (· ≠ ·)):
 ∃m,iJ (.str p) (.p (.int .i64 n)) (mpV ((ps.zip us).take i))=some m/\(lM h ps us i).set h.length (.mp m)=lM h ps us (i+1):=by
 have hz:(ps.zip us)[i]?=some (p,n):=by rw[List.getElem?_zip_eq_some];exact⟨hp,hn⟩
 have hl:=(YL.1 hz).1
 refine⟨_,yS p n _,?_⟩
 have hno:p∉((ps.zip us).take i).map (·.1):=λhm=>by
  obtain⟨x,hx,rfl⟩:=Zh.1 hm
  obtain⟨j,hj,he⟩:=ZO.1 hx
  have hji:j<i:=by omega
  have:=List.pairwise_iff_getElem.1 hap j i (by simp at hl hj;omega) (YL.1 hp).1 hji
  rw[(YL.1 hp).2,←he,List.getElem_zip] at this
  exact this rfl
 rw[FC hno]
 unfold lM
 rw[an hl,(YL.1 hz).2]
 simp
variable (G:am)
def PbC(l:List Fd)(M k fuel:Nat)(xs:List Sm):Prop:=∀v s v' s' r,Ev l (.blk k v s xs v' s' r)->In5 v s->∀u I sid sv h,MI M l fuel sv sid s h->CI h u v I M sid->
 AC Tryz.prog G bt [.ptr M 20 0 0,.p (smL xs),u] h (BkX M l fuel sid u v' I h s' r)
theorem TR{l:List Fd}{M k fuel:Nat}(hc:aI l=0)(hz:aH l<=1073741824)(hB:∀f,l[k]?=some f->PbC G l M k fuel f.body):PcC G l M k fuel:=by
 intro us s s' r hE hus hg hm av sid sv h H A
 cases hE with
 | @cal _ f _ _ v' _ r' q1 q2 q3=>
 have hap:=pF hc q1
 have hflat:aC [f.params.zip us]=f.params.zip us:=by simp[aC]
 have hz1:(f.params.zip us).map (·.1)=f.params:=List.map_fst_zip (by omega)
 have hz2:(f.params.zip us).map (·.2)=us:=List.map_snd_zip (by omega)
 have hzl:(f.params.zip us).length=f.params.length:=by rw[List.length_zip];omega
 have hfz:=cG (YS q1)
 have hfs:f.sz=1+f.name.length+(f.params.length+(f.params.map List.length).sum)+ay f.body:=rfl
 have IW:In5 [f.params.zip us] s:=by
  refine⟨hg,λm hm y hy=>?_,zP hap q2,hm,?_⟩
  ·rw[YQ.1 hm] at hy
   exact hus _ (by rw[show y.2=y.2 from rfl];have:=List.mem_map_of_mem (f:=Prod.snd) hy;rw[hz2] at this;exact this)
  ·rw[hflat,hzl]
   unfold M5 at hm
   omega
 have hfl:fdL l= .lst 3 (l.map Fd.cs):=rfl
 have hfc:f.cs=[.str f.name,al f.params,smL f.body]:=rfl
 have hpL:al f.params= .lst 1 (f.params.map λw=>[.str w]):=rfl
 have hmb:=H.lt
 have hsb:=H.said.lt
 have aM:∀os,(h++os)[M]?=some (kX l fuel sv s):=λos=>(H.more os).men
 simp only[kX] at aM
 refine AC.go tp ?_
 simp-implicitDefEqProofs[lX, ↓aM,hfl,q1,hfc,hpL]
 rw[←hpL]
 have h0:h++[AO.mp [],AO.row 2 [[.mp h.length,.nilp]]]=lM h f.params us 0:=by simp[lM,mpV]
 rw[h0]
 have hpn:f.params.length<=1073741824:=by omega
 refine HE G 0 (λts' h'=>h'=lM h f.params us f.params.length/\∃z,ts'=aj 57 ((25,z)::[(24,.p (.int .i64 f.params.length)),(23,.p (.int .i64 f.params.length)),(22,.p (al f.params)),(7,.ptr (h.length+1) 2 0 0),(0,.ptr M 20 0 0),(1,.p (.int .i64 k)),(2,av)]))
  (λt x h'=>False) (λQ' qE _=>?_) ?_ ?_
 ·refine aN (λi:Nat=>aj 57 [(24,.p (.int .i64 i)),(23,.p (.int .i64 f.params.length)),(22,.p (al f.params)),(7,.ptr (h.length+1) 2 0 0),(0,.ptr M 20 0 0),(1,.p (.int .i64 k)),(2,av)]) (λi=>lM h f.params us i) (λi=>i<=f.params.length) (λi=>f.params.length-i) 0 (ZD _) ?_ ?_
  ·refine bj (by simp[lM]) ?_
   cases A with
   |nn=>simp[below,lM];omega
   |pp=>simp[below,lM];omega
   |ss aid _ q4 q5 q6=>have:=(YL.1 q4).1;simp[below,lM];omega
  rintro i hi
  by_cases h1:i<f.params.length
  ·have hp:=YO h1
   have hu:us[i]?=some us[i]:=YO (by omega)
   generalize us[i]=n at hu
   obtain⟨m,e1,e2⟩:=Mi (h:=h) hp hu hap
   have hwi:=w1 (i:=i) (by omega)
   cases A with
   |nn=>simp at hu
   |pp=>
    have hnL:bl us= .lst 1 (us.map λn=>[.int .i64 n]):=rfl
    simp-implicitDefEqProofs[h1,hpL,hp,hu,JY,Ju,e1,hnL]
    refine⟨i+1,by omega,by omega,?_⟩
    rw[e2]
    refine bj (by simp[lM]) ?_
    simp[below,lM,hwi,hpL]
    omega
   |ss aid _ q4 q5 q6=>
    have q7:∀i,(lM h f.params us i)[aid]?=some (bz us):=λi=>by rw[KV (YL.1 q4).1];exact q4
    simp only[bz] at q7
    simp-implicitDefEqProofs[h1,hpL,hp,hu,JY,Ju,e1,q7]
    refine⟨by omega,i+1,by omega,by omega,?_⟩
    rw[e2]
    have:=(YL.1 q4).1
    refine bj (by simp[lM]) ?_
    simp[below,lM,hwi,hpL]
    omega
  ·simp-implicitDefEqProofs[h1]
   have:i=f.params.length:=by omega
   subst this
   exact qE _ _ ⟨rfl,_,rfl⟩
 ·rintro ts' h' ⟨rfl,z,rfl⟩
  have hM:(lM h f.params us f.params.length)[M]?=some (kX l fuel sv s):=by rw[KV hmb];exact H.men
  simp only[kX] at hM
  have hall:(f.params.zip us).take f.params.length=f.params.zip us:=YU (by omega)
  have C0:CI (lM h f.params us f.params.length) (.ptr (h.length+1) 2 0 0) [f.params.zip us] [h.length+1,h.length] M sid:=by
   refine⟨.last _ h.length _ JY (by rw[Ju,hall]),by simp,?_,?_⟩
   ·simp only[Za,Zj,or_false,not_or];omega
   ·simp only[Za,Zj,or_false,not_or];omega
  simp-implicitDefEqProofs[hM,hfl,q1,hfc]
  refine(hB f q1 _ _ _ _ _ q3 IW _ _ sid sv _ (H.more _) C0).mono ?_
  rintro z h2 ⟨hR,sv2,sid2,B⟩
  have PP:PL M l fuel sid h s' sv2 sid2 h2:=by
   have hfr:=B.fr
   unfold lM at hfr
   refine⟨B.run,hfr.from.sub λi hi=>?_,?_⟩
   ·simp only[Za,Zj,or_false] at hi⊢
    omega
   ·have:=B.fs
    simp only[lM,YZ] at this
    omega
  match r',hR with
  | .ok none,hR=>
    cases hR
    simp-implicitDefEqProofs[aa]
    exact⟨rfl,sv2,sid2,PP⟩
  | .ok (some n),⟨b,hb1,hb2⟩=>
    cases hb1
    simp-implicitDefEqProofs[aa,hb2]
    exact⟨rfl,sv2,sid2,PP⟩
  | .st c,hR=>
    cases hR
    simp-implicitDefEqProofs[]
    exact⟨rfl,sv2,sid2,PP⟩
 ·rintro t x ts' h' ⟨⟩
end
section
structure Snc (R cid V sid nid uid:Nat) (hb:List AO) (sid' nid' uid':Nat) (hh:List AO):Prop where
 fr:Fr [R,sid,cid,V,nid,uid] hb hh
 fs:sid'=sid\/hb.length<=sid'
 fn:nid'=nid\/hb.length<=nid'
 fu:uid'=uid\/hb.length<=uid'
section
variable {R cid V sid nid uid:Nat} {hb hh h2:List AO} {sid1 nid1 uid1 sid2 nid2 uid2:Nat}
theorem Snc.init(hb:List AO):Snc R cid V sid nid uid hb sid nid uid hb:=⟨Fr.refl _ _,.inl rfl,.inl rfl,.inl rfl⟩
theorem sQ{a b c n m:Nat}(h1:b=a\/n<=b)(h2:c=b\/m<=c)(hnm:n<=m):c=a\/n<=c:=by
 rcases h2 with rfl|h2
 ·exact h1
 ·exact .inr (by omega)
theorem Snc.st(S:Snc R cid V sid nid uid hb sid1 nid1 uid1 hh)(F:Fr [R,sid1,cid,V,nid1,uid1] hh h2)(a:sid2=sid1\/hh.length<=sid2)(b:nid2=nid1\/hh.length<=nid2)(c:uid2=uid1\/hh.length<=uid2):Snc R cid V sid nid uid hb sid2 nid2 uid2 h2:=by
 refine⟨S.fr.trans F λy hy=>?_,sQ S.fs a S.fr.1,sQ S.fn b S.fr.1,sQ S.fu c S.fr.1⟩
 have h1:=S.fs
 have h2:=S.fn
 have h3:=S.fu
 simp only[Za,Zj,or_false] at hy⊢
 omega
theorem Fr.wide{K:List Nat}{V nid uid:Nat}(F:Fr [R,sid,cid] hb hh):Fr [R,sid,cid,V,nid,uid] hb hh:=F.sub λi hi=> .inl (by
 simp only[Za,Zj,or_false] at hi⊢;omega)
theorem Snc.ex(S:Snc R cid V sid nid uid hb sid1 nid1 uid1 hh)(F:Fr [R,sid1,cid] hh h2)(a:sid2=sid1\/hh.length<=sid2):Snc R cid V sid nid uid hb sid2 nid1 uid1 h2:=
 S.st (Fr.wide (K:=[]) F) a (.inl rfl) (.inl rfl)
theorem Snc.keep(S:Snc R cid V sid nid uid hb sid1 nid1 uid1 hh){i:Nat}(hi:i<hb.length)(hn:i≠R/\i≠sid/\i≠cid/\i≠V/\i≠nid/\i≠uid):hh[i]?=hb[i]?:=
 S.fr.2 i hi (by simp only[Za,Zj,or_false];omega)
theorem Snc.base{h os:List AO}(S:Snc R cid V sid nid uid (h++os) sid1 nid1 uid1 hh):Snc R cid V sid nid uid h sid1 nid1 uid1 hh:=
 ⟨S.fr.from,sQ (.inl rfl) S.fs (by simp),sQ (.inl rfl) S.fn (by simp),sQ (.inl rfl) S.fu (by simp)⟩
end
structure WfS (l:List Fd) (k:Nat) (x:Sm):Prop where
 form:∃d,az d x=true
 args:∀a∈x.args,WfE l k a
 body:(∀y∈x.body,∃d,az d y=true)/\ay x.body<=1073741824/\∃d,CoS l k d x.body
 els:(∀y∈x.els,∃d,az d y=true)/\ay x.els<=1073741824/\∃d,CoS l k d x.els
 argn:x.args.length=iI x.op
 op:1<=x.op/\x.op<=8
structure InS (v:List Sc5) (s:S5):Prop where
 g:G5 s
 ge:GE5 v
 un:Un5 v
 m:M5 s+1<=4000
 f:(aC v).length+s.left+1<=1073750000
theorem InS.in5{v:List Sc5}{s:S5}(I:InS v s):In5 v s:=⟨I.g,I.ge,I.un,by have:=I.m;omega,by have:=I.f;omega⟩
variable (G:am)
def StX(l:List Fd)(R cid k:Nat)(xs:List Sm):Prop:=∀v s v' s' r,Ev l (.blk k v s xs v' s' r)->In5 v s->
 ∀V x0 sid nid uid uv h,RI R cid l sid s 0 false h->EI V nid uid uv (aC v) false x0 h->Ap R V sid cid nid uid->AC Tryz.prog G aP [.ptr R 7 0 0,.p (smL xs),.ptr V 4 0 0] h (StL R cid l V sid nid uid h ((aC v').take (aC v).length) x0 s' r)
def SmX(l:List Fd)(R cid k:Nat)(x:Sm):Prop:=∀v s v' s' r,Ev l (.stm k v s x v' s' r)->InS v s->
 ∀V x0 sid nid uid uv h,RI R cid l sid s 0 false h->EI V nid uid uv (aC v) false x0 h->Ap R V sid cid nid uid->AC Tryz.prog G jq [.ptr R 7 0 0,.agg (x.cs.map .p),.ptr V 4 0 0] h (StL R cid l V sid nid uid h (aC v') x0 s' r)
def LpA(l:List Fd)(k:Nat)(x:Sm)(v:List Sc5)(s1:S5)(n:Int)(v':List Sc5)(s':S5)(q:O5 (Option Int)):Prop:=
 (n=0/\v'=v/\s'=s1/\q= .ok none)\/(n≠0/\∃m v1 s2 q1,Ev l (.blk k ([]::v) s1 x.body (m::v1) s2 q1)/\((q1≠ .ok none/\v'=v1/\s'=s2/\q=q1)\/(q1= .ok none/\((s2.left=0/\v'=v1/\s'=s2/\q= .st 3)\/∃F,s2.left=F+1/\Ev l (.lp k v1 (s2.at_ F) x v' s' q)))))
theorem Fw{l:List Fd}{k:Nat}{x:Sm}{v v':List Sc5}{s s':S5}{q:O5 (Option Int)}(h:Ev l (.lp k v s x v' s' q)):∃a s1 r1,x.args=[a]/\Ev l (.ex k v s a s1 r1)/\((∃c,r1= .st c/\v'=v/\s'=s1/\q= .st c)\/∃n,r1= .ok n/\LpA l k x v s1 n v' s' q):=by
 cases h with
 |lpS ha h1=>exact⟨_,_,_,ha,h1,.inl ⟨_,rfl,rfl,rfl,rfl⟩⟩
 |lp0 ha h1=>exact⟨_,_,_,ha,h1,.inr ⟨_,rfl,.inl ⟨rfl,rfl,rfl,rfl⟩⟩⟩
 |lpEnd ha h1 hn h2 hq=>exact⟨_,_,_,ha,h1,.inr ⟨_,rfl,.inr ⟨hn,_,_,_,_,h2,.inl ⟨hq,rfl,rfl,rfl⟩⟩⟩⟩
 |lpFuel ha h1 hn h2 hl=>exact⟨_,_,_,ha,h1,.inr ⟨_,rfl,.inr ⟨hn,_,_,_,_,h2,.inr ⟨rfl,.inl ⟨hl,rfl,rfl,rfl⟩⟩⟩⟩⟩
 |lpGo ha h1 hn h2 hl h3=>exact⟨_,_,_,ha,h1,.inr ⟨_,rfl,.inr ⟨hn,_,_,_,_,h2,.inr ⟨rfl,.inr ⟨_,hl,h3⟩⟩⟩⟩⟩
def LpX(l:List Fd)(R cid k:Nat)(x:Sm):Prop:=∀v s n v' s' r,LpA l k x v s n v' s' r->InS v s->
 ∀V x0 sid nid uid uv h,RI R cid l sid s 0 false h->EI V nid uid uv (aC v) false x0 h->Ap R V sid cid nid uid->AC Tryz.prog G jt [.ptr R 7 0 0,.agg (x.cs.map .p),.p (.int .i64 n),.ptr V 4 0 0] h (StL R cid l V sid nid uid h (aC v') x0 s' r)
theorem StL.mk{l:List Fd}{R cid V sid nid uid:Nat}{h hh:List AO}{w:Sc5}{x0:Int}{s':S5}{r:O5 (Option Int)}{sid' nid' uid':Nat}{uv':AV}(H:RI R cid l sid' s' (cf r) (dL r) hh)(E:EI V nid' uid' uv' w (bkB r) (bkV x0 r) hh)(A:Ap R V sid' cid nid' uid')(S:Snc R cid V sid nid uid h sid' nid' uid' hh):StL R cid l V sid nid uid h w x0 s' r (.ret (.tup [])) hh:=
 ⟨sid',nid',uid',uv',rfl,H,E,A,S.fr,S.fs,S.fn,S.fu⟩
theorem RI.setV{R cid V sid nid uid:Nat}{l:List Fd}{s s2:S5}{e:Int}{o:Bool}{uv:AV}{w:Sc5}{b:Bool}{x:Int}{h:List AO}(H:RI R cid l sid s e o h)(E:EI V nid uid uv w b x h)(z:AO):RI R cid l sid s e o (h.set V z):=by
 obtain⟨a1,a2,a3,a4⟩:=E.neR H
 exact H.frame (YM a1) (YM a2) (YM a3)
theorem EI.setV{R cid V sid nid uid:Nat}{uv:AV}{w:Sc5}{b b':Bool}{x x':Int}{h:List AO}(E:EI V nid uid uv w b x h)(A:Ap R V sid cid nid uid):EI V nid uid uv w b' x' (h.set V (cF nid w.length uv b' x')):=by
 obtain⟨t,h1⟩:=E.names
 refine⟨YR E.lt.1,⟨t,by rw[YM E.neN];exact h1⟩,E.vals.frame λ_=>YM (Ne.symm A.uV),E.ne,by rw[Zq];exact E.ul⟩
theorem Tg{l:List Fd}{R cid k:Nat}{x:Sm}(W:WfS l k x)(hX:∀e,WfE l k e->ExC G l R cid k e)(hB:StX G l R cid k x.body)(hE:StX G l R cid k x.els)(hL:x.op=6->LpX G l R cid k x):SmX G l R cid k x:=by
 intro v s v' s' r hS I V x0 sid nid uid uv h H E A
 have hxc:=x.cs_eq
 have hsl:exL x.args= .lst 4 (x.args.map Ex.cs):=rfl
 obtain⟨hR0,hs0,hc0⟩:=H.lt
 obtain⟨hV0,hn0,hu0⟩:=E.lt
 have aR:∀os,(h++os)[R]?=some (aQ l sid cid s 0 false):=λos=>(H.more os).run
 have aV:∀os,(h++os)[V]?=some (cF nid (aC v).length uv false x0):=λos=>(E.more os).env
 obtain⟨box,hbox⟩:∃box,box=AO.row 5 [[.p (.int .i64 x.op),.p (.str x.name),.p (exL x.args),.p (smL x.body),.p (smL x.els)]]:=⟨_,rfl⟩
 obtain⟨a,ha0⟩:∃a,x.args[0]?=some a:=by
  have:x.args.length≠0:=by
   rw[W.argn]
   obtain⟨q1,q2⟩:=W.op
   have:x.op=1\/x.op=2\/x.op=3\/x.op=4\/x.op=5\/x.op=6\/x.op=7\/x.op=8:=by omega
   rcases this with q|q|q|q|q|q|q|q<;>rw[q]<;>decide
  exact⟨x.args[0],YO (by omega)⟩
 have ham:=YS ha0
 have hka:=a.cs_eq
 obtain⟨s1,r1,hx1,hrest⟩:∃s1 r1,Ev l (.ex k v s a s1 r1)/\((∃c,r1= .st c/\v'=v/\s'=s1/\r= .st c)\/∃n,r1= .ok n/\
  ((x.op=1/\∃m up,v=m::up/\ce m x.name=none/\v'=(m++[(x.name,n)])::up/\s'=s1/\r= .ok none)\/(x.op=2/\(iL v x.name).isSome=true/\v'=iu v x.name n/\s'=s1/\r= .ok none)\/(x.op=3/\v'=v/\s'=s1.say n/\r= .ok none)\/
    (x.op=4/\v'=v/\∃b s2 r2,x.args[1]?=some b/\Ev l (.ex k v s1 b s2 r2)/\((∃c,r2= .st c/\s'=s2/\r= .st c)\/∃m,r2= .ok m/\((16<=n/\s'=s2/\r= .st 2)\/∃i:Nat,n=(i:Int)/\i<16/\s'=s2.put i m/\r= .ok none)))\/
    (x.op=5/\∃m,Ev l (.blk k ([]::v) s1 (if n≠0 then x.body else x.els) (m::v') s' r))\/(x.op=6/\LpA l k x v s1 n v' s' r)\/(x.op=7/\v'=v/\s'=s1/\r= .ok (some n))\/(x.op=8/\v'=v/\s'=s1/\r= .ok none))):=by
  have hd:∀{b:Ex} {q:List Ex},x.args=b::q->b=a:=λ{b q} e=>by rw[e] at ha0;cases ha0;rfl
  cases hS with
  |argS h6 hA h1=>cases hd hA;exact⟨_,_,h1,.inl ⟨_,rfl,rfl,rfl,rfl⟩⟩
  |slet h6 hA h1 h2 h3=>cases hd hA;exact⟨_,_,h1,.inr ⟨_,rfl,.inl ⟨h6,_,_,h2,h3,rfl,rfl,rfl⟩⟩⟩
  |sset h6 hA h1 h2=>cases hd hA;exact⟨_,_,h1,.inr ⟨_,rfl,.inr (.inl ⟨h6,h2,rfl,rfl,rfl⟩)⟩⟩
  |ssay h6 hA h1=>cases hd hA;exact⟨_,_,h1,.inr ⟨_,rfl,.inr (.inr (.inl ⟨h6,rfl,rfl,rfl⟩))⟩⟩
  |sput h6 hA h1 h2 h3=>cases hd hA;exact⟨_,_,h1,.inr ⟨_,rfl,.inr (.inr (.inr (.inl ⟨h6,rfl,_,_,_,by rw[hA];rfl,h2,.inr ⟨_,rfl,.inr ⟨_,rfl,h3,rfl,rfl⟩⟩⟩)))⟩⟩
  |sputC h6 hA h1 h2 h3=>cases hd hA;exact⟨_,_,h1,.inr ⟨_,rfl,.inr (.inr (.inr (.inl ⟨h6,rfl,_,_,_,by rw[hA];rfl,h2,.inr ⟨_,rfl,.inl ⟨h3,rfl,rfl⟩⟩⟩)))⟩⟩
  |sputS h6 hA h1 h2=>cases hd hA;exact⟨_,_,h1,.inr ⟨_,rfl,.inr (.inr (.inr (.inl ⟨h6,rfl,_,_,_,by rw[hA];rfl,h2,.inl ⟨_,rfl,rfl,rfl⟩⟩)))⟩⟩
  |sif h6 hA h1 h2=>cases hd hA;exact⟨_,_,h1,.inr ⟨_,rfl,.inr (.inr (.inr (.inr (.inl ⟨h6,_,h2⟩))))⟩⟩
  |sloop h6 h1=>
   obtain⟨b,s1,r1,hA,g1,g2⟩:=Fw h1
   cases hd hA
   rcases g2 with g2|⟨n,g2,g3⟩
   ·exact⟨_,_,g1,.inl g2⟩
   ·exact⟨_,_,g1,.inr ⟨n,g2,.inr (.inr (.inr (.inr (.inr (.inl ⟨h6,g3⟩)))))⟩⟩
  |sback h6 hA h1=>cases hd hA;exact⟨_,_,h1,.inr ⟨_,rfl,.inr (.inr (.inr (.inr (.inr (.inr (.inl ⟨h6,rfl,rfl,rfl⟩))))))⟩⟩
  |sdo h6 hA h1=>cases hd hA;exact⟨_,_,h1,.inr ⟨_,rfl,.inr (.inr (.inr (.inr (.inr (.inr (.inr ⟨h6,rfl,rfl,rfl⟩))))))⟩⟩
 clear hS
 refine AC.go yD ?_
 simp-implicitDefEqProofs[nO,hxc,hsl,ha0,hka]
 have hbox':AO.row 5 [[.p (.int .i64 x.op),.p (.str x.name),.p (.lst 4 (x.args.map Ex.cs)),.p (smL x.body),.p (smL x.els)]]=box:=hbox.symm
 rw[hbox']
 have hX1:=hX a (W.args a ham) v s s1 r1 hx1 I.in5 V false x0 sid nid uid uv _ (H.more [box]) (E.more [box]) A
 rw[show a.cs.map AV.p=[.p (.int .i64 a.op),.p (.int .i64 a.n),.p (.str a.name),.p (exL a.kids)] by rw[hka];rfl] at hX1
 refine hX1.mono ?_
 rintro z h2 L
 obtain⟨n,sid1,rfl,e1,e2,e3,E2,A2,e4,e5,e6,e7⟩:=Bz H E A L
 have I1:=(I.in5.ex hx1).1
 have hc1:=om hx1
 have b2:h2[h.length]?=some box:=by have:=e6 0 (by simp);simpa using this
 have S1:Snc R cid V sid nid uid h sid1 nid uid h2:=⟨Fr.wide (K:=[]) e4,e5,.inl rfl,.inl rfl⟩
 have cR:=e3.run
 have lB:h.length+1<=h2.length:=by simpa using e7
 clear L hX1 e6 e7
 rcases hrest with⟨c,rfl,rfl,rfl,rfl⟩|⟨n',rfl,hrest⟩
 ·
  simp only[cf,dL] at cR e3
  have cO:∀b:Ex,AC Tryz.prog G bp [.ptr R 7 0 0,.agg [.p (.int .i64 b.op),.p (.int .i64 b.n),.p (.str b.name),.p (exL b.kids)],.ptr V 4 0 0] h2 λx h'=>x= .ret (.p (.int .i64 0))/\∃os,h'=h2++os:=λb=>by
   have hbc:b.cs.map AV.p=[.p (.int .i64 b.op),.p (.int .i64 b.n),.p (.str b.name),.p (exL b.kids)]:=by rw[b.cs_eq];rfl
   rw[←hbc]
   exact Bl G cR b _
  have cR2:∀os,(h2++os)[R]?=some (aQ l sid1 cid s' c true):=λos=>(e3.more os).run
  simp only[aQ] at cR cR2
  rw[hbox] at b2
  by_cases o4:x.op=4
  ·obtain⟨b,hb1⟩:∃b,x.args[1]?=some b:=by
    have:x.args.length=2:=by rw[W.argn,o4];decide
    exact⟨x.args[1],YO (by omega)⟩
   have hkb:=b.cs_eq
   simp-implicitDefEqProofs[aa,b2,o4,hsl,hb1,hkb]
   refine(cO b).mono ?_
   rintro z h3 ⟨rfl,os,rfl⟩
   simp-implicitDefEqProofs[aa, ↓cR2]
   exact StL.mk (e3.more os) (E2.more os) A2 (S1.st (Fr.more _ _ _) (.inl rfl) (.inl rfl) (.inl rfl))
  ·simp-implicitDefEqProofs[aa,b2,o4,cR]
   exact StL.mk e3 E2 A2 S1
 ·have hnn:=e2 _ rfl
  subst hnn
  simp only[cf,dL] at cR e3
  have cR2:∀os,(h2++os)[R]?=some (aQ l sid1 cid s1 0 false):=λos=>(e3.more os).run
  have cV:=E2.env
  have vS:∀z,(h2.set V z)[V]?=some z:=λz=>YR E2.lt.1
  obtain⟨lV,ln,lu⟩:=E2.lt
  obtain⟨lR,ls,lc⟩:=e3.lt
  obtain⟨d1,d2,d3,d4⟩:=E2.neR e3
  obtain⟨d5,d6⟩:=e3.neR
  have d7:=E2.neN
  have d8:=E2.ne
  have d9:=e3.ne
  obtain⟨A3,A4,A5,A6,A7,A8⟩:=A2
  have A2:Ap R V sid1 cid nid uid:=⟨A3,A4,A5,A6,A7,A8⟩
  have b2':=b2
  rw[hbox] at b2
  have fin:=λ(q:O5 (Option Int)) (sid2 nid2 uid2:Nat) (uv2:AV) (h3:List AO) (w:Sc5) (s2:S5) (g1:RI R cid l sid2 s2 (cf q) (dL q) h3) (g2:EI V nid2 uid2 uv2 w (bkB q) (bkV x0 q) h3) (g3:Ap R V sid2 cid nid2 uid2) (g4:Snc R cid V sid nid uid h sid2 nid2 uid2 h3)=>StL.mk (l:=l) (w:=w) (x0:=x0) (s':=s2) (r:=q) g1 g2 g3 g4
  rcases hrest with⟨o1,m,up,rfl,hsg,rfl,rfl,rfl⟩|⟨o2,hvs,rfl,rfl,rfl⟩|⟨o3,rfl,rfl,rfl⟩|⟨o4,rfl,b,s2,r2,hb1,hx2,hrest⟩|⟨o5,m,hbk⟩|⟨o6,hlp⟩|⟨o7,rfl,rfl,rfl⟩|⟨o8,rfl,rfl,rfl⟩
  ·
   have hfl:=NM (m:=m) (up:=up) (x.name,n)
   obtain⟨t,hn⟩:=E2.names
   have hul:=E2.vals
   have hwl:(aC (m::up)).length+1<=1073750000:=by have:=I.f;omega
   have next:∀(h5:List AO) (nid5 uid5:Nat),h2.length<=h5.length->(∀j,j<h2.length->j≠V->j≠nid->j≠uid->h5[j]?=h2[j]?)->h5[V]?=some (cF nid5 ((aC (m::up)).length+1) (.sl uid5 1 0 ((aC (m::up)).length+1)) false x0)->h5[nid5]?=some (dt ((aC (m::up)).map (·.1)++[x.name]))->h5[uid5]?=some (bz ((aC (m::up)).map (·.2)++[n]))->
    h2.length<=nid5->h2.length<=uid5->nid5≠uid5->StL R cid l V sid nid uid h (aC ((m++[(x.name,n)])::up)) x0 s' (.ok none) (.ret (.tup [])) h5:=λh5 nid5 uid5 g1 g2 g3 g4 g5 g6 g7 g8=>by
    have hu5:=(YL.1 g5).1
    refine fin (.ok none) sid1 nid5 uid5 (.sl uid5 1 0 ((aC (m::up)).length+1)) h5 _ _ (e3.frame (g2 _ lR (by omega) (by omega) (by omega)) (g2 _ ls (by omega) (by omega) (by omega)) (g2 _ lc (by omega) (by omega) (by omega))) ?_ ⟨by omega,by omega,by omega,by omega,by omega,by omega⟩ (S1.st (hh:=h2) ⟨g1,λj j1 j2=>?_⟩ (.inl rfl) (.inr g6) (.inr g7))
    ·rw[hfl]
     refine⟨by simpa[bkB,bkV] using g3,⟨[],by simpa using g4⟩,?_,g8,hu5⟩
     have:=UV.ss uid5 ((aC (m::up)).map (·.2)++[n]) [] (by rw[ZB];exact g5)
     simpa using this
    ·simp only[Za,Zj,or_false,not_or] at j2
     exact g2 j j1 (by omega) (by omega) (by omega)
   simp only[cF] at cV
   have cVs:∀z os,(h2.set nid z++os)[V]?=some (.row 4 [[.sl nid 1 0 (aC (m::up)).length,uv,.p (.bool false),.p (.int .i64 x0)]]):=λz os=>by
    rw[YN (by rw[Zq];exact lV),YM (Ne.symm d7)];exact cV
   have cVt:∀z os w,((h2.set nid z++os).set V w)[V]?=some w:=λz os w=>YR (by simp;omega)
   have cVu:∀z os w os2,((h2.set nid z++os).set V w++os2)[V]?=some w:=λz os w os2=>by
    rw[YN (by simp;omega)];exact cVt z os w
   generalize hfm:aC (m::up)=fm at*
   have hvl:(fm.map (·.2)).length=fm.length:=by simp
   generalize hvm:fm.map (·.2)=vm at*
   cases hul with
   |nn=>
    have hf0:fm=[]:=ZE (by rw[←hvl];rfl)
    subst hf0
    simp-implicitDefEqProofs[aa,b2,o1,hsl,cR,aQ,cV,hn,dt, ↓cVs, ↓cVt, ↓cVu]
    refine next _ h2.length (h2.length+1+1) (by simp;omega) (λj j1 j2 j3 j4=>?_) ?_ ?_ ?_ (by omega) (by omega) (by omega)
    ·rw[YM (by omega),YN (by simp;omega),YM (by omega),YN (by simp;omega),YM (by omega)]
    ·rw[YR (by simp;omega)];simp[cF]
    ·rw[YM (by omega),YN (by simp),YM (by omega),YT (by simp)];simp[dt]
    ·rw[YM (by omega),YT (by simp)];simp[bz]
   |ss _ _ t2 hu=>
    have cUu:∀z os w os2,((h2.set nid z++os).set V w++os2)[uid]?=some (.row 1 ((vm++t2).map λx=>[.p (.int .i64 x)])):=λz os w os2=>by
     rw[YN (by simp;omega),YM (by omega),YN (by simp;omega),YM (by omega)];exact hu
    have cVw:∀z os w os2 z2 os3,((((h2.set nid z++os).set V w++os2).set uid z2)++os3)[V]?=some w:=λz os w os2 z2 os3=>by
     rw[YN (by simp;omega),YM (by omega)];exact cVu z os w os2
    simp-implicitDefEqProofs[aa,b2,o1,hsl,cR,aQ,cV,hn,dt, ↓cVs, ↓cVt, ↓cVu, ↓cUu, ↓cVw]
    refine⟨⟨by omega,by omega⟩,⟨by omega,by omega⟩,?_⟩
    refine next _ h2.length (h2.length+1+1) (by simp;omega) (λj j1 j2 j3 j4=>?_) ?_ ?_ ?_ (by omega) (by omega) (by omega)
    ·rw[YM (by omega),YN (by simp;omega),YM (by omega),YN (by simp;omega),YM (by omega),YN (by simp;omega),YM (by omega)]
    ·rw[YR (by simp;omega)];simp[cF,hvl]
    ·rw[YM (by omega),YN (by simp;omega),YM (by omega),YN (by simp),YM (by omega),YT (by simp)];simp[dt]
    ·rw[YM (by omega),YT (by simp)];simp[bz]
  ·
   obtain⟨n0,hv0⟩:=Option.isSome_iff_exists.1 hvs
   obtain⟨i,v1,v2,v3⟩:=BR I.un hv0
   have hiw:i<(aC v).length:=(YL.1 v2).1
   obtain⟨t,rfl,hu⟩:=E2.vals.ne (by simpa using Nat.lt_of_le_of_lt (ZD _) hiw)
   have cVe:=cV
   simp only[cF] at cVe
   have hlen:((aC v).map (·.2)).length=(aC v).length:=by simp
   simp-implicitDefEqProofs[aa,b2,o2,hsl,cR,aQ,cVe]
   refine((KE G (aC v) x.name (by have:=I.f;omega)).lend (.one (BH E2) (.keep (by simp) .nil)) rfl).mono ?_
   rintro z h3 ⟨rfl,hh3⟩
   rw[hh3]
   simp-implicitDefEqProofs[aa,v1,ixI,cVe]
   have hgi:(bz ((aC v).map (·.2)++t))= .row 1 (((aC v).map (·.2)++t).map λx=>[.p (.int .i64 x)]):=rfl
   have hri:(((aC v).map (·.2)++t).map λx=>[AV.p (.int .i64 x)])[i]?=some [.p (.int .i64 n0)]:=by
    rw[Zb,YN (by simpa using hiw),Zb,v2];rfl
   rw[hgi] at hu
   generalize hrows:(((aC v).map (·.2)++t).map λx=>[AV.p (.int .i64 x)])=rows at hu hri
   simp-implicitDefEqProofs[hu,hri,hiw]
   have hset:rows.set i [.p (.int .i64 n)]=(((aC v).set i (x.name,n)).map (·.2)++t).map λx=>[AV.p (.int .i64 x)]:=by
    rw[←hrows,List.map_set,List.set_append_left _ _ (by simpa using hiw)|>.symm,List.map_set]
   have hnm:((aC v).set i (x.name,n)).map (·.1)=(aC v).map (·.1):=by
    rw[List.map_set]
    exact pm (by rw[Zb,v2];rfl)
   refine fin (.ok none) sid1 nid uid (.sl uid 1 0 (aC v).length) _ _ _ (e3.frame (YM (by omega)) (YM (by omega)) (YM (by omega))) ?_ A2 ⟨S1.fr.set (by simp) _,S1.fs,S1.fn,S1.fu⟩
   rw[v3 n]
   obtain⟨t2,hn⟩:=E2.names
   refine⟨by rw[YM (by omega),Zq];simpa[bkB,bkV] using cV,⟨t2,by rw[YM (by omega),hnm];exact hn⟩,?_,d8,by rw[Zq];exact lu⟩
   have hself:(h2.set uid (.row 1 (rows.set i [.p (.int .i64 n)])))[uid]?=some (bz (((aC v).set i (x.name,n)).map (·.2)++t)):=by
    rw[YR lu,hset];rfl
   have:=UV.ss uid _ t hself
   simpa using this
  ·
   have hs:=e3.said
   have hsr:bz s1.said= .row 1 (s1.said.map λx=>[.p (.int .i64 x)]):=rfl
   have hm5:=I1.m
   unfold M5 at hm5
   rw[hsr] at hs
   have cRs:∀os z os2,((h2++os).set sid1 z++os2)[R]?=some (aQ l sid1 cid s1 0 false):=λos z os2=>by
    rw[YN (by simp;omega),YM (by omega)];exact cR2 os
   have cSs:∀os,(h2++os)[sid1]?=some (.row 1 (s1.said.map λx=>[.p (.int .i64 x)])):=λos=>by rw[YN ls];exact hs
   simp only[aQ] at cR cR2 cRs
   simp-implicitDefEqProofs[aa,b2,o3,hsl,cR, ↓cR2, ↓cRs, ↓cSs]
   refine⟨⟨by omega,by omega⟩,?_⟩
   have keep:∀(h5:List AO),h2.length<=h5.length->(∀j,j<h2.length->j≠R->j≠sid1->h5[j]?=h2[j]?)->∀sid5,h2.length<=sid5->h5[R]?=some (aQ l sid5 cid (s1.say n) 0 false)->h5[sid5]?=some (bz (s1.said++[n]))->StL R cid l V sid nid uid h (aC v') x0 (s1.say n) (.ok none) (.ret (.tup [])) h5:=λh5 g1 g2 sid5 g3 g4 g5=>by
    have E5:EI V nid uid uv (aC v') false x0 h5:=E2.frame g1 (g2 _ lV (by omega) (by omega)) (g2 _ ln (by omega) (by omega)) (g2 _ lu (by omega) (by omega))
    refine fin (.ok none) sid5 nid uid uv h5 _ _ ⟨g4,g5,by rw[g2 _ lc (by omega) (by omega)];exact e3.cells,by omega⟩ E5 ⟨by omega,A4,by omega,A6,A7,A8⟩ (S1.st (hh:=h2) ⟨g1,λj j1 j2=>?_⟩ (.inr g3) (.inl rfl) (.inl rfl))
    simp only[Za,Zj,or_false,not_or] at j2
    exact g2 j j1 (by omega) (by omega)
   refine keep _ (by simp;omega) (λj j1 j2 j3=>?_) (h2.length+1) (by omega) ?_ ?_
   ·rw[YM (by omega),YN (by simp;omega),YM (by omega),YN (by omega)]
   ·rw[YR (by simp;omega)];simp[aQ,S5.say]
   ·rw[YM (by omega),YT (by simp)]
    simp only[Zq,YZ,Ze,List.length_nil,Zz,Nat.sub_self,ZK,bz]
    rw[YU (by simp)]
    simp
  ·
   have hgb:=YS hb1
   have hkb:=b.cs_eq
   have hac:b.cs.map AV.p=[.p (.int .i64 b.op),.p (.int .i64 b.n),.p (.str b.name),.p (exL b.kids)]:=by rw[hkb];rfl
   have hX2:=hX b (W.args b hgb) v' s1 s2 r2 hx2 I1 V false x0 sid1 nid uid uv h2 e3 E2 A2
   rw[hac] at hX2
   simp-implicitDefEqProofs[aa,b2,o4,hsl,hb1,hkb]
   refine hX2.mono ?_
   rintro z h3 ⟨n2,sid2,rfl,f1,f2,f3,f4,f5⟩
   have I2:=(I1.ex hx2).1
   have E3:=E2.keep e3 A2 f4
   have A3':=Ap.step E2 A2 f5
   have S2:=S1.ex f4 f5
   have c2:h3[h.length]?=some box:=by
    rw[f4.2 _ (by omega) ?_];exact b2'
    simp only[Za,Zj,or_false,not_or]
    refine⟨by omega,λe=>?_,by omega⟩
    have:=e3.said
    rw[←e,b2',hbox] at this
    simp[bz] at this
   rw[hbox] at c2
   rcases hrest with⟨c,rfl,rfl,rfl⟩|⟨m,rfl,hrest⟩
   ·simp only[cf,dL] at f3
    have dR:=f3.run
    simp only[aQ] at dR
    simp-implicitDefEqProofs[aa,dR]
    exact fin (.st c) _ _ _ _ _ _ _ f3 E3 A3' S2
   ·have hm:=f2 _ rfl
    subst hm
    simp only[cf,dL] at f3
    have dR:=f3.run
    rcases hrest with⟨h16,rfl,rfl⟩|⟨i,rfl,h16,rfl,rfl⟩
    ·have hst:=Cu G (c:=2) dR
     simp only[aQ] at dR
     simp-implicitDefEqProofs[aa,dR,c2,o4,h16]
     refine hst.mono ?_
     rintro z h4 ⟨rfl,rfl⟩
     simp-implicitDefEqProofs[aa]
     have hRV:=E3.neR f3
     exact fin (.st 2) _ _ _ _ _ _ _ f3.ended (E3.frame (by simp) (YM (by omega)) (YM (by omega)) (YM (by omega))) A3' ⟨S2.fr.set (by simp) _,S2.fs,S2.fn,S2.fu⟩
    ·have cc:=f3.cells
     have hcr:(bz s2.cells)= .row 1 (s2.cells.map λx=>[.p (.int .i64 x)]):=rfl
     rw[hcr] at cc
     have hn16:¬(16:Int)<=i:=by omega
     have hi16:i<s2.cells.length:=by rw[I2.g.len];omega
     have hgc:=YO hi16
     generalize s2.cells[i]=c0 at hgc
     simp only[aQ] at dR
     simp-implicitDefEqProofs[aa,dR,c2,o4,hn16,cc,hgc]
     have hRV:=E3.neR f3
     have hRc:=f3.neR
     have hlc:=f3.lt
     have hne3:=f3.ne
     refine⟨by omega,fin (.ok none) sid2 nid uid uv _ _ _ ⟨by rw[YM (by omega)];exact f3.run,by rw[YM (by omega)];exact f3.said,?_,hne3⟩ (E3.frame (by simp) (YM (by omega)) (YM (by have:=A3'.nc;omega)) (YM (by have:=A3'.uc;omega))) A3' ⟨S2.fr.set (by simp) _,S2.fs,S2.fn,S2.fu⟩⟩
     rw[YR hlc.2.2]
     simp[bz,S5.put,List.map_set]
  ·
   have hsh:nmV v'=nmV v:=(show Grw ([]::v) (m::v') from Cr hbk).tail
   have hft:(aC (m::v')).take (aC ([]::v)).length=aC v':=by
    rw[nz];exact El hsh
   have Ib:In5 ([]::v) s1:=⟨I1.g,I1.ge.opn,I1.un.opn,I1.m,by rw[nz];exact I1.f⟩
   have Eb:EI V nid uid uv (aC ([]::v)) false x0 h2:=by rw[EM];exact E2
   simp only[aQ] at cR
   by_cases hn:n=0
   ·rw[if_neg (by simpa using hn)] at hbk
    have:=hE _ _ _ _ _ hbk Ib V x0 sid1 nid uid uv h2 e3 Eb A2
    rw[hft] at this
    simp-implicitDefEqProofs[aa,b2,o5,hsl,cR,hn]
    refine this.mono ?_
    rintro z h3 ⟨sid',nid',uid',uv',rfl,p1,p2,p3,p4,p5,p6,p7⟩
    simp-implicitDefEqProofs[aa]
    exact fin r _ _ _ _ _ _ _ p1 p2 p3 (S1.st p4 p5 p6 p7)
   ·rw[if_pos hn] at hbk
    have:=hB _ _ _ _ _ hbk Ib V x0 sid1 nid uid uv h2 e3 Eb A2
    rw[hft] at this
    simp-implicitDefEqProofs[aa,b2,o5,hsl,cR,hn]
    refine this.mono ?_
    rintro z h3 ⟨sid',nid',uid',uv',rfl,p1,p2,p3,p4,p5,p6,p7⟩
    simp-implicitDefEqProofs[aa]
    exact fin r _ _ _ _ _ _ _ p1 p2 p3 (S1.st p4 p5 p6 p7)
  ·
   simp only[IX] at hc1
   have Il:InS v s1:=⟨I1.g,I1.ge,I1.un,by have:=I.m;omega,by have:=I.f;omega⟩
   have:=hL o6 _ _ _ _ _ _ hlp Il V x0 sid1 nid uid uv h2 e3 E2 A2
   rw[hxc,hsl] at this
   simp only[aQ] at cR
   simp-implicitDefEqProofs[aa,b2,o6,hsl,cR]
   rw[o6] at this
   refine this.mono ?_
   rintro z h3 ⟨sid',nid',uid',uv',rfl,p1,p2,p3,p4,p5,p6,p7⟩
   simp-implicitDefEqProofs[aa]
   exact fin r _ _ _ _ _ _ _ p1 p2 p3 (S1.st p4 p5 p6 p7)
  ·simp only[aQ] at cR
   simp only[cF] at cV
   simp-implicitDefEqProofs[aa,b2,o7,hsl,cR,cV,vS]
   exact fin (.ok (some n)) _ _ _ _ _ _ _ (e3.setV (s2:=s') E2 _) (E2.setV A2) A2 ⟨S1.fr.set (by simp) _,S1.fs,S1.fn,S1.fu⟩
  ·simp only[aQ] at cR
   simp-implicitDefEqProofs[aa,b2,o8,hsl,cR]
   exact fin (.ok none) _ _ _ _ _ _ _ e3 E2 A2 S1
end
section
theorem In5.opn{v:List Sc5}{s:S5}(I:In5 v s):In5 ([]::v) s:=⟨I.g,I.ge.opn,I.un.opn,I.m,by rw[nz];exact I.f⟩
theorem In5.blk{l:List Fd}{k:Nat}{v v':List Sc5}{s s':S5}{xs:List Sm}{q:O5 (Option Int)}(I:In5 v s)(h:Ev l (.blk k v s xs v' s' q)):In5 v' s':=by
 have a:=dG h ⟨I.g,I.ge⟩
 have b:=om h
 have c:=Sy h I.un
 exact⟨a.1,a.2.2.1,c,Zi b.1 I.m,Zi b.2.2 I.f⟩
theorem In5.tl{m:Sc5}{v:List Sc5}{s:S5}(I:In5 (m::v) s):In5 v s:=⟨I.g,I.ge.tail,I.un.tail,I.m,by have:=zl m v;have:=I.f;omega⟩
theorem In5.tick{v:List Sc5}{s:S5}{F:Nat}(I:In5 v s)(h:s.left=F+1):InS v (s.at_ F):=by
 obtain⟨a,b⟩:=Kk h
 exact⟨I.g.at_ F,I.ge,I.un,by have:=I.m;omega,by have:=I.f;omega⟩
theorem In5.stm{l:List Fd}{k:Nat}{v v':List Sc5}{s s':S5}{x:Sm}{q:O5 (Option Int)}(I:InS v s)(h:Ev l (.stm k v s x v' s' q)):In5 v' s':=by
 have a:=dG h ⟨I.g,I.ge⟩
 have b:=om h
 have c:=Sy h I.un
 simp only[IX] at b
 exact⟨a.1,a.2.2.1,c,by have:=I.m;omega,by have:=I.f;omega⟩
structure LoS where (sid nid uid:Nat) (uv:AV) (hh:List AO) (v:List Sc5) (s:S5) (n:Int) (o:Bool)
structure LoI (l:List Fd) (R cid k V sid nid uid:Nat) (x0:Int) (hb:List AO) (x:Sm) (v':List Sc5) (s':S5) (r:O5 (Option Int)) (a:LoS):Prop where
 run:RI R cid l a.sid a.s (if a.o then cf r else 0) a.o a.hh
 env:EI V a.nid a.uid a.uv (aC a.v) false x0 a.hh
 ap:Ap R V a.sid cid a.nid a.uid
 snc:Snc R cid V sid nid uid hb a.sid a.nid a.uid a.hh
 go:a.o=false->InS a.v a.s/\LpA l k x a.v a.s a.n v' s' r
 over:a.o=true->a.v=v'/\a.s=s'/\∃c,r= .st c
variable (G:am)
theorem Tx{l:List Fd}{R cid k:Nat}{x:Sm}(W:WfS l k x)(h6:x.op=6)(hX:∀e,WfE l k e->ExC G l R cid k e)(hB:StX G l R cid k x.body):LpX G l R cid k x:=by
 intro v s n v' s' r hS I V x0 sid nid uid uv h H E A
 have hxc:=x.cs_eq
 have hsl:exL x.args= .lst 4 (x.args.map Ex.cs):=rfl
 obtain⟨hR0,hs0,hc0⟩:=H.lt
 obtain⟨hV0,hn0,hu0⟩:=E.lt
 have hNR:=E.neR H
 obtain⟨a,ha⟩:∃a,x.args=[a]:=by
  have:x.args.length=1:=by rw[W.argn,h6];decide
  match hx:x.args,this with
  |[a],_=>exact⟨a,rfl⟩
 have ham:a∈x.args:=by rw[ha];simp
 have hg0:x.args[0]?=some a:=by rw[ha];rfl
 have hka:=a.cs_eq
 refine AC.go vJ ?_
 simp-implicitDefEqProofs[nD,hxc]
 obtain⟨box,hbox⟩:∃box,box=AO.row 5 [[.p (.int .i64 x.op),.p (.str x.name),.p (exL x.args),.p (smL x.body),.p (smL x.els)]]:=⟨_,rfl⟩
 rw[←hbox]
 obtain⟨hb,hhb⟩:∃hb,hb=h++[box]:=⟨_,rfl⟩
 have hbl:hb.length=h.length+1:=by rw[hhb];simp
 have hbb:hb[h.length]?=some box:=by rw[hhb];simp
 have J0:LoI l R cid k V sid nid uid x0 hb x v' s' r ⟨sid,nid,uid,uv,hb,v,s,n,false⟩:=
  ⟨by rw[hhb];exact H.more _,by rw[hhb];exact E.more _,A,Snc.init _,λ_=>⟨I,hS⟩,λh=>by cases h⟩
 refine aN (λa:LoS=>aj 41 [(2,.p (.int .i64 a.n)),(5,.ptr h.length 5 0 0),(0,.ptr R 7 0 0),(3,.ptr V 4 0 0)]) (λa=>a.hh) (LoI l R cid k V sid nid uid x0 hb x v' s' r) (λa=>if a.o then 0 else a.s.left+1) ⟨sid,nid,uid,uv,hb,v,s,n,false⟩ J0 ?_ ?_
 ·rw[hhb]
  refine bj (by simp) ?_
  simp[below]
  omega
 clear J0
 rintro⟨sc,nc,uc,uvc,hh,vc,sx,nx,o⟩ J
 have jR:=J.run.run
 have jV:=J.env.env
 have jS:=J.snc
 simp only at jR jV jS
 have fin:∀(q:O5 (Option Int)) (sid2 nid2 uid2:Nat) (uv2:AV) (h3:List AO) (w:Sc5) (s2:S5),RI R cid l sid2 s2 (cf q) (dL q) h3->EI V nid2 uid2 uv2 w (bkB q) (bkV x0 q) h3->Ap R V sid2 cid nid2 uid2->Snc R cid V sid nid uid hb sid2 nid2 uid2 h3->StL R cid l V sid nid uid h w x0 s2 q (.ret (.tup [])) h3:=λq sid2 nid2 uid2 uv2 h3 w s2 g1 g2 g3 g4=>StL.mk g1 g2 g3 (by rw[hhb] at g4;exact g4.base)
 cases o with
 |true=>
  obtain⟨rfl,rfl,c,rfl⟩:=J.over rfl
  simp only[cf,if_true] at jR
  have hrun:=J.run
  have henv:=J.env
  simp only[cf,if_true] at hrun henv
  simp only[aQ] at jR
  by_cases hn:nx=0
  ·simp-implicitDefEqProofs[hn]
   exact fin (.st c) _ _ _ _ _ _ _ hrun henv J.ap J.snc
  ·simp-implicitDefEqProofs[hn,jR]
   exact fin (.st c) _ _ _ _ _ _ _ hrun henv J.ap J.snc
 |false=>
  obtain⟨Ic,hlp⟩:=J.go rfl
  simp only at Ic hlp
  have hrun:=J.run
  have henv:=J.env
  simp only[Bool.false_eq_true,if_false] at jR hrun henv
  rcases hlp with⟨rfl,rfl,rfl,rfl⟩|⟨hn,m,v1,s2,q1,hbk,hrest⟩
  ·simp-implicitDefEqProofs[]
   exact fin (.ok none) _ _ _ _ _ _ _ hrun henv J.ap J.snc
  have hsh:nmV v1=nmV vc:=(show Grw ([]::vc) (m::v1) from Cr hbk).tail
  have hft:(aC (m::v1)).take (aC ([]::vc)).length=aC v1:=by
   rw[nz];exact El hsh
  have Eb:EI V nc uc uvc (aC ([]::vc)) false x0 hh:=by rw[EM];exact henv
  have I2:In5 v1 s2:=(Ic.in5.opn.blk hbk).tl
  have hBk:=hB _ _ _ _ _ hbk Ic.in5.opn V x0 sc nc uc uvc hh hrun Eb J.ap
  rw[hft] at hBk
  have hbox2:hh[h.length]?=some box:=by
   rw[jS.keep (by omega) (by omega)];exact hbb
  rw[hbox] at hbox2
  simp only[aQ] at jR
  simp-implicitDefEqProofs[hn,jR,hbox2]
  refine hBk.mono ?_
  rintro z h3 ⟨sid',nid',uid',uv',rfl,p1,p2,p3,p4,p5,p6,p7⟩
  have S3:=jS.st p4 p5 p6 p7
  have pR:=p1.run
  have pV:=p2.env
  rcases hrest with⟨hq,rfl,rfl,rfl⟩|⟨rfl,hrest⟩
  ·cases r with
   |st c=>
    simp only[cf,dL,aQ] at pR
    simp-implicitDefEqProofs[aa,pR]
    exact fin (.st c) _ _ _ _ _ _ _ p1 p2 p3 S3
   |ok q=>
    cases q with
    |none=>exact(hq rfl).elim
    |some m=>
     simp only[cf,dL,aQ] at pR
     simp only[bkB,bkV,cF] at pV
     simp-implicitDefEqProofs[aa,pR,pV]
     exact fin (.ok (some m)) _ _ _ _ _ _ _ p1 p2 p3 S3
  ·simp only[cf,dL] at pR p1
   simp only[bkB,bkV] at pV p2
   have htk:=Od G pR (by have:=I2.m;unfold M5 at this;omega)
   obtain⟨q1,q2,q3⟩:=p1.lt
   obtain⟨q4,q5,q6⟩:=p2.lt
   have q7:=p2.neR p1
   have q8:=p1.neR
   have q9:=p1.ne
   have uR:=p3.uR
   simp only[aQ] at pR
   simp only[cF] at pV
   simp-implicitDefEqProofs[aa,pR,pV]
   refine htk.mono ?_
   rintro z h4 ⟨rfl,rfl⟩
   have hlen3:∀z,(h3.set R z).length=h3.length:=λz=>Zq
   have S4:∀z,Snc R cid V sid nid uid hb sid' nid' uid' (h3.set R z):=λz=>⟨S3.fr.set (by simp) _,S3.fs,S3.fn,S3.fu⟩
   have c4:∀z,(h3.set R z)[h.length]?=some (.row 5 [[.p (.int .i64 x.op),.p (.str x.name),.p (.lst 4 (x.args.map Ex.cs)),.p (smL x.body),.p (smL x.els)]]):=λz=>by
    rw[(S4 z).keep (by omega) (by omega),hbb,hbox];rfl
   have E4:∀z,EI V nid' uid' uv' (aC v1) false x0 (h3.set R z):=λz=>p2.frame (by simp) (YM (by omega)) (YM (by omega)) (YM (by omega))
   have next:∀(sid5:Nat) (h5:List AO) (s5:S5) (n5:Int) (o5:Bool) (sl:List (Nat × AV)),LoI l R cid k V sid nid uid x0 hb x v' s' r ⟨sid5,nid',uid',uv',h5,v1,s5,n5,o5⟩->s5.left<=s2.left->s2.left<=sx.left->(o5=false->s5.left<sx.left)->Aw.look sl 2= .p (.int .i64 n5)->Aw.look sl 5= .ptr h.length 5 0 0->Aw.look sl 0= .ptr R 7 0 0->Aw.look sl 3= .ptr V 4 0 0->
    ∃a:LoS,LoI l R cid k V sid nid uid x0 hb x v' s' r a/\(if a.o=true then 0 else a.s.left+1)<sx.left+1/\Wk h.length (aj 41 sl) h5 (aj 41 [(2,.p (.int .i64 a.n)),(5,.ptr h.length 5 0 0),(0,.ptr R 7 0 0),(3,.ptr V 4 0 0)]) a.hh:=λsid5 h5 s5 n5 o5 sl J5 g1 g2 g3 e2 e5 e0 e3=>by
    refine⟨_,J5,?_,bj ?_ ?_⟩
    ·cases o5 with
     |true=>simp
     |false=>have:=g3 rfl;simp only[Bool.false_eq_true,if_false];omega
    ·have:=J5.snc.fr.1;simp only at this;omega
    ·have:=J5.snc.fr.1
     simp only at this
     simp[below,e2,e5,e0,e3]
     omega
   have hcb:=om hbk
   simp only[IX] at hcb
   have hac:a.cs.map AV.p=[.p (.int .i64 a.op),.p (.int .i64 a.n),.p (.str a.name),.p (exL a.kids)]:=by rw[hka];rfl
   rcases hrest with⟨h0,rfl,rfl,rfl⟩|⟨F,hF,hl2⟩
   ·rw[if_pos h0]
    have rS:(h3.set R (aQ l sid' cid s' 3 true))[R]?=some (aQ l sid' cid s' 3 true):=YR q1
    have hxo:=Bl G rS a (.ptr V 4 0 0)
    rw[hac] at hxo
    have c5:=c4 (aQ l sid' cid s' 3 true)
    simp-implicitDefEqProofs[aa,c5,hsl,hg0,hka]
    refine hxo.mono ?_
    rintro z h5 ⟨rfl,os,rfl⟩
    simp-implicitDefEqProofs[aa]
    refine next sid' _ s' 0 true _ ⟨by simpa[cf] using p1.ended.more os,(E4 _).more os,p3,(S4 _).st (Fr.more _ _ _) (.inl rfl) (.inl rfl) (.inl rfl),(λh=>by cases h),λ_=>⟨rfl,rfl,3,rfl⟩⟩ (YY _) hcb.2.1 (λh=>by cases h) (by simp) (by simp) (by simp) (by simp)
   ·rw[if_neg (by omega)]
    have hF1:s2.left-1=F:=by omega
    rw[hF1]
    have I4:=I2.tick hF
    have R4:RI R cid l sid' (s2.at_ F) 0 false (h3.set R (aQ l sid' cid (s2.at_ F) 0 false)):=⟨YR q1,by rw[YM (by omega)];exact p1.said,by rw[YM (by omega)];exact p1.cells,q9⟩
    obtain⟨a',s4,r4,hA',hx4,hr4⟩:=Fw hl2
    rw[ha] at hA'
    cases hA'
    have hx5:=hX a (W.args a ham) v1 (s2.at_ F) s4 r4 hx4 I4.in5 V false x0 sid' nid' uid' uv' _ R4 (E4 _) p3
    rw[hac] at hx5
    have c5:=c4 (aQ l sid' cid (s2.at_ F) 0 false)
    have hc4:=om hx4
    simp only[IX,S5.at_] at hc4
    simp-implicitDefEqProofs[aa,c5,hsl,hg0,hka]
    refine hx5.mono ?_
    rintro z h5 ⟨n5,sid5,rfl,f1,f2,f3,f4,f5⟩
    have E5:=(E4 _).keep R4 p3 f4
    have A5:=Ap.step (E4 _) p3 f5
    have S5':=(S4 _).ex f4 f5
    have I5:=I4.in5.ex hx4
    simp-implicitDefEqProofs[aa]
    rcases hr4 with⟨c,rfl,rfl,rfl,rfl⟩|⟨n6,rfl,hl6⟩
    ·simp only[cf,dL] at f3
     exact next sid5 _ s' n5 true _ ⟨by simpa[cf] using f3,E5,A5,S5',(λh=>by cases h),λ_=>⟨rfl,rfl,c,rfl⟩⟩ (by omega) hcb.2.1 (λh=>by cases h) (by simp) (by simp) (by simp) (by simp)
    ·have:=f2 _ rfl
     subst this
     simp only[cf,dL] at f3
     refine next sid5 _ s4 n5 false _ ⟨by simpa using f3,E5,A5,S5',(λ_=>⟨⟨I5.1.g,I5.1.ge,I5.1.un,?_,?_⟩,hl6⟩),(λh=>by cases h)⟩ (by omega) hcb.2.1 (λh=>by omega) (by simp) (by simp) (by simp) (by simp)
     ·have:=I4.m;simp only[M5,S5.at_] at this hc4⊢;omega
     ·have:=I4.f;simp only[S5.at_] at this⊢;omega
end
end Go.Proofs.YtokiapglmedipaaGreatDoor
