/-
  Contracts and lemmas that the card needs, part 8.
-/
import Derived.Test.YtokiapglmedipaaGreatDoorFo7
namespace Go.Proofs.YtokiapglmedipaaGreatDoor
open Go Go.Aw
set_option maxRecDepth 100000
set_option maxHeartbeats 4000000
section
variable (G:am)
def PshF(s:Bool)(sz:Nat)(D:List (List PV))(h0:List AO)(a:PshS):Prop:=a.i<=D.length/\h0.length<=a.id/\h0.length<=a.h.length/\(∀j,j<h0.length->a.h[j]?=h0[j]?)/\∃rows J,RowOwn s a.h a.id sz rows (D.take a.i) J/\∀j∈J,h0.length<=j
theorem Du{h h2:List AO}(hl:h.length<=h2.length)(hf:∀j,j<h.length->h2[j]?=h[j]?):h2=h++h2.drop h.length:=by
 have e:h2.take h.length=h:=by
  apply List.ext_getElem?
  intro j
  by_cases hj:j<h.length
  ·rw[List.getElem?_take_of_lt hj];exact hf j hj
  ·rw[aam (by rw[ZS];omega),aam (by omega)]
 have e2:=aab h.length h2
 rw[e] at e2
 exact e2.symm
theorem PshF.init{s:Bool}{sz:Nat}{D:List (List PV)}(h0 os:List AO):PshF s sz D h0 ⟨0,h0.length,h0++ .row sz []::os⟩:=
 ⟨Nat.zero_le _,ZH _,by simp,λj hj=>Zv hj,[],[],⟨by simp,rfl,λ_ h=>(by cases h),λ_ h=>(by cases h),.nil,by simp⟩,λj hj=>by cases hj⟩
theorem PshF.step{s:Bool}{sz i id:Nat}{D:List (List PV)}{h0 h:List AO}(H:PshF s sz D h0 ⟨i,id,h⟩){e:List PV}(hi:D[i]?=some e){h2:List AO}(hl:h.length<=h2.length)(hf:∀j,j<h.length->h2[j]?=h[j]?){r':List AV}{I2:List Nat}(ho:OwnL s h2 r' e I2)(nd2:I2.Nodup)(hn:∀j∈I2,h.length<=j)(he:e.length=sz):
 ∃rows,(∀os,(h2++os)[id]?=some (.row sz rows))/\rows.length=i/\i<D.length/\id<h2.length/\∀os1 os2,PshF s sz D h0 ⟨i+1,(h2++os1).length,(h2++os1).set id .dead++ .row sz (rows++[r'])::os2⟩:=by
 obtain⟨h1,h3,h4,h5,rows,J,hr,hJ⟩:=H
 have hil:i<D.length:=(Zt.1 hi).1
 have hlen:=hr.len
 simp only at h1 h3 h4 h5 hlen hr
 rw[ZS,Nat.min_eq_left h1] at hlen
 have e2:=Du hl hf
 have hid:=hr.lt
 have h2e:h2[id]?=some (.row sz rows):=by rw[hf id hid];exact hr.here
 refine⟨rows,λos=>by rw[Zv (by omega)];exact h2e,hlen,hil,by omega,λos1 os2=>⟨hil,by simp only[ZM];omega,by simp;omega,λj hj=>?_,rows++[r'],J++I2,?_,λj hj=>?_⟩⟩
 ·simp only
  rw[Zv (by simp only[aag,ZM,ZO];omega),Zx (by omega),Zv (by omega),hf j (by omega)]
  exact h5 j hj
 ·have hp:=(hr.push (h2:=h2++os1) (os:=h2.drop h.length++os1) (by rw[←ZZ,←e2]) (ho.more os1) nd2 hn he).more os2
  have hd:D.take i++[e]=D.take (i+1):=by rw[List.take_add_one,hi];rfl
  rw[hd,ZZ] at hp
  exact hp
 ·rcases ZB.1 hj with hj|hj
  ·exact hJ j hj
  ·have:=hn j hj;omega
theorem PshF.done{s:Bool}{sz i id:Nat}{D:List (List PV)}{h0 h:List AO}(H:PshF s sz D h0 ⟨i,id,h⟩)(hi:D.length<=i):h0.length<=h.length/\(∀j,j<h0.length->h[j]?=h0[j]?)/\∃I,OwnL s h [.sl id sz 0 i] [.lst sz D] I/\I.Nodup/\∀j∈I,h0.length<=j:=by
 obtain⟨h1,h3,h4,h5,rows,J,hr,hJ⟩:=H
 simp only at h1 h3 h4 h5 hr
 rw[Zz hi] at hr
 exact⟨h4,h5,id::J,hr.tree (by omega),hr.nd,λj hj=>by
  rcases ZI.1 hj with rfl|hj
  ·exact h3
  ·exact hJ j hj⟩
theorem Jl{s:Bool}{n:Nat}{h1 os:List AO}{a b:List AV}{c d:List PV}{I1 I2:List Nat}(H1:OwnL s h1 a c I1)(n1:I1.Nodup)(f1:∀i∈I1,n<=i)(H2:OwnL s (h1++os) b d I2)(n2:I2.Nodup)(f2:∀i∈I2,h1.length<=i)(hn:n<=h1.length):
 OwnL s (h1++os) (a++b) (c++d) (I1++I2)/\(I1++I2).Nodup/\∀i∈I1++I2,n<=i:=by
 refine⟨(H1.more os).app H2,?_,λi hi=>?_⟩
 ·rw[aan]
  refine⟨n1,n2,λa ha b hb e=>?_⟩
  have:=H1.lt ha;have:=f2 b hb;omega
 ·rcases ZB.1 hi with hi|hi
  ·exact f1 i hi
  ·have:=f2 i hi;omega
theorem Cw{α:Type}(l:List α)(a b:α):(l++[a]).set l.length b=l++[b]:=by
 rw[List.set_append_right _ _ (ZH _),Nat.sub_self];rfl
theorem Su{h:List AO}{s:Sm}{A B E:AV}{I:List Nat}(H:OwnL true h ([A]++[B]++[E]) ([exL s.args]++[smL s.body]++[smL s.els]) I):OwnL true h [.p (.int .i64 s.op),.p (.str s.name),A,B,E] s.cs I:=by
 rw[s.cs_eq]
 exact .p _ (λ_=>rfl) (.p _ (λ_=>rfl) H)
theorem OS{s:Bool}{h:List AO}{v:AV}{q:PV}{I:List Nat}(H:OwnL s h [v] [q] I):v.cells=[v]/\v.isCell=true:=by
 cases H with
 |p=>exact⟨rfl,rfl⟩
 |nils=>exact⟨rfl,rfl⟩
 |sl=>exact⟨rfl,rfl⟩
theorem mg{s:Bool}{h:List AO}{v:AV}{q:PV}{I:List Nat}(H:OwnL s h [v] [q] I):(∃q',v= .p q')\/v= .nils\/∃a b n,v= .sl a b 0 n:=by
 cases H with
 |p q=>exact .inl ⟨_,rfl⟩
 |nils=>exact .inr (.inl rfl)
 |sl id sz n=>exact .inr (.inr ⟨_,_,_,rfl⟩)
theorem SU{s:Bool}{h:List AO}{e:Ex}{K:AV}{I:List Nat}(H:OwnL s h [K] [exL e.kids] I):OwnL s h [.p (.int .i64 e.op),.p (.int .i64 e.n),.p (.str e.name),K] e.cs I:=by
 rw[e.cs_eq]
 exact .p _ (λ_=>rfl) (.p _ (λ_=>rfl) (.p _ (λ_=>rfl) H))
theorem Ow:∀(N:Nat) (e:Ex),e.sz<=N->e.sz<=1073741824->AC Tryz.prog G kN [.agg (e.cs.map .p)] [] (MkW .agg true e.cs):=by
 intro N
 induction N with
 |zero=>intro e he;have:=e.sz_eq;omega
 |succ N ih=>
  intro e he hb
  have hsz:=e.sz_eq
  have hkl:=aZ e.kids
  refine AC.go Er ?_
  have hec:=e.cs_eq
  have hsl:exL e.kids= .lst 4 (e.kids.map Ex.cs):=rfl
  simp-implicitDefEqProofs[uA,hec,hsl]
  obtain⟨hb0,ehb⟩:∃hb0:List AO,hb0=[.row 4 [[.p (.int .i64 e.op),.p (.int .i64 e.n),.p (.str e.name),.p (.lst 4 (e.kids.map Ex.cs))]],.row 4 [[.p (.int .i64 0),.p (.int .i64 0),.p (.str []),.nils]]]:=⟨_,rfl⟩
  have hini:PshF true 4 (e.kids.map Ex.cs) hb0 ⟨0,2,[.row 4 [[.p (.int .i64 e.op),.p (.int .i64 e.n),.p (.str e.name),.p (.lst 4 (e.kids.map Ex.cs))]],.row 4 [[.p (.int .i64 0),.p (.int .i64 0),.p (.str []),.nils]],.row 4 []]⟩:=by
   rw[ehb];exact PshF.init _ []
  refine aI (λa:PshS=>ah 25 [(4,.p (.int .i64 a.i)),(3,.sl a.id 4 0 a.i),(2,.ptr 1 4 0 0),(1,.ptr 0 4 0 0)]) (λa=>a.h) (PshF true 4 (e.kids.map Ex.cs) hb0) (λa=>e.kids.length-a.i) _ hini ?_ ?_
  ·exact bF (by simp) (by simp[below])
  rintro⟨i,id,h'⟩ hJ
  have hl0:hb0.length=2:=by rw[ehb];rfl
  have g0:h'[0]?=some (.row 4 [[.p (.int .i64 e.op),.p (.int .i64 e.n),.p (.str e.name),.p (.lst 4 (e.kids.map Ex.cs))]]):=by rw[hJ.2.2.2.1 0 (by omega),ehb];rfl
  have g1:h'[1]?=some (.row 4 [[.p (.int .i64 0),.p (.int .i64 0),.p (.str []),.nils]]):=by rw[hJ.2.2.2.1 1 (by omega),ehb];rfl
  have hl2:2<=h'.length:=by have:=hJ.2.2.1;simp only at this;omega
  simp-implicitDefEqProofs[g0]
  refine aT (λh1=>?_) (λh1=>?_)
  ·simp at h1
   have hg:=Zu h1
   have hm:=aN (ZD h1)
   have hH:=ih e.kids[i] (by omega) (by omega)
   have hcs:=e.kids[i].cs_eq
   have hDa:(e.kids.map Ex.cs)[i]?=some e.kids[i].cs:=by rw[ZK,hg];rfl
   generalize e.kids[i]=k at hg hH hcs hDa
   have hA:=AC.mkLift BP hH (h:=h') (by rw[hcs];simp)
   rw[hcs] at hA
   simp-implicitDefEqProofs[g0,hg,hcs]
   refine hA.mono ?_
   rintro r h2 ⟨vs,I2,os,rfl,e2,ho,nd,hf⟩
   rw[←hcs] at ho
   obtain⟨rows,k1,k2,k3,k4,k5⟩:=hJ.step hDa (h2:=h2) (by rw[e2];simp) (λx hx=>by rw[e2,Zv hx]) ho nd hf k.cs_len
   obtain⟨K,rfl,hK⟩:=Kh ho
   have hwi:=w1 (i:=i) (by omega)
   rcases mg hK with⟨q1,rfl⟩|rfl|⟨x1,x2,x3,rfl⟩
   ·have k6:=k5 [.row 4 [[.p (.int .i64 k.op),.p (.int .i64 k.n),.p (.str k.name),.p q1]]] []
    simp-implicitDefEqProofs[aa,k1,k2]
    rw[Zz (l:=rows) (i:=i) (by omega)]
    refine⟨⟨by omega,by omega⟩,_,k6,by simp only;omega,bF (by simp) ?_⟩
    simp[below,hwi]
   ·have k6:=k5 [.row 4 [[.p (.int .i64 k.op),.p (.int .i64 k.n),.p (.str k.name),.nils]]] []
    simp-implicitDefEqProofs[aa,k1,k2]
    rw[Zz (l:=rows) (i:=i) (by omega)]
    refine⟨⟨by omega,by omega⟩,_,k6,by simp only;omega,bF (by simp) ?_⟩
    simp[below,hwi]
   ·have k6:=k5 [.row 4 [[.p (.int .i64 k.op),.p (.int .i64 k.n),.p (.str k.name),.sl x1 x2 0 x3]]] []
    simp-implicitDefEqProofs[aa,k1,k2]
    rw[Zz (l:=rows) (i:=i) (by omega)]
    refine⟨⟨by omega,by omega⟩,_,k6,by simp only;omega,bF (by simp) ?_⟩
    simp[below,hwi]
  ·simp at h1
   have hie:i=e.kids.length:=by have:=hJ.1;simp at this;omega
   obtain⟨d1,d2,I,ho,nd,hI⟩:=hJ.done (by simpa using h1)
   subst hie
   have hn0:0∉I:=λhm=>by have:=hI 0 hm;omega
   have hn1:1∉I:=λhm=>by have:=hI 1 hm;omega
   have s0:∀x,(h'.set 0 x)[0]?=some x:=λx=>ZJ (by omega)
   have s1:∀x,(h'.set 0 x)[1]?=some (.row 4 [[.p (.int .i64 0),.p (.int .i64 0),.p (.str []),.nils]]):=λx=>by rw[Zx (by omega)];exact g1
   have s2:∀x y,((h'.set 0 x).set 1 y)[1]?=some y:=λx y=>ZJ (by rw[aag];omega)
   simp-implicitDefEqProofs[g0,g1,s0,s1,s2]
   rw[←hsl,←hec]
   exact⟨_,I,rfl,SU ((ho.set_out hn0 _).set_out hn1 _),nd⟩
theorem Ax:∀(N:Nat) (l:List Sm),an l<N->an l<=1073741824->AC Tryz.prog G dG [.p (smL l)] [] (MkW eC true [smL l]):=by
 intro N
 induction N with
 |zero=>intro l he;omega
 |succ N ih=>
  intro l hN hz
  have hsl:∀l,smL l= .lst 5 (l.map Sm.cs):=λ_=>rfl
  have hll:=bC l
  refine AC.go Ct ?_
  simp-implicitDefEqProofs[rJ,hsl]
  refine aI (λa:PshS=>ah 52 [(4,.p (.int .i64 a.i)),(3,.sl a.id 5 0 a.i),(0,.p (smL l))]) (λa=>a.h) (PshF true 5 (l.map Sm.cs) []) (λa=>l.length-a.i) ⟨0,0,[.row 5 []]⟩ (PshF.init [] []) ?_ ?_
  ·exact bF (by simp) (by simp[below,hsl])
  rintro⟨i,id,hh⟩ hI
  simp-implicitDefEqProofs[hsl]
  refine aT (λh1=>?_) (λh1=>?_)
  ·simp at h1
   have hg:=Zu h1
   have hm:=cA (ZD h1)
   have hcs:=l[i].cs_eq
   have hse:=l[i].sz_eq
   have hD:(l.map Sm.cs)[i]?=some l[i].cs:=by rw[ZK,hg];rfl
   generalize l[i]=s at hg hm hcs hse hD
   simp-implicitDefEqProofs[hg,hcs,Cw]
   have hid:id<hh.length:=by obtain⟨_,_,_,_,_,_,hr,_⟩:=hI;exact hr.lt
   have hal:=aZ s.args
   have hxl:exL s.args= .lst 4 (s.args.map Ex.cs):=rfl
   obtain⟨hb,ehb⟩:∃hb,hb=hh++[AO.row 5 [[.p (.int .i64 s.op),.p (.str s.name),.p (exL s.args),.p (smL s.body),.p (smL s.els)]]]:=⟨_,rfl⟩
   have hbl:hb.length=hh.length+1:=by rw[ehb];simp
   have hbx:hb[hh.length]?=some (.row 5 [[.p (.int .i64 s.op),.p (.str s.name),.p (exL s.args),.p (smL s.body),.p (smL s.els)]]):=by rw[ehb];simp
   have hini:PshF true 4 (s.args.map Ex.cs) hb ⟨0,hh.length+1,hh++[AO.row 5 [[.p (.int .i64 s.op),.p (.str s.name),.p (exL s.args),.p (smL s.body),.p (smL s.els)]],.row 4 []]⟩:=by
    have:=PshF.init (s:=true) (sz:=4) (D:=s.args.map Ex.cs) hb []
    rw[hbl,ehb,ZZ] at this
    rw[ehb];exact this
   refine aI (λa:PshS=>ah 52 [(7,.p (.int .i64 a.i)),(6,.sl a.id 4 0 a.i),(5,.ptr hh.length 5 0 0),(4,.p (.int .i64 i)),(3,.sl id 5 0 i),(0,.p (smL l))]) (λa=>a.h) (PshF true 4 (s.args.map Ex.cs) hb) (λa=>s.args.length-a.i) _ hini ?_ ?_
   ·refine bF (by simp) ?_
    simp[below,hsl]
    omega
   rintro⟨j,id2,h'⟩ hJ
   have hjb:h'[hh.length]?=some (.row 5 [[.p (.int .i64 s.op),.p (.str s.name),.p (exL s.args),.p (smL s.body),.p (smL s.els)]]):=by
    rw[hJ.2.2.2.1 _ (by omega)];exact hbx
   have hlb:hh.length+1<=h'.length:=by have:=hJ.2.2.1;simp only at this;omega
   simp-implicitDefEqProofs[hjb,hxl]
   refine aT (λh2=>?_) (λh2=>?_)
   ·simp at h2
    have hga:=Zu h2
    have hma:=aN (ZD h2)
    have hC:=Ow G _ s.args[j] (ZH _) (by omega)
    have hka:=s.args[j].cs_eq
    have hDa:(s.args.map Ex.cs)[j]?=some s.args[j].cs:=by rw[ZK,hga];rfl
    generalize s.args[j]=e at hga hma hC hka hDa
    have hA:=AC.mkLift BP hC (h:=h') (by rw[hka];simp)
    rw[hka] at hA
    simp-implicitDefEqProofs[hjb,hga,hka,hxl]
    refine hA.mono ?_
    rintro r h2 ⟨vs,I2,os,rfl,e2,ho,nd,hf⟩
    rw[←hka] at ho
    obtain⟨rows,k1,k2,k3,k4,k5⟩:=hJ.step hDa (h2:=h2) (by rw[e2];simp) (λx hx=>by rw[e2,Zv hx]) ho nd hf e.cs_len
    obtain⟨K,rfl,hK⟩:=Kh ho
    have hwj:=w1 (i:=j) (by omega)
    have hl2:h'.length<=h2.length:=by rw[e2];simp
    rcases mg hK with⟨q1,rfl⟩|rfl|⟨x1,x2,x3,rfl⟩
    ·have k6:=k5 [.row 4 [[.p (.int .i64 e.op),.p (.int .i64 e.n),.p (.str e.name),.p q1]]] []
     simp-implicitDefEqProofs[aa,k1,k2]
     rw[Zz (l:=rows) (i:=j) (by omega)]
     refine⟨⟨by omega,by omega⟩,_,k6,by simp only;omega,bF (by simp) ?_⟩
     simp[below,hsl,hwj]
     omega
    ·have k6:=k5 [.row 4 [[.p (.int .i64 e.op),.p (.int .i64 e.n),.p (.str e.name),.nils]]] []
     simp-implicitDefEqProofs[aa,k1,k2]
     rw[Zz (l:=rows) (i:=j) (by omega)]
     refine⟨⟨by omega,by omega⟩,_,k6,by simp only;omega,bF (by simp) ?_⟩
     simp[below,hsl,hwj]
     omega
    ·have k6:=k5 [.row 4 [[.p (.int .i64 e.op),.p (.int .i64 e.n),.p (.str e.name),.sl x1 x2 0 x3]]] []
     simp-implicitDefEqProofs[aa,k1,k2]
     rw[Zz (l:=rows) (i:=j) (by omega)]
     refine⟨⟨by omega,by omega⟩,_,k6,by simp only;omega,bF (by simp) ?_⟩
     simp[below,hsl,hwj]
     omega
   ·simp at h2
    have hjl:j=s.args.length:=by have:=hJ.1;simp at this;omega
    obtain⟨d1,d2,IA,oA,nA,fA⟩:=hJ.done (by simpa using h2)
    subst hjl
    have hB:=ih s.body (by omega) (by omega)
    have hE:=ih s.els (by omega) (by omega)
    simp-implicitDefEqProofs[hjb]
    refine(AC.mkLift nW hB (h:=h') (by simp)).mono ?_
    rintro r h3 ⟨vB,IB,o1,rfl,e3,oB,nB,fB⟩
    obtain⟨B,rfl⟩:=fh oB
    have hjb3:h3[hh.length]?=some (.row 5 [[.p (.int .i64 s.op),.p (.str s.name),.p (exL s.args),.p (smL s.body),.p (smL s.els)]]):=by
     rw[e3,Zv (by omega)];exact hjb
    simp-implicitDefEqProofs[aa,eC,hjb3]
    refine(AC.mkLift nW hE (h:=h3) (by simp)).mono ?_
    rintro r h4 ⟨vE,IE,o2,rfl,e4,oE,nE,fE⟩
    obtain⟨E,rfl⟩:=fh oE
    have hjb4:h4[hh.length]?=some (.row 5 [[.p (.int .i64 s.op),.p (.str s.name),.p (exL s.args),.p (smL s.body),.p (smL s.els)]]):=by
     have:hh.length<h3.length:=(Zt.1 hjb3).1
     rw[e4,Zv this];exact hjb3
    have cB:=mg oB
    have cE:=mg oE
    obtain⟨a1,a2,a3⟩:=Jl oA nA fA (by rw[←e3];exact oB) nB fB d1
    rw[←e3] at a1
    obtain⟨b1,b2,b3⟩:=Jl a1 a2 a3 (by rw[←e4];exact oE) nE fE (by rw[e3];simp;omega)
    rw[←e4] at b1
    have hS:=Su (s:=s) b1
    obtain⟨rows,k1,k2,k3,k4,k5⟩:=hI.step hD (h2:=h4) (by rw[e4,e3];simp;omega) (λx hx=>by
     rw[e4,Zv (by rw[e3];simp;omega),e3,Zv (by omega),d2 x (by omega),ehb,Zv hx]) hS b2 (λx hx=>by have:=b3 x hx;omega) s.cs_len
    have k6:=k5 [.row 5 [[.p (.int .i64 s.op),.p (.str s.name),.sl id2 4 0 s.args.length,B,E]]] []
    have hwi:=w1 (i:=i) (by omega)
    rcases cB with⟨q1,rfl⟩|rfl|⟨x1,x2,x3,rfl⟩<;>rcases cE with⟨q2,rfl⟩|rfl|⟨y1,y2,y3,rfl⟩<;>
    ·simp-implicitDefEqProofs[aa,eC,hjb4,k1,k2]
     rw[Zz (l:=rows) (i:=i) (by omega)]
     refine⟨⟨by omega,by omega⟩,_,k6,by simp only;omega,bF (by simp) ?_⟩
     simp[below,hsl,hwi]
  ·simp at h1
   obtain⟨_,_,I,ho,nd,_⟩:=hI.done (by simpa using h1)
   have hie:i=l.length:=by have:=hI.1;simp at this;omega
   subst hie
   simp-implicitDefEqProofs[]
   exact⟨_,I,rfl,ho,nd⟩
def cpK(a:PshS):AV:=if a.i=0 then .nils else .sl a.id 3 0 a.i
def CpI(l:List Fd)(a:PshS):Prop:=a.i<=l.length/\a.h[0]?=some (.row 1 [[.p (fdL l)]])/\a.h[1]?=some (.row 1 [[.nils]])/\a.h[2]?=some (.row 1 [[cpK a]])/\
 (0<a.i->3<=a.id/\∃rows J,RowOwn true a.h a.id 3 rows ((l.map Fd.cs).take a.i) J/\∀j∈J,3<=j)
theorem pm:∀l:List Fd,l.length<=aH l
 |[]=>ZH _
 |f::r=>by
  have:=pm r
  have h1:aH (f::r)=f.sz+aH r:=by simp[aH]
  have h2:f.sz=1+f.name.length+(f.params.length+(f.params.map List.length).sum)+an f.body:=rfl
  simp only[ZO];omega
theorem Hy{h:List AO}{id:Nat}{l:List (List UInt8)}(e:h[id]?=some (fV l)){n:Nat}(hn:n=l.length):OwnL true h [.sl id 1 0 n] [au l] [id]:=by
 have hr:RowOwn true h id 1 (l.map λw=>[AV.p (.str w)]) (l.map λw=>[PV.str w]) []:=by
  refine⟨e,by simp,λx hx=>by obtain⟨w,_,rfl⟩:=ZN.1 hx;rfl,λx hx=>by obtain⟨w,_,rfl⟩:=ZN.1 hx;rfl,?_,by simp⟩
  clear e hn
  induction l with
  |nil=>exact .nil
  |cons w r ih=>exact .p _ (λ_=>rfl) ih
 exact hr.tree (by simpa using hn)
theorem Oa{h3:List AO}(hl:3<=h3.length){r:List AV}{f:Fd}{I2:List Nat}(ho:OwnL true h3 r f.cs I2)(nd:I2.Nodup)(hf:∀j∈I2,3<=j)(o x:AO):∃J,RowOwn true ((h3++[o,.row 3 [r]]).set 2 x) (h3.length+1) 3 [r] [f.cs] J/\∀j∈J,3<=j:=by
 have hr:r.length=3:=by rw[ho.len,Fd.cs_len]
 refine⟨I2,⟨?_,rfl,λe he=>by rw[ZC.1 he];exact hr,λe he=>by rw[ZC.1 he];exact Fd.cs_len f,?_,?_⟩,hf⟩
 ·rw[Zx (by omega),ZG (by omega),aau];rfl
 ·have:=(ho.more [o,.row 3 [r]]).set_out (λhm=>by have:=hf 2 hm;omega:2∉I2) x
  simpa using this
 ·rw[aak]
  exact⟨λhm=>by have:=ho.lt hm;omega,nd⟩
theorem RU{h h3:List AO}{id:Nat}{rows:List (List AV)}{D:List (List PV)}{J:List Nat}(H:RowOwn true h id 3 rows D J)(hJ:∀j∈J,3<=j)(hid:3<=id)(hh:3<=h.length)(e3:h3=h++h3.drop h.length){r:List AV}{f:Fd}{I2:List Nat}(ho:OwnL true h3 r f.cs I2)(nd:I2.Nodup)(hf:∀j∈I2,h.length<=j)(o x:AO):
 ∃J,RowOwn true (((h3++[o]).set id .dead++[AO.row 3 (rows++[r])]).set 2 x) (h3.length+1) 3 (rows++[r]) (D++[f.cs]) J/\∀j∈J,3<=j:=by
 have hp:=H.push (h2:=h3++[o]) (os:=h3.drop h.length++[o]) (by rw[←ZZ,←e3]) (ho.more [o]) nd hf (Fd.cs_len f)
 have hl:(h3++[o]).length=h3.length+1:=by simp
 rw[hl] at hp
 have hl3:h.length<=h3.length:=by rw[e3];simp
 refine⟨J++I2,hp.frame λk hk=>?_,λj hj=>?_⟩
 ·have:3<=k:=by
   rcases ZI.1 hk with rfl|hk
   ·omega
   ·rcases ZB.1 hk with hk|hk
    ·exact hJ k hk
    ·have:=hf k hk;omega
  rw[Zx (by omega)]
 ·rcases ZB.1 hj with hj|hj
  ·exact hJ j hj
  ·have:=hf j hj;omega
theorem Ir(l:List Fd)(hz:aH l<=1073741824):AC Tryz.prog G fC [.agg [.p (fdL l)]] [] (MkW .agg true [fdL l]):=by
 have hfl:∀l,fdL l= .lst 3 (l.map Fd.cs):=λ_=>rfl
 have hll:l.length<=aH l:=pm l
 refine AC.go uf ?_
 simp-implicitDefEqProofs[ov,hfl]
 refine aI (λa:PshS=>ah 35 [(4,.p (.int .i64 a.i)),(3,.ptr 2 1 0 0),(2,.ptr 1 1 0 0),(1,.ptr 0 1 0 0)]) (λa=>a.h) (CpI l) (λa=>l.length-a.i) ⟨0,0,[.row 1 [[.p (fdL l)]],.row 1 [[.nils]],.row 1 [[.nils]]]⟩ ⟨Nat.zero_le _,rfl,rfl,rfl,λh=>by simp at h⟩ ?_ ?_
 ·exact bF (by simp) (by simp[below])
 rintro⟨i,id,h⟩ ⟨i1,i2,i3,i4,i5⟩
 simp only at i1 i2 i3 i4 i5
 have hl3:3<=h.length:=by have:=(Zt.1 i4).1;omega
 have j2:∀os,(h++os)[0]?=some (.row 1 [[.p (fdL l)]]):=λos=>by rw[Zv (by omega)];exact i2
 have j4:∀os,(h++os)[2]?=some (.row 1 [[cpK ⟨i,id,h⟩]]):=λos=>by rw[Zv (by omega)];exact i4
 simp-implicitDefEqProofs[i2,hfl]
 refine aT (λh1=>?_) (λh1=>?_)
 ·simp at h1
  have hg:=Zu h1
  have hm:=cS (ZD h1)
  have hD:(l.map Fd.cs)[i]?=some l[i].cs:=by rw[ZK,hg];rfl
  generalize l[i]=f at hg hm hD
  have hcs:f.cs=[.str f.name,au f.params,smL f.body]:=rfl
  have hsp:au f.params= .lst 1 (f.params.map λw=>[.str w]):=rfl
  have hfz:f.sz=1+f.name.length+(f.params.length+(f.params.map List.length).sum)+an f.body:=rfl
  have hB:=Ax G _ f.body (Nat.lt_succ_self _) (by omega)
  by_cases hi0:i=0
  ·subst hi0
   have hk:cpK ⟨0,id,h⟩= .nils:=rfl
   rw[hk] at j4 i4
   have fin0:∀(h3:List AO) (r:List AV) (I2:List Nat) (l0:List (Nat × AV)),h.length+3<=h3.length->(∀j,j<h.length->h3[j]?=h[j]?)->OwnL true h3 r f.cs I2->I2.Nodup->(∀j∈I2,h.length<=j)->∀(o:AO) (hw:Aw.look l0 4= .p (.int .i64 (IntKind.i64.wrap 1))/\Aw.look l0 3= .ptr 2 1 0 0/\Aw.look l0 2= .ptr 1 1 0 0/\Aw.look l0 1= .ptr 0 1 0 0),
    ∃a',CpI l a'/\l.length-a'.i<l.length/\Wk 0 (ah 35 l0) ((h3++[o,.row 3 [r]]).set 2 (.row 1 [[.sl (h3.length+1) 3 0 1]])) (ah 35 [(4,.p (.int .i64 a'.i)),(3,.ptr 2 1 0 0),(2,.ptr 1 1 0 0),(1,.ptr 0 1 0 0)]) a'.h:=by
    intro h3 r I2 l0 hl4 hg3 oR nR fR o ⟨e4,e3,e2,e1⟩
    obtain⟨J,hJ,hJ3⟩:=Oa (by omega) oR nR (λj hj=>by have:=fR j hj;omega) o (.row 1 [[.sl (h3.length+1) 3 0 1]])
    have hd:(l.map Fd.cs).take 1=[f.cs]:=by rw[List.take_add_one,hD];rfl
    refine⟨⟨1,h3.length+1,_⟩,⟨by simp only;omega,?_,?_,?_,λ_=>⟨by simp only;omega,_,J,by simp only[hd];exact hJ,hJ3⟩⟩,by simp only;omega,bF (by simp) ?_⟩
    ·rw[Zx (by omega),Zv (by omega),hg3 0 (by omega)];exact i2
    ·rw[Zx (by omega),Zv (by omega),hg3 1 (by omega)];exact i3
    ·rw[ZJ (by simp;omega)];rfl
    ·simp[e1,e2,e3,e4,below]
     exact⟨by have:=w1 (i:=0) (by omega);simpa using this,by omega⟩
   simp-implicitDefEqProofs[i2,hfl,hg,hcs,hsp,Cw, ↓j2, ↓j4]
   refine⟨⟨by omega,by omega⟩,?_⟩
   refine(AC.mkLift nW hB (by simp)).mono ?_
   rintro r h3 ⟨vB,IB,o1,rfl,e3,oB,nB,fB⟩
   obtain⟨B,rfl⟩:=fh oB
   simp at fB
   have hg3:∀j,j<h.length->h3[j]?=h[j]?:=λj hj=>by rw[e3,ZZ,Zv hj]
   have p0:h3[h.length]?=some (.row 3 [[.p (.str f.name),.p (.lst 1 (f.params.map λw=>[.str w])),.p (smL f.body)]]):=by
    rw[e3,ZZ,ZG (ZH _),Nat.sub_self];rfl
   have p2:h3[h.length+2]?=some (fV f.params):=by
    rw[e3,ZZ,ZG (by omega),aau]
    simp[fV,Function.comp_def]
   have oP:=Hy p2 (n:=f.params.length) rfl
   have hl4:h.length+3<=h3.length:=by rw[e3];simp
   have q0:∀os,(h3++os)[2]?=some (.row 1 [[.nils]]):=λos=>by rw[Zv (by omega),hg3 2 (by omega)];exact i4
   have q1:h3[2]?=some (.row 1 [[.nils]]):=by rw[hg3 2 (by omega)];exact i4
   have q2:∀os,(h3++os)[h.length]?=some (.row 3 [[.p (.str f.name),.p (.lst 1 (f.params.map λw=>[.str w])),.p (smL f.body)]]):=λos=>by rw[Zv (by omega)];exact p0
   clear p2
   have hfR:∀j∈[h.length+2]++IB,h.length<=j:=λj hj=>by
    rcases ZB.1 hj with hj|hj
    ·rw[ZC.1 hj];omega
    ·have:=fB j hj;omega
   have hnR:([h.length+2]++IB).Nodup:=aak.2 ⟨λhm=>by have:=fB _ hm;omega,nB⟩
   rcases mg oB with⟨b1,rfl⟩|rfl|⟨x1,x2,x3,rfl⟩
   ·have oR:=sr (s:=true) (w:=f.name) oP oB
    simp-implicitDefEqProofs[aa,eC, ↓q1, ↓p0, ↓q0, ↓q2]
    exact fin0 h3 _ _ _ hl4 hg3 oR hnR hfR _ (by simp)
   ·have oR:=sr (s:=true) (w:=f.name) oP oB
    simp-implicitDefEqProofs[aa,eC, ↓q1, ↓p0, ↓q0, ↓q2]
    exact fin0 h3 _ _ _ hl4 hg3 oR hnR hfR _ (by simp)
   ·have oR:=sr (s:=true) (w:=f.name) oP oB
    simp-implicitDefEqProofs[aa,eC, ↓q1, ↓p0, ↓q0, ↓q2]
    exact fin0 h3 _ _ _ hl4 hg3 oR hnR hfR _ (by simp)
  ·have hk:cpK ⟨i,id,h⟩= .sl id 3 0 i:=if_neg hi0
   rw[hk] at j4 i4
   obtain⟨hid3,rows,J,hr,hJ3⟩:=i5 (by omega)
   have hrl:rows.length=i:=by have:=hr.len;rw[ZS,ZU] at this;omega
   have hidl:=hr.lt
   have fin0:∀(h3:List AO) (r:List AV) (I2:List Nat) (l0:List (Nat × AV)),h.length+3<=h3.length->(∀j,j<h.length->h3[j]?=h[j]?)->OwnL true h3 r f.cs I2->I2.Nodup->(∀j∈I2,h.length<=j)->∀(o:AO) (hw:Aw.look l0 4= .p (.int .i64 (IntKind.i64.wrap ((i:Int)+1)))/\Aw.look l0 3= .ptr 2 1 0 0/\Aw.look l0 2= .ptr 1 1 0 0/\Aw.look l0 1= .ptr 0 1 0 0),
    ∃a',CpI l a'/\l.length-a'.i<l.length-i/\Wk 0 (ah 35 l0) (((h3++[o]).set id .dead++[AO.row 3 (rows++[r])]).set 2 (.row 1 [[.sl (h3.length+1) 3 0 (i+1)]])) (ah 35 [(4,.p (.int .i64 a'.i)),(3,.ptr 2 1 0 0),(2,.ptr 1 1 0 0),(1,.ptr 0 1 0 0)]) a'.h:=by
    intro h3 r I2 l0 hl4 hg3 oR nR fR o ⟨e4,e3,e2,e1⟩
    obtain⟨J2,hJ,hJ4⟩:=RU hr hJ3 hid3 hl3 (Du (by omega) hg3) oR nR fR o (.row 1 [[.sl (h3.length+1) 3 0 (i+1)]])
    have hd:(l.map Fd.cs).take i++[f.cs]=(l.map Fd.cs).take (i+1):=by rw[List.take_add_one,hD];rfl
    rw[hd] at hJ
    refine⟨⟨i+1,h3.length+1,_⟩,⟨by simp only;omega,?_,?_,?_,λ_=>⟨by simp only;omega,_,J2,hJ,hJ4⟩⟩,by simp only;omega,bF (by simp) ?_⟩
    ·rw[Zx (by omega),Zv (by simp only[aag,ZM,ZO];omega),Zx (by omega),Zv (by omega),hg3 0 (by omega)];exact i2
    ·rw[Zx (by omega),Zv (by simp only[aag,ZM,ZO];omega),Zx (by omega),Zv (by omega),hg3 1 (by omega)];exact i3
    ·rw[ZJ (by simp;omega),cpK,if_neg (show¬(i+1=0) by omega)]
    ·simp[e1,e2,e3,e4,below]
     exact⟨w1 (i:=i) (by omega),by omega⟩
   simp-implicitDefEqProofs[i2,hfl,hg,hcs,hsp,Cw, ↓j2, ↓j4]
   refine⟨⟨by omega,by omega⟩,?_⟩
   refine(AC.mkLift nW hB (by simp)).mono ?_
   rintro r h3 ⟨vB,IB,o1,rfl,e3,oB,nB,fB⟩
   obtain⟨B,rfl⟩:=fh oB
   simp at fB
   have hg3:∀j,j<h.length->h3[j]?=h[j]?:=λj hj=>by rw[e3,ZZ,Zv hj]
   have p0:h3[h.length]?=some (.row 3 [[.p (.str f.name),.p (.lst 1 (f.params.map λw=>[.str w])),.p (smL f.body)]]):=by
    rw[e3,ZZ,ZG (ZH _),Nat.sub_self];rfl
   have p2:h3[h.length+2]?=some (fV f.params):=by
    rw[e3,ZZ,ZG (by omega),aau]
    simp[fV,Function.comp_def]
   have oP:=Hy p2 (n:=f.params.length) rfl
   have hl4:h.length+3<=h3.length:=by rw[e3];simp
   have q0:∀os,(h3++os)[2]?=some (.row 1 [[.sl id 3 0 i]]):=λos=>by rw[Zv (by omega),hg3 2 (by omega)];exact i4
   have q1:h3[2]?=some (.row 1 [[.sl id 3 0 i]]):=by rw[hg3 2 (by omega)];exact i4
   have q2:∀os,(h3++os)[h.length]?=some (.row 3 [[.p (.str f.name),.p (.lst 1 (f.params.map λw=>[.str w])),.p (smL f.body)]]):=λos=>by rw[Zv (by omega)];exact p0
   clear p2
   have q4:∀x o y,((h3++x).set id o++y)[2]?=some (.row 1 [[.sl id 3 0 i]]):=λx o y=>by
    rw[Zv (by simp only[aag,ZM];omega),Zx (by omega),Zv (by omega),hg3 2 (by omega)];exact i4
   have q3:∀os,(h3++os)[id]?=some (.row 3 rows):=λos=>by rw[Zv (by omega),hg3 id hidl];exact hr.here
   have hfR:∀j∈[h.length+2]++IB,h.length<=j:=λj hj=>by
    rcases ZB.1 hj with hj|hj
    ·rw[ZC.1 hj];omega
    ·have:=fB j hj;omega
   have hnR:([h.length+2]++IB).Nodup:=aak.2 ⟨λhm=>by have:=fB _ hm;omega,nB⟩
   rcases mg oB with⟨b1,rfl⟩|rfl|⟨x1,x2,x3,rfl⟩
   ·have oR:=sr (s:=true) (w:=f.name) oP oB
    simp-implicitDefEqProofs[aa,eC, ↓q1, ↓p0, ↓q0, ↓q2, ↓q3, ↓q4,hrl]
    rw[Zz (l:=rows) (i:=i) (by omega)]
    refine⟨⟨by omega,by omega⟩,?_⟩
    exact fin0 h3 _ _ _ hl4 hg3 oR hnR hfR _ (by simp)
   ·have oR:=sr (s:=true) (w:=f.name) oP oB
    simp-implicitDefEqProofs[aa,eC, ↓q1, ↓p0, ↓q0, ↓q2, ↓q3, ↓q4,hrl]
    rw[Zz (l:=rows) (i:=i) (by omega)]
    refine⟨⟨by omega,by omega⟩,?_⟩
    exact fin0 h3 _ _ _ hl4 hg3 oR hnR hfR _ (by simp)
   ·have oR:=sr (s:=true) (w:=f.name) oP oB
    simp-implicitDefEqProofs[aa,eC, ↓q1, ↓p0, ↓q0, ↓q2, ↓q3, ↓q4,hrl]
    rw[Zz (l:=rows) (i:=i) (by omega)]
    refine⟨⟨by omega,by omega⟩,?_⟩
    exact fin0 h3 _ _ _ hl4 hg3 oR hnR hfR _ (by simp)
 ·simp at h1
  have hie:i=l.length:=by omega
  subst hie
  have s1:∀x,(h.set 1 x)[1]?=some x:=λx=>ZJ (by omega)
  by_cases hi0:l.length=0
  ·have hk:cpK ⟨l.length,id,h⟩= .nils:=if_pos hi0
   rw[hk] at i4
   simp-implicitDefEqProofs[i4,i3,s1]
   obtain rfl:=aat hi0
   exact⟨[.nils],[],rfl,.nils 3 .nil,by simp⟩
  ·have hk:cpK ⟨l.length,id,h⟩= .sl id 3 0 l.length:=if_neg hi0
   rw[hk] at i4
   obtain⟨hid3,rows,J,hr,hJ3⟩:=i5 (by omega)
   rw[Zz (by simp)] at hr
   simp-implicitDefEqProofs[i4,i3,s1]
   have ho:=hr.tree (n:=l.length) (by simp)
   exact⟨[.sl id 3 0 l.length],id::J,rfl,ho.set_out (λhm=>by
    rcases ZI.1 hm with hm|hm
    ·omega
    ·have:=hJ3 _ hm;omega) _,hr.nd⟩
end
section
variable (G:am)
theorem Jh{s:Bool}{b:List Int}{q:Nat}{T:List AO}{vs:List AV}{qs:List PV}{I:List Nat}(H:OwnL s (rdO b q::T) vs qs I)(hI:∀i∈I,1<=i)(o:AO):OwnL s (o::T) vs qs I:=
 H.frame λi hi=>by
  have:=hI i hi
  obtain⟨k,rfl⟩:∃k,i=k+1:=⟨i-1,by omega⟩
  rfl
theorem Pb{b:List Int}{p q:Nat}{T:List AO}{v:AV}{l:List Fd}{I:List Nat}(H:OwnL true (rdO b q::T) [v] [fdL l] I)(hI:∀i∈I,1<=i)(hz:aH l<=900000000)(h1:p<=q)(h2:q<=p+400500000):DP b (PgQ p 900000000 400500000) (.ret (.agg [v])) (rdO b q::T):=
 ⟨_,T,q,.agg [.p (fdL l)],rfl,rfl,.agg (.one ((Jh H hI .dead).view 0 v _ rfl rfl) .nil) .nil,⟨l,rfl,hz⟩,h1,h2⟩
theorem IP{l:List Sm}{k:Nat}{s0:Sm}(s:Sm)(h:l[k]?=some s0):an (l.set k s)+s0.sz=an l+s.sz:=by
 obtain⟨hk,h⟩:=Zt.1 h
 subst h
 ·rw[fD s hk,bu]
  have e:l=l.take k++l.drop k:=(aab _ _).symm
  have h1:an l=an (l.take k)+an (l.drop k):=by rw[←bu,←e]
  have h4:an (l.drop k)=l[k].sz+an (l.drop (k+1)):=by rw[aas hk];rfl
  simp only[an]
  omega
theorem ID(l:List Ex)(k:Nat)(s:Ex):bj (l.set k s)<=bj l+s.sz:=by
 by_cases hk:k<l.length
 ·rw[fD s hk,fW]
  have e:l=l.take k++l.drop k:=(aab _ _).symm
  have h1:bj l=bj (l.take k)+bj (l.drop k):=by rw[←fW,←e]
  have h4:bj (l.drop k)=l[k].sz+bj (l.drop (k+1)):=by rw[aas hk];rfl
  simp only[bj]
  omega
 ·rw[List.set_eq_of_length_le (by omega)];omega
theorem oJ{α:Type}{l:List α}{k:Nat}{x:α}(h:l[k]?=some x):l.set k x=l:=by
 apply List.ext_getElem?
 intro i
 by_cases hi:k=i
 ·subst hi;rw[ZJ (Zt.1 h).1,h]
 ·rw[Zx hi]
theorem Qj{h:List AO}{id sz n m:Nat}{es:List (List PV)}(H:View h (.sl id sz 0 n) (.lst sz es))(hm:m<=es.length):View h (.sl id sz 0 m) (.lst sz (es.take m)):=by
 cases H with
 |sl _ _ _ rows _ e1 e2 e3 e4=>
  have hl:(es.take m).length=m:=by rw[ZS];omega
  have:=View.sl id sz 0 rows (es.take m) e1 (by omega) (λe he=>e3 e (aah he)) (λi j e q e' a a1 a2 a3 a4=>by
   have hi:i<m:=by have:=(Zt.1 a1).1;omega
   rw[List.getElem?_take_of_lt hi] at a1
   exact e4 i j e q e' a a1 a2 a3 a4)
  rwa[hl] at this
theorem Qv{b:List Int}(hb:Byt b)(hl:b.length<=2000){p:Nat}(hp:p<=5000000000):AC Tryz.prog G oD [.ptr 0 2 0 0] [rdO b p] λx h=>∃v q,x= .ret v/\h=[rdO b q]/\PgQ p 900000000 400500000 v q:=by
 refine nM G (AC.go Eb ?_)
 have hprog:AC Tryz.prog G dr [.ptr 0 2 0 0] [rdO b p] λx h=>∃v q,x= .ret v/\h=[rdO b q]/\((∃l:List Fd,v= .agg [.p (fdL l)]/\bc l=true/\aH l<=200000000)/\p<=q/\q<=p+200000000):=
  (Kl G hb hl (by omega)).mono λx h ⟨l,q,e1,e2,e3,e4,e5,e6⟩=>⟨_,q,e1,e2,⟨l,rfl,e3,e4⟩,e5,e6⟩
 simp-implicitDefEqProofs[tW]
 refine(jE G hprog _ (by simp[below])).mono ?_
 rintro r h ⟨v,q,rfl,rfl,⟨l,rfl,hok,hz⟩,h1,h2⟩
 have hlen:=((dC l).1 hok).1
 have hfd:=((dC l).1 hok).2.1
 simp-implicitDefEqProofs[aa]
 refine(aR G b hb hl q (by omega) 5 _).mono ?_
 rintro r h ⟨k1,rfl,rfl,_⟩
 simp-implicitDefEqProofs[aa]
 refine aT (λhc=>?_) (λhc=>?_)
 ·simp-implicitDefEqProofs[]
  exact⟨_,_,q+1,.agg [.p (fdL l)],rfl,rfl,.keep (by simp) .nil,⟨l,rfl,by omega⟩,by omega,by omega⟩
 simp-implicitDefEqProofs[]
 refine(aR G b hb hl (q+1) (by omega) 6 _).mono ?_
 rintro r h ⟨k2,rfl,rfl,_⟩
 simp-implicitDefEqProofs[aa]
 refine aT (λhc2=>?_) (λhc2=>?_)
 ·simp-implicitDefEqProofs[]
  refine(jE G (Qt G hb hl (p:=q+1+1) (by omega)) _ (by simp[below])).mono ?_
  rintro r h ⟨v,q2,rfl,rfl,⟨l2,rfl,hz2⟩,h3,h4⟩
  simp-implicitDefEqProofs[aa]
  exact⟨_,_,q2,.agg [.p (fdL l2)],rfl,rfl,.keep (by simp) .nil,⟨l2,rfl,by omega⟩,by omega,by omega⟩
 simp-implicitDefEqProofs[]
 refine(AC.mkLift BP (Ir G l (by omega)) (by simp)).mono ?_
 rintro r h ⟨vs,I,os,rfl,rfl,ho,nd,hI⟩
 obtain⟨v,rfl⟩:=fh ho
 have hne:l.map Fd.cs≠[]:=by intro h;rw[List.map_eq_nil_iff] at h;rw[h] at hlen;simp at hlen
 simp at hI
 rcases ho.inv nd with⟨h0,_⟩|⟨h0,_⟩|⟨id,rowsF,JF,rfl,rfl,hF⟩
 ·exact absurd h0 hne
 ·cases h0
 have hid3:3<=id:=hI id (by simp)
 obtain⟨fF,rfl⟩:∃fF,id=fF+1:=⟨id-1,by omega⟩
 rw[ZU]
 simp-implicitDefEqProofs[aa]
 have hF2:∀q',RowOwn true (rdO b q':: .row 1 [[.nils]]:: .row 1 [[.sl (fF+1) 3 0 l.length]]::os) (fF+1) 3 rowsF (l.map Fd.cs) JF:=λq'=>hF.frame λi hi=>by
  have:=hI i (by simpa using hi)
  obtain⟨k,rfl⟩:∃k,i=k+3:=⟨i-3,by omega⟩
  rfl
 have hI3:∀j∈JF,3<=j:=λj hj=>hI j (by simp[hj])
 have hnF:=hF.nd
 clear hF ho
 obtain⟨T,hT⟩:∃T,T= .row 1 [[.nils]]:: .row 1 [[AV.sl (fF+1) 3 0 l.length]]::os:=⟨_,rfl⟩
 rw[←hT] at hF2⊢
 have t0:T[0]?=some (.row 1 [[.nils]]):=by rw[hT];rfl
 have t1:T[1]?=some (.row 1 [[.sl (fF+1) 3 0 l.length]]):=by rw[hT];rfl
 have tF:T[fF]?=some (.row 3 rowsF):=(hF2 0).here
 clear hT
 refine(aR G b hb hl (q+1+1) (by omega) l.length _).mono ?_
 rintro r h ⟨k,rfl,rfl,hk⟩
 have hkl:k<l.length:=by omega
 have hgk:=Zu hkl
 have hfk:=hfd _ (ZD hkl)
 have hzk:=cS (ZD hkl)
 have hDk:(l.map Fd.cs)[k]?=some l[k].cs:=by rw[ZK,hgk];rfl
 generalize l[k]=f at hgk hfk hzk hDk
 obtain⟨rF,J1,Jk,J2,r1,rfl,r2,r5⟩:=(hF2 (q+1+1+1)).own.put (hF2 0).len (hF2 0).rl (hF2 0).dl hDk
 obtain⟨A,B,IA,IB,rfl,rfl,oA,oB⟩:=Qz r2
 have hltJ:∀j∈J1++(IA++IB++J2),j<T.length+1:=λj hj=>by have:=(hF2 0).own.lt hj;simpa using this
 have hnd:=hnF
 rw[aak] at hnd
 have hn1:fF+1∉J1++(IA++IB++J2):=hnd.1
 have hn2:=hnd.2
 have hIB:∀j∈IB,3<=j:=λj hj=>hI3 j (by simp[hj])
 have nIB:IB.Nodup:=(aan.1 (aan.1 (aan.1 hn2).2.1).1).2.1
 have hDl:(l.map Fd.cs).length=l.length:=by simp
 have finG:∀(U:List AO) (q':Nat) (B':AV) (I':List Nat) (sl':List Sm),(∀i,2<=i->i<T.length->i≠fF->i+1∉IB->U[i]?=T[i]?)->U[fF]?=some (.row 3 (rowsF.set k [.p (.str f.name),A,B']))->OwnL true (rdO b q'::U) [B'] [smL sl'] I'->(∀i∈I',1<=i)->
  an sl'<=450000000->p<=q'->q'<=p+400500000->DP b (PgQ p 900000000 400500000) (.ret (.agg [.sl (fF+1) 3 0 l.length])) (rdO b q'::U):=by
  intro U q' B' I' sl' hU hUF oB' hI' hz' h3 h4
  have hfr:∀j∈J1++J2++IA,(rdO b q'::U)[j]?=(rdO b (q+1+1+1)::T)[j]?:=λj hj=>by
   have hjm:j∈J1++(IA++IB++J2):=by simp only[ZB] at hj⊢;rcases hj with(hj|hj)|hj<;>simp[hj]
   have hj3:=hI3 j hjm
   have hjl:=hltJ j hjm
   obtain⟨i,rfl⟩:∃i,j=i+1:=⟨j-1,by omega⟩
   rw[ZF,ZF]
   refine hU i (by omega) (by omega) (λe=>hn1 (e▸hjm)) λhm=>?_
   simp only[aan,ZB] at hn2
   obtain⟨n1,⟨⟨n2,n3,n4⟩,n5,n6⟩,n7⟩:=hn2
   simp only[ZB] at hj
   rcases hj with(hj|hj)|hj
   ·exact n7 _ hj _ (.inl (.inr hm)) rfl
   ·exact n6 _ (.inr hm) _ hj rfl
   ·exact n4 _ hj _ hm rfl
  have oR:=sr (s:=true) (w:=f.name) (oA.frame λi hi=>hfr i (by simp[hi])) oB'
  have oW:=r5 (rdO b q'::U) _ _ _ (λj hj=>hfr j (by simp only[ZB] at hj⊢;exact .inl hj)) oR
  have hD':(l.map Fd.cs).set k (Fd.mk f.name f.params sl').cs=(l.set k ⟨f.name,f.params,sl'⟩).map Fd.cs:=by rw[List.map_set]
  have tree:=OwnL.sl (s:=true) (h:=rdO b q'::U) (fF+1) 3 l.length (rowsF.set k [.p (.str f.name),A,B']) ((l.map Fd.cs).set k (Fd.mk f.name f.params sl').cs) hUF (by simp) (by have:=(hF2 0).len;simpa using this) (λe he=>by
   rcases aae he with h|rfl
   ·exact(hF2 0).rl e h
   ·rfl) (λe he=>by
   rcases aae he with h|rfl
   ·exact(hF2 0).dl e h
   ·rfl) oW .nil
  rw[hD'] at tree
  have hsz:=Ii l k ⟨f.name,f.params,sl'⟩
  have hfz:f.sz=1+f.name.length+(f.params.length+(f.params.map List.length).sum)+an f.body:=rfl
  have hfz':(Fd.mk f.name f.params sl').sz=1+f.name.length+(f.params.length+(f.params.map List.length).sum)+an sl':=rfl
  refine Pb (l:=l.set k ⟨f.name,f.params,sl'⟩) tree (λi hi=>?_) (by omega) h3 h4
  simp only[ZI,ZB,aaa,or_false] at hi
  rcases hi with rfl|hi|(hi|hi)|hi
  ·omega
  ·have:=hI3 i (by simp[hi]);omega
  ·have:=hI3 i (by simp[hi]);omega
  ·exact hI' i hi
  ·have:=hI3 i (by simp[hi]);omega
 have hset:rowsF.set k [.p (.str f.name),A,B]=rowsF:=by
  apply List.ext_getElem?
  intro i
  by_cases hi:k=i
  ·subst hi;rw[ZJ (Zt.1 r1).1,r1]
  ·rw[Zx hi]
 have hf2:2<=fF:=by omega
 have s0:∀x,(T.set 0 x)[0]?=some x:=λx=>ZJ (by have:=(Zt.1 t0).1;omega)
 have hbz:f.sz=1+f.name.length+(f.params.length+(f.params.map List.length).sum)+an f.body:=rfl
 simp-implicitDefEqProofs[aa,t0,t1,tF,r1,hkl]
 have fin0:∀q' x,p<=q'->q'<=p+400500000->DP b (PgQ p 900000000 400500000) (.ret (.agg [.sl (fF+1) 3 0 l.length])) (rdO b q'::T.set 0 x):=λq' x h3 h4=>
  finG (T.set 0 x) q' B IB f.body (λi h1 _ _ _=>Zx (by omega)) (by rw[Zx (by omega),hset];exact tF) (oB.frame λj hj=>by
   have:=hIB j hj
   obtain⟨i,rfl⟩:∃i,j=i+1:=⟨j-1,by omega⟩
   rw[ZF,ZF,Zx (by omega)]) (λi hi=>by have:=hIB i hi;omega) (by omega) h3 h4
 rcases oB.inv nIB with⟨h0,_,rfl|rfl⟩|⟨h0,_⟩|⟨idB,rowsB,JB,rfl,rfl,hB⟩
 ·simp-implicitDefEqProofs[t0,t1,s0]
  exact fin0 _ _ (by omega) (by omega)
 ·simp-implicitDefEqProofs[t0,t1,s0]
  exact fin0 _ _ (by omega) (by omega)
 ·cases h0
 rw[ZU] at*
 by_cases hbe:f.body.length=0
 ·simp-implicitDefEqProofs[hbe,t0,t1,s0]
  have:=fin0 (q+1+1+1) (.row 1 [[.sl (fF+1) 3 0 l.length]]) (by omega) (by omega)
  exact this
 simp-implicitDefEqProofs[hbe,t0,t1,tF,r1]
 refine(aR G b hb hl (q+1+1+1) (by omega) f.body.length _).mono ?_
 rintro r h ⟨j,rfl,rfl,hj⟩
 have hjl:j<f.body.length:=by omega
 obtain⟨fB,rfl⟩:∃fB,idB=fB+1:=⟨idB-1,by have:=hIB idB (by simp);omega⟩
 have hB3:=hIB (fB+1) (by simp)
 have tB:T[fB]?=some (.row 5 rowsB):=hB.here
 have hgj:=Zu hjl
 have hzj:=cA (ZD hjl)
 have hok5:aq 4 f.body[j]=true:=by
  simp only[iZ,ZE] at hfk
  exact ZA.1 hfk.2 _ (ZD hjl)
 have hDj:(f.body.map Sm.cs)[j]?=some f.body[j].cs:=by rw[ZK,hgj];rfl
 generalize f.body[j]=sm at hgj hzj hok5 hDj
 obtain⟨rB,K1,Kj,K2,u1,rfl,u2,u5⟩:=hB.own.put hB.len hB.rl hB.dl hDj
 obtain⟨A1,B1,E1,I1,I2,I3,rfl,rfl,oA1,oB1,oE1⟩:=PA u2
 simp-implicitDefEqProofs[aa,hjl,t0,t1,tF,r1,tB,u1]
 refine(Jq G hb hl (p:=q+1+1+1+1) (by omega) [[122,122],[97],[98],[99],[100]] (k:=T.length+1) (by simp) (by simp) (by omega) rfl (by simp[fV])).mono ?_
 rintro r h ⟨s,hs,rfl,rfl⟩
 have hs8:s.length<=8:=by simp at hs;rcases hs with rfl|rfl|rfl|rfl|rfl<;>simp
 have nB:=nIB
 rw[aak] at nB
 have finS:∀(U:List AO) (q':Nat) (o':Int) (nm':List UInt8) (A':AV) (I':List Nat) (ar':List Ex),(∀i,2<=i->i<T.length->i≠fB->i+1∉I1->U[i]?=T[i]?)->U[fB]?=some (.row 5 (rowsB.set j [.p (.int .i64 o'),.p (.str nm'),A',B1,E1]))->OwnL true (rdO b q'::U) [A'] [exL ar'] I'->(∀i∈I',1<=i)->
  bj ar'+nm'.length<=bj sm.args+sm.name.length+1000->p<=q'->q'<=p+400500000->DP b (PgQ p 900000000 400500000) (.ret (.agg [.sl (fF+1) 3 0 l.length])) (rdO b q'::U):=by
  intro U q' o' nm' A' I' ar' hU hUB oA' hI' hz' h3 h4
  have hmem:∀x∈K1++K2++I2++I3,x∈K1++(I1++(I2++I3)++K2):=λx hx=>by
   simp only[ZB] at hx⊢
   rcases hx with((hx|hx)|hx)|hx<;>simp[hx]
  have hltB:∀x∈K1++(I1++(I2++I3)++K2),x<T.length+1:=λx hx=>by have:=hB.own.lt hx;simpa using this
  have hfr:∀x∈K1++K2++I2++I3,(rdO b q'::U)[x]?=(rdO b (q+1+1+1)::T)[x]?:=λx hx=>by
   have hm:=hmem x hx
   have hx3:=hIB x (aai _ hm)
   have hxl:=hltB x hm
   obtain⟨i,rfl⟩:∃i,x=i+1:=⟨x-1,by omega⟩
   rw[ZF,ZF]
   refine hU i (by omega) (by omega) (λe=>nB.1 (e▸hm)) λhm1=>?_
   have hn:=nB.2
   simp only[aan,ZB] at hn
   obtain⟨n1,⟨⟨n2,⟨n3,n3',n3''⟩,n4⟩,n5,n6⟩,n7⟩:=hn
   simp only[ZB] at hx
   rcases hx with((hx|hx)|hx)|hx
   ·exact n7 _ hx _ (.inl (.inl hm1)) rfl
   ·exact n6 _ (.inl hm1) _ hx rfl
   ·exact n4 _ hm1 _ (.inl hx) rfl
   ·exact n4 _ hm1 _ (.inr hx) rfl
  have oS:=Lc (s:=true) (o:=o') (w:=nm') oA' (oB1.frame λi hi=>hfr i (by simp[hi])) (oE1.frame λi hi=>hfr i (by simp[hi]))
  have oW:=u5 (rdO b q'::U) _ _ _ (λx hx=>hfr x (by simp only[ZB] at hx⊢;exact .inl (.inl hx))) oS
  have hD':(f.body.map Sm.cs).set j (Sm.mk o' nm' ar' sm.body sm.els).cs=(f.body.set j ⟨o',nm',ar',sm.body,sm.els⟩).map Sm.cs:=by rw[List.map_set]
  have tree:=OwnL.sl (s:=true) (h:=rdO b q'::U) (fB+1) 5 f.body.length (rowsB.set j [.p (.int .i64 o'),.p (.str nm'),A',B1,E1]) ((f.body.map Sm.cs).set j (Sm.mk o' nm' ar' sm.body sm.els).cs) hUB (by simp) (by have:=hB.len;simpa using this) (λe he=>by
   rcases aae he with h|rfl
   ·exact hB.rl e h
   ·rfl) (λe he=>by
   rcases aae he with h|rfl
   ·exact hB.dl e h
   ·exact Sm.cs_len _) oW .nil
  rw[hD'] at tree
  have hsz:=IP (s:=⟨o',nm',ar',sm.body,sm.els⟩) hgj
  have hsm:=sm.sz_eq
  have hsm':(Sm.mk o' nm' ar' sm.body sm.els).sz=1+nm'.length+bj ar'+an sm.body+an sm.els:=rfl
  have hFB:fF≠fB:=λe=>hn1 (by rw[e];simp)
  have hFI:fF+1∉I1:=λhm=>hn1 (by simp[hm])
  have hFT:fF<T.length:=(Zt.1 tF).1
  refine finG U q' (.sl (fB+1) 5 0 f.body.length) _ (f.body.set j ⟨o',nm',ar',sm.body,sm.els⟩) (λi g1 g2 g3 g4=>hU i g1 g2 (λe=>g4 (by rw[e];simp)) λhm=>g4 (by simp[hm])) (by rw[hU fF hf2 hFT hFB hFI,hset];exact tF) tree (λi hi=>?_) (by omega) h3 h4
  simp only[ZI,ZB,aaa,or_false] at hi
  rcases hi with rfl|hi|(hi|hi|hi)|hi
  ·omega
  ·have:=hIB i (by simp[hi]);omega
  ·exact hI' i hi
  ·have:=hIB i (by simp[hi]);omega
  ·have:=hIB i (by simp[hi]);omega
  ·have:=hIB i (by simp[hi]);omega
 have hTl:2<=T.length:=by have:=(Zt.1 t1).1;omega
 have hBT:fB<T.length:=(Zt.1 tB).1
 have hI1:∀i∈I1,3<=i/\i<T.length+1:=λi hi=>⟨hIB i (by simp[hi]),by have:=oA1.lt hi;simpa using this⟩
 have oA1u:∀(U:List AO) (q':Nat),(∀i,2<=i->i<T.length->i+1∈I1->U[i]?=T[i]?)->OwnL true (rdO b q'::U) [A1] [exL sm.args] I1:=λU q' hU=>oA1.frame λx hx=>by
  obtain⟨h3,h4⟩:=hI1 x hx
  obtain⟨i,rfl⟩:∃i,x=i+1:=⟨x-1,by omega⟩
  rw[ZF,ZF]
  exact hU i (by omega) (by omega) hx
 have hsmz:=sm.sz_eq
 have finU:∀(U:List AO) (q':Nat),(∀i,2<=i->i<T.length->U[i]?=T[i]?)->p<=q'->q'<=p+400500000->DP b (PgQ p 900000000 400500000) (.ret (.agg [.sl (fF+1) 3 0 l.length])) (rdO b q'::U):=λU q' hU h3 h4=>
  finS U q' sm.op sm.name A1 I1 sm.args (λi a1 a2 _ _=>hU i a1 a2) (by rw[hU fB (by omega) hBT,oJ u1];exact tB) (oA1u U q' λi a1 a2 _=>hU i a1 a2) (λi hi=>by have:=(hI1 i hi).1;omega) (by omega) h3 h4
 have a0:∀os,(T++os)[0]?=some (.row 1 [[.nils]]):=λos=>by rw[Zv (Zt.1 t0).1];exact t0
 have a1:∀os,(T++os)[1]?=some (.row 1 [[.sl (fF+1) 3 0 l.length]]):=λos=>by rw[Zv (Zt.1 t1).1];exact t1
 have aF:∀os,(T++os)[fF]?=some (.row 3 rowsF):=λos=>by rw[Zv (Zt.1 tF).1];exact tF
 have aB:∀os,(T++os)[fB]?=some (.row 5 (rowsB)):=λos=>by rw[Zv (Zt.1 tB).1];exact tB
 simp-implicitDefEqProofs[aa]
 refine(aR G b hb hl (q+1+1+1+1+1) (by omega) 4 _).mono ?_
 rintro r h ⟨k3,rfl,rfl,_⟩
 have nI1:I1.Nodup:=(aan.1 (aan.1 (aan.1 nB.2).2.1).1).1
 have hargs:0<sm.args.length:=by
  simp only[aq,fX,ZE,decide_eq_true_eq] at hok5
  have:=hok5.1.1.1.1.1.1.1.1.2
  rw[this];unfold gF;split<;>omega
 have hA0:sm.args.map Ex.cs≠[]:=by intro h;rw[List.map_eq_nil_iff] at h;rw[h] at hargs;simp at hargs
 obtain⟨idA,rowsA,JA,rfl,rfl,hA⟩:∃id rows J,A1= .sl id 4 0 sm.args.length/\I1=id::J/\RowOwn true (rdO b (q+1+1+1)::T) id 4 rows (sm.args.map Ex.cs) J:=by
  rcases oA1.inv nI1 with⟨h0,_⟩|⟨h0,_⟩|⟨id,rows,J,e1,e2,e3⟩
  ·exact absurd h0 hA0
  ·cases h0
  ·rw[ZU] at e1;exact⟨id,rows,J,e1,e2,e3⟩
 obtain⟨fA,rfl⟩:∃fA,idA=fA+1:=⟨idA-1,by have:=(hI1 idA (by simp)).1;omega⟩
 have hA3:=hI1 (fA+1) (by simp)
 have tA:T[fA]?=some (.row 4 rowsA):=hA.here
 have aA:∀os,(T++os)[fA]?=some (.row 4 rowsA):=λos=>by rw[Zv (by omega)];exact tA
 have hg0:=Zu hargs
 have hz0:=aN (ZD hargs)
 have hD0:(sm.args.map Ex.cs)[0]?=some sm.args[0].cs:=by rw[ZK,hg0];rfl
 generalize sm.args[0]=e0 at hg0 hz0 hD0
 obtain⟨r0,L1,L0,L2,g1,rfl,g3,g5⟩:=hA.own.put hA.len hA.rl hA.dl hD0
 obtain⟨K0,rfl,_⟩:=Kh g3
 have nA:=nI1
 rw[aak] at nA
 have finA:∀(U:List AO) (q':Nat) (o n:Int) (w:List UInt8) (K:AV) (IK:List Nat) (ks:List Ex),(∀i,2<=i->i<T.length->i≠fA->U[i]?=T[i]?)->U[fA]?=some (.row 4 (rowsA.set 0 [.p (.int .i64 o),.p (.int .i64 n),.p (.str w),K]))->OwnL true (rdO b q'::U) [K] [exL ks] IK->(∀i∈IK,1<=i)->
  (Ex.mk o n w ks).sz<=500->p<=q'->q'<=p+400500000->DP b (PgQ p 900000000 400500000) (.ret (.agg [.sl (fF+1) 3 0 l.length])) (rdO b q'::U):=by
  intro U q' o n w K IK ks hU hUA oK hIK hz' h3 h4
  have hfr:∀x∈L1++L2,(rdO b q'::U)[x]?=(rdO b (q+1+1+1)::T)[x]?:=λx hx=>by
   have hm:x∈L1++(L0++L2):=by
    simp only[ZB] at hx⊢
    rcases hx with hx|hx
    ·exact .inl hx
    ·exact .inr (.inr hx)
   obtain⟨hx3,hx4⟩:=hI1 x (aai _ hm)
   obtain⟨i,rfl⟩:∃i,x=i+1:=⟨x-1,by omega⟩
   rw[ZF,ZF]
   exact hU i (by omega) (by omega) λe=>nA.1 (e▸hm)
  have oW:=g5 (rdO b q'::U) _ _ _ hfr (QZ (o:=o) (n:=n) (w:=w) oK)
  have hD':(sm.args.map Ex.cs).set 0 (Ex.mk o n w ks).cs=(sm.args.set 0 ⟨o,n,w,ks⟩).map Ex.cs:=by rw[List.map_set]
  have tree:=OwnL.sl (s:=true) (h:=rdO b q'::U) (fA+1) 4 sm.args.length (rowsA.set 0 [.p (.int .i64 o),.p (.int .i64 n),.p (.str w),K]) ((sm.args.map Ex.cs).set 0 (Ex.mk o n w ks).cs) hUA (by simp) (by have:=hA.len;simpa using this) (λe he=>by
   rcases aae he with h|rfl
   ·exact hA.rl e h
   ·rfl) (λe he=>by
   rcases aae he with h|rfl
   ·exact hA.dl e h
   ·exact Ex.cs_len _) oW .nil
  rw[hD'] at tree
  have hsz:=ID sm.args 0 ⟨o,n,w,ks⟩
  have hBA:fB≠fA:=λe=>nB.1 (by rw[e];simp)
  refine finS U q' sm.op sm.name (.sl (fA+1) 4 0 sm.args.length) _ (sm.args.set 0 ⟨o,n,w,ks⟩) (λi g1 g2 _ g4=>hU i g1 g2 λe=>g4 (by rw[e];simp)) (by rw[hU fB (by omega) hBT hBA,oJ u1];exact tB) tree (λi hi=>?_) (by omega) h3 h4
  simp only[ZI,ZB,aaa,or_false] at hi
  rcases hi with rfl|hi|hi|hi
  ·omega
  ·have:=(hI1 i (by simp[hi])).1;omega
  ·exact hIK i hi
  ·have:=(hI1 i (by simp[hi])).1;omega
 have w0:∀os x,((T++os).set 0 x)[0]?=some x:=λos x=>ZJ (by simp only[ZM];omega)
 have v0:∀os x,((T++os).set fA x)[0]?=some (.row 1 [[.nils]]):=λos x=>by rw[Zx (by omega)];exact a0 os
 have v1:∀os x,((T++os).set fA x)[1]?=some (.row 1 [[.sl (fF+1) 3 0 l.length]]):=λos x=>by rw[Zx (by omega)];exact a1 os
 have v2:∀os x y,(((T++os).set fA x).set 0 y)[0]?=some y:=λos x y=>ZJ (by simp only[aag,ZM];omega)
 have hv:∀os x y (i:Nat),2<=i->i<T.length->i≠fA->(((T++os).set fA x).set 0 y)[i]?=T[i]?:=λos x y i h1 h2 h3=>by
  rw[Zx (by omega),Zx (by omega),Zv h2]
 have aE:∀x y os,(T++x::y::os)[T.length+1]?=some y:=λx y os=>by rw[ZG (by omega),aau];rfl
 have aE2:∀x y z os,(T++x::y::os).set (T.length+1) z=T++x::z::os:=λx y z os=>by rw[List.set_append_right _ _ (by omega),aau];rfl
 by_cases c1:k3=1
 ·subst c1
  simp-implicitDefEqProofs[aa, ↓a0, ↓a1, ↓aF, ↓aB,u1,hjl]
  refine aT (λhn=>?_) (λhn=>?_)
  ·simp-implicitDefEqProofs[]
   refine(Jq G hb hl (p:=q+1+1+1+1+1+1) (by omega) [[97],[98],[122,122],[99],[100]] (k:=T.length+2+1) (by simp) (by simp) (by omega) rfl (by simp[fV])).mono ?_
   rintro r h ⟨s2,hs2,rfl,rfl⟩
   have hs28:s2.length<=8:=by simp at hs2;rcases hs2 with rfl|rfl|rfl|rfl|rfl<;>simp
   have v0:∀os x,((T++os).set fB x)[0]?=some (.row 1 [[.nils]]):=λos x=>by rw[Zx (by omega)];exact a0 os
   have v1:∀os x,((T++os).set fB x)[1]?=some (.row 1 [[.sl (fF+1) 3 0 l.length]]):=λos x=>by rw[Zx (by omega)];exact a1 os
   have v2:∀os x y,(((T++os).set fB x).set 0 y)[0]?=some y:=λos x y=>ZJ (by simp only[aag,ZM];omega)
   simp-implicitDefEqProofs[aa, ↓a0, ↓a1, ↓aF, ↓aB,u1,hjl, ↓v0, ↓v1, ↓v2,-getElem?_pos,List.getElem?_cons_zero,ZF]
   have hv:∀os x y (i:Nat),2<=i->i<T.length->i≠fB->(((T++os).set fB x).set 0 y)[i]?=T[i]?:=λos x y i h1 h2 h3=>by
    rw[Zx (by omega),Zx (by omega),Zv h2]
   refine finS _ _ sm.op s2 (.sl (fA+1) 4 0 sm.args.length) _ sm.args ?_ ?_ (oA1u _ _ ?_) (λi hi=>by have:=(hI1 i hi).1;omega) (by omega) (by omega) (by omega)
   ·intro i h1 h2 h3 _;exact hv _ _ _ i h1 h2 h3
   ·rw[Zx (by omega),ZJ (by simp only[ZM];omega)]
   ·intro i h1 h2 h3
    exact hv _ _ _ i h1 h2 (λe=>nB.1 (by rw[←e];simp only[ZB];exact .inr (.inl (.inl h3))))
  ·simp-implicitDefEqProofs[↓a0, ↓a1, ↓w0,-getElem?_pos,List.getElem?_cons_zero,ZF]
   refine finU _ _ ?_ (by omega) (by omega)
   intro i h1 h2
   rw[Zx (by omega),Zv h2]
 by_cases c2:k3=2
 ·subst c2
  have hw:∀(q':Nat) (os:List AO),OwnL true (rdO b q'::(T++os)) [.sl (fB+1) 5 0 f.body.length] [smL f.body] ((fB+1)::(K1++(((fA+1)::(L1++(L0++L2)))++(I2++I3)++K2))):=λq' os=>oB.frame λx hx=>by
   have h3:=hIB x hx
   have h4:x<T.length+1:=by have:=oB.lt hx;simpa using this
   obtain⟨i,rfl⟩:∃i,x=i+1:=⟨x-1,by omega⟩
   rw[ZF,ZF,Zv (by omega)]
  have hv1:∀(q':Nat) (os:List AO),View (rdO b q'::(T++os)) (.sl (fB+1) 5 0 1) (smL (f.body.take 1)):=λq' os=>by
   have:=Qj (m:=1) ((hw q' os).view 0 _ _ rfl rfl) (by simp;omega)
   rw[←List.map_take] at this
   exact this
  have hz1:an (f.body.take 1)<=an f.body:=by
   have e:f.body=f.body.take 1++f.body.drop 1:=(aab _ _).symm
   have:an f.body=an (f.body.take 1)+an (f.body.drop 1):=by rw[←bu,←e]
   omega
  have hS:=Ax G _ (f.body.take 1) (Nat.lt_succ_self _) (by omega)
  simp-implicitDefEqProofs[aa, ↓a0, ↓a1, ↓aF, ↓aB,r1,hkl]
  refine⟨by omega,?_⟩
  refine(AC.mkLend nW hS (.one (hv1 _ _) .nil)).mono ?_
  rintro r h ⟨vs,IN,os2,rfl,rfl,oN,nN,hN⟩
  obtain⟨vN,rfl⟩:=fh oN
  have hl1:(f.body.take 1).length=1:=by rw[ZS];omega
  have hneN:(f.body.take 1).map Sm.cs≠[]:=by intro h;rw[List.map_eq_nil_iff] at h;rw[h] at hl1;simp at hl1
  obtain⟨idN,rowsN,JN,rfl,rfl,hRN⟩:∃id rows J,vN= .sl id 5 0 1/\IN=id::J/\RowOwn true _ id 5 rows ((f.body.take 1).map Sm.cs) J:=by
   rcases oN.inv nN with⟨h0,_⟩|⟨h0,_⟩|⟨id,rows,J,e1,e2,e3⟩
   ·exact absurd h0 hneN
   ·cases h0
   ·rw[ZU,hl1] at e1;exact⟨id,rows,J,e1,e2,e3⟩
  have hidN:=hN idN (by simp)
  simp at hidN
  obtain⟨fN,rfl⟩:∃fN,idN=fN+1:=⟨idN-1,by omega⟩
  have hFT:fF<T.length:=(Zt.1 tF).1
  have tN:=hRN.here
  simp only[aac,ZZ,ZF,List.nil_append] at tN
  have hrN:rowsN.length=1:=by have:=hRN.len;rw[ZU,hl1] at this;exact this
  have hrB:rowsB.length=f.body.length:=by have:=hB.len;simpa using this
  have z1:∀os o y,((T++os).set fB o++y)[fF]?=some (.row 3 rowsF):=λos o y=>by
   rw[Zv (by simp only[aag,ZM];omega),Zx (λe=>hn1 (by rw[←e];simp))];exact aF os
  have z2:∀os o y x,(((T++os).set fB o++y).set fF x)[0]?=some (.row 1 [[.nils]]):=λos o y x=>by
   rw[Zx (by omega),Zv (by simp only[aag,ZM];omega),Zx (by omega)];exact a0 os
  have z3:∀os o y x,(((T++os).set fB o++y).set fF x)[1]?=some (.row 1 [[.sl (fF+1) 3 0 l.length]]):=λos o y x=>by
   rw[Zx (by omega),Zv (by simp only[aag,ZM];omega),Zx (by omega)];exact a1 os
  have z4:∀os o y x w,((((T++os).set fB o++y).set fF x).set 0 w)[0]?=some w:=λos o y x w=>ZJ (by simp only[aag,ZM];omega)
  simp-implicitDefEqProofs[aa,eC, ↓a0, ↓a1, ↓aF, ↓aB, ↓tN, ↓z1, ↓z2, ↓z3, ↓z4,r1,hkl,hrN,hrB,-getElem?_pos,List.getElem?_cons_zero,ZF]
  rw[Zz (l:=rowsB) (by omega),Zz (l:=rowsN) (by omega)]
  have hbl:=bC f.body
  refine⟨⟨by omega,by omega⟩,?_⟩
  have hJB:∀x∈K1++(((fA+1)::(L1++(L0++L2)))++(I2++I3)++K2),3<=x/\x<T.length+1/\x≠fF+1/\x≠fB+1:=λx hx=>⟨hIB x (aai _ hx),by have:=hB.own.lt hx;simpa using this,λe=>hn1 (by rw[←e];simp only[ZB];exact .inr (.inl (.inr (aai _ hx)))),λe=>nB.1 (e▸hx)⟩
  have hJN:∀x∈JN,T.length+3<=x/\x<T.length+3+os2.length:=λx hx=>⟨by have:=hN x (by simp[hx]);simp at this;omega,by have:=hRN.own.lt hx;simp at this;omega⟩
  have nle:∀(W:List AO) (fo bo:AO) (x y:AO),∀i,2<=i->i<T.length->i≠fF->i≠fB->(((((T++W).set fB bo)++[y]).set fF fo).set 0 x)[i]?=T[i]?:=λW fo bo x y i h1 h2 h3 h4=>by
   rw[Zx (by omega),Zx (by omega),Zv (by simp only[aag,ZM];omega),Zx (by omega),Zv h2]
  have nri:∀(W:List AO) (fo bo:AO) (x y:AO),∀i,T.length<=i->i<(T++W).length->(((((T++W).set fB bo)++[y]).set fF fo).set 0 x)[i]?=(T++W)[i]?:=λW fo bo x y i h1 h2=>by
   rw[Zx (by omega),Zx (by omega),Zv (by simpa using h2),Zx (by omega)]
  have hbl2:=bC f.body
  have hzN:an (f.body++f.body.take 1)<=400000000:=by rw[bu];omega
  refine finG _ _ (.sl (T.length+(os2.length+1+1)+1) 5 0 (f.body.length+1)) ((T.length+(os2.length+1+1)+1)::((K1++(((fA+1)::(L1++(L0++L2)))++(I2++I3)++K2))++JN++[])) (f.body++f.body.take 1) (λi g1 g2 g3 g4=>nle _ _ _ _ _ i g1 g2 g3 (λe=>g4 (by rw[e];simp))) ?_ ?_ ?_ (by omega) (by omega) (by omega)
  ·rw[Zx (by omega),ZJ (by simp only[aag,ZM];omega)]
  ·refine OwnL.sl _ 5 (f.body.length+1) (rowsB++rowsN) ((f.body++f.body.take 1).map Sm.cs) ?_ (by rw[ZU,ZM,hl1]) (by rw[ZM,ZU,ZM,hl1,hrB,hrN]) (λe he=>?_) (λe he=>by obtain⟨x,_,rfl⟩:=ZN.1 he;simp) ?_ .nil
   ·rw[ZF,Zx (by omega),Zx (by omega),ZG (by simp)]
    simp
   ·rcases ZB.1 he with h|h
    ·exact hB.rl e h
    ·exact hRN.rl e h
   ·rw[List.map_append,aax,aax]
    refine(hB.own.frame λx hx=>?_).app (hRN.own.frame λx hx=>?_)
    ·obtain⟨x1,x2,x3,x4⟩:=hJB x hx
     obtain⟨i,rfl⟩:∃i,x=i+1:=⟨x-1,by omega⟩
     rw[ZF,ZF]
     exact nle _ _ _ _ _ i (by omega) (by omega) (by omega) (by omega)
    ·obtain⟨x1,x2⟩:=hJN x hx
     obtain⟨i,rfl⟩:∃i,x=i+1:=⟨x-1,by omega⟩
     simp only[aac,ZZ,ZF,List.nil_append]
     exact nri _ _ _ _ _ i (by omega) (by simp;omega)
  ·intro i hi
   simp only[ZI,ZB,aaa,or_false] at hi
   rcases hi with rfl|hi|hi
   ·omega
   ·have:=(hJB i (by simp only[ZI,ZB];exact hi)).1;omega
   ·have:=(hJN i hi).1;omega
 by_cases c0:k3=0
 ·subst c0
  simp-implicitDefEqProofs[aa]
  refine(Jq G hb hl (p:=q+1+1+1+1+1+1) (by omega) [[102],[103],[109],[113]] (k:=T.length+2+1) (by simp) (by simp) (by omega) rfl (by simp[fV])).mono ?_
  rintro r h ⟨s2,hs2,rfl,rfl⟩
  have hs28:s2.length<=8:=by simp at hs2;rcases hs2 with rfl|rfl|rfl|rfl<;>simp
  simp-implicitDefEqProofs[aa, ↓a0, ↓a1, ↓aB,u1,hjl, ↓aE, ↓aE2,-getElem?_pos,List.getElem?_cons_zero,ZF]
  refine aT (λhn=>?_) (λhn=>?_)
  ·simp-implicitDefEqProofs[↓a0, ↓a1, ↓aB, ↓aA,u1,hjl,g1,hargs, ↓v0, ↓v1, ↓v2, ↓aE,-getElem?_pos,List.getElem?_cons_zero,ZF]
   refine finA _ _ 13 0 s2 (.sl (T.length+3+1) 4 0 1) [T.length+3+1] [⟨1,1,[],[]⟩] (λi h1 h2 h3=>hv _ _ _ i h1 h2 h3) ?_ ?_ (by simp) (by simp[Ex.sz,bj];omega) (by omega) (by omega)
   ·rw[Zx (by omega),ZJ (by simp only[ZM];omega)]
   ·refine RowOwn.tree (rows:=[[.p (.int .i64 1),.p (.int .i64 1),.p (.str []),.nils]]) (J:=[]) ⟨?_,rfl,by simp,by simp,?_,by simp⟩ rfl
    ·rw[ZF,Zx (by omega),Zx (by omega),ZG (by omega),aau];rfl
    ·simpa using QZ (s:=true) (o:=1) (n:=1) (w:=[]) (k:=[]) (.nils 4 .nil)
  ·simp-implicitDefEqProofs[↓a0, ↓a1, ↓w0,-getElem?_pos,List.getElem?_cons_zero,ZF]
   refine finU _ _ ?_ (by omega) (by omega)
   intro i h1 h2
   rw[Zx (by omega),Zv h2]
 have d1:¬(k3:Int)=1:=by omega
 have d2:¬(k3:Int)=2:=by omega
 simp-implicitDefEqProofs[aa,c0,d1,d2, ↓a0, ↓a1, ↓aF, ↓aB,u1,hjl]
 refine aT (λhn=>?_) (λhn=>?_)
 ·simp-implicitDefEqProofs[↓a0, ↓a1, ↓aB, ↓aA,u1,hjl,g1,hargs, ↓v0, ↓v1, ↓v2, ↓aE,-getElem?_pos,List.getElem?_cons_zero,ZF]
  refine finA _ _ 2 0 s .nils [] [] (λi h1 h2 h3=>hv _ _ _ i h1 h2 h3) ?_ (.nils 4 .nil) (by simp) (by simp[Ex.sz,bj];omega) (by omega) (by omega)
  rw[Zx (by omega),ZJ (by simp only[ZM];omega)]
 ·simp-implicitDefEqProofs[↓a0, ↓a1, ↓w0,-getElem?_pos,List.getElem?_cons_zero,ZF]
  refine finU _ _ ?_ (by omega) (by omega)
  intro i h1 h2
  rw[Zx (by omega),Zv h2]
end
section
def Cok(l:List Fd)(k:Nat)(x:Ex):Prop:=∃j f,cg l x.name=some j/\j<k/\l[j]?=some f/\f.params.length=x.kids.length
mutual
theorem Rv{fns:List Fd}{k:Nat}{vs:List LV}:∀(e:Ex) (c:Int),jJ fns k vs e c=0->∀x∈e.pre,x.op=13->Cok fns k x
 | .mk o n t ks,c,h,x,hx,hop=>by
   rw[jJ] at h
   rw[Ex.pre] at hx
   have h0:=cZ h
   rcases ZI.1 hx with rfl|hx
   ·have hop':o=13:=hop
    have hz:¬(13:Int)=2:=by omega
    rw[im,hop',if_neg hz,if_pos rfl,mY] at h0
    show∃j f,cg fns t=some j/\j<k/\fns[j]?=some f/\f.params.length=ks.length
    cases e:cg fns t with
    |none=>rw[e] at h0;simp only[fl] at h0;split at h0<;>omega
    |some j=>
     rw[e] at h0
     simp only[fl] at h0
     by_cases hj:k<=j
     ·rw[if_pos hj] at h0;split at h0<;>omega
     ·rw[if_neg hj] at h0
      have hjl:j<fns.length:=(ZP.1 e).1
      have hg:=Zu hjl
      refine⟨j,fns[j],rfl,by omega,hg,?_⟩
      rw[Bs,hg] at h0
      simp only at h0
      by_cases hp:fns[j].params.length=ks.length
      ·exact hp
      ·rw[if_neg hp] at h0;split at h0<;>omega
   ·exact AD ks _ h x hx hop
theorem AD{fns:List Fd}{k:Nat}{vs:List LV}:∀(l:List Ex) (c:Int),bp fns k vs l c=0->∀x∈cQ l,x.op=13->Cok fns k x
 |[],c,h,x,hx,_=>by simp[cQ] at hx
 |e::r,c,h,x,hx,hop=>by
  rw[bp] at h
  rw[cQ] at hx
  rcases ZB.1 hx with hx|hx
  ·exact Rv e _ (cZ h) x hx hop
  ·exact AD r _ h x hx hop
end
mutual
theorem RK{fns:List Fd}{k:Nat}:∀(s:Sm) (b d:Nat) (w:WS),(stW fns k b s w).code=0->∀x∈cQ s.args++(eM (d+1) s.body++eM (d+1) s.els),x.op=13->Cok fns k x
 | .mk o n a bd el,b,d,w,h,x,hx,hop=>by
   rw[stW] at h
   rw[du] at h
   have h1:=cu h
   rw[du] at h1
   have h2:=cu h1
   have h3:=zd h2
   simp only[Sm.args,Sm.body,Sm.els,ZB] at hx
   rcases hx with hx|hx|hx
   ·exact AD a _ h3 x hx hop
   ·exact yQ bd _ (d+1) _ h1 x hx hop
   ·exact yQ el _ (d+1) _ h x hx hop
theorem yQ{fns:List Fd}{k:Nat}:∀(l:List Sm) (b d:Nat) (w:WS),(bJ fns k b l w).code=0->∀x∈eM d l,x.op=13->Cok fns k x
 |[],b,d,w,h,x,hx,_=>by simp[eM,bZ] at hx
 |s::r,b,d,w,h,x,hx,hop=>by
  rw[bJ] at h
  rw[pL] at hx
  rcases ZB.1 hx with hx|hx
  ·exact RK s b d _ (cu h) x hx hop
  ·exact yQ r b d _ h x hx hop
end
theorem Sz{l:List Fd}{k:Nat}{f:Fd}(hc:aD l=0)(hk:l[k]?=some f):(fnW l k f).code=0:=by
 unfold aD at hc
 split at hc
 ·have:=(nr l l 0).1 hc k f hk
  rwa[aao] at this
 ·omega
theorem OU{l:List Fd}{k:Nat}{f:Fd}(hc:aD l=0)(hk:l[k]?=some f):∀x∈eM 1 f.body,x.op=13->Cok l k x:=by
 have h:=Sz hc hk
 rw[fnW] at h
 exact yQ _ _ 1 _ h
def CoE(l:List Fd)(k:Nat)(e:Ex):Prop:=∀x∈e.pre,x.op=13->Cok l k x
def CoS(l:List Fd)(k d:Nat)(xs:List Sm):Prop:=∀x∈eM d xs,x.op=13->Cok l k x
theorem CR{a:Ex}:∀{l:List Ex},a∈l->∀x∈a.pre,x∈cQ l
 |b::r,h,x,hx=>by
  rw[cQ]
  rcases ZI.1 h with rfl|h
  ·exact List.mem_append_left _ hx
  ·exact List.mem_append_right _ (CR h x hx)
theorem CoE.kid{l:List Fd}{k:Nat}{e a:Ex}(h:CoE l k e)(ha:a∈e.kids):CoE l k a:=λx hx ho=>h x (by rw[Ex.pre_eq];exact aai _ (CR ha x hx)) ho
theorem CoS.head{l:List Fd}{k d:Nat}{s:Sm}{r:List Sm}(h:CoS l k d (s::r)):(∀a∈s.args,CoE l k a)/\CoS l k (d+1) s.body/\CoS l k (d+1) s.els/\CoS l k d r:=by
 have e:=pL d s r
 unfold CoS at*
 rw[e] at h
 simp only[ZB] at h
 exact⟨λa ha x hx ho=>h x (.inl (.inl (CR ha x hx))) ho,λx hx ho=>h x (.inl (.inr (.inl hx))) ho,λx hx ho=>h x (.inl (.inr (.inr hx))) ho,λx hx ho=>h x (.inr hx) ho⟩
end
section
structure In5 (v:List Sc5) (s:S5):Prop where
 g:G5 s
 ge:GE5 v
 un:Un5 v
 m:M5 s<=4000
 f:(mK v).length+s.left<=1073750000
theorem In5.ex{l:List Fd}{k:Nat}{v:List Sc5}{s s':S5}{e:Ex}{r:O5 Int}(I:In5 v s)(h:Ev l (.ex k v s e s' r)):In5 v s'/\∀n,r= .ok n->V5 n:=by
 have a:=aV h ⟨I.g,I.ge⟩
 have b:=vt h
 exact⟨⟨a.1,I.ge,I.un,ZQ b.1 I.m,by have:=b.2;have:=I.f;omega⟩,a.2.2⟩
structure WfE (l:List Fd) (k:Nat) (e:Ex):Prop where
 form:∃d,aQ d e=true
 co:CoE l k e
 sz:e.sz<=1073741824
theorem MR{d:Nat}{e a:Ex}(h:aQ d e=true)(ha:a∈e.kids):∃d,aQ d a=true:=by
 obtain⟨c,rfl⟩:=bB h
 exact⟨c,be h ha⟩
theorem WfE.kid{l:List Fd}{k:Nat}{e a:Ex}(h:WfE l k e)(ha:a∈e.kids):WfE l k a:=by
 obtain⟨d,hd⟩:=h.form
 exact⟨MR hd ha,h.co.kid ha,by have:=aN ha;have:=e.sz_eq;have:=h.sz;omega⟩
variable (G:am)
theorem RI.ended{R cid:Nat}{l:List Fd}{sid:Nat}{s:S5}{e c:Int}{o:Bool}{h:List AO}(H:RI R cid l sid s e o h):RI R cid l sid s c true (h.set R (Mx l sid cid s c true)):=
 ⟨ZJ H.lt.1,by rw[Zx H.neR.1];exact H.said,by rw[Zx H.neR.2];exact H.cells,H.ne⟩
theorem Fr.set{K:List Nat}{h h2:List AO}(F:Fr K h h2){i:Nat}(hi:i∈K)(o:AO):Fr K h (h2.set i o):=
 ⟨by rw[aag];exact F.1,λj hj hn=>by
   rw[Zx (show i≠j from λe=>hn (e▸hi))];exact F.2 j hj hn⟩
end
section
theorem DX:AK.whole cJ=FK.ak cK:=rfl
variable (G:am)
theorem zR(e:Ex)(h:e.op=1):VF Tryz.prog G fH [.agg (e.cs.map .p),.nils,.nils] (.tup [.p (.int .i64 e.n),.p (.int .i64 0)]):=by
 have hc:=e.cs_eq
 refine AC.go uj ?_
 simp-implicitDefEqProofs[oz,hc,h]
theorem Mz(e a b:Ex)(hk:e.kids=[a,b])(ha:a.op=1)(hb:b.op=1)(h3:3<=e.op)(h10:e.op<=10)(va:V5 a.n)(vb:V5 b.n):VF Tryz.prog G fH [.agg (e.cs.map .p),.nils,.nils] (tv (ar5 e.op a.n b.n)):=by
 have hc:=e.cs_eq
 refine AC.go uj ?_
 have hxl:∀l,exL l= .lst 4 (l.map Ex.cs):=λ_=>rfl
 have o1:¬e.op=1:=by omega
 have o2:¬e.op=2:=by omega
 have o11:¬e.op=11:=by omega
 simp-implicitDefEqProofs[oz,hc,o1,o2,hxl,hk]
 refine(zR G a ha).use ?_
 simp-implicitDefEqProofs[o11]
 by_cases o10:e.op=10
 ·by_cases a0:a.n=0
  ·simp-implicitDefEqProofs[o10,a0,ar5,tv,tr5]
  ·simp-implicitDefEqProofs[o10,a0]
   refine(zR G b hb).use ?_
   simp-implicitDefEqProofs[o10]
   refine(tg G _).use ?_
   simp-implicitDefEqProofs[ar5,tv,a0]
 ·simp-implicitDefEqProofs[o10]
  refine(zR G b hb).use ?_
  simp-implicitDefEqProofs[o10]
  have H:=SK G e.op a.n b.n h3 (by omega) va vb
  rw[ar5,if_neg o10]
  cases hq:gx e.op a.n b.n with
  |none=>
   rw[hq] at H
   simp only[tv] at H
   refine H.use ?_
   simp-implicitDefEqProofs[tv]
  |some q=>
   rw[hq] at H
   simp only[tv] at H
   refine H.use ?_
   simp-implicitDefEqProofs[tv]
theorem Qq{d:Nat}{e:Ex}(hf:aQ d e=true)(hz:e.sz<=1099511627776):VF Tryz.prog G kK [.agg (e.cs.map .p)] (.agg ((fe e.op e.n e.name e.kids).cs.map .p)):=by
 have hc:=e.cs_eq
 have hxl:∀l,exL l= .lst 4 (l.map Ex.cs):=λ_=>rfl
 have hem:e= .mk e.op e.n e.name e.kids:=by cases e;rfl
 have hzz:=e.sz_eq
 obtain⟨d,rfl⟩:=bB hf
 have hkf:∀a∈e.kids,aQ d a=true:=λa ha=>be hf ha
 have hks:∀a∈e.kids,a.sz<=1099511627776:=λa ha=>by have:=aN ha;omega
 have hnc:∀q,(bW q).cs=[.int .i64 1,.int .i64 q,.str [],.lst 4 []]:=λq=>rfl
 refine AC.goK DY DX ?_
 by_cases o11:e.op=11
 ·obtain⟨l1,l2,_⟩:=dy hf
  rw[o11] at l1 l2
  have e1:loK 11=1:=rfl
  have e2:hiK 11=1:=rfl
  rw[e1] at l1
  rw[e2] at l2
  obtain⟨a,hk⟩:∃a,e.kids=[a]:=by
   match hx:e.kids,l1,l2 with
   |[x],_,_=>exact⟨x,rfl⟩
  have hac:=a.cs_eq
  have hp:fe e.op e.n e.name e.kids=jX e.op e.n e.name a:=by
   unfold fe
   rw[if_neg (by omega),hk]
  rw[hp]
  by_cases a1:a.op=1
  ·rw[jX,if_pos a1]
   simp-implicitDefEqProofs[cJ,cK,hc,o11,hk,hxl,hac,a1]
   refine(tg G _).use ?_
   simp-implicitDefEqProofs[]
   refine(gr G _).use ?_
   simp-implicitDefEqProofs[hnc]
  ·have same:(∀c,a.kids=[c]->¬(e.op=11/\a.op=11/\c.op=11))->jX e.op e.n e.name a=e:=by
    intro h
    have h0:Ex.mk e.op e.n e.name [a]=e:=by rw[←hk];exact hem.symm
    unfold jX
    rw[if_neg a1]
    split
    ·rename_i c hc'
     split
     ·rename_i h3
      exact(h c hc' ⟨o11,h3⟩).elim
     ·exact h0
    ·exact h0
   by_cases a11:a.op=11
   ·have haf:=hkf a (by rw[hk];simp)
    obtain⟨l1,l2,_⟩:=dy haf
    rw[a11,e1] at l1
    rw[a11,e2] at l2
    obtain⟨c,hkc⟩:∃c,a.kids=[c]:=by
     match hx:a.kids,l1,l2 with
     |[x],_,_=>exact⟨x,rfl⟩
    have hcc:=c.cs_eq
    by_cases c11:c.op=11
    ·have hq:jX e.op e.n e.name a=c:=by
      unfold jX
      rw[if_neg a1,hkc]
      exact if_pos ⟨a11,c11⟩
     rw[hq]
     simp-implicitDefEqProofs[cJ,cK,hc,o11,hk,hxl,hac,a11,hkc,hcc,c11]
    ·rw[same (λx hx h=>by rw[hkc] at hx;cases hx;exact c11 h.2.2)]
     simp-implicitDefEqProofs[cJ,cK,hc,o11,hk,hxl,hac,a11,hkc,hcc,c11]
   ·rw[same (λx hx h=>a11 h.2.1)]
    simp-implicitDefEqProofs[cJ,cK,hc,o11,hk,hxl,hac,a1,a11]
 by_cases hr:3<=e.op/\e.op<=10
 case neg=>
  have hp:fe e.op e.n e.name e.kids=e:=by
   obtain⟨_,_,l3,l4⟩:=dy hf
   unfold fe
   split
   ·exact hem.symm
   ·rename_i hn
    split
    ·rename_i a hk
     exact(o11 (LL hf hk hn)).elim
    ·rename_i a b hk
     exact(hr (DR hf hk hn)).elim
    ·exact hem.symm
  have hin:inR e.op 3 10=false:=by
   simp only[inR,Bool.and_eq_false_iff,decide_eq_false_iff_not];omega
  rw[hp]
  by_cases hl:e.kids.length=1
  ·simp-implicitDefEqProofs[cJ,cK,hc,o11,hxl,hl]
   refine(sA G _ _ _).use ?_
   simp-implicitDefEqProofs[hin]
  ·have hl':¬(e.kids.length:Int)=1:=by omega
   simp-implicitDefEqProofs[cJ,cK,hc,o11,hxl,hl']
   refine(sA G _ _ _).use ?_
   simp-implicitDefEqProofs[hin]
 obtain⟨h3,h10⟩:=hr
 obtain⟨a,b,hk⟩:∃a b,e.kids=[a,b]:=by
  obtain⟨l1,l2,_⟩:=dy hf
  have e1:loK e.op=2:=by rw[loK,if_neg (by omega),if_neg (by omega),if_neg (by omega)]
  have e2:hiK e.op=2:=by rw[hiK,if_neg (by omega),if_neg (by omega),if_neg (by omega)]
  rw[e1] at l1
  rw[e2] at l2
  match hx:e.kids,l1,l2 with
  |[a,b],_,_=>exact⟨a,b,rfl⟩
 have hac:=a.cs_eq
 have hbc:=b.cs_eq
 have haf:=hkf a (by rw[hk];simp)
 have hbf:=hkf b (by rw[hk];simp)
 have hp:fe e.op e.n e.name e.kids=mw e.op e.n e.name a b:=by
  unfold fe
  rw[if_neg (by omega),hk]
 have hin:inR e.op 3 10=true:=by
  simp only[inR,ZE,decide_eq_true_eq];omega
 rw[hp]
 simp-implicitDefEqProofs[cJ,cK,hc,o11,hk,hxl]
 refine(sA G _ _ _).use ?_
 simp-implicitDefEqProofs[hin,hac,hbc]
 have HA0:=DV G a 0
 have HA1:=DV G a 1
 have HB0:=DV G b 0
 have HB1:=DV G b 1
 have HSA:=IU G d a haf (hks a (by rw[hk];simp))
 have HSB:=IU G d b hbf (hks b (by rw[hk];simp))
 rw[hac] at HA0 HA1 HSA
 rw[hbc] at HB0 HB1 HSB
 simp only[ZT,aaz] at HA0 HA1 HB0 HB1 HSA HSB
 refine rh (λ_:Unit=>ah 148 [(1,.ptr 0 4 0 0),(2,.ptr 1 4 0 0),(4,.ptr 2 4 0 0),(5,.ptr 3 4 0 0)])
  (λ_=>[.row 4 [[.p (.int .i64 e.op),.p (.int .i64 e.n),.p (.str e.name),.p (.lst 4 [a.cs,b.cs])]],.row 4 [[.p (.int .i64 0),.p (.int .i64 0),.p (.str []),.nils]],.row 4 [[.p (.int .i64 a.op),.p (.int .i64 a.n),.p (.str a.name),.p (exL a.kids)]],.row 4 [[.p (.int .i64 b.op),.p (.int .i64 b.n),.p (.str b.name),.p (exL b.kids)]]])
  (λ_=>(if a.op=1/\b.op=1 then ar5 e.op a.n b.n else none)=none) ?_ ?_
 ·
  by_cases a1:a.op=1
  ·by_cases b1:b.op=1
   ·have H:=Mz G e a b hk a1 b1 h3 h10 (vV (kx haf)) (vV (kx hbf))
    rw[hc,hxl,hk] at H
    simp only[ZT,aaz,hac,hbc,a1,b1] at H
    have hp2:∀q,ar5 e.op a.n b.n=some q->mw e.op e.n e.name a b=bW q:=by
     intro q hq
     unfold mw
     rw[if_pos ⟨a1,b1⟩,hq]
    cases hq:ar5 e.op a.n b.n with
    |none=>
     rw[hq] at H
     simp only[tv] at H
     simp-implicitDefEqProofs[a1,b1,hac,hbc]
     refine H.use ?_
     simp-implicitDefEqProofs[hq]
     exact ab (by simp) (by simp[okO,below]) (by simp[below])
    |some q=>
     rw[hq] at H
     simp only[tv] at H
     rw[hp2 q hq]
     simp-implicitDefEqProofs[a1,b1,hac,hbc]
     refine H.use ?_
     simp-implicitDefEqProofs[]
     refine(gr G _).use ?_
     simp-implicitDefEqProofs[hnc]
   ·simp-implicitDefEqProofs[a1,b1,hac,hbc]
    exact ab (by simp) (by simp[okO,below]) (by simp[below])
  ·simp-implicitDefEqProofs[a1,hac,hbc]
   exact ab (by simp) (by simp[okO,below]) (by simp[below])
 intro _ hn
 have hp2:mw e.op e.n e.name a b=if e.op=10/\isN a 0=true then bW 0 else if(e.op=3\/e.op=4)/\isN b 0=true\/(e.op=5\/e.op=6)/\isN b 1=true then a else if e.op=3/\isN a 0=true\/e.op=5/\isN a 1=true then b
  else if e.op=5/\(isN b 0=true/\dm a=true\/isN a 0=true/\dm b=true) then bW 0 else e:=by
  unfold mw
  rw[hn]
  simp only
  rw[←hk,←hem]
 rw[hp2]
 simp only[hac,hbc]
 have ho:e.op=3\/e.op=4\/e.op=5\/e.op=6\/e.op=7\/e.op=8\/e.op=9\/e.op=10:=by omega
 rcases ho with ho|ho|ho|ho|ho|ho|ho|ho
 ·simp-implicitDefEqProofs[ho]
  refine HB0.use ?_
  by_cases hhb0:isN b 0=true
  ·simp-implicitDefEqProofs[hhb0,ho,hc,hxl,hk,hac,hbc]
  ·simp-implicitDefEqProofs[hhb0,ho,hc,hxl,hk,hac,hbc]
   refine HB1.use ?_
   by_cases hhb1:isN b 1=true
   ·simp-implicitDefEqProofs[hhb1,ho,hc,hxl,hk,hac,hbc]
    refine HA0.use ?_
    by_cases hha0:isN a 0=true
    ·simp-implicitDefEqProofs[hha0,ho,hc,hxl,hk,hac,hbc]
    ·simp-implicitDefEqProofs[hha0,ho,hc,hxl,hk,hac,hbc]
     refine HA1.use ?_
     by_cases hha1:isN a 1=true
     ·simp-implicitDefEqProofs[hha1,ho,hc,hxl,hk,hac,hbc]
     ·simp-implicitDefEqProofs[hha1,ho,hc,hxl,hk,hac,hbc]
   ·simp-implicitDefEqProofs[hhb1,ho,hc,hxl,hk,hac,hbc]
    refine HA0.use ?_
    by_cases hha0:isN a 0=true
    ·simp-implicitDefEqProofs[hha0,ho,hc,hxl,hk,hac,hbc]
    ·simp-implicitDefEqProofs[hha0,ho,hc,hxl,hk,hac,hbc]
     refine HA1.use ?_
     by_cases hha1:isN a 1=true
     ·simp-implicitDefEqProofs[hha1,ho,hc,hxl,hk,hac,hbc]
     ·simp-implicitDefEqProofs[hha1,ho,hc,hxl,hk,hac,hbc]
 ·simp-implicitDefEqProofs[ho]
  refine HB0.use ?_
  by_cases hhb0:isN b 0=true
  ·simp-implicitDefEqProofs[hhb0,ho,hc,hxl,hk,hac,hbc]
  ·simp-implicitDefEqProofs[hhb0,ho,hc,hxl,hk,hac,hbc]
   refine HB1.use ?_
   by_cases hhb1:isN b 1=true
   ·simp-implicitDefEqProofs[hhb1,ho,hc,hxl,hk,hac,hbc]
    refine HA0.use ?_
    by_cases hha0:isN a 0=true
    ·simp-implicitDefEqProofs[hha0,ho,hc,hxl,hk,hac,hbc]
     refine HA1.use ?_
     by_cases hha1:isN a 1=true
     ·simp-implicitDefEqProofs[hha1,ho,hc,hxl,hk,hac,hbc]
     ·simp-implicitDefEqProofs[hha1,ho,hc,hxl,hk,hac,hbc]
    ·simp-implicitDefEqProofs[hha0,ho,hc,hxl,hk,hac,hbc]
     refine HA1.use ?_
     by_cases hha1:isN a 1=true
     ·simp-implicitDefEqProofs[hha1,ho,hc,hxl,hk,hac,hbc]
     ·simp-implicitDefEqProofs[hha1,ho,hc,hxl,hk,hac,hbc]
   ·simp-implicitDefEqProofs[hhb1,ho,hc,hxl,hk,hac,hbc]
    refine HA0.use ?_
    by_cases hha0:isN a 0=true
    ·simp-implicitDefEqProofs[hha0,ho,hc,hxl,hk,hac,hbc]
     refine HA1.use ?_
     by_cases hha1:isN a 1=true
     ·simp-implicitDefEqProofs[hha1,ho,hc,hxl,hk,hac,hbc]
     ·simp-implicitDefEqProofs[hha1,ho,hc,hxl,hk,hac,hbc]
    ·simp-implicitDefEqProofs[hha0,ho,hc,hxl,hk,hac,hbc]
     refine HA1.use ?_
     by_cases hha1:isN a 1=true
     ·simp-implicitDefEqProofs[hha1,ho,hc,hxl,hk,hac,hbc]
     ·simp-implicitDefEqProofs[hha1,ho,hc,hxl,hk,hac,hbc]
 ·simp-implicitDefEqProofs[ho]
  refine HB0.use ?_
  by_cases hhb0:isN b 0=true
  ·simp-implicitDefEqProofs[hhb0,ho,hc,hxl,hk,hac,hbc]
   refine HB1.use ?_
   by_cases hhb1:isN b 1=true
   ·simp-implicitDefEqProofs[hhb1,ho,hc,hxl,hk,hac,hbc]
   ·simp-implicitDefEqProofs[hhb1,ho,hc,hxl,hk,hac,hbc]
    refine HA0.use ?_
    by_cases hha0:isN a 0=true
    ·simp-implicitDefEqProofs[hha0,ho,hc,hxl,hk,hac,hbc]
     refine HA1.use ?_
     by_cases hha1:isN a 1=true
     ·simp-implicitDefEqProofs[hha1,ho,hc,hxl,hk,hac,hbc]
     ·simp-implicitDefEqProofs[hha1,ho,hc,hxl,hk,hac,hbc]
      refine HB0.use ?_
      simp-implicitDefEqProofs[hhb0]
      refine HSA.use ?_
      by_cases hhsa:dm a=true
      ·simp-implicitDefEqProofs[hhsa,ho,hc,hxl,hk,hac,hbc]
       refine(gr G _).use ?_
       simp-implicitDefEqProofs[hnc]
      ·simp-implicitDefEqProofs[hhsa,ho,hc,hxl,hk,hac,hbc]
       refine HA0.use ?_
       simp-implicitDefEqProofs[hha0]
       refine HSB.use ?_
       by_cases hhsb:dm b=true
       ·simp-implicitDefEqProofs[hhsb,ho,hc,hxl,hk,hac,hbc]
        refine(gr G _).use ?_
        simp-implicitDefEqProofs[hnc]
       ·simp-implicitDefEqProofs[hhsb,ho,hc,hxl,hk,hac,hbc]
    ·simp-implicitDefEqProofs[hha0,ho,hc,hxl,hk,hac,hbc]
     refine HA1.use ?_
     by_cases hha1:isN a 1=true
     ·simp-implicitDefEqProofs[hha1,ho,hc,hxl,hk,hac,hbc]
     ·simp-implicitDefEqProofs[hha1,ho,hc,hxl,hk,hac,hbc]
      refine HB0.use ?_
      simp-implicitDefEqProofs[hhb0]
      refine HSA.use ?_
      by_cases hhsa:dm a=true
      ·simp-implicitDefEqProofs[hhsa,ho,hc,hxl,hk,hac,hbc]
       refine(gr G _).use ?_
       simp-implicitDefEqProofs[hnc]
      ·simp-implicitDefEqProofs[hhsa,ho,hc,hxl,hk,hac,hbc]
       refine HA0.use ?_
       simp-implicitDefEqProofs[hha0]
  ·simp-implicitDefEqProofs[hhb0,ho,hc,hxl,hk,hac,hbc]
   refine HB1.use ?_
   by_cases hhb1:isN b 1=true
   ·simp-implicitDefEqProofs[hhb1,ho,hc,hxl,hk,hac,hbc]
   ·simp-implicitDefEqProofs[hhb1,ho,hc,hxl,hk,hac,hbc]
    refine HA0.use ?_
    by_cases hha0:isN a 0=true
    ·simp-implicitDefEqProofs[hha0,ho,hc,hxl,hk,hac,hbc]
     refine HA1.use ?_
     by_cases hha1:isN a 1=true
     ·simp-implicitDefEqProofs[hha1,ho,hc,hxl,hk,hac,hbc]
     ·simp-implicitDefEqProofs[hha1,ho,hc,hxl,hk,hac,hbc]
      refine HB0.use ?_
      simp-implicitDefEqProofs[hhb0]
      refine HA0.use ?_
      simp-implicitDefEqProofs[hha0]
      refine HSB.use ?_
      by_cases hhsb:dm b=true
      ·simp-implicitDefEqProofs[hhsb,ho,hc,hxl,hk,hac,hbc]
       refine(gr G _).use ?_
       simp-implicitDefEqProofs[hnc]
      ·simp-implicitDefEqProofs[hhsb,ho,hc,hxl,hk,hac,hbc]
    ·simp-implicitDefEqProofs[hha0,ho,hc,hxl,hk,hac,hbc]
     refine HA1.use ?_
     by_cases hha1:isN a 1=true
     ·simp-implicitDefEqProofs[hha1,ho,hc,hxl,hk,hac,hbc]
     ·simp-implicitDefEqProofs[hha1,ho,hc,hxl,hk,hac,hbc]
      refine HB0.use ?_
      simp-implicitDefEqProofs[hhb0]
      refine HA0.use ?_
      simp-implicitDefEqProofs[hha0]
 ·simp-implicitDefEqProofs[ho]
  refine HB0.use ?_
  by_cases hhb0:isN b 0=true
  ·simp-implicitDefEqProofs[hhb0,ho,hc,hxl,hk,hac,hbc]
   refine HB1.use ?_
   by_cases hhb1:isN b 1=true
   ·simp-implicitDefEqProofs[hhb1,ho,hc,hxl,hk,hac,hbc]
   ·simp-implicitDefEqProofs[hhb1,ho,hc,hxl,hk,hac,hbc]
    refine HA0.use ?_
    by_cases hha0:isN a 0=true
    ·simp-implicitDefEqProofs[hha0,ho,hc,hxl,hk,hac,hbc]
     refine HA1.use ?_
     by_cases hha1:isN a 1=true
     ·simp-implicitDefEqProofs[hha1,ho,hc,hxl,hk,hac,hbc]
     ·simp-implicitDefEqProofs[hha1,ho,hc,hxl,hk,hac,hbc]
    ·simp-implicitDefEqProofs[hha0,ho,hc,hxl,hk,hac,hbc]
     refine HA1.use ?_
     by_cases hha1:isN a 1=true
     ·simp-implicitDefEqProofs[hha1,ho,hc,hxl,hk,hac,hbc]
     ·simp-implicitDefEqProofs[hha1,ho,hc,hxl,hk,hac,hbc]
  ·simp-implicitDefEqProofs[hhb0,ho,hc,hxl,hk,hac,hbc]
   refine HB1.use ?_
   by_cases hhb1:isN b 1=true
   ·simp-implicitDefEqProofs[hhb1,ho,hc,hxl,hk,hac,hbc]
   ·simp-implicitDefEqProofs[hhb1,ho,hc,hxl,hk,hac,hbc]
    refine HA0.use ?_
    by_cases hha0:isN a 0=true
    ·simp-implicitDefEqProofs[hha0,ho,hc,hxl,hk,hac,hbc]
     refine HA1.use ?_
     by_cases hha1:isN a 1=true
     ·simp-implicitDefEqProofs[hha1,ho,hc,hxl,hk,hac,hbc]
     ·simp-implicitDefEqProofs[hha1,ho,hc,hxl,hk,hac,hbc]
    ·simp-implicitDefEqProofs[hha0,ho,hc,hxl,hk,hac,hbc]
     refine HA1.use ?_
     by_cases hha1:isN a 1=true
     ·simp-implicitDefEqProofs[hha1,ho,hc,hxl,hk,hac,hbc]
     ·simp-implicitDefEqProofs[hha1,ho,hc,hxl,hk,hac,hbc]
 ·simp-implicitDefEqProofs[ho]
  refine HB0.use ?_
  by_cases hhb0:isN b 0=true
  ·simp-implicitDefEqProofs[hhb0,ho,hc,hxl,hk,hac,hbc]
   refine HB1.use ?_
   by_cases hhb1:isN b 1=true
   ·simp-implicitDefEqProofs[hhb1,ho,hc,hxl,hk,hac,hbc]
    refine HA0.use ?_
    by_cases hha0:isN a 0=true
    ·simp-implicitDefEqProofs[hha0,ho,hc,hxl,hk,hac,hbc]
     refine HA1.use ?_
     by_cases hha1:isN a 1=true
     ·simp-implicitDefEqProofs[hha1,ho,hc,hxl,hk,hac,hbc]
     ·simp-implicitDefEqProofs[hha1,ho,hc,hxl,hk,hac,hbc]
    ·simp-implicitDefEqProofs[hha0,ho,hc,hxl,hk,hac,hbc]
     refine HA1.use ?_
     by_cases hha1:isN a 1=true
     ·simp-implicitDefEqProofs[hha1,ho,hc,hxl,hk,hac,hbc]
     ·simp-implicitDefEqProofs[hha1,ho,hc,hxl,hk,hac,hbc]
   ·simp-implicitDefEqProofs[hhb1,ho,hc,hxl,hk,hac,hbc]
    refine HA0.use ?_
    by_cases hha0:isN a 0=true
    ·simp-implicitDefEqProofs[hha0,ho,hc,hxl,hk,hac,hbc]
     refine HA1.use ?_
     by_cases hha1:isN a 1=true
     ·simp-implicitDefEqProofs[hha1,ho,hc,hxl,hk,hac,hbc]
     ·simp-implicitDefEqProofs[hha1,ho,hc,hxl,hk,hac,hbc]
    ·simp-implicitDefEqProofs[hha0,ho,hc,hxl,hk,hac,hbc]
     refine HA1.use ?_
     by_cases hha1:isN a 1=true
     ·simp-implicitDefEqProofs[hha1,ho,hc,hxl,hk,hac,hbc]
     ·simp-implicitDefEqProofs[hha1,ho,hc,hxl,hk,hac,hbc]
  ·simp-implicitDefEqProofs[hhb0,ho,hc,hxl,hk,hac,hbc]
   refine HB1.use ?_
   by_cases hhb1:isN b 1=true
   ·simp-implicitDefEqProofs[hhb1,ho,hc,hxl,hk,hac,hbc]
    refine HA0.use ?_
    by_cases hha0:isN a 0=true
    ·simp-implicitDefEqProofs[hha0,ho,hc,hxl,hk,hac,hbc]
     refine HA1.use ?_
     by_cases hha1:isN a 1=true
     ·simp-implicitDefEqProofs[hha1,ho,hc,hxl,hk,hac,hbc]
     ·simp-implicitDefEqProofs[hha1,ho,hc,hxl,hk,hac,hbc]
    ·simp-implicitDefEqProofs[hha0,ho,hc,hxl,hk,hac,hbc]
     refine HA1.use ?_
     by_cases hha1:isN a 1=true
     ·simp-implicitDefEqProofs[hha1,ho,hc,hxl,hk,hac,hbc]
     ·simp-implicitDefEqProofs[hha1,ho,hc,hxl,hk,hac,hbc]
   ·simp-implicitDefEqProofs[hhb1,ho,hc,hxl,hk,hac,hbc]
    refine HA0.use ?_
    by_cases hha0:isN a 0=true
    ·simp-implicitDefEqProofs[hha0,ho,hc,hxl,hk,hac,hbc]
     refine HA1.use ?_
     by_cases hha1:isN a 1=true
     ·simp-implicitDefEqProofs[hha1,ho,hc,hxl,hk,hac,hbc]
     ·simp-implicitDefEqProofs[hha1,ho,hc,hxl,hk,hac,hbc]
    ·simp-implicitDefEqProofs[hha0,ho,hc,hxl,hk,hac,hbc]
     refine HA1.use ?_
     by_cases hha1:isN a 1=true
     ·simp-implicitDefEqProofs[hha1,ho,hc,hxl,hk,hac,hbc]
     ·simp-implicitDefEqProofs[hha1,ho,hc,hxl,hk,hac,hbc]
 ·simp-implicitDefEqProofs[ho]
  refine HB0.use ?_
  by_cases hhb0:isN b 0=true
  ·simp-implicitDefEqProofs[hhb0,ho,hc,hxl,hk,hac,hbc]
   refine HB1.use ?_
   by_cases hhb1:isN b 1=true
   ·simp-implicitDefEqProofs[hhb1,ho,hc,hxl,hk,hac,hbc]
    refine HA0.use ?_
    by_cases hha0:isN a 0=true
    ·simp-implicitDefEqProofs[hha0,ho,hc,hxl,hk,hac,hbc]
     refine HA1.use ?_
     by_cases hha1:isN a 1=true
     ·simp-implicitDefEqProofs[hha1,ho,hc,hxl,hk,hac,hbc]
     ·simp-implicitDefEqProofs[hha1,ho,hc,hxl,hk,hac,hbc]
    ·simp-implicitDefEqProofs[hha0,ho,hc,hxl,hk,hac,hbc]
     refine HA1.use ?_
     by_cases hha1:isN a 1=true
     ·simp-implicitDefEqProofs[hha1,ho,hc,hxl,hk,hac,hbc]
     ·simp-implicitDefEqProofs[hha1,ho,hc,hxl,hk,hac,hbc]
   ·simp-implicitDefEqProofs[hhb1,ho,hc,hxl,hk,hac,hbc]
    refine HA0.use ?_
    by_cases hha0:isN a 0=true
    ·simp-implicitDefEqProofs[hha0,ho,hc,hxl,hk,hac,hbc]
     refine HA1.use ?_
     by_cases hha1:isN a 1=true
     ·simp-implicitDefEqProofs[hha1,ho,hc,hxl,hk,hac,hbc]
     ·simp-implicitDefEqProofs[hha1,ho,hc,hxl,hk,hac,hbc]
    ·simp-implicitDefEqProofs[hha0,ho,hc,hxl,hk,hac,hbc]
     refine HA1.use ?_
     by_cases hha1:isN a 1=true
     ·simp-implicitDefEqProofs[hha1,ho,hc,hxl,hk,hac,hbc]
     ·simp-implicitDefEqProofs[hha1,ho,hc,hxl,hk,hac,hbc]
  ·simp-implicitDefEqProofs[hhb0,ho,hc,hxl,hk,hac,hbc]
   refine HB1.use ?_
   by_cases hhb1:isN b 1=true
   ·simp-implicitDefEqProofs[hhb1,ho,hc,hxl,hk,hac,hbc]
    refine HA0.use ?_
    by_cases hha0:isN a 0=true
    ·simp-implicitDefEqProofs[hha0,ho,hc,hxl,hk,hac,hbc]
     refine HA1.use ?_
     by_cases hha1:isN a 1=true
     ·simp-implicitDefEqProofs[hha1,ho,hc,hxl,hk,hac,hbc]
     ·simp-implicitDefEqProofs[hha1,ho,hc,hxl,hk,hac,hbc]
    ·simp-implicitDefEqProofs[hha0,ho,hc,hxl,hk,hac,hbc]
     refine HA1.use ?_
     by_cases hha1:isN a 1=true
     ·simp-implicitDefEqProofs[hha1,ho,hc,hxl,hk,hac,hbc]
     ·simp-implicitDefEqProofs[hha1,ho,hc,hxl,hk,hac,hbc]
   ·simp-implicitDefEqProofs[hhb1,ho,hc,hxl,hk,hac,hbc]
    refine HA0.use ?_
    by_cases hha0:isN a 0=true
    ·simp-implicitDefEqProofs[hha0,ho,hc,hxl,hk,hac,hbc]
     refine HA1.use ?_
     by_cases hha1:isN a 1=true
     ·simp-implicitDefEqProofs[hha1,ho,hc,hxl,hk,hac,hbc]
     ·simp-implicitDefEqProofs[hha1,ho,hc,hxl,hk,hac,hbc]
    ·simp-implicitDefEqProofs[hha0,ho,hc,hxl,hk,hac,hbc]
     refine HA1.use ?_
     by_cases hha1:isN a 1=true
     ·simp-implicitDefEqProofs[hha1,ho,hc,hxl,hk,hac,hbc]
     ·simp-implicitDefEqProofs[hha1,ho,hc,hxl,hk,hac,hbc]
 ·simp-implicitDefEqProofs[ho]
  refine HB0.use ?_
  by_cases hhb0:isN b 0=true
  ·simp-implicitDefEqProofs[hhb0,ho,hc,hxl,hk,hac,hbc]
   refine HB1.use ?_
   by_cases hhb1:isN b 1=true
   ·simp-implicitDefEqProofs[hhb1,ho,hc,hxl,hk,hac,hbc]
    refine HA0.use ?_
    by_cases hha0:isN a 0=true
    ·simp-implicitDefEqProofs[hha0,ho,hc,hxl,hk,hac,hbc]
     refine HA1.use ?_
     by_cases hha1:isN a 1=true
     ·simp-implicitDefEqProofs[hha1,ho,hc,hxl,hk,hac,hbc]
     ·simp-implicitDefEqProofs[hha1,ho,hc,hxl,hk,hac,hbc]
    ·simp-implicitDefEqProofs[hha0,ho,hc,hxl,hk,hac,hbc]
     refine HA1.use ?_
     by_cases hha1:isN a 1=true
     ·simp-implicitDefEqProofs[hha1,ho,hc,hxl,hk,hac,hbc]
     ·simp-implicitDefEqProofs[hha1,ho,hc,hxl,hk,hac,hbc]
   ·simp-implicitDefEqProofs[hhb1,ho,hc,hxl,hk,hac,hbc]
    refine HA0.use ?_
    by_cases hha0:isN a 0=true
    ·simp-implicitDefEqProofs[hha0,ho,hc,hxl,hk,hac,hbc]
     refine HA1.use ?_
     by_cases hha1:isN a 1=true
     ·simp-implicitDefEqProofs[hha1,ho,hc,hxl,hk,hac,hbc]
     ·simp-implicitDefEqProofs[hha1,ho,hc,hxl,hk,hac,hbc]
    ·simp-implicitDefEqProofs[hha0,ho,hc,hxl,hk,hac,hbc]
     refine HA1.use ?_
     by_cases hha1:isN a 1=true
     ·simp-implicitDefEqProofs[hha1,ho,hc,hxl,hk,hac,hbc]
     ·simp-implicitDefEqProofs[hha1,ho,hc,hxl,hk,hac,hbc]
  ·simp-implicitDefEqProofs[hhb0,ho,hc,hxl,hk,hac,hbc]
   refine HB1.use ?_
   by_cases hhb1:isN b 1=true
   ·simp-implicitDefEqProofs[hhb1,ho,hc,hxl,hk,hac,hbc]
    refine HA0.use ?_
    by_cases hha0:isN a 0=true
    ·simp-implicitDefEqProofs[hha0,ho,hc,hxl,hk,hac,hbc]
     refine HA1.use ?_
     by_cases hha1:isN a 1=true
     ·simp-implicitDefEqProofs[hha1,ho,hc,hxl,hk,hac,hbc]
     ·simp-implicitDefEqProofs[hha1,ho,hc,hxl,hk,hac,hbc]
    ·simp-implicitDefEqProofs[hha0,ho,hc,hxl,hk,hac,hbc]
     refine HA1.use ?_
     by_cases hha1:isN a 1=true
     ·simp-implicitDefEqProofs[hha1,ho,hc,hxl,hk,hac,hbc]
     ·simp-implicitDefEqProofs[hha1,ho,hc,hxl,hk,hac,hbc]
   ·simp-implicitDefEqProofs[hhb1,ho,hc,hxl,hk,hac,hbc]
    refine HA0.use ?_
    by_cases hha0:isN a 0=true
    ·simp-implicitDefEqProofs[hha0,ho,hc,hxl,hk,hac,hbc]
     refine HA1.use ?_
     by_cases hha1:isN a 1=true
     ·simp-implicitDefEqProofs[hha1,ho,hc,hxl,hk,hac,hbc]
     ·simp-implicitDefEqProofs[hha1,ho,hc,hxl,hk,hac,hbc]
    ·simp-implicitDefEqProofs[hha0,ho,hc,hxl,hk,hac,hbc]
     refine HA1.use ?_
     by_cases hha1:isN a 1=true
     ·simp-implicitDefEqProofs[hha1,ho,hc,hxl,hk,hac,hbc]
     ·simp-implicitDefEqProofs[hha1,ho,hc,hxl,hk,hac,hbc]
 ·simp-implicitDefEqProofs[ho]
  refine HA0.use ?_
  by_cases hha0:isN a 0=true
  ·simp-implicitDefEqProofs[hha0,ho,hc,hxl,hk,hac,hbc]
   refine(gr G _).use ?_
   simp-implicitDefEqProofs[hnc]
  ·simp-implicitDefEqProofs[hha0,ho,hc,hxl,hk,hac,hbc]
   refine HB0.use ?_
   by_cases hhb0:isN b 0=true
   ·simp-implicitDefEqProofs[hhb0,ho,hc,hxl,hk,hac,hbc]
    refine HB1.use ?_
    by_cases hhb1:isN b 1=true
    ·simp-implicitDefEqProofs[hhb1,ho,hc,hxl,hk,hac,hbc]
     refine HA0.use ?_
     simp-implicitDefEqProofs[hha0]
     refine HA1.use ?_
     by_cases hha1:isN a 1=true
     ·simp-implicitDefEqProofs[hha1,ho,hc,hxl,hk,hac,hbc]
     ·simp-implicitDefEqProofs[hha1,ho,hc,hxl,hk,hac,hbc]
    ·simp-implicitDefEqProofs[hhb1,ho,hc,hxl,hk,hac,hbc]
     refine HA0.use ?_
     simp-implicitDefEqProofs[hha0]
     refine HA1.use ?_
     by_cases hha1:isN a 1=true
     ·simp-implicitDefEqProofs[hha1,ho,hc,hxl,hk,hac,hbc]
     ·simp-implicitDefEqProofs[hha1,ho,hc,hxl,hk,hac,hbc]
   ·simp-implicitDefEqProofs[hhb0,ho,hc,hxl,hk,hac,hbc]
    refine HB1.use ?_
    by_cases hhb1:isN b 1=true
    ·simp-implicitDefEqProofs[hhb1,ho,hc,hxl,hk,hac,hbc]
     refine HA0.use ?_
     simp-implicitDefEqProofs[hha0]
     refine HA1.use ?_
     by_cases hha1:isN a 1=true
     ·simp-implicitDefEqProofs[hha1,ho,hc,hxl,hk,hac,hbc]
     ·simp-implicitDefEqProofs[hha1,ho,hc,hxl,hk,hac,hbc]
    ·simp-implicitDefEqProofs[hhb1,ho,hc,hxl,hk,hac,hbc]
     refine HA0.use ?_
     simp-implicitDefEqProofs[hha0]
     refine HA1.use ?_
     by_cases hha1:isN a 1=true
     ·simp-implicitDefEqProofs[hha1,ho,hc,hxl,hk,hac,hbc]
     ·simp-implicitDefEqProofs[hha1,ho,hc,hxl,hk,hac,hbc]
end
section
def bG{σ α β:Type}(g:σ->α->β × σ):σ->List α->List β × σ
 |st,[]=>([],st)
 |st,x::r=>((g st x).1::(bG g (g st x).2 r).1,(bG g (g st x).2 r).2)
theorem Hs{σ α β:Type}(g:σ->α->β × σ):∀(a b:List α) (st:σ),bG g st (a++b)=((bG g st a).1++(bG g (bG g st a).2 b).1,(bG g (bG g st a).2 b).2)
 |[],b,st=>rfl
 |x::r,b,st=>by rw[aac,bG,Hs g r];rfl
theorem zL{σ α β:Type}{g:σ->α->β × σ}{l:List α}{st:σ}{i:Nat}(h:i<l.length):bG g st (l.take (i+1))=((bG g st (l.take i)).1++[(g (bG g st (l.take i)).2 l[i]).1],(g (bG g st (l.take i)).2 l[i]).2):=by
 rw[al h,Hs];rfl
theorem yK{σ α β:Type}(g:σ->α->β × σ):∀(l:List α) (st:σ),(bG g st l).1.length=l.length
 |[],st=>rfl
 |x::r,st=>by rw[bG,ZO,ZO,yK g r]
theorem vS{σ α β:Type}{g:σ->α->β × σ}{inv:Nat->σ->Prop}:∀{l:List α} {st:σ} {k:Nat},inv k st->(∀(i:Nat) st (h:i<l.length),inv (k+i) st->inv (k+i+1) (g st l[i]).2)->∀i,i<=l.length->inv (k+i) (bG g st (l.take i)).2
 |[],st,k,h0,_,i,hi=>by
  have:i=0:=by simpa using hi
  subst this;exact h0
 |x::r,st,k,h0,hs,0,_=>h0
 |x::r,st,k,h0,hs,i+1,hi=>by
  have h1:=hs 0 st (by simp) h0
  have:=vS (g:=g) (l:=r) (st:=(g st x).2) (k:=k+1) h1 (λj st hj hv=>by
   have:=hs (j+1) st (by simp;omega) (by rw[show k+(j+1)=k+1+j by omega];exact hv)
   rw[show k+(j+1)+1=k+1+j+1 by omega] at this
   exact this) i (by simpa using hi)
  rw[List.take_succ_cons,bG,show k+(i+1)=k+1+i by omega]
  exact this
theorem Uu{n k:Nat}{A:List AO}{π:List Nat}{h r1:List AO}(hl:A.length=n)(ha:∀o∈A,okO n o)(hh:∀i,i<n->h[i]?=A[i]?)(ρ:List Nat)(hρ:∀i,i<n->ρ.getD i 0=i)(hρn:n<=ρ.length)(hk:k=n)(hr:HW ρ h π r1):HW ρ h (List.range' 0 k++π) (A++r1):=by
 subst hk
 have key:∀(B:List AO) (s:Nat),(∀i:Nat,B[i]?=h[s+i]?\/B.length<=i)->s+B.length=k->(∀o∈B,okO k o)->HW ρ h (List.range' s B.length++π) (B++r1):=by
  intro B
  induction B with
  |nil=>intro s _ _ _;exact hr
  |cons o r ih=>
   intro s hb hs ho
   rw[ZO,List.range'_succ]
   have h0:h[s]?=some o:=by
    rcases hb 0 with h0|h0
    ·simpa using h0.symm
    ·simp at h0
   have hok:=ho o (by simp)
   have ih:=ih (s+1) (λi=>by
    rcases hb (i+1) with h1|h1
    ·rw[ZF] at h1;left;rw[h1];congr 1;omega
    ·right;simpa using h1) (by simp at hs;omega) (λo ho'=>ho o (by simp[ho']))
   have hsl:=(Zt.1 h0).1
   cases o with
   |dead=>exact fQ hsl ih
   |row sz es=>
    refine bN (λx hx=>aL hρn _ (hok x hx)) ?_ ih
    rw[h0,ZR (g:=id) λx hx=>mS hρ x (hok x hx)];simp
   |mp es=>exact⟨hsl,⟨λx hx=>by exact(aL hρn [x.2] ⟨hok x hx,trivial⟩).1,by rw[h0,ZR (g:=id) λx hx=>by rw[mb hρ x.2 (hok x hx)];rfl];simp⟩,ih⟩
   |sit s p=>exact⟨hsl,h0,ih⟩
 have:=key A 0 (λi=>by
  rcases aaj i A.length with hi|hi
  ·left;rw[aao];exact(hh i (by omega)).symm
  ·right;exact hi) (by omega) ha
 rwa[hl] at this
theorem KP{kk q n m d sz c:Nat}{A mid s:List AO}{es:List (List AV)}{l l1:List (Nat × AV)}(hl:A.length=n)(hm:mid.length=m)(hk:kk<=n)(ha:∀o∈A,okO n o)(he:∀x∈es,aj 0 x)(H:FgA n l l1)(hd:Aw.look l d= .sl (n+m) sz 0 c):
 Wk kk (ah q l) (A++(mid++ .row sz es::s)) (ah q ((d,.sl n sz 0 c)::l1)) (A++[.row sz es]):=by
 have hρ:∀i,i<n->(List.range' 0 n++[n+m]).getD i 0=i:=λi hi=>by
  rw[ZL,Zv (by simp;exact hi)];simp[hi]
 have hρn:(List.range' 0 n++[n+m]).getD n 0=n+m:=by
  rw[ZL,ZG (by simp)];simp
 refine ck (List.range' 0 n++[n+m]) (by simp;omega) (λi hi=>hρ i (by omega)) ?_ ?_ ?_
 ·refine aan.2 ⟨List.nodup_range',by simp,λa ha b hb e=>?_⟩
  rw[ZC] at hb
  have:=(List.mem_range'_1.1 ha).2
  omega
 ·refine Uu hl ha (λi hi=>by rw[Zv (by omega)]) _ hρ (by simp) rfl ?_
  refine az ?_ he aU
  rw[ZG (by omega),hl,aau,ZG (by omega),hm,Nat.sub_self];rfl
 ·refine⟨⟨by simp only[below];simp,by simp only[ren,hρn];exact hd.symm⟩,?_⟩
  clear hd
  induction l1 with
  |nil=>trivial
  |cons x r ih=>
   obtain⟨⟨a,c⟩,e⟩:=H
   exact⟨⟨(aL (by simp) [x.2] ⟨a,trivial⟩).1,by rw[mb hρ _ a,c]⟩,ih e⟩
theorem BV{hF:List AO}{n:Nat}:∀{A r:List AO},(∀o∈A,okO n o)->FzO hF n (A++r) A
 |[],r,_=> .nil r
 |o::a,r,h=> .same (h o (by simp)) (BV λo ho=>h o (by simp[ho]))
theorem GN{n:Nat}{A r:List AO}{o:AO}(hl:A.length=n):(tail n (A++o::r))[n]?=some o:=by
 unfold tail
 rw[ZG (by simp),List.length_replicate,Nat.sub_self,←hl,List.drop_left']
 ·rfl
 ·rfl
variable (G:am)
theorem sQ{σ:Type}(V:Vis σ)(g:σ->Ex->Ex × σ)(inv:Nat->σ->Prop)(l:List Ex)(hb:l.length<=1073741824)(hn:0<V.n)
 (hv:∀(i:Nat) st (h:i<l.length),inv i st->inv (i+1) (g st l[i]).2/\AC Tryz.prog G V.F (.agg (l[i].cs.map .p)::V.caps) (V.I st) λx h'=>x= .ret (.agg ((g st l[i]).1.cs.map .p))/\h'=V.I (g st l[i]).2)(st:σ)(h0:inv 0 st):
 AC Tryz.prog G aW [.p (exL l),.fn (.func V.F) V.caps] (V.I st) λx h=>x= .ret (.p (exL (bG g st l).1))/\h=V.I (bG g st l).2:=by
 have hxl:∀l,exL l= .lst 4 (l.map Ex.cs):=λ_=>rfl
 have hlen:=V.len
 have hcb:=V.capsOk
 have hinv:∀i,i<=l.length->inv i (bG g st (l.take i)).2:=λi hi=>by
  have:=vS (g:=g) (inv:=inv) (l:=l) (st:=st) (k:=0) h0 (λi st h hi=>by
   rw[aao] at hi⊢;exact(hv i st h hi).1) i hi
  rwa[aao] at this
 have hRp:∀l:List Ex,∀x∈exR l,aj 0 x:=dK
 have hRl:∀l:List Ex,(exR l).length=l.length:=λl=>by simp[exR]
 have hRa:∀(l:List Ex) (y:Ex),exR (l++[y])=exR l++[y.cs.map .p]:=λl y=>by simp[exR]
 have key:AC Tryz.prog G aW [.p (exL l),.fn (.func V.F) V.caps] (V.I st) λx h=>x= .ret (slE V.n 4 (exR (bG g st l).1))/\h=V.I (bG g st l).2++[bs 4 (exR (bG g st l).1)]:=by
  refine AC.go oT ?_
  simp-implicitDefEqProofs[iT,hxl]
  refine aI (λi:Nat=>ah 22 [(5,slE V.n 4 (exR (bG g st (l.take i)).1)),(0,.p (exL l)),(1,.fn (.func V.F) V.caps),(8,.p (exL l)),(9,.p (.int .i64 l.length)),(10,.p (.int .i64 i))])
   (λi=>V.I (bG g st (l.take i)).2++[bs 4 (exR (bG g st (l.take i)).1)]) (λi=>i<=l.length) (λi=>l.length-i) 0 (by simp) ?_ ?_
  ·have e:bs 4 (exR (bG g st (l.take 0)).1)= .dead:=rfl
   rw[e]
   exact kZ (by rw[hlen];exact ZH _) (by rw[hlen];exact hn) (by rw[hlen];exact V.ok st) (by simp[below,hxl,hcb,hlen,bG,exR,pR])
  intro i hi
  have hT:=λh=>zL (g:=g) (l:=l) (st:=st) (i:=i) h
  have hi2:=hinv i hi
  have hml:=yK g (l.take i) st
  rw[ZS,Nat.min_eq_left hi] at hml
  generalize hcur:bG g st (l.take i)=cur at hT hi2 hml⊢
  obtain⟨out,s⟩:=cur
  simp only at hT hi2 hml⊢
  simp-implicitDefEqProofs[hxl]
  refine aT (λhc=>?_) (λhc=>?_)
  ·simp at hc
   have hg:=Zu hc
   have hT:=hT hc
   obtain⟨_,hA⟩:=hv i s hc hi2
   generalize l[i]=x at hg hT hA
   have hkc:=x.cs_eq
   have hyc:=(g s x).1.cs_eq
   rw[hkc] at hA
   simp-implicitDefEqProofs[hg,hkc,hlen]
   refine(V.pre G hA _ ⟨by simp[below],hcb⟩).mono ?_
   rintro r h ⟨rfl,rfl⟩
   rw[hyc]
   simp-implicitDefEqProofs[aa,hlen]
   have hol:=hRl out
   refine⟨⟨by omega,by omega⟩,i+1,hc,by omega,?_⟩
   rw[hT]
   simp only[hRa]
   rw[tf _ (by simp),pw _ (by simp),hyc]
   refine KP (mid:=[_,_,_]) (s:=[]) (hlen _) rfl (ZH _) (V.ok _) ?_ ?_ ?_
   ·intro x hx
    rcases ZB.1 hx with h|h
    ·exact hRp _ x h
    ·rw[ZC.1 h];simp
   ·simp[below,hxl,hcb,w1 (i:=i) (by omega)]
   ·simp
  ·simp at hc
   have hie:i=l.length:=by omega
   subst hie
   rw[aad] at hcur
   rw[hcur]
   simp-implicitDefEqProofs[]
 refine key.frz V.n (by rw[hlen];exact ZH _) (λt v h ⟨e,_⟩=>by cases e) ?_
 rintro v h ⟨e,rfl⟩
 cases e
 refine⟨_,V.I (bG g st l).2,by rw[ZM,hlen];omega,hlen _,.one ?_ .nil,BV (V.ok _),rfl,rfl⟩
 have ht:=GN (r:=[]) (o:=bs 4 (exR (bG g st l).1)) (hlen (bG g st l).2)
 have hh:exR (bG g st l).1=((bG g st l).1.map Ex.cs).map (·.map .p):=by simp[exR]
 rw[hh] at ht⊢
 exact FP ht (λx hx=>by obtain⟨b,_,rfl⟩:=ZN.1 hx;simp)
theorem Sq{σ:Type}(V:Vis σ)(g:σ->Fd->Fd × σ)(inv:Nat->σ->Prop)(l:List Fd)(hb:l.length<=1073741824)(hn:0<V.n)
 (hv:∀(i:Nat) st (h:i<l.length),inv i st->inv (i+1) (g st l[i]).2/\AC Tryz.prog G V.F (.agg (l[i].cs.map .p)::V.caps) (V.I st) λx h'=>x= .ret (.agg ((g st l[i]).1.cs.map .p))/\h'=V.I (g st l[i]).2)(st:σ)(h0:inv 0 st):
 AC Tryz.prog G cy [.p (fdL l),.fn (.func V.F) V.caps] (V.I st) λx h=>x= .ret (.p (fdL (bG g st l).1))/\h=V.I (bG g st l).2:=by
 have hxl:∀l,fdL l= .lst 3 (l.map Fd.cs):=λ_=>rfl
 have hlen:=V.len
 have hcb:=V.capsOk
 have hinv:∀i,i<=l.length->inv i (bG g st (l.take i)).2:=λi hi=>by
  have:=vS (g:=g) (inv:=inv) (l:=l) (st:=st) (k:=0) h0 (λi st h hi=>by
   rw[aao] at hi⊢;exact(hv i st h hi).1) i hi
  rwa[aao] at this
 have hRp:∀l:List Fd,∀x∈aG l,aj 0 x:=fI
 have hRl:∀l:List Fd,(aG l).length=l.length:=λl=>by simp[aG]
 have hRa:∀(l:List Fd) (y:Fd),aG (l++[y])=aG l++[y.cs.map .p]:=λl y=>by simp[aG]
 have key:AC Tryz.prog G cy [.p (fdL l),.fn (.func V.F) V.caps] (V.I st) λx h=>x= .ret (slE V.n 3 (aG (bG g st l).1))/\h=V.I (bG g st l).2++[bs 3 (aG (bG g st l).1)]:=by
  refine AC.go ro ?_
  simp-implicitDefEqProofs[jU,hxl]
  refine aI (λi:Nat=>ah 22 [(5,slE V.n 3 (aG (bG g st (l.take i)).1)),(0,.p (fdL l)),(1,.fn (.func V.F) V.caps),(8,.p (fdL l)),(9,.p (.int .i64 l.length)),(10,.p (.int .i64 i))])
   (λi=>V.I (bG g st (l.take i)).2++[bs 3 (aG (bG g st (l.take i)).1)]) (λi=>i<=l.length) (λi=>l.length-i) 0 (by simp) ?_ ?_
  ·have e:bs 3 (aG (bG g st (l.take 0)).1)= .dead:=rfl
   rw[e]
   exact kZ (by rw[hlen];exact ZH _) (by rw[hlen];exact hn) (by rw[hlen];exact V.ok st) (by simp[below,hxl,hcb,hlen,bG,aG,pR])
  intro i hi
  have hT:=λh=>zL (g:=g) (l:=l) (st:=st) (i:=i) h
  have hi2:=hinv i hi
  have hml:=yK g (l.take i) st
  rw[ZS,Nat.min_eq_left hi] at hml
  generalize hcur:bG g st (l.take i)=cur at hT hi2 hml⊢
  obtain⟨out,s⟩:=cur
  simp only at hT hi2 hml⊢
  simp-implicitDefEqProofs[hxl]
  refine aT (λhc=>?_) (λhc=>?_)
  ·simp at hc
   have hg:=Zu hc
   have hT:=hT hc
   obtain⟨_,hA⟩:=hv i s hc hi2
   generalize l[i]=x at hg hT hA
   have hkc:=x.cs_eq'
   have hyc:=(g s x).1.cs_eq'
   rw[hkc] at hA
   simp-implicitDefEqProofs[hg,hkc,hlen]
   refine(V.pre G hA _ ⟨by simp[below],hcb⟩).mono ?_
   rintro r h ⟨rfl,rfl⟩
   rw[hyc]
   simp-implicitDefEqProofs[aa,hlen]
   have hol:=hRl out
   refine⟨⟨by omega,by omega⟩,i+1,hc,by omega,?_⟩
   rw[hT]
   simp only[hRa]
   rw[tf _ (by simp),pw _ (by simp),hyc]
   refine KP (mid:=[_,_,_]) (s:=[]) (hlen _) rfl (ZH _) (V.ok _) ?_ ?_ ?_
   ·intro x hx
    rcases ZB.1 hx with h|h
    ·exact hRp _ x h
    ·rw[ZC.1 h];simp
   ·simp[below,hxl,hcb,w1 (i:=i) (by omega)]
   ·simp
  ·simp at hc
   have hie:i=l.length:=by omega
   subst hie
   rw[aad] at hcur
   rw[hcur]
   simp-implicitDefEqProofs[]
 refine key.frz V.n (by rw[hlen];exact ZH _) (λt v h ⟨e,_⟩=>by cases e) ?_
 rintro v h ⟨e,rfl⟩
 cases e
 refine⟨_,V.I (bG g st l).2,by rw[ZM,hlen];omega,hlen _,.one ?_ .nil,BV (V.ok _),rfl,rfl⟩
 have ht:=GN (r:=[]) (o:=bs 3 (aG (bG g st l).1)) (hlen (bG g st l).2)
 have hh:aG (bG g st l).1=((bG g st l).1.map Fd.cs).map (·.map .p):=by simp[aG]
 rw[hh] at ht⊢
 exact FP ht (λx hx=>by obtain⟨b,_,rfl⟩:=ZN.1 hx;simp)
end
section
variable (G:am)
theorem PI{σ:Type}(V:Vis σ)(step:σ->Ex->σ)(inv:σ->Prop)(P:Ex->Prop)(hP:∀e,P e->∀a∈e.kids,P a)(B:Nat)(hB:B<=1073741824)
 (hv:∀st e,inv st->P e->e.sz<=B->inv (step st e)/\AC Tryz.prog G V.F (.agg (e.cs.map .p)::V.caps) (V.I st) λx h=>x= .ret (.tup [])/\h=V.I (step st e)):
 ∀(N:Nat) (e:Ex),P e->e.sz<N->e.sz<=B->∀st,inv st->inv (e.pre.foldl step st)/\AC Tryz.prog G gv [.agg (e.cs.map .p),.fn (.func V.F) V.caps] (V.I st) λx h=>x= .ret (.tup [])/\h=V.I (e.pre.foldl step st):=by
 intro N
 induction N with
 |zero=>intro e _ h;omega
 |succ N ih=>
  intro e hpe he hz st hi
  have hec:=e.cs_eq
  have hsz:=e.sz_eq
  have hkl:=aZ e.kids
  have hxl:exL e.kids= .lst 4 (e.kids.map Ex.cs):=rfl
  have hlen:=V.len
  obtain⟨i1,h1⟩:=hv st e hi hpe hz
  have hinv:∀i,i<=e.kids.length->inv ((cQ (e.kids.take i)).foldl step (step st e)):=by
   intro i
   induction i with
   |zero=>intro _;exact i1
   |succ i ihi=>
    intro hl
    have hg:i<e.kids.length:=by omega
    have hks:=aN (ZD hg)
    rw[al hg,pk,List.foldl_append,cQ,cQ,aar]
    exact(ih e.kids[i] (hP e hpe _ (ZD hg)) (by omega) (by omega) _ (ihi (by omega))).1
  refine⟨?_,?_⟩
  ·rw[Ex.pre_eq,List.foldl_cons]
   have:=hinv e.kids.length (ZH _)
   rwa[aad] at this
  refine V.trim G (AC.go vT ?_) (by simp[below])
  have hcb:=V.capsOk
  have hcb1:aj (V.n+1) V.caps:=aL (by omega) _ hcb
  rw[hec] at h1
  simp-implicitDefEqProofs[pG,hec,hlen]
  refine(V.pre G h1 _ ⟨by simp[below],hcb⟩).mono ?_
  rintro r h ⟨rfl,rfl⟩
  simp-implicitDefEqProofs[aa,hlen,hxl]
  refine aI (λi:Nat=>ah 20 [(1,.fn (.func V.F) V.caps),(2,.ptr V.n 4 0 0),(10,.p (exL e.kids)),(11,.p (.int .i64 e.kids.length)),(12,.p (.int .i64 i))])
   (λi=>V.I ((cQ (e.kids.take i)).foldl step (step st e))++[.row 4 [[.p (.int .i64 e.op),.p (.int .i64 e.n),.p (.str e.name),.p (exL e.kids)]]]) (λi=>i<=e.kids.length) (λi=>e.kids.length-i) 0 (by simp) ?_ ?_
  ·refine V.same (r:=[_]) (s:=[]) _ (ZH _) (by simp[okO,below]) ?_
   simp[below,hxl,hcb1]
  intro i hil
  simp-implicitDefEqProofs[hxl]
  refine aT (λhc=>?_) (λhc=>?_)
  ·simp at hc
   have hg:=Zu hc
   have hks:=aN (ZD hc)
   have hkc:=e.kids[i].cs_eq
   have hI:=(ih e.kids[i] (hP e hpe _ (ZD hc)) (by omega) (by omega) _ (hinv i hil)).2
   rw[hkc] at hI
   simp-implicitDefEqProofs[hg,hkc,hlen]
   refine(V.pre G hI _ ⟨by simp[below],by simp[below,hcb],trivial⟩).mono ?_
   rintro r h ⟨rfl,rfl⟩
   simp-implicitDefEqProofs[aa]
   refine⟨i+1,hc,by omega,?_⟩
   have hf:(cQ (e.kids.take (i+1))).foldl step (step st e)=e.kids[i].pre.foldl step ((cQ (e.kids.take i)).foldl step (step st e)):=by
    rw[al hc,pk,List.foldl_append,cQ,cQ,aar]
   rw[hf]
   refine V.same (r:=[_]) (s:=[_]) _ (ZH _) (by simp[okO,below]) ?_
   simp[below,hxl,hcb1,w1 (i:=i) (by omega)]
  ·simp at hc
   have hie:i=e.kids.length:=by omega
   subst hie
   rw[aad,Ex.pre_eq,List.foldl_cons]
   simp-implicitDefEqProofs[]
theorem mc(n:Int):VF Tryz.prog G eU [.p (.int .i64 n)] (.agg ((bW n).cs.map .p)):=by
 have key:AC Tryz.prog G eU [.p (.int .i64 n)] [] λx h=>x= .ret (.agg [.p (.int .i64 1),.p (.int .i64 n),.p (.str []),.nils]):=by
  refine AC.go Cy ?_
  simp-implicitDefEqProofs[sy]
 refine key.freezeR (λt v h e=>by cases e) λv h e=>?_
 cases e
 exact .agg (.one (.p _) (.one (.p _) (.one (.p _) (.one (.nils 4) .nil)))) .nil
theorem BS(e:Ex)(n:Int):VF Tryz.prog G ca [.agg (e.cs.map .p),.p (.int .i64 n)] (.p (.bool (isN e n))):=by
 refine AC.go GG ?_
 by_cases h1:e.op=1
 ·simp-implicitDefEqProofs[pK,Ex.cs_eq,isN,h1]
 ·simp-implicitDefEqProofs[pK,Ex.cs_eq,isN,h1]
theorem po(b:Bool):VF Tryz.prog G mv [.p (.bool b)] (.p (.int .i64 (tr5 b))):=by
 refine AC.go Db ?_
 cases b<;>simp-implicitDefEqProofs[si,tr5]
def zz:Option Int->AV
 |some q=> .tup [.p (.int .i64 q),.p (.bool true)]
 |none=> .tup [.p (.int .i64 0),.p (.bool false)]
theorem HZ(a b:Int):VF Tryz.prog G gC [.p (.int .i64 11),.p (.int .i64 a),.p (.int .i64 b)] (.tup [.p (.int .i64 (tr5 (decide (a=0)))),.p (.bool true)]):=by
 refine AC.go zi ?_
 simp-implicitDefEqProofs[pJ]
 refine(po G _).use ?_
 simp-implicitDefEqProofs[]
theorem BG(o a b:Int)(ho:3<=o)(h9:o<=10)(ha:V5 a)(hb:V5 b):VF Tryz.prog G gC [.p (.int .i64 o),.p (.int .i64 a),.p (.int .i64 b)] (zz (ar5 o a b)):=by
 obtain⟨a0,a1⟩:=ha
 obtain⟨b0,b1⟩:=hb
 refine AC.go zi ?_
 have hm:a*b<=65025:=by
  have h1:=Int.mul_le_mul_of_nonneg_right a1 b0
  omega
 have hm0:0<=a*b:=Int.mul_nonneg a0 b0
 have ho':o=3\/o=4\/o=5\/o=6\/o=7\/o=8\/o=9\/o=10:=by omega
 rcases ho' with rfl|rfl|rfl|rfl|rfl|rfl|rfl|rfl
 all_goals simp-implicitDefEqProofs[pJ,ar5,gx]
 ·rw[ae (by omega) (by omega),Int.tmod_eq_emod_of_nonneg (by omega)];rfl
 ·have hw:IntKind.i64.wrap (a-b)=a-b:=ae (by omega) (by omega)
  rw[hw,ae (by omega) (by omega),Int.tmod_eq_emod_of_nonneg (by omega)]
  have:(a-b+256)%256=(a-b)%256:=by omega
  rw[this];rfl
 ·rw[ae (by omega) (by omega),Int.tmod_eq_emod_of_nonneg (by omega)];rfl
 ·refine aT (λh=>?_) (λh=>?_)
  ·simp at h
   simp-implicitDefEqProofs[h,zz]
  ·simp at h
   simp-implicitDefEqProofs[h,zz]
   rw[Int.tdiv_eq_ediv_of_nonneg (by omega)]
   have h1:a/b<=a:=Int.ediv_le_self b a0
   have h2:0<=a/b:=Int.ediv_nonneg a0 b0
   exact ae (by omega) (by omega)
 ·refine aT (λh=>?_) (λh=>?_)
  ·simp at h
   simp-implicitDefEqProofs[h,zz]
  ·simp at h
   simp-implicitDefEqProofs[h,zz]
   rw[Int.tmod_eq_emod_of_nonneg (by omega)]
 ·refine(po G _).use ?_
  simp-implicitDefEqProofs[zz]
 ·refine(po G _).use ?_
  simp-implicitDefEqProofs[zz]
 ·by_cases h:a=0
  ·simp-implicitDefEqProofs[h]
   refine(po G _).use ?_
   simp-implicitDefEqProofs[zz]
  ·simp-implicitDefEqProofs[h]
   refine(po G _).use ?_
   simp-implicitDefEqProofs[zz]
def okP(e:Ex):Bool:= !decide (e.op=12)&& !decide (e.op=13)&& !dvE e
mutual
theorem Ij:∀e:Ex,e.pre.all okP=dm e
 | .mk o n s ks=>by
   rw[Ja,Ex.pre_eq,List.all_cons,okP]
   show(_&&(cQ ks).all okP)=_
   rw[EP ks]
   rfl
theorem EP:∀l:List Ex,(cQ l).all okP=l.all dm
 |[]=>rfl
 |e::r=>by rw[cQ,List.all_append,List.all_cons,Ij e,EP r]
end
def ve(p:List PV):Vis Bool where
 I:=λst=>[.row 4 [p.map .p],.row 1 [[.p (.bool st)]]]
 n:=2
 F:=dX
 caps:=[.ptr 1 1 0 0]
 len:=λ_=>rfl
 ok:=λst=>by simp[okO,below]
 capsOk:=by simp[below]
theorem GD(p:List PV)(st:Bool){d:Nat}{e:Ex}(hf:aQ d e=true):AC Tryz.prog G dX [.agg (e.cs.map .p),.ptr 1 1 0 0] ((ve p).I st) λx h=>x= .ret (.tup [])/\h=(ve p).I (st&&okP e):=by
 refine(ve p).trim G (AC.go yY ?_) (by simp[below])
 have hec:=e.cs_eq
 have hxl:∀l,exL l= .lst 4 (l.map Ex.cs):=λ_=>rfl
 cases st with
 |false=>simp-implicitDefEqProofs[bq,hec,ve]
 |true=>
  by_cases o12:e.op=12
  ·simp-implicitDefEqProofs[bq,hec,ve,o12,okP]
  by_cases o13:e.op=13
  ·simp-implicitDefEqProofs[bq,hec,ve,o13,okP]
  by_cases o67:e.op=6\/e.op=7
  ·have hk:∃a b,e.kids=[a,b]:=by
    obtain⟨l1,l2,_⟩:=dy hf
    have e1:loK e.op=2/\hiK e.op=2:=by rcases o67 with h|h<;>rw[h]<;>exact⟨rfl,rfl⟩
    rw[e1.1] at l1
    rw[e1.2] at l2
    match hx:e.kids,l1,l2 with
    |[a,b],_,_=>exact⟨a,b,rfl⟩
   obtain⟨a,b,hk⟩:=hk
   have hbc:=b.cs_eq
   have hd:okP e=(decide (b.op=1)&& !decide (b.n=0)):=by
    rw[okP,dvE,hk]
    rcases o67 with h|h<;>simp[h]
   rw[hd]
   rcases o67 with o6|o7
   ·by_cases b1:b.op=1
    ·simp-implicitDefEqProofs[bq,hec,ve,o6,hxl,hk,hbc,b1]
    ·simp-implicitDefEqProofs[bq,hec,ve,o6,hxl,hk,hbc,b1]
   ·by_cases b1:b.op=1
    ·simp-implicitDefEqProofs[bq,hec,ve,o7,hxl,hk,hbc,b1]
    ·simp-implicitDefEqProofs[bq,hec,ve,o7,hxl,hk,hbc,b1]
  ·have o6:¬e.op=6:=λh=>o67 (.inl h)
   have o7:¬e.op=7:=λh=>o67 (.inr h)
   have hd:okP e=true:=by simp[okP,dvE,o6,o7,o12,o13]
   rw[hd]
   simp-implicitDefEqProofs[bq,hec,ve,o6,o7,o12,o13]
theorem Nn(l:List Ex)(b:Bool):l.foldl (λst e=>st&&okP e) b=(b&&l.all okP):=by
 induction l generalizing b with
 |nil=>simp
 |cons e r ih=>rw[List.foldl_cons,ih,List.all_cons,Bool.and_assoc]
theorem Dk(hK:G cR=some cC)(hS:G bn=some [PV.tbl opK opV]){e:Ex}(hx:io e=true)(hz:e.sz<=1073741824):VF Tryz.prog G iw [.agg (e.cs.map .p)] (.p (.bool (dm e))):=by
 refine AC.go By ?_
 have hec:=e.cs_eq
 have HV:=Bj G hK hS e hz
 have HP:=(PI G (ve e.cs) (λst e=>st&&okP e) (λ_=>True) (λe=>∃d,aQ d e=true) (λe ⟨d,h⟩ a ha=>by
  obtain⟨d,rfl⟩:=bB h
  exact⟨d,be h ha⟩) 1073741824 (by omega) (λst x _ ⟨d,h⟩ _=>⟨trivial,GD G e.cs st h⟩) (e.sz+1) e ⟨6,pr hx⟩ (by omega) hz true trivial).2
 rw[Nn,Bool.true_and,Ij] at HP
 rw[hec] at HV HP
 have hI:∀st,(ve [.int .i64 e.op,.int .i64 e.n,.str e.name,exL e.kids]).I st=[.row 4 [[.p (.int .i64 e.op),.p (.int .i64 e.n),.p (.str e.name),.p (exL e.kids)]],.row 1 [[.p (.bool st)]]]:=λ_=>rfl
 have hF:(ve [.int .i64 e.op,.int .i64 e.n,.str e.name,exL e.kids]).F=dX:=rfl
 have hc:(ve [.int .i64 e.op,.int .i64 e.n,.str e.name,exL e.kids]).caps=[.ptr 1 1 0 0]:=rfl
 rw[hI,hI,hF,hc] at HP
 simp-implicitDefEqProofs[pW,hec]
 refine HV.use ?_
 simp-implicitDefEqProofs[hx]
 refine HP.mono ?_
 rintro r h ⟨rfl,rfl⟩
 simp-implicitDefEqProofs[aa]
end
section
def eA:O5 Int->ARes
 | .ok n=> .ret (.p (.int .i64 n))
 | .st c=> .pan bY (.int .i64 c)
structure PL (M:Nat) (l:List Fd) (fuel sid:Nat) (h:List AO) (s':S5) (sv':AV) (sid':Nat) (h':List AO):Prop where
 run:MI M l fuel sv' sid' s' h'
 fr:Fr [M,sid] h h'
 fs:sid'=sid\/h.length<=sid'
def PxL(M:Nat)(l:List Fd)(fuel sid:Nat)(h:List AO)(s':S5)(r:O5 Int)(x:ARes)(h':List AO):Prop:=x=eA r/\∃sv' sid',PL M l fuel sid h s' sv' sid' h'
structure CI (h:List AO) (u:AV) (v:List Sc5) (I:List Nat) (M sid:Nat):Prop where
 chn:Chn h u v I
 nd:I.Nodup
 sn:sid∉I
 mn:M∉I
section
variable {M:Nat} {l:List Fd} {fuel sid:Nat} {h h' h2 os:List AO} {s s1 s':S5} {sv sv1 sv':AV} {sid1 sid':Nat} {u:AV} {v:List Sc5} {I:List Nat}
theorem CI.more(C:CI h u v I M sid)(os:List AO):CI (h++os) u v I M sid:=⟨C.chn.more os,C.nd,C.sn,C.mn⟩
theorem PL.from(P:PL M l fuel sid (h++os) s' sv' sid' h'):PL M l fuel sid h s' sv' sid' h':=⟨P.run,P.fr.from,by
 rcases P.fs with e|e
 ·exact .inl e
 ·exact .inr (by simp at e;omega)⟩
theorem CI.after(C:CI h u v I M sid)(P:PL M l fuel sid h s' sv' sid' h'):CI h' u v I M sid':=
 ⟨C.chn.frame λi hi=>P.fr.2 i (C.chn.lt i hi) (by simp only[ZI,aaa,or_false,not_or];exact⟨λe=>C.mn (e▸hi),λe=>C.sn (e▸hi)⟩),C.nd,λhm=>by
   rcases P.fs with e|e
   ·exact C.sn (e▸hm)
   ·have:=C.chn.lt _ hm;omega,C.mn⟩
theorem PL.keep(H:MI M l fuel sv sid s h)(P:PL M l fuel sid (h++os) s' sv' sid' h'){i:Nat}(hi:i<os.length):h'[h.length+i]?=os[i]?:=by
 have a:=H.lt
 have b:=H.said.lt
 rw[P.fr.2 (h.length+i) (by simp;omega) (by simp;omega),ZG (by omega),aau]
theorem PL.trans(P:PL M l fuel sid h s1 sv1 sid1 h2)(Q:PL M l fuel sid1 h2 s' sv' sid' h'):PL M l fuel sid h s' sv' sid' h':=by
 refine⟨Q.run,P.fr.trans Q.fr λi hi=>?_,?_⟩
 ·have:=P.fs
  simp only[ZI,aaa,or_false] at hi⊢
  omega
 ·have:=P.fs
  have:=Q.fs
  have:=P.fr.1
  omega
theorem PL.refl(H:MI M l fuel sv sid s h)(os:List AO):PL M l fuel sid h s sv sid (h++os):=⟨H.more os,Fr.more _ _ _,.inl rfl⟩
end
variable (G:am)
def PxC(l:List Fd)(M k fuel:Nat)(e:Ex):Prop:=∀v s s' r,Ev l (.ex k v s e s' r)->In5 v s->∀u I sid sv h,MI M l fuel sv sid s h->CI h u v I M sid->
 AC Tryz.prog G cr [.ptr M 20 0 0,.agg (e.cs.map .p),u] h (PxL M l fuel sid h s' r)
inductive AgV (h:List AO) (lo sid:Nat):AV->List Int->Prop where
 |nn:AgV h lo sid .nils []
 |ss (aid:Nat) (xs:List Int):h[aid]?=some (fY xs)->lo<=aid->aid≠sid->AgV h lo sid (.sl aid 1 0 xs.length) xs
 |pp (xs:List Int):AgV h lo sid (.p (bz xs)) xs
def PcC(l:List Fd)(M k fuel:Nat):Prop:=∀us s s' r,Ev l (.cal k us s s' r)->(∀n∈us,V5 n)->G5 s->M5 s<=4000->∀av sid sv h,MI M l fuel sv sid s h->AgV h 0 sid av us->
 AC Tryz.prog G eE [.ptr M 20 0 0,.p (.int .i64 k),av] h (PxL M l fuel sid h s' r)
theorem UG{l:List Fd}{M k fuel:Nat}(hC:∀e:Ex,e.op=13->WfE l k e->(∀a∈e.kids,PxC G l M k fuel a)->PxC G l M k fuel e):∀(N:Nat) (e:Ex),e.sz<=N->WfE l k e->PxC G l M k fuel e:=by
 intro N
 induction N with
 |zero=>intro e he;have:=e.sz_eq;omega
 |succ N ih=>
  intro e hN W
  have hsz:=e.sz_eq
  have ihk:∀a∈e.kids,PxC G l M k fuel a:=λa ha=>ih a (by have:=aN ha;omega) (W.kid ha)
  by_cases hop:e.op=13
  ·exact hC e hop W ihk
  intro v s s' r hE I0 u I sid sv h H C
  have hec:=e.cs_eq
  have hkl:=aZ e.kids
  have hsl:exL e.kids= .lst 4 (e.kids.map Ex.cs):=rfl
  have fin0:∀n os,PxL M l fuel sid h s (.ok n) (.ret (.p (.int .i64 n))) (h++os):=λn os=>⟨rfl,_,_,PL.refl H os⟩
  obtain⟨e0,rfl,_,hue⟩:=C.chn.is
  obtain⟨box,hbox⟩:∃box,box=AO.row 4 [[.p (.int .i64 e.op),.p (.int .i64 e.n),.p (.str e.name),.p (.lst 4 (e.kids.map Ex.cs))]]:=⟨_,rfl⟩
  have first:∀a s1 r1 (Q:ARes->List AO->Prop),a∈e.kids->Ev l (.ex k v s a s1 r1)->(∀sv1 sid1 h2,PL M l fuel sid (h++[box]) s1 sv1 sid1 h2->CI h2 (.ptr e0 2 0 0) v I M sid1->h2[h.length]?=some box->In5 v s1->(∀n,r1= .ok n->V5 n)->Q (eA r1) h2)->
   AC Tryz.prog G cr [.ptr M 20 0 0,.agg [.p (.int .i64 a.op),.p (.int .i64 a.n),.p (.str a.name),.p (exL a.kids)],.ptr e0 2 0 0] (h++[box]) Q:=λa s1 r1 Q ha hE1 hq=>by
   have hac:a.cs.map AV.p=[.p (.int .i64 a.op),.p (.int .i64 a.n),.p (.str a.name),.p (exL a.kids)]:=by rw[a.cs_eq];rfl
   rw[←hac]
   refine(ihk a ha v s s1 r1 hE1 I0 _ I sid sv _ (H.more [box]) (C.more [box])).mono ?_
   rintro z h2 ⟨rfl,sv1,sid1,P⟩
   have I1:=I0.ex hE1
   exact hq sv1 sid1 h2 P ((C.more [box]).after P) (by have:=PL.keep H P (i:=0) (by simp);simpa using this) I1.1 I1.2
  have second:∀a s1 s2 r2 sv1 sid1 h2 (Q:ARes->List AO->Prop),a∈e.kids->Ev l (.ex k v s1 a s2 r2)->In5 v s1->PL M l fuel sid (h++[box]) s1 sv1 sid1 h2->CI h2 (.ptr e0 2 0 0) v I M sid1->
   (∀sv2 sid2 h3,PL M l fuel sid (h++[box]) s2 sv2 sid2 h3->h3[h.length]?=some box->In5 v s2->(∀n,r2= .ok n->V5 n)->Q (eA r2) h3)->
   AC Tryz.prog G cr [.ptr M 20 0 0,.agg [.p (.int .i64 a.op),.p (.int .i64 a.n),.p (.str a.name),.p (exL a.kids)],.ptr e0 2 0 0] h2 Q:=λa s1 s2 r2 sv1 sid1 h2 Q ha hE1 I1 P1 C1 hq=>by
   have hac:a.cs.map AV.p=[.p (.int .i64 a.op),.p (.int .i64 a.n),.p (.str a.name),.p (exL a.kids)]:=by rw[a.cs_eq];rfl
   rw[←hac]
   refine(ihk a ha v s1 s2 r2 hE1 I1 _ I sid1 sv1 _ P1.run C1).mono ?_
   rintro z h3 ⟨rfl,sv2,sid2,P⟩
   have I2:=I1.ex hE1
   exact hq sv2 sid2 h3 (P1.trans P) (by have:=PL.keep H (P1.trans P) (i:=0) (by simp);simpa using this) I2.1 I2.2
  have kids2:3<=e.op->e.op<=10->∃a b,e.kids=[a,b]:=λq1 q2=>by
   obtain⟨d,hd⟩:=W.form
   obtain⟨f1,f2,_,_⟩:=dy hd
   have hlen:e.kids.length=2:=by
    have:e.op=3\/e.op=4\/e.op=5\/e.op=6\/e.op=7\/e.op=8\/e.op=9\/e.op=10:=by omega
    rcases this with q|q|q|q|q|q|q|q<;>rw[q] at f1 f2<;>simp[loK,hiK] at f1 f2<;>omega
   match hk:e.kids,hlen with
   |[a,b],_=>exact⟨a,b,rfl⟩
  refine AC.go lL ?_
  cases hE with
  |num hop hv=>
   simp-implicitDefEqProofs[ay,hec,hop]
   exact fin0 _ _
  | @var _ _ _ _ n hop hv=>
    simp-implicitDefEqProofs[ay,hec,hop]
    refine(LK G (C.more _).chn C.nd hv).mono ?_
    rintro z h1 ⟨rfl,e1,rfl,m,c,w,g1,g2,g3,g4,g5⟩
    have hq:=Cd e.name c
    rw[g3] at hq
    simp-implicitDefEqProofs[aa,g1,g2,hq]
    exact fin0 _ _
  |call h0 _ _ _ _=>exact(hop h0).elim
  |callS h0 _=>exact(hop h0).elim
  | @firstS _ _ _ _ a rr _ c h1 h2 h3 h4=>
    have ha:a∈e.kids:=by rw[h3];simp
    have n1:¬e.op=1:=by omega
    have n2:¬e.op=2:=by omega
    have hg:e.kids[0]?=some a:=by rw[h3];rfl
    have hka:=a.cs_eq
    by_cases o10:e.op=10
    ·rw[o10] at hbox
     simp-implicitDefEqProofs[ay,hec,hsl,hg,hka,o10]
     rw[←hbox]
     refine first a _ _ _ ha h4 λsv1 sid1 h2 P C1 b1 I1 hv=>?_
     simp-implicitDefEqProofs[eA]
     exact⟨rfl,sv1,sid1,P.from⟩
    by_cases o12:e.op=12
    ·rw[o12] at hbox
     simp-implicitDefEqProofs[ay,hec,hsl,hg,hka,o12]
     rw[←hbox]
     refine first a _ _ _ ha h4 λsv1 sid1 h2 P C1 b1 I1 hv=>?_
     simp-implicitDefEqProofs[eA]
     exact⟨rfl,sv1,sid1,P.from⟩
    simp-implicitDefEqProofs[ay,hec,hsl,hg,hka,n1,n2,hop,o10,o12]
    rw[←hbox]
    refine first a _ _ _ ha h4 λsv1 sid1 h2 P C1 b1 I1 hv=>?_
    simp-implicitDefEqProofs[eA]
    exact⟨rfl,sv1,sid1,P.from⟩
  | @and0 _ _ _ _ a b _ h1 h2 h3=>
    have ha:a∈e.kids:=by rw[h2];simp
    have n1:¬e.op=1:=by omega
    have n2:¬e.op=2:=by omega
    have hg:e.kids[0]?=some a:=by rw[h2];rfl
    have hka:=a.cs_eq
    rw[h1] at hbox
    simp-implicitDefEqProofs[ay,hec,hsl,hg,hka,n1,n2,hop,h1]
    rw[←hbox]
    refine first a _ _ _ ha h3 λsv1 sid1 h2 P C1 b1 I1 hv=>?_
    simp-implicitDefEqProofs[eA,aa]
    exact⟨rfl,sv1,sid1,P.from⟩
  | @and1 _ _ _ _ a b s1 n _ m h1 h2 h3 h4 h5=>
    have ha:a∈e.kids:=by rw[h2];simp
    have n1:¬e.op=1:=by omega
    have n2:¬e.op=2:=by omega
    have hg:e.kids[0]?=some a:=by rw[h2];rfl
    have hka:=a.cs_eq
    have hb:b∈e.kids:=by rw[h2];simp
    have hgb:e.kids[1]?=some b:=by rw[h2];rfl
    have hkb:=b.cs_eq
    rw[h1] at hbox
    simp-implicitDefEqProofs[ay,hec,hsl,hg,hka,n1,n2,hop,h1]
    rw[←hbox]
    refine first a _ _ _ ha h3 λsv1 sid1 h2 P C1 b1 I1 hv=>?_
    rw[hbox] at b1
    simp-implicitDefEqProofs[eA,aa,h4,b1,hsl,hgb,hkb]
    refine second b _ _ _ _ _ _ _ hb h5 I1 P C1 λsv2 sid2 h3 P2 b2 I2 hv2=>?_
    have hA:ar5 10 1 m=some (tr5 (decide (m≠0))):=by simp[ar5]
    have hT:=BG G 10 1 m (by omega) (by omega) ⟨by omega,by omega⟩ (hv2 m rfl)
    rw[hA] at hT
    simp only[zz] at hT
    simp-implicitDefEqProofs[eA,aa]
    refine hT.use ?_
    simp-implicitDefEqProofs[]
    exact⟨by simp[eA],sv2,sid2,P2.from⟩
  | @andS _ _ _ _ a b s1 n _ c h1 h2 h3 h4 h5=>
    have ha:a∈e.kids:=by rw[h2];simp
    have n1:¬e.op=1:=by omega
    have n2:¬e.op=2:=by omega
    have hg:e.kids[0]?=some a:=by rw[h2];rfl
    have hka:=a.cs_eq
    have hb:b∈e.kids:=by rw[h2];simp
    have hgb:e.kids[1]?=some b:=by rw[h2];rfl
    have hkb:=b.cs_eq
    rw[h1] at hbox
    simp-implicitDefEqProofs[ay,hec,hsl,hg,hka,n1,n2,hop,h1]
    rw[←hbox]
    refine first a _ _ _ ha h3 λsv1 sid1 h2 P C1 b1 I1 hv=>?_
    rw[hbox] at b1
    simp-implicitDefEqProofs[eA,aa,h4,b1,hsl,hgb,hkb]
    refine second b _ _ _ _ _ _ _ hb h5 I1 P C1 λsv2 sid2 h3 P2 b2 I2 hv2=>?_
    simp-implicitDefEqProofs[eA]
    exact⟨rfl,sv2,sid2,P2.from⟩
  | @not _ _ _ _ a _ n h1 h2 h3=>
    have ha:a∈e.kids:=by rw[h2];simp
    have n1:¬e.op=1:=by omega
    have n2:¬e.op=2:=by omega
    have hg:e.kids[0]?=some a:=by rw[h2];rfl
    have hka:=a.cs_eq
    have hl1:e.kids.length=1:=by rw[h2];rfl
    rw[h1] at hbox
    simp-implicitDefEqProofs[ay,hec,hsl,hg,hka,n1,n2,hop,h1]
    rw[←hbox]
    refine first a _ _ _ ha h3 λsv1 sid1 h2 P C1 b1 I1 hv=>?_
    rw[hbox] at b1
    simp-implicitDefEqProofs[eA,aa,b1,hsl,hl1]
    refine(HZ G n 0).use ?_
    simp-implicitDefEqProofs[]
    exact⟨by simp[eA],sv1,sid1,P.from⟩
  | @at_ _ _ _ _ a s1 n m h1 h2 h3 h4 h5=>
    have ha:a∈e.kids:=by rw[h2];simp
    have n1:¬e.op=1:=by omega
    have n2:¬e.op=2:=by omega
    have hg:e.kids[0]?=some a:=by rw[h2];rfl
    have hka:=a.cs_eq
    rw[h1] at hbox
    simp-implicitDefEqProofs[ay,hec,hsl,hg,hka,n1,n2,hop,h1]
    rw[←hbox]
    refine first a _ _ _ ha h3 λsv1 sid1 h2 P C1 b1 I1 hv=>?_
    simp-implicitDefEqProofs[eA,aa]
    refine(Jt G P.run n (by omega)).mono ?_
    rintro z h3 hz
    rw[if_neg (by omega)] at hz
    obtain⟨rfl,rfl⟩:=hz
    have hm:=P.run.men
    simp only[lb] at hm
    have hcl:∀a b c d,(a::b::c::d::s'.cells.map (λn=>AV.p (.int .i64 n)))[4+n]?=some (.p (.int .i64 m)):=λa b c d=>by
     rw[show 4+n=n+1+1+1+1 by omega]
     simp[h5]
    simp-implicitDefEqProofs[aa,hm,hcl]
    exact⟨rfl,sv1,sid1,P.from⟩
  | @atS _ _ _ _ a _ n h1 h2 h3 h4=>
    have ha:a∈e.kids:=by rw[h2];simp
    have n1:¬e.op=1:=by omega
    have n2:¬e.op=2:=by omega
    have hg:e.kids[0]?=some a:=by rw[h2];rfl
    have hka:=a.cs_eq
    rw[h1] at hbox
    simp-implicitDefEqProofs[ay,hec,hsl,hg,hka,n1,n2,hop,h1]
    rw[←hbox]
    refine first a _ _ _ ha h3 λsv1 sid1 h2 P C1 b1 I1 hv=>?_
    simp-implicitDefEqProofs[eA,aa]
    obtain⟨q0,q1⟩:=hv n rfl
    obtain⟨i,rfl⟩:∃i:Nat,n=(i:Int):=⟨n.toNat,by omega⟩
    refine(Jt G P.run i (by omega)).mono ?_
    rintro z h3 hz
    rw[if_pos (by omega)] at hz
    obtain⟨rfl,rfl⟩:=hz
    simp-implicitDefEqProofs[]
    exact⟨rfl,sv1,sid1,P.from⟩
  | @bin _ _ _ _ a b s1 n _ m q h1 h2 h3 h4 h5 h6=>
    have ha:a∈e.kids:=by rw[h3];simp
    have n1:¬e.op=1:=by omega
    have n2:¬e.op=2:=by omega
    have hg:e.kids[0]?=some a:=by rw[h3];rfl
    have hka:=a.cs_eq
    have hb:b∈e.kids:=by rw[h3];simp
    have hgb:e.kids[1]?=some b:=by rw[h3];rfl
    have hkb:=b.cs_eq
    have hl2:e.kids.length=2:=by rw[h3];rfl
    have hgi:e.kids[1]'(by omega)=b:=(Zt.1 hgb).2
    have o10:¬e.op=10:=by omega
    have o12:¬e.op=12:=by omega
    simp-implicitDefEqProofs[ay,hec,hsl,hg,hka,n1,n2,hop,o10,o12]
    rw[←hbox]
    refine first a _ _ _ ha h4 λsv1 sid1 h2 P C1 b1 I1 hv=>?_
    rw[hbox] at b1
    simp-implicitDefEqProofs[eA,aa,b1,hsl,hgi,hkb,hl2]
    refine second b _ _ _ _ _ _ _ hb h5 I1 P C1 λsv2 sid2 h3 P2 b2 I2 hv2=>?_
    rw[hbox] at b2
    have hT:=BG G e.op n m h1 (by omega) (hv n rfl) (hv2 m rfl)
    rw[ar5,if_neg o10,h6] at hT
    simp only[zz] at hT
    simp-implicitDefEqProofs[eA,aa,b2]
    refine hT.use ?_
    simp-implicitDefEqProofs[]
    exact⟨rfl,sv2,sid2,P2.from⟩
  | @binS _ _ _ _ a b s1 n _ c h1 h2 h3 h4 h5=>
    have ha:a∈e.kids:=by rw[h3];simp
    have n1:¬e.op=1:=by omega
    have n2:¬e.op=2:=by omega
    have hg:e.kids[0]?=some a:=by rw[h3];rfl
    have hka:=a.cs_eq
    have hb:b∈e.kids:=by rw[h3];simp
    have hgb:e.kids[1]?=some b:=by rw[h3];rfl
    have hkb:=b.cs_eq
    have hl2:e.kids.length=2:=by rw[h3];rfl
    have hgi:e.kids[1]'(by omega)=b:=(Zt.1 hgb).2
    have o10:¬e.op=10:=by omega
    have o12:¬e.op=12:=by omega
    simp-implicitDefEqProofs[ay,hec,hsl,hg,hka,n1,n2,hop,o10,o12]
    rw[←hbox]
    refine first a _ _ _ ha h4 λsv1 sid1 h2 P C1 b1 I1 hv=>?_
    rw[hbox] at b1
    simp-implicitDefEqProofs[eA,aa,b1,hsl,hgi,hkb,hl2]
    refine second b _ _ _ _ _ _ _ hb h5 I1 P C1 λsv2 sid2 h3 P2 b2 I2 hv2=>?_
    simp-implicitDefEqProofs[eA]
    exact⟨rfl,sv2,sid2,P2.from⟩
  | @binD _ _ _ _ a b s1 n _ m h1 h2 h3 h4 h5 h6=>
    have ha:a∈e.kids:=by rw[h3];simp
    have n1:¬e.op=1:=by omega
    have n2:¬e.op=2:=by omega
    have hg:e.kids[0]?=some a:=by rw[h3];rfl
    have hka:=a.cs_eq
    have hb:b∈e.kids:=by rw[h3];simp
    have hgb:e.kids[1]?=some b:=by rw[h3];rfl
    have hkb:=b.cs_eq
    have hl2:e.kids.length=2:=by rw[h3];rfl
    have hgi:e.kids[1]'(by omega)=b:=(Zt.1 hgb).2
    have o10:¬e.op=10:=by omega
    have o12:¬e.op=12:=by omega
    simp-implicitDefEqProofs[ay,hec,hsl,hg,hka,n1,n2,hop,o10,o12]
    rw[←hbox]
    refine first a _ _ _ ha h4 λsv1 sid1 h2 P C1 b1 I1 hv=>?_
    rw[hbox] at b1
    simp-implicitDefEqProofs[eA,aa,b1,hsl,hgi,hkb,hl2]
    refine second b _ _ _ _ _ _ _ hb h5 I1 P C1 λsv2 sid2 h3 P2 b2 I2 hv2=>?_
    rw[hbox] at b2
    have hT:=BG G e.op n m h1 (by omega) (hv n rfl) (hv2 m rfl)
    rw[ar5,if_neg o10,h6] at hT
    simp only[zz] at hT
    simp-implicitDefEqProofs[eA,aa,b2]
    refine hT.use ?_
    simp-implicitDefEqProofs[]
    refine(Kb G 1 h3).mono ?_
    rintro z h4 ⟨rfl,rfl⟩
    simp-implicitDefEqProofs[]
    exact⟨rfl,sv2,sid2,P2.from⟩
end
section
theorem Eo:AK.whole og=FK.ak oo:=rfl
theorem De:AK.whole mW=FK.ak mz:=rfl
variable (G:am)
theorem Ba{l:List Ex}{j:Nat}(h:j<l.length):aJ (l.take (j+1))=aJ (l.take j)++[de l[j]]:=by
 rw[al h,cW,cW,List.map_append];rfl
theorem pV(l:List Ex):(aJ l).length=l.length:=by rw[cW,ZU]
theorem OE:∀(d:Nat) (e:Ex),aQ d e=true->e.sz<=1099511627776->VF Tryz.prog G kH [.agg (e.cs.map .p)] (.agg ((de e).cs.map .p)):=by
 intro d
 induction d with
 |zero=>intro e h;cases h
 |succ d ih=>
  intro e hf hz
  have hzz:=e.sz_eq
  have hlen:=aZ e.kids
  have hc:=e.cs_eq
  have hxl:∀l,exL l= .lst 4 (l.map Ex.cs):=λ_=>rfl
  refine AC.goK Ee Eo ?_
  rw[dh]
  simp-implicitDefEqProofs[og,oo,hc]
  refine aI (λj:Nat=>ah 26 [(1,.ptr 0 4 0 0),(2,.ptr 1 4 0 0),(3,.sl 2 4 0 j),(4,.p (.int .i64 j))])
   (λj=>[.row 4 [[.p (.int .i64 e.op),.p (.int .i64 e.n),.p (.str e.name),.p (exL e.kids)]],.row 4 [[.p (.int .i64 0),.p (.int .i64 0),.p (.str []),.nils]],.row 4 (exR (aJ (e.kids.take j)))])
   (λj=>j<=e.kids.length) (λj=>e.kids.length-j) 0 (by simp) ?_ ?_
  ·refine ab (h:=[_,_,.row 4 []]) (by simp) (by simp[okO,below]) (by simp[below])
  intro j hj
  have hrl:(exR (aJ (e.kids.take j))).length=j:=by rw[BQ,pV];simp;omega
  simp-implicitDefEqProofs[hxl]
  refine aT (λh=>?_) (λh=>?_)
  ·simp at h
   have hg:=Zu h
   have hks:=aN (ZD h)
   have hkc:=(de e.kids[j]).cs_eq
   simp-implicitDefEqProofs[hg]
   refine(ih e.kids[j] (be hf (ZD h)) (by omega)).use ?_
   simp-implicitDefEqProofs[hkc,hrl]
   refine⟨⟨by omega,by omega⟩,j+1,by omega,by omega,?_⟩
   have htk:List.take j (exR (aJ (e.kids.take j)))=exR (aJ (e.kids.take j)):=Zz (by omega)
   rw[Ba h,BU,htk]
   have h1:exR [de e.kids[j]]=[[.p (.int .i64 (de e.kids[j]).op),.p (.int .i64 (de e.kids[j]).n),.p (.str (de e.kids[j]).name),.p (exL (de e.kids[j]).kids)]]:=by rw[exR,aap,hkc];rfl
   rw[h1]
   refine ck [0,1,4] (by simp) (by decide) (by decide) (az rfl (by simp[below]) (az rfl (by simp[below]) (az rfl (λx hx=>?_) aU))) (by simp[below,ren,hxl,w1 (i:=j) (by omega)])
   rcases ZB.1 hx with h|h
   ·exact dK _ x h
   ·rw[ZC.1 h];simp
  ·simp at h
   have hje:j=e.kids.length:=by omega
   subst hje
   rw[aad] at hrl⊢
   simp-implicitDefEqProofs[]
   refine ja (ah 26 [(1,.ptr 0 4 0 0),(2,.ptr 1 4 0 0)]) [.row 4 [[.p (.int .i64 e.op),.p (.int .i64 e.n),.p (.str e.name),.p (exL (aJ e.kids))]],.row 4 [[.p (.int .i64 0),.p (.int .i64 0),.p (.str []),.nils]]] ?_ ?_
   ·simp-implicitDefEqProofs[]
    refine cV 2 (by omega) (by simp) rfl (.one (.keep (by simp[below]) (.keep (by simp[below]) (.keep (by simp[below]) (.one ?_ .nil)))) (.same (by simp[okO,below]) (.nil _))) ?_
    ·have hl2:=pV e.kids
     rw[←hl2]
     exact vI rfl
    ·exact⟨.keep (by simp[below]) .nil,.keep (by simp[below]) .nil,trivial⟩
   have H:VF Tryz.prog G kK [.agg [.p (.int .i64 e.op),.p (.int .i64 e.n),.p (.str e.name),.p (exL (aJ e.kids))]] (.agg ((fe e.op e.n e.name (aJ e.kids)).cs.map .p)):=by
    have H0:=Qq G (bD hf) (by
     have h2:=pf e.kids
     rw[Ex.sz_eq]
     show 1+e.name.length+bj (aJ e.kids)<=_
     omega)
    rw[Ex.cs_eq (.mk e.op e.n e.name (aJ e.kids))] at H0
    exact H0
   simp-implicitDefEqProofs[]
   refine H.use ?_
   have hq:=(fe e.op e.n e.name (aJ e.kids)).cs_eq
   rw[hq]
   simp-implicitDefEqProofs[]
theorem Im{l:List Sm}{j:Nat}(h:j<l.length):aC (l.take (j+1))=aC (l.take j)++[kb l[j]]:=by
 rw[al h,iW,iW,List.map_append];rfl
theorem vg(l:List Sm):(aC l).length=l.length:=by rw[iW,ZU]
theorem AH(l:List Sm)(hf:∀x∈l,∀a∈x.args,aQ 6 a=true)(hz:an l<=1099511627776)
 (ih:∀x∈l,VF Tryz.prog G cf [.p (smL x.body)] (.p (smL (aC x.body)))/\VF Tryz.prog G cf [.p (smL x.els)] (.p (smL (aC x.els)))):VF Tryz.prog G cf [.p (smL l)] (.p (smL (aC l))):=by
 have hll:=bC l
 have hsl:∀l,smL l= .lst 5 (l.map Sm.cs):=λ_=>rfl
 have hxl:∀l,exL l= .lst 4 (l.map Ex.cs):=λ_=>rfl
 have key:AC Tryz.prog G cf [.p (smL l)] [] λx h=>∃v,x= .ret v/\View h v (smL (aC l)):=by
  refine AC.goK Cl De ?_
  simp-implicitDefEqProofs[mW,mz]
  refine aI (λi:Nat=>ah 51 [(0,.p (smL l)),(3,.sl 0 5 0 i),(4,.p (.int .i64 i))]) (λi=>[.row 5 (smR (aC (l.take i)))])
   (λi=>i<=l.length) (λi=>l.length-i) 0 (by simp) ?_ ?_
  ·refine ab (h:=[.row 5 []]) (by simp) (by simp[okO,below]) (by simp[below])
  intro i hi
  have hol:(smR (aC (l.take i))).length=i:=by rw[ed,vg];simp;omega
  simp-implicitDefEqProofs[hsl]
  refine aT (λh=>?_) (λh=>?_)
  ·simp at h
   have hg:=Zu h
   have hat:=Gs h
   have hse:=l[i].cs_eq
   have hsz:=l[i].sz_eq
   have hfx:=hf l[i] (ZD h)
   have hix:=ih l[i] (ZD h)
   have eR:=Im h
   have hfc:=(kb l[i]).cs_eq
   rw[cb] at hfc
   simp only[Sm.op,Sm.name,Sm.args,Sm.body,Sm.els] at hfc
   generalize hgs:l[i]=s at hg hat hse hsz hfx hix eR hfc
   generalize aC (l.take i)=out at hol eR⊢
   simp-implicitDefEqProofs[hg,hse]
   refine aI (λj:Nat=>ah 51 [(0,.p (smL l)),(3,.sl 0 5 0 i),(4,.p (.int .i64 i)),(5,.ptr 1 5 0 0),(6,.sl 2 4 0 j),(7,.p (.int .i64 j))])
    (λj=>[.row 5 (smR out),.row 5 [[.p (.int .i64 s.op),.p (.str s.name),.p (exL s.args),.p (smL s.body),.p (smL s.els)]],.row 4 (exR (aJ (s.args.take j)))])
    (λj=>j<=s.args.length) (λj=>s.args.length-j) 0 (by simp) ?_ ?_
   ·refine ab (h:=[_,_,.row 4 []]) (by simp) (ag (ce (aY out)) (ag (by simp[okO,below]) (by simp[okO,below]))) (by simp[below,hsl])
   intro j hj
   have hrl:(exR (aJ (s.args.take j))).length=j:=by rw[BQ,pV];simp;omega
   have hal:=aZ s.args
   simp-implicitDefEqProofs[hxl]
   refine aT (λhcc=>?_) (λhcc=>?_)
   ·simp at hcc
    have hga:=Zu hcc
    have hks:=aN (ZD hcc)
    have hkc:=(de s.args[j]).cs_eq
    simp-implicitDefEqProofs[hga]
    refine(OE G 6 s.args[j] (hfx _ (ZD hcc)) (by omega)).use ?_
    simp-implicitDefEqProofs[hkc,hrl]
    refine⟨⟨by omega,by omega⟩,j+1,by omega,by omega,?_⟩
    have htk:List.take j (exR (aJ (s.args.take j)))=exR (aJ (s.args.take j)):=Zz (by omega)
    rw[Ba hcc,BU,htk]
    have h1:exR [de s.args[j]]=[[.p (.int .i64 (de s.args[j]).op),.p (.int .i64 (de s.args[j]).n),.p (.str (de s.args[j]).name),.p (exL (de s.args[j]).kids)]]:=by rw[exR,aap,hkc];rfl
    rw[h1]
    refine ck [0,1,4] (by simp) (by decide) (by decide) (az rfl (aY out) (az rfl (by simp[below]) (az rfl (λx hx=>?_) aU))) (by simp[below,ren,hxl,hsl,w1 (i:=j) (by omega)])
    rcases ZB.1 hx with h|h
    ·exact dK _ x h
    ·rw[ZC.1 h];simp
   simp at hcc
   have hje:j=s.args.length:=by omega
   subst hje
   rw[aad] at hrl⊢
   simp-implicitDefEqProofs[]
   refine ja (ah 51 [(0,.p (smL l)),(3,.sl 0 5 0 i),(4,.p (.int .i64 i)),(5,.ptr 1 5 0 0)])
    [.row 5 (smR out),.row 5 [[.p (.int .i64 s.op),.p (.str s.name),.p (exL (aJ s.args)),.p (smL s.body),.p (smL s.els)]]] ?_ ?_
   ·simp-implicitDefEqProofs[]
    refine cV 2 (by omega) (by simp) rfl (.same (ce (aY out)) (.one (.keep (by simp[below]) (.keep (by simp[below]) (.one ?_ (.keep (by simp[below]) (.keep (by simp[below]) .nil))))) (.nil _))) ?_
    ·have hl2:=pV s.args
     rw[←hl2]
     exact vI rfl
    ·exact⟨.keep (by simp[below]) .nil,.keep (by simp[below]) .nil,.keep (by simp[below]) .nil,.keep (by simp[below]) .nil,trivial⟩
   simp-implicitDefEqProofs[]
   refine hix.1.use ?_
   simp-implicitDefEqProofs[]
   refine hix.2.use ?_
   simp-implicitDefEqProofs[hol]
   refine⟨⟨by omega,by omega⟩,i+1,by omega,by omega,?_⟩
   have htk:List.take i (smR out)=smR out:=Zz (by omega)
   rw[eR,zA,htk]
   have h1:smR [kb s]=[[.p (.int .i64 s.op),.p (.str s.name),.p (exL (aJ s.args)),.p (smL (aC s.body)),.p (smL (aC s.els))]]:=by rw[smR,aap,cb,Sm.cs_eq];rfl
   rw[h1]
   refine ck [3] (by simp) (by decide) (by decide) (az rfl (λx hx=>?_) aU) (by simp[below,ren,hsl,w1 (i:=i) (by omega)])
   rcases ZB.1 hx with h|h
   ·exact aY out x h
   ·rw[ZC.1 h];simp
  ·simp at h
   have hie:i=l.length:=by omega
   subst hie
   rw[aad] at hol⊢
   simp-implicitDefEqProofs[]
   have hl2:=vg l
   rw[←hl2]
   exact fw rfl
 refine key.freezeR (λt v h ⟨_,e,_⟩=>by cases e) λv h ⟨u,e1,e2⟩=>?_
 cases e1
 exact .one e2 .nil
theorem MH:∀(d:Nat) (l:List Sm),(∀x∈l,aq d x=true)->an l<=1099511627776->VF Tryz.prog G cf [.p (smL l)] (.p (smL (aC l))):=by
 intro d
 induction d with
 |zero=>
  intro l hf hz
  exact AH G l (λx hx=>by have:=hf x hx;cases this) hz (λx hx=>by have:=hf x hx;cases this)
 |succ d ih=>
  intro l hf hz
  refine AH G l (λx hx=>bE (hf x hx)) hz (λx hx=>?_)
  have h1:=cA hx
  have h2:=x.sz_eq
  exact⟨ih x.body (iJ (hf x hx)) (by omega),ih x.els (sN (hf x hx)) (by omega)⟩
end
section
theorem EE:AK.whole oq=FK.ak oG:=rfl
def nb7(l:List Sm):Prop:=∀x∈l,x.op≠7
theorem zQ:∀{a b:List Sm},nb7 a->br (a++b)=br a++br b
 |[],b,_=>by rw[br];rfl
 |x::r,b,h=>by
  have h2:=zQ (a:=r) (b:=b) (λy hy=>h y (by simp[hy]))
  rw[aac,pC,pC,if_neg (h x (by simp)),if_neg (h x (by simp)),h2]
  split<;>rfl
theorem Ak{x:Sm}{r:List Sm}:br (x::r)=if CC x=true then br r else if x.op=7 then[gY x] else gY x::br r:=by
 rw[pC]
 split
 ·rfl
 ·split<;>rfl
theorem Fu:∀l:List Sm,(br l).length<=l.length
 |[]=>by rw[br];exact ZH _
 |x::r=>by
  have h:=Fu r
  rw[pC]
  split
  ·simp;omega
  ·split
   ·simp
   ·simp;exact h
theorem SJ(x:Sm):(gY x).cs=[.int .i64 x.op,.str x.name,exL x.args,smL (gY x).body,smL (gY x).els]:=by rw[Sm.cs_eq,Tq,Nw,Nc]
variable (G:am)
theorem Da(l:List Sm)(hf:∀x∈l,x.args≠[])(hz:an l<=1099511627776)
 (ih:∀x∈l,VF Tryz.prog G cL [.p (smL x.body)] (.p (smL (br x.body)))/\VF Tryz.prog G cL [.p (smL x.els)] (.p (smL (br x.els)))):VF Tryz.prog G cL [.p (smL l)] (.p (smL (br l))):=by
 have hll:=bC l
 have hsl:∀l,smL l= .lst 5 (l.map Sm.cs):=λ_=>rfl
 have hxl:∀l,exL l= .lst 4 (l.map Ex.cs):=λ_=>rfl
 have key:AC Tryz.prog G cL [.p (smL l)] [] λx h=>∃v,x= .ret v/\View h v (smL (br l)):=by
  refine AC.goK Ea EE ?_
  simp-implicitDefEqProofs[oq,oG]
  refine aI (λi:Nat=>ah 60 [(0,.p (smL l)),(3,.sl 0 5 0 (br (l.take i)).length),(4,.p (.int .i64 i))]) (λi=>[.row 5 (smR (br (l.take i)))])
   (λi=>i<=l.length/\nb7 (l.take i)) (λi=>l.length-i) 0 ⟨by simp,λx hx=>by simp at hx⟩ ?_ ?_
  ·have e0:br (l.take 0)=[]:=by rw[List.take_zero,br]
   rw[e0]
   refine ab (h:=[.row 5 []]) (by simp) (by simp[okO,below]) (by simp[below])
  rintro i ⟨hi,hnb⟩
  have hol:(smR (br (l.take i))).length=(br (l.take i)).length:=by rw[ed]
  have hle:(br (l.take i)).length<=i:=by have:=Fu (l.take i);rw[ZS] at this;omega
  simp-implicitDefEqProofs[hsl]
  refine aT (λh=>?_) (λh=>?_)
  ·simp at h
   have hg:=Zu h
   have hat:=Gs h
   have hse:=l[i].cs_eq
   have hsz:=l[i].sz_eq
   have hfx:=hf l[i] (ZD h)
   have hix:=ih l[i] (ZD h)
   have htk:=al h
   have hdr:=aas h
   have hsplit:=aab i l
   generalize hgs:l[i]=s at hg hat hse hsz hfx hix htk hdr
   have hcs:=SJ s
   obtain⟨a,r,ha⟩:∃a r,s.args=a::r:=by
    match hx:s.args,hfx with
    |a::r,_=>exact⟨a,r,rfl⟩
   have hac:=a.cs_eq
   have HI:=DV G a 0
   rw[hac] at HI
   simp only[ZT,aaz] at HI
   have hNa:∀n,KE s n=isN a n:=λn=>by rw[KE,ha]
   have hCa:Rz s=decide (a.op=1):=by rw[Rz,ha]
   have hzl:CC s=(decide (s.op=6)&&isN a 0):=by rw[CC,hNa]
   have eall:br l=br (l.take i)++br (s::l.drop (i+1)):=by
    conv=>lhs;rw[←hsplit,hdr]
    exact zQ hnb
   have enxt:br (l.take (i+1))=br (l.take i)++br [s]:=by rw[htk];exact zQ hnb
   generalize br (l.take i)=out at hol hle eall enxt⊢
   simp-implicitDefEqProofs[hg,hse,hxl,ha,hac]
   refine hix.1.use ?_
   simp-implicitDefEqProofs[]
   refine hix.2.use ?_
   simp-implicitDefEqProofs[]
   refine rh (λ_:Unit=>ah 60 [(0,.p (smL l)),(3,.sl 0 5 0 out.length),(4,.p (.int .i64 i)),(5,.ptr 1 5 0 0),(6,.ptr 2 4 0 0)])
    (λ_=>[AO.row 5 (smR out),.row 5 [[.p (.int .i64 s.op),.p (.str s.name),.p (.lst 4 ([.int .i64 a.op,.int .i64 a.n,.str a.name,.lst 4 (a.kids.map Ex.cs)]::r.map Ex.cs)),.p (smL (br s.body)),.p (smL (br s.els))]],.row 4 [[.p (.int .i64 a.op),.p (.int .i64 a.n),.p (.str a.name),.p (.lst 4 (a.kids.map Ex.cs))]]])
    (λ_=>CC s=false) ?_ ?_
   ·by_cases o6:s.op=6
    ·simp-implicitDefEqProofs[o6]
     refine HI.use ?_
     by_cases h0:isN a 0=true
     ·have ez:CC s=true:=by rw[hzl,h0,o6];rfl
      have e1:br [s]=[]:=by rw[Ak,if_pos ez,br]
      rw[e1,aar] at enxt
      simp-implicitDefEqProofs[h0]
      refine⟨i+1,⟨by omega,?_⟩,by omega,?_⟩
      ·rw[htk]
       intro x hx
       rcases ZB.1 hx with hx|hx
       ·exact hnb x hx
       ·rw[ZC.1 hx,o6];omega
      ·rw[enxt]
       refine dJ [0] rfl (by decide) (az rfl (aY out) aU) (by simp[below,ren,hsl,w1 (i:=i) (by omega)])
     ·have h0:isN a 0=false:=by simpa using h0
      simp-implicitDefEqProofs[h0,hzl]
      exact ab (by simp) (ag (ce (aY out)) (ag (by simp[okO,below]) (ag (by simp[okO,below]) dN))) (by simp[below,hsl])
    ·simp-implicitDefEqProofs[o6,hzl]
     exact ab (by simp) (ag (ce (aY out)) (ag (by simp[okO,below]) (ag (by simp[okO,below]) dN))) (by simp[below,hsl])
   intro _ hzf
   refine ja (ah 60 [(0,.p (smL l)),(3,.sl 0 5 0 out.length),(4,.p (.int .i64 i)),(5,.ptr 1 5 0 0)])
    [AO.row 5 (smR out),.row 5 [[.p (.int .i64 s.op),.p (.str s.name),.p (.lst 4 ([.int .i64 a.op,.int .i64 a.n,.str a.name,.lst 4 (a.kids.map Ex.cs)]::r.map Ex.cs)),.p (smL (gY s).body),.p (smL (gY s).els)]]] ?_ ?_
   ·rw[Tn,OA,hNa,hCa]
    by_cases o5:s.op=5
    ·by_cases a1:a.op=1
     ·by_cases a0:a.n=0
      ·have hn:isN a 0=true:=isN_iff.2 ⟨a1,a0⟩
       simp-implicitDefEqProofs[o5,a1,a0,hn]
       refine cV 2 (by omega) (by simp) rfl (.same (ce (aY out)) (.one (.keep (by simp[below]) (.keep (by simp[below]) (.keep (by simp[below]) (.one ?_ (.keep (by simp[below]) .nil))))) (.nil _))) ?_
       ·exact fw (l:=[]) rfl
       ·exact⟨.keep (by simp[below,hsl]) .nil,.keep (by simp[below]) .nil,.keep (by simp[below]) .nil,.keep (by simp[below]) .nil,trivial⟩
      ·have hn:isN a 0=false:=by
        rw[isN];simp[a1,a0]
       simp-implicitDefEqProofs[o5,a1,a0,hn]
       refine cV 2 (by omega) (by simp) rfl (.same (ce (aY out)) (.one (.keep (by simp[below]) (.keep (by simp[below]) (.keep (by simp[below]) (.keep (by simp[below]) (.one ?_ .nil))))) (.nil _))) ?_
       ·exact fw (l:=[]) rfl
       ·exact⟨.keep (by simp[below,hsl]) .nil,.keep (by simp[below]) .nil,.keep (by simp[below]) .nil,.keep (by simp[below]) .nil,trivial⟩
     ·have hn:isN a 0=false:=by
       rw[isN];simp[a1]
      simp-implicitDefEqProofs[o5,a1,hn]
      exact dJ [0,1] rfl (by decide) (az rfl (aY out) (az rfl (by simp[below]) aU)) (by simp[below,ren,hsl])
    ·simp-implicitDefEqProofs[o5]
     exact dJ [0,1] rfl (by decide) (az rfl (aY out) (az rfl (by simp[below]) aU)) (by simp[below,ren,hsl])
   simp-implicitDefEqProofs[hol]
   refine⟨⟨by omega,by omega⟩,?_⟩
   have htk2:List.take out.length (smR out)=smR out:=Zz (by omega)
   have h1:smR [gY s]=[[.p (.int .i64 s.op),.p (.str s.name),.p (.lst 4 ([.int .i64 a.op,.int .i64 a.n,.str a.name,.lst 4 (a.kids.map Ex.cs)]::r.map Ex.cs)),.p (smL (gY s).body),.p (smL (gY s).els)]]:=by
    have e3:exL s.args= .lst 4 ([.int .i64 a.op,.int .i64 a.n,.str a.name,.lst 4 (a.kids.map Ex.cs)]::r.map Ex.cs):=by rw[ha,hxl,ZT,hac,hxl]
    rw[smR,aap,hcs,e3];rfl
   have h2:smR out++[[.p (.int .i64 s.op),.p (.str s.name),.p (.lst 4 ([.int .i64 a.op,.int .i64 a.n,.str a.name,.lst 4 (a.kids.map Ex.cs)]::r.map Ex.cs)),.p (smL (gY s).body),.p (smL (gY s).els)]]=smR (out++[gY s]):=by rw[zA,h1]
   rw[htk2,h2]
   refine aT (λh7=>?_) (λh7=>?_)
   ·simp at h7
    have e1:br l=out++[gY s]:=by rw[eall,Ak,if_neg (by rw[hzf];simp),if_pos h7]
    have e2:out.length+1=(br l).length:=by rw[e1];simp
    simp-implicitDefEqProofs[]
    rw[←e1,e2]
    exact fw rfl
   ·simp at h7
    have e1:br [s]=[gY s]:=by rw[Ak,if_neg (by rw[hzf];simp),if_neg h7,br]
    rw[e1] at enxt
    have e2:out.length+1=(out++[gY s]).length:=by simp
    simp-implicitDefEqProofs[]
    refine⟨i+1,⟨by omega,?_⟩,by omega,?_⟩
    ·rw[htk]
     intro x hx
     rcases ZB.1 hx with hx|hx
     ·exact hnb x hx
     ·rw[ZC.1 hx];exact h7
    ·rw[enxt]
     refine ck [3] (by simp) (by decide) (by decide) (az rfl (aY _) aU) (by simp[below,ren,hsl,w1 (i:=i) (by omega)])
  ·simp at h
   have hie:i=l.length:=by omega
   subst hie
   rw[aad] at hol⊢
   simp-implicitDefEqProofs[]
   exact fw rfl
 refine key.freezeR (λt v h ⟨_,e,_⟩=>by cases e) λv h ⟨u,e1,e2⟩=>?_
 cases e1
 exact .one e2 .nil
theorem PF{d:Nat}{x:Sm}(h:aq d x=true):x.args≠[]:=by
 obtain⟨d,rfl⟩:=iE h
 rw[aq,ZE,ZE] at h
 have h1:=h.1.1
 simp only[fX,ZE,decide_eq_true_eq] at h1
 have h2:=h1.1.1.1.1.1.1.2
 intro e
 rw[e] at h2
 simp only[aay,gF] at h2
 split at h2<;>omega
theorem Rr:∀(d:Nat) (l:List Sm),(∀x∈l,aq d x=true)->an l<=1099511627776->VF Tryz.prog G cL [.p (smL l)] (.p (smL (br l))):=by
 intro d
 induction d with
 |zero=>
  intro l hf hz
  exact Da G l (λx hx=>by have:=hf x hx;cases this) hz (λx hx=>by have:=hf x hx;cases this)
 |succ d ih=>
  intro l hf hz
  refine Da G l (λx hx=>PF (hf x hx)) hz (λx hx=>?_)
  have h1:=cA hx
  have h2:=x.sz_eq
  exact⟨ih x.body (iJ (hf x hx)) (by omega),ih x.els (sN (hf x hx)) (by omega)⟩
end
section
variable (G:am)
theorem No(l:List Fd)(hz:aH l<=1073741824)(hne:l≠[]):AC Tryz.prog G fC [.agg [.p (fdL l)]] [] λx h=>x= .ret (.agg [.sl 3 3 0 l.length])/\h=[.row 1 [[.p (fdL l)]],.row 1 [[.sl 3 3 0 l.length]],.row 1 [[.sl 3 3 0 l.length]],.row 3 (aG l)]:=by
 have hll:=dL l
 have hfl:∀l,fdL l= .lst 3 (l.map Fd.cs):=λ_=>rfl
 refine AC.go uf ?_
 simp-implicitDefEqProofs[ov]
 refine aI (λi:Nat=>ah 35 [(1,.ptr 0 1 0 0),(2,.ptr 1 1 0 0),(3,.ptr 2 1 0 0),(4,.p (.int .i64 i))]) (λi=>[.row 1 [[.p (fdL l)]],.row 1 [[.nils]],.row 1 [[slE 3 3 (aG (l.take i))]],bs 3 (aG (l.take i))]) (λi=>i<=l.length) (λi=>l.length-i) 0 (by simp) ?_ ?_
 ·have e1:slE 3 3 (aG (l.take 0))= .nils:=rfl
  have e2:bs 3 (aG (l.take 0))= .dead:=rfl
  rw[e1,e2]
  exact kZ (h:=[AO.row 1 [[.p (fdL l)]],.row 1 [[.nils]],.row 1 [[.nils]]]) (by simp) (by simp) (by simp[okO,below]) (by simp[below])
 intro i hi
 simp-implicitDefEqProofs[hfl]
 refine aT (λh=>?_) (λh=>?_)
 ·simp at h
  have hg:=Zu h
  have hT:l.take (i+1)=l.take i++[l[i]]:=al h
  have hmem:=cS (ZD h)
  have hol:(l.take i).length=i:=by rw[ZS];omega
  generalize l[i]=f at hg hT hmem
  have hrl:(aG (l.take i)).length=i:=by rw[ng];exact hol
  have hcs:f.cs=[.str f.name,au f.params,smL f.body]:=rfl
  have hsp:au f.params= .lst 1 (f.params.map λw=>[.str w]):=rfl
  have hfz:f.sz=1+f.name.length+(f.params.length+(f.params.map List.length).sum)+an f.body:=rfl
  have hB:VF Tryz.prog G dG [.p (smL f.body)] (.p (smL f.body)):=AC.mkFreeze nW (Ax G _ f.body (Nat.lt_succ_self _) (by omega))
  generalize l.take i=out at hT hol hrl⊢
  simp-implicitDefEqProofs[hg,hcs,hsp]
  have hpl:f.params.length<=1073741824:=by omega
  refine⟨⟨by omega,by omega⟩,?_⟩
  refine hB.use ?_
  simp-implicitDefEqProofs[hrl]
  refine⟨⟨by omega,by omega⟩,i+1,by omega,by omega,?_⟩
  have hR:aG (out++[f])=aG out++[[.p (.str f.name),.p (au f.params),.p (smL f.body)]]:=by rw[Do];rfl
  have hR1:slE 3 3 (aG (out++[f]))= .sl 3 3 0 (i+1):=by rw[hR,tf _ (by simp),hrl];rfl
  have hR2:bs 3 (aG (out++[f]))= .row 3 (aG (out++[f])):=by rw[hR,pw _ (by simp)]
  rw[hT,hR1,hR2]
  refine Wk.trans (ck (l1:=[(1,.ptr 0 1 0 0),(2,.ptr 1 1 0 0),(3,.ptr 2 1 0 0),(4,.p (.int .i64 ((i+1:Nat):Int)))]) (h1:=[.row 1 [[.p (fdL l)]],.row 1 [[.nils]],.row 1 [[.sl 3 3 0 (i+1)]],.row 3 (aG out++[[.p (.str f.name),.sl 4 1 0 f.params.length,.p (smL f.body)]]),fV f.params]) [0,1,2,8,6] (by simp) (by decide) (by decide)
   (az rfl (by simp[below]) (az rfl (by simp[below]) (bN (es:=[[.sl 3 3 0 (i+1)]]) (by simp[below]) (by simp[ren,bm]) ?_))) (by simp[below,ren,hfl,w1 (i:=i) (by omega)])) (cV 4 (by omega) (by simp) rfl (.same (by simp[okO,below]) (.same (by simp[okO,below]) (.same (by simp[okO,below]) (.rows ?_ ?_ (.nil _))))) ?_)
  ·refine bN (λx hx=>?_) ?_ (az rfl (λx hx=>?_) aU)
   ·rcases ZB.1 hx with hx|hx
    ·exact aL (Nat.zero_le _) _ (fI out x hx)
    ·rw[ZC.1 hx];simp[below]
   ·rw[List.map_append,ZR (g:=id) (λx hx=>dv _ x (fI out x hx)),List.map_id]
    simp[ren,bm]
   ·obtain⟨w,_,rfl⟩:=ZN.1 hx
    simp[below]
  ·rw[hR];simp
  ·rw[hR]
   intro j e e1 he he1
   by_cases hj:j<(aG out).length
   ·rw[Zv hj] at he he1
    rw[he] at he1
    cases he1
    have:=fI out e (Zy he)
    exact ig (aL (Nat.zero_le _) _ this)
   ·have hj2:j=(aG out).length:=by
     have:=(Zt.1 he).1
     simp at this;omega
    subst hj2
    simp at he he1
    subst he;subst he1
    refine .keep (by simp[below]) (.one ?_ (.keep (by simp[below]) .nil))
    exact fJ rfl
  ·exact⟨.keep (by simp[below]) .nil,.keep (by simp[below]) .nil,.keep (by simp[below]) .nil,.keep (by simp[below]) .nil,trivial⟩
 ·simp at h
  have hie:i=l.length:=by omega
  subst hie
  rw[aad]
  have h0:aG l≠[]:=by
   intro e;apply hne
   have:=congrArg List.length e
   rw[ng] at this
   exact List.length_eq_zero_iff.1 this
  rw[dA h0,eL h0,ng]
  simp-implicitDefEqProofs[hfl]
def eaF(h:List Sm->List Sm)(f:Fd):Fd:=⟨f.name,f.params,h f.body⟩
theorem QB(cut:Bool)(l:List Fd)(hz:aH l<=1073741824)(hne:l≠[])(hf:∀f∈l,∀x∈f.body,aq 4 x=true):VF Tryz.prog G ij [.agg [.p (fdL l)],.p (.bool cut)] (.agg [.p (fdL (if cut then Xc l else cU l))]):=by
 have hll:=dL l
 have hfl:∀l,fdL l= .lst 3 (l.map Fd.cs):=λ_=>rfl
 have hln:0<l.length:=by
  cases l with
  |nil=>exact(hne rfl).elim
  |cons x r=>simp
 let g:Fd->Fd:=if cut then WZ else sG
 have hg0:(if cut then Xc l else cU l)=l.map g:=by cases cut<;>rfl
 rw[hg0]
 have key:AC Tryz.prog G ij [.agg [.p (fdL l)],.p (.bool cut)] [] λx h=>∃v,x= .ret (.agg [v])/\View h v (fdL (l.map g)):=by
  refine AC.go Ez ?_
  simp-implicitDefEqProofs[tY]
  refine(AC.lift (No G l hz hne) (by simp[below]) (by simp[Aq,tZ]) ?_).mono ?_
  ·simp[Jn,tZ,Aq]
   intro x hx
   obtain⟨f,_,rfl⟩:=ZN.1 hx
   rfl
  rintro r h ⟨rfl,rfl⟩
  simp-implicitDefEqProofs[rc,aa,cw,dk]
  let L:Nat->List Fd:=λi=>(l.take i).map g++l.drop i
  have hLl:∀i,i<=l.length->(L i).length=l.length:=λi hi=>by simp[L];omega
  have hLg:∀i,i<l.length->(L i)[i]?=l[i]?:=λi hi=>by
   have:((l.take i).map g).length=i:=by simp;omega
   rw[ZG (by omega),this,Nat.sub_self,aaw,Nat.add_zero]
  have hLs:∀i f,l[i]?=some f->(L i).set i (g f)=L (i+1):=λi f hi=>by
   have hil:=(Zt.1 hi).1
   have hlen:((l.take i).map g).length=i:=by simp;omega
   show((l.take i).map g++l.drop i).set i (g f)=(l.take (i+1)).map g++l.drop (i+1)
   rw[List.set_append_right _ _ (by omega),hlen,Nat.sub_self,aas hil,List.set_cons_zero,al hil,List.map_append,ZZ]
   have:l[i]=f:=by rw[Zu hil] at hi;exact Option.some.inj hi
   rw[this];rfl
  have hL0:L 0=l:=by simp[L]
  have hLe:L l.length=l.map g:=by
   show(l.take l.length).map g++l.drop l.length=_
   rw[aad,List.drop_length,aar]
  generalize hLL:L=L2 at hLl hLg hLs hL0 hLe
  refine aI (λi:Nat=>ah 42 [(1,.p (.bool cut)),(4,.ptr 0 1 0 0),(5,.ptr 2 1 0 0),(6,.p (.int .i64 i))]) (λi=>[.row 1 [[.nils]],.row 3 (aG (L2 i)),.row 1 [[.sl 1 3 0 l.length]]]) (λi=>i<=l.length) (λi=>l.length-i) 0 (by simp) ?_ ?_
  ·rw[hL0]
   have e:cF 2 (AO.row 3 (aG l))= .row 3 (aG l):=by
    have e2:(aG l).map (dk 2)=aG l:=by
     conv=>rhs;rw[←List.map_id (aG l)]
     refine ZR λx hx=>?_
     obtain⟨f,_,rfl⟩:=ZN.1 hx
     rfl
    show AO.row 3 ((aG l).map (dk 2))=_
    rw[e2]
   rw[e]
   exact dJ [1,5,6] rfl (by decide) (az rfl (by simp[below]) (az rfl (fI l) (bN (es:=[[.sl 1 3 0 l.length]]) (by simp[below]) (by simp[ren,bm]) aU))) (by simp[below,ren])
  intro i hi
  have hfl2:=ng (L2 i)
  rw[hLl i hi] at hfl2
  simp-implicitDefEqProofs[hfl2]
  refine aT (λh=>?_) (λh=>?_)
  ·simp at h
   have hg:=Zu h
   have hm:=ZD h
   have hgi:(aG (L2 i))[i]?=some [.p (.str l[i].name),.p (au l[i].params),.p (smL l[i].body)]:=by
    rw[aG,ZK,hLg i h,hg];rfl
   have hst:=hLs i l[i] hg
   have hfz:=cS hm
   have hfb:=hf l[i] hm
   generalize l[i]=f at hg hm hgi hst hfz hfb
   have hfz2:f.sz=1+f.name.length+(f.params.length+(f.params.map List.length).sum)+an f.body:=rfl
   cases cut with
   |true=>
    simp-implicitDefEqProofs[hfl2,hgi]
    refine⟨h,?_⟩
    refine(Rr G 4 f.body hfb (by omega)).use ?_
    have hst2:(aG (L2 i)).set i [.p (.str f.name),.p (au f.params),.p (smL (br f.body))]=aG (L2 (i+1)):=by
     rw[←hst,aG,aG,List.map_set];rfl
    simp-implicitDefEqProofs[hfl2,hgi,hst2]
    refine⟨h,i+1,by omega,by omega,ab (by simp) (ag (by simp[okO,below]) (ag (ce (fI _)) (ag (by simp[okO,below]) dN))) (by simp[below,w1 (i:=i) (by omega)])⟩
   |false=>
    simp-implicitDefEqProofs[hfl2,hgi]
    refine⟨h,?_⟩
    refine(MH G 4 f.body hfb (by omega)).use ?_
    have hst2:(aG (L2 i)).set i [.p (.str f.name),.p (au f.params),.p (smL (aC f.body))]=aG (L2 (i+1)):=by
     rw[←hst,aG,aG,List.map_set];rfl
    simp-implicitDefEqProofs[hfl2,hgi,hst2]
    refine⟨h,i+1,by omega,by omega,ab (by simp) (ag (by simp[okO,below]) (ag (ce (fI _)) (ag (by simp[okO,below]) dN))) (by simp[below,w1 (i:=i) (by omega)])⟩
  ·simp at h
   have hie:i=l.length:=by omega
   subst hie
   simp-implicitDefEqProofs[]
   rw[hLe]
   have hl2:(l.map g).length=l.length:=ZU _
   rw[←hl2]
   exact sO rfl
 refine key.freezeR (λt v h ⟨_,e,_⟩=>by cases e) λv h ⟨u,e1,e2⟩=>?_
 cases e1
 exact .agg (.one e2 .nil) .nil
end
section
theorem kw{l:List Fd}(h:aD l=0):l≠[]/\∀f∈l,∀x∈f.body,aq 4 x=true:=by
 have hp:=((sY l).1 h).1
 obtain⟨h1,h2,h3⟩:=(dC l).1 hp
 refine⟨?_,λf hf x hx=>?_⟩
 ·rintro rfl;simp at h1
 ·have:=h2 f hf
  simp only[iZ,ZE,ZA] at this
  exact this.2 x hx
variable (G:am)
theorem SD{l:List Fd}(hz:aH l<=1073741824)(h:aD l=0):VF Tryz.prog G ij [.agg [.p (fdL l)],.p (.bool false)] (.agg [.p (fdL (cU l))]):=QB G false l hz (kw h).1 (kw h).2
def orN(b:Bool)(l:List Fd):List Fd:=if b then l else[]
theorem Ec(l:List Fd)(hz:aH l<=1073741824):VF Tryz.prog G fj [.agg [.p (fdL l)]] (.tup [.agg [.p (fdL (orN (decide (aD l=0)) (cU l)))],.p (.bool (decide (aD l=0)))]):=by
 have key:AC Tryz.prog G fj [.agg [.p (fdL l)]] [] λx h=>∃v,x= .ret (.tup [.agg [v],.p (.bool (decide (aD l=0)))])/\View h v (fdL (orN (decide (aD l=0)) (cU l))):=by
  refine AC.go uO ?_
  simp-implicitDefEqProofs[nh]
  refine(HO G l hz).use ?_
  by_cases h0:aD l=0
  ·simp-implicitDefEqProofs[h0]
   refine(SD G hz h0).use ?_
   simp-implicitDefEqProofs[orN]
   exact .p _
  ·simp-implicitDefEqProofs[h0,orN]
   exact .nils 3
 refine key.freezeR (λt v h ⟨_,e,_⟩=>by cases e) λv h ⟨u,e1,e2⟩=>?_
 cases e1
 exact .tup (.agg (.one e2 .nil) (.keep (by simp) .nil)) .nil
end
section
variable (G:am)
def KX(xs:List Int):O5 (List Int)->O5 (List Int)
 | .ok us=> .ok (xs++us)
 | .st c=> .st c
end
section
theorem AgV.step{h h':List AO}{lo sid sid':Nat}{av:AV}{xs:List Int}(A:AgV h lo sid av xs)(e:∀i,lo<=i->i<h.length->i≠sid->h'[i]?=h[i]?)(hs:sid'=sid\/h.length<=sid'):AgV h' lo sid' av xs:=by
 cases A with
 |nn=>exact .nn
 |pp xs=>exact .pp xs
 |ss aid xs h1 h2 h3=>
  have hl:=(Zt.1 h1).1
  exact .ss aid xs (by rw[e aid h2 hl h3];exact h1) h2 (by omega)
theorem AgV.low{h:List AO}{lo lo' sid:Nat}{av:AV}{xs:List Int}(A:AgV h lo sid av xs)(hl:lo'<=lo):AgV h lo' sid av xs:=by
 cases A with
 |nn=>exact .nn
 |pp xs=>exact .pp xs
 |ss aid xs h1 h2 h3=>exact .ss aid xs h1 (ZQ hl h2) h3
theorem AgV.sl_inv{h:List AO}{lo sid nid n:Nat}{xs:List Int}(A:AgV h lo sid (.sl nid 1 0 n) xs):h[nid]?=some (fY xs)/\lo<=nid/\nid≠sid:=by
 generalize hz:AV.sl nid 1 0 n=z at A
 cases A with
 |nn=>cases hz
 |pp=>cases hz
 |ss aid _ h1 h2 h3=>
  simp only[AV.sl.injEq] at hz
  obtain⟨rfl,_⟩:=hz
  exact⟨h1,h2,h3⟩
structure CbS where (i sid:Nat) (sv:AV) (hh:List AO) (av:AV) (xs:List Int) (s:S5)
structure CbI (l:List Fd) (M k fuel sid:Nat) (u:AV) (v:List Sc5) (I:List Nat) (h:List AO) (box:AO) (e:Ex) (s1:S5) (rr:O5 (List Int)) (a:CbS):Prop where
 pl:PL M l fuel sid (h++[box]) a.s a.sv a.sid a.hh
 ci:CI a.hh u v I M a.sid
 args:AgV a.hh (h.length+1) a.sid a.av a.xs
 np:∀xs,a.av≠ .p (bz xs)
 xl:a.xs.length=a.i
 il:a.i<=e.kids.length
 v5:∀n∈a.xs,V5 n
 go:In5 v a.s/\∃r2,Ev l (.exs k v a.s (e.kids.drop a.i) s1 r2)/\rr=KX a.xs r2
variable (G:am)
theorem Hd{P:Program}{k:Nat}{c:AK}{ts:List AV}{h:List AO}{Q:Aw.AX->List AV->List AO->Prop}(n:Nat)(R:List AV->List AO->Prop)(Z:TypeId->PV->List AO->Prop)
 (h1:∀Q',(∀ts' h',R ts' h'->Q' (.exit n) ts' h')->(∀t v ts' h',Z t v h'->Q' (.pan t v) ts' h')->AKW P G k c ts h Q')(h2:∀ts' h',R ts' h'->Q (.exit n) ts' h')(h3:∀t v ts' h',Z t v h'->Q (.pan t v) ts' h'):AKW P G k c ts h Q:=h1 Q h2 h3
theorem SW{l:List Fd}{M k fuel:Nat}(hc:aD l=0)(hz:aH l<=1073741824)(hB:∀j,j<k->PcC G l M j fuel)(e:Ex)(hop:e.op=13)(W:WfE l k e)(ihk:∀a∈e.kids,PxC G l M k fuel a):PxC G l M k fuel e:=by
 intro v s s' r hE I0 u I sid sv h H C
 obtain⟨j,f,hj,hjk,hf,hpl⟩:=W.co e (by rw[Ex.pre_eq];simp) hop
 obtain⟨s1,rr,hX,hX2⟩:∃s1 rr,Ev l (.exs k v s e.kids s1 rr)/\((∃us,rr= .ok us/\Ev l (.cal j us s1 s' r))\/∃c,rr= .st c/\s'=s1/\r= .st c):=by
  cases hE with
  |call _ h1 h2 h3 h4=>
   rw[hj] at h2;cases h2
   exact⟨_,_,h1,.inl ⟨_,rfl,h4⟩⟩
  |callS _ h1=>exact⟨_,_,h1,.inr ⟨_,rfl,rfl,rfl⟩⟩
  |num h1 _=>omega
  |var h1 _=>omega
  |firstS h1 h2 _ _=>omega
  |and0 h1 _ _=>omega
  |and1 h1 _ _ _ _=>omega
  |andS h1 _ _ _ _=>omega
  |not h1 _ _=>omega
  |at_ h1 _ _ _ _=>omega
  |atS h1 _ _ _=>omega
  |bin _ h1 _ _ _ _=>omega
  |binS _ h1 _ _ _=>omega
  |binD _ h1 _ _ _ _=>omega
 have hec:=e.cs_eq
 have hsl:exL e.kids= .lst 4 (e.kids.map Ex.cs):=rfl
 have hll:l.length<=aH l:=pm l
 obtain⟨e0,rfl,_,hue⟩:=C.chn.is
 obtain⟨box,hbox⟩:∃box,box=AO.row 4 [[.p (.int .i64 13),.p (.int .i64 e.n),.p (.str e.name),.p (.lst 4 (e.kids.map Ex.cs))]]:=⟨_,rfl⟩
 refine AC.go lL ?_
 simp-implicitDefEqProofs[ay,hec,hsl,hop]
 rw[←hbox]
 have J0:CbI l M k fuel sid (.ptr e0 2 0 0) v I h box e s1 rr ⟨0,sid,sv,h++[box],.nils,[],s⟩:=by
  refine⟨⟨H.more _,Fr.refl _ _,.inl rfl⟩,C.more _,.nn,(λxs h=>by cases h),rfl,Nat.zero_le _,(λn h=>by cases h),I0,rr,hX,?_⟩
  cases rr<;>rfl
 have hmb:M<h.length:=H.lt
 have hsb:=H.said.lt
 refine Hd G 1 (λts' h'=>∃a,CbI l M k fuel sid (.ptr e0 2 0 0) v I h box e s1 rr a/\a.i=e.kids.length/\h'=a.hh/\∃z,ts'=ah 126 ((75,z)::[(74,.p (.int .i64 a.i)),(73,.p (.int .i64 e.kids.length)),(72,.p (.lst 4 (e.kids.map Ex.cs))),(9,a.av),(4,.ptr h.length 4 0 0),(0,.ptr M 20 0 0),(2,.ptr e0 2 0 0)]))
  (λt x h'=>∃c,t=bY/\x= .int .i64 c/\rr= .st c/\∃sv' sid',PL M l fuel sid h s1 sv' sid' h') (λQ' qE qP=>?_) ?_ ?_
 ·refine aI (λa:CbS=>ah 126 [(74,.p (.int .i64 a.i)),(73,.p (.int .i64 e.kids.length)),(72,.p (.lst 4 (e.kids.map Ex.cs))),(9,a.av),(4,.ptr h.length 4 0 0),(0,.ptr M 20 0 0),(2,.ptr e0 2 0 0)]) (λa=>a.hh) (CbI l M k fuel sid (.ptr e0 2 0 0) v I h box e s1 rr) (λa=>e.kids.length-a.i) ⟨0,sid,sv,h++[box],.nils,[],s⟩ J0 ?_ ?_
  ·refine bF (by simp) ?_
   simp[below]
   omega
  clear J0
  rintro⟨i,sidc,svc,hh,av,xs,sc⟩ J
  have jB:hh[h.length]?=some box:=by have:=PL.keep H J.pl (i:=0) (by simp);simpa using this
  have jl:=J.pl.fr.1
  simp only[ZM,ZO,aay] at jl
  have hxl:=J.xl
  have hil:=J.il
  simp only at hxl hil
  by_cases h1:i<e.kids.length
  ·have hg:=Zu h1
   have ha:=ZD h1
   obtain⟨a,hga⟩:∃a,a=e.kids[i]:=⟨_,rfl⟩
   rw[←hga] at hg ha
   have hka:=a.cs_eq
   have hdr:e.kids.drop i=a::e.kids.drop (i+1):=by
    rw[aas h1,hga]
   obtain⟨Ic,r2,hx,hr⟩:=J.go
   simp only[hdr] at hx hr Ic
   simp-implicitDefEqProofs[h1,hg,hka]
   rw[←hga]
   have P0:PL M l fuel sid (h++[box]) sc svc sidc (hh++[.row 4 [a.cs.map .p]]):=⟨J.pl.run.more _,J.pl.fr.trans (Fr.more [] _ _) (λi hi=>by cases hi),J.pl.fs⟩
   have C0:CI (hh++[.row 4 [a.cs.map .p]]) (.ptr e0 2 0 0) v I M sidc:=J.ci.more _
   have hexc:=λs2 r3 (he:Ev l (.ex k v sc a s2 r3))=>ihk a ha v sc s2 r3 he Ic _ I sidc svc (hh++[.row 4 [a.cs.map .p]]) P0.run C0
   have hwi:=w1 (i:=i) (by have:=W.sz;have:=aZ e.kids;have:=e.sz_eq;omega)
   have hav:=J.args
   have hnp:=J.np
   simp only at hav hnp
   have step:∀s2 n r4,Ev l (.ex k v sc a s2 (.ok n))->Ev l (.exs k v s2 (e.kids.drop (i+1)) s1 r4)->rr=KX (xs++[n]) r4->AC Tryz.prog G cr [.ptr M 20 0 0,.agg (a.cs.map .p),.ptr e0 2 0 0] (hh++[.row 4 [a.cs.map .p]]) λz h2=>z= .ret (.p (.int .i64 n))/\∃sv2 sid2,CI h2 (.ptr e0 2 0 0) v I M sid2/\PL M l fuel sid (h++[box]) s2 sv2 sid2 h2/\V5 n/\In5 v s2/\AgV h2 (h.length+1) sid2 av xs:=λs2 n r4 q1 q2 q3=>by
    refine(hexc _ _ q1).mono ?_
    rintro z h2 ⟨rfl,sv2,sid2,P⟩
    have Ie:=Ic.ex q1
    refine⟨rfl,sv2,sid2,C0.after P,P0.trans P,Ie.2 n rfl,Ie.1,AgV.step hav (λj j1 j2 j3=>?_) ?_⟩
    ·rw[P.fr.2 j (by simp;omega) (by simp only[ZI,aaa,or_false,not_or];exact⟨by omega,j3⟩),Zv j2]
    ·rcases P.fs with q|q
     ·exact .inl q
     ·simp at q;exact .inr (by omega)
   have next:∀s2 n r4,Ev l (.exs k v s2 (e.kids.drop (i+1)) s1 r4)->rr=KX (xs++[n]) r4->∀sv2 sid2 h2,CI h2 (.ptr e0 2 0 0) v I M sid2->PL M l fuel sid (h++[box]) s2 sv2 sid2 h2->V5 n->In5 v s2->∀h5 nid,h2.length<=nid->(∀j,j<h2.length->j<h.length+1\/j=sid2->h5[j]?=h2[j]?)->h5[nid]?=some (fY (xs++[n]))->
    CbI l M k fuel sid (.ptr e0 2 0 0) v I h box e s1 rr ⟨i+1,sid2,sv2,h5,.sl nid 1 0 (xs++[n]).length,xs++[n],s2⟩:=λs2 n r4 q2 q3 sv2 sid2 h2 C2 P hn I2 h5 nid g1 g2 g3=>by
    have hnl:=(Zt.1 g3).1
    have hM:=P.run.lt
    have hS:=P.run.said.lt
    have hl:=P.fr.1
    simp only[ZM,ZO,aay] at hl
    refine⟨⟨P.run.frame (by simp only;omega) (g2 _ hM (.inl (by omega))) (g2 _ hS (.inr rfl)),⟨by simp only[ZM,ZO,aay];omega,λj j1 j2=>?_⟩,P.fs⟩,⟨C2.chn.frame λj j1=>g2 j (C2.chn.lt j j1) (.inl (by have:=C.chn.lt j j1;omega)),C2.nd,C2.sn,C2.mn⟩,.ss _ _ g3 (by omega) (by simp only;omega),(λxs h=>by cases h),by simp[hxl],by simp only;omega,λm hm=>?_,I2,r4,q2,q3⟩
    ·simp only[ZM,ZO,aay] at j1
     rw[g2 j (by omega) (.inl (by omega))]
     exact P.fr.2 j (by simp;omega) j2
    ·rcases ZB.1 hm with hm|hm
     ·exact J.v5 m hm
     ·rw[ZC.1 hm];exact hn
   have fin:∀(h5:List AO) (sl:List (Nat × AV)) (nid sid2:Nat) (sv2:AV) (n:Int) (s2:S5),CbI l M k fuel sid (.ptr e0 2 0 0) v I h box e s1 rr ⟨i+1,sid2,sv2,h5,.sl nid 1 0 (xs++[n]).length,xs++[n],s2⟩->Aw.look sl 74= .p (.int .i64 (IntKind.i64.wrap ((i:Int)+1)))->Aw.look sl 73= .p (.int .i64 e.kids.length)->Aw.look sl 72= .p (.lst 4 (e.kids.map Ex.cs))->Aw.look sl 9= .sl nid 1 0 (xs++[n]).length->Aw.look sl 4= .ptr h.length 4 0 0->Aw.look sl 0= .ptr M 20 0 0->Aw.look sl 2= .ptr e0 2 0 0->
    ∃a:CbS,CbI l M k fuel sid (.ptr e0 2 0 0) v I h box e s1 rr a/\e.kids.length-a.i<e.kids.length-i/\Wk h.length (ah 126 sl) h5 (ah 126 [(74,.p (.int .i64 a.i)),(73,.p (.int .i64 e.kids.length)),(72,.p (.lst 4 (e.kids.map Ex.cs))),(9,a.av),(4,.ptr h.length 4 0 0),(0,.ptr M 20 0 0),(2,.ptr e0 2 0 0)]) a.hh:=λh5 sl nid sid2 sv2 n s2 J5 e74 e73 e72 e9 e4 e0' e2=>by
    have hl5:=J5.pl.fr.1
    simp only[ZM,ZO,aay] at hl5
    have hn5:nid<h5.length:=by
     exact(Zt.1 J5.args.sl_inv.1).1
    refine⟨_,J5,by simp only;omega,bF (by omega) ?_⟩
    simp[below,e74,e73,e72,e9,e4,e0',e2,hwi]
    omega
   have hx':(∃c,Ev l (.ex k v sc a s1 (.st c))/\rr= .st c)\/∃s2 n r4,Ev l (.ex k v sc a s2 (.ok n))/\Ev l (.exs k v s2 (e.kids.drop (i+1)) s1 r4)/\rr=KX (xs++[n]) r4:=by
    cases hx with
    |consS h1=>exact .inl ⟨_,h1,hr⟩
    |cons h1 h2=>exact .inr ⟨_,_,_,h1,h2,by rw[hr];simp[KX]⟩
    |consT h1 h2=>exact .inr ⟨_,_,_,h1,h2,by rw[hr];simp[KX]⟩
   rcases hx' with⟨c,h1,hr'⟩|⟨s2,n,r4,h1,h2,hr'⟩
   ·refine(hexc _ _ h1).mono ?_
    rintro z h3 ⟨rfl,sv2,sid2,P⟩
    simp-implicitDefEqProofs[eA]
    exact λts=>qP _ _ _ _ ⟨c,rfl,rfl,hr',sv2,sid2,(P0.trans P).from⟩
   ·have hkb:e.kids.length<=1073741824:=by have:=W.sz;have:=aZ e.kids;have:=e.sz_eq;omega
    cases hav with
    |pp=>exact(hnp _ rfl).elim
    |nn=>
     refine(step s2 n _ h1 h2 hr').mono ?_
     rintro z h3 ⟨rfl,sv2,sid2,C2,P,hn,I2,A2⟩
     simp-implicitDefEqProofs[aa]
     refine fin _ _ (h3.length+1) _ _ n _ (next _ n _ h2 hr' _ _ _ C2 P hn I2 _ _ (by omega) (λj j1 j2=>by rw[Zv j1]) ?_) (by simp) (by simp) (by simp) (by simp) (by simp) (by simp) (by simp)
     rw[ZG (by omega)];simp[fY]
    |ss aid _ hu h4 h5=>
     refine(step s2 n _ h1 h2 hr').mono ?_
     rintro z h3 ⟨rfl,sv2,sid2,C2,P,hn,I2,A2⟩
     obtain⟨hu3,h43,h53⟩:=A2.sl_inv
     have hul:=(Zt.1 hu3).1
     simp only[fY] at hu3
     have hua:∀os,(h3++os)[aid]?=some (.row 1 (xs.map λn=>[.p (.int .i64 n)])):=λos=>by rw[Zv hul];exact hu3
     simp-implicitDefEqProofs[aa, ↓hua]
     refine⟨⟨by omega,by omega⟩,?_⟩
     refine fin _ _ (h3.length+1) _ _ n _ (next _ n _ h2 hr' _ _ _ C2 P hn I2 _ _ (by omega) (λj j1 j2=>?_) ?_) (by simp) (by simp) (by simp) (by simp) (by simp) (by simp) (by simp)
     ·rw[Zv (by simp;omega),Zx (by omega),Zv j1]
     ·rw[ZG (by simp)];simp[fY]
      exact Zz (by simp)
  ·simp-implicitDefEqProofs[h1]
   refine qE _ _ ⟨⟨i,sidc,svc,hh,av,xs,sc⟩,J,by simp only;omega,rfl,_,rfl⟩
 ·rintro ts' h' ⟨a,J,hi,rfl,z,rfl⟩
  obtain⟨i,sidc,svc,hh,av,xs,sc⟩:=a
  have jB:hh[h.length]?=some box:=by have:=PL.keep H J.pl (i:=0) (by simp);simpa using this
  simp only at hi
  subst hi
  obtain⟨Ic,r2,hx,hr⟩:=J.go
  simp only[List.drop_length] at hx Ic hr
  cases hx with
  |nil=>
  have hrr:rr= .ok xs:=by rw[hr];simp[KX]
  rcases hX2 with⟨us,h3,hcal⟩|⟨c',h3,_,_⟩
  case inr=>rw[hrr] at h3;cases h3
  rw[hrr] at h3
  cases h3
  have jM:=J.pl.run.men
  simp only[lb] at jM
  rw[hbox] at jB
  simp-implicitDefEqProofs[jM,jB]
  refine(JJ G l e.name (by omega)).use ?_
  simp-implicitDefEqProofs[hj,ixI]
  refine(hB j hjk xs s1 s' r hcal J.v5 Ic.g Ic.m av sidc svc hh J.pl.run (J.args.low (Nat.zero_le _))).mono ?_
  rintro z h3 ⟨rfl,sv2,sid2,P⟩
  have PP:=(J.pl.trans P).from
  cases r with
  |ok n=>
   simp-implicitDefEqProofs[aa,eA]
   exact⟨rfl,sv2,sid2,PP⟩
  |st c=>
   simp-implicitDefEqProofs[eA]
   exact⟨rfl,sv2,sid2,PP⟩
 ·rintro t x ts' h' ⟨c,rfl,rfl,hr,sv',sid',P⟩
  rcases hX2 with⟨us,h3,hcal⟩|⟨c',h3,rfl,rfl⟩
  ·rw[hr] at h3;cases h3
  rw[hr] at h3
  cases h3
  simp-implicitDefEqProofs[]
  exact⟨rfl,sv',sid',P⟩
end
section
def Yy(r:O5 (Option Int))(x:ARes)(h':List AO):Prop:=
 match r with
 | .ok none=>x= .ret .nilp
 | .ok (some n)=>∃b,x= .ret (.ptr b 1 0 0)/\h'[b]?=some (.row 1 [[.p (.int .i64 n)]])
 | .st c=>x= .pan bY (.int .i64 c)
structure BkL (M:Nat) (l:List Fd) (fuel sid:Nat) (u:AV) (v':List Sc5) (I:List Nat) (h:List AO) (s':S5) (sv':AV) (sid':Nat) (h':List AO):Prop where
 run:MI M l fuel sv' sid' s' h'
 ci:CI h' u v' I M sid'
 fr:Fr (M::sid::I) h h'
 fs:sid'=sid\/h.length<=sid'
 env:∀i∈I,∀x,h[i]?=some (.row 2 x)->h'[i]?=some (.row 2 x)
def BkX(M:Nat)(l:List Fd)(fuel sid:Nat)(u:AV)(v':List Sc5)(I:List Nat)(h:List AO)(s':S5)(r:O5 (Option Int))(x:ARes)(h':List AO):Prop:=Yy r x h'/\∃sv' sid',BkL M l fuel sid u v' I h s' sv' sid' h'
def ll(h:List AO)(ps:List (List UInt8))(us:List Int)(i:Nat):List AO:=h++[.mp (mpV ((ps.zip us).take i)),.row 2 [[.mp h.length,.nilp]]]
theorem LG{h:List AO}{ps:List (List UInt8)}{us:List Int}{i j:Nat}(hj:j<h.length):(ll h ps us i)[j]?=h[j]?:=Zv hj
theorem JQ{h:List AO}{ps:List (List UInt8)}{us:List Int}{i:Nat}:(ll h ps us i)[h.length]?=some (.mp (mpV ((ps.zip us).take i))):=by simp[ll]
theorem KK{h:List AO}{ps:List (List UInt8)}{us:List Int}{i:Nat}:(ll h ps us i)[h.length+1]?=some (.row 2 [[.mp h.length,.nilp]]):=by simp[ll]
theorem NU{h:List AO}{ps:List (List UInt8)}{us:List Int}{i:Nat}{p:List UInt8}{n:Int}(hp:ps[i]?=some p)(hn:us[i]?=some n)(hap:ps.Pairwise (· ≠ ·)):
 ∃m,js (.str p) (.p (.int .i64 n)) (mpV ((ps.zip us).take i))=some m/\(ll h ps us i).set h.length (.mp m)=ll h ps us (i+1):=by
 have hz:(ps.zip us)[i]?=some (p,n):=by rw[List.getElem?_zip_eq_some];exact⟨hp,hn⟩
 have hl:=(Zt.1 hz).1
 refine⟨_,zo p n _,?_⟩
 have hno:p∉((ps.zip us).take i).map (·.1):=λhm=>by
  obtain⟨x,hx,rfl⟩:=ZN.1 hm
  obtain⟨j,hj,he⟩:=List.mem_take_iff_getElem.1 hx
  have hji:j<i:=by omega
  have:=List.pairwise_iff_getElem.1 hap j i (by simp at hl hj;omega) (Zt.1 hp).1 hji
  rw[(Zt.1 hp).2,←he,List.getElem_zip] at this
  exact this rfl
 rw[GK hno]
 unfold ll
 rw[al hl,(Zt.1 hz).2]
 simp
variable (G:am)
def PbC(l:List Fd)(M k fuel:Nat)(xs:List Sm):Prop:=∀v s v' s' r,Ev l (.blk k v s xs v' s' r)->In5 v s->∀u I sid sv h,MI M l fuel sv sid s h->CI h u v I M sid->
 AC Tryz.prog G bv [.ptr M 20 0 0,.p (smL xs),u] h (BkX M l fuel sid u v' I h s' r)
theorem Vq{l:List Fd}{M k fuel:Nat}(hc:aD l=0)(hz:aH l<=1073741824)(hB:∀f,l[k]?=some f->PbC G l M k fuel f.body):PcC G l M k fuel:=by
 intro us s s' r hE hus hg hm av sid sv h H A
 cases hE with
 | @cal _ f _ _ v' _ r' q1 q2 q3=>
 have hap:=FL hc q1
 have hflat:mK [f.params.zip us]=f.params.zip us:=by simp[mK]
 have hz1:(f.params.zip us).map (·.1)=f.params:=List.map_fst_zip (by omega)
 have hz2:(f.params.zip us).map (·.2)=us:=List.map_snd_zip (by omega)
 have hzl:(f.params.zip us).length=f.params.length:=by rw[List.length_zip];omega
 have hfz:=cS (Zy q1)
 have hfs:f.sz=1+f.name.length+(f.params.length+(f.params.map List.length).sum)+an f.body:=rfl
 have IW:In5 [f.params.zip us] s:=by
  refine⟨hg,λm hm y hy=>?_,NC hap q2,hm,?_⟩
  ·rw[ZC.1 hm] at hy
   exact hus _ (by rw[show y.2=y.2 from rfl];have:=List.mem_map_of_mem (f:=Prod.snd) hy;rw[hz2] at this;exact this)
  ·rw[hflat,hzl]
   unfold M5 at hm
   omega
 have hfl:fdL l= .lst 3 (l.map Fd.cs):=rfl
 have hfc:f.cs=[.str f.name,au f.params,smL f.body]:=rfl
 have hpL:au f.params= .lst 1 (f.params.map λw=>[.str w]):=rfl
 have hmb:=H.lt
 have hsb:=H.said.lt
 have aM:∀os,(h++os)[M]?=some (lb l fuel sv s):=λos=>(H.more os).men
 simp only[lb] at aM
 refine AC.go tz ?_
 simp-implicitDefEqProofs[lK, ↓aM,hfl,q1,hfc,hpL]
 rw[←hpL]
 have h0:h++[AO.mp [],AO.row 2 [[.mp h.length,.nilp]]]=ll h f.params us 0:=by simp[ll,mpV]
 rw[h0]
 have hpn:f.params.length<=1073741824:=by omega
 refine Hd G 0 (λts' h'=>h'=ll h f.params us f.params.length/\∃z,ts'=ah 57 ((25,z)::[(24,.p (.int .i64 f.params.length)),(23,.p (.int .i64 f.params.length)),(22,.p (au f.params)),(7,.ptr (h.length+1) 2 0 0),(0,.ptr M 20 0 0),(1,.p (.int .i64 k)),(2,av)]))
  (λt x h'=>False) (λQ' qE _=>?_) ?_ ?_
 ·refine aI (λi:Nat=>ah 57 [(24,.p (.int .i64 i)),(23,.p (.int .i64 f.params.length)),(22,.p (au f.params)),(7,.ptr (h.length+1) 2 0 0),(0,.ptr M 20 0 0),(1,.p (.int .i64 k)),(2,av)]) (λi=>ll h f.params us i) (λi=>i<=f.params.length) (λi=>f.params.length-i) 0 (Nat.zero_le _) ?_ ?_
  ·refine bF (by simp[ll]) ?_
   cases A with
   |nn=>simp[below,ll];omega
   |pp=>simp[below,ll];omega
   |ss aid _ q4 q5 q6=>have:=(Zt.1 q4).1;simp[below,ll];omega
  rintro i hi
  by_cases h1:i<f.params.length
  ·have hp:=Zu h1
   have hu:us[i]?=some us[i]:=Zu (by omega)
   generalize us[i]=n at hu
   obtain⟨m,e1,e2⟩:=NU (h:=h) hp hu hap
   have hwi:=w1 (i:=i) (by omega)
   cases A with
   |nn=>simp at hu
   |pp=>
    have hnL:bz us= .lst 1 (us.map λn=>[.int .i64 n]):=rfl
    simp-implicitDefEqProofs[h1,hpL,hp,hu,KK,JQ,e1,hnL]
    refine⟨i+1,by omega,by omega,?_⟩
    rw[e2]
    refine bF (by simp[ll]) ?_
    simp[below,ll,hwi,hpL]
    omega
   |ss aid _ q4 q5 q6=>
    have q7:∀i,(ll h f.params us i)[aid]?=some (fY us):=λi=>by rw[LG (Zt.1 q4).1];exact q4
    simp only[fY] at q7
    simp-implicitDefEqProofs[h1,hpL,hp,hu,KK,JQ,e1,q7]
    refine⟨by omega,i+1,by omega,by omega,?_⟩
    rw[e2]
    have:=(Zt.1 q4).1
    refine bF (by simp[ll]) ?_
    simp[below,ll,hwi,hpL]
    omega
  ·simp-implicitDefEqProofs[h1]
   have:i=f.params.length:=by omega
   subst this
   exact qE _ _ ⟨rfl,_,rfl⟩
 ·rintro ts' h' ⟨rfl,z,rfl⟩
  have hM:(ll h f.params us f.params.length)[M]?=some (lb l fuel sv s):=by rw[LG hmb];exact H.men
  simp only[lb] at hM
  have hall:(f.params.zip us).take f.params.length=f.params.zip us:=Zz (by omega)
  have C0:CI (ll h f.params us f.params.length) (.ptr (h.length+1) 2 0 0) [f.params.zip us] [h.length+1,h.length] M sid:=by
   refine⟨.last _ h.length _ KK (by rw[JQ,hall]),by simp,?_,?_⟩
   ·simp only[ZI,aaa,or_false,not_or];omega
   ·simp only[ZI,aaa,or_false,not_or];omega
  simp-implicitDefEqProofs[hM,hfl,q1,hfc]
  refine(hB f q1 _ _ _ _ _ q3 IW _ _ sid sv _ (H.more _) C0).mono ?_
  rintro z h2 ⟨hR,sv2,sid2,B⟩
  have PP:PL M l fuel sid h s' sv2 sid2 h2:=by
   have hfr:=B.fr
   unfold ll at hfr
   refine⟨B.run,hfr.from.sub λi hi=>?_,?_⟩
   ·simp only[ZI,aaa,or_false] at hi⊢
    omega
   ·have:=B.fs
    simp only[ll,ZM] at this
    omega
  match r',hR with
  | .ok none,hR=>
    cases hR
    simp-implicitDefEqProofs[aa]
    exact⟨rfl,sv2,sid2,PP⟩
  | .ok (some n),⟨b,hb1,hb2⟩=>
    cases hb1
    simp-implicitDefEqProofs[aa,hb2]
    exact⟨rfl,sv2,sid2,PP⟩
  | .st c,hR=>
    cases hR
    simp-implicitDefEqProofs[]
    exact⟨rfl,sv2,sid2,PP⟩
 ·rintro t x ts' h' ⟨⟩
end
section
structure Snc (R cid V sid nid uid:Nat) (hb:List AO) (sid' nid' uid':Nat) (hh:List AO):Prop where
 fr:Fr [R,sid,cid,V,nid,uid] hb hh
 fs:sid'=sid\/hb.length<=sid'
 fn:nid'=nid\/hb.length<=nid'
 fu:uid'=uid\/hb.length<=uid'
section
variable {R cid V sid nid uid:Nat} {hb hh h2:List AO} {sid1 nid1 uid1 sid2 nid2 uid2:Nat}
theorem Snc.init(hb:List AO):Snc R cid V sid nid uid hb sid nid uid hb:=⟨Fr.refl _ _,.inl rfl,.inl rfl,.inl rfl⟩
theorem tm{a b c n m:Nat}(h1:b=a\/n<=b)(h2:c=b\/m<=c)(hnm:n<=m):c=a\/n<=c:=by
 rcases h2 with rfl|h2
 ·exact h1
 ·exact .inr (by omega)
theorem Snc.st(S:Snc R cid V sid nid uid hb sid1 nid1 uid1 hh)(F:Fr [R,sid1,cid,V,nid1,uid1] hh h2)(a:sid2=sid1\/hh.length<=sid2)(b:nid2=nid1\/hh.length<=nid2)(c:uid2=uid1\/hh.length<=uid2):Snc R cid V sid nid uid hb sid2 nid2 uid2 h2:=by
 refine⟨S.fr.trans F λy hy=>?_,tm S.fs a S.fr.1,tm S.fn b S.fr.1,tm S.fu c S.fr.1⟩
 have h1:=S.fs
 have h2:=S.fn
 have h3:=S.fu
 simp only[ZI,aaa,or_false] at hy⊢
 omega
theorem Fr.wide{K:List Nat}{V nid uid:Nat}(F:Fr [R,sid,cid] hb hh):Fr [R,sid,cid,V,nid,uid] hb hh:=F.sub λi hi=> .inl (by
 simp only[ZI,aaa,or_false] at hi⊢;omega)
theorem Snc.ex(S:Snc R cid V sid nid uid hb sid1 nid1 uid1 hh)(F:Fr [R,sid1,cid] hh h2)(a:sid2=sid1\/hh.length<=sid2):Snc R cid V sid nid uid hb sid2 nid1 uid1 h2:=
 S.st (Fr.wide (K:=[]) F) a (.inl rfl) (.inl rfl)
theorem Snc.keep(S:Snc R cid V sid nid uid hb sid1 nid1 uid1 hh){i:Nat}(hi:i<hb.length)(hn:i≠R/\i≠sid/\i≠cid/\i≠V/\i≠nid/\i≠uid):hh[i]?=hb[i]?:=
 S.fr.2 i hi (by simp only[ZI,aaa,or_false];omega)
theorem Snc.base{h os:List AO}(S:Snc R cid V sid nid uid (h++os) sid1 nid1 uid1 hh):Snc R cid V sid nid uid h sid1 nid1 uid1 hh:=
 ⟨S.fr.from,tm (.inl rfl) S.fs (by simp),tm (.inl rfl) S.fn (by simp),tm (.inl rfl) S.fu (by simp)⟩
end
structure WfS (l:List Fd) (k:Nat) (x:Sm):Prop where
 form:∃d,aq d x=true
 args:∀a∈x.args,WfE l k a
 body:(∀y∈x.body,∃d,aq d y=true)/\an x.body<=1073741824/\∃d,CoS l k d x.body
 els:(∀y∈x.els,∃d,aq d y=true)/\an x.els<=1073741824/\∃d,CoS l k d x.els
 argn:x.args.length=gF x.op
 op:1<=x.op/\x.op<=8
structure InS (v:List Sc5) (s:S5):Prop where
 g:G5 s
 ge:GE5 v
 un:Un5 v
 m:M5 s+1<=4000
 f:(mK v).length+s.left+1<=1073750000
theorem InS.in5{v:List Sc5}{s:S5}(I:InS v s):In5 v s:=⟨I.g,I.ge,I.un,by have:=I.m;omega,by have:=I.f;omega⟩
variable (G:am)
def LpA(l:List Fd)(k:Nat)(x:Sm)(v:List Sc5)(s1:S5)(n:Int)(v':List Sc5)(s':S5)(q:O5 (Option Int)):Prop:=
 (n=0/\v'=v/\s'=s1/\q= .ok none)\/(n≠0/\∃m v1 s2 q1,Ev l (.blk k ([]::v) s1 x.body (m::v1) s2 q1)/\((q1≠ .ok none/\v'=v1/\s'=s2/\q=q1)\/(q1= .ok none/\((s2.left=0/\v'=v1/\s'=s2/\q= .st 3)\/∃F,s2.left=F+1/\Ev l (.lp k v1 (s2.at_ F) x v' s' q)))))
theorem Qw{l:List Fd}{k:Nat}{x:Sm}{v v':List Sc5}{s s':S5}{q:O5 (Option Int)}(h:Ev l (.lp k v s x v' s' q)):∃a s1 r1,x.args=[a]/\Ev l (.ex k v s a s1 r1)/\((∃c,r1= .st c/\v'=v/\s'=s1/\q= .st c)\/∃n,r1= .ok n/\LpA l k x v s1 n v' s' q):=by
 cases h with
 |lpS ha h1=>exact⟨_,_,_,ha,h1,.inl ⟨_,rfl,rfl,rfl,rfl⟩⟩
 |lp0 ha h1=>exact⟨_,_,_,ha,h1,.inr ⟨_,rfl,.inl ⟨rfl,rfl,rfl,rfl⟩⟩⟩
 |lpEnd ha h1 hn h2 hq=>exact⟨_,_,_,ha,h1,.inr ⟨_,rfl,.inr ⟨hn,_,_,_,_,h2,.inl ⟨hq,rfl,rfl,rfl⟩⟩⟩⟩
 |lpFuel ha h1 hn h2 hl=>exact⟨_,_,_,ha,h1,.inr ⟨_,rfl,.inr ⟨hn,_,_,_,_,h2,.inr ⟨rfl,.inl ⟨hl,rfl,rfl,rfl⟩⟩⟩⟩⟩
 |lpGo ha h1 hn h2 hl h3=>exact⟨_,_,_,ha,h1,.inr ⟨_,rfl,.inr ⟨hn,_,_,_,_,h2,.inr ⟨rfl,.inr ⟨_,hl,h3⟩⟩⟩⟩⟩
theorem StL.mk{l:List Fd}{R cid V sid nid uid:Nat}{h hh:List AO}{w:Sc5}{x0:Int}{s':S5}{r:O5 (Option Int)}{sid' nid' uid':Nat}{uv':AV}(H:RI R cid l sid' s' (GX r) (Xx r) hh)(E:EI V nid' uid' uv' w (bkB r) (bkV x0 r) hh)(A:Ap R V sid' cid nid' uid')(S:Snc R cid V sid nid uid h sid' nid' uid' hh):StL R cid l V sid nid uid h w x0 s' r (.ret (.tup [])) hh:=
 ⟨sid',nid',uid',uv',rfl,H,E,A,S.fr,S.fs,S.fn,S.fu⟩
end
section
theorem In5.opn{v:List Sc5}{s:S5}(I:In5 v s):In5 ([]::v) s:=⟨I.g,I.ge.opn,I.un.opn,I.m,by rw[vL];exact I.f⟩
theorem In5.blk{l:List Fd}{k:Nat}{v v':List Sc5}{s s':S5}{xs:List Sm}{q:O5 (Option Int)}(I:In5 v s)(h:Ev l (.blk k v s xs v' s' q)):In5 v' s':=by
 have a:=aV h ⟨I.g,I.ge⟩
 have b:=vt h
 have c:=TQ h I.un
 exact⟨a.1,a.2.2.1,c,ZQ b.1 I.m,ZQ b.2.2 I.f⟩
theorem In5.tl{m:Sc5}{v:List Sc5}{s:S5}(I:In5 (m::v) s):In5 v s:=⟨I.g,I.ge.tail,I.un.tail,I.m,by have:=vP m v;have:=I.f;omega⟩
theorem In5.tick{v:List Sc5}{s:S5}{F:Nat}(I:In5 v s)(h:s.left=F+1):InS v (s.at_ F):=by
 obtain⟨a,b⟩:=LP h
 exact⟨I.g.at_ F,I.ge,I.un,by have:=I.m;omega,by have:=I.f;omega⟩
theorem In5.stm{l:List Fd}{k:Nat}{v v':List Sc5}{s s':S5}{x:Sm}{q:O5 (Option Int)}(I:InS v s)(h:Ev l (.stm k v s x v' s' q)):In5 v' s':=by
 have a:=aV h ⟨I.g,I.ge⟩
 have b:=vt h
 have c:=TQ h I.un
 simp only[Sp] at b
 exact⟨a.1,a.2.2.1,c,by have:=I.m;omega,by have:=I.f;omega⟩
variable (G:am)
end
end Go.Proofs.YtokiapglmedipaaGreatDoor
