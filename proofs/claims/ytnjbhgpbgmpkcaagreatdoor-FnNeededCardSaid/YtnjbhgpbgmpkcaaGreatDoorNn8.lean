/-
  Contracts and lemmas that the card needs, part 8.
-/
import Derived.Test.YtnjbhgpbgmpkcaaGreatDoorNn7
namespace Go.Proofs.YtnjbhgpbgmpkcaaGreatDoor
open Go Go.Aw
set_option maxRecDepth 100000
set_option maxHeartbeats 4000000
variable (G:ay)
def PshF(s:Bool)(sz:Nat)(D:List (List PV))(h0:List AO)(a:PshS):Prop:=a.i≤D.length∧h0.length≤a.id∧h0.length≤a.h.length∧(∀j,j<h0.length→a.h[j]?=h0[j]?)∧∃rows J,RowOwn s a.h a.id sz rows (D.take a.i) J∧∀j∈J,h0.length≤j
theorem rM{h h2:List AO}(hl:h.length≤h2.length)(hf:∀j,j<h.length→h2[j]?=h[j]?):h2=h++h2.drop h.length:=by
 have e:h2.take h.length=h:=by
  apply List.ext_getElem?
  intro j
  by_cases hj:j<h.length
  ·rw[List.getElem?_take_of_lt hj];exact hf j hj
  ·rw[List.getElem?_eq_none (by rw[List.length_take];omega),List.getElem?_eq_none (by omega)]
 have e2:=List.take_append_drop h.length h2
 rw[e] at e2
 exact e2.symm
theorem PshF.init{s:Bool}{sz:Nat}{D:List (List PV)}(h0 os:List AO):PshF s sz D h0 ⟨0,h0.length,h0++ .row sz []::os⟩:=
 ⟨Nat.zero_le _,Nat.le_refl _,by simp,fun j hj=>List.getElem?_append_left hj,[],[],⟨by simp,rfl,fun _ h=>(by cases h),fun _ h=>(by cases h),.nil,by simp⟩,fun j hj=>by cases hj⟩
theorem PshF.step{s:Bool}{sz i id:Nat}{D:List (List PV)}{h0 h:List AO}(H:PshF s sz D h0 ⟨i,id,h⟩){e:List PV}(hi:D[i]?=some e){h2:List AO}(hl:h.length≤h2.length)(hf:∀j,j<h.length→h2[j]?=h[j]?){r':List AV}{I2:List Nat}(ho:OwnL s h2 r' e I2)(nd2:I2.Nodup)(hn:∀j∈I2,h.length≤j)(he:e.length=sz):
 ∃rows,(∀os,(h2++os)[id]?=some (.row sz rows))∧rows.length=i∧i<D.length∧id<h2.length∧∀os1 os2,PshF s sz D h0 ⟨i+1,(h2++os1).length,(h2++os1).set id .dead++ .row sz (rows++[r'])::os2⟩:=by
 obtain⟨h1,h3,h4,h5,rows,J,hr,hJ⟩:=H
 have hil:i<D.length:=(List.getElem?_eq_some_iff.1 hi).1
 have hlen:=hr.len
 simp only at h1 h3 h4 h5 hlen hr
 rw[List.length_take,Nat.min_eq_left h1] at hlen
 have e2:=rM hl hf
 have hid:=hr.lt
 have h2e:h2[id]?=some (.row sz rows):=by rw[hf id hid];exact hr.here
 refine⟨rows,fun os=>by rw[List.getElem?_append_left (by omega)];exact h2e,hlen,hil,by omega,fun os1 os2=>⟨hil,by simp only[List.length_append];omega,by simp;omega,fun j hj=>?_,rows++[r'],J++I2,?_,fun j hj=>?_⟩⟩
 ·simp only
  rw[List.getElem?_append_left (by simp only[List.length_set,List.length_append,List.length_cons];omega),List.getElem?_set_ne (by omega),List.getElem?_append_left (by omega),hf j (by omega)]
  exact h5 j hj
 ·have hp:=(hr.push (h2:=h2++os1) (os:=h2.drop h.length++os1) (by rw[←List.append_assoc,←e2]) (ho.more os1) nd2 hn he).more os2
  have hd:D.take i++[e]=D.take (i+1):=by rw[List.take_add_one,hi];rfl
  rw[hd,List.append_assoc] at hp
  exact hp
 ·rcases List.mem_append.1 hj with hj|hj
  ·exact hJ j hj
  ·have:=hn j hj;omega
theorem PshF.done{s:Bool}{sz i id:Nat}{D:List (List PV)}{h0 h:List AO}(H:PshF s sz D h0 ⟨i,id,h⟩)(hi:D.length≤i):h0.length≤h.length∧(∀j,j<h0.length→h[j]?=h0[j]?)∧∃I,OwnL s h [.sl id sz 0 i] [.lst sz D] I∧I.Nodup∧∀j∈I,h0.length≤j:=by
 obtain⟨h1,h3,h4,h5,rows,J,hr,hJ⟩:=H
 simp only at h1 h3 h4 h5 hr
 rw[List.take_of_length_le hi] at hr
 exact⟨h4,h5,id::J,hr.tree (by omega),hr.nd,fun j hj=>by
  rcases List.mem_cons.1 hj with rfl|hj
  ·exact h3
  ·exact hJ j hj⟩
theorem xd{s:Bool}{n:Nat}{h1 os:List AO}{a b:List AV}{c d:List PV}{I1 I2:List Nat}(H1:OwnL s h1 a c I1)(n1:I1.Nodup)(f1:∀i∈I1,n≤i)(H2:OwnL s (h1++os) b d I2)(n2:I2.Nodup)(f2:∀i∈I2,h1.length≤i)(hn:n≤h1.length):
 OwnL s (h1++os) (a++b) (c++d) (I1++I2)∧(I1++I2).Nodup∧∀i∈I1++I2,n≤i:=by
 refine⟨(H1.more os).app H2,?_,fun i hi=>?_⟩
 ·rw[List.nodup_append]
  refine⟨n1,n2,fun a ha b hb e=>?_⟩
  have:=H1.lt ha;have:=f2 b hb;omega
 ·rcases List.mem_append.1 hi with hi|hi
  ·exact f1 i hi
  ·have:=f2 i hi;omega
theorem rR{α:Type}(l:List α)(a b:α):(l++[a]).set l.length b=l++[b]:=by
 rw[List.set_append_right _ _ (Nat.le_refl _),Nat.sub_self];rfl
theorem Ff{h:List AO}{s:Sm}{A B E:AV}{I:List Nat}(H:OwnL true h ([A]++[B]++[E]) ([exL s.args]++[smL s.body]++[smL s.els]) I):OwnL true h [.p (.int .i64 s.op),.p (.str s.name),A,B,E] s.cs I:=by
 rw[s.cs_eq]
 exact .p _ (fun _=>rfl) (.p _ (fun _=>rfl) H)
theorem iq{s:Bool}{h:List AO}{v:AV}{q:PV}{I:List Nat}(H:OwnL s h [v] [q] I):(∃q',v= .p q')∨v= .nils∨∃a b n,v= .sl a b 0 n:=by
 cases H with
 |p q=>exact .inl ⟨_,rfl⟩
 |nils=>exact .inr (.inl rfl)
 |sl id sz n=>exact .inr (.inr ⟨_,_,_,rfl⟩)
theorem EC{s:Bool}{h:List AO}{e:Ex}{K:AV}{I:List Nat}(H:OwnL s h [K] [exL e.kids] I):OwnL s h [.p (.int .i64 e.op),.p (.int .i64 e.n),.p (.str e.name),K] e.cs I:=by
 rw[e.cs_eq]
 exact .p _ (fun _=>rfl) (.p _ (fun _=>rfl) (.p _ (fun _=>rfl) H))
theorem BY:∀(N:Nat) (e:Ex),e.sz≤N→e.sz≤1073741824→AC Tryz.prog G gH [.agg (e.cs.map .p)] [] (MkW .agg true e.cs):=by
 intro N
 induction N with
 |zero=>intro e he;have:=e.sz_eq;omega
 |succ N ih=>
  intro e he hb
  have hsz:=e.sz_eq
  have hkl:=bL e.kids
  refine AC.go tV ?_
  have hec:=e.cs_eq
  have hsl:exL e.kids= .lst 4 (e.kids.map Ex.cs):=rfl
  simp-implicitDefEqProofs[mZ,hec,hsl]
  obtain⟨hb0,ehb⟩:∃hb0:List AO,hb0=[.row 4 [[.p (.int .i64 e.op),.p (.int .i64 e.n),.p (.str e.name),.p (.lst 4 (e.kids.map Ex.cs))]],.row 4 [[.p (.int .i64 0),.p (.int .i64 0),.p (.str []),.nils]]]:=⟨_,rfl⟩
  have hini:PshF true 4 (e.kids.map Ex.cs) hb0 ⟨0,2,[.row 4 [[.p (.int .i64 e.op),.p (.int .i64 e.n),.p (.str e.name),.p (.lst 4 (e.kids.map Ex.cs))]],.row 4 [[.p (.int .i64 0),.p (.int .i64 0),.p (.str []),.nils]],.row 4 []]⟩:=by
   rw[ehb];exact PshF.init _ []
  refine aJ (fun a:PshS=>aj 25 [(4,.p (.int .i64 a.i)),(3,.sl a.id 4 0 a.i),(2,.ptr 1 4 0 0),(1,.ptr 0 4 0 0)]) (fun a=>a.h) (PshF true 4 (e.kids.map Ex.cs) hb0) (fun a=>e.kids.length-a.i) _ hini ?_ ?_
  ·exact cr (by simp) (by simp[below])
  rintro⟨i,id,h'⟩ hJ
  have hl0:hb0.length=2:=by rw[ehb];rfl
  have g0:h'[0]?=some (.row 4 [[.p (.int .i64 e.op),.p (.int .i64 e.n),.p (.str e.name),.p (.lst 4 (e.kids.map Ex.cs))]]):=by rw[hJ.2.2.2.1 0 (by omega),ehb];rfl
  have g1:h'[1]?=some (.row 4 [[.p (.int .i64 0),.p (.int .i64 0),.p (.str []),.nils]]):=by rw[hJ.2.2.2.1 1 (by omega),ehb];rfl
  have hl2:2≤h'.length:=by have:=hJ.2.2.1;simp only at this;omega
  simp-implicitDefEqProofs[g0]
  refine aS (fun h1=>?_) (fun h1=>?_)
  ·simp at h1
   have hg:=List.getElem?_eq_getElem h1
   have hm:=bQ (List.getElem_mem h1)
   have hH:=ih e.kids[i] (by omega) (by omega)
   have hcs:=e.kids[i].cs_eq
   have hDa:(e.kids.map Ex.cs)[i]?=some e.kids[i].cs:=by rw[List.getElem?_map,hg];rfl
   generalize e.kids[i]=k at hg hH hcs hDa
   have hA:=AC.mkLift uS hH (h:=h') (by rw[hcs];simp)
   rw[hcs] at hA
   simp-implicitDefEqProofs[g0,hg,hcs]
   refine hA.mono ?_
   rintro r h2 ⟨vs,I2,os,rfl,e2,ho,nd,hf⟩
   rw[←hcs] at ho
   obtain⟨rows,k1,k2,k3,k4,k5⟩:=hJ.step hDa (h2:=h2) (by rw[e2];simp) (fun x hx=>by rw[e2,List.getElem?_append_left hx]) ho nd hf k.cs_len
   obtain⟨K,rfl,hK⟩:=yX ho
   have hwi:=w1 (i:=i) (by omega)
   rcases iq hK with⟨q1,rfl⟩|rfl|⟨x1,x2,x3,rfl⟩
   ·have k6:=k5 [.row 4 [[.p (.int .i64 k.op),.p (.int .i64 k.n),.p (.str k.name),.p q1]]] []
    simp-implicitDefEqProofs[aa,k1,k2]
    rw[List.take_of_length_le (l:=rows) (i:=i) (by omega)]
    refine⟨⟨by omega,by omega⟩,_,k6,by simp only;omega,cr (by simp) ?_⟩
    simp[below,hwi]
   ·have k6:=k5 [.row 4 [[.p (.int .i64 k.op),.p (.int .i64 k.n),.p (.str k.name),.nils]]] []
    simp-implicitDefEqProofs[aa,k1,k2]
    rw[List.take_of_length_le (l:=rows) (i:=i) (by omega)]
    refine⟨⟨by omega,by omega⟩,_,k6,by simp only;omega,cr (by simp) ?_⟩
    simp[below,hwi]
   ·have k6:=k5 [.row 4 [[.p (.int .i64 k.op),.p (.int .i64 k.n),.p (.str k.name),.sl x1 x2 0 x3]]] []
    simp-implicitDefEqProofs[aa,k1,k2]
    rw[List.take_of_length_le (l:=rows) (i:=i) (by omega)]
    refine⟨⟨by omega,by omega⟩,_,k6,by simp only;omega,cr (by simp) ?_⟩
    simp[below,hwi]
  ·simp at h1
   have hie:i=e.kids.length:=by have:=hJ.1;simp at this;omega
   obtain⟨d1,d2,I,ho,nd,hI⟩:=hJ.done (by simpa using h1)
   subst hie
   have hn0:0∉I:=fun hm=>by have:=hI 0 hm;omega
   have hn1:1∉I:=fun hm=>by have:=hI 1 hm;omega
   have s0:∀x,(h'.set 0 x)[0]?=some x:=fun x=>List.getElem?_set_self (by omega)
   have s1:∀x,(h'.set 0 x)[1]?=some (.row 4 [[.p (.int .i64 0),.p (.int .i64 0),.p (.str []),.nils]]):=fun x=>by rw[List.getElem?_set_ne (by omega)];exact g1
   have s2:∀x y,((h'.set 0 x).set 1 y)[1]?=some y:=fun x y=>List.getElem?_set_self (by rw[List.length_set];omega)
   simp-implicitDefEqProofs[g0,g1,s0,s1,s2]
   rw[←hsl,←hec]
   exact⟨_,I,rfl,EC ((ho.set_out hn0 _).set_out hn1 _),nd⟩
theorem ul:∀(N:Nat) (l:List Sm),aq l<N→aq l≤1073741824→AC Tryz.prog G de [.p (smL l)] [] (MkW cK true [smL l]):=by
 intro N
 induction N with
 |zero=>intro l he;omega
 |succ N ih=>
  intro l hN hz
  have hsl:∀l,smL l= .lst 5 (l.map Sm.cs):=fun _=>rfl
  have hll:=cg l
  refine AC.go sq ?_
  simp-implicitDefEqProofs[ll,hsl]
  refine aJ (fun a:PshS=>aj 52 [(4,.p (.int .i64 a.i)),(3,.sl a.id 5 0 a.i),(0,.p (smL l))]) (fun a=>a.h) (PshF true 5 (l.map Sm.cs) []) (fun a=>l.length-a.i) ⟨0,0,[.row 5 []]⟩ (PshF.init [] []) ?_ ?_
  ·exact cr (by simp) (by simp[below,hsl])
  rintro⟨i,id,hh⟩ hI
  simp-implicitDefEqProofs[hsl]
  refine aS (fun h1=>?_) (fun h1=>?_)
  ·simp at h1
   have hg:=List.getElem?_eq_getElem h1
   have hm:=eQ (List.getElem_mem h1)
   have hcs:=l[i].cs_eq
   have hse:=l[i].sz_eq
   have hD:(l.map Sm.cs)[i]?=some l[i].cs:=by rw[List.getElem?_map,hg];rfl
   generalize l[i]=s at hg hm hcs hse hD
   simp-implicitDefEqProofs[hg,hcs,rR]
   have hid:id<hh.length:=by obtain⟨_,_,_,_,_,_,hr,_⟩:=hI;exact hr.lt
   have hal:=bL s.args
   have hxl:exL s.args= .lst 4 (s.args.map Ex.cs):=rfl
   obtain⟨hb,ehb⟩:∃hb,hb=hh++[AO.row 5 [[.p (.int .i64 s.op),.p (.str s.name),.p (exL s.args),.p (smL s.body),.p (smL s.els)]]]:=⟨_,rfl⟩
   have hbl:hb.length=hh.length+1:=by rw[ehb];simp
   have hbx:hb[hh.length]?=some (.row 5 [[.p (.int .i64 s.op),.p (.str s.name),.p (exL s.args),.p (smL s.body),.p (smL s.els)]]):=by rw[ehb];simp
   have hini:PshF true 4 (s.args.map Ex.cs) hb ⟨0,hh.length+1,hh++[AO.row 5 [[.p (.int .i64 s.op),.p (.str s.name),.p (exL s.args),.p (smL s.body),.p (smL s.els)]],.row 4 []]⟩:=by
    have:=PshF.init (s:=true) (sz:=4) (D:=s.args.map Ex.cs) hb []
    rw[hbl,ehb,List.append_assoc] at this
    rw[ehb];exact this
   refine aJ (fun a:PshS=>aj 52 [(7,.p (.int .i64 a.i)),(6,.sl a.id 4 0 a.i),(5,.ptr hh.length 5 0 0),(4,.p (.int .i64 i)),(3,.sl id 5 0 i),(0,.p (smL l))]) (fun a=>a.h) (PshF true 4 (s.args.map Ex.cs) hb) (fun a=>s.args.length-a.i) _ hini ?_ ?_
   ·refine cr (by simp) ?_
    simp[below,hsl]
    omega
   rintro⟨j,id2,h'⟩ hJ
   have hjb:h'[hh.length]?=some (.row 5 [[.p (.int .i64 s.op),.p (.str s.name),.p (exL s.args),.p (smL s.body),.p (smL s.els)]]):=by
    rw[hJ.2.2.2.1 _ (by omega)];exact hbx
   have hlb:hh.length+1≤h'.length:=by have:=hJ.2.2.1;simp only at this;omega
   simp-implicitDefEqProofs[hjb,hxl]
   refine aS (fun h2=>?_) (fun h2=>?_)
   ·simp at h2
    have hga:=List.getElem?_eq_getElem h2
    have hma:=bQ (List.getElem_mem h2)
    have hC:=BY G _ s.args[j] (Nat.le_refl _) (by omega)
    have hka:=s.args[j].cs_eq
    have hDa:(s.args.map Ex.cs)[j]?=some s.args[j].cs:=by rw[List.getElem?_map,hga];rfl
    generalize s.args[j]=e at hga hma hC hka hDa
    have hA:=AC.mkLift uS hC (h:=h') (by rw[hka];simp)
    rw[hka] at hA
    simp-implicitDefEqProofs[hjb,hga,hka,hxl]
    refine hA.mono ?_
    rintro r h2 ⟨vs,I2,os,rfl,e2,ho,nd,hf⟩
    rw[←hka] at ho
    obtain⟨rows,k1,k2,k3,k4,k5⟩:=hJ.step hDa (h2:=h2) (by rw[e2];simp) (fun x hx=>by rw[e2,List.getElem?_append_left hx]) ho nd hf e.cs_len
    obtain⟨K,rfl,hK⟩:=yX ho
    have hwj:=w1 (i:=j) (by omega)
    have hl2:h'.length≤h2.length:=by rw[e2];simp
    rcases iq hK with⟨q1,rfl⟩|rfl|⟨x1,x2,x3,rfl⟩
    ·have k6:=k5 [.row 4 [[.p (.int .i64 e.op),.p (.int .i64 e.n),.p (.str e.name),.p q1]]] []
     simp-implicitDefEqProofs[aa,k1,k2]
     rw[List.take_of_length_le (l:=rows) (i:=j) (by omega)]
     refine⟨⟨by omega,by omega⟩,_,k6,by simp only;omega,cr (by simp) ?_⟩
     simp[below,hsl,hwj]
     omega
    ·have k6:=k5 [.row 4 [[.p (.int .i64 e.op),.p (.int .i64 e.n),.p (.str e.name),.nils]]] []
     simp-implicitDefEqProofs[aa,k1,k2]
     rw[List.take_of_length_le (l:=rows) (i:=j) (by omega)]
     refine⟨⟨by omega,by omega⟩,_,k6,by simp only;omega,cr (by simp) ?_⟩
     simp[below,hsl,hwj]
     omega
    ·have k6:=k5 [.row 4 [[.p (.int .i64 e.op),.p (.int .i64 e.n),.p (.str e.name),.sl x1 x2 0 x3]]] []
     simp-implicitDefEqProofs[aa,k1,k2]
     rw[List.take_of_length_le (l:=rows) (i:=j) (by omega)]
     refine⟨⟨by omega,by omega⟩,_,k6,by simp only;omega,cr (by simp) ?_⟩
     simp[below,hsl,hwj]
     omega
   ·simp at h2
    have hjl:j=s.args.length:=by have:=hJ.1;simp at this;omega
    obtain⟨d1,d2,IA,oA,nA,fA⟩:=hJ.done (by simpa using h2)
    subst hjl
    have hB:=ih s.body (by omega) (by omega)
    have hE:=ih s.els (by omega) (by omega)
    simp-implicitDefEqProofs[hjb]
    refine(AC.mkLift ig hB (h:=h') (by simp)).mono ?_
    rintro r h3 ⟨vB,IB,o1,rfl,e3,oB,nB,fB⟩
    obtain⟨B,rfl⟩:=dX oB
    have hjb3:h3[hh.length]?=some (.row 5 [[.p (.int .i64 s.op),.p (.str s.name),.p (exL s.args),.p (smL s.body),.p (smL s.els)]]):=by
     rw[e3,List.getElem?_append_left (by omega)];exact hjb
    simp-implicitDefEqProofs[aa,cK,hjb3]
    refine(AC.mkLift ig hE (h:=h3) (by simp)).mono ?_
    rintro r h4 ⟨vE,IE,o2,rfl,e4,oE,nE,fE⟩
    obtain⟨E,rfl⟩:=dX oE
    have hjb4:h4[hh.length]?=some (.row 5 [[.p (.int .i64 s.op),.p (.str s.name),.p (exL s.args),.p (smL s.body),.p (smL s.els)]]):=by
     have:hh.length<h3.length:=(List.getElem?_eq_some_iff.1 hjb3).1
     rw[e4,List.getElem?_append_left this];exact hjb3
    have cB:=iq oB
    have cE:=iq oE
    obtain⟨a1,a2,a3⟩:=xd oA nA fA (by rw[←e3];exact oB) nB fB d1
    rw[←e3] at a1
    obtain⟨b1,b2,b3⟩:=xd a1 a2 a3 (by rw[←e4];exact oE) nE fE (by rw[e3];simp;omega)
    rw[←e4] at b1
    have hS:=Ff (s:=s) b1
    obtain⟨rows,k1,k2,k3,k4,k5⟩:=hI.step hD (h2:=h4) (by rw[e4,e3];simp;omega) (fun x hx=>by
     rw[e4,List.getElem?_append_left (by rw[e3];simp;omega),e3,List.getElem?_append_left (by omega),d2 x (by omega),ehb,List.getElem?_append_left hx]) hS b2 (fun x hx=>by have:=b3 x hx;omega) s.cs_len
    have k6:=k5 [.row 5 [[.p (.int .i64 s.op),.p (.str s.name),.sl id2 4 0 s.args.length,B,E]]] []
    have hwi:=w1 (i:=i) (by omega)
    rcases cB with⟨q1,rfl⟩|rfl|⟨x1,x2,x3,rfl⟩<;>rcases cE with⟨q2,rfl⟩|rfl|⟨y1,y2,y3,rfl⟩<;>
    ·simp-implicitDefEqProofs[aa,cK,hjb4,k1,k2]
     rw[List.take_of_length_le (l:=rows) (i:=i) (by omega)]
     refine⟨⟨by omega,by omega⟩,_,k6,by simp only;omega,cr (by simp) ?_⟩
     simp[below,hsl,hwi]
  ·simp at h1
   obtain⟨_,_,I,ho,nd,_⟩:=hI.done (by simpa using h1)
   have hie:i=l.length:=by have:=hI.1;simp at this;omega
   subst hie
   simp-implicitDefEqProofs[]
   exact⟨_,I,rfl,ho,nd⟩
def cpK(a:PshS):AV:=if a.i=0 then .nils else .sl a.id 3 0 a.i
def CpI(l:List Fd)(a:PshS):Prop:=a.i≤l.length∧a.h[0]?=some (.row 1 [[.p (fdL l)]])∧a.h[1]?=some (.row 1 [[.nils]])∧a.h[2]?=some (.row 1 [[cpK a]])∧
 (0<a.i→3≤a.id∧∃rows J,RowOwn true a.h a.id 3 rows ((l.map Fd.cs).take a.i) J∧∀j∈J,3≤j)
theorem uz:∀l:List Fd,l.length≤aY l
 |[]=>Nat.le_refl _
 |f::r=>by
  have:=uz r
  have h1:aY (f::r)=f.sz+aY r:=by simp[aY]
  have h2:f.sz=1+f.name.length+(f.params.length+(f.params.map List.length).sum)+aq f.body:=rfl
  simp only[List.length_cons];omega
theorem xr{h:List AO}{id:Nat}{l:List (List UInt8)}(e:h[id]?=some (bH l)){n:Nat}(hn:n=l.length):OwnL true h [.sl id 1 0 n] [aC l] [id]:=by
 have hr:RowOwn true h id 1 (l.map fun w=>[AV.p (.str w)]) (l.map fun w=>[PV.str w]) []:=by
  refine⟨e,by simp,fun x hx=>by obtain⟨w,_,rfl⟩:=List.mem_map.1 hx;rfl,fun x hx=>by obtain⟨w,_,rfl⟩:=List.mem_map.1 hx;rfl,?_,by simp⟩
  clear e hn
  induction l with
  |nil=>exact .nil
  |cons w r ih=>exact .p _ (fun _=>rfl) ih
 exact hr.tree (by simpa using hn)
theorem BM{h3:List AO}(hl:3≤h3.length){r:List AV}{f:Fd}{I2:List Nat}(ho:OwnL true h3 r f.cs I2)(nd:I2.Nodup)(hf:∀j∈I2,3≤j)(o x:AO):∃J,RowOwn true ((h3++[o,.row 3 [r]]).set 2 x) (h3.length+1) 3 [r] [f.cs] J∧∀j∈J,3≤j:=by
 have hr:r.length=3:=by rw[ho.len,Fd.cs_len]
 refine⟨I2,⟨?_,rfl,fun e he=>by rw[List.mem_singleton.1 he];exact hr,fun e he=>by rw[List.mem_singleton.1 he];exact Fd.cs_len f,?_,?_⟩,hf⟩
 ·rw[List.getElem?_set_ne (by omega),List.getElem?_append_right (by omega),Nat.add_sub_cancel_left];rfl
 ·have:=(ho.more [o,.row 3 [r]]).set_out (fun hm=>by have:=hf 2 hm;omega:2∉I2) x
  simpa using this
 ·rw[List.nodup_cons]
  exact⟨fun hm=>by have:=ho.lt hm;omega,nd⟩
theorem FD{h h3:List AO}{id:Nat}{rows:List (List AV)}{D:List (List PV)}{J:List Nat}(H:RowOwn true h id 3 rows D J)(hJ:∀j∈J,3≤j)(hid:3≤id)(hh:3≤h.length)(e3:h3=h++h3.drop h.length){r:List AV}{f:Fd}{I2:List Nat}(ho:OwnL true h3 r f.cs I2)(nd:I2.Nodup)(hf:∀j∈I2,h.length≤j)(o x:AO):
 ∃J,RowOwn true (((h3++[o]).set id .dead++[AO.row 3 (rows++[r])]).set 2 x) (h3.length+1) 3 (rows++[r]) (D++[f.cs]) J∧∀j∈J,3≤j:=by
 have hp:=H.push (h2:=h3++[o]) (os:=h3.drop h.length++[o]) (by rw[←List.append_assoc,←e3]) (ho.more [o]) nd hf (Fd.cs_len f)
 have hl:(h3++[o]).length=h3.length+1:=by simp
 rw[hl] at hp
 have hl3:h.length≤h3.length:=by rw[e3];simp
 refine⟨J++I2,hp.frame fun k hk=>?_,fun j hj=>?_⟩
 ·have:3≤k:=by
   rcases List.mem_cons.1 hk with rfl|hk
   ·omega
   ·rcases List.mem_append.1 hk with hk|hk
    ·exact hJ k hk
    ·have:=hf k hk;omega
  rw[List.getElem?_set_ne (by omega)]
 ·rcases List.mem_append.1 hj with hj|hj
  ·exact hJ j hj
  ·have:=hf j hj;omega
theorem Co(l:List Fd)(hz:aY l≤1073741824):AC Tryz.prog G jF [.agg [.p (fdL l)]] [] (MkW .agg true [fdL l]):=by
 have hfl:∀l,fdL l= .lst 3 (l.map Fd.cs):=fun _=>rfl
 have hll:l.length≤aY l:=uz l
 refine AC.go tx ?_
 simp-implicitDefEqProofs[mY,hfl]
 refine aJ (fun a:PshS=>aj 35 [(4,.p (.int .i64 a.i)),(3,.ptr 2 1 0 0),(2,.ptr 1 1 0 0),(1,.ptr 0 1 0 0)]) (fun a=>a.h) (CpI l) (fun a=>l.length-a.i) ⟨0,0,[.row 1 [[.p (fdL l)]],.row 1 [[.nils]],.row 1 [[.nils]]]⟩ ⟨Nat.zero_le _,rfl,rfl,rfl,fun h=>by simp at h⟩ ?_ ?_
 ·exact cr (by simp) (by simp[below])
 rintro⟨i,id,h⟩ ⟨i1,i2,i3,i4,i5⟩
 simp only at i1 i2 i3 i4 i5
 have hl3:3≤h.length:=by have:=(List.getElem?_eq_some_iff.1 i4).1;omega
 have j2:∀os,(h++os)[0]?=some (.row 1 [[.p (fdL l)]]):=fun os=>by rw[List.getElem?_append_left (by omega)];exact i2
 have j4:∀os,(h++os)[2]?=some (.row 1 [[cpK ⟨i,id,h⟩]]):=fun os=>by rw[List.getElem?_append_left (by omega)];exact i4
 simp-implicitDefEqProofs[i2,hfl]
 refine aS (fun h1=>?_) (fun h1=>?_)
 ·simp at h1
  have hg:=List.getElem?_eq_getElem h1
  have hm:=dY (List.getElem_mem h1)
  have hD:(l.map Fd.cs)[i]?=some l[i].cs:=by rw[List.getElem?_map,hg];rfl
  generalize l[i]=f at hg hm hD
  have hcs:f.cs=[.str f.name,aC f.params,smL f.body]:=rfl
  have hsp:aC f.params= .lst 1 (f.params.map fun w=>[.str w]):=rfl
  have hfz:f.sz=1+f.name.length+(f.params.length+(f.params.map List.length).sum)+aq f.body:=rfl
  have hB:=ul G _ f.body (Nat.lt_succ_self _) (by omega)
  by_cases hi0:i=0
  ·subst hi0
   have hk:cpK ⟨0,id,h⟩= .nils:=rfl
   rw[hk] at j4 i4
   have fin0:∀(h3:List AO) (r:List AV) (I2:List Nat) (l0:List (Nat × AV)),h.length+3≤h3.length→(∀j,j<h.length→h3[j]?=h[j]?)→OwnL true h3 r f.cs I2→I2.Nodup→(∀j∈I2,h.length≤j)→∀(o:AO) (hw:Aw.look l0 4= .p (.int .i64 (IntKind.i64.wrap 1))∧Aw.look l0 3= .ptr 2 1 0 0∧Aw.look l0 2= .ptr 1 1 0 0∧Aw.look l0 1= .ptr 0 1 0 0),
    ∃a',CpI l a'∧l.length-a'.i<l.length∧Wk 0 (aj 35 l0) ((h3++[o,.row 3 [r]]).set 2 (.row 1 [[.sl (h3.length+1) 3 0 1]])) (aj 35 [(4,.p (.int .i64 a'.i)),(3,.ptr 2 1 0 0),(2,.ptr 1 1 0 0),(1,.ptr 0 1 0 0)]) a'.h:=by
    intro h3 r I2 l0 hl4 hg3 oR nR fR o ⟨e4,e3,e2,e1⟩
    obtain⟨J,hJ,hJ3⟩:=BM (by omega) oR nR (fun j hj=>by have:=fR j hj;omega) o (.row 1 [[.sl (h3.length+1) 3 0 1]])
    have hd:(l.map Fd.cs).take 1=[f.cs]:=by rw[List.take_add_one,hD];rfl
    refine⟨⟨1,h3.length+1,_⟩,⟨by simp only;omega,?_,?_,?_,fun _=>⟨by simp only;omega,_,J,by simp only[hd];exact hJ,hJ3⟩⟩,by simp only;omega,cr (by simp) ?_⟩
    ·rw[List.getElem?_set_ne (by omega),List.getElem?_append_left (by omega),hg3 0 (by omega)];exact i2
    ·rw[List.getElem?_set_ne (by omega),List.getElem?_append_left (by omega),hg3 1 (by omega)];exact i3
    ·rw[List.getElem?_set_self (by simp;omega)];rfl
    ·simp[e1,e2,e3,e4,below]
     exact⟨by have:=w1 (i:=0) (by omega);simpa using this,by omega⟩
   simp-implicitDefEqProofs[i2,hfl,hg,hcs,hsp,rR, ↓j2, ↓j4]
   refine⟨⟨by omega,by omega⟩,?_⟩
   refine(AC.mkLift ig hB (by simp)).mono ?_
   rintro r h3 ⟨vB,IB,o1,rfl,e3,oB,nB,fB⟩
   obtain⟨B,rfl⟩:=dX oB
   simp at fB
   have hg3:∀j,j<h.length→h3[j]?=h[j]?:=fun j hj=>by rw[e3,List.append_assoc,List.getElem?_append_left hj]
   have p0:h3[h.length]?=some (.row 3 [[.p (.str f.name),.p (.lst 1 (f.params.map fun w=>[.str w])),.p (smL f.body)]]):=by
    rw[e3,List.append_assoc,List.getElem?_append_right (Nat.le_refl _),Nat.sub_self];rfl
   have p2:h3[h.length+2]?=some (bH f.params):=by
    rw[e3,List.append_assoc,List.getElem?_append_right (by omega),Nat.add_sub_cancel_left]
    simp[bH,Function.comp_def]
   have oP:=xr p2 (n:=f.params.length) rfl
   have hl4:h.length+3≤h3.length:=by rw[e3];simp
   have q0:∀os,(h3++os)[2]?=some (.row 1 [[.nils]]):=fun os=>by rw[List.getElem?_append_left (by omega),hg3 2 (by omega)];exact i4
   have q1:h3[2]?=some (.row 1 [[.nils]]):=by rw[hg3 2 (by omega)];exact i4
   have q2:∀os,(h3++os)[h.length]?=some (.row 3 [[.p (.str f.name),.p (.lst 1 (f.params.map fun w=>[.str w])),.p (smL f.body)]]):=fun os=>by rw[List.getElem?_append_left (by omega)];exact p0
   clear p2
   have hfR:∀j∈[h.length+2]++IB,h.length≤j:=fun j hj=>by
    rcases List.mem_append.1 hj with hj|hj
    ·rw[List.mem_singleton.1 hj];omega
    ·have:=fB j hj;omega
   have hnR:([h.length+2]++IB).Nodup:=List.nodup_cons.2 ⟨fun hm=>by have:=fB _ hm;omega,nB⟩
   rcases iq oB with⟨b1,rfl⟩|rfl|⟨x1,x2,x3,rfl⟩
   ·have oR:=nK (s:=true) (w:=f.name) oP oB
    simp-implicitDefEqProofs[aa,cK, ↓q1, ↓p0, ↓q0, ↓q2]
    exact fin0 h3 _ _ _ hl4 hg3 oR hnR hfR _ (by simp)
   ·have oR:=nK (s:=true) (w:=f.name) oP oB
    simp-implicitDefEqProofs[aa,cK, ↓q1, ↓p0, ↓q0, ↓q2]
    exact fin0 h3 _ _ _ hl4 hg3 oR hnR hfR _ (by simp)
   ·have oR:=nK (s:=true) (w:=f.name) oP oB
    simp-implicitDefEqProofs[aa,cK, ↓q1, ↓p0, ↓q0, ↓q2]
    exact fin0 h3 _ _ _ hl4 hg3 oR hnR hfR _ (by simp)
  ·have hk:cpK ⟨i,id,h⟩= .sl id 3 0 i:=if_neg hi0
   rw[hk] at j4 i4
   obtain⟨hid3,rows,J,hr,hJ3⟩:=i5 (by omega)
   have hrl:rows.length=i:=by have:=hr.len;rw[List.length_take,List.length_map] at this;omega
   have hidl:=hr.lt
   have fin0:∀(h3:List AO) (r:List AV) (I2:List Nat) (l0:List (Nat × AV)),h.length+3≤h3.length→(∀j,j<h.length→h3[j]?=h[j]?)→OwnL true h3 r f.cs I2→I2.Nodup→(∀j∈I2,h.length≤j)→∀(o:AO) (hw:Aw.look l0 4= .p (.int .i64 (IntKind.i64.wrap ((i:Int)+1)))∧Aw.look l0 3= .ptr 2 1 0 0∧Aw.look l0 2= .ptr 1 1 0 0∧Aw.look l0 1= .ptr 0 1 0 0),
    ∃a',CpI l a'∧l.length-a'.i<l.length-i∧Wk 0 (aj 35 l0) (((h3++[o]).set id .dead++[AO.row 3 (rows++[r])]).set 2 (.row 1 [[.sl (h3.length+1) 3 0 (i+1)]])) (aj 35 [(4,.p (.int .i64 a'.i)),(3,.ptr 2 1 0 0),(2,.ptr 1 1 0 0),(1,.ptr 0 1 0 0)]) a'.h:=by
    intro h3 r I2 l0 hl4 hg3 oR nR fR o ⟨e4,e3,e2,e1⟩
    obtain⟨J2,hJ,hJ4⟩:=FD hr hJ3 hid3 hl3 (rM (by omega) hg3) oR nR fR o (.row 1 [[.sl (h3.length+1) 3 0 (i+1)]])
    have hd:(l.map Fd.cs).take i++[f.cs]=(l.map Fd.cs).take (i+1):=by rw[List.take_add_one,hD];rfl
    rw[hd] at hJ
    refine⟨⟨i+1,h3.length+1,_⟩,⟨by simp only;omega,?_,?_,?_,fun _=>⟨by simp only;omega,_,J2,hJ,hJ4⟩⟩,by simp only;omega,cr (by simp) ?_⟩
    ·rw[List.getElem?_set_ne (by omega),List.getElem?_append_left (by simp only[List.length_set,List.length_append,List.length_cons];omega),List.getElem?_set_ne (by omega),List.getElem?_append_left (by omega),hg3 0 (by omega)];exact i2
    ·rw[List.getElem?_set_ne (by omega),List.getElem?_append_left (by simp only[List.length_set,List.length_append,List.length_cons];omega),List.getElem?_set_ne (by omega),List.getElem?_append_left (by omega),hg3 1 (by omega)];exact i3
    ·rw[List.getElem?_set_self (by simp;omega),cpK,if_neg (show¬(i+1=0) by omega)]
    ·simp[e1,e2,e3,e4,below]
     exact⟨w1 (i:=i) (by omega),by omega⟩
   simp-implicitDefEqProofs[i2,hfl,hg,hcs,hsp,rR, ↓j2, ↓j4]
   refine⟨⟨by omega,by omega⟩,?_⟩
   refine(AC.mkLift ig hB (by simp)).mono ?_
   rintro r h3 ⟨vB,IB,o1,rfl,e3,oB,nB,fB⟩
   obtain⟨B,rfl⟩:=dX oB
   simp at fB
   have hg3:∀j,j<h.length→h3[j]?=h[j]?:=fun j hj=>by rw[e3,List.append_assoc,List.getElem?_append_left hj]
   have p0:h3[h.length]?=some (.row 3 [[.p (.str f.name),.p (.lst 1 (f.params.map fun w=>[.str w])),.p (smL f.body)]]):=by
    rw[e3,List.append_assoc,List.getElem?_append_right (Nat.le_refl _),Nat.sub_self];rfl
   have p2:h3[h.length+2]?=some (bH f.params):=by
    rw[e3,List.append_assoc,List.getElem?_append_right (by omega),Nat.add_sub_cancel_left]
    simp[bH,Function.comp_def]
   have oP:=xr p2 (n:=f.params.length) rfl
   have hl4:h.length+3≤h3.length:=by rw[e3];simp
   have q0:∀os,(h3++os)[2]?=some (.row 1 [[.sl id 3 0 i]]):=fun os=>by rw[List.getElem?_append_left (by omega),hg3 2 (by omega)];exact i4
   have q1:h3[2]?=some (.row 1 [[.sl id 3 0 i]]):=by rw[hg3 2 (by omega)];exact i4
   have q2:∀os,(h3++os)[h.length]?=some (.row 3 [[.p (.str f.name),.p (.lst 1 (f.params.map fun w=>[.str w])),.p (smL f.body)]]):=fun os=>by rw[List.getElem?_append_left (by omega)];exact p0
   clear p2
   have q4:∀x o y,((h3++x).set id o++y)[2]?=some (.row 1 [[.sl id 3 0 i]]):=fun x o y=>by
    rw[List.getElem?_append_left (by simp only[List.length_set,List.length_append];omega),List.getElem?_set_ne (by omega),List.getElem?_append_left (by omega),hg3 2 (by omega)];exact i4
   have q3:∀os,(h3++os)[id]?=some (.row 3 rows):=fun os=>by rw[List.getElem?_append_left (by omega),hg3 id hidl];exact hr.here
   have hfR:∀j∈[h.length+2]++IB,h.length≤j:=fun j hj=>by
    rcases List.mem_append.1 hj with hj|hj
    ·rw[List.mem_singleton.1 hj];omega
    ·have:=fB j hj;omega
   have hnR:([h.length+2]++IB).Nodup:=List.nodup_cons.2 ⟨fun hm=>by have:=fB _ hm;omega,nB⟩
   rcases iq oB with⟨b1,rfl⟩|rfl|⟨x1,x2,x3,rfl⟩
   ·have oR:=nK (s:=true) (w:=f.name) oP oB
    simp-implicitDefEqProofs[aa,cK, ↓q1, ↓p0, ↓q0, ↓q2, ↓q3, ↓q4,hrl]
    rw[List.take_of_length_le (l:=rows) (i:=i) (by omega)]
    refine⟨⟨by omega,by omega⟩,?_⟩
    exact fin0 h3 _ _ _ hl4 hg3 oR hnR hfR _ (by simp)
   ·have oR:=nK (s:=true) (w:=f.name) oP oB
    simp-implicitDefEqProofs[aa,cK, ↓q1, ↓p0, ↓q0, ↓q2, ↓q3, ↓q4,hrl]
    rw[List.take_of_length_le (l:=rows) (i:=i) (by omega)]
    refine⟨⟨by omega,by omega⟩,?_⟩
    exact fin0 h3 _ _ _ hl4 hg3 oR hnR hfR _ (by simp)
   ·have oR:=nK (s:=true) (w:=f.name) oP oB
    simp-implicitDefEqProofs[aa,cK, ↓q1, ↓p0, ↓q0, ↓q2, ↓q3, ↓q4,hrl]
    rw[List.take_of_length_le (l:=rows) (i:=i) (by omega)]
    refine⟨⟨by omega,by omega⟩,?_⟩
    exact fin0 h3 _ _ _ hl4 hg3 oR hnR hfR _ (by simp)
 ·simp at h1
  have hie:i=l.length:=by omega
  subst hie
  have s1:∀x,(h.set 1 x)[1]?=some x:=fun x=>List.getElem?_set_self (by omega)
  by_cases hi0:l.length=0
  ·have hk:cpK ⟨l.length,id,h⟩= .nils:=if_pos hi0
   rw[hk] at i4
   simp-implicitDefEqProofs[i4,i3,s1]
   obtain rfl:=List.eq_nil_of_length_eq_zero hi0
   exact⟨[.nils],[],rfl,.nils 3 .nil,by simp⟩
  ·have hk:cpK ⟨l.length,id,h⟩= .sl id 3 0 l.length:=if_neg hi0
   rw[hk] at i4
   obtain⟨hid3,rows,J,hr,hJ3⟩:=i5 (by omega)
   rw[List.take_of_length_le (by simp)] at hr
   simp-implicitDefEqProofs[i4,i3,s1]
   have ho:=hr.tree (n:=l.length) (by simp)
   exact⟨[.sl id 3 0 l.length],id::J,rfl,ho.set_out (fun hm=>by
    rcases List.mem_cons.1 hm with hm|hm
    ·omega
    ·have:=hJ3 _ hm;omega) _,hr.nd⟩
end Go.Proofs.YtnjbhgpbgmpkcaaGreatDoor
namespace Go.Proofs.YtnjbhgpbgmpkcaaGreatDoor
open Go Go.Aw
set_option maxRecDepth 100000
set_option maxHeartbeats 4000000
variable (G:ay)
theorem Cs{s:Bool}{b:List Int}{q:Nat}{T:List AO}{vs:List AV}{qs:List PV}{I:List Nat}(H:OwnL s (rdO b q::T) vs qs I)(hI:∀i∈I,1≤i)(o:AO):OwnL s (o::T) vs qs I:=
 H.frame fun i hi=>by
  have:=hI i hi
  obtain⟨k,rfl⟩:∃k,i=k+1:=⟨i-1,by omega⟩
  rfl
theorem Ep{b:List Int}{p q:Nat}{T:List AO}{v:AV}{l:List Fd}{I:List Nat}(H:OwnL true (rdO b q::T) [v] [fdL l] I)(hI:∀i∈I,1≤i)(hz:aY l≤900000000)(h1:p≤q)(h2:q≤p+400500000):DP b (PgQ p 900000000 400500000) (.ret (.agg [v])) (rdO b q::T):=
 ⟨_,T,q,.agg [.p (fdL l)],rfl,rfl,.agg (.one ((Cs H hI .dead).view 0 v _ rfl rfl) .nil) .nil,⟨l,rfl,hz⟩,h1,h2⟩
theorem CK{l:List Sm}{k:Nat}{s0:Sm}(s:Sm)(h:l[k]?=some s0):aq (l.set k s)+s0.sz=aq l+s.sz:=by
 obtain⟨hk,h⟩:=List.getElem?_eq_some_iff.1 h
 subst h
 ·rw[eK s hk,bn]
  have e:l=l.take k++l.drop k:=(List.take_append_drop _ _).symm
  have h1:aq l=aq (l.take k)+aq (l.drop k):=by rw[←bn,←e]
  have h4:aq (l.drop k)=l[k].sz+aq (l.drop (k+1)):=by rw[List.drop_eq_getElem_cons hk];rfl
  simp only[aq]
  omega
theorem CV(l:List Ex)(k:Nat)(s:Ex):aU (l.set k s)≤aU l+s.sz:=by
 by_cases hk:k<l.length
 ·rw[eK s hk,cS]
  have e:l=l.take k++l.drop k:=(List.take_append_drop _ _).symm
  have h1:aU l=aU (l.take k)+aU (l.drop k):=by rw[←cS,←e]
  have h4:aU (l.drop k)=l[k].sz+aU (l.drop (k+1)):=by rw[List.drop_eq_getElem_cons hk];rfl
  simp only[aU]
  omega
 ·rw[List.set_eq_of_length_le (by omega)];omega
theorem wA{α:Type}{l:List α}{k:Nat}{x:α}(h:l[k]?=some x):l.set k x=l:=by
 apply List.ext_getElem?
 intro i
 by_cases hi:k=i
 ·subst hi;rw[List.getElem?_set_self (List.getElem?_eq_some_iff.1 h).1,h]
 ·rw[List.getElem?_set_ne hi]
theorem Cu{h:List AO}{id sz n m:Nat}{es:List (List PV)}(H:View h (.sl id sz 0 n) (.lst sz es))(hm:m≤es.length):View h (.sl id sz 0 m) (.lst sz (es.take m)):=by
 cases H with
 |sl _ _ _ rows _ e1 e2 e3 e4=>
  have hl:(es.take m).length=m:=by rw[List.length_take];omega
  have:=View.sl id sz 0 rows (es.take m) e1 (by omega) (fun e he=>e3 e (List.mem_of_mem_take he)) (fun i j e q e' a a1 a2 a3 a4=>by
   have hi:i<m:=by have:=(List.getElem?_eq_some_iff.1 a1).1;omega
   rw[List.getElem?_take_of_lt hi] at a1
   exact e4 i j e q e' a a1 a2 a3 a4)
  rwa[hl] at this
theorem Dm{b:List Int}(hb:Byt b)(hl:b.length≤2000){p:Nat}(hp:p≤5000000000):AC Tryz.prog G jy [.ptr 0 2 0 0] [rdO b p] fun x h=>∃v q,x= .ret v∧h=[rdO b q]∧PgQ p 900000000 400500000 v q:=by
 refine kE G (AC.go tK ?_)
 have hprog:AC Tryz.prog G cW [.ptr 0 2 0 0] [rdO b p] fun x h=>∃v q,x= .ret v∧h=[rdO b q]∧((∃l:List Fd,v= .agg [.p (fdL l)]∧bt l=true∧aY l≤200000000)∧p≤q∧q≤p+200000000):=
  (Em G hb hl (by omega)).mono fun x h ⟨l,q,e1,e2,e3,e4,e5,e6⟩=>⟨_,q,e1,e2,⟨l,rfl,e3,e4⟩,e5,e6⟩
 simp-implicitDefEqProofs[mR]
 refine(gS G hprog _ (by simp[below])).mono ?_
 rintro r h ⟨v,q,rfl,rfl,⟨l,rfl,hok,hz⟩,h1,h2⟩
 have hlen:=((gl l).1 hok).1
 have hfd:=((gl l).1 hok).2.1
 simp-implicitDefEqProofs[aa]
 refine(aX G b hb hl q (by omega) 5 _).mono ?_
 rintro r h ⟨k1,rfl,rfl,_⟩
 simp-implicitDefEqProofs[aa]
 refine aS (fun hc=>?_) (fun hc=>?_)
 ·simp-implicitDefEqProofs[]
  exact⟨_,_,q+1,.agg [.p (fdL l)],rfl,rfl,.keep (by simp) .nil,⟨l,rfl,by omega⟩,by omega,by omega⟩
 simp-implicitDefEqProofs[]
 refine(aX G b hb hl (q+1) (by omega) 6 _).mono ?_
 rintro r h ⟨k2,rfl,rfl,_⟩
 simp-implicitDefEqProofs[aa]
 refine aS (fun hc2=>?_) (fun hc2=>?_)
 ·simp-implicitDefEqProofs[]
  refine(gS G (Cp G hb hl (p:=q+1+1) (by omega)) _ (by simp[below])).mono ?_
  rintro r h ⟨v,q2,rfl,rfl,⟨l2,rfl,hz2⟩,h3,h4⟩
  simp-implicitDefEqProofs[aa]
  exact⟨_,_,q2,.agg [.p (fdL l2)],rfl,rfl,.keep (by simp) .nil,⟨l2,rfl,by omega⟩,by omega,by omega⟩
 simp-implicitDefEqProofs[]
 refine(AC.mkLift uS (Co G l (by omega)) (by simp)).mono ?_
 rintro r h ⟨vs,I,os,rfl,rfl,ho,nd,hI⟩
 obtain⟨v,rfl⟩:=dX ho
 have hne:l.map Fd.cs≠[]:=by intro h;rw[List.map_eq_nil_iff] at h;rw[h] at hlen;simp at hlen
 simp at hI
 rcases ho.inv nd with⟨h0,_⟩|⟨h0,_⟩|⟨id,rowsF,JF,rfl,rfl,hF⟩
 ·exact absurd h0 hne
 ·cases h0
 have hid3:3≤id:=hI id (by simp)
 obtain⟨fF,rfl⟩:∃fF,id=fF+1:=⟨id-1,by omega⟩
 rw[List.length_map]
 simp-implicitDefEqProofs[aa]
 have hF2:∀q',RowOwn true (rdO b q':: .row 1 [[.nils]]:: .row 1 [[.sl (fF+1) 3 0 l.length]]::os) (fF+1) 3 rowsF (l.map Fd.cs) JF:=fun q'=>hF.frame fun i hi=>by
  have:=hI i (by simpa using hi)
  obtain⟨k,rfl⟩:∃k,i=k+3:=⟨i-3,by omega⟩
  rfl
 have hI3:∀j∈JF,3≤j:=fun j hj=>hI j (by simp[hj])
 have hnF:=hF.nd
 clear hF ho
 obtain⟨T,hT⟩:∃T,T= .row 1 [[.nils]]:: .row 1 [[AV.sl (fF+1) 3 0 l.length]]::os:=⟨_,rfl⟩
 rw[←hT] at hF2⊢
 have t0:T[0]?=some (.row 1 [[.nils]]):=by rw[hT];rfl
 have t1:T[1]?=some (.row 1 [[.sl (fF+1) 3 0 l.length]]):=by rw[hT];rfl
 have tF:T[fF]?=some (.row 3 rowsF):=(hF2 0).here
 clear hT
 refine(aX G b hb hl (q+1+1) (by omega) l.length _).mono ?_
 rintro r h ⟨k,rfl,rfl,hk⟩
 have hkl:k<l.length:=by omega
 have hgk:=List.getElem?_eq_getElem hkl
 have hfk:=hfd _ (List.getElem_mem hkl)
 have hzk:=dY (List.getElem_mem hkl)
 have hDk:(l.map Fd.cs)[k]?=some l[k].cs:=by rw[List.getElem?_map,hgk];rfl
 generalize l[k]=f at hgk hfk hzk hDk
 obtain⟨rF,J1,Jk,J2,r1,rfl,r2,r5⟩:=(hF2 (q+1+1+1)).own.put (hF2 0).len (hF2 0).rl (hF2 0).dl hDk
 obtain⟨A,B,IA,IB,rfl,rfl,oA,oB⟩:=GB r2
 have hltJ:∀j∈J1++(IA++IB++J2),j<T.length+1:=fun j hj=>by have:=(hF2 0).own.lt hj;simpa using this
 have hnd:=hnF
 rw[List.nodup_cons] at hnd
 have hn1:fF+1∉J1++(IA++IB++J2):=hnd.1
 have hn2:=hnd.2
 have hIB:∀j∈IB,3≤j:=fun j hj=>hI3 j (by simp[hj])
 have nIB:IB.Nodup:=(List.nodup_append.1 (List.nodup_append.1 (List.nodup_append.1 hn2).2.1).1).2.1
 have hDl:(l.map Fd.cs).length=l.length:=by simp
 have finG:∀(U:List AO) (q':Nat) (B':AV) (I':List Nat) (sl':List Sm),(∀i,2≤i→i<T.length→i≠fF→i+1∉IB→U[i]?=T[i]?)→U[fF]?=some (.row 3 (rowsF.set k [.p (.str f.name),A,B']))→OwnL true (rdO b q'::U) [B'] [smL sl'] I'→(∀i∈I',1≤i)→
  aq sl'≤450000000→p≤q'→q'≤p+400500000→DP b (PgQ p 900000000 400500000) (.ret (.agg [.sl (fF+1) 3 0 l.length])) (rdO b q'::U):=by
  intro U q' B' I' sl' hU hUF oB' hI' hz' h3 h4
  have hfr:∀j∈J1++J2++IA,(rdO b q'::U)[j]?=(rdO b (q+1+1+1)::T)[j]?:=fun j hj=>by
   have hjm:j∈J1++(IA++IB++J2):=by simp only[List.mem_append] at hj⊢;rcases hj with(hj|hj)|hj<;>simp[hj]
   have hj3:=hI3 j hjm
   have hjl:=hltJ j hjm
   obtain⟨i,rfl⟩:∃i,j=i+1:=⟨j-1,by omega⟩
   rw[List.getElem?_cons_succ,List.getElem?_cons_succ]
   refine hU i (by omega) (by omega) (fun e=>hn1 (e▸hjm)) fun hm=>?_
   simp only[List.nodup_append,List.mem_append] at hn2
   obtain⟨n1,⟨⟨n2,n3,n4⟩,n5,n6⟩,n7⟩:=hn2
   simp only[List.mem_append] at hj
   rcases hj with(hj|hj)|hj
   ·exact n7 _ hj _ (.inl (.inr hm)) rfl
   ·exact n6 _ (.inr hm) _ hj rfl
   ·exact n4 _ hj _ hm rfl
  have oR:=nK (s:=true) (w:=f.name) (oA.frame fun i hi=>hfr i (by simp[hi])) oB'
  have oW:=r5 (rdO b q'::U) _ _ _ (fun j hj=>hfr j (by simp only[List.mem_append] at hj⊢;exact .inl hj)) oR
  have hD':(l.map Fd.cs).set k (Fd.mk f.name f.params sl').cs=(l.set k ⟨f.name,f.params,sl'⟩).map Fd.cs:=by rw[List.map_set]
  have tree:=OwnL.sl (s:=true) (h:=rdO b q'::U) (fF+1) 3 l.length (rowsF.set k [.p (.str f.name),A,B']) ((l.map Fd.cs).set k (Fd.mk f.name f.params sl').cs) hUF (by simp) (by have:=(hF2 0).len;simpa using this) (fun e he=>by
   rcases List.mem_or_eq_of_mem_set he with h|rfl
   ·exact(hF2 0).rl e h
   ·rfl) (fun e he=>by
   rcases List.mem_or_eq_of_mem_set he with h|rfl
   ·exact(hF2 0).dl e h
   ·rfl) oW .nil
  rw[hD'] at tree
  have hsz:=wu l k ⟨f.name,f.params,sl'⟩
  have hfz:f.sz=1+f.name.length+(f.params.length+(f.params.map List.length).sum)+aq f.body:=rfl
  have hfz':(Fd.mk f.name f.params sl').sz=1+f.name.length+(f.params.length+(f.params.map List.length).sum)+aq sl':=rfl
  refine Ep (l:=l.set k ⟨f.name,f.params,sl'⟩) tree (fun i hi=>?_) (by omega) h3 h4
  simp only[List.mem_cons,List.mem_append,List.not_mem_nil,or_false] at hi
  rcases hi with rfl|hi|(hi|hi)|hi
  ·omega
  ·have:=hI3 i (by simp[hi]);omega
  ·have:=hI3 i (by simp[hi]);omega
  ·exact hI' i hi
  ·have:=hI3 i (by simp[hi]);omega
 have hset:rowsF.set k [.p (.str f.name),A,B]=rowsF:=by
  apply List.ext_getElem?
  intro i
  by_cases hi:k=i
  ·subst hi;rw[List.getElem?_set_self (List.getElem?_eq_some_iff.1 r1).1,r1]
  ·rw[List.getElem?_set_ne hi]
 have hf2:2≤fF:=by omega
 have s0:∀x,(T.set 0 x)[0]?=some x:=fun x=>List.getElem?_set_self (by have:=(List.getElem?_eq_some_iff.1 t0).1;omega)
 have hbz:f.sz=1+f.name.length+(f.params.length+(f.params.map List.length).sum)+aq f.body:=rfl
 simp-implicitDefEqProofs[aa,t0,t1,tF,r1,hkl]
 have fin0:∀q' x,p≤q'→q'≤p+400500000→DP b (PgQ p 900000000 400500000) (.ret (.agg [.sl (fF+1) 3 0 l.length])) (rdO b q'::T.set 0 x):=fun q' x h3 h4=>
  finG (T.set 0 x) q' B IB f.body (fun i h1 _ _ _=>List.getElem?_set_ne (by omega)) (by rw[List.getElem?_set_ne (by omega),hset];exact tF) (oB.frame fun j hj=>by
   have:=hIB j hj
   obtain⟨i,rfl⟩:∃i,j=i+1:=⟨j-1,by omega⟩
   rw[List.getElem?_cons_succ,List.getElem?_cons_succ,List.getElem?_set_ne (by omega)]) (fun i hi=>by have:=hIB i hi;omega) (by omega) h3 h4
 rcases oB.inv nIB with⟨h0,_,rfl|rfl⟩|⟨h0,_⟩|⟨idB,rowsB,JB,rfl,rfl,hB⟩
 ·simp-implicitDefEqProofs[t0,t1,s0]
  exact fin0 _ _ (by omega) (by omega)
 ·simp-implicitDefEqProofs[t0,t1,s0]
  exact fin0 _ _ (by omega) (by omega)
 ·cases h0
 rw[List.length_map] at*
 by_cases hbe:f.body.length=0
 ·simp-implicitDefEqProofs[hbe,t0,t1,s0]
  have:=fin0 (q+1+1+1) (.row 1 [[.sl (fF+1) 3 0 l.length]]) (by omega) (by omega)
  exact this
 simp-implicitDefEqProofs[hbe,t0,t1,tF,r1]
 refine(aX G b hb hl (q+1+1+1) (by omega) f.body.length _).mono ?_
 rintro r h ⟨j,rfl,rfl,hj⟩
 have hjl:j<f.body.length:=by omega
 obtain⟨fB,rfl⟩:∃fB,idB=fB+1:=⟨idB-1,by have:=hIB idB (by simp);omega⟩
 have hB3:=hIB (fB+1) (by simp)
 have tB:T[fB]?=some (.row 5 rowsB):=hB.here
 have hgj:=List.getElem?_eq_getElem hjl
 have hzj:=eQ (List.getElem_mem hjl)
 have hok5:aK 4 f.body[j]=true:=by
  simp only[iW,Bool.and_eq_true] at hfk
  exact List.all_eq_true.1 hfk.2 _ (List.getElem_mem hjl)
 have hDj:(f.body.map Sm.cs)[j]?=some f.body[j].cs:=by rw[List.getElem?_map,hgj];rfl
 generalize f.body[j]=sm at hgj hzj hok5 hDj
 obtain⟨rB,K1,Kj,K2,u1,rfl,u2,u5⟩:=hB.own.put hB.len hB.rl hB.dl hDj
 obtain⟨A1,B1,E1,I1,I2,I3,rfl,rfl,oA1,oB1,oE1⟩:=Gw u2
 simp-implicitDefEqProofs[aa,hjl,t0,t1,tF,r1,tB,u1]
 refine(wU G hb hl (p:=q+1+1+1+1) (by omega) [[122,122],[97],[98],[99],[100]] (k:=T.length+1) (by simp) (by simp) (by omega) rfl (by simp[bH])).mono ?_
 rintro r h ⟨s,hs,rfl,rfl⟩
 have hs8:s.length≤8:=by simp at hs;rcases hs with rfl|rfl|rfl|rfl|rfl<;>simp
 have nB:=nIB
 rw[List.nodup_cons] at nB
 have finS:∀(U:List AO) (q':Nat) (o':Int) (nm':List UInt8) (A':AV) (I':List Nat) (ar':List Ex),(∀i,2≤i→i<T.length→i≠fB→i+1∉I1→U[i]?=T[i]?)→U[fB]?=some (.row 5 (rowsB.set j [.p (.int .i64 o'),.p (.str nm'),A',B1,E1]))→OwnL true (rdO b q'::U) [A'] [exL ar'] I'→(∀i∈I',1≤i)→
  aU ar'+nm'.length≤aU sm.args+sm.name.length+1000→p≤q'→q'≤p+400500000→DP b (PgQ p 900000000 400500000) (.ret (.agg [.sl (fF+1) 3 0 l.length])) (rdO b q'::U):=by
  intro U q' o' nm' A' I' ar' hU hUB oA' hI' hz' h3 h4
  have hmem:∀x∈K1++K2++I2++I3,x∈K1++(I1++(I2++I3)++K2):=fun x hx=>by
   simp only[List.mem_append] at hx⊢
   rcases hx with((hx|hx)|hx)|hx<;>simp[hx]
  have hltB:∀x∈K1++(I1++(I2++I3)++K2),x<T.length+1:=fun x hx=>by have:=hB.own.lt hx;simpa using this
  have hfr:∀x∈K1++K2++I2++I3,(rdO b q'::U)[x]?=(rdO b (q+1+1+1)::T)[x]?:=fun x hx=>by
   have hm:=hmem x hx
   have hx3:=hIB x (List.mem_cons_of_mem _ hm)
   have hxl:=hltB x hm
   obtain⟨i,rfl⟩:∃i,x=i+1:=⟨x-1,by omega⟩
   rw[List.getElem?_cons_succ,List.getElem?_cons_succ]
   refine hU i (by omega) (by omega) (fun e=>nB.1 (e▸hm)) fun hm1=>?_
   have hn:=nB.2
   simp only[List.nodup_append,List.mem_append] at hn
   obtain⟨n1,⟨⟨n2,⟨n3,n3',n3''⟩,n4⟩,n5,n6⟩,n7⟩:=hn
   simp only[List.mem_append] at hx
   rcases hx with((hx|hx)|hx)|hx
   ·exact n7 _ hx _ (.inl (.inl hm1)) rfl
   ·exact n6 _ (.inl hm1) _ hx rfl
   ·exact n4 _ hm1 _ (.inl hx) rfl
   ·exact n4 _ hm1 _ (.inr hx) rfl
  have oS:=Hn (s:=true) (o:=o') (w:=nm') oA' (oB1.frame fun i hi=>hfr i (by simp[hi])) (oE1.frame fun i hi=>hfr i (by simp[hi]))
  have oW:=u5 (rdO b q'::U) _ _ _ (fun x hx=>hfr x (by simp only[List.mem_append] at hx⊢;exact .inl (.inl hx))) oS
  have hD':(f.body.map Sm.cs).set j (Sm.mk o' nm' ar' sm.body sm.els).cs=(f.body.set j ⟨o',nm',ar',sm.body,sm.els⟩).map Sm.cs:=by rw[List.map_set]
  have tree:=OwnL.sl (s:=true) (h:=rdO b q'::U) (fB+1) 5 f.body.length (rowsB.set j [.p (.int .i64 o'),.p (.str nm'),A',B1,E1]) ((f.body.map Sm.cs).set j (Sm.mk o' nm' ar' sm.body sm.els).cs) hUB (by simp) (by have:=hB.len;simpa using this) (fun e he=>by
   rcases List.mem_or_eq_of_mem_set he with h|rfl
   ·exact hB.rl e h
   ·rfl) (fun e he=>by
   rcases List.mem_or_eq_of_mem_set he with h|rfl
   ·exact hB.dl e h
   ·exact Sm.cs_len _) oW .nil
  rw[hD'] at tree
  have hsz:=CK (s:=⟨o',nm',ar',sm.body,sm.els⟩) hgj
  have hsm:=sm.sz_eq
  have hsm':(Sm.mk o' nm' ar' sm.body sm.els).sz=1+nm'.length+aU ar'+aq sm.body+aq sm.els:=rfl
  have hFB:fF≠fB:=fun e=>hn1 (by rw[e];simp)
  have hFI:fF+1∉I1:=fun hm=>hn1 (by simp[hm])
  have hFT:fF<T.length:=(List.getElem?_eq_some_iff.1 tF).1
  refine finG U q' (.sl (fB+1) 5 0 f.body.length) _ (f.body.set j ⟨o',nm',ar',sm.body,sm.els⟩) (fun i g1 g2 g3 g4=>hU i g1 g2 (fun e=>g4 (by rw[e];simp)) fun hm=>g4 (by simp[hm])) (by rw[hU fF hf2 hFT hFB hFI,hset];exact tF) tree (fun i hi=>?_) (by omega) h3 h4
  simp only[List.mem_cons,List.mem_append,List.not_mem_nil,or_false] at hi
  rcases hi with rfl|hi|(hi|hi|hi)|hi
  ·omega
  ·have:=hIB i (by simp[hi]);omega
  ·exact hI' i hi
  ·have:=hIB i (by simp[hi]);omega
  ·have:=hIB i (by simp[hi]);omega
  ·have:=hIB i (by simp[hi]);omega
 have hTl:2≤T.length:=by have:=(List.getElem?_eq_some_iff.1 t1).1;omega
 have hBT:fB<T.length:=(List.getElem?_eq_some_iff.1 tB).1
 have hI1:∀i∈I1,3≤i∧i<T.length+1:=fun i hi=>⟨hIB i (by simp[hi]),by have:=oA1.lt hi;simpa using this⟩
 have oA1u:∀(U:List AO) (q':Nat),(∀i,2≤i→i<T.length→i+1∈I1→U[i]?=T[i]?)→OwnL true (rdO b q'::U) [A1] [exL sm.args] I1:=fun U q' hU=>oA1.frame fun x hx=>by
  obtain⟨h3,h4⟩:=hI1 x hx
  obtain⟨i,rfl⟩:∃i,x=i+1:=⟨x-1,by omega⟩
  rw[List.getElem?_cons_succ,List.getElem?_cons_succ]
  exact hU i (by omega) (by omega) hx
 have hsmz:=sm.sz_eq
 have finU:∀(U:List AO) (q':Nat),(∀i,2≤i→i<T.length→U[i]?=T[i]?)→p≤q'→q'≤p+400500000→DP b (PgQ p 900000000 400500000) (.ret (.agg [.sl (fF+1) 3 0 l.length])) (rdO b q'::U):=fun U q' hU h3 h4=>
  finS U q' sm.op sm.name A1 I1 sm.args (fun i a1 a2 _ _=>hU i a1 a2) (by rw[hU fB (by omega) hBT,wA u1];exact tB) (oA1u U q' fun i a1 a2 _=>hU i a1 a2) (fun i hi=>by have:=(hI1 i hi).1;omega) (by omega) h3 h4
 have a0:∀os,(T++os)[0]?=some (.row 1 [[.nils]]):=fun os=>by rw[List.getElem?_append_left (List.getElem?_eq_some_iff.1 t0).1];exact t0
 have a1:∀os,(T++os)[1]?=some (.row 1 [[.sl (fF+1) 3 0 l.length]]):=fun os=>by rw[List.getElem?_append_left (List.getElem?_eq_some_iff.1 t1).1];exact t1
 have aF:∀os,(T++os)[fF]?=some (.row 3 rowsF):=fun os=>by rw[List.getElem?_append_left (List.getElem?_eq_some_iff.1 tF).1];exact tF
 have aB:∀os,(T++os)[fB]?=some (.row 5 (rowsB)):=fun os=>by rw[List.getElem?_append_left (List.getElem?_eq_some_iff.1 tB).1];exact tB
 simp-implicitDefEqProofs[aa]
 refine(aX G b hb hl (q+1+1+1+1+1) (by omega) 4 _).mono ?_
 rintro r h ⟨k3,rfl,rfl,_⟩
 have nI1:I1.Nodup:=(List.nodup_append.1 (List.nodup_append.1 (List.nodup_append.1 nB.2).2.1).1).1
 have hargs:0<sm.args.length:=by
  simp only[aK,hZ,Bool.and_eq_true,decide_eq_true_eq] at hok5
  have:=hok5.1.1.1.1.1.1.1.1.2
  rw[this];unfold jl;split<;>omega
 have hA0:sm.args.map Ex.cs≠[]:=by intro h;rw[List.map_eq_nil_iff] at h;rw[h] at hargs;simp at hargs
 obtain⟨idA,rowsA,JA,rfl,rfl,hA⟩:∃id rows J,A1= .sl id 4 0 sm.args.length∧I1=id::J∧RowOwn true (rdO b (q+1+1+1)::T) id 4 rows (sm.args.map Ex.cs) J:=by
  rcases oA1.inv nI1 with⟨h0,_⟩|⟨h0,_⟩|⟨id,rows,J,e1,e2,e3⟩
  ·exact absurd h0 hA0
  ·cases h0
  ·rw[List.length_map] at e1;exact⟨id,rows,J,e1,e2,e3⟩
 obtain⟨fA,rfl⟩:∃fA,idA=fA+1:=⟨idA-1,by have:=(hI1 idA (by simp)).1;omega⟩
 have hA3:=hI1 (fA+1) (by simp)
 have tA:T[fA]?=some (.row 4 rowsA):=hA.here
 have aA:∀os,(T++os)[fA]?=some (.row 4 rowsA):=fun os=>by rw[List.getElem?_append_left (by omega)];exact tA
 have hg0:=List.getElem?_eq_getElem hargs
 have hz0:=bQ (List.getElem_mem hargs)
 have hD0:(sm.args.map Ex.cs)[0]?=some sm.args[0].cs:=by rw[List.getElem?_map,hg0];rfl
 generalize sm.args[0]=e0 at hg0 hz0 hD0
 obtain⟨r0,L1,L0,L2,g1,rfl,g3,g5⟩:=hA.own.put hA.len hA.rl hA.dl hD0
 obtain⟨K0,rfl,_⟩:=yX g3
 have nA:=nI1
 rw[List.nodup_cons] at nA
 have finA:∀(U:List AO) (q':Nat) (o n:Int) (w:List UInt8) (K:AV) (IK:List Nat) (ks:List Ex),(∀i,2≤i→i<T.length→i≠fA→U[i]?=T[i]?)→U[fA]?=some (.row 4 (rowsA.set 0 [.p (.int .i64 o),.p (.int .i64 n),.p (.str w),K]))→OwnL true (rdO b q'::U) [K] [exL ks] IK→(∀i∈IK,1≤i)→
  (Ex.mk o n w ks).sz≤500→p≤q'→q'≤p+400500000→DP b (PgQ p 900000000 400500000) (.ret (.agg [.sl (fF+1) 3 0 l.length])) (rdO b q'::U):=by
  intro U q' o n w K IK ks hU hUA oK hIK hz' h3 h4
  have hfr:∀x∈L1++L2,(rdO b q'::U)[x]?=(rdO b (q+1+1+1)::T)[x]?:=fun x hx=>by
   have hm:x∈L1++(L0++L2):=by
    simp only[List.mem_append] at hx⊢
    rcases hx with hx|hx
    ·exact .inl hx
    ·exact .inr (.inr hx)
   obtain⟨hx3,hx4⟩:=hI1 x (List.mem_cons_of_mem _ hm)
   obtain⟨i,rfl⟩:∃i,x=i+1:=⟨x-1,by omega⟩
   rw[List.getElem?_cons_succ,List.getElem?_cons_succ]
   exact hU i (by omega) (by omega) fun e=>nA.1 (e▸hm)
  have oW:=g5 (rdO b q'::U) _ _ _ hfr (Cm (o:=o) (n:=n) (w:=w) oK)
  have hD':(sm.args.map Ex.cs).set 0 (Ex.mk o n w ks).cs=(sm.args.set 0 ⟨o,n,w,ks⟩).map Ex.cs:=by rw[List.map_set]
  have tree:=OwnL.sl (s:=true) (h:=rdO b q'::U) (fA+1) 4 sm.args.length (rowsA.set 0 [.p (.int .i64 o),.p (.int .i64 n),.p (.str w),K]) ((sm.args.map Ex.cs).set 0 (Ex.mk o n w ks).cs) hUA (by simp) (by have:=hA.len;simpa using this) (fun e he=>by
   rcases List.mem_or_eq_of_mem_set he with h|rfl
   ·exact hA.rl e h
   ·rfl) (fun e he=>by
   rcases List.mem_or_eq_of_mem_set he with h|rfl
   ·exact hA.dl e h
   ·exact Ex.cs_len _) oW .nil
  rw[hD'] at tree
  have hsz:=CV sm.args 0 ⟨o,n,w,ks⟩
  have hBA:fB≠fA:=fun e=>nB.1 (by rw[e];simp)
  refine finS U q' sm.op sm.name (.sl (fA+1) 4 0 sm.args.length) _ (sm.args.set 0 ⟨o,n,w,ks⟩) (fun i g1 g2 _ g4=>hU i g1 g2 fun e=>g4 (by rw[e];simp)) (by rw[hU fB (by omega) hBT hBA,wA u1];exact tB) tree (fun i hi=>?_) (by omega) h3 h4
  simp only[List.mem_cons,List.mem_append,List.not_mem_nil,or_false] at hi
  rcases hi with rfl|hi|hi|hi
  ·omega
  ·have:=(hI1 i (by simp[hi])).1;omega
  ·exact hIK i hi
  ·have:=(hI1 i (by simp[hi])).1;omega
 have w0:∀os x,((T++os).set 0 x)[0]?=some x:=fun os x=>List.getElem?_set_self (by simp only[List.length_append];omega)
 have v0:∀os x,((T++os).set fA x)[0]?=some (.row 1 [[.nils]]):=fun os x=>by rw[List.getElem?_set_ne (by omega)];exact a0 os
 have v1:∀os x,((T++os).set fA x)[1]?=some (.row 1 [[.sl (fF+1) 3 0 l.length]]):=fun os x=>by rw[List.getElem?_set_ne (by omega)];exact a1 os
 have v2:∀os x y,(((T++os).set fA x).set 0 y)[0]?=some y:=fun os x y=>List.getElem?_set_self (by simp only[List.length_set,List.length_append];omega)
 have hv:∀os x y (i:Nat),2≤i→i<T.length→i≠fA→(((T++os).set fA x).set 0 y)[i]?=T[i]?:=fun os x y i h1 h2 h3=>by
  rw[List.getElem?_set_ne (by omega),List.getElem?_set_ne (by omega),List.getElem?_append_left h2]
 have aE:∀x y os,(T++x::y::os)[T.length+1]?=some y:=fun x y os=>by rw[List.getElem?_append_right (by omega),Nat.add_sub_cancel_left];rfl
 have aE2:∀x y z os,(T++x::y::os).set (T.length+1) z=T++x::z::os:=fun x y z os=>by rw[List.set_append_right _ _ (by omega),Nat.add_sub_cancel_left];rfl
 by_cases c1:k3=1
 ·subst c1
  simp-implicitDefEqProofs[aa, ↓a0, ↓a1, ↓aF, ↓aB,u1,hjl]
  refine aS (fun hn=>?_) (fun hn=>?_)
  ·simp-implicitDefEqProofs[]
   refine(wU G hb hl (p:=q+1+1+1+1+1+1) (by omega) [[97],[98],[122,122],[99],[100]] (k:=T.length+2+1) (by simp) (by simp) (by omega) rfl (by simp[bH])).mono ?_
   rintro r h ⟨s2,hs2,rfl,rfl⟩
   have hs28:s2.length≤8:=by simp at hs2;rcases hs2 with rfl|rfl|rfl|rfl|rfl<;>simp
   have v0:∀os x,((T++os).set fB x)[0]?=some (.row 1 [[.nils]]):=fun os x=>by rw[List.getElem?_set_ne (by omega)];exact a0 os
   have v1:∀os x,((T++os).set fB x)[1]?=some (.row 1 [[.sl (fF+1) 3 0 l.length]]):=fun os x=>by rw[List.getElem?_set_ne (by omega)];exact a1 os
   have v2:∀os x y,(((T++os).set fB x).set 0 y)[0]?=some y:=fun os x y=>List.getElem?_set_self (by simp only[List.length_set,List.length_append];omega)
   simp-implicitDefEqProofs[aa, ↓a0, ↓a1, ↓aF, ↓aB,u1,hjl, ↓v0, ↓v1, ↓v2,-getElem?_pos,List.getElem?_cons_zero,List.getElem?_cons_succ]
   have hv:∀os x y (i:Nat),2≤i→i<T.length→i≠fB→(((T++os).set fB x).set 0 y)[i]?=T[i]?:=fun os x y i h1 h2 h3=>by
    rw[List.getElem?_set_ne (by omega),List.getElem?_set_ne (by omega),List.getElem?_append_left h2]
   refine finS _ _ sm.op s2 (.sl (fA+1) 4 0 sm.args.length) _ sm.args ?_ ?_ (oA1u _ _ ?_) (fun i hi=>by have:=(hI1 i hi).1;omega) (by omega) (by omega) (by omega)
   ·intro i h1 h2 h3 _;exact hv _ _ _ i h1 h2 h3
   ·rw[List.getElem?_set_ne (by omega),List.getElem?_set_self (by simp only[List.length_append];omega)]
   ·intro i h1 h2 h3
    exact hv _ _ _ i h1 h2 (fun e=>nB.1 (by rw[←e];simp only[List.mem_append];exact .inr (.inl (.inl h3))))
  ·simp-implicitDefEqProofs[↓a0, ↓a1, ↓w0,-getElem?_pos,List.getElem?_cons_zero,List.getElem?_cons_succ]
   refine finU _ _ ?_ (by omega) (by omega)
   intro i h1 h2
   rw[List.getElem?_set_ne (by omega),List.getElem?_append_left h2]
 by_cases c2:k3=2
 ·subst c2
  have hw:∀(q':Nat) (os:List AO),OwnL true (rdO b q'::(T++os)) [.sl (fB+1) 5 0 f.body.length] [smL f.body] ((fB+1)::(K1++(((fA+1)::(L1++(L0++L2)))++(I2++I3)++K2))):=fun q' os=>oB.frame fun x hx=>by
   have h3:=hIB x hx
   have h4:x<T.length+1:=by have:=oB.lt hx;simpa using this
   obtain⟨i,rfl⟩:∃i,x=i+1:=⟨x-1,by omega⟩
   rw[List.getElem?_cons_succ,List.getElem?_cons_succ,List.getElem?_append_left (by omega)]
  have hv1:∀(q':Nat) (os:List AO),View (rdO b q'::(T++os)) (.sl (fB+1) 5 0 1) (smL (f.body.take 1)):=fun q' os=>by
   have:=Cu (m:=1) ((hw q' os).view 0 _ _ rfl rfl) (by simp;omega)
   rw[←List.map_take] at this
   exact this
  have hz1:aq (f.body.take 1)≤aq f.body:=by
   have e:f.body=f.body.take 1++f.body.drop 1:=(List.take_append_drop _ _).symm
   have:aq f.body=aq (f.body.take 1)+aq (f.body.drop 1):=by rw[←bn,←e]
   omega
  have hS:=ul G _ (f.body.take 1) (Nat.lt_succ_self _) (by omega)
  simp-implicitDefEqProofs[aa, ↓a0, ↓a1, ↓aF, ↓aB,r1,hkl]
  refine⟨by omega,?_⟩
  refine(AC.mkLend ig hS (.one (hv1 _ _) .nil)).mono ?_
  rintro r h ⟨vs,IN,os2,rfl,rfl,oN,nN,hN⟩
  obtain⟨vN,rfl⟩:=dX oN
  have hl1:(f.body.take 1).length=1:=by rw[List.length_take];omega
  have hneN:(f.body.take 1).map Sm.cs≠[]:=by intro h;rw[List.map_eq_nil_iff] at h;rw[h] at hl1;simp at hl1
  obtain⟨idN,rowsN,JN,rfl,rfl,hRN⟩:∃id rows J,vN= .sl id 5 0 1∧IN=id::J∧RowOwn true _ id 5 rows ((f.body.take 1).map Sm.cs) J:=by
   rcases oN.inv nN with⟨h0,_⟩|⟨h0,_⟩|⟨id,rows,J,e1,e2,e3⟩
   ·exact absurd h0 hneN
   ·cases h0
   ·rw[List.length_map,hl1] at e1;exact⟨id,rows,J,e1,e2,e3⟩
  have hidN:=hN idN (by simp)
  simp at hidN
  obtain⟨fN,rfl⟩:∃fN,idN=fN+1:=⟨idN-1,by omega⟩
  have hFT:fF<T.length:=(List.getElem?_eq_some_iff.1 tF).1
  have tN:=hRN.here
  simp only[List.cons_append,List.append_assoc,List.getElem?_cons_succ,List.nil_append] at tN
  have hrN:rowsN.length=1:=by have:=hRN.len;rw[List.length_map,hl1] at this;exact this
  have hrB:rowsB.length=f.body.length:=by have:=hB.len;simpa using this
  have z1:∀os o y,((T++os).set fB o++y)[fF]?=some (.row 3 rowsF):=fun os o y=>by
   rw[List.getElem?_append_left (by simp only[List.length_set,List.length_append];omega),List.getElem?_set_ne (fun e=>hn1 (by rw[←e];simp))];exact aF os
  have z2:∀os o y x,(((T++os).set fB o++y).set fF x)[0]?=some (.row 1 [[.nils]]):=fun os o y x=>by
   rw[List.getElem?_set_ne (by omega),List.getElem?_append_left (by simp only[List.length_set,List.length_append];omega),List.getElem?_set_ne (by omega)];exact a0 os
  have z3:∀os o y x,(((T++os).set fB o++y).set fF x)[1]?=some (.row 1 [[.sl (fF+1) 3 0 l.length]]):=fun os o y x=>by
   rw[List.getElem?_set_ne (by omega),List.getElem?_append_left (by simp only[List.length_set,List.length_append];omega),List.getElem?_set_ne (by omega)];exact a1 os
  have z4:∀os o y x w,((((T++os).set fB o++y).set fF x).set 0 w)[0]?=some w:=fun os o y x w=>List.getElem?_set_self (by simp only[List.length_set,List.length_append];omega)
  simp-implicitDefEqProofs[aa,cK, ↓a0, ↓a1, ↓aF, ↓aB, ↓tN, ↓z1, ↓z2, ↓z3, ↓z4,r1,hkl,hrN,hrB,-getElem?_pos,List.getElem?_cons_zero,List.getElem?_cons_succ]
  rw[List.take_of_length_le (l:=rowsB) (by omega),List.take_of_length_le (l:=rowsN) (by omega)]
  have hbl:=cg f.body
  refine⟨⟨by omega,by omega⟩,?_⟩
  have hJB:∀x∈K1++(((fA+1)::(L1++(L0++L2)))++(I2++I3)++K2),3≤x∧x<T.length+1∧x≠fF+1∧x≠fB+1:=fun x hx=>⟨hIB x (List.mem_cons_of_mem _ hx),by have:=hB.own.lt hx;simpa using this,fun e=>hn1 (by rw[←e];simp only[List.mem_append];exact .inr (.inl (.inr (List.mem_cons_of_mem _ hx)))),fun e=>nB.1 (e▸hx)⟩
  have hJN:∀x∈JN,T.length+3≤x∧x<T.length+3+os2.length:=fun x hx=>⟨by have:=hN x (by simp[hx]);simp at this;omega,by have:=hRN.own.lt hx;simp at this;omega⟩
  have nle:∀(W:List AO) (fo bo:AO) (x y:AO),∀i,2≤i→i<T.length→i≠fF→i≠fB→(((((T++W).set fB bo)++[y]).set fF fo).set 0 x)[i]?=T[i]?:=fun W fo bo x y i h1 h2 h3 h4=>by
   rw[List.getElem?_set_ne (by omega),List.getElem?_set_ne (by omega),List.getElem?_append_left (by simp only[List.length_set,List.length_append];omega),List.getElem?_set_ne (by omega),List.getElem?_append_left h2]
  have nri:∀(W:List AO) (fo bo:AO) (x y:AO),∀i,T.length≤i→i<(T++W).length→(((((T++W).set fB bo)++[y]).set fF fo).set 0 x)[i]?=(T++W)[i]?:=fun W fo bo x y i h1 h2=>by
   rw[List.getElem?_set_ne (by omega),List.getElem?_set_ne (by omega),List.getElem?_append_left (by simpa using h2),List.getElem?_set_ne (by omega)]
  have hbl2:=cg f.body
  have hzN:aq (f.body++f.body.take 1)≤400000000:=by rw[bn];omega
  refine finG _ _ (.sl (T.length+(os2.length+1+1)+1) 5 0 (f.body.length+1)) ((T.length+(os2.length+1+1)+1)::((K1++(((fA+1)::(L1++(L0++L2)))++(I2++I3)++K2))++JN++[])) (f.body++f.body.take 1) (fun i g1 g2 g3 g4=>nle _ _ _ _ _ i g1 g2 g3 (fun e=>g4 (by rw[e];simp))) ?_ ?_ ?_ (by omega) (by omega) (by omega)
  ·rw[List.getElem?_set_ne (by omega),List.getElem?_set_self (by simp only[List.length_set,List.length_append];omega)]
  ·refine OwnL.sl _ 5 (f.body.length+1) (rowsB++rowsN) ((f.body++f.body.take 1).map Sm.cs) ?_ (by rw[List.length_map,List.length_append,hl1]) (by rw[List.length_append,List.length_map,List.length_append,hl1,hrB,hrN]) (fun e he=>?_) (fun e he=>by obtain⟨x,_,rfl⟩:=List.mem_map.1 he;simp) ?_ .nil
   ·rw[List.getElem?_cons_succ,List.getElem?_set_ne (by omega),List.getElem?_set_ne (by omega),List.getElem?_append_right (by simp)]
    simp
   ·rcases List.mem_append.1 he with h|h
    ·exact hB.rl e h
    ·exact hRN.rl e h
   ·rw[List.map_append,List.flatten_append,List.flatten_append]
    refine(hB.own.frame fun x hx=>?_).app (hRN.own.frame fun x hx=>?_)
    ·obtain⟨x1,x2,x3,x4⟩:=hJB x hx
     obtain⟨i,rfl⟩:∃i,x=i+1:=⟨x-1,by omega⟩
     rw[List.getElem?_cons_succ,List.getElem?_cons_succ]
     exact nle _ _ _ _ _ i (by omega) (by omega) (by omega) (by omega)
    ·obtain⟨x1,x2⟩:=hJN x hx
     obtain⟨i,rfl⟩:∃i,x=i+1:=⟨x-1,by omega⟩
     simp only[List.cons_append,List.append_assoc,List.getElem?_cons_succ,List.nil_append]
     exact nri _ _ _ _ _ i (by omega) (by simp;omega)
  ·intro i hi
   simp only[List.mem_cons,List.mem_append,List.not_mem_nil,or_false] at hi
   rcases hi with rfl|hi|hi
   ·omega
   ·have:=(hJB i (by simp only[List.mem_cons,List.mem_append];exact hi)).1;omega
   ·have:=(hJN i hi).1;omega
 by_cases c0:k3=0
 ·subst c0
  simp-implicitDefEqProofs[aa]
  refine(wU G hb hl (p:=q+1+1+1+1+1+1) (by omega) [[102],[103],[109],[113]] (k:=T.length+2+1) (by simp) (by simp) (by omega) rfl (by simp[bH])).mono ?_
  rintro r h ⟨s2,hs2,rfl,rfl⟩
  have hs28:s2.length≤8:=by simp at hs2;rcases hs2 with rfl|rfl|rfl|rfl<;>simp
  simp-implicitDefEqProofs[aa, ↓a0, ↓a1, ↓aB,u1,hjl, ↓aE, ↓aE2,-getElem?_pos,List.getElem?_cons_zero,List.getElem?_cons_succ]
  refine aS (fun hn=>?_) (fun hn=>?_)
  ·simp-implicitDefEqProofs[↓a0, ↓a1, ↓aB, ↓aA,u1,hjl,g1,hargs, ↓v0, ↓v1, ↓v2, ↓aE,-getElem?_pos,List.getElem?_cons_zero,List.getElem?_cons_succ]
   refine finA _ _ 13 0 s2 (.sl (T.length+3+1) 4 0 1) [T.length+3+1] [⟨1,1,[],[]⟩] (fun i h1 h2 h3=>hv _ _ _ i h1 h2 h3) ?_ ?_ (by simp) (by simp[Ex.sz,aU];omega) (by omega) (by omega)
   ·rw[List.getElem?_set_ne (by omega),List.getElem?_set_self (by simp only[List.length_append];omega)]
   ·refine RowOwn.tree (rows:=[[.p (.int .i64 1),.p (.int .i64 1),.p (.str []),.nils]]) (J:=[]) ⟨?_,rfl,by simp,by simp,?_,by simp⟩ rfl
    ·rw[List.getElem?_cons_succ,List.getElem?_set_ne (by omega),List.getElem?_set_ne (by omega),List.getElem?_append_right (by omega),Nat.add_sub_cancel_left];rfl
    ·simpa using Cm (s:=true) (o:=1) (n:=1) (w:=[]) (k:=[]) (.nils 4 .nil)
  ·simp-implicitDefEqProofs[↓a0, ↓a1, ↓w0,-getElem?_pos,List.getElem?_cons_zero,List.getElem?_cons_succ]
   refine finU _ _ ?_ (by omega) (by omega)
   intro i h1 h2
   rw[List.getElem?_set_ne (by omega),List.getElem?_append_left h2]
 have d1:¬(k3:Int)=1:=by omega
 have d2:¬(k3:Int)=2:=by omega
 simp-implicitDefEqProofs[aa,c0,d1,d2, ↓a0, ↓a1, ↓aF, ↓aB,u1,hjl]
 refine aS (fun hn=>?_) (fun hn=>?_)
 ·simp-implicitDefEqProofs[↓a0, ↓a1, ↓aB, ↓aA,u1,hjl,g1,hargs, ↓v0, ↓v1, ↓v2, ↓aE,-getElem?_pos,List.getElem?_cons_zero,List.getElem?_cons_succ]
  refine finA _ _ 2 0 s .nils [] [] (fun i h1 h2 h3=>hv _ _ _ i h1 h2 h3) ?_ (.nils 4 .nil) (by simp) (by simp[Ex.sz,aU];omega) (by omega) (by omega)
  rw[List.getElem?_set_ne (by omega),List.getElem?_set_self (by simp only[List.length_append];omega)]
 ·simp-implicitDefEqProofs[↓a0, ↓a1, ↓w0,-getElem?_pos,List.getElem?_cons_zero,List.getElem?_cons_succ]
  refine finU _ _ ?_ (by omega) (by omega)
  intro i h1 h2
  rw[List.getElem?_set_ne (by omega),List.getElem?_append_left h2]
end Go.Proofs.YtnjbhgpbgmpkcaaGreatDoor
namespace Go.Proofs.YtnjbhgpbgmpkcaaGreatDoor
open Go Go.Aw
set_option maxRecDepth 100000
set_option maxHeartbeats 4000000
variable (G:ay)
theorem BW{ρ:List Nat}:∀{args:List AV},ah 0 args→TW ρ args args
 |[],_=>trivial
 |v::r,h=>⟨.inr ⟨(aN (Nat.zero_le _) [v] ⟨h.1,trivial⟩).1,by have:=dg ρ [v] ⟨h.1,trivial⟩;simpa[bf] using this⟩,BW h.2⟩
theorem KQ{f:FuncId}{args:List AV}{b:List Int}{p:Nat}{Q:AV→Nat→Prop}(H:AC Tryz.prog G f (.ptr 0 2 0 0::args) [rdO b p] fun x h=>∃v q,x= .ret v∧h=[rdO b q]∧Q v q)(hq:∀v q,Q v q→below 0 v){h:List AO}{k:Nat}(hk:h[k]?=some (rdO b p))(ha:ah 0 args):
 AC Tryz.prog G f (.ptr k 2 0 0::args) h fun x h'=>∃v q,x= .ret v∧h'=h.set k (rdO b q)∧Q v q:=by
 refine(H.frame (h:=h) (args:= .ptr k 2 0 0::args) [k] (by simp) ⟨.inr ⟨by simp[below],by simp[ren]⟩,BW ha⟩ (bx hk (bj _ _ _) bm)).mono ?_
 rintro x h' ⟨x0,h0,⟨v,q,rfl,rfl,r⟩,hl,rfl,rfl⟩
 refine⟨v,q,?_,?_,r⟩
 ·simp only[ri]
  have:=dg ([k]++List.range' h.length ([rdO b q].length-[rdO b p].length)) [v] ⟨hq v q r,trivial⟩
  simpa[bf] using this
 ·have hp2:∀σ,fh σ (rdO b q)=rdO b q:=fun σ=>by simp[rdO,fh,bf,ren]
  simp[mrg,hp2]
theorem BL{l:List Int}(h:Byt l)(n:Nat):Byt (l.take n):=fun x hx=>h x (List.mem_of_mem_take hx)
def DrP(n:Nat)(x:ARes):Prop:=∃l:List Fd,x= .ret (.agg [.p (fdL l)])∧aY l≤n
theorem CJ{f:FuncId}{args:List AV}{R:ARes→Prop}(H:AC Tryz.prog G f args [] fun x _=>R x)(hR:∀x,R x→∃v,x= .ret v∧below 0 v)(ha:ah 0 args)(h:List AO):AC Tryz.prog G f args h fun x h'=>R x∧h'=h:=by
 have H2:AC Tryz.prog G f args [] fun x h'=>R x∧h'=[]:=by
  refine H.wk (fun t v h' r=>by obtain⟨_,e,_⟩:=hR _ r;cases e) fun v h' r=>?_
  obtain⟨v',e,hv⟩:=hR _ r
  cases e
  exact⟨v,[],Cw rfl ⟨.inr ⟨hv,rfl⟩,trivial⟩,r,rfl⟩
 refine(H2.pre h ha (fun o ho=>by cases ho) (fun x h' r=>by rw[r.2])).mono ?_
 rintro x h' ⟨h1,⟨r,rfl⟩,rfl⟩
 exact⟨r,rfl⟩
theorem En{n:Nat}:∀x,DrP n x→∃v,x= .ret v∧below 0 v:=fun x ⟨l,e,_⟩=>⟨_,e,by simp[below]⟩
variable (hK:G eE=some dV) (hS:G cJ=some [.tbl opK opV])
include hK hS
end Go.Proofs.YtnjbhgpbgmpkcaaGreatDoor
namespace Go.Proofs.YtnjbhgpbgmpkcaaGreatDoor
open Go Go.Aw
set_option maxRecDepth 100000
set_option maxHeartbeats 4000000
variable (G:ay)
def Fd.more(f:Fd):Fd:=⟨f.name,f.params,f.body++[⟨1,[122,113],[⟨1,0,[],[]⟩],[],[]⟩]⟩
variable (hK:G eE=some dV) (hS:G cJ=some [.tbl opK opV])
include hK hS
end Go.Proofs.YtnjbhgpbgmpkcaaGreatDoor
namespace Go.Proofs.YtnjbhgpbgmpkcaaGreatDoor
open Go Go.Aw
set_option maxRecDepth 100000
set_option maxHeartbeats 4000000
variable (G:ay)
theorem AW(xs:List Int)(hb:xs.length≤1073741824):VF Tryz.prog G gF [.p (cG xs),.p (cG xs)] (.p (.bool true)):=by
 refine AC.go tQ ?_
 have hsl:∀l,cG l= .lst 1 (l.map fun w=>[.int .i64 w]):=fun _=>rfl
 simp-implicitDefEqProofs[no,hsl]
 refine aJ (fun i:Nat=>aj 29 [(0,.p (cG xs)),(1,.p (cG xs)),(10,.p (.int .i64 xs.length)),(11,.p (.int .i64 i))]) (fun _=>[]) (fun i=>i≤xs.length) (fun i=>xs.length-i) 0 (by simp) ?_ ?_
 ·exact co rfl (by simp[below,cG])
 intro i hi
 simp-implicitDefEqProofs[hsl]
 refine aS (fun h1=>?_) (fun h1=>?_)
 ·simp at h1
  have hg:xs[i]?=some xs[i]:=List.getElem?_eq_getElem h1
  generalize xs[i]=x at hg
  simp-implicitDefEqProofs[hg]
  refine⟨i+1,by omega,by omega,co rfl ?_⟩
  simp[below,cG,w1 (i:=i) (by omega)]
 ·simp at h1
  simp-implicitDefEqProofs[]
variable (hK:G eE=some dV) (hS:G cJ=some [.tbl opK opV])
include hK hS
end Go.Proofs.YtnjbhgpbgmpkcaaGreatDoor
namespace Go.Proofs.YtnjbhgpbgmpkcaaGreatDoor
open Go Go.Aw
set_option maxRecDepth 100000
set_option maxHeartbeats 4000000
theorem rC(l:List Fd):(be l).length≤l.length:=by
 unfold be
 split
 ·have:=List.length_filter_le (bAt (ja (aD l) l.length)) (List.range l.length)
  rw[List.length_range] at this
  rw[cC,List.length_map]
  exact this
 ·simp
variable (G:ay) (hK:G eE=some dV) (hS:G cJ=some [.tbl opK opV])
include hK hS
end Go.Proofs.YtnjbhgpbgmpkcaaGreatDoor
namespace Go.Proofs.YtnjbhgpbgmpkcaaGreatDoor
open Go Go.Aw
set_option maxRecDepth 100000
set_option maxHeartbeats 4000000
theorem jS{l:List Fd}(h0:bF l=0){n:Nat}(hn:n<l.length):bM l (n:Int)=aD l n:=by
 have h1:inR (n:Int) 0 ((l.length:Int)-1)=true:=by simp[inR];omega
 have hg:=List.getElem?_eq_getElem hn
 rw[bM,if_pos ⟨h0,h1⟩,aD]
 simp only[Int.toNat_natCast,hg]
structure NdOk (l:List Fd) (xs:List Int):Prop where
 up:xs.Pairwise (· < ·)
 le:xs.length≤l.length
 ne:xs≠[]
 closed:∀x∈xs,∀y∈cC (bM l x),y∈xs
 called:∀k∈xs,k≠(l.length:Int)-1→∃f∈xs,k∈cC (bM l f)
 last:xs[xs.length-1]?=some ((l.length:Int)-1)
theorem yO{l:List Fd}(h0:bF l=0):NdOk l (be l):=by
 have hP:be l=cC (dP (aD l) l.length):=if_pos h0
 have hp:=((re l).1 h0).1
 obtain⟨⟨h1,_⟩,_,_⟩:=(gl l).1 hp
 have h1l:1≤l.length:=by omega
 have hdn:=iC l
 have hmem:=fun m=>qo hdn h1l m
 have hup:(be l).Pairwise (· < ·):=by
  rw[hP,cC,List.pairwise_map]
  exact(sk _ _).imp fun h=>by omega
 have hin:∀x,x∈be l↔∃m:Nat,x=(m:Int)∧Ned (aD l) (l.length-1) m:=by
  intro x
  rw[hP,cC,List.mem_map]
  exact⟨fun⟨m,h,e⟩=>⟨m,e.symm,(hmem m).1 h⟩,fun⟨m,e,h⟩=>⟨m,(hmem m).2 h,e.symm⟩⟩
 have hroot:((l.length:Int)-1)∈be l:=(hin _).2 ⟨l.length-1,by omega,.root⟩
 have hlt:∀m,Ned (aD l) (l.length-1) m→m<l.length:=fun m h=>by have:=h.le hdn;omega
 have hne:be l≠[]:=fun e=>by rw[e] at hroot;cases hroot
 refine⟨hup,rC l,hne,fun x hx y hy=>?_,fun k hk hkn=>?_,?_⟩
 ·obtain⟨m,rfl,hm⟩:=(hin x).1 hx
  rw[jS h0 (hlt m hm),cC,List.mem_map] at hy
  obtain⟨q,hq,rfl⟩:=hy
  exact(hin _).2 ⟨q,rfl,.step hm hq⟩
 ·obtain⟨m,rfl,hm⟩:=(hin k).1 hk
  cases hm with
  |root=>exact(hkn (by omega)).elim
  | @step b _ hb hq=>
    refine⟨b,(hin _).2 ⟨b,rfl,hb⟩,?_⟩
    rw[jS h0 (hlt b hb),cC,List.mem_map]
    exact⟨m,hq,rfl⟩
 ·have hl:(be l).length-1<(be l).length:=by
   have:=List.length_pos_iff.2 hne;omega
  rw[List.getElem?_eq_getElem hl]
  congr 1
  obtain⟨i,hi,hie⟩:=List.mem_iff_getElem.1 hroot
  obtain⟨m,hme,hm⟩:=(hin _).1 (List.getElem_mem hl)
  have hml:=hlt m hm
  by_cases e:i=(be l).length-1
  ·rw[←hie];congr 1;exact e.symm
  ·have:=List.pairwise_iff_getElem.1 hup i ((be l).length-1) hi hl (by omega)
   rw[hie,hme] at this
   omega
variable (G:ay)
theorem FW(xs:List Int)(k:Int)(hb:xs.length≤1073741824):VF Tryz.prog G ki [.p (cG xs),.p (.int .i64 k)] (.p (.bool (decide (k∈xs)))):=by
 refine AC.go vI ?_
 have hsl:∀l,cG l= .lst 1 (l.map fun w=>[.int .i64 w]):=fun _=>rfl
 simp-implicitDefEqProofs[oI,hsl]
 refine aJ (fun i:Nat=>aj 17 [(1,.p (.int .i64 k)),(7,.p (cG xs)),(8,.p (.int .i64 xs.length)),(9,.p (.int .i64 i))]) (fun _=>[]) (fun i=>i≤xs.length∧k∉xs.take i) (fun i=>xs.length-i) 0 (by simp) ?_ ?_
 ·exact co rfl (by simp[below,cG])
 intro i ⟨hi,hn⟩
 simp-implicitDefEqProofs[hsl]
 refine aS (fun h1=>?_) (fun h1=>?_)
 ·simp at h1
  have hg:xs[i]?=some xs[i]:=List.getElem?_eq_getElem h1
  have hT:xs.take (i+1)=xs.take i++[xs[i]]:=al h1
  have hm:=List.getElem_mem h1
  generalize xs[i]=x at hg hT hm
  by_cases hx:x=k
  ·subst hx
   simp-implicitDefEqProofs[hg,hm]
  ·simp-implicitDefEqProofs[hg,hx]
   refine⟨i+1,⟨by omega,?_⟩,by omega,co rfl ?_⟩
   ·rw[hT,List.mem_append]
    rintro(h|h)
    ·exact hn h
    ·exact hx (List.mem_singleton.1 h).symm
   ·simp[below,cG,w1 (i:=i) (by omega)]
 ·simp at h1
  rw[List.take_of_length_le h1] at hn
  simp-implicitDefEqProofs[hn]
theorem sF(code:List Int)(hb:Byt code):AC Tryz.prog G eG [.p (pJ code)] [] fun x _=>DrP 900000000 x:=by
 refine AC.go mL ?_
 simp-implicitDefEqProofs[ia]
 refine(AC.lift (GK G code) (by simp) rfl rfl).mono ?_
 rintro r h ⟨rfl,rfl⟩
 have hr:∀n,cN n (rdO (code.take 2000) 0)=rdO (code.take 2000) 0:=fun n=>by simp[rdO,cN,dc,bZ]
 have hbt:=BL hb 2000
 have hbl:(code.take 2000).length≤2000:=by rw[List.length_take];omega
 generalize code.take 2000=b at hr hbt hbl
 simp-implicitDefEqProofs[aa,bZ,hr]
 refine(KQ G (Dm G hbt hbl (p:=0) (by omega)) (fun v q ⟨⟨l,e,_⟩,_⟩=>by rw[e];simp[below]) (h:=[.row 1 [[.nils]],rdO b 0]) (k:=1) rfl trivial).mono ?_
 rintro r h ⟨v,q,rfl,rfl,⟨l,rfl,hz⟩,hq1,hq2⟩
 simp-implicitDefEqProofs[aa]
 exact⟨l,rfl,hz⟩
end Go.Proofs.YtnjbhgpbgmpkcaaGreatDoor
namespace Go.Proofs.YtnjbhgpbgmpkcaaGreatDoor
open Go Go.Aw
set_option maxRecDepth 100000
set_option maxHeartbeats 4000000
def qS(l:List Fd)(k:Int)(fs:List Int):Bool:=fs.any fun f=>(cC (bM l f)).contains k
theorem DQ(l:List Fd)(k:Int)(a b:List Int):qS l k (a++b)=(qS l k a||qS l k b):=by simp[qS]
def orC(b0:Bool)(ys:List Int)(k:Int)(q:Nat):Bool:=b0||(ys.take q).contains k
theorem DS(b0:Bool)(ys:List Int)(k:Int):orC b0 ys k 0=b0:=by simp[orC]
theorem EU(b0:Bool)(ys:List Int)(k:Int):orC b0 ys k ys.length=(b0||ys.contains k):=by rw[orC,List.take_length]
theorem Cg(b0:Bool){ys:List Int}(k:Int){q:Nat}(h:q<ys.length):orC b0 ys k (q+1)=(orC b0 ys k q||decide (ys[q]=k)):=by
 rw[orC,orC,al h,Bool.or_assoc]
 congr 1
 rw[Bool.eq_iff_iff]
 simp only[List.contains_iff_mem,Bool.or_eq_true,decide_eq_true_eq,List.mem_append,List.mem_singleton]
 exact⟨fun h=>h.imp id Eq.symm,fun h=>h.imp id Eq.symm⟩
variable (G:ay) (hK:G eE=some dV) (hS:G cJ=some [.tbl opK opV])
include hK hS
theorem uV(code:List Int)(hb:Byt code)(hl:code.length≤9223372036854775807):VF Tryz.prog G kI [.p (pJ code)] (.p (.bool true)):=by
 refine AC.go qX ?_
 have hbl:pJ code= .lst 1 (code.map fun n=>[.int .u8 n]):=rfl
 simp-implicitDefEqProofs[kR,hbl]
 rw[←hbl]
 by_cases hc:(1048576:Int)<code.length
 ·simp-implicitDefEqProofs[hc]
 simp-implicitDefEqProofs[hc]
 refine(CJ G (sF G code hb) En (by simp) _).mono ?_
 rintro r h ⟨⟨l,rfl,hz⟩,rfl⟩
 have hi:=yG G hK hS l (by omega)
 have hs:=yn G l (by omega)
 have hll:=cf l
 have hle:=rC l
 have hw:=AW G (be l) (by omega)
 simp-implicitDefEqProofs[aa]
 refine hi.use ?_
 simp-implicitDefEqProofs[]
 refine hs.use ?_
 simp-implicitDefEqProofs[]
 refine hw.use ?_
 simp-implicitDefEqProofs[]
 refine(lB G hK hS l (by omega)).use ?_
 by_cases h0:bF l=0
 case neg=>
  have e:be l=[]:=if_neg h0
  rw[e] at hs hw⊢
  simp-implicitDefEqProofs[h0]
  refine hs.use ?_
  simp-implicitDefEqProofs[]
  refine hw.use ?_
  simp-implicitDefEqProofs[cG]
 have hok:=yO h0
 have hcb:=fun f=>yp G hK hS l (by omega) f
 have hcl:=fun f=>wy l f
 have hhas:=fun k=>FW G (be l) k (by omega)
 generalize be l=xs at*
 have hsl:∀l,cG l= .lst 1 (l.map fun w=>[.int .i64 w]):=fun _=>rfl
 have hfl:fdL l= .lst 3 (l.map Fd.cs):=rfl
 have hin:∀xs,dM xs= .row 1 (xs.map fun x=>[.p (.int .i64 x)]):=fun _=>rfl
 have hpu:∀ys:List Int,∀x∈ys.map fun x=>[AV.p (.int .i64 x)],ah 0 x:=fun ys x hx=>by obtain⟨_,_,rfl⟩:=List.mem_map.1 hx;simp
 have hxp:0<xs.length:=List.length_pos_iff.2 hok.ne
 simp-implicitDefEqProofs[h0,hsl]
 refine aJ (fun i:Nat=>aj 123 [(3,.ptr 0 1 0 0),(4,.p (cG xs)),(5,.sl 1 1 0 i),(46,.p (cG xs)),(47,.p (.int .i64 xs.length)),(48,.p (.int .i64 i))]) (fun i=>[.row 1 [[.p (fdL l)]],dM (xs.take i)]) (fun i=>i≤xs.length) (fun i=>xs.length-i) 0 (by simp) ?_ ?_
 ·exact ab (h:=[.row 1 [[.p (fdL l)]],.row 1 []]) (by simp) (ae (by simp[okO,below]) (ae (by simp[okO]) bv)) (by simp[below,hsl])
 intro i hil
 simp-implicitDefEqProofs[hsl]
 refine aS (fun h1=>?_) (fun h1=>?_)
 ·simp at h1
  have hg:=List.getElem?_eq_getElem h1
  have hT:xs.take (i+1)=xs.take i++[xs[i]]:=al h1
  have hTl:(xs.take i).length=i:=by rw[List.length_take];omega
  generalize xs[i]=x at hg hT
  generalize xs.take i=c at hT hTl⊢
  subst hTl
  simp-implicitDefEqProofs[hg,hin]
  refine⟨⟨by omega,by omega⟩,c.length+1,h1,by omega,?_⟩
  have htk:List.take c.length (c.map fun x=>[AV.p (.int .i64 x)])=c.map fun x=>[AV.p (.int .i64 x)]:=List.take_of_length_le (by simp)
  have hT2:List.take (c.length+1) (xs.map fun x=>[AV.p (.int .i64 x)])=(c.map fun x=>[AV.p (.int .i64 x)])++[[AV.p (.int .i64 x)]]:=by rw[←List.map_take,hT,List.map_append];rfl
  rw[hT2,htk]
  refine ph [0,3] rfl (by decide) (aW rfl (by simp) (aW rfl (fun x hx=>?_) bm)) (by simp[below,ren,hsl,w1 (i:=c.length) (by omega)])
  rcases List.mem_append.1 hx with h|h
  ·exact hpu _ x h
  ·rw[List.mem_singleton.1 h];simp
 simp at h1
 have hie:i=xs.length:=by omega
 subst hie
 rw[List.take_length]
 simp-implicitDefEqProofs[]
 clear hi hs hw
 refine aJ (fun i:Nat=>aj 123 [(3,.ptr 0 1 0 0),(4,.p (cG xs)),(5,.p (cG xs)),(57,.p (cG xs)),(58,.p (.int .i64 xs.length)),(59,.p (.int .i64 i))]) (fun _=>[.row 1 [[.p (fdL l)]]]) (fun i=>i≤xs.length) (fun i=>xs.length-i) 0 (by simp) ?_ ?_
 ·refine jk 1 (by omega) (by simp) rfl (.same (by simp[okO,below]) (.nil _)) ?_
  refine⟨.keep (by simp[below]) .nil,.keep (by simp[below,hsl]) .nil,.one ?_ .nil,.keep (by simp[below,hsl]) .nil,.keep (by simp[below]) .nil,.keep (by simp[below]) .nil,trivial⟩
  exact uD (h:=lL 1 [.row 1 [[.p (fdL l)]],lb xs]) (id:=1) (l:=xs) rfl
 intro i hil
 simp-implicitDefEqProofs[hsl]
 refine aS (fun h1=>?_) (fun h1=>?_)
 ·simp at h1
  have hg:=List.getElem?_eq_getElem h1
  have hx:=List.getElem_mem h1
  generalize xs[i]=x at hg hx
  have hcx:=hcb x
  have hclx:=hcl x
  have hclo:=hok.closed x hx
  have hyl:(cC (bM l x)).length≤1073741824:=by rw[cC,List.length_map];omega
  generalize cC (bM l x)=ys at*
  simp-implicitDefEqProofs[hg]
  refine hcx.use ?_
  simp-implicitDefEqProofs[hsl]
  refine aJ (fun j:Nat=>aj 123 [(3,.ptr 0 1 0 0),(4,.p (cG xs)),(5,.p (cG xs)),(57,.p (cG xs)),(58,.p (.int .i64 xs.length)),(59,.p (.int .i64 i)),(65,.p (cG ys)),(66,.p (.int .i64 ys.length)),(67,.p (.int .i64 j))]) (fun _=>[.row 1 [[.p (fdL l)]]]) (fun j=>j≤ys.length) (fun j=>ys.length-j) 0 (by simp) ?_ ?_
  ·exact ab (h:=[.row 1 [[.p (fdL l)]]]) (by simp) (by simp[okO,below]) (by simp[below,hsl])
  intro j hjl
  simp-implicitDefEqProofs[hsl]
  refine aS (fun h2=>?_) (fun h2=>?_)
  ·simp at h2
   have hgj:=List.getElem?_eq_getElem h2
   have hy:=hclo _ (List.getElem_mem h2)
   generalize ys[j]=y at hgj hy
   have hh:=hhas y
   have hdy:decide (y∈xs)=true:=decide_eq_true hy
   rw[hdy] at hh
   simp-implicitDefEqProofs[hgj]
   refine hh.use ?_
   simp-implicitDefEqProofs[]
   exact⟨j+1,h2,by omega,ab (h:=[.row 1 [[.p (fdL l)]]]) (by simp) (by simp[okO,below]) (by simp[below,hsl,w1 (i:=j) (by omega)])⟩
  ·simp at h2
   simp-implicitDefEqProofs[]
   exact⟨i+1,h1,by omega,ab (h:=[.row 1 [[.p (fdL l)]]]) (by simp) (by simp[okO,below]) (by simp[below,hsl,w1 (i:=i) (by omega)])⟩
 simp at h1
 have hie:i=xs.length:=by omega
 subst hie
 have hw1:IntKind.i64.wrap ((xs.length:Int)-1)=((xs.length-1:Nat):Int):=by rw[ag (by omega) (by omega)];omega
 have hlw:IntKind.i64.wrap ((l.length:Int)-1)=(l.length:Int)-1:=ag (by omega) (by omega)
 have hmin:min (xs.length-1) xs.length=xs.length-1:=Nat.min_eq_left (by omega)
 have hzl:(xs.take (xs.length-1)).length=xs.length-1:=by rw[List.length_take];omega
 have hzm:∀(i:Nat) (k:Int),(xs.take (xs.length-1))[i]?=some k→k∈xs∧k≠(l.length:Int)-1:=fun i k hk=>by
  have hi:=(List.getElem?_eq_some_iff.1 hk).1
  rw[hzl] at hi
  rw[List.getElem?_take,if_pos hi] at hk
  obtain⟨hi2,e⟩:=List.getElem?_eq_some_iff.1 hk
  refine⟨List.mem_of_getElem? hk,fun e2=>?_⟩
  obtain⟨hj2,e3⟩:=List.getElem?_eq_some_iff.1 hok.last
  have:=List.pairwise_iff_getElem.1 hok.up i (xs.length-1) hi2 hj2 hi
  omega
 have htz:List.take (xs.length-1) (xs.map fun w=>[PV.int .i64 w])=(xs.take (xs.length-1)).map fun w=>[PV.int .i64 w]:=by rw[List.map_take]
 have hlast:=hok.last
 generalize hzs:xs.take (xs.length-1)=zs at*
 simp-implicitDefEqProofs[hsl,hw1,hmin,htz]
 refine aJ (fun i:Nat=>aj 123 [(3,.ptr 0 1 0 0),(4,.p (cG xs)),(81,.p (cG zs)),(82,.p (.int .i64 ((xs.length-1:Nat):Int))),(83,.p (.int .i64 i))]) (fun _=>[.row 1 [[.p (fdL l)]]]) (fun i=>i≤xs.length-1) (fun i=>xs.length-1-i) 0 (by simp) ?_ ?_
 ·exact ab (h:=[.row 1 [[.p (fdL l)]]]) (by simp) (by simp[okO,below]) (by simp[below,hsl,hzl])
 intro i hil
 simp-implicitDefEqProofs[hsl]
 refine aS (fun h1=>?_) (fun h1=>?_)
 ·simp at h1
  have hzi:i<zs.length:=by omega
  have hg:=List.getElem?_eq_getElem hzi
  have hkm:=hzm i _ hg
  generalize zs[i]=k at hg hkm
  obtain⟨f0,hf0,hf1⟩:=hok.called k hkm.1 hkm.2
  have hall:qS l k xs=true:=by
   rw[qS,List.any_eq_true]
   exact⟨f0,hf0,List.contains_iff_mem.2 hf1⟩
  simp-implicitDefEqProofs[hg]
  refine aJ (fun j:Nat=>aj 123 [(3,.ptr 0 1 0 0),(4,.p (cG xs)),(81,.p (cG zs)),(82,.p (.int .i64 ((xs.length-1:Nat):Int))),(83,.p (.int .i64 i)),(13,.p (.int .i64 k)),(14,.p (.bool (qS l k (xs.take j)))),(87,.p (cG xs)),(88,.p (.int .i64 xs.length)),(89,.p (.int .i64 j))]) (fun _=>[.row 1 [[.p (fdL l)]]]) (fun j=>j≤xs.length) (fun j=>xs.length-j) 0 (by simp) ?_ ?_
  ·exact ab (h:=[.row 1 [[.p (fdL l)]]]) (by simp) (by simp[okO,below]) (by simp[below,hsl,qS])
  intro j hjl
  simp-implicitDefEqProofs[hsl]
  refine aS (fun h2=>?_) (fun h2=>?_)
  ·simp at h2
   have hgj:=List.getElem?_eq_getElem h2
   have hT:qS l k (xs.take (j+1))=(qS l k (xs.take j)||(cC (bM l xs[j])).contains k):=by
    rw[al h2,DQ];simp[qS]
   generalize xs[j]=f at hgj hT
   have hcf:=hcb f
   have hclf:=hcl f
   have hyl:(cC (bM l f)).length≤1073741824:=by rw[cC,List.length_map];omega
   generalize cC (bM l f)=ys at*
   generalize qS l k (xs.take j)=b0 at hT⊢
   simp-implicitDefEqProofs[hgj]
   refine hcf.use ?_
   simp-implicitDefEqProofs[hsl]
   refine aJ (fun q:Nat=>aj 123 [(3,.ptr 0 1 0 0),(4,.p (cG xs)),(81,.p (cG zs)),(82,.p (.int .i64 ((xs.length-1:Nat):Int))),(83,.p (.int .i64 i)),(13,.p (.int .i64 k)),(14,.p (.bool (orC b0 ys k q))),(87,.p (cG xs)),(88,.p (.int .i64 xs.length)),(89,.p (.int .i64 j)),(95,.p (cG ys)),(96,.p (.int .i64 ys.length)),(97,.p (.int .i64 q))]) (fun _=>[.row 1 [[.p (fdL l)]]]) (fun q=>q≤ys.length) (fun q=>ys.length-q) 0 (by simp) ?_ ?_
   ·exact ab (h:=[.row 1 [[.p (fdL l)]]]) (by simp) (by simp[okO,below]) (by simp[below,hsl,DS])
   intro q hql
   simp-implicitDefEqProofs[hsl]
   refine aS (fun h3=>?_) (fun h3=>?_)
   ·simp at h3
    have hgq:=List.getElem?_eq_getElem h3
    have hTq:=Cg b0 k h3
    generalize ys[q]=y at hgq hTq
    generalize orC b0 ys k q=b1 at hTq⊢
    cases b1 with
    |true=>
     rw[Bool.true_or] at hTq
     simp-implicitDefEqProofs[hgq]
     refine⟨q+1,h3,by omega,?_⟩
     rw[hTq]
     exact ab (h:=[.row 1 [[.p (fdL l)]]]) (by simp) (by simp[okO,below]) (by simp[below,hsl,w1 (i:=q) (by omega)])
    |false=>
     rw[Bool.false_or] at hTq
     simp-implicitDefEqProofs[hgq]
     refine⟨q+1,h3,by omega,?_⟩
     rw[hTq]
     exact ab (h:=[.row 1 [[.p (fdL l)]]]) (by simp) (by simp[okO,below]) (by simp[below,hsl,w1 (i:=q) (by omega)])
   ·simp at h3
    have hqe:q=ys.length:=by omega
    subst hqe
    rw[EU]
    simp-implicitDefEqProofs[]
    refine⟨j+1,h2,by omega,?_⟩
    rw[hT]
    exact ab (h:=[.row 1 [[.p (fdL l)]]]) (by simp) (by simp[okO,below]) (by simp[below,hsl,w1 (i:=j) (by omega)])
  ·simp at h2
   have hje:j=xs.length:=by omega
   subst hje
   rw[List.take_length,hall]
   simp-implicitDefEqProofs[]
   exact⟨i+1,by omega,by omega,ab (h:=[.row 1 [[.p (fdL l)]]]) (by simp) (by simp[okO,below]) (by simp[below,hsl,w1 (i:=i) (by omega)])⟩
 ·simp at h1
  simp-implicitDefEqProofs[hw1,hlast,hfl,hlw]
end Go.Proofs.YtnjbhgpbgmpkcaaGreatDoor
