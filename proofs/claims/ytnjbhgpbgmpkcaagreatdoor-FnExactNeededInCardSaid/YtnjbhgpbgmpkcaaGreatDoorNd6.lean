/-
  Contracts and lemmas that the card needs, part 6.
-/
import Derived.Test.YtnjbhgpbgmpkcaaGreatDoorNd5
import Derived.Test.YtnjbhgpbgmpkcaaGreatDoorChecked
import Derived.Shelf.Sort.AssemblyIn
import Derived.Shelf.Slices.CompactI
import Derived.Sort.Grow
import Derived.Shelf.Sort.Plain
namespace Go.Proofs.YtnjbhgpbgmpkcaaGreatDoor
open Go Go.Aw
set_option maxRecDepth 100000
theorem cz{s:Bool}{h:List AO}{vs:List AV}{q:PV}{I:List Nat}(H:OwnL s h vs [q] I):∃v,vs=[v]:=by
 have:=H.len
 match vs,this with
 |[v],_=>exact⟨v,rfl⟩
theorem Gp{s:Bool}{h:List AO}{vs:List AV}{q r:PV}{I:List Nat}(H:OwnL s h vs [q,r] I):∃a b,vs=[a,b]:=by
 have:=H.len
 match vs,this with
 |[a,b],_=>exact⟨a,b,rfl⟩
theorem AL{s:Bool}{h:List AO}{vs:List AV}{q r t:PV}{I:List Nat}(H:OwnL s h vs [q,r,t] I):∃a b c,vs=[a,b,c]:=by
 have:=H.len
 match vs,this with
 |[a,b,c],_=>exact⟨a,b,c,rfl⟩
theorem Cj{s:Bool}{h:List AO}{vs:List AV}{e:Ex}{I:List Nat}(H:OwnL s h vs e.cs I):∃K,vs=[.p (.int .i64 e.op),.p (.int .i64 e.n),.p (.str e.name),K]∧OwnL s h [K] [exL e.kids] I:=by
 rw[e.cs_eq] at H
 cases H with
 |p _ _ H=>
  cases H with
  |p _ _ H=>
   cases H with
   |p _ _ H=>
    obtain⟨v,rfl⟩:=cz H
    exact⟨v,rfl,H⟩
theorem GQ{s:Bool}{h:List AO}{o n:Int}{w:List UInt8}{k:List Ex}{K:AV}{I:List Nat}(H:OwnL s h [K] [exL k] I):OwnL s h [.p (.int .i64 o),.p (.int .i64 n),.p (.str w),K] (Ex.mk o n w k).cs I:=by
 rw[Ex.cs_eq]
 exact .p _ (fun _=>rfl) (.p _ (fun _=>rfl) (.p _ (fun _=>rfl) H))
theorem Dh{s:Bool}{h:List AO}{vs:List AV}{e:Sm}{I:List Nat}(H:OwnL s h vs e.cs I):∃A B E I1 I2 I3,vs=[.p (.int .i64 e.op),.p (.str e.name),A,B,E]∧I=I1++(I2++I3)∧OwnL s h [A] [exL e.args] I1∧OwnL s h [B] [smL e.body] I2∧OwnL s h [E] [smL e.els] I3:=by
 rw[e.cs_eq] at H
 cases H with
 |p _ _ H=>
  cases H with
  |p _ _ H=>
   obtain⟨A,B,E,rfl⟩:=AL H
   obtain⟨I1,I',rfl,h1,H⟩:=H.one
   obtain⟨I2,I3,rfl,h2,h3⟩:=H.one
   exact⟨A,B,E,I1,I2,I3,rfl,rfl,h1,h2,h3⟩
theorem GH{s:Bool}{h:List AO}{o:Int}{w:List UInt8}{a:List Ex}{b e:List Sm}{A B E:AV}{I1 I2 I3:List Nat}(h1:OwnL s h [A] [exL a] I1)(h2:OwnL s h [B] [smL b] I2)(h3:OwnL s h [E] [smL e] I3):
 OwnL s h [.p (.int .i64 o),.p (.str w),A,B,E] (Sm.mk o w a b e).cs (I1++(I2++I3)):=by
 rw[Sm.cs_eq]
 exact .p _ (fun _=>rfl) (.p _ (fun _=>rfl) (h1.app (h2.app h3)))
theorem DF{s:Bool}{h:List AO}{vs:List AV}{f:Fd}{I:List Nat}(H:OwnL s h vs f.cs I):∃A B I1 I2,vs=[.p (.str f.name),A,B]∧I=I1++I2∧OwnL s h [A] [aC f.params] I1∧OwnL s h [B] [smL f.body] I2:=by
 rw[show f.cs=[.str f.name,aC f.params,smL f.body] from rfl] at H
 cases H with
 |p _ _ H=>
  obtain⟨A,B,rfl⟩:=Gp H
  obtain⟨I1,I2,rfl,h1,H⟩:=H.one
  exact⟨A,B,I1,I2,rfl,rfl,h1,H⟩
theorem HC{s:Bool}{h:List AO}{w:List UInt8}{ps:List (List UInt8)}{b:List Sm}{A B:AV}{I1 I2:List Nat}(h1:OwnL s h [A] [aC ps] I1)(h2:OwnL s h [B] [smL b] I2):OwnL s h [.p (.str w),A,B] (Fd.mk w ps b).cs (I1++I2):=
 .p _ (fun _=>rfl) (h1.app h2)
end Go.Proofs.YtnjbhgpbgmpkcaaGreatDoor
namespace Go.Proofs.YtnjbhgpbgmpkcaaGreatDoor
open Go Go.Aw
set_option maxRecDepth 100000
set_option maxHeartbeats 4000000
structure HV (σ:Type) where
 F:FuncId
 caps:List AV
 n:Nat
 Inv:σ→Nat→List AO→Prop
 capsOk:aj n caps
 len:∀{st id h},Inv st id h→n≤h.length∧id<h.length
 frame:∀{st id h h'},Inv st id h→(∀i,i<h.length→i<n∨i=id→h'[i]?=h[i]?)→Inv st id h'
def HV.Left{σ:Type}(V:HV σ)(id:Nat)(h:List AO)(st':σ)(h':List AO):Prop:=
 ∃id',V.Inv st' id' h'∧h.length≤h'.length∧(∀i,i<h.length→V.n≤i→i≠id→h'[i]?=h[i]?)∧(id'=id∨h.length≤id')
structure HS where (i id:Nat) (h:List AO)
theorem HV.more{σ:Type}(V:HV σ){st:σ}{id:Nat}{h:List AO}(H:V.Inv st id h)(os:List AO):V.Inv st id (h++os):=
 V.frame H fun i hi _=>List.getElem?_append_left hi
theorem HV.Left.trans{σ:Type}{V:HV σ}{id id1:Nat}{h h1 h2:List AO}{st2:σ}(hl:h.length≤h1.length)(hk:∀i,i<h.length→V.n≤i→i≠id→h1[i]?=h[i]?)(hi:id1=id∨h.length≤id1)(L:V.Left id1 h1 st2 h2):V.Left id h st2 h2:=by
 obtain⟨id2,a1,a2,a3,a4⟩:=L
 refine⟨id2,a1,by omega,fun i h1 h2 h3=>?_,?_⟩
 ·rw[a3 i (by omega) h2 (by rcases hi with e|e<;>omega),hk i h1 h2 h3]
 ·rcases a4 with e|e
  ·rw[e];exact hi
  ·right;omega
mutual
theorem Fw{σ:Type}{step:σ→Ex→σ}{inv:σ→Nat→Prop}(hs:∀st e k,inv st (k+1)→inv (step st e) k):∀(e:Ex) (st:σ) (k:Nat),inv st (k+e.parts)→inv (e.pre.foldl step st) k
 | .mk o n w ks,st,k,h=>by
   have hp:(Ex.mk o n w ks).parts=1+aB ks:=Ex.parts_eq _
   rw[hp,show k+(1+aB ks)=k+aB ks+1 by omega] at h
   rw[Ex.pre_eq,List.foldl_cons]
   exact lF hs ks _ k (hs _ _ _ h)
theorem lF{σ:Type}{step:σ→Ex→σ}{inv:σ→Nat→Prop}(hs:∀st e k,inv st (k+1)→inv (step st e) k):∀(l:List Ex) (st:σ) (k:Nat),inv st (k+aB l)→inv ((bC l).foldl step st) k
 |[],st,k,h=>by simpa[bC,aB] using h
 |e::r,st,k,h=>by
  rw[aB,show k+(e.parts+aB r)=k+aB r+e.parts by omega] at h
  rw[bC,List.foldl_append]
  exact lF hs r _ k (Fw hs e st _ h)
end
variable (G:aw)
theorem DK{σ:Type}(V:HV σ)(step:σ→Ex→σ)(inv:σ→Nat→Prop)(B:Nat)(hB:B≤1073741824)(hs:∀st e k,inv st (k+1)→inv (step st e) k)
 (hv:∀st e k id h,inv st (k+1)→e.sz≤B→V.Inv st id h→AC Tryz.prog G V.F (.agg (e.cs.map .p)::V.caps) h fun x h'=>x= .ret (.tup [])∧V.Left id h (step st e) h'):
 ∀(N:Nat) (e:Ex),e.sz<N→e.sz≤B→∀st k id h,inv st (k+e.parts)→V.Inv st id h→AC Tryz.prog G dL [.agg (e.cs.map .p),.fn (.func V.F) V.caps] h fun x h'=>x= .ret (.tup [])∧V.Left id h (e.pre.foldl step st) h':=by
 intro N
 induction N with
 |zero=>intro e h;omega
 |succ N ih=>
  intro e he hz st k id h hi hI
  have hec:=e.cs_eq
  have hsz:=e.sz_eq
  have hpe:=e.parts_eq
  have hkl:=aW e.kids
  have hxl:exL e.kids= .lst 4 (e.kids.map Ex.cs):=rfl
  have hcb:=V.capsOk
  obtain⟨hn,hid⟩:=V.len hI
  rw[hpe,show k+(1+aB e.kids)=(k+aB e.kids)+1 by omega] at hi
  have h1:=fun h hI=>hv st e (k+aB e.kids) id h hi hz hI
  have i1:=hs st e _ hi
  refine AC.go ou ?_
  rw[hec] at h1
  simp-implicitDefEqProofs[kE,hec]
  refine(h1 _ (V.more hI _)).mono ?_
  rintro r h2 ⟨rfl,id2,L1,L2,L3,L4⟩
  rw[List.length_append] at L2 L3 L4
  simp only[List.length_cons,List.length_nil] at L2 L3 L4
  have hbox:h2[h.length]?=some (.row 4 [[.p (.int .i64 e.op),.p (.int .i64 e.n),.p (.str e.name),.p (exL e.kids)]]):=by
   rw[L3 _ (by omega) hn (by omega)];simp
  simp-implicitDefEqProofs[aa,hbox,hxl]
  refine aq (fun a:HS=>af 20 [(1,.fn (.func V.F) V.caps),(2,.ptr h.length 4 0 0),(10,.p (exL e.kids)),(11,.p (.int .i64 e.kids.length)),(12,.p (.int .i64 a.i))])
   (fun a=>a.h) (fun a=>a.i≤e.kids.length∧V.Inv ((bC (e.kids.take a.i)).foldl step (step st e)) a.id a.h∧h.length<a.h.length∧(∀i,i<h.length→V.n≤i→i≠id→a.h[i]?=h[i]?)∧(a.id=id∨h.length<a.id)) (fun a=>e.kids.length-a.i) ⟨0,id2,h2⟩ ⟨Nat.zero_le _,L1,(by show h.length<h2.length;omega),fun i a1 a2 a3=>?_,(by show id2=id∨h.length<id2;omega)⟩ ?_ ?_
  ·show h2[i]?=h[i]?
   rw[L3 i (by omega) a2 a3,List.getElem?_append_left a1]
  ·exact aP (by omega) (by simp[below,hxl];exact⟨aL (by omega) _ hcb,by omega⟩)
  rintro⟨i,idc,hc⟩ ⟨hil,hIc,hlc,hkc,hic⟩
  simp only at hil hIc hlc hkc hic
  simp-implicitDefEqProofs[hxl]
  refine aQ (fun hcc=>?_) (fun hcc=>?_)
  ·simp at hcc
   have hg:=List.getElem?_eq_getElem hcc
   have hks:=aO (List.getElem_mem hcc)
   have hkc2:=e.kids[i].cs_eq
   have hT:e.kids.take (i+1)=e.kids.take i++[e.kids[i]]:=ah hcc
   have hsum:aB e.kids=aB (e.kids.take i)+(e.kids[i].parts+aB (e.kids.drop (i+1))):=by
    have e1:aB e.kids=aB (e.kids.take i)+aB (e.kids.drop i):=by rw[←cu,List.take_append_drop]
    have e2:aB (e.kids.drop i)=e.kids[i].parts+aB (e.kids.drop (i+1)):=by rw[List.drop_eq_getElem_cons hcc,aB]
    omega
   have hic2:inv ((bC (e.kids.take i)).foldl step (step st e)) (k+aB (e.kids.drop (i+1))+e.kids[i].parts):=
    lF hs _ _ _ (by rw[show k+aB (e.kids.drop (i+1))+e.kids[i].parts+aB (e.kids.take i)=k+aB e.kids by omega];exact i1)
   have hA:=fun os=>ih e.kids[i] (by omega) (by omega) _ _ idc (hc++os) hic2 (V.more hIc os)
   have hf:(bC (e.kids.take (i+1))).foldl step (step st e)=e.kids[i].pre.foldl step ((bC (e.kids.take i)).foldl step (step st e)):=by
    rw[hT,jU,List.foldl_append,bC,bC,List.append_nil]
   rw[hkc2] at hA
   simp-implicitDefEqProofs[hg,hkc2]
   refine(hA _).mono ?_
   rintro r h3 ⟨rfl,id3,M1,M2,M3,M4⟩
   rw[List.length_append] at M2 M3 M4
   simp only[List.length_cons,List.length_nil] at M2 M3 M4
   have hn3:=(V.len M1).1
   simp-implicitDefEqProofs[aa]
   refine⟨⟨i+1,id3,h3⟩,⟨hcc,by rw[hf];exact M1,by show h.length<h3.length;omega,fun j a1 a2 a3=>?_,?_⟩,by show e.kids.length-(i+1)<e.kids.length-i;omega,aP (by show h.length≤h3.length;omega) ?_⟩
   ·show h3[j]?=h[j]?
    rw[M3 j (by omega) a2 (by omega),List.getElem?_append_left (by omega),hkc j a1 a2 a3]
   ·show id3=id∨h.length<id3
    omega
   ·simp[below,hxl,w1 (i:=i) (by omega)]
    exact⟨aL (by omega) _ hcb,by omega⟩
  ·simp at hcc
   have hie:i=e.kids.length:=by omega
   subst hie
   rw[List.take_length] at hIc
   rw[Ex.pre_eq,List.foldl_cons]
   simp-implicitDefEqProofs[]
   exact⟨idc,hIc,by omega,hkc,by omega⟩
def Sm.own(s:Sm):Nat:=1+s.name.length+bv s.args
theorem Sm.own_sz(s:Sm):s.sz=s.own+au s.body+au s.els:=by rw[s.sz_eq,Sm.own]
mutual
theorem GX{σ:Type}{step:σ→Sm × Nat→σ}{inv:σ→Nat→Prop}(hs:∀st (s:Sm) d k,inv st (k+s.own)→inv (step st (s,d)) k):∀(s:Sm) (d:Nat) (st:σ) (k:Nat),inv st (k+s.sz)→inv ((s.pre d).foldl step st) k
 | .mk o n a b e,d,st,k,h=>by
   rw[Sm.own_sz] at h
   rw[Sm.pre_eq,List.foldl_cons,List.foldl_append]
   refine mD hs e _ _ k (mD hs b _ _ _ (hs _ _ _ _ ?_))
   rw[show k+au e+au b+(Sm.mk o n a b e).own=k+((Sm.mk o n a b e).own+au b+au e) by omega]
   exact h
theorem mD{σ:Type}{step:σ→Sm × Nat→σ}{inv:σ→Nat→Prop}(hs:∀st (s:Sm) d k,inv st (k+s.own)→inv (step st (s,d)) k):∀(l:List Sm) (d:Nat) (st:σ) (k:Nat),inv st (k+au l)→inv ((aJ d l).foldl step st) k
 |[],d,st,k,h=>by simpa[aJ,au] using h
 |s::r,d,st,k,h=>by
  rw[au,show k+(s.sz+au r)=k+au r+s.sz by omega] at h
  rw[aJ,List.foldl_append]
  exact mD hs r d _ k (GX hs s d st _ h)
end
theorem Du{σ:Type}(V:HV σ)(step:σ→Sm × Nat→σ)(inv:σ→Nat→Prop)(B:Nat)(hB:B≤1073741824)(hs:∀st (s:Sm) d k,inv st (k+s.own)→inv (step st (s,d)) k)
 (hv:∀st (s:Sm) d k id h,inv st (k+s.own)→s.sz≤B→V.Inv st id h→AC Tryz.prog G V.F (.agg (s.cs.map .p):: .p (.int .i64 (d:Nat))::V.caps) h fun x h'=>x= .ret (.tup [])∧V.Left id h (step st (s,d)) h'):
 ∀(N:Nat) (l:List Sm),au l<N→au l≤B→∀(d:Nat),d+au l≤1099511627776→∀st k id h,inv st (k+au l)→V.Inv st id h→AC Tryz.prog G cR [.p (smL l),.p (.int .i64 d),.fn (.func V.F) V.caps] h fun x h'=>x= .ret (.tup [])∧V.Left id h ((aJ d l).foldl step st) h':=by
 intro N
 induction N with
 |zero=>intro l h;omega
 |succ N ih=>
  intro l hl hz d hd st k id h hi hI
  have hll:=aZ l
  have hsl:∀l,smL l= .lst 5 (l.map Sm.cs):=fun _=>rfl
  have hcb:=V.capsOk
  obtain⟨hn,hid⟩:=V.len hI
  refine AC.go oW ?_
  simp-implicitDefEqProofs[kf,hsl]
  refine aq (fun a:HS=>af 31 [(1,.p (.int .i64 d)),(2,.fn (.func V.F) V.caps),(8,.p (smL l)),(9,.p (.int .i64 l.length)),(10,.p (.int .i64 a.i))])
   (fun a=>a.h) (fun a=>a.i≤l.length∧V.Inv ((aJ d (l.take a.i)).foldl step st) a.id a.h∧h.length≤a.h.length∧(∀i,i<h.length→V.n≤i→i≠id→a.h[i]?=h[i]?)∧(a.id=id∨h.length≤a.id)) (fun a=>l.length-a.i) ⟨0,id,h⟩ ⟨Nat.zero_le _,hI,Nat.le_refl _,fun i _ _ _=>rfl,.inl rfl⟩ ?_ ?_
  ·exact aP (Nat.le_refl _) (by simp[below,hsl];exact aL (by omega) _ hcb)
  rintro⟨i,idc,hc⟩ ⟨hil,hIc,hlc,hkc,hic⟩
  simp only at hil hIc hlc hkc hic
  simp-implicitDefEqProofs[hsl]
  refine aQ (fun hcc=>?_) (fun hcc=>?_)
  ·simp at hcc
   have hg:=List.getElem?_eq_getElem hcc
   have hks:=aN (List.getElem_mem hcc)
   have hse:=l[i].cs_eq
   have hsz:=l[i].own_sz
   have hown:1≤l[i].own:=by unfold Sm.own;omega
   have hT:l.take (i+1)=l.take i++[l[i]]:=ah hcc
   have hsum:au l=au (l.take i)+(l[i].sz+au (l.drop (i+1))):=by
    have e1:au l=au (l.take i)+au (l.drop i):=by rw[←lb,List.take_append_drop]
    have e2:au (l.drop i)=l[i].sz+au (l.drop (i+1)):=by rw[List.drop_eq_getElem_cons hcc,au]
    omega
   have i0:inv ((aJ d (l.take i)).foldl step st) (k+au (l.drop (i+1))+au l[i].els+au l[i].body+l[i].own):=
    mD hs _ _ _ _ (by rw[show k+au (l.drop (i+1))+au l[i].els+au l[i].body+l[i].own+au (l.take i)=k+au l by omega];exact hi)
   have i1:=hs _ l[i] d _ i0
   have i2:=mD hs l[i].body (d+1) _ _ i1
   have hf:(aJ d (l.take (i+1))).foldl step st=(l[i].pre d).foldl step ((aJ d (l.take i)).foldl step st):=by
    rw[hT,kF,List.foldl_append,aJ,aJ,List.append_nil]
   rw[Sm.pre_eq,List.foldl_cons,List.foldl_append] at hf
   have hwd:IntKind.i64.wrap ((d:Int)+1)=((d+1:Nat):Int):=by rw[al (by omega) (by omega)];omega
   have h1:=fun os=>hv _ l[i] d _ idc (hc++os) i0 (by omega) (V.more hIc os)
   have h2:=fun st2 id2 hh=>ih l[i].body (by omega) (by omega) (d+1) (by omega) st2 (k+au (l.drop (i+1))+au l[i].els) id2 hh
   have h3:=fun st2 id2 hh=>ih l[i].els (by omega) (by omega) (d+1) (by omega) st2 (k+au (l.drop (i+1))) id2 hh
   rw[hse] at h1
   simp-implicitDefEqProofs[hg,hse]
   refine(h1 _).mono ?_
   rintro r g1 ⟨rfl,id3,M1,M2,M3,M4⟩
   rw[List.length_append] at M2 M3 M4
   simp only[List.length_cons,List.length_nil] at M2 M3 M4
   have hbox:g1[hc.length]?=some (.row 5 [[.p (.int .i64 l[i].op),.p (.str l[i].name),.p (exL l[i].args),.p (smL l[i].body),.p (smL l[i].els)]]):=by
    rw[M3 _ (by omega) (by have:=(V.len hIc).1;omega) (by have:=(V.len hIc).2;omega)];simp
   simp-implicitDefEqProofs[aa,hbox,hwd]
   refine(h2 _ id3 g1 i1 M1).mono ?_
   rintro r g2 ⟨rfl,id4,P1,P2,P3,P4⟩
   have hbox2:g2[hc.length]?=some (.row 5 [[.p (.int .i64 l[i].op),.p (.str l[i].name),.p (exL l[i].args),.p (smL l[i].body),.p (smL l[i].els)]]):=by
    rw[P3 _ (by omega) (by have:=(V.len hIc).1;omega) (by have:=(V.len hIc).2;omega),hbox]
   simp-implicitDefEqProofs[aa,hbox2,hwd]
   refine(h3 _ id4 g2 i2 P1).mono ?_
   rintro r g3 ⟨rfl,id5,Q1,Q2,Q3,Q4⟩
   simp-implicitDefEqProofs[aa]
   refine⟨⟨i+1,id5,g3⟩,⟨hcc,by rw[hf];exact Q1,by show h.length≤g3.length;omega,fun j a1 a2 a3=>?_,?_⟩,by show l.length-(i+1)<l.length-i;omega,aP (by show h.length≤g3.length;omega) ?_⟩
   ·show g3[j]?=h[j]?
    rw[Q3 j (by omega) a2 (by omega),P3 j (by omega) a2 (by omega),M3 j (by omega) a2 (by omega),List.getElem?_append_left (by omega),hkc j a1 a2 a3]
   ·show id5=id∨h.length≤id5
    omega
   ·simp[below,hsl,w1 (i:=i) (by omega)]
    exact aL (by omega) _ hcb
  ·simp at hcc
   have hie:i=l.length:=by omega
   subst hie
   rw[List.take_length] at hIc
   simp-implicitDefEqProofs[]
   exact⟨idc,hIc,hlc,hkc,hic⟩
end Go.Proofs.YtnjbhgpbgmpkcaaGreatDoor
namespace Go.Proofs.YtnjbhgpbgmpkcaaGreatDoor
open Go
def lays189_ren:Go.Shelf.Ren:=⟨fun|125=>157|128=>185|129=>186|189=>122|215=>206|216=>182|257=>156|294=>176|295=>177|296=>178|297=>179|298=>180|299=>181|300=>183|301=>184|328=>201|329=>202|330=>203|331=>204|332=>205|343=>216|n=>n,fun|0=>0|3=>3|4=>4|5=>5|9=>9|28=>45|46=>173|51=>199|53=>201|131=>97|182=>191|183=>192|218=>214|222=>218|228=>230|229=>106|n=>n,fun n=>n⟩
theorem zS:Lays.n189 Tryz.prog lays189_ren where
 mixed:=by kernel_rfl
 f125:=Tryz.func157.trans (congrArg some (by kernel_rfl))
 f128:=Tryz.func185.trans (congrArg some (by kernel_rfl))
 f129:=Tryz.func186.trans (congrArg some (by kernel_rfl))
 f189:=Tryz.func122.trans (congrArg some (by kernel_rfl))
 f215:=Tryz.func206.trans (congrArg some (by kernel_rfl))
 f216:=Tryz.func182.trans (congrArg some (by kernel_rfl))
 f257:=Tryz.func156.trans (congrArg some (by kernel_rfl))
 f294:=Tryz.func176.trans (congrArg some (by kernel_rfl))
 f295:=Tryz.func177.trans (congrArg some (by kernel_rfl))
 f296:=Tryz.func178.trans (congrArg some (by kernel_rfl))
 f297:=Tryz.func179.trans (congrArg some (by kernel_rfl))
 f298:=Tryz.func180.trans (congrArg some (by kernel_rfl))
 f299:=Tryz.func181.trans (congrArg some (by kernel_rfl))
 f300:=Tryz.func183.trans (congrArg some (by kernel_rfl))
 f301:=Tryz.func184.trans (congrArg some (by kernel_rfl))
 f328:=Tryz.func201.trans (congrArg some (by kernel_rfl))
 f329:=Tryz.func202.trans (congrArg some (by kernel_rfl))
 f330:=Tryz.func203.trans (congrArg some (by kernel_rfl))
 f331:=Tryz.func204.trans (congrArg some (by kernel_rfl))
 f332:=Tryz.func205.trans (congrArg some (by kernel_rfl))
 f343:=Tryz.func216.trans (congrArg some (by kernel_rfl))
 t0:=Tryz.underlying0
 a0:=Tryz.isAgg0
 z0:=Tryz.sizeOf0
 v0:=Tryz.zeroValue0
 t3:=Tryz.underlying3
 a3:=Tryz.isAgg3
 z3:=Tryz.sizeOf3
 v3:=Tryz.zeroValue3
 t4:=Tryz.underlying4
 a4:=Tryz.isAgg4
 z4:=Tryz.sizeOf4
 v4:=Tryz.zeroValue4
 t5:=Tryz.underlying5
 a5:=Tryz.isAgg5
 z5:=Tryz.sizeOf5
 v5:=Tryz.zeroValue5
 t9:=Tryz.underlying9
 a9:=Tryz.isAgg9
 z9:=Tryz.sizeOf9
 v9:=Tryz.zeroValue9
 t28:=Tryz.underlying45
 a28:=Tryz.isAgg45
 z28:=Tryz.sizeOf45
 v28:=Tryz.zeroValue45
 t46:=Tryz.underlying173
 a46:=Tryz.isAgg173
 z46:=Tryz.sizeOf173
 v46:=Tryz.zeroValue173
 t51:=Tryz.underlying199
 a51:=Tryz.isAgg199
 z51:=Tryz.sizeOf199
 v51:=Tryz.zeroValue199
 t53:=Tryz.underlying201
 a53:=Tryz.isAgg201
 z53:=Tryz.sizeOf201
 v53:=Tryz.zeroValue201
 t131:=Tryz.underlying97
 a131:=Tryz.isAgg97
 z131:=Tryz.sizeOf97
 v131:=Tryz.zeroValue97
 t182:=Tryz.underlying191
 a182:=Tryz.isAgg191
 z182:=Tryz.sizeOf191
 v182:=Tryz.zeroValue191
 t183:=Tryz.underlying192
 a183:=Tryz.isAgg192
 z183:=Tryz.sizeOf192
 v183:=Tryz.zeroValue192
 t218:=Tryz.underlying214
 a218:=Tryz.isAgg214
 z218:=Tryz.sizeOf214
 v218:=Tryz.zeroValue214
 t222:=Tryz.underlying218
 a222:=Tryz.isAgg218
 z222:=Tryz.sizeOf218
 v222:=Tryz.zeroValue218
 t228:=Tryz.underlying230
 a228:=Tryz.isAgg230
 z228:=Tryz.sizeOf230
 v228:=Tryz.zeroValue230
 t229:=Tryz.underlying106
 a229:=Tryz.isAgg106
 z229:=Tryz.sizeOf106
 v229:=Tryz.zeroValue106
def lays20_ren:Go.Shelf.Ren:=⟨fun|20=>123|n=>n,fun|0=>0|3=>3|4=>4|22=>45|n=>n,fun n=>n⟩
theorem Dw:Lays2.n20 Tryz.prog lays20_ren where
 mixed:=by kernel_rfl
 f20:=Tryz.func123.trans (congrArg some (by kernel_rfl))
 t0:=Tryz.underlying0
 a0:=Tryz.isAgg0
 z0:=Tryz.sizeOf0
 v0:=Tryz.zeroValue0
 t3:=Tryz.underlying3
 a3:=Tryz.isAgg3
 z3:=Tryz.sizeOf3
 v3:=Tryz.zeroValue3
 t4:=Tryz.underlying4
 a4:=Tryz.isAgg4
 z4:=Tryz.sizeOf4
 v4:=Tryz.zeroValue4
 t22:=Tryz.underlying45
 a22:=Tryz.isAgg45
 z22:=Tryz.sizeOf45
 v22:=Tryz.zeroValue45
 i3:=by kernel_rfl
end Go.Proofs.YtnjbhgpbgmpkcaaGreatDoor
namespace Go.Aw
open Go Go.Sort
section
variable {G:aw} {W:World} {S:Nat→Prop} {φ:Place} {h:List AO}
theorem HRel.grown(H:HRel G W S φ h)(os:Array Obj):HRel G (grow W os) S φ h∧Keep W S φ h (grow W os) S φ h:=by
 have hg:∀b,b<W.heap.size→(grow W os).heap[b]?=W.heap[b]?:=fun b hb=>by
  simp[grow,Array.getElem?_append,hb]
 have hS:∀b,S b→b<W.heap.size:=fun b hb=>(H.sep b hb).1
 have K:Kept W S φ h.length (grow W os) S φ h.length:=
  {pure:=fun b hb=>⟨hb,hg b (hS b hb)⟩
   len:=Nat.le_refl _
   same:=fun _ _=>rfl
   blk:=fun i hi c' t' fr' e=>by
    rw[hg _ (H.bnd i hi)] at e
    exact⟨c',t',fr',e,rfl⟩}
 have hs:W.heap.size≤(grow W os).heap.size:=by simp[grow]
 refine⟨⟨fun i s es e=>?_,fun i o e lo=>?_,H.inj,fun b hb=>⟨Nat.lt_of_lt_of_le (hS b hb) hs,(H.sep b hb).2⟩,fun i hi=>Nat.lt_of_lt_of_le (H.bnd i hi) hs,fun g cs hgl=>?_⟩,
  {K with os:=rfl,tape:=rfl,output:=rfl,size:=hs,out:=fun b hb _=>hg b hb,img:=fun i hi=> .inr ⟨i,hi,rfl⟩,newS:=fun b hb=> .inl hb}⟩
 ·obtain⟨c,t,fr,a1,a2,a3,a4,a5⟩:=H.obj i s es e
  refine⟨c,t,fr,by rw[hg _ (H.bnd i (H.lt e))];exact a1,a2,a3,a4,fun j a hj=>?_⟩
  obtain⟨b1,v,b2,b3⟩:=a5 j a hj
  exact⟨b1,v,b2,b3.kept K⟩
 ·rw[hg _ (H.bnd i (H.lt e))]
  exact(H.oobj i o e lo).mono fun a v r=>r.kept K
 ·obtain⟨g1,g2⟩:=H.glob g cs hgl
  refine⟨g1,fun j c' hj=>?_⟩
  obtain⟨v,k1,k2⟩:=g2 j c' hj
  exact⟨v,by rw[aK (K.pure g g1).2];exact k1,k2.mono K.pure⟩
end
theorem BR{α:Type}[Inhabited α](enc:α→Value){W:World}{n blk off:Nat}{d:Array α}{c:Array Value}{t:TypeId}{fr:Nat × Nat}(e:W.heap[blk]?=some (.cells c t fr)):
 BlockSet W (putRow enc (Go.Sort.ahead W n) blk off d) blk (putCells enc off d c) t fr where
 at_b:=by simp[putRow,mapBlock,Go.Sort.ahead,Array.getElem?_modify,e,onCells]
 other:=fun b' hb=>by
  have:¬blk=b':=fun e=>hb e.symm
  simp[putRow,mapBlock,Go.Sort.ahead,Array.getElem?_modify,this]
 size:=by simp[putRow,mapBlock,Go.Sort.ahead]
 os:=rfl
 tape:=rfl
 output:=rfl
def dN(xs:List Int):AO:= .row 1 (xs.map fun x=>[.p (.int .i64 x)])
theorem ux(xs:List Int):(xs.map fun x=>[AV.p (.int .i64 x)]).flatten=xs.map fun x=> .p (.int .i64 x):=by
 induction xs with
 |nil=>rfl
 |cons x r ih=>rw[List.map_cons,List.flatten_cons,ih];rfl
theorem AC.shelfInts{P:Program}{G:aw}{f:FuncId}{h:List AO}{id:Nat}{xs ys:List Int}{rv:AV}{r:Nat→Nat→Nat→Value}(hf:ee P f=true)(hid:h[id]?=some (dN xs))(hx:xs≠[])(hy:ys.length=xs.length)
 (hr:∀(W:World) (S:Nat→Prop) (φ:Place) (n cap:Nat),id<n→xs.length≤cap→(∀c t fr,W.heap[(φ id).1]?=some (.cells c t fr)→(φ id).2+cap≤c.size)→VRel W S φ n rv (r (φ id).1 (φ id).2 cap))
 (H:∀(blk off cap:Nat) (W:World),Holds (Value.int .i64) W blk off xs.toArray→blk<W.heap.size→xs.length≤cap→Calls P f #[.slice (some ⟨blk,off,none⟩) xs.length cap] W fun e W'=>e= .returned (r blk off cap)∧∃n os,W'=grow (putRow (Value.int .i64) (Go.Sort.ahead W n) blk off ys.toArray) os):
 AC P G f [.sl id 1 0 xs.length] h fun x h'=>x= .ret rv∧h'=h.set id (dN ys):=by
 refine⟨hf,fun W S φ vs hH hA=>?_⟩
 obtain⟨c,t,fr,a1,a2,a3,a4,a5⟩:=hH.obj id 1 _ hid
 rw[ux] at a5
 rw[List.length_map,Nat.mul_one] at a4
 have hidl:=hH.lt hid
 have hs1:vs.size=1:=hA.1
 obtain⟨v0,rfl⟩:∃v0,vs=#[v0]:=⟨vs[0],by
  apply Array.ext
  ·simp[hs1]
  ·intro i h1 h2
   have:i=0:=by omega
   subst this;rfl⟩
 have hv:=hA.2 0 _ v0 rfl rfl
 cases hv with
 |sl _ _ _ _ cap ba _ hl hb hc=>
  rw[Nat.zero_mul,Nat.add_zero] at hb
  have hxl:0<xs.length:=List.length_pos_iff.2 hx
  rw[hb (by omega)]
  have hcell:∀j,j<xs.length→c[(φ id).2+j]?=some (.int .i64 xs[j]!):=fun j hj=>by
   obtain⟨_,v,b2,b3⟩:=a5 j (.p (.int .i64 xs[j])) (by simp[hj])
   cases b3 with
   |p _ _ hp=>
    cases hp
    rw[b2];simp[hj]
  refine(H (φ id).1 (φ id).2 cap W (fun j hj=>?_) (hH.bnd id hidl) hl).mono ?_
  ·have hj':j<xs.length:=by simpa using hj
   refine⟨?_,?_⟩
   ·simp only[World.cell?,a1]
    have:=hcell j hj'
    simpa using this
   ·have:=a2 ((φ id).2+j) (by omega)
    simp only[World.frozen?,a1]
    simpa using this
  ·rintro e W' ⟨rfl,n,os,rfl⟩
   have B:=BR (Value.int .i64) (n:=n) (off:=(φ id).2) (d:=ys.toArray) a1
   have hU:=hH.update (es':=ys.map fun x=>[.p (.int .i64 x)]) hid a1 (by simp[putCells]) B (by simpa[putCells] using a2) (by simp) (by simp[putCells,hy];exact a4) (fun j a hj=>by
    rw[ux] at hj
    have hjl:j<ys.length:=by
     have:=(List.getElem?_eq_some_iff.1 hj).1
     simpa using this
    have ha:a= .p (.int .i64 ys[j]):=by
     rw[List.getElem?_map,List.getElem?_eq_getElem hjl] at hj
     cases hj;rfl
    subst ha
    refine⟨rfl,.int .i64 ys[j],?_,.p _ _ (.int _ _)⟩
    have hb:(φ id).2+j<c.size:=by omega
    simp[putCells,hb,hjl])
   have hG:=hU.1.grown os
   refine⟨.ret rv,S,φ,h.set id (dN ys),⟨rfl,rfl⟩,hG.1,.ret _ _ (hr _ _ _ _ _ (by simpa using hidl) hl fun c' t' fr' e'=>?_),hU.2.trans hG.2⟩
   have hlt:(φ id).1<(putRow (Value.int .i64) (Go.Sort.ahead W n) (φ id).1 (φ id).2 ys.toArray).heap.size:=by rw[B.size];exact hH.bnd id hidl
   have e2:(grow (putRow (Value.int .i64) (Go.Sort.ahead W n) (φ id).1 (φ id).2 ys.toArray) os).heap[(φ id).1]?=(putRow (Value.int .i64) (Go.Sort.ahead W n) (φ id).1 (φ id).2 ys.toArray).heap[(φ id).1]?:=by
    exact Array.getElem?_append_left hlt
   rw[e2,B.at_b] at e'
   cases e'
   have:=hc _ _ _ a1
   simp[putCells]
   omega
end Go.Aw
namespace Go.Proofs.YtnjbhgpbgmpkcaaGreatDoor
open Go Go.Aw
variable (G:aw)
theorem Et{h:List AO}{id:Nat}{xs:List Int}(hid:h[id]?=some (dN xs))(hx:xs≠[])(hb:xs.length<4611686018427387904):
 AC Tryz.prog G (lays189_ren.f 189) [.sl id 1 0 xs.length] h fun x h'=>x= .ret (.tup [])∧h'=h.set id (dN (xs.mergeSort fun x y=>decide (x≤y))):=
 AC.shelfInts (r:=fun _ _ _=> .tuple #[]) (by kernel_rfl) hid hx (by simp) (fun _ _ _ _ _ _ _ _=> .tup [] #[] rfl (fun j c v e=>by simp at e))
  fun blk off cap W hH hbk _=>Any.slices_Sort_int zS blk off cap xs W hH hbk hb
theorem Cd{h:List AO}{id:Nat}{xs:List Int}(hid:h[id]?=some (dN xs))(hx:xs≠[])(hb:xs.length≤9223372036854775807)(hl:(Lib.compact xs).length≤xs.length):
 AC Tryz.prog G (lays20_ren.f 20) [.sl id 1 0 xs.length] h fun x h'=>x= .ret (.sl id 1 0 (Lib.compact xs).length)∧h'=h.set id (dN (Lib.compact xs++List.replicate (xs.length-(Lib.compact xs).length) 0)):=by
 refine AC.shelfInts (r:=fun blk off cap=> .slice (some ⟨blk,off,none⟩) (Lib.compact xs).length cap) (by kernel_rfl) hid hx (by simp;omega) (fun W S φ n cap hi hc hs=>?_) fun blk off cap W hH hbk hcap=>?_
 ·exact .sl id 1 0 _ cap _ hi (by omega) (fun _=>by simp) (fun c t fr e=>by have:=hs c t fr e;omega)
 ·refine(Any.slices_Compact_int Dw blk off cap xs W hH hb hcap).mono ?_
  rintro e W' ⟨rfl,q,rfl⟩
  exact⟨rfl,q,#[],by simp⟩
end Go.Proofs.YtnjbhgpbgmpkcaaGreatDoor
namespace Go.Proofs.YtnjbhgpbgmpkcaaGreatDoor
open Go Go.Aw
set_option maxRecDepth 100000
abbrev aS:FuncId:=92
abbrev cS:FuncId:=93
abbrev dI:FuncId:=142
abbrev cG:FuncId:=94
abbrev hY:FuncId:=51
abbrev eU:FuncId:=18
abbrev iQ:FuncId:=115
abbrev eh:FuncId:=37
abbrev eB:FuncId:=38
abbrev eJ:FuncId:=39
def gJ:FK:=⟨20,[.t 2],
 .seq (.reg [oJ 2 (.mov (.c (.p (.str []))))])
 (.seq (.seq (.reg [oM 4 0,
   oJ 5 (.bin .leq (.t 4) (.c (.p (.int .i64 0))))])
 (.cond (.t 5)
  (.seq (.reg [oJ 2 (.mov (.c (.p (.str [109,48]))))])
  (.ret))
  (.skip)))
 (.seq (.reg [oJ 3 (.mov (.c (.p (.str []))))])
 (.seq (.blk 0 (.loop (.seq (.seq (.reg [oM 6 0,
   oJ 7 (.bin .gtr (.t 6) (.c (.p (.int .i64 0))))])
 (.cond (.t 7)
  (.skip)
  (.exit 0)))
 (.blk 1 (.seq (.reg [oM 8 0,
   oJ 9 (.bin .rem (.t 8) (.c (.p (.int .i64 10)))),
   oJ 10 (.bin .add (.c (.p (.int .i64 48))) (.t 9)),
   oJ 11 (.conv .u8 (.t 10)),
   oJ 12 (.bsl 1 [(.p (.int .u8 0))] 1 [(0,1,(.t 11))]),
   oJ 13 (.btos (.t 12)),
   oM 14 3,
   oJ 15 (.bins .add (.t 13) (.t 14)),
   oM 3 15])
 (.reg [oM 16 0,
   oJ 17 (.bin .quo (.t 16) (.c (.p (.int .i64 10)))),
   oM 0 17]))))))
 (.seq (.reg [oM 18 3,
   oJ 19 (.bins .add (.c (.p (.str [109]))) (.t 18)),
   oM 2 19])
 (.ret)))))⟩
theorem qL:ag Tryz.prog aS=some gJ:=by kernel_rfl
def cW:FK:=⟨20,[.t 4],
 .seq (.reg [oK 4 0])
 (.seq (.seq (.reg [oK 5 0])
 (.blk 0 (.loop (.seq (.seq (.reg [oM 6 5,
   oM 7 0,
   oJ 8 (.len false (.t 7)),
   oJ 9 (.bin .lss (.t 6) (.t 8))])
 (.cond (.t 9)
  (.skip)
  (.exit 0)))
 (.seq (.blk 1 (.seq (.reg [oM 12 0,
   oM 13 5,
   oM 14 1,
   oJ 15 (.call aS [(.t 14)]),
   oJ 16 (.idxS 1 (.t 12) (.t 13)),
   oS 16 15])
 (.reg [oM 17 1,
   oJ 18 (.bin .add (.t 17) (.c (.p (.int .i64 1)))),
   oM 1 18])))
 (.reg [oM 10 5,
   oJ 11 (.bin .add (.t 10) (.c (.p (.int .i64 1)))),
   oM 5 11]))))))
 (.seq (.reg [oM 19 1,
   oM 4 19])
 (.ret)))⟩
theorem cT:ag Tryz.prog cS=some cW:=by kernel_rfl
def dD:FK:=⟨42,[.t 4],
 .seq (.reg [oK 4 0])
 (.seq (.seq (.reg [oK 5 0])
 (.blk 0 (.loop (.seq (.seq (.reg [oM 6 5,
   oM 7 0,
   oJ 8 (.len false (.t 7)),
   oJ 9 (.bin .lss (.t 6) (.t 8))])
 (.cond (.t 9)
  (.skip)
  (.exit 0)))
 (.seq (.blk 1 (.seq (.reg [oM 12 0,
   oM 13 5,
   oM 14 1,
   oJ 15 (.idxS 4 (.t 12) (.t 13)),
   oF 16 0 15,
   oS 16 14])
 (.seq (.reg [oM 17 1,
   oJ 18 (.bin .add (.t 17) (.c (.p (.int .i64 1)))),
   oM 1 18])
 (.seq (.reg [oM 19 0,
   oM 20 5,
   oM 21 1,
   oJ 22 (.idxS 4 (.t 19) (.t 20)),
   oF 23 1 22,
   oS 23 21])
 (.seq (.reg [oM 24 1,
   oJ 25 (.bin .add (.t 24) (.c (.p (.int .i64 1)))),
   oM 1 25])
 (.seq (.reg [oM 26 0,
   oM 27 5,
   oM 28 1,
   oJ 29 (.call aS [(.t 28)]),
   oJ 30 (.idxS 4 (.t 26) (.t 27)),
   oF 31 2 30,
   oS 31 29])
 (.seq (.reg [oM 32 1,
   oJ 33 (.bin .add (.t 32) (.c (.p (.int .i64 1)))),
   oM 1 33])
 (.reg [oM 34 0,
   oM 35 5,
   oJ 36 (.idxS 4 (.t 34) (.t 35)),
   oF 37 3 36,
   oL 38 37,
   oM 39 1,
   oJ 40 (.call dI [(.t 38),(.t 39)]),
   oM 1 40]))))))))
 (.reg [oM 10 5,
   oJ 11 (.bin .add (.t 10) (.c (.p (.int .i64 1)))),
   oM 5 11]))))))
 (.seq (.reg [oM 41 1,
   oM 4 41])
 (.ret)))⟩
theorem fQ:ag Tryz.prog dI=some dD:=by kernel_rfl
def dJ:FK:=⟨49,[.t 4],
 .seq (.reg [oK 4 0])
 (.seq (.seq (.reg [oK 5 0])
 (.blk 0 (.loop (.seq (.seq (.reg [oM 6 5,
   oM 7 0,
   oJ 8 (.len false (.t 7)),
   oJ 9 (.bin .lss (.t 6) (.t 8))])
 (.cond (.t 9)
  (.skip)
  (.exit 0)))
 (.seq (.blk 1 (.seq (.reg [oM 12 0,
   oM 13 5,
   oM 14 1,
   oJ 15 (.idxS 5 (.t 12) (.t 13)),
   oF 16 0 15,
   oS 16 14])
 (.seq (.reg [oM 17 1,
   oJ 18 (.bin .add (.t 17) (.c (.p (.int .i64 1)))),
   oM 1 18])
 (.seq (.reg [oM 19 0,
   oM 20 5,
   oM 21 1,
   oJ 22 (.call aS [(.t 21)]),
   oJ 23 (.idxS 5 (.t 19) (.t 20)),
   oF 24 1 23,
   oS 24 22])
 (.seq (.reg [oM 25 1,
   oJ 26 (.bin .add (.t 25) (.c (.p (.int .i64 1)))),
   oM 1 26])
 (.seq (.reg [oM 27 0,
   oM 28 5,
   oJ 29 (.idxS 5 (.t 27) (.t 28)),
   oF 30 2 29,
   oL 31 30,
   oM 32 1,
   oJ 33 (.call dI [(.t 31),(.t 32)]),
   oM 1 33])
 (.seq (.reg [oM 34 0,
   oM 35 5,
   oJ 36 (.idxS 5 (.t 34) (.t 35)),
   oF 37 3 36,
   oL 38 37,
   oM 39 1,
   oJ 40 (.call cG [(.t 38),(.t 39)]),
   oM 1 40])
 (.reg [oM 41 0,
   oM 42 5,
   oJ 43 (.idxS 5 (.t 41) (.t 42)),
   oF 44 4 43,
   oL 45 44,
   oM 46 1,
   oJ 47 (.call cG [(.t 45),(.t 46)]),
   oM 1 47]))))))))
 (.reg [oM 10 5,
   oJ 11 (.bin .add (.t 10) (.c (.p (.int .i64 1)))),
   oM 5 11]))))))
 (.seq (.reg [oM 48 1,
   oM 4 48])
 (.ret)))⟩
theorem fN:ag Tryz.prog cG=some dJ:=by kernel_rfl
def fe:FK:=⟨35,[.t 4],
 .seq (.reg [oK 4 0])
 (.seq (.seq (.reg [oK 5 0])
 (.blk 0 (.loop (.seq (.seq (.reg [oM 6 5,
   oM 7 0,
   oJ 8 (.len false (.t 7)),
   oJ 9 (.bin .lss (.t 6) (.t 8))])
 (.cond (.t 9)
  (.skip)
  (.exit 0)))
 (.seq (.blk 1 (.seq (.reg [oM 12 0,
   oM 13 5,
   oM 14 1,
   oJ 15 (.call aS [(.t 14)]),
   oJ 16 (.idxS 3 (.t 12) (.t 13)),
   oF 17 0 16,
   oS 17 15])
 (.seq (.reg [oM 18 1,
   oJ 19 (.bin .add (.t 18) (.c (.p (.int .i64 1)))),
   oM 1 19])
 (.seq (.reg [oM 20 0,
   oM 21 5,
   oJ 22 (.idxS 3 (.t 20) (.t 21)),
   oF 23 1 22,
   oL 24 23,
   oM 25 1,
   oJ 26 (.call cS [(.t 24),(.t 25)]),
   oM 1 26])
 (.reg [oM 27 0,
   oM 28 5,
   oJ 29 (.idxS 3 (.t 27) (.t 28)),
   oF 30 2 29,
   oL 31 30,
   oM 32 1,
   oJ 33 (.call cG [(.t 31),(.t 32)]),
   oM 1 33])))))
 (.reg [oM 10 5,
   oJ 11 (.bin .add (.t 10) (.c (.p (.int .i64 1)))),
   oM 5 11]))))))
 (.seq (.reg [oM 34 1,
   oM 4 34])
 (.ret)))⟩
theorem iP:ag Tryz.prog hY=some fe:=by kernel_rfl
def ik:FK:=⟨10,[.t 4],
 .seq (.reg [oJ 2 (.box 1 (.t 0)),
  oK 4 0])
 (.seq (.reg [oF 5 0 2,
   oL 6 5,
   oM 7 1,
   oJ 8 (.call hY [(.t 6),(.t 7)]),
   oM 1 8])
 (.seq (.reg [oM 9 1,
   oM 4 9])
 (.ret)))⟩
theorem nC:ag Tryz.prog eU=some ik:=by kernel_rfl
def iR:FK:=⟨22,[.t 4],
 .seq (.reg [oK 4 0])
 (.seq (.seq (.reg [oK 5 0])
 (.blk 0 (.loop (.seq (.seq (.reg [oM 6 5,
   oM 7 0,
   oJ 8 (.len false (.t 7)),
   oJ 9 (.bin .lss (.t 6) (.t 8))])
 (.cond (.t 9)
  (.skip)
  (.exit 0)))
 (.seq (.blk 1 (.seq (.seq (.reg [oM 12 0,
   oM 13 5,
   oJ 14 (.idxS 1 (.t 12) (.t 13)),
   oM 16 1,
   oL 15 14,
   oJ 17 (.call aS [(.t 16)]),
   ⟨none,none,.chk none 14 15⟩,
   oJ 18 (.bins .neq (.t 15) (.t 17))])
 (.cond (.t 18)
  (.seq (.reg [oJ 4 (.mov (.c (.p (.int .i64 (-1)))))])
  (.ret))
  (.skip)))
 (.reg [oM 19 1,
   oJ 20 (.bin .add (.t 19) (.c (.p (.int .i64 1)))),
   oM 1 20])))
 (.reg [oM 10 5,
   oJ 11 (.bin .add (.t 10) (.c (.p (.int .i64 1)))),
   oM 5 11]))))))
 (.seq (.reg [oM 21 1,
   oM 4 21])
 (.ret)))⟩
theorem nQ:ag Tryz.prog iQ=some iR:=by kernel_rfl
def mU:FK:=⟨26,[.t 4],
 .seq (.reg [oJ 4 (.mov (.c (.p (.bool false))))])
 (.seq (.seq (.reg [oM 6 0,
   oJ 7 (.len false (.t 6)),
   oM 8 1,
   oJ 9 (.len false (.t 8)),
   oJ 10 (.bin .neq (.t 7) (.t 9))])
 (.cond (.t 10)
  (.seq (.reg [oJ 4 (.mov (.c (.p (.bool false))))])
  (.ret))
  (.skip)))
 (.seq (.seq (.reg [oK 5 0])
 (.blk 0 (.loop (.seq (.seq (.reg [oM 11 5,
   oM 12 0,
   oJ 13 (.len false (.t 12)),
   oJ 14 (.bin .lss (.t 11) (.t 13))])
 (.cond (.t 14)
  (.skip)
  (.exit 0)))
 (.seq (.blk 1 (.seq (.reg [oM 17 0,
   oM 18 5,
   oJ 19 (.idxS 1 (.t 17) (.t 18)),
   oM 21 1,
   oM 22 5,
   oJ 23 (.idxS 1 (.t 21) (.t 22)),
   oL 20 19,
   oL 24 23,
   oJ 25 (.bin .neq (.t 20) (.t 24))])
 (.cond (.t 25)
  (.seq (.reg [oJ 4 (.mov (.c (.p (.bool false))))])
  (.ret))
  (.skip))))
 (.reg [oM 15 5,
   oJ 16 (.bin .add (.t 15) (.c (.p (.int .i64 1)))),
   oM 5 16]))))))
 (.seq (.reg [oJ 4 (.mov (.c (.p (.bool true))))])
 (.ret))))⟩
theorem tV:ag Tryz.prog eh=some mU:=by kernel_rfl
def eE:FK:=⟨19,[.t 4],
 .seq (.reg [oK 4 0])
 (.seq (.seq (.reg [oK 5 0])
 (.blk 0 (.loop (.seq (.seq (.reg [oM 6 5,
   oM 7 0,
   oJ 8 (.len false (.t 7)),
   oJ 9 (.bin .lss (.t 6) (.t 8))])
 (.cond (.t 9)
  (.skip)
  (.exit 0)))
 (.seq (.blk 1 (.seq (.reg [oM 12 0,
   oM 13 5,
   oM 14 1,
   oJ 15 (.idxS 1 (.t 12) (.t 13)),
   oS 15 14])
 (.reg [oM 16 1,
   oJ 17 (.bin .add (.t 16) (.c (.p (.int .i64 1)))),
   oM 1 17])))
 (.reg [oM 10 5,
   oJ 11 (.bin .add (.t 10) (.c (.p (.int .i64 1)))),
   oM 5 11]))))))
 (.seq (.reg [oM 18 1,
   oM 4 18])
 (.ret)))⟩
theorem eG:ag Tryz.prog eB=some eE:=by kernel_rfl
def kO:FK:=⟨21,[.t 4],
 .seq (.reg [oK 4 0])
 (.seq (.seq (.reg [oK 5 0])
 (.blk 0 (.loop (.seq (.seq (.reg [oM 6 5,
   oM 7 0,
   oJ 8 (.len false (.t 7)),
   oJ 9 (.bin .lss (.t 6) (.t 8))])
 (.cond (.t 9)
  (.skip)
  (.exit 0)))
 (.seq (.blk 1 (.seq (.seq (.reg [oM 12 0,
   oM 13 5,
   oJ 14 (.idxS 1 (.t 12) (.t 13)),
   oL 15 14,
   oM 16 1,
   oJ 17 (.bin .neq (.t 15) (.t 16))])
 (.cond (.t 17)
  (.seq (.reg [oJ 4 (.mov (.c (.p (.int .i64 (-1)))))])
  (.ret))
  (.skip)))
 (.reg [oM 18 1,
   oJ 19 (.bin .add (.t 18) (.c (.p (.int .i64 1)))),
   oM 1 19])))
 (.reg [oM 10 5,
   oJ 11 (.bin .add (.t 10) (.c (.p (.int .i64 1)))),
   oM 5 11]))))))
 (.seq (.reg [oM 20 1,
   oM 4 20])
 (.ret)))⟩
theorem qW:ag Tryz.prog eJ=some kO:=by kernel_rfl
end Go.Proofs.YtnjbhgpbgmpkcaaGreatDoor
namespace Go.Proofs.YtnjbhgpbgmpkcaaGreatDoor
open Go Go.Aw
set_option maxRecDepth 100000
abbrev fk:FuncId:=125
abbrev cK:FuncId:=158
abbrev dx:FuncId:=124
abbrev eF:FuncId:=77
abbrev jf:FuncId:=122
abbrev kZ:FuncId:=123
abbrev aA:FuncId:=121
abbrev cL:FuncId:=119
abbrev dy:FuncId:=75
def om:FK:=⟨18,[.t 4],
 .seq (.reg [oJ 4 (.mov (.c (.p (.bool false))))])
 (.seq (.seq (.reg [oK 5 0])
 (.blk 0 (.loop (.seq (.seq (.reg [oM 6 5,
   oM 7 0,
   oJ 8 (.len false (.t 7)),
   oJ 9 (.bin .lss (.t 6) (.t 8))])
 (.cond (.t 9)
  (.skip)
  (.exit 0)))
 (.seq (.blk 1 (.seq (.reg [oM 12 0,
   oM 13 5,
   oJ 14 (.idxS 1 (.t 12) (.t 13)),
   oL 15 14,
   oM 16 1,
   oJ 17 (.bins .eql (.t 15) (.t 16))])
 (.cond (.t 17)
  (.seq (.reg [oJ 4 (.mov (.c (.p (.bool true))))])
  (.ret))
  (.skip))))
 (.reg [oM 10 5,
   oJ 11 (.bin .add (.t 10) (.c (.p (.int .i64 1)))),
   oM 5 11]))))))
 (.seq (.reg [oJ 4 (.mov (.c (.p (.bool false))))])
 (.ret)))⟩
theorem uX:ag Tryz.prog fk=some om:=by kernel_rfl
def F_spec_l2Names:FK:=⟨40,[.t 6],
 .seq (.reg [oJ 3 (.box 4 (.t 0)),
  oJ 6 (.mov (.c .nils))])
 (.seq (.seq (.reg [oF 8 0 3,
   oL 9 8,
   oM 10 1,
   oJ 11 (.bin .eql (.t 9) (.t 10)),
   oM 12 11,
   ⟨(some 13),some (12,true),.mov (.t 2)⟩,
   ⟨(some 14),some (12,true),.fldA 2 (.t 3)⟩,
   ⟨(some 15),some (12,true),.ld none (.t 14)⟩,
   ⟨(some 16),some (12,true),.call fk [(.t 13),(.t 15)]⟩,
   ⟨(some 17),some (12,true),.not (.t 16)⟩,
   oJ 18 (.pick (.t 12) (.t 17) (.c (.p (.bool false))))])
 (.cond (.t 18)
  (.reg [oM 19 2,
    oF 20 2 3,
    oL 21 20,
    oJ 22 (.bsl 1 [(.p (.str []))] 1 [(0,1,(.t 21))]),
    oJ 23 (.app 1 16 (.t 19) (.t 22)),
    oM 2 23])
  (.skip)))
 (.seq (.seq (.reg [oK 7 0])
 (.blk 0 (.loop (.seq (.seq (.reg [oM 24 7,
   oF 25 3 3,
   oL 26 25,
   oJ 27 (.len false (.t 26)),
   oJ 28 (.bin .lss (.t 24) (.t 27))])
 (.cond (.t 28)
  (.skip)
  (.exit 0)))
 (.seq (.blk 1 (.reg [oF 31 3 3,
   oL 32 31,
   oM 33 7,
   oJ 34 (.idxS 4 (.t 32) (.t 33)),
   oJ 35 (.ld (some 4) (.t 34)),
   oM 36 1,
   oM 37 2,
   oJ 38 (.call cK [(.t 35),(.t 36),(.t 37)]),
   oM 2 38]))
 (.reg [oM 29 7,
   oJ 30 (.bin .add (.t 29) (.c (.p (.int .i64 1)))),
   oM 7 30]))))))
 (.seq (.reg [oM 39 2,
   oM 6 39])
 (.ret))))⟩
theorem sv:ag Tryz.prog cK=some F_spec_l2Names:=by kernel_rfl
def mg:FK:=⟨47,[.t 4],
 .seq (.reg [oJ 4 (.mov (.c .nils))])
 (.seq (.seq (.reg [oK 5 0])
 (.blk 0 (.loop (.seq (.seq (.reg [oM 7 5,
   oM 8 0,
   oJ 9 (.len false (.t 8)),
   oJ 10 (.bin .lss (.t 7) (.t 9))])
 (.cond (.t 10)
  (.skip)
  (.exit 0)))
 (.seq (.blk 1 (.seq (.seq (.reg [oK 6 0])
 (.blk 2 (.loop (.seq (.seq (.reg [oM 13 6,
   oM 14 0,
   oM 15 5,
   oJ 16 (.idxS 5 (.t 14) (.t 15)),
   oF 17 2 16,
   oL 18 17,
   oJ 19 (.len false (.t 18)),
   oJ 20 (.bin .lss (.t 13) (.t 19))])
 (.cond (.t 20)
  (.skip)
  (.exit 2)))
 (.seq (.blk 3 (.reg [oM 23 0,
   oM 24 5,
   oJ 25 (.idxS 5 (.t 23) (.t 24)),
   oF 26 2 25,
   oL 27 26,
   oM 28 6,
   oJ 29 (.idxS 4 (.t 27) (.t 28)),
   oJ 30 (.ld (some 4) (.t 29)),
   oM 31 1,
   oJ 32 (.call cK [(.t 30),(.c (.p (.int .i64 13))),(.t 31)]),
   oM 1 32]))
 (.reg [oM 21 6,
   oJ 22 (.bin .add (.t 21) (.c (.p (.int .i64 1)))),
   oM 6 22]))))))
 (.reg [oM 33 0,
   oM 34 5,
   oJ 35 (.idxS 5 (.t 33) (.t 34)),
   oF 36 4 35,
   oM 38 0,
   oM 39 5,
   oJ 40 (.idxS 5 (.t 38) (.t 39)),
   oF 41 3 40,
   oM 43 1,
   oL 37 36,
   oL 42 41,
   oJ 44 (.call dx [(.t 42),(.t 43)]),
   ⟨none,none,.chk none 36 37⟩,
   oJ 45 (.call dx [(.t 37),(.t 44)]),
   oM 1 45])))
 (.reg [oM 11 5,
   oJ 12 (.bin .add (.t 11) (.c (.p (.int .i64 1)))),
   oM 5 12]))))))
 (.seq (.reg [oM 46 1,
   oM 4 46])
 (.ret)))⟩
theorem sQ:ag Tryz.prog dx=some mg:=by kernel_rfl
def kL:FK:=⟨35,[.t 4],
 .seq (.reg [oJ 2 (.box 1 (.t 0)),
  oJ 4 (.mov (.c .nils))])
 (.seq (.reg [oF 8 0 2,
   oL 9 8,
   oM 10 1,
   oJ 11 (.idxS 3 (.t 9) (.t 10)),
   oF 12 2 11,
   oL 13 12,
   oJ 14 (.bsl 1 [(.p (.str []))] 0 []),
   oJ 15 (.call dx [(.t 13),(.t 14)]),
   oM 5 15])
 (.seq (.reg [oJ 16 (.bsl 1 [(.p (.int .i64 0))] 0 []),
   oM 6 16])
 (.seq (.seq (.reg [oK 7 0])
 (.blk 0 (.loop (.seq (.seq (.reg [oM 17 7,
   oM 18 1,
   oJ 19 (.bin .lss (.t 17) (.t 18))])
 (.cond (.t 19)
  (.skip)
  (.exit 0)))
 (.seq (.blk 1 (.seq (.reg [oM 22 5,
   oF 23 0 2,
   oL 24 23,
   oM 25 7,
   oJ 26 (.idxS 3 (.t 24) (.t 25)),
   oF 27 0 26,
   oL 28 27,
   oJ 29 (.call fk [(.t 22),(.t 28)])])
 (.cond (.t 29)
  (.reg [oM 30 6,
    oM 31 7,
    oJ 32 (.bsl 1 [(.p (.int .i64 0))] 1 [(0,1,(.t 31))]),
    oJ 33 (.app 1 8 (.t 30) (.t 32)),
    oM 6 33])
  (.skip))))
 (.reg [oM 20 7,
   oJ 21 (.bin .add (.t 20) (.c (.p (.int .i64 1)))),
   oM 7 21]))))))
 (.seq (.reg [oM 34 6,
   oM 4 34])
 (.ret)))))⟩
theorem qU:ag Tryz.prog eF=some kL:=by kernel_rfl
def cV:FK:=⟨14,[],
 .seq (.reg [oJ 3 (.box 4 (.t 0))])
 (.seq (.reg [oF 4 0 3,
   oL 5 4,
   oJ 6 (.bin .eql (.t 5) (.c (.p (.int .i64 13))))])
 (.cond (.t 6)
  (.reg [oF 9 2 3,
    oL 7 1,
    oJ 8 (.ld (some 1) (.t 2)),
    oL 10 9,
    oJ 11 (.call eY [(.t 8),(.t 10)]),
    ⟨none,none,.chk none 1 7⟩,
    oJ 12 (.bslP 1 [(.p (.int .i64 0))] 1 [(0,1,(.t 11))]),
    oJ 13 (.app 1 8 (.t 7) (.t 12)),
    oS 1 13])
  (.skip)))⟩
theorem nT:ag Tryz.prog aA=some cV:=by kernel_rfl
def jL:FK:=⟨19,[],
 .seq (.reg [oJ 4 (.box 5 (.t 0))])
 (.seq (.reg [oF 8 2 4,
   oL 9 8,
   oJ 10 (.len false (.t 9)),
   oK 11 0])
 (.blk 0 (.loop (.seq (.reg [oJ 12 (.bin .lss (.t 11) (.t 10))])
 (.seq (.cond (.t 12)
  (.skip)
  (.exit 0))
 (.seq (.blk 1 (.seq (.reg [oJ 13 (.idxS 4 (.t 9) (.t 11)),
   oJ 14 (.ld (some 4) (.t 13)),
   oJ 7 (.alloc [(.p (.int .i64 0)),(.p (.int .i64 0)),(.p (.str [])),.nils]),
   ⟨none,none,.st 4 (.t 7) (.t 14)⟩])
 (.reg [oJ 15 (.ld (some 4) (.t 7)),
   oJ 16 (.mkf (.func aA) [(.t 2),(.t 3)]),
   oJ 17 (.call dL [(.t 15),(.t 16)])])))
 (.reg [oJ 18 (.bin .add (.t 11) (.c (.p (.int .i64 1)))),
   oM 11 18])))))))⟩
theorem qg:ag Tryz.prog cL=some jL:=by kernel_rfl
def lA:FK:=⟨18,[.t 4],
 .seq (.reg [oJ 2 (.box 1 (.t 0)),
  oJ 4 (.mov (.c .nils))])
 (.seq (.reg [oJ 5 (.alloc [.nils])])
 (.seq (.reg [oF 6 0 2,
   oL 7 6,
   oM 8 1,
   oJ 9 (.idxS 3 (.t 7) (.t 8)),
   oF 10 2 9,
   oL 11 10,
   oJ 12 (.mkf (.func cL) [(.t 5),(.t 2)]),
   oJ 13 (.call cR [(.t 11),(.c (.p (.int .i64 1))),(.t 12)])])
 (.seq (.reg [oL 14 5,
   oJ 15 (.call jf [(.t 14)])])
 (.seq (.reg [oL 16 5,
   oJ 17 (.call kZ [(.t 16)]),
   oM 4 17])
 (.ret)))))⟩
theorem sg:ag Tryz.prog dy=some lA:=by kernel_rfl
end Go.Proofs.YtnjbhgpbgmpkcaaGreatDoor
namespace Go.Proofs.YtnjbhgpbgmpkcaaGreatDoor
open Go Go.Aw
set_option maxRecDepth 100000
set_option maxHeartbeats 4000000
def Al(l:List Fd)(out:List Int)(id:Nat)(h:List AO):Prop:=
 h[0]?=some (.row 1 [[.p (fdL l)]])∧2≤h.length∧((out=[]∧id=0∧h[1]?=some (.row 1 [[.nils]]))∨(out≠[]∧2≤id∧h[1]?=some (.row 1 [[.sl id 1 0 out.length]])∧h[id]?=some (dN out)))
def cHV(F:FuncId)(l:List Fd):HV (List Int) where
 F:=F
 caps:=[.ptr 1 1 0 0,.ptr 0 1 0 0]
 n:=2
 Inv:=Al l
 capsOk:=by simp[below]
 len:=fun{out id h} H=>by
  obtain⟨_,h2,⟨_,rfl,_⟩|⟨_,_,_,h3⟩⟩:=H
  ·exact⟨h2,by omega⟩
  ·exact⟨h2,(List.getElem?_eq_some_iff.1 h3).1⟩
 frame:=fun{out id h h'} H K=>by
  obtain⟨h0,h2,H⟩:=H
  have k0:=K 0 (by omega) (.inl (by omega))
  have k1:=K 1 (by omega) (.inl (by omega))
  have hl:2≤h'.length:=by
   rcases H with⟨_,_,e⟩|⟨_,_,e,_⟩
   ·rw[e] at k1;have:=(List.getElem?_eq_some_iff.1 k1).1;omega
   ·rw[e] at k1;have:=(List.getElem?_eq_some_iff.1 k1).1;omega
  refine⟨by rw[k0];exact h0,hl,?_⟩
  rcases H with⟨a,b,e⟩|⟨a,b,e,f⟩
  ·exact .inl ⟨a,b,by rw[k1];exact e⟩
  ·exact .inr ⟨a,b,by rw[k1];exact e,by rw[K id (List.getElem?_eq_some_iff.1 f).1 (.inr rfl)];exact f⟩
def eL(l:List Fd)(out:List Int)(e:Ex):List Int:=if e.op=13 then out++[ixI (bT l e.name)] else out
def ko(out:List Int)(k:Nat):Prop:=out.length+k≤1099511627776
theorem nD(l:List Fd):∀out e k,ko out (k+1)→ko (eL l out e) k:=by
 intro out e k h
 unfold ko eL at*
 split
 ·simp;omega
 ·omega
variable (G:aw)
theorem ue(l:List Fd)(hl:l.length≤1073741824):∀out (e:Ex) k id h,ko out (k+1)→e.sz≤1073741824→Al l out id h→AC Tryz.prog G aA (.agg (e.cs.map .p)::[.ptr 1 1 0 0,.ptr 0 1 0 0]) h fun x h'=>x= .ret (.tup [])∧(cHV aA l).Left id h (eL l out e) h':=by
 intro out e k id h hk hz hI
 have hcs:=e.cs_eq
 have hlen:=(cHV aA l).len hI
 obtain⟨h0,h2,H⟩:=hI
 refine AC.go nT ?_
 have hm:Al l out id h:=⟨h0,h2,H⟩
 by_cases ho:e.op=13
 case neg=>
  have hp:eL l out e=out:=if_neg ho
  rw[hp]
  simp-implicitDefEqProofs[cV,hcs,ho]
  exact⟨id,(cHV aA l).more hm _,by simp,fun i hi _ _=>List.getElem?_append_left hi,.inl rfl⟩
 have hp:eL l out e=out++[ixI (bT l e.name)]:=if_pos ho
 rw[hp]
 have hfa:=yf G l e.name hl
 generalize ixI (bT l e.name)=y at hfa⊢
 obtain⟨a,b,r,rfl⟩:∃a b r,h=a::b::r:=by
  match h,h2 with
  |a::b::r,_=>exact⟨a,b,r,rfl⟩
 obtain rfl:a= .row 1 [[.p (fdL l)]]:=by simpa using h0
 rcases H with⟨rfl,rfl,h1⟩|⟨hne,hid,h1,hr⟩
 ·obtain rfl:b= .row 1 [[.nils]]:=by simpa using h1
  simp-implicitDefEqProofs[cV,hcs,ho]
  refine hfa.use ?_
  simp-implicitDefEqProofs[]
  refine⟨r.length+3,⟨rfl,by simp,.inr ⟨by simp,by omega,rfl,?_⟩⟩,by simp,fun i hi h2 _=>?_,.inr (by simp)⟩
  ·simp[dN]
  ·match i,h2 with
   |i+2,_=>
    simp at hi
    simp[List.getElem?_append_left hi]
 ·obtain rfl:b= .row 1 [[.sl id 1 0 out.length]]:=by simpa using h1
  obtain⟨j,rfl⟩:∃j,id=j+2:=⟨id-2,by omega⟩
  have hr':r[j]?=some (.row 1 (out.map fun x=>[.p (.int .i64 x)])):=by simpa[dN] using hr
  have hjl:=(List.getElem?_eq_some_iff.1 hr').1
  have gr:∀t,(r++t)[j]?=some (.row 1 (out.map fun x=>[.p (.int .i64 x)])):=fun t=>by rw[List.getElem?_append_left hjl];exact hr'
  simp-implicitDefEqProofs[cV,hcs,ho,gr]
  refine hfa.use ?_
  simp-implicitDefEqProofs[gr]
  unfold ko at hk
  refine⟨⟨by omega,by omega⟩,r.length+3,⟨rfl,by simp,.inr ⟨by simp,by omega,by simp,?_⟩⟩,by simp,fun i hi h2 h3=>?_,.inr (by simp)⟩
  ·have ht:List.take out.length (out.map fun x=>[AV.p (.int .i64 x)])=out.map fun x=>[AV.p (.int .i64 x)]:=List.take_of_length_le (by simp)
   rw[ht]
   simp[dN]
  ·match i,h2,h3 with
   |i+2,_,h3=>
    simp at hi h3
    have hne2:j≠i:=fun e=>h3 e.symm
    simp only[List.getElem?_cons_succ]
    rw[List.getElem?_append_left (by simp;omega),List.getElem?_set_ne hne2,List.getElem?_append_left hi]
end Go.Proofs.YtnjbhgpbgmpkcaaGreatDoor
namespace Go.Proofs.YtnjbhgpbgmpkcaaGreatDoor
open Go Go.Aw
set_option maxRecDepth 100000
theorem uv{vs:List LV}{s:List UInt8}{c:Int}(h:c≠0):nZ vs s c=c:=by unfold nZ;split<;>simp[tl h]
theorem xX{fns:List Fd}{k:Nat}{s:List UInt8}{n:Nat}{c:Int}(h:c≠0):kH fns k s n c=c:=by
 unfold kH
 simp only[tl h]
 split
 ·rfl
 ·split
  ·rfl
  ·split<;>rfl
theorem zd{fns:List Fd}{k:Nat}{vs:List LV}{o:Int}{s:List UInt8}{n:Nat}{c:Int}(h:c≠0):jD fns k vs o s n c=c:=by
 unfold jD
 rw[uv h,xX h]
 split
 ·rfl
 ·split<;>rfl
mutual
theorem AJ(fns:List Fd)(k:Nat)(vs:List LV){c:Int}(h:c≠0):∀e:Ex,qM fns k vs e c=c
 | .mk o n s ks=>by rw[qM,zd h,ku fns k vs h ks]
theorem ku(fns:List Fd)(k:Nat)(vs:List LV){c:Int}(h:c≠0):∀l:List Ex,bS fns k vs l c=c
 |[]=>rfl
 |e::r=>by rw[bS,AJ fns k vs h e,ku fns k vs h r]
end
theorem sy{fns:List Fd}{k:Nat}{vs:List LV}{l:List Ex}{c:Int}(h:bS fns k vs l c=0):c=0:=by
 by_cases hc:c=0
 ·exact hc
 ·rw[ku fns k vs hc] at h;exact h
theorem xf{o:Int}{s:List UInt8}{b:Nat}{w:WS}(h:w.code≠0):(opW o s b w).code=w.code:=by
 unfold opW
 split
 ·simp only[iS,py,tl h]
  split
  ·rfl
  ·split<;>rfl
 ·split
  ·exact uv h
  ·rfl
mutual
theorem DI(fns:List Fd)(k:Nat):∀(s:Sm) (b:Nat) (w:WS),w.code≠0→(stW fns k b s w).code=w.code
 | .mk o s a bd el,b,w,h=>by
   have e1:(bS fns k w.vs a w.code)=w.code:=ku fns k w.vs h a
   have e2:(opW o s b ⟨w.vs,w.count,bS fns k w.vs a w.code⟩).code=w.code:=by rw[xf]<;>simp only[e1];exact h
   have e3:=mv fns k bd (b+1) (opW o s b ⟨w.vs,w.count,bS fns k w.vs a w.code⟩) (by rw[e2];exact h)
   rw[stW,gf,mv fns k el _ _ (by rw[gf,e3,e2];exact h),gf,e3,e2]
theorem mv(fns:List Fd)(k:Nat):∀(l:List Sm) (b:Nat) (w:WS),w.code≠0→(bU fns k b l w).code=w.code
 |[],b,w,h=>rfl
 |s::r,b,w,h=>by
  have e1:=DI fns k s b w h
  rw[bU,mv fns k r b _ (by rw[e1];exact h),e1]
end
theorem mo{fns:List Fd}{k b:Nat}{l:List Sm}{w:WS}(h:(bU fns k b l w).code=0):w.code=0:=by
 by_cases hc:w.code=0
 ·exact hc
 ·rw[mv fns k l b w hc] at h;exact h
theorem CR{o:Int}{s:List UInt8}{b:Nat}{w:WS}(h:(opW o s b w).code=0):w.code=0:=by
 by_cases hc:w.code=0
 ·exact hc
 ·rw[xf hc] at h;exact h
end Go.Proofs.YtnjbhgpbgmpkcaaGreatDoor
namespace Go.Proofs.YtnjbhgpbgmpkcaaGreatDoor
open Go Go.Aw
set_option maxRecDepth 100000
theorem qB(fns:List Fd):∀(l:List Fd) (k:Nat),gb fns k l=0↔∀(i:Nat) (f:Fd),l[i]?=some f→(fnW fns (k+i) f).code=0
 |[],k=>by simp[gb]
 |f::r,k=>by
  rw[gb]
  have ih:=qB fns r (k+1)
  constructor
  ·intro h i g hg
   by_cases h0:(fnW fns k f).code=0
   ·rw[if_pos h0] at h
    cases i with
    |zero=>cases hg;exact h0
    |succ i=>have:=ih.1 h i g (by simpa using hg);rwa[show k+(i+1)=k+1+i by omega]
   ·rw[if_neg h0] at h;exact absurd h h0
  ·intro h
   rw[if_pos (by have:=h 0 f rfl;rwa[Nat.add_zero] at this)]
   exact ih.2 fun i g hg=>by have:=h (i+1) g (by simpa using hg);rwa[show k+(i+1)=k+1+i by omega] at this
theorem vu(l:List Fd):cm l=0↔ca l=true∧∀(k:Nat) (f:Fd),l[k]?=some f→(fnW l k f).code=0:=by
 unfold cm
 by_cases h:ca l=true
 ·rw[if_pos h,qB];simp[h]
 ·rw[if_neg h];simp[h]
theorem rr(l:List Fd):ca l=true↔(1≤l.length∧l.length≤4)∧(∀f∈l,jB f=true)∧jR l≤40:=by
 simp only[ca,inR,Bool.and_eq_true,decide_eq_true_eq,List.all_eq_true]
 constructor
 ·rintro⟨⟨⟨h1,h2⟩,h3⟩,h4⟩;exact⟨⟨by omega,by omega⟩,h3,h4⟩
 ·rintro⟨⟨h1,h2⟩,h3,h4⟩;exact⟨⟨⟨by omega,by omega⟩,h3⟩,h4⟩
def Fd.cut(f:Fd)(n:Nat):Fd:=⟨f.name,f.params,f.body.take n⟩
end Go.Proofs.YtnjbhgpbgmpkcaaGreatDoor
namespace Go.Proofs.YtnjbhgpbgmpkcaaGreatDoor
open Go Go.Aw
set_option maxRecDepth 100000
set_option maxHeartbeats 4000000
def K_spec_l4Walk_expr:AK:= .seq (.reg [oJ 3 (.box 4 (.t 1)),oJ 4 (.alloc [(.p (.int .i64 0)),(.p (.int .i64 0)),(.p (.str [])),.nils])]) (.cut (.seq (.reg [oF 8 0 3,oL 9 8,oJ 10 (.bin .eql (.t 9) (.c (.p (.int .i64 2))))]) (.cond (.t 10) (.reg [oM 11 0,oF 12 2 3,oL 13 12,oJ 14 (.call bK [(.t 11),(.t 13)]),oF 15 2 3,oS 15 14]) (.skip))) (.cut (.seq (.reg [oF 16 0 3,oL 17 16,oJ 18 (.bin .eql (.t 17) (.c (.p (.int .i64 13))))]) (.cond (.t 18) (.seq (.reg [oM 19 0,oN 20 19,oF 21 0 20,oF 23 2 3,oJ 22 (.ld (some 1) (.t 21)),oL 24 23,oJ 25 (.call eV [(.t 22),(.t 24)]),oM 5 25]) (.seq (.reg [oM 26 5,oJ 27 (.bin .lss (.t 26) (.c (.p (.int .i64 0)))),oM 28 27,⟨(some 29),some (28,false),.mov (.t 5)⟩,⟨(some 30),some (28,false),.mov (.t 0)⟩,⟨(some 31),some (28,false),.nilck (.t 30)⟩,⟨(some 32),some (28,false),.fldA 1 (.t 31)⟩,⟨(some 33),some (28,false),.ld none (.t 32)⟩,⟨(some 34),some (28,false),.bin .geq (.t 29) (.t 33)⟩,oJ 35 (.pick (.t 28) (.c (.p (.bool true))) (.t 34))]) (.cond (.t 35) (.reg [oM 36 0,oJ 37 (.call aF [(.t 36),(.c (.p (.int .i64 4)))])]) (.seq (.reg [oM 38 0,oN 39 38,oF 40 0 39,oF 41 0 40,oM 43 5,oF 48 3 3,oL 42 41,oJ 44 (.idxS 3 (.t 42) (.t 43)),oF 45 1 44,oL 46 45,oJ 47 (.len false (.t 46)),oL 49 48,oJ 50 (.len false (.t 49)),oJ 51 (.bin .neq (.t 47) (.t 50))]) (.cond (.t 51) (.reg [oM 52 0,oJ 53 (.call aF [(.t 52),(.c (.p (.int .i64 5)))])]) (.skip)))))) (.skip))) (.seq (.reg [oJ 54 (.bsl 4 [(.p (.int .i64 0)),(.p (.int .i64 0)),(.p (.str [])),.nils] 0 []),oM 6 54]) (.seq (.seq (.reg [oK 7 0]) (.blk 0 (.loop (.seq (.seq (.reg [oM 55 7,oF 56 3 3,oL 57 56,oJ 58 (.len false (.t 57)),oJ 59 (.bin .lss (.t 55) (.t 58))]) (.cond (.t 59) (.skip) (.exit 0))) (.seq (.blk 1 (.reg [oM 62 6,oM 63 0,oF 64 3 3,oL 65 64,oM 66 7,oJ 67 (.idxS 4 (.t 65) (.t 66)),oJ 68 (.ld (some 4) (.t 67)),oJ 69 (.call aX [(.t 63),(.t 68)]),oJ 70 (.bsl 4 [(.p (.int .i64 0)),(.p (.int .i64 0)),(.p (.str [])),.nils] 1 [(0,4,(.t 69))]),oJ 71 (.app 4 56 (.t 62) (.t 70)),oM 6 71])) (.reg [oM 60 7,oJ 61 (.bin .add (.t 60) (.c (.p (.int .i64 1)))),oM 7 61])))))) (.seq (.reg [oM 72 6,oF 73 3 3,oS 73 72]) (.seq (.reg [oJ 74 (.ld (some 4) (.t 3)),⟨none,none,.st 4 (.t 4) (.t 74)⟩]) (.ret)))))))
theorem nU:K_spec_l4Walk_expr.whole=F_spec_l4Walk_expr.ak:=rfl
variable (G:aw)
theorem xF{f:FuncId}{args:List AV}{nf:Bool}{fns:List Fd}{k:Nat}{w w':WS}{v:AV}(H:AC Tryz.prog G f args (HWk nf fns k w) fun x h=>x= .ret v∧h=HWk nf fns k w')(rest:List AO)(ha:aj 2 args):
 AC Tryz.prog G f args (wO 1 nf fns k w::roC nf w.vs::rest) fun x h=>x= .ret v∧h=wO 1 nf fns k w'::roC nf w'.vs::rest:=by
 refine(AC.pre H rest ha (sP _ _ _ _) ?_).mono ?_
 ·rintro x h ⟨_,rfl⟩;rfl
 ·rintro x h ⟨h1,⟨rfl,rfl⟩,rfl⟩
  exact⟨rfl,rfl⟩
theorem oz{n id:Nat}(hn:id<n){nf nf':Bool}{fns:List Fd}{k:Nat}{w:WS}{vs:List LV}{l:List AO}(r:∀o∈l,okO n o):∀o∈wO id nf fns k w::roC nf' vs::l,okO n o:=ae (qH hn) (ae (eS _ _ _) r)
theorem ro{ρ π:List Nat}{h r1:List AO}{i id:Nat}{nf:Bool}{fns:List Fd}{k:Nat}{w:WS}(hid:id<ρ.length)(e:h[i]?=some (wO (ρ.getD id 0) nf fns k w))(hr:HW ρ h π r1):HW ρ h (i::π) (wO id nf fns k w::r1):=by
 refine qZ (es:=[wC id nf fns k w]) (fun x hx=>?_) ?_ hr
 ·rw[List.mem_singleton.1 hx];exact rD hid
 ·rw[e,List.map_cons,List.map_nil,vN];rfl
theorem BU{α:Type}{l:List α}{i j:Nat}{a b:α}(hij:i≠j)(h:l[j]?=some b):(l.set i a).set j b=l.set i a:=by
 apply List.ext_getElem?
 intro n
 rw[List.getElem?_set]
 split
 ·rename_i e
  subst e
  rw[List.getElem?_set_ne hij,h]
  rw[if_pos (by rw[List.length_set];exact(List.getElem?_eq_some_iff.1 h).1)]
 ·rfl
theorem vG(ρ:List Nat):∀l:List AV,aj 0 l→TW ρ l l
 |[],_=>by simp
 |v::r,h=>by
  rw[rg]
  refine⟨.inr ⟨(aL (Nat.zero_le _) [v] ⟨h.1,trivial⟩).1,?_⟩,vG ρ r h.2⟩
  have:=fP ρ [v] ⟨h.1,trivial⟩
  simpa[bD] using this
theorem Jk{h:List AO}{wid id:Nat}{nf:Bool}{fns:List Fd}{k:Nat}{w:WS}(e0:h[wid]?=some (wO id nf fns k w))(e1:h[id]?=some (roC nf w.vs)):HW [wid,id] h [wid,id] (HWk nf fns k w):=by
 refine qZ (es:=[wC 1 nf fns k w]) (fun x hx=>?_) ?_ ?_
 ·rw[List.mem_singleton.1 hx];exact rD (by simp)
 ·rw[e0,List.map_cons,List.map_nil,vN];rfl
 ·exact dP e1 (eS _ _ _) bp
theorem GO{f:FuncId}{args:List AV}{nf:Bool}{fns:List Fd}{k:Nat}{w:WS}{v:AV}{c:Int}(H:AC Tryz.prog G f (.ptr 0 5 0 0::args) (HWk nf fns k w) fun x h=>x= .ret v∧h=HWk nf fns k ⟨w.vs,w.count,c⟩)(ha:aj 0 args)(hv:below 0 v)
 {h:List AO}{wid id:Nat}(hid:wid≠id)(e0:h[wid]?=some (wO id nf fns k w))(e1:h[id]?=some (roC nf w.vs)):
 AC Tryz.prog G f (.ptr wid 5 0 0::args) h fun x h'=>x= .ret v∧h'=h.set wid (wO id nf fns k ⟨w.vs,w.count,c⟩):=by
 refine(H.frame [wid,id] (by simp[hid]) ?_ (Jk e0 e1)).mono ?_
 ·rw[rg];exact⟨.inr ⟨by simp[below],rfl⟩,vG _ _ ha⟩
 ·rintro x h' ⟨x0,h0,⟨rfl,rfl⟩,_,rfl,rfl⟩
  refine⟨?_,?_⟩
  ·have:=fP ([wid,id]++List.range' h.length ((HWk nf fns k ⟨w.vs,w.count,c⟩).length-(HWk nf fns k w).length)) [v] ⟨hv,trivial⟩
   simp only[bD] at this
   simp only[yW]
   exact congrArg ARes.ret (List.cons.inj this).1
  ·simp only[HWk,List.length_cons,List.length_nil,Nat.sub_self,List.range'_zero,List.append_nil,List.take_succ_cons,List.take_zero,List.map_cons,List.map_nil,List.drop_succ_cons,List.drop_zero,zR,vW,mrg]
   exact BU hid e1
theorem Eg{f:FuncId}{args:List AV}{nf:Bool}{fns:List Fd}{k:Nat}{w:WS}{v:AV}{Q:Bool→WS→Prop}(H:AC Tryz.prog G f (.ptr 0 5 0 0::args) (HWk nf fns k w) fun x h=>∃nf' w',x= .ret v∧h=[wO 2 nf' fns k w',.dead,roC nf' w'.vs]∧Q nf' w')(ha:aj 0 args)(hv:below 0 v)
 {h:List AO}{wid id:Nat}(hid:wid≠id)(e0:h[wid]?=some (wO id nf fns k w))(e1:h[id]?=some (roC nf w.vs)):
 AC Tryz.prog G f (.ptr wid 5 0 0::args) h fun x h'=>∃nf' w',x= .ret v∧h'=(h.set wid (wO h.length nf' fns k w')).set id .dead++[roC nf' w'.vs]∧Q nf' w':=by
 refine(H.frame [wid,id] (by simp[hid]) ?_ (Jk e0 e1)).mono ?_
 ·rw[rg];exact⟨.inr ⟨by simp[below],rfl⟩,vG _ _ ha⟩
 ·rintro x h' ⟨x0,h0,⟨nf',w',rfl,rfl,q⟩,_,rfl,rfl⟩
  refine⟨nf',w',?_,?_,q⟩
  ·have:=fP ([wid,id]++List.range' h.length ([wO 2 nf' fns k w',.dead,roC nf' w'.vs].length-(HWk nf fns k w).length)) [v] ⟨hv,trivial⟩
   simp only[bD] at this
   simp only[yW]
   exact congrArg ARes.ret (List.cons.inj this).1
  ·simp only[HWk,List.length_cons,List.length_nil,List.take_succ_cons,List.take_zero,List.map_cons,List.map_nil,List.drop_succ_cons,List.drop_zero,zR,vW,mrg]
   rfl
theorem ul(fns:List Fd)(k:Nat)(vs:List LV):∀(a b:List Ex) (c:Int),bS fns k vs (a++b) c=bS fns k vs b (bS fns k vs a c)
 |[],b,c=>rfl
 |e::r,b,c=>by rw[List.cons_append,bS,bS,ul fns k vs r]
theorem oH(vs:List LV):∀l:List Ex,ia vs l=l.map (rnE vs)
 |[]=>rfl
 |e::r=>by rw[ia,oH vs r];rfl
theorem rW{fns:List Fd}{k:Nat}{vs:List LV}{l:List Ex}{c:Int}{i:Nat}(h:i<l.length):bS fns k vs (l.take (i+1)) c=qM fns k vs l[i] (bS fns k vs (l.take i) c):=by
 rw[ah h,ul];rfl
theorem uJ{vs:List LV}{l:List Ex}{i:Nat}(h:i<l.length):ia vs (l.take (i+1))=ia vs (l.take i)++[rnE vs l[i]]:=by
 rw[oH,oH,ah h,List.map_append];rfl
theorem oc(vs:List LV)(l:List Ex):(ia vs l).length=l.length:=by rw[oH,List.length_map]
theorem zs(l:List Ex):(exR l).length=l.length:=by simp[exR]
theorem zI(a b:List Ex):exR (a++b)=exR a++exR b:=by simp[exR]
theorem wc{h:List AO}{id:Nat}{l:List Ex}(e:h[id]?=some (.row 4 (exR l))):View h (.sl id 4 0 l.length) (exL l):=by
 have:=fw (h:=h) (id:=id) (sz:=4) (n:=l.length) (ls:=l.map Ex.cs) (by rw[e,exR];simp) (by simp) (fun x hx=>by obtain⟨b,_,rfl⟩:=List.mem_map.1 hx;exact b.cs_len)
 exact this
theorem Ga{fns:List Fd}{s:List UInt8}{j:Nat}(h:bT fns s=some j):j<fns.length:=by
 rw[bT,List.findIdx?_eq_some_iff_getElem] at h;exact h.1
theorem Ff{fns:List Fd}{k:Nat}(hf:fns.length≤1099511627776):∀(N:Nat) (e:Ex),e.sz≤N→N≤1099511627776→∀(nf:Bool) (w:WS),(nf=true→w.vs=[])→w.vs.length≤1099511627776→
 AC Tryz.prog G aX [.ptr 0 5 0 0,.agg (e.cs.map .p)] (HWk nf fns k w) fun x h=>x= .ret (.agg ((rnE w.vs e).cs.map .p))∧h=HWk nf fns k ⟨w.vs,w.count,qM fns k w.vs e w.code⟩:=by
 intro N
 induction N with
 |zero=>intro e he;have:=e.sz_eq;omega
 |succ N ih=>
  intro e he hN nf w hn hl
  have hec:=e.cs_eq
  have hsz:=e.sz_eq
  have hkl:=aW e.kids
  have hre:(rnE w.vs e).cs=[.int .i64 e.op,.int .i64 e.n,.str (if e.op=2 then sR w.vs e.name else e.name),exL (ia w.vs e.kids)]:=by
   obtain⟨o,n,s,ks⟩:=e;rw[rnE,Ex.cs_eq];rfl
  have hce:qM fns k w.vs e w.code=bS fns k w.vs e.kids (jD fns k w.vs e.op e.name e.kids.length w.code):=by
   obtain⟨o,n,s,ks⟩:=e;rfl
  have main:AC Tryz.prog G aX [.ptr 0 5 0 0,.agg (e.cs.map .p)] (HWk nf fns k w) fun x h=>∃E1 E2,x= .ret (.agg [.p (.int .i64 e.op),.p (.int .i64 e.n),.p (.str (if e.op=2 then sR w.vs e.name else e.name)),.sl 4 4 0 e.kids.length])∧
   h=[wO 1 nf fns k ⟨w.vs,w.count,qM fns k w.vs e w.code⟩,roC nf w.vs,E1,E2,.row 4 (exR (ia w.vs e.kids))]:=by
   refine AC.goK nF nU ?_
   simp-implicitDefEqProofs[K_spec_l4Walk_expr,F_spec_l4Walk_expr,HWk,hec]
   refine lh (af 75 [(0,.ptr 0 5 0 0),(3,.ptr 2 4 0 0),(4,.ptr 3 4 0 0)]) [wO 1 nf fns k ⟨w.vs,w.count,if e.op=2 then nZ w.vs e.name w.code else w.code⟩,roC nf w.vs,.row 4 [[.p (.int .i64 e.op),.p (.int .i64 e.n),.p (.str (if e.op=2 then sR w.vs e.name else e.name)),.p (exL e.kids)]],.row 4 [[.p (.int .i64 0),.p (.int .i64 0),.p (.str []),.nils]]] ?_ ?_
   ·by_cases o2:e.op=2
    ·simp-implicitDefEqProofs[o2]
     refine(xF G (DQ G nf fns k w hn hl e.name) _ (by simp[below])).mono ?_
     rintro r h ⟨rfl,rfl⟩
     simp-implicitDefEqProofs[aa]
     exact ab (by simp) (oz (by simp) (by simp[okO,below])) (by simp[below])
    ·simp-implicitDefEqProofs[o2]
     exact ab (by simp) (oz (by simp) (by simp[okO,below])) (by simp[below])
   refine lh (af 75 [(0,.ptr 0 5 0 0),(3,.ptr 2 4 0 0),(4,.ptr 3 4 0 0)]) [wO 1 nf fns k ⟨w.vs,w.count,jD fns k w.vs e.op e.name e.kids.length w.code⟩,roC nf w.vs,.row 4 [[.p (.int .i64 e.op),.p (.int .i64 e.n),.p (.str (if e.op=2 then sR w.vs e.name else e.name)),.p (exL e.kids)]],.row 4 [[.p (.int .i64 0),.p (.int .i64 0),.p (.str []),.nils]]] ?_ ?_
   ·by_cases o13:e.op=13
    ·have hhd:jD fns k w.vs e.op e.name e.kids.length w.code=kH fns k e.name e.kids.length w.code:=by simp[jD,o13]
     rw[hhd]
     simp-implicitDefEqProofs[o13,wO,wC]
     refine(Cu G fns e.name hf).use ?_
     have fin:∀c:Int,Wk 2 (af 75 [(0,.ptr 0 5 0 0),(3,.ptr 2 4 0 0),(4,.ptr 3 4 0 0)]) [wO 1 nf fns k ⟨w.vs,w.count,c⟩,roC nf w.vs,.row 4 [[.p (.int .i64 13),.p (.int .i64 e.n),.p (.str e.name),.p (exL e.kids)]],.row 4 [[.p (.int .i64 0),.p (.int .i64 0),.p (.str []),.nils]]] (af 75 [(0,.ptr 0 5 0 0),(3,.ptr 2 4 0 0),(4,.ptr 3 4 0 0)]) [wO 1 nf fns k ⟨w.vs,w.count,c⟩,roC nf w.vs,.row 4 [[.p (.int .i64 13),.p (.int .i64 e.n),.p (.str e.name),.p (exL e.kids)]],.row 4 [[.p (.int .i64 0),.p (.int .i64 0),.p (.str []),.nils]]]:=fun c=>
      ab (by simp) (oz (by simp) (by simp[okO,below])) (by simp[below])
     cases hfa:bT fns e.name with
     |none=>
      simp-implicitDefEqProofs[ixI,kH,hfa]
      refine(xF G (mC G nf fns k w 4) _ (by simp[below])).mono ?_
      rintro r h ⟨rfl,rfl⟩
      simp-implicitDefEqProofs[aa]
      exact ab (h:=[wO 1 nf fns k ⟨w.vs,w.count,fl w.code 4⟩,roC nf w.vs,.row 4 [[.p (.int .i64 13),.p (.int .i64 e.n),.p (.str e.name),.p (exL e.kids)]],.row 4 [[.p (.int .i64 0),.p (.int .i64 0),.p (.str []),.nils]]]) (by simp) (oz (by simp) (by simp[okO,below])) (by simp[below])
     |some j=>
      have hj:=Ga hfa
      have hg:=List.getElem?_eq_getElem hj
      have hjn:¬(j:Int)<0:=by omega
      by_cases hkj:k≤j
      ·have hkj':(k:Int)≤(j:Int):=by omega
       simp-implicitDefEqProofs[ixI,kH,hfa,hkj,hkj',hjn]
       refine(xF G (mC G nf fns k w 4) _ (by simp[below])).mono ?_
       rintro r h ⟨rfl,rfl⟩
       simp-implicitDefEqProofs[aa]
       exact ab (h:=[wO 1 nf fns k ⟨w.vs,w.count,fl w.code 4⟩,roC nf w.vs,.row 4 [[.p (.int .i64 13),.p (.int .i64 e.n),.p (.str e.name),.p (exL e.kids)]],.row 4 [[.p (.int .i64 0),.p (.int .i64 0),.p (.str []),.nils]]]) (by simp) (oz (by simp) (by simp[okO,below])) (by simp[below])
      ·have hkj':¬(k:Int)≤(j:Int):=by omega
       have hfl:fdL fns= .lst 3 (fns.map Fd.cs):=rfl
       have hcs:fns[j].cs=[.str fns[j].name,aC fns[j].params,smL fns[j].body]:=rfl
       have hst:aC fns[j].params= .lst 1 (fns[j].params.map fun w=>[.str w]):=rfl
       have hxl:∀l,exL l= .lst 4 (l.map Ex.cs):=fun _=>rfl
       have hpn:BJ fns j=fns[j].params.length:=by simp[BJ,hg]
       by_cases hp:fns[j].params.length=e.kids.length
       ·have hcc:kH fns k e.name e.kids.length w.code=w.code:=by simp[kH,hfa,hkj,hpn,hp]
        rw[hcc]
        simp-implicitDefEqProofs[ixI,hkj',hjn,hfl,hg,hcs,hst,hxl,hp]
        exact ab (h:=[wO 1 nf fns k w,roC nf w.vs,.row 4 [[.p (.int .i64 13),.p (.int .i64 e.n),.p (.str e.name),.p (exL e.kids)]],.row 4 [[.p (.int .i64 0),.p (.int .i64 0),.p (.str []),.nils]]]) (by simp) (oz (by simp) (by simp[okO,below])) (by simp[below])
       ·have hcc:kH fns k e.name e.kids.length w.code=fl w.code 5:=by simp[kH,hfa,hkj,hpn,hp]
        have hp':¬(fns[j].params.length:Int)=(e.kids.length:Int):=by omega
        rw[hcc]
        simp-implicitDefEqProofs[ixI,hkj',hjn,hfl,hg,hcs,hst,hxl,hp']
        refine(xF G (mC G nf fns k w 5) _ (by simp[below])).mono ?_
        rintro r h ⟨rfl,rfl⟩
        simp-implicitDefEqProofs[aa]
        exact ab (h:=[wO 1 nf fns k ⟨w.vs,w.count,fl w.code 5⟩,roC nf w.vs,.row 4 [[.p (.int .i64 13),.p (.int .i64 e.n),.p (.str e.name),.p (exL e.kids)]],.row 4 [[.p (.int .i64 0),.p (.int .i64 0),.p (.str []),.nils]]]) (by simp) (oz (by simp) (by simp[okO,below])) (by simp[below])
    ·have hhd:jD fns k w.vs e.op e.name e.kids.length w.code=if e.op=2 then nZ w.vs e.name w.code else w.code:=by simp[jD,o13]
     rw[hhd]
     simp-implicitDefEqProofs[o13]
     exact ab (by simp) (oz (by simp) (by simp[okO,below])) (by simp[below])
   rw[hce]
   generalize jD fns k w.vs e.op e.name e.kids.length w.code=c2
   generalize (if e.op=2 then sR w.vs e.name else e.name)=s1
   have hxl:exL e.kids= .lst 4 (e.kids.map Ex.cs):=rfl
   simp-implicitDefEqProofs[]
   refine aq (fun i:Nat=>af 75 [(0,.ptr 0 5 0 0),(3,.ptr 2 4 0 0),(4,.ptr 3 4 0 0),(6,.sl 4 4 0 i),(7,.p (.int .i64 i))])
    (fun i=>[wO 1 nf fns k ⟨w.vs,w.count,bS fns k w.vs (e.kids.take i) c2⟩,roC nf w.vs,.row 4 [[.p (.int .i64 e.op),.p (.int .i64 e.n),.p (.str s1),.p (exL e.kids)]],.row 4 [[.p (.int .i64 0),.p (.int .i64 0),.p (.str []),.nils]],.row 4 (exR (ia w.vs (e.kids.take i)))])
    (fun i=>i≤e.kids.length) (fun i=>e.kids.length-i) 0 (by simp) ?_ ?_
   ·exact ab (by simp) (oz (by simp) (by simp[okO,below])) (by simp[below])
   ·intro i hi
    have hrl:(exR (ia w.vs (e.kids.take i))).length=i:=by rw[zs,oc];simp;omega
    simp-implicitDefEqProofs[hxl]
    refine aQ (fun h=>?_) (fun h=>?_)
    ·simp at h
     have hg:=List.getElem?_eq_getElem h
     have hks:=aO (List.getElem_mem h)
     have hkc:=(rnE w.vs e.kids[i]).cs_eq
     simp-implicitDefEqProofs[hg]
     refine(xF G (ih e.kids[i] (by omega) (by omega) nf ⟨w.vs,w.count,bS fns k w.vs (e.kids.take i) c2⟩ hn hl) _ (by simp[below])).mono ?_
     rintro r h ⟨rfl,rfl⟩
     rw[show(rnE (WS.mk w.vs w.count (bS fns k w.vs (e.kids.take i) c2)).vs e.kids[i])=rnE w.vs e.kids[i] from rfl]
     simp-implicitDefEqProofs[aa,hkc,hrl]
     refine⟨by omega,?_⟩
     refine⟨i+1,by omega,by omega,?_⟩
     have htk:List.take i (exR (ia w.vs (e.kids.take i)))=exR (ia w.vs (e.kids.take i)):=List.take_of_length_le (by omega)
     rw[rW h,uJ h,zI,htk]
     refine gS [0,1,2,3,6] (by simp) (by decide) (by decide) (ro (by simp) rfl (dP rfl (eS _ _ _) (bf rfl (by simp[below]) (bf rfl (by simp[below]) (bf ?_ ?_ bp))))) (by simp[below,ren,w1 (i:=i) (by omega)])
     ·have:exR [rnE w.vs e.kids[i]]=[[.p (.int .i64 (rnE w.vs e.kids[i]).op),.p (.int .i64 (rnE w.vs e.kids[i]).n),.p (.str (rnE w.vs e.kids[i]).name),.p (exL (rnE w.vs e.kids[i]).kids)]]:=by rw[exR,List.map_singleton,hkc];rfl
      rw[this];rfl
     ·intro x hx
      rcases List.mem_append.1 hx with h|h
      ·exact ov _ x h
      ·exact ov _ x h
    ·simp at h
     have hie:i=e.kids.length:=by omega
     subst hie
     simp-implicitDefEqProofs[]
  refine main.frz 2 (by simp[HWk]) (fun t v h ⟨_,_,e,_⟩=>by cases e) ?_
  rintro v h ⟨E1,E2,e,rfl⟩
  cases e
  refine⟨_,HWk nf fns k ⟨w.vs,w.count,qM fns k w.vs e w.code⟩,by simp,rfl,.agg ?_ .nil,.same (qH (by omega)) (.same (eS _ _ _) (.nil _)),rfl,rfl⟩
  rw[hre]
  have hrl:=oc w.vs e.kids
  rw[←hrl]
  exact .keep (by simp) (.keep (by simp) (.keep (by simp) (.one (wc rfl) .nil)))
end Go.Proofs.YtnjbhgpbgmpkcaaGreatDoor
namespace Go.Proofs.YtnjbhgpbgmpkcaaGreatDoor
open Go Go.Aw
set_option maxRecDepth 100000
set_option maxHeartbeats 4000000
def K_spec_l4Walk_stmts:AK:= .seq (.reg [oJ 6 (.mov (.c .nils))]) (.seq (.reg [oJ 13 (.bsl 5 [(.p (.int .i64 0)),(.p (.str [])),.nils,.nils,.nils] 0 []),oM 7 13]) (.seq (.reg [oM 14 0,oN 15 14,oF 16 2 15,oL 17 16,oJ 18 (.len false (.t 17)),oM 8 18]) (.seq (.seq (.reg [oK 9 0]) (.blk 0 (.loop (.seq (.seq (.reg [oM 19 9,oM 20 1,oJ 21 (.len false (.t 20)),oJ 22 (.bin .lss (.t 19) (.t 21))]) (.cond (.t 22) (.skip) (.exit 0))) (.seq (.blk 1 (.seq (.reg [oM 25 1,oM 26 9,oJ 27 (.idxS 5 (.t 25) (.t 26)),oJ 28 (.ld (some 5) (.t 27)),oJ 10 (.alloc [(.p (.int .i64 0)),(.p (.str [])),.nils,.nils,.nils]),⟨none,none,.st 5 (.t 10) (.t 28)⟩]) (.seq (.reg [oJ 29 (.bsl 4 [(.p (.int .i64 0)),(.p (.int .i64 0)),(.p (.str [])),.nils] 0 []),oM 11 29]) (.seq (.seq (.reg [oK 12 0]) (.blk 2 (.loop (.seq (.seq (.reg [oM 30 12,oF 31 2 10,oL 32 31,oJ 33 (.len false (.t 32)),oJ 34 (.bin .lss (.t 30) (.t 33))]) (.cond (.t 34) (.skip) (.exit 2))) (.seq (.blk 3 (.reg [oM 37 11,oM 38 0,oF 39 2 10,oL 40 39,oM 41 12,oJ 42 (.idxS 4 (.t 40) (.t 41)),oJ 43 (.ld (some 4) (.t 42)),oJ 44 (.call aX [(.t 38),(.t 43)]),oJ 45 (.bsl 4 [(.p (.int .i64 0)),(.p (.int .i64 0)),(.p (.str [])),.nils] 1 [(0,4,(.t 44))]),oJ 46 (.app 4 56 (.t 37) (.t 45)),oM 11 46])) (.reg [oM 35 12,oJ 36 (.bin .add (.t 35) (.c (.p (.int .i64 1)))),oM 12 36])))))) (.cut (.reg [oM 47 11,oF 48 2 10,oS 48 47]) (.cut (.seq (.reg [oF 49 0 10,oL 50 49,oJ 51 (.bin .eql (.t 50) (.c (.p (.int .i64 1))))]) (.cond (.t 51) (.reg [oM 52 0,oF 53 1 10,oL 54 53,oM 55 2,oJ 56 (.call bJ [(.t 52),(.t 54),(.t 55)]),oF 57 1 10,oS 57 56]) (.skip))) (.cut (.seq (.reg [oF 58 0 10,oL 59 58,oJ 60 (.bin .eql (.t 59) (.c (.p (.int .i64 2))))]) (.cond (.t 60) (.reg [oM 61 0,oF 62 1 10,oL 63 62,oJ 64 (.call bK [(.t 61),(.t 63)]),oF 65 1 10,oS 65 64]) (.skip))) (.seq (.reg [oM 66 0,oF 67 3 10,oL 68 67,oM 69 2,oJ 70 (.bin .add (.t 69) (.c (.p (.int .i64 1)))),oJ 71 (.call aM [(.t 66),(.t 68),(.t 70)]),oF 72 3 10,oS 72 71]) (.seq (.reg [oM 73 0,oF 74 4 10,oL 75 74,oM 76 2,oJ 77 (.bin .add (.t 76) (.c (.p (.int .i64 1)))),oJ 78 (.call aM [(.t 73),(.t 75),(.t 77)]),oF 79 4 10,oS 79 78]) (.reg [oM 80 7,oJ 81 (.ld (some 5) (.t 10)),oJ 82 (.bsl 5 [(.p (.int .i64 0)),(.p (.str [])),.nils,.nils,.nils] 1 [(0,5,(.t 81))]),oJ 83 (.app 5 96 (.t 80) (.t 82)),oM 7 83])))))))))) (.reg [oM 23 9,oJ 24 (.bin .add (.t 23) (.c (.p (.int .i64 1)))),oM 9 24])))))) (.cut (.seq (.reg [oM 84 2,oJ 85 (.bin .gtr (.t 84) (.c (.p (.int .i64 0))))]) (.cond (.t 85) (.reg [oM 86 0,oM 87 0,oN 88 87,oF 89 2 88,oL 90 89,oM 91 8,oJ 92 (.slS 3 (.t 90) none (some (.t 91))),oN 93 86,oF 94 2 93,oS 94 92]) (.skip))) (.seq (.reg [oM 95 7,oM 6 95]) (.ret))))))
theorem mR:K_spec_l4Walk_stmts.whole=F_spec_l4Walk_stmts.ak:=rfl
theorem wL(fns:List Fd)(k b:Nat):∀(x y:List Sm) (w:WS),bU fns k b (x++y) w=bU fns k b y (bU fns k b x w)
 |[],y,w=>rfl
 |s::r,y,w=>by rw[List.cons_append,bU,bU,wL fns k b r]
theorem xy(fns:List Fd)(k b:Nat):∀(x y:List Sm) (w:WS),fG fns k b (x++y) w=fG fns k b x w++fG fns k b y (bU fns k b x w)
 |[],y,w=>rfl
 |s::r,y,w=>by rw[List.cons_append,fG,fG,xy fns k b r];rfl
theorem BH{fns:List Fd}{k b:Nat}{l:List Sm}{w:WS}{i:Nat}(h:i<l.length):bU fns k b (l.take (i+1)) w=stW fns k b l[i] (bU fns k b (l.take i) w):=by
 rw[ah h,wL];rfl
theorem BN{fns:List Fd}{k b:Nat}{l:List Sm}{w:WS}{i:Nat}(h:i<l.length):fG fns k b (l.take (i+1)) w=fG fns k b (l.take i) w++[rnS fns k b l[i] (bU fns k b (l.take i) w)]:=by
 rw[ah h,xy];rfl
theorem sO(fns:List Fd)(k b:Nat):∀(l:List Sm) (w:WS),(fG fns k b l w).length=l.length
 |[],w=>rfl
 |s::r,w=>by rw[fG,List.length_cons,sO fns k b r,List.length_cons]
theorem Ah{l:List Sm}{i:Nat}(h:i<l.length):au (l.take i)+l[i].sz≤au l:=by
 have e:l=l.take i++l[i]::l.drop (i+1):=by rw[←List.drop_eq_getElem_cons h,List.take_append_drop]
 have h2:au l=au (l.take i)+(l[i].sz+au (l.drop (i+1))):=by
  conv=>lhs;rw[e]
  rw[lb];rfl
 omega
def nV(fns:List Fd)(k b:Nat)(l:List Sm)(w:WS):WS:=if 0<b then(bU fns k b l w).back w.vs else bU fns k b l w
theorem yg(fns:List Fd)(k b:Nat)(l:List Sm)(w:WS):(nV fns k b l w).count=w.count+mY l:=by
 unfold nV
 split
 ·exact fU fns k l b w
 ·exact fU fns k l b w
theorem Cy{e vs:List LV}:(lvR (e++vs)).take vs.length=lvR vs:=by
 have h:lvR (e++vs)=lvR vs++lvR e:=by simp[lvR]
 rw[h,List.take_append_of_le_length (by rw[ri];exact Nat.le_refl _),List.take_of_length_le (by rw[ri];exact Nat.le_refl _)]
theorem uF(l:List Sm):mY l≤au l:=Nat.le_trans (oo l) (mu l)
theorem yx(nf:Bool)(id n:Nat):(vaC nf id n).isCell=true:=by cases nf<;>rfl
theorem Bx(nf:Bool)(id n:Nat):(vaC nf id n).cells=[vaC nf id n]:=by cases nf<;>rfl
attribute [simp ↓] yx Bx
variable (G:aw)
def StP(fns:List Fd)(k b:Nat)(l:List Sm)(w:WS)(x:ARes)(h:List AO):Prop:=∃nf' w',x= .ret (.p (smL (fG fns k b l w)))∧h=[wO 2 nf' fns k w',.dead,roC nf' w'.vs]∧(nf'=true→w'.vs=[])∧w'=nV fns k b l w
structure StS where (i:Nat) (nf:Bool)
theorem Dz{fns:List Fd}{k:Nat}(hf:fns.length≤1099511627776):∀(N:Nat) (l:List Sm),au l<N→∀(b:Nat) (nf:Bool) (w:WS),(nf=true→w.vs=[])→w.vs.length≤w.count→w.count+au l≤1099511627776→b+au l≤1099511627776→
 AC Tryz.prog G aM [.ptr 0 5 0 0,.p (smL l),.p (.int .i64 b)] (HWk nf fns k w) (StP fns k b l w):=by
 intro N
 induction N with
 |zero=>
  intro l hl b nf w hn hv hc hb
  omega
 |succ N ih=>
  intro l hl b nf w hn hv hc hb
  have hll:=aZ l
  refine AC.goK mT mR ?_
  have hsl:∀l,smL l= .lst 5 (l.map Sm.cs):=fun _=>rfl
  have hlen0:yU (vaC nf 1 w.vs.length)=some (.p (.int .i64 w.vs.length)):=by
   cases nf
   ·rfl
   ·simp[vaC,hn rfl]
  simp-implicitDefEqProofs[K_spec_l4Walk_stmts,F_spec_l4Walk_stmts,HWk,wO,wC,hlen0]
  refine aq (fun s:StS=>af 96 [(0,.ptr 0 5 0 0),(1,.p (smL l)),(2,.p (.int .i64 b)),(7,.sl 2 5 0 s.i),(8,.p (.int .i64 w.vs.length)),(9,.p (.int .i64 s.i))])
   (fun s=>[wO 3 s.nf fns k (bU fns k b (l.take s.i) w),.dead,.row 5 (smR (fG fns k b (l.take s.i) w)),roC s.nf (bU fns k b (l.take s.i) w).vs])
   (fun s=>s.i≤l.length∧(s.nf=true→(bU fns k b (l.take s.i) w).vs=[])) (fun s=>l.length-s.i) ⟨0,nf⟩ ⟨by simp,hn⟩ ?_ ?_
  ·refine nW [0,1,2,1] (by simp) (by decide) ?_ (ro (by simp) rfl (bV (by simp) (bf rfl (by simp[smR,fG]) (dP rfl (eS _ _ _) bp)))) (by simp[below,ren])
   cases nf<;>simp[fj,roC,wO,bU]
  ·rintro⟨i,nf⟩ ⟨hi,hn⟩
   simp only at hi hn
   simp-implicitDefEqProofs[hsl]
   refine aQ (fun h=>?_) (fun h=>?_)
   ·simp at h
    have hg:=List.getElem?_eq_getElem h
    have hat:=Ah h
    have hse:=l[i].cs_eq
    have hsz:=l[i].sz_eq
    have hle:=zY fns k (l:=l.take i) (b:=b) hv
    have hcn:=fU fns k (l.take i) b w
    have hlz:=uF (l.take i)
    have eW:=BH (fns:=fns) (k:=k) (b:=b) (w:=w) h
    have eR:=BN (fns:=fns) (k:=k) (b:=b) (w:=w) h
    have hol:=sO fns k b (l.take i) w
    rw[List.length_take,Nat.min_eq_left hi] at hol
    generalize l[i]=s at hg hat hse hsz eW eR
    generalize bU fns k b (l.take i) w=wi at hn hle hcn eW eR⊢
    generalize fG fns k b (l.take i) w=out at hol eR⊢
    obtain⟨o,nme,a,bd,el⟩:=s
    simp only[Sm.op,Sm.name,Sm.args,Sm.body,Sm.els] at hse hsz
    simp-implicitDefEqProofs[hg,hse]
    have hxl:∀l,exL l= .lst 4 (l.map Ex.cs):=fun _=>rfl
    have hal:=aW a
    have hlE:=uF bd
    have hwl:wi.vs.length≤1099511627776:=by omega
    have hopR:∀(x y z u v:AV),aj 0 [x,y,z,u,v]→okO 5 (AO.row 5 [[x,y,z,u,v]]):=fun x y z u v hh=>bx (fun e he=>by rw[List.mem_singleton.1 he];exact hh)
    refine aq (fun j:Nat=>af 96 [(0,.ptr 0 5 0 0),(1,.p (smL l)),(2,.p (.int .i64 b)),(7,.sl 2 5 0 i),(8,.p (.int .i64 w.vs.length)),(9,.p (.int .i64 i)),(10,.ptr 4 5 0 0),(11,.sl 5 4 0 j),(12,.p (.int .i64 j))])
     (fun j=>[wO 3 nf fns k ⟨wi.vs,wi.count,bS fns k wi.vs (a.take j) wi.code⟩,.dead,.row 5 (smR out),roC nf wi.vs,.row 5 [[.p (.int .i64 o),.p (.str nme),.p (exL a),.p (smL bd),.p (smL el)]],.row 4 (exR (ia wi.vs (a.take j)))])
     (fun j=>j≤a.length) (fun j=>a.length-j) 0 (by simp) ?_ ?_
    ·refine ab (h:=[wO 3 nf fns k wi,.dead,.row 5 (smR out),roC nf wi.vs,.row 5 [[.p (.int .i64 o),.p (.str nme),.p (exL a),.p (smL bd),.p (smL el)]],.row 4 []]) (by simp) (ae (qH (by simp)) (ae trivial (ae (bx (iF out)) (ae (eS _ _ _) (by simp[okO,below]))))) (by simp[below,hsl])
    intro j hj
    have hrl:(exR (ia wi.vs (a.take j))).length=j:=by rw[zs,oc];simp;omega
    simp-implicitDefEqProofs[hxl]
    refine aQ (fun hc=>?_) (fun hc=>?_)
    ·simp at hc
     have hga:=List.getElem?_eq_getElem hc
     have hks:=aO (List.getElem_mem hc)
     have hkc:=(rnE wi.vs a[j]).cs_eq
     simp-implicitDefEqProofs[hga]
     refine(GO G (id:=3) (Ff G hf (a[j].sz) a[j] (Nat.le_refl _) (by omega) nf ⟨wi.vs,wi.count,bS fns k wi.vs (a.take j) wi.code⟩ hn hwl) (by simp) (by simp[below]) (by decide) rfl rfl).mono ?_
     rintro r h' ⟨rfl,rfl⟩
     rw[show(rnE (WS.mk wi.vs wi.count (bS fns k wi.vs (a.take j) wi.code)).vs a[j])=rnE wi.vs a[j] from rfl]
     simp-implicitDefEqProofs[aa,hkc,hrl]
     refine⟨by omega,j+1,by omega,by omega,?_⟩
     have htk:List.take j (exR (ia wi.vs (a.take j)))=exR (ia wi.vs (a.take j)):=List.take_of_length_le (by omega)
     rw[rW hc,uJ hc,zI,htk]
     refine gS [0,1,2,3,4,7] (by simp) (by decide) (by decide) (ro (by simp) rfl (bV (by simp) (bf rfl (iF out) (dP rfl (eS _ _ _) (bf rfl (by simp[below]) (bf ?_ ?_ bp)))))) (by simp[below,ren,hsl,w1 (i:=j) (by omega)])
     ·have:exR [rnE wi.vs a[j]]=[[.p (.int .i64 (rnE wi.vs a[j]).op),.p (.int .i64 (rnE wi.vs a[j]).n),.p (.str (rnE wi.vs a[j]).name),.p (exL (rnE wi.vs a[j]).kids)]]:=by rw[exR,List.map_singleton,hkc];rfl
      rw[this];rfl
     ·intro x hx
      rcases List.mem_append.1 hx with h|h
      ·exact ov _ x h
      ·exact ov _ x h
    simp at hc
    have hje:j=a.length:=by omega
    subst hje
    rw[List.take_length] at hrl⊢
    have hal2:=oc wi.vs a
    simp-implicitDefEqProofs[]
    generalize hw1:WS.mk wi.vs wi.count (bS fns k wi.vs a wi.code)=w1
    have e1v:w1.vs=wi.vs:=by rw[←hw1]
    have e1c:w1.count=wi.count:=by rw[←hw1]
    have e1l:w1.vs.length=wi.vs.length:=by rw[e1v]
    rw[←e1v]
    refine lh (af 96 [(0,.ptr 0 5 0 0),(1,.p (smL l)),(2,.p (.int .i64 b)),(7,.sl 2 5 0 i),(8,.p (.int .i64 w.vs.length)),(9,.p (.int .i64 i)),(10,.ptr 4 5 0 0)])
     [wO 3 nf fns k w1,.dead,.row 5 (smR out),roC nf w1.vs,.row 5 [[.p (.int .i64 o),.p (.str nme),.p (exL (ia w1.vs a)),.p (smL bd),.p (smL el)]]] ?_ ?_
    ·simp-implicitDefEqProofs[]
     refine zz 5 (by omega) (by simp) rfl (.same (qH (by omega)) (.dead (.same (bx (iF out)) (.same (eS _ _ _) (.one (.keep (by simp[below]) (.keep (by simp[below]) (.one ?_ (.keep (by simp[below]) (.keep (by simp[below]) .nil))))) (.nil _)))))) ?_
     ·rw[←e1v] at hal2
      rw[←hal2]
      exact wc rfl
     ·refine⟨.keep (by simp[below]) .nil,.keep (by simp[below]) .nil,.keep (by simp[below]) .nil,.keep (by simp[below]) .nil,.keep (by simp[below]) .nil,.keep (by simp[below]) .nil,.keep (by simp[below]) .nil,trivial⟩
    have TT:∀(r1:List (Nat × AV)),Aw.look r1 0= .ptr 0 5 0 0→Aw.look r1 1= .p (smL l)→Aw.look r1 2= .p (.int .i64 b)→Aw.look r1 7= .sl 2 5 0 i→Aw.look r1 8= .p (.int .i64 w.vs.length)→Aw.look r1 9= .p (.int .i64 i)→Aw.look r1 10= .ptr 4 5 0 0→∀ρ:List Nat,ρ.length=5→ρ.getD 0 0=0→ρ.getD 2 0=2→ρ.getD 4 0=4→
     TWA ρ r1 [(0,.ptr 0 5 0 0),(1,.p (smL l)),(2,.p (.int .i64 b)),(7,.sl 2 5 0 i),(8,.p (.int .i64 w.vs.length)),(9,.p (.int .i64 i)),(10,.ptr 4 5 0 0)]:=by
     intro r1 a0 a1 a2 a7 a8 a9 a10 ρ hr r0 r2 r4
     simp[below,ren,hr,a0,a1,a2,a7,a8,a9,a10]
     rw[List.getD_eq_getElem?_getD,List.getElem?_eq_getElem (by omega)] at r0 r2 r4
     exact⟨r0,r2,r4⟩
    have hn1:nf=true→w1.vs=[]:=fun h=>by rw[e1v];exact hn h
    have okB:∀(nf:Bool) (w:WS) (r:AO),okO 0 r→∀x∈[wO 3 nf fns k w,.dead,.row 5 (smR out),roC nf w.vs,r],okO 5 x:=fun nf w r hr=>
     ae (qH (by omega)) (ae trivial (ae (bx (iF out)) (ae (eS _ _ _) (ae (bx hr) bA))))
    refine lh (af 96 [(0,.ptr 0 5 0 0),(1,.p (smL l)),(2,.p (.int .i64 b)),(7,.sl 2 5 0 i),(8,.p (.int .i64 w.vs.length)),(9,.p (.int .i64 i)),(10,.ptr 4 5 0 0)])
     [wO 3 (if o=1 then false else nf) fns k (if o=1 then iS w1 nme b else w1),.dead,.row 5 (smR out),roC (if o=1 then false else nf) (if o=1 then iS w1 nme b else w1).vs,.row 5 [[.p (.int .i64 o),.p (.str (if o=1 then vnm w1.count else nme)),.p (exL (ia w1.vs a)),.p (smL bd),.p (smL el)]]] ?_ ?_
    ·by_cases o1:o=1
     ·simp-implicitDefEqProofs[o1]
      refine(Eg G (id:=3) (Q:=fun nf' w'=>nf'=false∧w'=iS w1 nme b) ((Dl G nf fns k w1 hn1 (by omega) (by omega) nme b).mono (by rintro x h ⟨rfl,rfl⟩;exact⟨false,_,rfl,rfl,rfl,rfl⟩)) (by simp) (by simp[below]) (by decide) rfl rfl).mono ?_
      rintro r h' ⟨nf',w',rfl,rfl,rfl,rfl⟩
      simp-implicitDefEqProofs[aa]
      refine gS [0,1,2,5,4] (by simp) (by decide) (by decide) (ro (by simp) rfl (bV (by simp) (bf rfl (iF out) (dP rfl (eS _ _ _) (bf rfl (by simp[below]) bp))))) (TT _ (by simp) (by simp) (by simp) (by simp) (by simp) (by simp) (by simp) _ rfl rfl rfl rfl)
     ·simp-implicitDefEqProofs[o1]
      refine ab (by simp) (okB nf w1 _ (by simp[okO,below])) (by simp[below])
    generalize hw2:(if o=1 then iS w1 nme b else w1)=w2
    generalize hnf2:(if o=1 then false else nf)=nf2
    generalize hnm2:(if o=1 then vnm w1.count else nme)=nm2
    have hn2:nf2=true→w2.vs=[]:=by
     intro h
     by_cases o1:o=1
     ·rw[if_pos o1] at hnf2;rw[←hnf2] at h;cases h
     ·rw[if_neg o1] at hnf2 hw2;rw[←hw2];exact hn1 (by rw[hnf2];exact h)
    have h2c:w2.count=w1.count+if o=1 then 1 else 0:=by rw[←hw2];split<;>rfl
    have h2v:w2.vs.length≤w2.count:=by
     rw[←hw2];split
     ·simp[iS];omega
     ·omega
    have h2b:w2.count≤wi.count+1:=by rw[h2c,e1c];split<;>omega
    refine lh (af 96 [(0,.ptr 0 5 0 0),(1,.p (smL l)),(2,.p (.int .i64 b)),(7,.sl 2 5 0 i),(8,.p (.int .i64 w.vs.length)),(9,.p (.int .i64 i)),(10,.ptr 4 5 0 0)])
     [wO 3 nf2 fns k (opW o nme b w1),.dead,.row 5 (smR out),roC nf2 (opW o nme b w1).vs,.row 5 [[.p (.int .i64 o),.p (.str (opN o nme w1)),.p (exL (ia w1.vs a)),.p (smL bd),.p (smL el)]]] ?_ ?_
    ·by_cases o2:o=2
     ·have o1:¬o=1:=by omega
      rw[if_neg o1] at hw2 hnm2
      subst hw2;subst hnm2
      have eo:opW o nme b w1=⟨w1.vs,w1.count,nZ w1.vs nme w1.code⟩:=by rw[opW,if_neg o1,if_pos o2]
      have en:opN o nme w1=sR w1.vs nme:=by rw[opN,if_neg o1,if_pos o2]
      rw[eo,en]
      simp-implicitDefEqProofs[o2]
      refine(GO G (id:=3) (DQ G nf2 fns k w1 hn2 (by omega) nme) (by simp) (by simp[below]) (by decide) rfl rfl).mono ?_
      rintro r h' ⟨rfl,rfl⟩
      simp-implicitDefEqProofs[aa]
      refine ab (h:=[wO 3 nf2 fns k ⟨w1.vs,w1.count,nZ w1.vs nme w1.code⟩,.dead,.row 5 (smR out),roC nf2 w1.vs,_]) (by simp) (okB nf2 ⟨w1.vs,w1.count,nZ w1.vs nme w1.code⟩ _ (by simp[okO,below])) (by simp[below])
     ·have eo:opW o nme b w1=w2:=by rw[opW,if_neg o2,←hw2]
      have en:opN o nme w1=nm2:=by rw[opN,if_neg o2,←hnm2]
      rw[eo,en]
      simp-implicitDefEqProofs[o2]
      refine ab (by simp) (okB nf2 w2 _ (by simp[okO,below])) (by simp[below])
    have eov:(opW o nme b w1).vs=w2.vs:=by
     rw[opW,←hw2];split
     ·rfl
     ·split<;>rfl
    have eoc:(opW o nme b w1).count=w2.count:=by rw[pT,h2c]
    have hwb:IntKind.i64.wrap ((b:Int)+1)=((b+1:Nat):Int):=by rw[al (by omega) (by omega)];omega
    have hstw:stW fns k b (.mk o nme a bd el) wi=nV fns k (b+1) el (nV fns k (b+1) bd (opW o nme b w1)):=by
     rw[stW]
     simp only[hw1,nV,Nat.succ_pos,if_true]
     rfl
    have hrns:(rnS fns k b (.mk o nme a bd el) wi).cs=[.int .i64 o,.str (opN o nme w1),exL (ia w1.vs a),smL (fG fns k (b+1) bd (opW o nme b w1)),smL (fG fns k (b+1) el (nV fns k (b+1) bd (opW o nme b w1)))]:=by
     rw[rnS,Sm.cs_eq]
     simp only[hw1,nV,Nat.succ_pos,if_true,Sm.op,Sm.name,Sm.args,Sm.body,Sm.els,e1v]
     have:opN o nme wi=opN o nme w1:=by simp only[opN,e1v,e1c]
     rw[this]
    rw[hstw] at eW
    clear hstw
    generalize opW o nme b w1=w3 at eov eoc hrns eW⊢
    have hn3:nf2=true→w3.vs=[]:=fun h=>by rw[eov];exact hn2 h
    have h3v:w3.vs.length≤w3.count:=by rw[eov,eoc];exact h2v
    simp-implicitDefEqProofs[hwb]
    refine(Eg G (id:=3) (ih bd (by omega) (b+1) nf2 w3 hn3 h3v (by omega) (by omega)) (by simp) (by simp[below]) (by decide) rfl rfl).mono ?_
    rintro r h' ⟨nf4,w4,rfl,rfl,hn4,hw4⟩
    rw[←hw4] at hrns eW
    have h4c:w4.count=w3.count+mY bd:=by rw[hw4];exact yg _ _ _ _ _
    have h4v:w4.vs.length≤w4.count:=by
     have:w4.vs=w3.vs:=by rw[hw4];simp[nV,WS.back]
     rw[this,h4c];omega
    simp-implicitDefEqProofs[aa,hwb]
    refine(Eg G (id:=5) (ih el (by omega) (b+1) nf4 w4 hn4 h4v (by omega) (by omega)) (by simp) (by simp[below]) (by decide) rfl rfl).mono ?_
    rintro r h' ⟨nf5,w5,rfl,rfl,hn5,hw5⟩
    rw[←hw5] at eW
    have hsl2:(smR out).length=i:=by rw[EV];exact hol
    simp-implicitDefEqProofs[aa,hsl2]
    refine⟨⟨by omega,by omega⟩,⟨i+1,nf5⟩,⟨by simp only;omega,fun h=>by simp only at h⊢;rw[eW];exact hn5 h⟩,by simp only;omega,?_⟩
    simp only
    rw[eW,eR,Fi]
    have htk:List.take i (smR out)=smR out:=List.take_of_length_le (by omega)
    rw[htk]
    have hsm1:smR [rnS fns k b (.mk o nme a bd el) wi]=[[.p (.int .i64 o),.p (.str (opN o nme w1)),.p (exL (ia w1.vs a)),.p (smL (fG fns k (b+1) bd w3)),.p (smL (fG fns k (b+1) el w4))]]:=by rw[smR,List.map_singleton,hrns];rfl
    rw[hsm1]
    refine gS [0,1,8,6] (by simp) (by decide) (by decide) (ro (by simp) rfl (bV (by simp) (bf rfl (fun x hx=>?_) (dP rfl (eS _ _ _) bp)))) (by simp[below,ren,hsl,show IntKind.i64.wrap ((i:Int)+1)=((i:Int)+1) from al (by omega) (by omega)])
    rcases List.mem_append.1 hx with h|h
    ·exact iF out x h
    ·rw[List.mem_singleton.1 h];simp
   ·simp at h
    have hie:i=l.length:=by omega
    subst hie
    rw[List.take_length] at hn⊢
    obtain⟨ext,hext⟩:=xJ fns k l b w
    have hlen:=sO fns k b l w
    refine lh (af 96 [(7,.p (smL (fG fns k b l w)))]) [wO 2 nf fns k (nV fns k b l w),.dead,roC nf (nV fns k b l w).vs] ?_ ?_
    ·have fin:∀(r1:List (Nat × AV)) (w':WS),w'.vs=w.vs∨w'.vs=(bU fns k b l w).vs→(Aw.look r1 7= .sl 2 5 0 l.length)→
      Wk 2 (af 96 r1) [wO 3 nf fns k w',.dead,.row 5 (smR (fG fns k b l w)),roC nf (bU fns k b l w).vs] (af 96 [(7,.p (smL (fG fns k b l w)))]) [wO 2 nf fns k w',.dead,roC nf w'.vs]:=by
      intro r1 w' hv' hr
      refine Wk.trans (oa (h1:=[wO 3 nf fns k w',.dead,.row 5 (smR (fG fns k b l w)),roC nf w'.vs]) ?_) (Wk.trans (gS (l1:=[(7,.sl 3 5 0 l.length)]) (h1:=[wO 2 nf fns k w',.dead,roC nf w'.vs,.row 5 (smR (fG fns k b l w))]) [0,1,3,2] (by simp) (by decide) (by decide) (ro (by simp) rfl (bV (by simp) (dP rfl (eS _ _ _) (bf rfl (iF _) bp)))) (by simp[below,ren,hr]))
       (zz 3 (by omega) (by simp) rfl (.same (qH (by omega)) (.dead (.same (eS _ _ _) (.nil _)))) ?_))
      ·refine⟨.inl rfl,.inl rfl,.inl rfl,?_,trivial⟩
       rcases hv' with e|e
       ·cases nf with
        |true=>exact .inl rfl
        |false=>
         refine .inr ⟨3,lvR (bU fns k b l w).vs,w.vs.length,rfl,?_⟩
         rw[hext,Cy,e];rfl
       ·rw[e];exact .inl rfl
      ·rw[←hlen]
       exact⟨.one (Dp rfl) .nil,trivial⟩
     by_cases hb0:0<b
     ·have hwe:nV fns k b l w=(bU fns k b l w).back w.vs:=if_pos hb0
      rw[hwe]
      have hll2:(bU fns k b l w).vs.length=ext.length+w.vs.length:=by rw[hext,List.length_append]
      cases nf with
      |true=>
       have h0:=hn rfl
       rw[h0] at hext
       have h00:w.vs=[]:=(List.append_eq_nil_iff.1 hext.symm).2
       simp-implicitDefEqProofs[hb0,wO,wC,vaC,h00]
       rw[h00] at fin
       exact fin _ ⟨[],(bU fns k b l w).count,(bU fns k b l w).code⟩ (.inl rfl) (by simp)
      |false=>
       have hle:w.vs.length≤(bU fns k b l w).vs.length:=by omega
       simp-implicitDefEqProofs[hb0,wO,wC,vaC,hle]
       exact fin _ ⟨w.vs,(bU fns k b l w).count,(bU fns k b l w).code⟩ (.inl rfl) (by simp)
     ·have hwe:nV fns k b l w=bU fns k b l w:=if_neg hb0
      have hb0':b=0:=by omega
      subst hb0'
      rw[hwe]
      simp-implicitDefEqProofs[]
      exact fin _ _ (.inr rfl) (by simp)
    ·simp-implicitDefEqProofs[]
     refine⟨nf,_,rfl,rfl,?_,rfl⟩
     intro hnf
     have h0:=hn hnf
     unfold nV
     split
     ·rw[h0] at hext;exact(List.append_eq_nil_iff.1 hext.symm).2
     ·exact h0
end Go.Proofs.YtnjbhgpbgmpkcaaGreatDoor
namespace Go.Proofs.YtnjbhgpbgmpkcaaGreatDoor
open Go Go.Aw
set_option maxRecDepth 100000
set_option maxHeartbeats 4000000
def K_spec_l4Fn:AK:= .seq (.reg [oJ 2 (.box 1 (.t 0)),oJ 4 (.alloc [(.p (.str [])),.nils,.nils]),oK 5 0,oK 6 0]) (.seq (.reg [oJ 11 (.ld (some 1) (.t 2)),oM 12 1,oJ 13 (.bld [.nils,(.p (.int .i64 0)),.nils,(.p (.int .i64 0)),(.p (.int .i64 0))] [(0,1,(.t 11)),(1,1,(.t 12))]),oJ 14 (.box 5 (.t 13)),oM 7 14]) (.cut (.reg [oF 15 0 2,oL 16 15,oM 17 1,oJ 18 (.idxS 3 (.t 16) (.t 17)),oJ 19 (.ld (some 3) (.t 18)),oJ 8 (.alloc [(.p (.str [])),.nils,.nils]),⟨none,none,.st 3 (.t 8) (.t 19)⟩]) (.cut (.seq (.reg [oJ 20 (.ld (some 1) (.t 2)),oF 21 0 8,oL 22 21,oJ 23 (.call eV [(.t 20),(.t 22)]),oM 24 1,oJ 25 (.bin .neq (.t 23) (.t 24))]) (.cond (.t 25) (.reg [oM 26 7,oJ 27 (.call aF [(.t 26),(.c (.p (.int .i64 2)))])]) (.skip))) (.seq (.reg [oJ 28 (.bsl 1 [(.p (.str []))] 0 []),oM 9 28]) (.seq (.seq (.reg [oK 10 0]) (.blk 0 (.loop (.seq (.seq (.reg [oM 29 10,oF 30 1 8,oL 31 30,oJ 32 (.len false (.t 31)),oJ 33 (.bin .lss (.t 29) (.t 32))]) (.cond (.t 33) (.skip) (.exit 0))) (.seq (.blk 1 (.reg [oM 36 9,oM 37 7,oF 38 1 8,oL 39 38,oM 40 10,oJ 41 (.idxS 1 (.t 39) (.t 40)),oL 42 41,oJ 43 (.call bJ [(.t 37),(.t 42),(.c (.p (.int .i64 0)))]),oJ 44 (.bsl 1 [(.p (.str []))] 1 [(0,1,(.t 43))]),oJ 45 (.app 1 16 (.t 36) (.t 44)),oM 9 45])) (.reg [oM 34 10,oJ 35 (.bin .add (.t 34) (.c (.p (.int .i64 1)))),oM 10 35])))))) (.seq (.reg [oM 46 9,oF 47 1 8,oS 47 46]) (.seq (.reg [oM 48 7,oF 49 2 8,oL 50 49,oJ 51 (.call aM [(.t 48),(.t 50),(.c (.p (.int .i64 0)))]),oF 52 2 8,oS 52 51]) (.seq (.reg [oM 54 7,oN 55 54,oF 56 4 55,oM 58 7,oN 59 58,oF 60 3 59,oJ 53 (.ld (some 3) (.t 8)),oL 57 56,oL 61 60,⟨none,none,.st 3 (.t 4) (.t 53)⟩,⟨none,none,.chk none 56 57⟩,⟨none,none,.chk none 60 61⟩,oM 5 57,oM 6 61]) (.ret)))))))))
theorem wP:K_spec_l4Fn.whole=F_spec_l4Fn.ak:=rfl
theorem wv:∀(ps:List (List UInt8)) (w:WS),w.vs.length≤w.count→(ce ps w).vs.length≤(ce ps w).count
 |[],w,h=>h
 |s::r,w,h=>wv r (iS w s 0) (by simp[iS];omega)
theorem Bo(a b:List (List UInt8))(w:WS):ce (a++b) w=ce b (ce a w):=by simp[ce]
theorem yM{l:List (List UInt8)}{w:WS}{i:Nat}(h:i<l.length):ce (l.take (i+1)) w=iS (ce (l.take i) w) l[i] 0:=by
 rw[ah h,Bo];rfl
theorem wE:∀(a b:List (List UInt8)) (w:WS),mN (a++b) w=mN a w++mN b (ce a w)
 |[],b,w=>rfl
 |s::r,b,w=>by rw[List.cons_append,mN,mN,wE r];rfl
theorem BX{l:List (List UInt8)}{w:WS}{i:Nat}(h:i<l.length):mN (l.take (i+1)) w=mN (l.take i) w++[vnm (ce (l.take i) w).count]:=by
 rw[ah h,wE];rfl
theorem sq:∀(l:List (List UInt8)) (w:WS),(mN l w).length=l.length
 |[],w=>rfl
 |s::r,w=>by rw[mN,List.length_cons,sq r,List.length_cons]
def w0(fns:List Fd)(k:Nat)(f:Fd):WS:=⟨[],0,if bT fns f.name=some k then 0 else 2⟩
theorem HL(fns:List Fd)(k:Nat)(f:Fd):fnW fns k f=bU fns k 0 f.body (ce f.params (w0 fns k f)):=rfl
theorem CD(fns:List Fd)(k:Nat)(f:Fd):(rnF fns k f).cs=[.str f.name,aC (mN f.params (w0 fns k f)),smL (fG fns k 0 f.body (ce f.params (w0 fns k f)))]:=rfl
variable (G:aw)
theorem Ho{fns:List Fd}{k:Nat}{f:Fd}(hk:fns[k]?=some f)(hz:bL fns≤1073741824):VF Tryz.prog G jj [.agg [.p (fdL fns)],.p (.int .i64 k)] (.tup [.agg ((rnF fns k f).cs.map .p),.p (.int .i64 (fnW fns k f).code),.p (.int .i64 (fnW fns k f).count)]):=by
 have hfl:=br fns
 have hfm:=dc (List.mem_of_getElem? hk)
 have hfz:f.sz=1+f.name.length+(f.params.length+(f.params.map List.length).sum)+au f.body:=rfl
 have hkl:=(List.getElem?_eq_some_iff.1 hk).1
 have key:AC Tryz.prog G jj [.agg [.p (fdL fns)],.p (.int .i64 k)] [] fun x h=>x= .ret (.tup [.agg [.p (.str f.name),.sl 5 1 0 f.params.length,.p (smL (fG fns k 0 f.body (ce f.params (w0 fns k f))))],.p (.int .i64 (fnW fns k f).code),.p (.int .i64 (fnW fns k f).count)])∧h[5]?=some (cJ (mN f.params (w0 fns k f))):=by
  refine AC.goK wF wP ?_
  have hfd:∀l,fdL l= .lst 3 (l.map Fd.cs):=fun _=>rfl
  have hcs:f.cs=[.str f.name,aC f.params,smL f.body]:=rfl
  have hst:aC f.params= .lst 1 (f.params.map fun w=>[.str w]):=rfl
  simp-implicitDefEqProofs[K_spec_l4Fn,F_spec_l4Fn]
  refine lh (af 62 [(1,.p (.int .i64 k)),(2,.ptr 0 1 0 0),(4,.ptr 1 3 0 0),(7,.ptr 2 5 0 0),(8,.ptr 3 3 0 0)])
   [.row 1 [[.p (fdL fns)]],.row 3 [[.p (.str []),.nils,.nils]],wO 4 true fns k ⟨[],0,0⟩,.row 3 [[.p (.str f.name),.p (aC f.params),.p (smL f.body)]],.dead] ?_ ?_
  ·simp-implicitDefEqProofs[hfd,hk,hcs]
   refine xz (h:=[.row 1 [[.p (fdL fns)]],.row 3 [[.p (.str []),.nils,.nils]],wO 4 true fns k ⟨[],0,0⟩,.row 3 [[.p (.str f.name),.p (aC f.params),.p (smL f.body)]]]) (by simp) (by simp) ?_ (by simp[below])
   refine ae (by simp[okO,below]) (ae (by simp[okO,below]) (ae ?_ (ae (by simp[okO,below]) bA)))
   intro x hx
   rw[List.mem_singleton.1 hx];simp[wC,vaC,below]
  refine lh (af 62 [(1,.p (.int .i64 k)),(2,.ptr 0 1 0 0),(4,.ptr 1 3 0 0),(7,.ptr 2 5 0 0),(8,.ptr 3 3 0 0)])
   [.row 1 [[.p (fdL fns)]],.row 3 [[.p (.str []),.nils,.nils]],wO 4 true fns k (w0 fns k f),.row 3 [[.p (.str f.name),.p (aC f.params),.p (smL f.body)]],.dead] ?_ ?_
  ·simp-implicitDefEqProofs[]
   refine(Cu G fns f.name (by omega)).use ?_
   have hok:∀w:WS,∀o∈[AO.row 1 [[.p (fdL fns)]],.row 3 [[.p (.str []),.nils,.nils]],wO 4 true fns k w,.row 3 [[.p (.str f.name),.p (aC f.params),.p (smL f.body)]],.dead],okO 5 o:=fun w=>
    ae (by simp[okO,below]) (ae (by simp[okO,below]) (ae (qH (by simp)) (ae (by simp[okO,below]) (ae trivial bA))))
   by_cases he:bT fns f.name=some k
   ·have hw:w0 fns k f=⟨[],0,0⟩:=by rw[w0,if_pos he]
    rw[hw,he]
    simp-implicitDefEqProofs[ixI]
    exact ab (by simp) (hok _) (by simp[below])
   ·have hw:w0 fns k f=⟨[],0,2⟩:=by rw[w0,if_neg he]
    have hne:¬ixI (bT fns f.name)=(k:Int):=by
     intro h
     apply he
     cases e:bT fns f.name with
     |none=>rw[e] at h;simp only[ixI] at h;omega
     |some j=>rw[e] at h;simp only[ixI] at h;have:j=k:=by omega
              rw[this]
    rw[hw]
    simp-implicitDefEqProofs[hne]
    refine(GO G (wid:=2) (id:=4) (mC G true fns k ⟨[],0,0⟩ 2) (by simp) (by simp[below]) (by decide) rfl rfl).mono ?_
    rintro r h' ⟨rfl,rfl⟩
    simp-implicitDefEqProofs[aa]
    exact ab (h:=[AO.row 1 [[.p (fdL fns)]],.row 3 [[.p (.str []),.nils,.nils]],wO 4 true fns k ⟨[],0,2⟩,.row 3 [[.p (.str f.name),.p (aC f.params),.p (smL f.body)]],.dead]) (by simp) (hok _) (by simp[below])
  rw[HL]
  have hw0v:(w0 fns k f).vs=[]:=rfl
  have hw0c:(w0 fns k f).count=0:=rfl
  generalize w0 fns k f=w0 at hw0v hw0c⊢
  simp-implicitDefEqProofs[]
  have hcnt:∀j,j≤f.params.length→(ce (f.params.take j) w0).count=j:=fun j hj=>by rw[qo,hw0c];simp;omega
  have hvl:∀j,(ce (f.params.take j) w0).vs.length≤(ce (f.params.take j) w0).count:=fun j=>wv _ _ (by rw[hw0v];simp)
  refine aq (fun j:Nat=>af 62 [(1,.p (.int .i64 k)),(2,.ptr 0 1 0 0),(4,.ptr 1 3 0 0),(7,.ptr 2 5 0 0),(8,.ptr 3 3 0 0),(9,.sl 5 1 0 j),(10,.p (.int .i64 j))])
   (fun j=>[.row 1 [[.p (fdL fns)]],.row 3 [[.p (.str []),.nils,.nils]],wO 6 (decide (j=0)) fns k (ce (f.params.take j) w0),.row 3 [[.p (.str f.name),.p (aC f.params),.p (smL f.body)]],.dead,cJ (mN (f.params.take j) w0),roC (decide (j=0)) (ce (f.params.take j) w0).vs])
   (fun j=>j≤f.params.length) (fun j=>f.params.length-j) 0 (by simp) ?_ ?_
  ·refine xz (h:=[.row 1 [[.p (fdL fns)]],.row 3 [[.p (.str []),.nils,.nils]],wO 6 true fns k w0,.row 3 [[.p (.str f.name),.p (aC f.params),.p (smL f.body)]],.dead,.row 1 []]) (by simp) (by simp) ?_ (by simp[below])
   refine ae (by simp[okO,below]) (ae (by simp[okO,below]) (ae ?_ (ae (by simp[okO,below]) (ae trivial (ae (by simp[okO]) bA)))))
   intro x hx
   rw[List.mem_singleton.1 hx];simp[wC,vaC,below]
  intro j hj
  have hjc:=hcnt j hj
  have hjv:=hvl j
  have hol:=sq (f.params.take j) w0
  rw[List.length_take,Nat.min_eq_left hj] at hol
  have hnf:decide (j=0)=true→(ce (f.params.take j) w0).vs=[]:=by
   intro h
   have h0:j=0:=by simpa using h
   rw[h0,List.take_zero]
   exact hw0v
  simp-implicitDefEqProofs[hst]
  refine aQ (fun h=>?_) (fun h=>?_)
  ·simp at h
   have hg:=List.getElem?_eq_getElem h
   have eP:=yM (w:=w0) h
   have eR:=BX (w:=w0) h
   simp-implicitDefEqProofs[hg]
   refine(Eg G (wid:=2) (id:=6) (Q:=fun nf' w'=>nf'=false∧w'=iS (ce (f.params.take j) w0) f.params[j] 0) ((Dl G (decide (j=0)) fns k _ hnf (by omega) (by omega) f.params[j] 0).mono (by rintro x h ⟨rfl,rfl⟩;exact⟨false,_,rfl,rfl,rfl,rfl⟩)) (by simp) (by simp[below]) (by decide) rfl rfl).mono ?_
   rintro r h' ⟨nf',w',rfl,rfl,rfl,rfl⟩
   have hso:∀l,cJ l= .row 1 (l.map fun n=>[.p (.str n)]):=fun _=>rfl
   simp-implicitDefEqProofs[aa,hso,hol]
   refine⟨by omega,j+1,by omega,by omega,?_⟩
   have htk:List.take j ((mN (f.params.take j) w0).map fun n=>[AV.p (.str n)])=(mN (f.params.take j) w0).map fun n=>[AV.p (.str n)]:=List.take_of_length_le (by rw[List.length_map];omega)
   have hd:decide (j+1=0)=false:=by simp
   rw[eP,eR,hd,List.map_append,←List.map_take,List.map_take,htk]
   refine dw [0,1,2,3,4,9,7] rfl (by decide) (bf rfl (by simp) (bf rfl (by simp[below]) (ro (by simp) rfl (bf rfl (by simp) (bV (by simp) (bf rfl (fun x hx=>?_) (dP rfl (eS _ _ _) bp))))))) (by simp[below,ren,w1 (i:=j) (by omega)])
   rcases List.mem_append.1 hx with h|h
   ·exact bn _ x h
   ·exact bn _ x h
  ·simp at h
   have hje:j=f.params.length:=by omega
   subst hje
   rw[List.take_length] at hol hjc hjv hnf⊢
   generalize decide (f.params.length=0)=nf at hnf⊢
   simp-implicitDefEqProofs[]
   refine(Eg G (wid:=2) (id:=6) (Dz G (fns:=fns) (by omega) (au f.body+1) f.body (by omega) 0 _ (ce f.params w0) hnf hjv (by omega) (by omega)) (by simp) (by simp[below]) (by decide) rfl rfl).mono ?_
   rintro r h' ⟨nf',w',rfl,rfl,hn',hw'⟩
   have hb:nV fns k 0 f.body (ce f.params w0)=bU fns k 0 f.body (ce f.params w0):=rfl
   rw[hb] at hw'
   rw[←hw']
   simp-implicitDefEqProofs[aa,wO,wC]
 refine key.freezeR (fun t v h ⟨e,_⟩=>by cases e) fun v h ⟨e1,e2⟩=>?_
 cases e1
 rw[CD]
 have hol:=sq f.params (w0 fns k f)
 have hv:=jX e2
 rw[hol] at hv
 exact .tup (.agg (.keep (by simp) (.one hv (.keep (by simp) .nil))) (.keep (by simp) (.keep (by simp) .nil))) .nil
theorem wT{fns:List Fd}{i:Nat}(h:i<fns.length):gb fns i (fns.drop i)=if(fnW fns i fns[i]).code=0 then gb fns (i+1) (fns.drop (i+1)) else(fnW fns i fns[i]).code:=by
 rw[List.drop_eq_getElem_cons h,gb]
theorem rx(l:List Fd)(hz:bL l≤1073741824):VF Tryz.prog G dY [.agg [.p (fdL l)]] (.p (.int .i64 (cm l))):=by
 refine AC.go mQ ?_
 have hll:=br l
 have hfd:∀l,fdL l= .lst 3 (l.map Fd.cs):=fun _=>rfl
 simp-implicitDefEqProofs[gQ]
 refine(rM G l (by omega)).use ?_
 by_cases hv:ca l=true
 case neg=>
  have:cm l=1:=if_neg hv
  have hv':ca l=false:=by simpa using hv
  simp-implicitDefEqProofs[hv',this]
 have hc:cm l=gb l 0 (l.drop 0):=if_pos hv
 rw[hc]
 simp-implicitDefEqProofs[hv]
 refine aq (fun i:Nat=>af 27 [(1,.ptr 0 1 0 0),(3,.p (.int .i64 i))]) (fun _=>[.row 1 [[.p (fdL l)]]]) (fun i=>i≤l.length∧gb l 0 l=gb l i (l.drop i)) (fun i=>l.length-i) 0 (by simp) (ab (by simp) (by simp[okO]) (by simp[below])) ?_
 rintro i ⟨hi,he⟩
 simp-implicitDefEqProofs[hfd]
 refine aQ (fun h=>?_) (fun h=>?_)
 ·simp at h
  have hg:=List.getElem?_eq_getElem h
  have hd:=wT h
  simp-implicitDefEqProofs[]
  refine(Ho G hg hz).use ?_
  have hrc:=CD l i l[i]
  by_cases h0:(fnW l i l[i]).code=0
  ·rw[if_pos h0] at hd
   simp-implicitDefEqProofs[h0,hrc]
   refine⟨i+1,⟨by omega,by rw[he,hd]⟩,by omega,?_⟩
   refine jk (m:=1) (by omega) (ex rfl rfl (by simp[okO,below])) (by simp[below,hfd,w1 (i:=i) (by omega)])
  ·rw[if_neg h0] at hd
   simp-implicitDefEqProofs[h0,hrc]
   rw[he,hd]
 ·simp at h
  have hie:i=l.length:=by omega
  subst hie
  rw[List.drop_length] at he
  simp-implicitDefEqProofs[]
  rw[he];rfl
end Go.Proofs.YtnjbhgpbgmpkcaaGreatDoor
namespace Go.Proofs.YtnjbhgpbgmpkcaaGreatDoor
open Go Go.Aw
set_option maxRecDepth 100000
set_option maxHeartbeats 4000000
variable (G:aw)
theorem Cw(l:List Fd)(hz:bL l≤1073741824):VF Tryz.prog G jl [.agg [.p (fdL l)]] (.p (.bool (decide (cm l=0)))):=by
 refine AC.go tL ?_
 simp-implicitDefEqProofs[nq]
 refine(rx G l hz).use ?_
 simp-implicitDefEqProofs[]
variable (hK:G gE=some fW) (hS:G dq=some [.tbl opK opV])
include hK hS
theorem Hk(l:List Fd)(hz:bL l≤1073741824):VF Tryz.prog G lw [.agg [.p (fdL l)]] (.p (.bool (decide (cm l=0)))):=by
 refine AC.go xn ?_
 simp-implicitDefEqProofs[qv]
 refine(sL G hK hS l hz).use ?_
 simp-implicitDefEqProofs[]
end Go.Proofs.YtnjbhgpbgmpkcaaGreatDoor
namespace Go.Proofs.YtnjbhgpbgmpkcaaGreatDoor
open Go Go.Aw
set_option maxRecDepth 100000
set_option maxHeartbeats 4000000
abbrev Wds:=List (List UInt8)
mutual
def nmE(op:Int):Ex→Wds→Wds
 | .mk o _ s ks,out=>ep op ks (if o=op∧s∉out then out++[s] else out)
def ep(op:Int):List Ex→Wds→Wds
 |[],out=>out
 |e::r,out=>ep op r (nmE op e out)
end
mutual
def clS:Sm→Wds→Wds
 | .mk _ _ a b e,out=>ef e (ef b (ep 13 a out))
def ef:List Sm→Wds→Wds
 |[],out=>out
 |s::r,out=>ef r (clS s out)
end
def gU(l:List Fd)(bd:List Sm)(k:Nat):List Nat:=(List.range k).filter fun i=>match l[i]? with|some g=>decide (g.name∈ef bd [])|none=>false
theorem GU(op:Int)(e:Ex)(out:Wds):nmE op e out=ep op e.kids (if e.op=op∧e.name∉out then out++[e.name] else out):=by cases e;rfl
theorem Hh(s:Sm)(out:Wds):clS s out=ef s.els (ef s.body (ep 13 s.args out)):=by cases s;rfl
theorem wu(op:Int):∀(a b:List Ex) (out:Wds),ep op (a++b) out=ep op b (ep op a out)
 |[],b,out=>rfl
 |e::r,b,out=>by rw[List.cons_append,ep,ep,wu op r]
theorem uE{op:Int}{l:List Ex}{out:Wds}{i:Nat}(h:i<l.length):ep op (l.take (i+1)) out=nmE op l[i] (ep op (l.take i) out):=by
 rw[ah h,wu];rfl
theorem wJ:∀(a b:List Sm) (out:Wds),ef (a++b) out=ef b (ef a out)
 |[],b,out=>rfl
 |e::r,b,out=>by rw[List.cons_append,ef,ef,wJ r]
theorem AH{l:List Sm}{out:Wds}{i:Nat}(h:i<l.length):ef (l.take (i+1)) out=clS l[i] (ef (l.take i) out):=by
 rw[ah h,wJ];rfl
theorem As(l:List Ex)(i:Nat):bv (l.take i)≤bv l:=by
 have e:bv l=bv (l.take i)+bv (l.drop i):=by rw[←je,List.take_append_drop]
 omega
theorem Aa{l:List Ex}{i:Nat}(h:i<l.length):bv (l.take i)+l[i].sz≤bv l:=by
 have e:bv l=bv (l.take i)+bv (l.drop i):=by rw[←je,List.take_append_drop]
 rw[List.drop_eq_getElem_cons h] at e
 simp only[bv] at e
 omega
mutual
theorem Fc(op:Int):∀(e:Ex) (out:Wds),(nmE op e out).length≤out.length+e.sz
 | .mk o _ s ks,out=>by
   have h:=lQ op ks (if o=op∧s∉out then out++[s] else out)
   have h2:(if o=op∧s∉out then out++[s] else out).length≤out.length+1:=by split<;>simp
   rw[nmE,Ex.sz];omega
theorem lQ(op:Int):∀(l:List Ex) (out:Wds),(ep op l out).length≤out.length+bv l
 |[],out=>by simp[ep,bv]
 |e::r,out=>by
  have h1:=Fc op e out
  have h2:=lQ op r (nmE op e out)
  rw[ep,bv];omega
end
mutual
theorem Fp:∀(s:Sm) (out:Wds),(clS s out).length≤out.length+s.sz
 | .mk _ _ a b e,out=>by
   have h1:=lQ 13 a out
   have h2:=jE b (ep 13 a out)
   have h3:=jE e (ef b (ep 13 a out))
   rw[clS,Sm.sz];omega
theorem jE:∀(l:List Sm) (out:Wds),(ef l out).length≤out.length+au l
 |[],out=>by simp[ef,au]
 |s::r,out=>by
  have h1:=Fp s out
  have h2:=jE r (clS s out)
  rw[ef,au];omega
end
def K_spec_l2Names:AK:= .seq (.reg [oJ 3 (.box 4 (.t 0)),oJ 6 (.mov (.c .nils))]) (.cut (.seq (.reg [oF 8 0 3,oL 9 8,oM 10 1,oJ 11 (.bin .eql (.t 9) (.t 10)),oM 12 11,⟨(some 13),some (12,true),.mov (.t 2)⟩,⟨(some 14),some (12,true),.fldA 2 (.t 3)⟩,⟨(some 15),some (12,true),.ld none (.t 14)⟩,⟨(some 16),some (12,true),.call fk [(.t 13),(.t 15)]⟩,⟨(some 17),some (12,true),.not (.t 16)⟩,oJ 18 (.pick (.t 12) (.t 17) (.c (.p (.bool false))))]) (.cond (.t 18) (.reg [oM 19 2,oF 20 2 3,oL 21 20,oJ 22 (.bsl 1 [(.p (.str []))] 1 [(0,1,(.t 21))]),oJ 23 (.app 1 16 (.t 19) (.t 22)),oM 2 23]) (.skip))) (.seq (.seq (.reg [oK 7 0]) (.blk 0 (.loop (.seq (.seq (.reg [oM 24 7,oF 25 3 3,oL 26 25,oJ 27 (.len false (.t 26)),oJ 28 (.bin .lss (.t 24) (.t 27))]) (.cond (.t 28) (.skip) (.exit 0))) (.seq (.blk 1 (.reg [oF 31 3 3,oL 32 31,oM 33 7,oJ 34 (.idxS 4 (.t 32) (.t 33)),oJ 35 (.ld (some 4) (.t 34)),oM 36 1,oM 37 2,oJ 38 (.call cK [(.t 35),(.t 36),(.t 37)]),oM 2 38])) (.reg [oM 29 7,oJ 30 (.bin .add (.t 29) (.c (.p (.int .i64 1)))),oM 7 30])))))) (.seq (.reg [oM 39 2,oM 6 39]) (.ret))))
theorem rB:K_spec_l2Names.whole=F_spec_l2Names.ak:=rfl
variable (G:aw)
theorem uT(l:Wds)(s:List UInt8)(hl:l.length≤1099511627776):VF Tryz.prog G fk [.p (aC l),.p (.str s)] (.p (.bool (decide (s∈l)))):=by
 refine AC.go uX ?_
 have hsl:∀l,aC l= .lst 1 (l.map fun w=>[.str w]):=fun _=>rfl
 simp-implicitDefEqProofs[om,hsl]
 refine aq (fun i:Nat=>af 18 [(0,.p (aC l)),(1,.p (.str s)),(5,.p (.int .i64 i))]) (fun _=>[]) (fun i=>i≤l.length∧s∉l.take i) (fun i=>l.length-i) 0 (by simp) (aD rfl (by simp[below,hsl])) ?_
 rintro i ⟨hi,hn⟩
 simp-implicitDefEqProofs[hsl]
 refine aQ (fun h=>?_) (fun h=>?_)
 ·simp at h
  have hg:=List.getElem?_eq_getElem h
  have hmem:=List.getElem_mem h
  have htk:=ah h
  generalize l[i]=w at hg hmem htk
  by_cases he:w=s
  ·have hm:s∈l:=he▸hmem
   simp-implicitDefEqProofs[hg,he,hm]
  ·simp-implicitDefEqProofs[hg,he]
   refine⟨i+1,⟨h,fun hp=>?_⟩,by omega,aD rfl (by simp[below,hsl,w1 (i:=i) (by omega)])⟩
   rw[htk] at hp
   rcases List.mem_append.1 hp with hp|hp
   ·exact hn hp
   ·rw[List.mem_singleton] at hp;exact he hp.symm
 ·simp at h
  rw[List.take_of_length_le h] at hn
  simp-implicitDefEqProofs[hn]
theorem sj{f:FuncId}{args:List AV}{l l':Wds}(H:AC Tryz.prog G f (args++[.sl 0 1 0 l.length]) [cJ l] fun x h=>x= .ret (.sl 1 1 0 l'.length)∧h=[.dead,cJ l'])(ha:aj 0 args){h:List AO}{id:Nat}(e:h[id]?=some (cJ l)):
 AC Tryz.prog G f (args++[.sl id 1 0 l.length]) h fun x h'=>x= .ret (.sl h.length 1 0 l'.length)∧h'=h.set id .dead++[cJ l']:=by
 have hTW:TW [id] (args++[.sl id 1 0 l.length]) (args++[.sl 0 1 0 l.length]):=by
  clear H
  induction args with
  |nil=>simp[below,ren]
  |cons v r ih=>
   rw[List.cons_append,List.cons_append,rg]
   refine⟨.inr ⟨(aL (Nat.zero_le _) [v] ⟨ha.1,trivial⟩).1,?_⟩,ih ha.2⟩
   have:=fP [id] [v] ⟨ha.1,trivial⟩
   simpa[bD] using this
 refine(H.frame [id] (by simp) hTW (dP e (fun x hx=>bn l x hx) bp)).mono ?_
 rintro x h' ⟨x0,h0,⟨rfl,rfl⟩,_,rfl,rfl⟩
 refine⟨?_,?_⟩
 ·simp[yW,ren]
 ·have hp:∀σ,ju σ (cJ l')=cJ l':=fun σ=>by simp[cJ,ju,bD,ren]
  simp only[List.length_cons,List.length_nil,List.take_succ_cons,List.take_zero,List.map_cons,List.map_nil,List.drop_succ_cons,List.drop_zero,hp,mrg]
  rfl
theorem An:∀(N:Nat) (e:Ex),e.sz≤N→∀(op:Int) (out:Wds),out.length+e.sz≤1099511627776→
 AC Tryz.prog G cK [.agg (e.cs.map .p),.p (.int .i64 op),.sl 0 1 0 out.length] [cJ out] fun x h=>x= .ret (.sl 1 1 0 (nmE op e out).length)∧h=[.dead,cJ (nmE op e out)]:=by
 intro N
 induction N with
 |zero=>intro e he;have:=e.sz_eq;omega
 |succ N ih=>
  intro e he op out hb
  have hec:=e.cs_eq
  have hsz:=e.sz_eq
  have hkl:=aW e.kids
  rw[GU]
  have key:AC Tryz.prog G cK [.agg (e.cs.map .p),.p (.int .i64 op),.sl 0 1 0 out.length] [cJ out] fun x h=>∃r,∃out',out'=ep op e.kids (if e.op=op∧e.name∉out then out++[e.name] else out)∧x= .ret (.sl 2 1 0 out'.length)∧h= .dead::r::[cJ out']:=by
   refine AC.goK sv rB ?_
   have hso:∀l,cJ l= .row 1 (l.map fun n=>[.p (.str n)]):=fun _=>rfl
   have hbox:∀o:AO,o= .row 4 [[.p (.int .i64 e.op),.p (.int .i64 e.n),.p (.str e.name),.p (exL e.kids)]]→okO 0 o:=fun o h=>by rw[h];simp[okO,below]
   simp-implicitDefEqProofs[K_spec_l2Names,F_spec_l2Names,hec]
   obtain⟨out1,ho1⟩:∃out1,out1=(if e.op=op∧e.name∉out then out++[e.name] else out):=⟨_,rfl⟩
   rw[←ho1]
   have hol1:out1.length≤out.length+1:=by rw[ho1];split<;>simp
   refine lh (af 40 [(1,.p (.int .i64 op)),(2,.sl 2 1 0 out1.length),(3,.ptr 1 4 0 0)]) [.dead,.row 4 [[.p (.int .i64 e.op),.p (.int .i64 e.n),.p (.str e.name),.p (exL e.kids)]],cJ out1] ?_ ?_
   ·by_cases ho:e.op=op
    ·by_cases hm:e.name∈out
     ·have h1:out1=out:=by rw[ho1,if_neg (fun h=>h.2 hm)]
      simp-implicitDefEqProofs[ho]
      refine((uT G out e.name (by omega)).lend (.one (jX rfl) (.keep (by simp) .nil)) rfl).mono ?_
      rintro r h ⟨rfl,rfl⟩
      simp-implicitDefEqProofs[aa,hm]
      rw[h1]
      exact nW [0,1,0] (by simp) (by decide) (by simp[fj,cJ]) (bV (by simp) (dP rfl (by simp[okO]) (dP rfl (fun x hx=>bn out x hx) bp))) (by simp[below,ren])
     ·have h1:out1=out++[e.name]:=by rw[ho1,if_pos ⟨ho,hm⟩]
      simp-implicitDefEqProofs[ho]
      refine((uT G out e.name (by omega)).lend (.one (jX rfl) (.keep (by simp) .nil)) rfl).mono ?_
      rintro r h ⟨rfl,rfl⟩
      simp-implicitDefEqProofs[aa,hm,hso]
      refine⟨by omega,?_⟩
      have htk:List.take out.length (out.map fun n=>[AV.p (.str n)])=out.map fun n=>[AV.p (.str n)]:=List.take_of_length_le (by simp)
      have hl1:out1.length=out.length+1:=by rw[h1];simp
      rw[hl1,htk]
      refine gS [0,1,3] (by simp) (by decide) (by decide) (bV (by simp) (dP rfl (by simp[okO]) (dP ?_ (fun x hx=>bn out1 x hx) bp))) (by simp[below,ren])
      rw[h1];simp
    ·have h1:out1=out:=by rw[ho1,if_neg (fun h=>ho h.1)]
     simp-implicitDefEqProofs[ho]
     rw[h1]
     exact nW [0,1,0] (by simp) (by decide) (by simp[fj,cJ]) (bV (by simp) (dP rfl (by simp[okO]) (dP rfl (fun x hx=>bn out x hx) bp))) (by simp[below,ren])
   have hxl:exL e.kids= .lst 4 (e.kids.map Ex.cs):=rfl
   simp-implicitDefEqProofs[]
   refine aq (fun i:Nat=>af 40 [(1,.p (.int .i64 op)),(2,.sl 2 1 0 (ep op (e.kids.take i) out1).length),(3,.ptr 1 4 0 0),(7,.p (.int .i64 i))])
    (fun i=>[.dead,.row 4 [[.p (.int .i64 e.op),.p (.int .i64 e.n),.p (.str e.name),.p (exL e.kids)]],cJ (ep op (e.kids.take i) out1)])
    (fun i=>i≤e.kids.length) (fun i=>e.kids.length-i) 0 (by simp) ?_ ?_
   ·exact ab (by simp) (ae trivial (ae (bx (hbox _ rfl)) (ae (bx (bn _)) bA))) (by simp[below,ep])
   ·intro i hi
    have hl2:=lQ op (e.kids.take i) out1
    have hzt:=As e.kids i
    simp-implicitDefEqProofs[hxl]
    refine aQ (fun h=>?_) (fun h=>?_)
    ·simp at h
     have hg:=List.getElem?_eq_getElem h
     have hks:=aO (List.getElem_mem h)
     have hT:=uE (op:=op) (out:=out1) h
     have hzt2:=Aa h
     generalize hcur:ep op (e.kids.take i) out1=cur at hl2 hT
     generalize e.kids[i]=c at hg hks hT hzt2
     simp-implicitDefEqProofs[hg]
     refine(sj G (args:=[.agg (c.cs.map .p),.p (.int .i64 op)]) (ih c (by omega) op cur (by omega)) (by simp[below]) (id:=2) rfl).mono ?_
     rintro r h ⟨rfl,rfl⟩
     simp-implicitDefEqProofs[aa]
     refine⟨i+1,h,by omega,?_⟩
     rw[hT]
     exact gS [0,1,3] (by simp) (by decide) (by decide) (bV (by simp) (dP rfl (by simp[okO]) (dP rfl (fun x hx=>bn _ x hx) bp))) (by simp[below,ren,w1 (i:=i) (by omega)])
    ·simp at h
     have hie:i=e.kids.length:=by omega
     subst hie
     rw[List.take_length]
     simp-implicitDefEqProofs[]
  refine key.wk (fun t v h ⟨_,_,_,e,_⟩=>by cases e) ?_
  rintro v h ⟨r,out',rfl,e,rfl⟩
  cases e
  exact⟨_,_,Wk.of [0,2] (by simp) (fun i hi=>by simp at hi;subst hi;rfl) (by decide) (by simp[below,ren]) (bV (by simp) (dP rfl (fun x hx=>bn _ x hx) bp)),rfl,rfl⟩
theorem Bj:∀(N:Nat) (l:List Sm),au l<N→∀out:Wds,out.length+au l≤1099511627776→
 AC Tryz.prog G dx [.p (smL l),.sl 0 1 0 out.length] [cJ out] fun x h=>x= .ret (.sl 1 1 0 (ef l out).length)∧h=[.dead,cJ (ef l out)]:=by
 intro N
 induction N with
 |zero=>intro l hl;omega
 |succ N ih=>
  intro l hl out hb
  have hll:=aZ l
  have hsl:∀l,smL l= .lst 5 (l.map Sm.cs):=fun _=>rfl
  have hxl:∀l,exL l= .lst 4 (l.map Ex.cs):=fun _=>rfl
  refine AC.go sQ ?_
  simp-implicitDefEqProofs[mg]
  refine aq (fun i:Nat=>af 47 [(0,.p (smL l)),(1,.sl 1 1 0 (ef (l.take i) out).length),(5,.p (.int .i64 i))]) (fun i=>[.dead,cJ (ef (l.take i) out)]) (fun i=>i≤l.length) (fun i=>l.length-i) 0 (by simp) ?_ ?_
  ·exact nW [0,0] (by simp) (by simp) (by simp[fj,cJ]) (bV (by simp) (dP rfl (fun x hx=>bn out x hx) bp)) (by simp[below,ren,ef,hsl])
  ·intro i hi
   have hl2:=jE (l.take i) out
   simp-implicitDefEqProofs[hsl]
   refine aQ (fun h=>?_) (fun h=>?_)
   ·simp at h
    have hg:=List.getElem?_eq_getElem h
    have hat:=Ah h
    have hT:=AH (out:=out) h
    have hse:=l[i].cs_eq
    have hsz:=l[i].sz_eq
    have hcl:=Hh l[i]
    generalize ef (l.take i) out=cur at hl2 hT⊢
    generalize l[i]=s at hg hat hT hse hsz hcl
    obtain⟨o,nme,a,bd,el⟩:=s
    simp only[Sm.op,Sm.name,Sm.args,Sm.body,Sm.els] at hse hsz hcl
    simp-implicitDefEqProofs[]
    refine aq (fun j:Nat=>af 47 [(0,.p (smL l)),(1,.sl 1 1 0 (ep 13 (a.take j) cur).length),(5,.p (.int .i64 i)),(6,.p (.int .i64 j))]) (fun j=>[.dead,cJ (ep 13 (a.take j) cur)]) (fun j=>j≤a.length) (fun j=>a.length-j) 0 (by simp) ?_ ?_
    ·exact ab (by simp) (ae trivial (ae (bx (bn _)) bA)) (by simp[below,ep,hsl])
    ·intro j hj
     have hl3:=lQ 13 (a.take j) cur
     have hal:=aW a
     simp-implicitDefEqProofs[hsl,hg,hse,hxl]
     refine aQ (fun hc=>?_) (fun hc=>?_)
     ·simp at hc
      have hga:=List.getElem?_eq_getElem hc
      have hzt:=Aa hc
      have hT2:=uE (op:=13) (out:=cur) hc
      generalize ep 13 (a.take j) cur=cj at hl3 hT2⊢
      generalize a[j]=c at hga hzt hT2
      simp-implicitDefEqProofs[hg,hse,hsl,hxl,hga]
      refine(sj G (args:=[.agg (c.cs.map .p),.p (.int .i64 13)]) (An G c.sz c (Nat.le_refl _) 13 cj (by omega)) (by simp[below]) (id:=1) rfl).mono ?_
      rintro r h ⟨rfl,rfl⟩
      simp-implicitDefEqProofs[aa]
      refine⟨j+1,hc,by omega,?_⟩
      rw[hT2]
      exact gS [0,2] (by simp) (by decide) (by decide) (bV (by simp) (dP rfl (fun x hx=>bn _ x hx) bp)) (by simp[below,ren,hsl,w1 (i:=j) (by omega)])
     ·simp at hc
      have hje:j=a.length:=by omega
      subst hje
      rw[List.take_length] at hl3⊢
      have hl4:=jE bd (ep 13 a cur)
      simp-implicitDefEqProofs[hg,hse]
      refine(sj G (args:=[.p (smL bd)]) (ih bd (by omega) (ep 13 a cur) (by omega)) (by simp[below]) (id:=1) rfl).mono ?_
      rintro r h ⟨rfl,rfl⟩
      simp-implicitDefEqProofs[aa,hg,hse,hsl]
      refine(sj G (args:=[.p (smL el)]) (ih el (by omega) (ef bd (ep 13 a cur)) (by omega)) (by simp[below]) (id:=2) rfl).mono ?_
      rintro r h ⟨rfl,rfl⟩
      simp-implicitDefEqProofs[aa]
      refine⟨i+1,h,by omega,?_⟩
      rw[hT,hcl]
      exact gS [0,3] (by simp) (by decide) (by decide) (bV (by simp) (dP rfl (fun x hx=>bn _ x hx) bp)) (by simp[below,ren,hsl,w1 (i:=i) (by omega)])
   ·simp at h
    have hie:i=l.length:=by omega
    subst hie
    rw[List.take_length]
    simp-implicitDefEqProofs[]
def dm(l:List Fd)(bd:List Sm)(i:Nat):List Nat:=(List.range i).filter fun i=>match l[i]? with|some g=>decide (g.name∈ef bd [])|none=>false
theorem ve(l:List Fd)(bd:List Sm)(i:Nat)(g:Fd)(hg:l[i]?=some g):dm l bd (i+1)=if g.name∈ef bd [] then dm l bd i++[i] else dm l bd i:=by
 rw[dm,List.range_succ,List.filter_append]
 simp only[List.filter_cons,List.filter_nil,hg]
 by_cases h:g.name∈ef bd []
 ·simp[h,dm]
 ·simp[h,dm]
theorem lH(l:List Fd)(bd:List Sm)(i:Nat):(dm l bd i).length≤i:=by
 have:=List.length_filter_le (fun i=>match l[i]? with|some g=>decide (g.name∈ef bd [])|none=>false) (List.range i)
 rw[List.length_range] at this
 exact this
theorem ze{fns:List Fd}{k:Nat}{f:Fd}(hk:fns[k]?=some f)(hz:bL fns≤1073741824):VF Tryz.prog G eF [.agg [.p (fdL fns)],.p (.int .i64 k)] (.p (EY (gU fns f.body k))):=by
 have hfl:=br fns
 have hfm:=dc (List.mem_of_getElem? hk)
 have hfz:f.sz=1+f.name.length+(f.params.length+(f.params.map List.length).sum)+au f.body:=rfl
 have hkl:=(List.getElem?_eq_some_iff.1 hk).1
 have hcn:gU fns f.body k=dm fns f.body k:=rfl
 have hlc:=jE f.body []
 have key:AC Tryz.prog G eF [.agg [.p (fdL fns)],.p (.int .i64 k)] [] fun x h=>x= .ret (.sl 3 1 0 (dm fns f.body k).length)∧h[3]?=some (tN (dm fns f.body k)):=by
  refine AC.go qU ?_
  have hfd:∀l,fdL l= .lst 3 (l.map Fd.cs):=fun _=>rfl
  have hcs:f.cs=[.str f.name,aC f.params,smL f.body]:=rfl
  have hno:∀l,tN l= .row 1 (l.map fun(n:Nat)=>[.p (.int .i64 (n:Int))]):=fun _=>rfl
  simp-implicitDefEqProofs[kL,hfd,hk,hcs]
  have hst0:AO.row 1 []=cJ []:=rfl
  refine(sj G (args:=[.p (smL f.body)]) (l:=[]) (Bj G (au f.body+1) f.body (by omega) [] (by simp;omega)) (by simp[below]) (id:=1) rfl).mono ?_
  rintro r h ⟨rfl,rfl⟩
  simp-implicitDefEqProofs[aa]
  generalize hnm:ef f.body []=nm at hlc
  refine aq (fun i:Nat=>af 35 [(1,.p (.int .i64 k)),(2,.ptr 0 1 0 0),(5,.sl 2 1 0 nm.length),(6,.sl 3 1 0 (dm fns f.body i).length),(7,.p (.int .i64 i))]) (fun i=>[.row 1 [[.p (.lst 3 (fns.map Fd.cs))]],.dead,cJ nm,tN (dm fns f.body i)]) (fun i=>i≤k) (fun i=>k-i) 0 (by simp) ?_ ?_
  ·exact ab (h:=[.row 1 [[.p (.lst 3 (fns.map Fd.cs))]],.dead,cJ nm,.row 1 []]) (by simp) (ae (by simp[okO,below]) (ae trivial (ae (bx (bn _)) (ae (by simp[okO]) bA)))) (by simp[below,dm])
  ·intro i hi
   have hcl:=lH fns f.body i
   simp-implicitDefEqProofs[]
   refine aQ (fun h=>?_) (fun h=>?_)
   ·simp at h
    have hil:i<fns.length:=by omega
    have hg:=List.getElem?_eq_getElem hil
    generalize fns[i]=g at hg
    have hS:=ve fns f.body i g hg
    rw[hnm] at hS
    have hgs:g.cs=[.str g.name,aC g.params,smL g.body]:=rfl
    simp-implicitDefEqProofs[hg,hgs]
    refine((uT G nm g.name (by simp at hlc;omega)).lend (.one (jX rfl) (.keep (by simp) .nil)) rfl).mono ?_
    rintro r h ⟨rfl,rfl⟩
    generalize dm fns f.body i=c at hcl hS⊢
    by_cases hm:g.name∈nm
    ·rw[if_pos hm] at hS
     simp-implicitDefEqProofs[aa,hm,hno]
     refine⟨by omega,i+1,h,by omega,?_⟩
     have htk:List.take c.length (c.map fun(n:Nat)=>[AV.p (.int .i64 (n:Int))])=c.map fun(n:Nat)=>[AV.p (.int .i64 (n:Int))]:=List.take_of_length_le (by simp)
     rw[hS,htk,List.map_append]
     refine dw [0,1,2,5] rfl (by decide) (bf rfl (by simp) (bV (by simp) (dP rfl (fun x hx=>bn _ x hx) (bf rfl (fun x hx=>?_) bp)))) (by simp[below,ren,w1 (i:=i) (by omega)])
     rcases List.mem_append.1 hx with h|h
     ·exact gZ _ x h
     ·exact gZ _ x h
    ·rw[if_neg hm] at hS
     simp-implicitDefEqProofs[aa,hm]
     refine⟨i+1,h,by omega,?_⟩
     rw[hS]
     exact ab (h:=[.row 1 [[.p (.lst 3 (fns.map Fd.cs))]],.dead,cJ nm,tN c]) (by simp) (ae (by simp[okO,below]) (ae trivial (ae (bx (bn _)) (ae (bx (gZ _)) bA)))) (by simp[below,w1 (i:=i) (by omega)])
   ·simp at h
    have hie:i=k:=by omega
    subst hie
    simp-implicitDefEqProofs[]
 rw[hcn]
 refine key.freezeR (fun t v h ⟨e,_⟩=>by cases e) fun v h ⟨e1,e2⟩=>?_
 cases e1
 exact .one (BP e2) .nil
end Go.Proofs.YtnjbhgpbgmpkcaaGreatDoor
namespace Go.Proofs.YtnjbhgpbgmpkcaaGreatDoor
open Go Go.Aw
set_option maxRecDepth 100000
set_option maxHeartbeats 4000000
theorem sI{xs:List Int}(hp:xs.Pairwise (· ≤ ·)):∀j,j<xs.length→∃i,i≤j∧Lib.keeps xs.toArray i=true∧xs[i]! =xs[j]! :=by
 intro j
 induction j with
 |zero=>intro h;exact⟨0,Nat.le_refl _,Lib.keeps_lt_one _ 0 (by omega),rfl⟩
 |succ j ih=>
  intro h
  by_cases e:xs.toArray[j+1]! =xs.toArray[j+1-1]!
  ·obtain⟨i,h1,h2,h3⟩:=ih (by omega)
   refine⟨i,by omega,h2,?_⟩
   have e':xs[j+1]! =xs[j]! :=by simpa using e
   rw[h3,e']
  ·exact⟨j+1,Nat.le_refl _,Lib.keeps_pos e,rfl⟩
theorem xo(xs:List Int):(Lib.compact xs).length≤xs.length:=by
 unfold Lib.compact Lib.compactUpTo
 rw[List.length_map]
 have:=List.length_filter_le (Lib.keeps xs.toArray) (List.range xs.length)
 rwa[List.length_range] at this
theorem xt{xs:List Int}(hp:xs.Pairwise (· ≤ ·))(x:Int):x∈Lib.compact xs↔x∈xs:=by
 unfold Lib.compact Lib.compactUpTo
 simp only[List.mem_map,List.mem_filter,List.mem_range]
 constructor
 ·rintro⟨j,⟨h1,_⟩,rfl⟩
  have e:xs.toArray[j]! =xs[j]:=by simp[h1]
  rw[e]
  exact List.getElem_mem h1
 ·intro h
  obtain⟨j,hj,rfl⟩:=List.mem_iff_getElem.1 h
  obtain⟨i,h1,h2,h3⟩:=sI hp j hj
  refine⟨i,⟨by omega,h2⟩,?_⟩
  have e:xs.toArray[i]! =xs[i]! :=by simp
  rw[e,h3]
  simp[hj]
theorem yq{xs:List Int}(hp:xs.Pairwise (· ≤ ·)):(Lib.compact xs).Pairwise (· < ·):=by
 unfold Lib.compact Lib.compactUpTo
 rw[List.pairwise_map]
 have hr:((List.range xs.length).filter (Lib.keeps xs.toArray)).Pairwise (· < ·):=List.Pairwise.filter _ List.pairwise_lt_range
 refine List.Pairwise.imp_of_mem (fun{a b} ha hb hab=>?_) hr
 simp only[List.mem_filter,List.mem_range] at ha hb
 obtain⟨hbl,hbk⟩:=hb
 unfold Lib.keeps at hbk
 have hne:xs.toArray[b]! ≠xs.toArray[b-1]! :=by
  rcases of_decide_eq_true hbk with h|h
  ·omega
  ·exact h
 have h1:xs.toArray[b]! =xs[b]:=by simp[hbl]
 have h2:xs.toArray[b-1]! =xs[b-1]:=by simp[show b-1<xs.length by omega]
 have h3:xs.toArray[a]! =xs[a]:=by simp[ha.1]
 rw[h1,h2] at hne
 rw[h1,h3]
 have k1:xs[b-1]≤xs[b]:=List.pairwise_iff_getElem.1 hp (b-1) b (by omega) hbl (by omega)
 have k2:xs[a]≤xs[b-1]:=by
  by_cases e:a=b-1
  ·subst e;exact Int.le_refl _
  ·exact List.pairwise_iff_getElem.1 hp a (b-1) ha.1 (by omega) (by omega)
 omega
theorem uY(xs:List Int):(xs.mergeSort fun x y=>decide (x≤y)).Pairwise (· ≤ ·):=by
 have:=List.pairwise_mergeSort (le:=fun x y:Int=>decide (x≤y)) (fun a b c h1 h2=>by simp at*;omega) (fun a b=>by simp;omega) xs
 exact this.imp fun h=>by simpa using h
theorem uD{a b:List Int}(ha:a.Pairwise (· < ·))(hb:b.Pairwise (· < ·))(hm:∀x,x∈a↔x∈b):a=b:=by
 refine List.Perm.eq_of_pairwise (le:=(· < ·)) (fun x y _ _ h1 h2=>by omega) ha hb ?_
 exact(List.perm_ext_iff_of_nodup (ha.imp fun h=>by omega) (hb.imp fun h=>by omega)).2 hm
def cQ(d:Nat)(bd:List Sm):List Ex:=(aJ d bd).flatMap fun x=>bC x.1.args
def iA(l:List Fd)(bd:List Sm):List Int:=((cQ 1 bd).filter fun e=>decide (e.op=13)).map fun e=>ixI (bT l e.name)
theorem sG(l:List Fd):∀(es:List Ex) (out:List Int),es.foldl (eL l) out=out++(es.filter fun e=>decide (e.op=13)).map fun e=>ixI (bT l e.name)
 |[],out=>by simp
 |e::r,out=>by
  rw[List.foldl_cons,sG l r,eL]
  by_cases h:e.op=13
  ·simp[h]
  ·simp[h]
mutual
theorem Fz(op:Int)(s:List UInt8):∀(e:Ex) (out:Wds),s∈nmE op e out↔s∈out∨∃x∈e.pre,x.op=op∧x.name=s
 | .mk o n t ks,out=>by
   rw[nmE,rF op s ks,Ex.pre]
   have hh:(s∈if o=op∧t∉out then out++[t] else out)↔s∈out∨(o=op∧t=s):=by
    split
    ·rename_i h
     simp only[List.mem_append,List.mem_singleton]
     constructor
     ·rintro(h1|h1)
      ·exact .inl h1
      ·exact .inr ⟨h.1,h1.symm⟩
     ·rintro(h1|h1)
      ·exact .inl h1
      ·exact .inr h1.2.symm
    ·rename_i h
     constructor
     ·exact .inl
     ·rintro(h1|⟨h1,h2⟩)
      ·exact h1
      ·rw[←h2];exact Classical.byContradiction fun hn=>h ⟨h1,hn⟩
   rw[hh]
   constructor
   ·rintro((h|⟨h1,h2⟩)|⟨x,h1,h2⟩)
    ·exact .inl h
    ·exact .inr ⟨_,List.mem_cons_self ..,h1,h2⟩
    ·exact .inr ⟨x,List.mem_cons_of_mem _ h1,h2⟩
   ·rintro(h|⟨x,h1,h2,h3⟩)
    ·exact .inl (.inl h)
    ·rcases List.mem_cons.1 h1 with rfl|h1
     ·exact .inl (.inr ⟨h2,h3⟩)
     ·exact .inr ⟨x,h1,h2,h3⟩
theorem rF(op:Int)(s:List UInt8):∀(l:List Ex) (out:Wds),s∈ep op l out↔s∈out∨∃x∈bC l,x.op=op∧x.name=s
 |[],out=>by simp[ep,bC]
 |e::r,out=>by
  rw[ep,rF op s r,Fz op s e,bC]
  constructor
  ·rintro((h|⟨x,h1,h2⟩)|⟨x,h1,h2⟩)
   ·exact .inl h
   ·exact .inr ⟨x,List.mem_append_left _ h1,h2⟩
   ·exact .inr ⟨x,List.mem_append_right _ h1,h2⟩
  ·rintro(h|⟨x,h1,h2⟩)
   ·exact .inl (.inl h)
   ·rcases List.mem_append.1 h1 with h1|h1
    ·exact .inl (.inr ⟨x,h1,h2⟩)
    ·exact .inr ⟨x,h1,h2⟩
end
theorem od(d:Nat)(s:Sm)(r:List Sm):cQ d (s::r)=bC s.args++(cQ (d+1) s.body++cQ (d+1) s.els)++cQ d r:=by
 rw[cQ,aJ,Sm.pre_eq,List.flatMap_append,List.flatMap_cons,List.flatMap_append];rfl
mutual
theorem EQ(s:List UInt8):∀(x:Sm) (d:Nat) (out:Wds),s∈clS x out↔s∈out∨∃e∈bC x.args++(cQ (d+1) x.body++cQ (d+1) x.els),e.op=13∧e.name=s
 | .mk o n a b el,d,out=>by
   rw[clS,lr s el (d+1),lr s b (d+1),rF]
   simp only[Sm.args,Sm.body,Sm.els,List.mem_append]
   constructor
   ·rintro(((h|⟨x,h1,h2⟩)|⟨x,h1,h2⟩)|⟨x,h1,h2⟩)
    ·exact .inl h
    ·exact .inr ⟨x,.inl h1,h2⟩
    ·exact .inr ⟨x,.inr (.inl h1),h2⟩
    ·exact .inr ⟨x,.inr (.inr h1),h2⟩
   ·rintro(h|⟨x,h1|h1|h1,h2⟩)
    ·exact .inl (.inl (.inl h))
    ·exact .inl (.inl (.inr ⟨x,h1,h2⟩))
    ·exact .inl (.inr ⟨x,h1,h2⟩)
    ·exact .inr ⟨x,h1,h2⟩
theorem lr(s:List UInt8):∀(l:List Sm) (d:Nat) (out:Wds),s∈ef l out↔s∈out∨∃e∈cQ d l,e.op=13∧e.name=s
 |[],d,out=>by simp[ef,cQ,aJ]
 |x::r,d,out=>by
  rw[ef,lr s r d,EQ s x d,od]
  constructor
  ·rintro((h|⟨x,h1,h2⟩)|⟨x,h1,h2⟩)
   ·exact .inl h
   ·exact .inr ⟨x,List.mem_append_left _ h1,h2⟩
   ·exact .inr ⟨x,List.mem_append_right _ h1,h2⟩
  ·rintro(h|⟨x,h1,h2⟩)
   ·exact .inl (.inl h)
   ·rcases List.mem_append.1 h1 with h1|h1
    ·exact .inl (.inr ⟨x,h1,h2⟩)
    ·exact .inr ⟨x,h1,h2⟩
end
mutual
theorem xO{fns:List Fd}{k:Nat}{vs:List LV}:∀(e:Ex) (c:Int),qM fns k vs e c=0→∀x∈e.pre,x.op=13→∃j,bT fns x.name=some j∧j<k
 | .mk o n t ks,c,h,x,hx,hop=>by
   rw[qM] at h
   rw[Ex.pre] at hx
   have h0:=sy h
   rcases List.mem_cons.1 hx with rfl|hx
   ·have hop':o=13:=hop
    have hz:¬(13:Int)=2:=by omega
    rw[jD,hop',if_neg hz,if_pos rfl,kH] at h0
    show∃j,bT fns t=some j∧j<k
    cases e:bT fns t with
    |none=>rw[e] at h0;simp only[fl] at h0;split at h0<;>omega
    |some j=>
     rw[e] at h0
     simp only[fl] at h0
     refine⟨j,rfl,?_⟩
     by_cases hj:k≤j
     ·rw[if_pos hj] at h0;split at h0<;>omega
     ·omega
   ·exact lY ks _ h x hx hop
theorem lY{fns:List Fd}{k:Nat}{vs:List LV}:∀(l:List Ex) (c:Int),bS fns k vs l c=0→∀x∈bC l,x.op=13→∃j,bT fns x.name=some j∧j<k
 |[],c,h,x,hx,_=>by simp[bC] at hx
 |e::r,c,h,x,hx,hop=>by
  rw[bS] at h
  rw[bC] at hx
  rcases List.mem_append.1 hx with hx|hx
  ·exact xO e _ (sy h) x hx hop
  ·exact lY r _ h x hx hop
end
mutual
theorem Bd{fns:List Fd}{k:Nat}:∀(s:Sm) (b d:Nat) (w:WS),(stW fns k b s w).code=0→∀x∈bC s.args++(cQ (d+1) s.body++cQ (d+1) s.els),x.op=13→∃j,bT fns x.name=some j∧j<k
 | .mk o n a bd el,b,d,w,h,x,hx,hop=>by
   rw[stW] at h
   rw[gf] at h
   have h1:=mo h
   rw[gf] at h1
   have h2:=mo h1
   have h3:=CR h2
   simp only[Sm.args,Sm.body,Sm.els,List.mem_append] at hx
   rcases hx with hx|hx|hx
   ·exact lY a _ h3 x hx hop
   ·exact kG bd _ (d+1) _ h1 x hx hop
   ·exact kG el _ (d+1) _ h x hx hop
theorem kG{fns:List Fd}{k:Nat}:∀(l:List Sm) (b d:Nat) (w:WS),(bU fns k b l w).code=0→∀x∈cQ d l,x.op=13→∃j,bT fns x.name=some j∧j<k
 |[],b,d,w,h,x,hx,_=>by simp[cQ,aJ] at hx
 |s::r,b,d,w,h,x,hx,hop=>by
  rw[bU] at h
  rw[od] at hx
  rcases List.mem_append.1 hx with hx|hx
  ·exact Bd s b d _ (mo h) x hx hop
  ·exact kG r b d _ h x hx hop
end
theorem AQ{vs:List LV}{s:List UInt8}{b:Nat}{c:Int}(h:py vs s b c=0):c=0:=by
 unfold py at h
 split at h
 ·exact h
 ·split at h
  ·unfold fl at h;split at h<;>omega
  ·exact h
theorem rG:∀{ps:List (List UInt8)} {w:WS},(ce ps w).code=0→w.code=0
 |[],w,h=>h
 |s::r,w,h=>AQ (rG (ps:=r) (w:=iS w s 0) h)
theorem um{fns:List Fd}{k:Nat}{f:Fd}(h:(fnW fns k f).code=0):(∀x∈cQ 1 f.body,x.op=13→∃j,bT fns x.name=some j∧j<k)∧bT fns f.name=some k:=by
 rw[fnW] at h
 refine⟨kG _ _ 1 _ h,?_⟩
 have h1:(if bT fns f.name=some k then(0:Int) else 2)=0:=rG (mo h)
 split at h1
 ·assumption
 ·omega
def fF(l:List Nat):List Int:=l.map fun(n:Nat)=>(n:Int)
theorem BC{l:List Fd}{k:Nat}{f:Fd}(hc:cm l=0)(hk:l[k]?=some f):Lib.compact ((iA l f.body).mergeSort fun x y=>decide (x≤y))=fF (gU l f.body k):=by
 obtain⟨_,hall⟩:=(vu l).1 hc
 obtain⟨hcalls,_⟩:=um (hall k f hk)
 refine uD (yq (uY _)) ?_ fun x=>?_
 ·rw[fF,List.pairwise_map,gU]
  exact(List.Pairwise.filter _ List.pairwise_lt_range).imp fun h=>by omega
 rw[xt (uY _),List.mem_mergeSort,iA,fF,gU]
 simp only[List.mem_map,List.mem_filter,List.mem_range,decide_eq_true_eq]
 constructor
 ·rintro⟨e,⟨h1,h2⟩,rfl⟩
  obtain⟨j,h3,h4⟩:=hcalls e h1 h2
  obtain⟨h5,h6,h7⟩:=List.findIdx?_eq_some_iff_getElem.1 h3
  refine⟨j,⟨h4,?_⟩,by rw[h3];rfl⟩
  rw[List.getElem?_eq_getElem h5]
  simp only[decide_eq_true_eq] at h6⊢
  rw[h6]
  exact(lr _ _ 1 _).2 (.inr ⟨e,h1,h2,rfl⟩)
 ·rintro⟨i,⟨h1,h2⟩,rfl⟩
  have hil:i<l.length:=by have:=(List.getElem?_eq_some_iff.1 hk).1;omega
  have hg:=List.getElem?_eq_getElem hil
  rw[hg] at h2
  simp only[decide_eq_true_eq] at h2
  rcases(lr _ _ 1 _).1 h2 with h3|⟨e,h3,h4,h5⟩
  ·simp at h3
  ·obtain⟨_,hself⟩:=um (hall i _ hg)
   exact⟨e,⟨h3,h4⟩,by rw[h5,hself];rfl⟩
end Go.Proofs.YtnjbhgpbgmpkcaaGreatDoor
namespace Go.Proofs.YtnjbhgpbgmpkcaaGreatDoor
open Go Go.Aw
set_option maxRecDepth 100000
set_option maxHeartbeats 4000000
inductive Ned (nx:Nat→List Nat) (r:Nat):Nat→Prop where
 |root:Ned nx r r
 |step {b m:Nat}:Ned nx r b→m∈nx b→Ned nx r m
theorem Ned.trans{nx:Nat→List Nat}{a b c:Nat}(h1:Ned nx a b)(h2:Ned nx b c):Ned nx a c:=by
 induction h2 with
 |root=>exact h1
 |step _ hm ih=>exact .step ih hm
def Dn(nx:Nat→List Nat):Prop:=∀b m,m∈nx b→m<b
theorem Ned.le{nx:Nat→List Nat}(hd:Dn nx){r m:Nat}(h:Ned nx r m):m≤r:=by
 induction h with
 |root=>exact Nat.le_refl _
 |step _ hm ih=>have:=hd _ _ hm;omega
def bAt(nd:List Bool)(i:Nat):Bool:=nd.getD i false
def eZ(k:Nat)(nd:List Bool)(i:Nat):List Bool:=nd.set i (bAt nd i||bAt nd k)
def pD(nx:Nat→List Nat)(nd:List Bool)(k:Nat):List Bool:=(nx k).foldl (eZ k) nd
def sc(nx:Nat→List Nat):Nat→List Bool→List Bool
 |0,nd=>nd
 |k+1,nd=>sc nx k (pD nx nd k)
def lv(n:Nat):List Bool:=(List.replicate n false).set (n-1) true
def ja(nx:Nat→List Nat)(n:Nat):List Bool:=sc nx n (lv n)
def dG(nx:Nat→List Nat)(n:Nat):List Nat:=(List.range n).filter (bAt (ja nx n))
theorem Bw(k:Nat)(nd:List Bool)(i:Nat):(eZ k nd i).length=nd.length:=by simp[eZ]
theorem zX{k:Nat}{nd:List Bool}{i:Nat}(hi:i<nd.length)(m:Nat):bAt (eZ k nd i) m=if m=i then bAt nd i||bAt nd k else bAt nd m:=by
 unfold eZ bAt
 by_cases h:m=i
 ·subst h;simp[hi]
 ·have:i≠m:=fun e=>h e.symm
  simp[List.getElem?_set_ne this,h]
theorem pk{k:Nat}:∀(is:List Nat) (nd:List Bool),(∀i∈is,i<k)→k<nd.length→(is.foldl (eZ k) nd).length=nd.length∧∀m,bAt (is.foldl (eZ k) nd) m=(bAt nd m||(decide (m∈is)&&bAt nd k))
 |[],nd,_,_=>⟨rfl,fun m=>by simp⟩
 |i::r,nd,h,hk=>by
  have hi:=h i (by simp)
  have hl:=Bw k nd i
  obtain⟨h1,h2⟩:=pk r (eZ k nd i) (fun x hx=>h x (by simp[hx])) (by omega)
  refine⟨by rw[List.foldl_cons,h1,hl],fun m=>?_⟩
  rw[List.foldl_cons,h2,zX (by omega),zX (by omega),if_neg (by omega:¬k=i)]
  by_cases hm:m=i
  ·subst hm
   cases bAt nd m<;>cases bAt nd k<;>simp
  ·rw[if_neg hm]
   by_cases hr:m∈r<;>simp[hm,hr]
theorem Em{nx:Nat→List Nat}(hd:Dn nx){r:Nat}:∀(j:Nat) (nd:List Bool),j≤nd.length→r<nd.length→(∀m,bAt nd m=true→Ned nx r m)→(∀b,j≤b→bAt nd b=true→∀m∈nx b,bAt nd m=true)→bAt nd r=true→
 (sc nx j nd).length=nd.length∧∀m,bAt (sc nx j nd) m=true↔Ned nx r m:=by
 intro j
 induction j with
 |zero=>
  intro nd _ _ h1 h2 h3
  refine⟨rfl,fun m=>⟨h1 m,fun h=>?_⟩⟩
  show bAt nd m=true
  induction h with
  |root=>exact h3
  |step _ hm ih=>exact h2 _ (Nat.zero_le _) ih _ hm
 |succ k ih=>
  intro nd hl hr h1 h2 h3
  obtain⟨e1,e2⟩:=pk (nx k) nd (hd k) (by omega)
  have:=ih (pD nx nd k) (by show k≤((nx k).foldl (eZ k) nd).length;omega) (by show r<((nx k).foldl (eZ k) nd).length;omega) (fun m hm=>?_) (fun b hb hbt m hm=>?_) ?_
  ·refine⟨?_,this.2⟩
   rw[sc,this.1];exact e1
  ·rw[pD,e2,Bool.or_eq_true,Bool.and_eq_true] at hm
   rcases hm with hm|⟨hm,hk⟩
   ·exact h1 m hm
   ·exact .step (h1 k hk) (of_decide_eq_true hm)
  ·rw[pD,e2,Bool.or_eq_true,Bool.and_eq_true] at hbt⊢
   by_cases hbk:b=k
   ·subst hbk
    have hbb:bAt nd b=true:=by
     rcases hbt with h|⟨h,h'⟩
     ·exact h
     ·exact h'
    exact .inr ⟨decide_eq_true hm,hbb⟩
   ·rcases hbt with h|⟨h,h'⟩
    ·exact .inl (h2 b (by omega) h m hm)
    ·have:=hd k b (of_decide_eq_true h);omega
  ·rw[pD,e2,h3];rfl
theorem sC{nx:Nat→List Nat}(hd:Dn nx){n:Nat}(hn:1≤n):(ja nx n).length=n∧∀m,bAt (ja nx n) m=true↔Ned nx (n-1) m:=by
 have hb:∀m,bAt (lv n) m=decide (m=n-1):=by
  intro m
  unfold bAt lv
  by_cases h:m=n-1
  ·subst h;simp[show n-1<n by omega]
  ·have h':n-1≠m:=fun e=>h e.symm
   rw[List.getD_eq_getElem?_getD,List.getElem?_set_ne h',List.getElem?_replicate]
   split<;>simp[h]
 have hl:(lv n).length=n:=by simp[lv]
 have:=Em hd (r:=n-1) n (lv n) (by omega) (by omega) (fun m hm=>by rw[hb] at hm;rw[of_decide_eq_true hm];exact .root) (fun b hbn hbt=>by rw[hb] at hbt;have:=of_decide_eq_true hbt;omega) (by rw[hb];simp)
 exact⟨by rw[ja,this.1,hl],this.2⟩
theorem wK{nx:Nat→List Nat}(hd:Dn nx){n:Nat}(hn:1≤n)(m:Nat):m∈dG nx n↔Ned nx (n-1) m:=by
 rw[dG,List.mem_filter,List.mem_range,(sC hd hn).2]
 exact⟨fun h=>h.2,fun h=>⟨by have:=h.le hd;omega,h⟩⟩
theorem yD(nx:Nat→List Nat)(n:Nat):(dG nx n).Pairwise (· < ·):=List.Pairwise.filter _ List.pairwise_lt_range
def gG(nx:Nat→List Nat):Nat→Nat→List Nat→List Nat
 |0,_,s=>s
 |f+1,n,s=>if n∈s then s else(nx n).foldl (fun s k=>gG nx f k s) (s++[n])
structure VisOk (nx:Nat→List Nat) (n:Nat) (s s':List Nat):Prop where
 sub:∀m∈s,m∈s'
 new:∀m∈s',m∈s∨Ned nx n m
 nd:s.Nodup→s'.Nodup
theorem Gc{nx:Nat→List Nat}(hd:Dn nx):∀(f n:Nat) (s:List Nat),n<f→(∀m∈s,m≤n→∀x∈nx m,x∈s)→VisOk nx n s (gG nx f n s)∧n∈gG nx f n s∧∀m∈gG nx f n s,m≤n→∀x∈nx m,x∈gG nx f n s:=by
 intro f
 induction f with
 |zero=>intro n s h;omega
 |succ f ih=>
  intro n s hn hc
  rw[gG]
  by_cases hin:n∈s
  ·rw[if_pos hin]
   exact⟨⟨fun _ h=>h,fun _ h=> .inl h,id⟩,hin,hc⟩
  rw[if_neg hin]
  have key:∀(ks:List Nat),(∀k∈ks,k∈nx n)→∀(t:List Nat),(∀m∈t,m<n→∀x∈nx m,x∈t)→VisOk nx n t (ks.foldl (fun s k=>gG nx f k s) t)∧(∀k∈ks,k∈ks.foldl (fun s k=>gG nx f k s) t)∧∀m∈ks.foldl (fun s k=>gG nx f k s) t,m<n→∀x∈nx m,x∈ks.foldl (fun s k=>gG nx f k s) t:=by
   intro ks
   induction ks with
   |nil=>intro _ t ht;exact⟨⟨fun _ h=>h,fun _ h=> .inl h,id⟩,(fun _ h=>by cases h),ht⟩
   |cons k r ihr=>
    intro hks t ht
    have hkn:k<n:=hd n k (hks k (by simp))
    obtain⟨a1,a2,a3⟩:=ih k t (by omega) (fun m hm hmk=>ht m hm (by omega))
    have ht':∀m∈gG nx f k t,m<n→∀x∈nx m,x∈gG nx f k t:=by
     intro m hm hmn x hx
     rcases Nat.lt_or_ge k m with h|h
     ·rcases a1.new m hm with h2|h2
      ·exact a1.sub _ (ht m h2 hmn x hx)
      ·have:=h2.le hd;omega
     ·exact a3 m hm h x hx
    obtain⟨b1,b2,b3⟩:=ihr (fun k hk=>hks k (by simp[hk])) (gG nx f k t) ht'
    rw[List.foldl_cons]
    refine⟨⟨fun m hm=>b1.sub _ (a1.sub m hm),fun m hm=>?_,fun h=>b1.nd (a1.nd h)⟩,fun x hx=>?_,b3⟩
    ·rcases b1.new m hm with h|h
     ·rcases a1.new m h with h|h
      ·exact .inl h
      ·exact .inr ((Ned.step .root (hks k (by simp))).trans h)
     ·exact .inr h
    ·rcases List.mem_cons.1 hx with rfl|hx
     ·exact b1.sub _ a2
     ·exact b2 x hx
  obtain⟨k1,k2,k3⟩:=key (nx n) (fun _ h=>h) (s++[n]) (fun m hm hmn x hx=>by
   rcases List.mem_append.1 hm with h|h
   ·exact List.mem_append_left _ (hc m h (by omega) x hx)
   ·have:=List.mem_singleton.1 h;omega)
  refine⟨⟨fun m hm=>k1.sub _ (List.mem_append_left _ hm),fun m hm=>?_,fun h=>k1.nd ?_⟩,k1.sub _ (List.mem_append_right _ (by simp)),fun m hm hmn x hx=>?_⟩
  ·rcases k1.new m hm with h|h
   ·rcases List.mem_append.1 h with h|h
    ·exact .inl h
    ·rw[List.mem_singleton.1 h];exact .inr .root
   ·exact .inr h
  ·rw[List.nodup_append]
   exact⟨h,by simp,fun a ha b hb e=>hin (by rw[List.mem_singleton.1 hb] at e;rw[←e];exact ha)⟩
  ·rcases Nat.lt_or_ge m n with h|h
   ·exact k3 m hm h x hx
   ·have e:m=n:=by omega
    subst e
    exact k2 x hx
def qn(nx:Nat→List Nat)(n:Nat):List Nat:=gG nx n (n-1) []
theorem CW{nx:Nat→List Nat}(hd:Dn nx){n:Nat}(hn:1≤n):(qn nx n).Nodup∧∀m,m∈qn nx n↔Ned nx (n-1) m:=by
 obtain⟨h1,h2,h3⟩:=Gc hd n (n-1) [] (by omega) (fun m h=>by cases h)
 refine⟨h1.nd List.nodup_nil,fun m=>⟨fun h=>?_,fun h=>?_⟩⟩
 ·rcases h1.new m h with h|h
  ·cases h
  ·exact h
 ·show m∈gG nx n (n-1) []
  induction h with
  |root=>exact h2
  | @step b m hb hm ih=>exact h3 b ih (hb.le hd) m hm
theorem uo{nx:Nat→List Nat}(hd:Dn nx){n:Nat}(hn:1≤n){xs:List Int}(hp:xs.Perm (fF (qn nx n))):(xs.mergeSort fun x y=>decide (x≤y))=fF (dG nx n):=by
 obtain⟨h1,h2⟩:=CW hd hn
 have hnd:(fF (qn nx n)).Nodup:=List.pairwise_map.2 (h1.imp fun h e=>h (by omega))
 have hs:(xs.mergeSort fun x y=>decide (x≤y)).Nodup:=((List.mergeSort_perm xs _).trans hp).nodup_iff.2 hnd
 refine uD ?_ ?_ fun x=>?_
 ·exact((uY xs).and hs).imp fun⟨a,b⟩=>by omega
 ·rw[fF,List.pairwise_map]
  exact(yD nx n).imp fun h=>by omega
 ·rw[List.mem_mergeSort,hp.mem_iff]
  simp only[fF,List.mem_map,wK hd hn,h2]
def ay(l:List Fd)(k:Nat):List Nat:=match l[k]? with|some f=>gU l f.body k|none=>[]
theorem kj(l:List Fd):Dn (ay l):=by
 intro b m h
 unfold ay at h
 split at h
 ·rw[gU,List.mem_filter,List.mem_range] at h;exact h.1
 ·cases h
end Go.Proofs.YtnjbhgpbgmpkcaaGreatDoor
namespace Go.Proofs.YtnjbhgpbgmpkcaaGreatDoor
open Go Go.Aw
set_option maxRecDepth 100000
abbrev eC:FuncId:=35
abbrev fy:FuncId:=133
abbrev bY:FuncId:=132
abbrev ib:FuncId:=82
abbrev bj:FuncId:=83
abbrev bM:FuncId:=34
abbrev fA:FuncId:=10
def kK:FK:=⟨75,[.t 2],
 .seq (.reg [oJ 1 (.box 1 (.t 0)),
  oJ 2 (.mov (.c .nils))])
 (.seq (.reg [oJ 9 (.bsl 1 [(.p (.int .i64 0))] 0 []),
   oM 3 9])
 (.seq (.seq (.reg [oJ 10 (.ld (some 1) (.t 1)),
   oJ 11 (.call jl [(.t 10)]),
   oJ 12 (.not (.t 11))])
 (.cond (.t 12)
  (.seq (.reg [oM 13 3,
    oM 2 13])
  (.ret))
  (.skip)))
 (.seq (.reg [oF 14 0 1,
   oL 15 14,
   oJ 16 (.len false (.t 15)),
   oJ 17 (.mks 1 1 [(.p (.bool false))] (.t 16) (.t 16)),
   oM 4 17])
 (.seq (.reg [oM 18 4,
   oF 19 0 1,
   oL 20 19,
   oJ 21 (.len false (.t 20)),
   oJ 22 (.bin .sub (.t 21) (.c (.p (.int .i64 1)))),
   oJ 23 (.idxS 1 (.t 18) (.t 22)),
   ⟨none,none,.st 1 (.t 23) (.c (.p (.bool true)))⟩])
 (.seq (.seq (.reg [oF 24 0 1,
   oL 25 24,
   oJ 26 (.len false (.t 25)),
   oJ 27 (.bin .sub (.t 26) (.c (.p (.int .i64 1)))),
   oM 5 27])
 (.blk 0 (.loop (.seq (.seq (.reg [oM 28 5,
   oJ 29 (.bin .geq (.t 28) (.c (.p (.int .i64 0))))])
 (.cond (.t 29)
  (.skip)
  (.exit 0)))
 (.seq (.blk 1 (.seq (.reg [oJ 32 (.ld (some 1) (.t 1)),
   oM 33 5,
   oJ 34 (.call eF [(.t 32),(.t 33)]),
   oM 6 34])
 (.seq (.reg [oK 7 0])
 (.blk 2 (.loop (.seq (.seq (.reg [oM 35 7,
   oM 36 6,
   oJ 37 (.len false (.t 36)),
   oJ 38 (.bin .lss (.t 35) (.t 37))])
 (.cond (.t 38)
  (.skip)
  (.exit 2)))
 (.seq (.blk 3 (.reg [oM 41 4,
   oM 42 6,
   oM 43 7,
   oJ 44 (.idxS 1 (.t 42) (.t 43)),
   oM 46 4,
   oM 47 6,
   oM 48 7,
   oJ 49 (.idxS 1 (.t 47) (.t 48)),
   oL 45 44,
   oL 50 49,
   oJ 51 (.idxS 1 (.t 46) (.t 50)),
   oL 52 51,
   oM 53 52,
   ⟨(some 54),some (53,false),.mov (.t 4)⟩,
   ⟨(some 55),some (53,false),.mov (.t 5)⟩,
   ⟨(some 56),some (53,false),.idxS 1 (.t 54) (.t 55)⟩,
   ⟨(some 57),some (53,false),.ld none (.t 56)⟩,
   oJ 58 (.pick (.t 53) (.c (.p (.bool true))) (.t 57)),
   oJ 59 (.idxS 1 (.t 41) (.t 45)),
   oS 59 58]))
 (.reg [oM 39 7,
   oJ 40 (.bin .add (.t 39) (.c (.p (.int .i64 1)))),
   oM 7 40]))))))))
 (.reg [oM 30 5,
   oJ 31 (.bin .sub (.t 30) (.c (.p (.int .i64 1)))),
   oM 5 31]))))))
 (.seq (.seq (.reg [oK 8 0])
 (.blk 4 (.loop (.seq (.seq (.reg [oM 60 8,
   oM 61 4,
   oJ 62 (.len false (.t 61)),
   oJ 63 (.bin .lss (.t 60) (.t 62))])
 (.cond (.t 63)
  (.skip)
  (.exit 4)))
 (.seq (.blk 5 (.seq (.reg [oM 66 4,
   oM 67 8,
   oJ 68 (.idxS 1 (.t 66) (.t 67)),
   oL 69 68])
 (.cond (.t 69)
  (.reg [oM 70 3,
    oM 71 8,
    oJ 72 (.bsl 1 [(.p (.int .i64 0))] 1 [(0,1,(.t 71))]),
    oJ 73 (.app 1 8 (.t 70) (.t 72)),
    oM 3 73])
  (.skip))))
 (.reg [oM 64 8,
   oJ 65 (.bin .add (.t 64) (.c (.p (.int .i64 1)))),
   oM 8 65]))))))
 (.seq (.reg [oM 74 3,
   oM 2 74])
 (.ret))))))))⟩
theorem qN:ag Tryz.prog eC=some kK:=by kernel_rfl
def gd:FK:=⟨25,[],
 .seq (.reg [oL 7 1,
  oM 8 0,
  oJ 9 (.lk 0 (.p (.bool false)) false (.t 7) (.t 8)),
  oJ 10 (.not (.t 9))])
 (.cond (.t 10)
  (.seq (.reg [oL 11 1,
    oM 12 0,
    ⟨none,none,.mup 0 (.t 11) (.t 12) (.c (.p (.bool true)))⟩])
  (.seq (.reg [oL 13 2,
    oM 14 0,
    oJ 15 (.callv (.t 13) [(.t 14)]),
    oJ 16 (.len false (.t 15)),
    oK 17 0])
  (.blk 0 (.loop (.seq (.reg [oJ 18 (.bin .lss (.t 17) (.t 16))])
  (.seq (.cond (.t 18)
   (.skip)
   (.exit 0))
  (.seq (.blk 1 (.seq (.reg [oJ 19 (.idxS 1 (.t 15) (.t 17)),
    oL 20 19,
    oM 6 20])
  (.reg [oL 21 3,
    oM 22 6,
    oJ 23 (.callv (.t 21) [(.t 22)])])))
  (.reg [oJ 24 (.bin .add (.t 17) (.c (.p (.int .i64 1)))),
    oM 17 24]))))))))
  (.skip))⟩
theorem qe:ag Tryz.prog bY=some gd:=by kernel_rfl
def lZ:FK:=⟨23,[.t 4],
 .seq (.reg [oJ 3 (.box 1 (.t 1)),
  oJ 4 (.mov (.c .nils))])
 (.seq (.reg [oJ 9 (.mkm),
   oJ 5 (.alloc [.nilm]),
   oS 5 9])
 (.seq (.reg [oJ 6 (.alloc [.nilf])])
 (.seq (.reg [oJ 10 (.mkf (.func bY) [(.t 5),(.t 3),(.t 6)]),
   oS 6 10])
 (.seq (.seq (.reg [oM 11 0,
   oJ 12 (.len false (.t 11)),
   oK 13 0])
 (.blk 0 (.loop (.seq (.reg [oJ 14 (.bin .lss (.t 13) (.t 12))])
 (.seq (.cond (.t 14)
  (.skip)
  (.exit 0))
 (.seq (.blk 1 (.seq (.reg [oJ 15 (.idxS 1 (.t 11) (.t 13)),
   oL 16 15,
   oM 8 16])
 (.reg [oL 17 6,
   oM 18 8,
   oJ 19 (.callv (.t 17) [(.t 18)])])))
 (.reg [oJ 20 (.bin .add (.t 13) (.c (.p (.int .i64 1)))),
   oM 13 20])))))))
 (.seq (.reg [oL 21 5,
   oJ 22 (.call fy [(.t 21)]),
   oM 4 22])
 (.ret))))))⟩
theorem sJ:ag Tryz.prog ib=some lZ:=by kernel_rfl
def iZ:FK:=⟨7,[.t 3],
 .seq (.reg [oJ 3 (.mov (.c .nils))])
 (.seq (.reg [oJ 4 (.ld (some 1) (.t 1)),
   oM 5 0,
   oJ 6 (.call dy [(.t 4),(.t 5)]),
   oM 3 6])
 (.ret))⟩
theorem pt:ag Tryz.prog bj=some iZ:=by kernel_rfl
def kN:FK:=⟨13,[.t 2],
 .seq (.reg [oJ 1 (.box 1 (.t 0)),
  oJ 2 (.mov (.c .nils))])
 (.seq (.seq (.reg [oJ 3 (.ld (some 1) (.t 1)),
   oJ 4 (.call lw [(.t 3)]),
   oJ 5 (.not (.t 4))])
 (.cond (.t 5)
  (.seq (.reg [oJ 2 (.mov (.c .nils))])
  (.ret))
  (.skip)))
 (.seq (.reg [oF 6 0 1,
   oL 7 6,
   oJ 8 (.len false (.t 7)),
   oJ 9 (.bin .sub (.t 8) (.c (.p (.int .i64 1)))),
   oJ 10 (.bsl 1 [(.p (.int .i64 0))] 1 [(0,1,(.t 9))]),
   oJ 11 (.mkf (.func bj) [(.t 1)]),
   oJ 12 (.call ib [(.t 10),(.t 11)]),
   oM 2 12])
 (.ret)))⟩
theorem qP:ag Tryz.prog bM=some kN:=by kernel_rfl
def fC:FK:=⟨69,[.t 2],
 .seq (.reg [oJ 1 (.box 1 (.t 0)),
  oJ 2 (.mov (.c (.p (.bool false))))])
 (.seq (.reg [oK 3 1048576])
 (.seq (.reg [oJ 11 (.ld (some 1) (.t 1)),
   oM 12 3,
   oJ 13 (.call dK [(.t 11),(.t 12)]),
   oM 3 13])
 (.seq (.seq (.reg [oM 14 3,
   oJ 15 (.bin .lss (.t 14) (.c (.p (.int .i64 0))))])
 (.cond (.t 15)
  (.seq (.reg [oJ 2 (.mov (.c (.p (.bool true))))])
  (.ret))
  (.skip)))
 (.seq (.reg [oJ 16 (.ld (some 1) (.t 1)),
   oJ 17 (.call bw [(.t 16)]),
   oJ 18 (.call eC [(.t 17)]),
   oM 4 18])
 (.seq (.reg [oJ 19 (.ld (some 1) (.t 1)),
   oJ 20 (.call bw [(.t 19)]),
   oJ 5 (.alloc [.nils]),
   oS 5 20])
 (.seq (.reg [oJ 21 (.ld (some 1) (.t 5)),
   oJ 22 (.call bM [(.t 21)]),
   oM 6 22])
 (.seq (.seq (.reg [oM 23 6,
   oM 24 4,
   oJ 25 (.call eh [(.t 23),(.t 24)]),
   oJ 26 (.not (.t 25))])
 (.cond (.t 26)
  (.seq (.reg [oJ 2 (.mov (.c (.p (.bool false))))])
  (.ret))
  (.skip)))
 (.seq (.seq (.reg [oJ 27 (.ld (some 1) (.t 5)),
   oJ 28 (.ld (some 1) (.t 1)),
   oJ 29 (.call bw [(.t 28)]),
   ⟨none,none,.chk (some 1) 5 27⟩,
   oJ 30 (.call ga [(.t 27),(.t 29)]),
   oJ 31 (.not (.t 30))])
 (.cond (.t 31)
  (.seq (.reg [oJ 2 (.mov (.c (.p (.bool false))))])
  (.ret))
  (.skip)))
 (.seq (.reg [oK 7 1])
 (.seq (.reg [oJ 32 (.ld (some 1) (.t 5)),
   oM 33 7,
   oJ 34 (.call eU [(.t 32),(.t 33)]),
   oM 7 34])
 (.seq (.seq (.reg [oM 35 7,
   oJ 36 (.bin .lss (.t 35) (.c (.p (.int .i64 0)))),
   oM 37 36,
   ⟨(some 38),some (37,false),.mov (.t 6)⟩,
   ⟨(some 39),some (37,false),.mov (.t 4)⟩,
   ⟨(some 40),some (37,false),.call eh [(.t 38),(.t 39)]⟩,
   ⟨(some 41),some (37,false),.not (.t 40)⟩,
   oJ 42 (.pick (.t 37) (.c (.p (.bool true))) (.t 41))])
 (.cond (.t 42)
  (.seq (.reg [oJ 2 (.mov (.c (.p (.bool false))))])
  (.ret))
  (.skip)))
 (.seq (.reg [oK 8 1])
 (.seq (.reg [oM 43 6,
   oM 44 8,
   oJ 45 (.call eB [(.t 43),(.t 44)]),
   oM 8 45])
 (.seq (.reg [oK 9 1])
 (.seq (.reg [oM 46 6,
   oM 47 9,
   oJ 48 (.call eJ [(.t 46),(.t 47)]),
   oM 9 48])
 (.seq (.seq (.reg [oM 49 9,
   oJ 50 (.bin .lss (.t 49) (.c (.p (.int .i64 0))))])
 (.cond (.t 50)
  (.seq (.reg [oJ 2 (.mov (.c (.p (.bool false))))])
  (.ret))
  (.skip)))
 (.seq (.seq (.reg [oM 51 9,
   oM 52 8,
   oJ 53 (.bin .neq (.t 51) (.t 52))])
 (.cond (.t 53)
  (.seq (.reg [oJ 2 (.mov (.c (.p (.bool false))))])
  (.ret))
  (.skip)))
 (.seq (.reg [oJ 54 (.ld (some 1) (.t 1)),
   oJ 55 (.call bw [(.t 54)]),
   oJ 56 (.call bM [(.t 55)]),
   oM 10 56])
 (.seq (.seq (.reg [oM 57 10,
   oM 58 4,
   oJ 59 (.call eh [(.t 57),(.t 58)]),
   oJ 60 (.not (.t 59))])
 (.cond (.t 60)
  (.seq (.reg [oJ 2 (.mov (.c (.p (.bool false))))])
  (.ret))
  (.skip)))
 (.seq (.reg [oK 9 1])
 (.seq (.reg [oM 61 6,
   oM 62 9,
   oJ 63 (.call eJ [(.t 61),(.t 62)]),
   oM 9 63])
 (.seq (.seq (.reg [oM 64 9,
   oJ 65 (.bin .lss (.t 64) (.c (.p (.int .i64 0))))])
 (.cond (.t 65)
  (.seq (.reg [oJ 2 (.mov (.c (.p (.bool false))))])
  (.ret))
  (.skip)))
 (.seq (.seq (.reg [oM 66 9,
   oM 67 8,
   oJ 68 (.bin .neq (.t 66) (.t 67))])
 (.cond (.t 68)
  (.seq (.reg [oJ 2 (.mov (.c (.p (.bool false))))])
  (.ret))
  (.skip)))
 (.seq (.reg [oJ 2 (.mov (.c (.p (.bool true))))])
 (.ret)))))))))))))))))))))))))⟩
theorem kA:ag Tryz.prog fA=some fC:=by kernel_rfl
end Go.Proofs.YtnjbhgpbgmpkcaaGreatDoor
namespace Go.Proofs.YtnjbhgpbgmpkcaaGreatDoor
open Go Go.Aw
set_option maxRecDepth 100000
set_option maxHeartbeats 4000000
theorem Lg{r:List AV}(h:r.length=4):∃a b c d,r=[a,b,c,d]:=by
 match r,h with
 |[a,b,c,d],_=>exact⟨a,b,c,d,rfl⟩
theorem KZ{r:List AV}(h:r.length=5):∃a b c d e,r=[a,b,c,d,e]:=by
 match r,h with
 |[a,b,c,d,e],_=>exact⟨a,b,c,d,e,rfl⟩
theorem KD{r:List AV}(h:r.length=3):∃a b c,r=[a,b,c]:=by
 match r,h with
 |[a,b,c],_=>exact⟨a,b,c,rfl⟩
def zEx:List PV:=[.int .i64 0,.int .i64 0,.str [],.lst 4 []]
def zSm:List PV:=[.int .i64 0,.str [],.lst 4 [],.lst 5 [],.lst 5 []]
def zFd:List PV:=[.str [],.lst 1 [],.lst 5 []]
theorem jv(q:PV):(AV.p q).cells=[.p q]:=rfl
theorem bB:AV.nils.cells=[.nils]:=rfl
theorem cD(c:List AV):(AV.agg c).cells=c:=rfl
theorem jr(q:PV):(AV.p q).isCell=true:=rfl
theorem bz:AV.nils.isCell=true:=rfl
theorem dO{s:Bool}{h:List AO}{v:AV}{q:PV}{I:List Nat}(H:OwnL s h [v] [q] I):v.cells=[v]∧v.isCell=true:=by
 cases H with
 |p _ _ _=>exact⟨rfl,rfl⟩
 |nils _ _=>exact⟨rfl,rfl⟩
 |sl id sz n rows es _ _ _ _ _ _ _=>exact⟨rfl,rfl⟩
theorem fr3{s:Bool}{a b c a' b' c':AO}{os r:List AO}{vs:List AV}{qs:List PV}{I:List Nat}(H:OwnL s (a::b::c::os) vs qs I)(hI:∀i∈I,3≤i):OwnL s (a'::b'::c'::(os++r)) vs qs I:=by
 have h1:OwnL s (a'::b'::c'::os) vs qs I:=H.frame fun i hi=>by
  have:=hI i hi
  obtain⟨k,rfl⟩:∃k,i=k+3:=⟨i-3,by omega⟩
  rfl
 exact h1.more r
theorem zg{I J:List Nat}(k:Nat)(n1:I.Nodup)(n2:J.Nodup)(h1:∀i∈I,i<k)(h2:∀j∈J,k≤j):(I++J).Nodup:=
 List.nodup_append.2 ⟨n1,n2,fun a ha b hb e=>by have:=h1 a ha;have:=h2 b hb;omega⟩
variable (G:aw)
theorem uI(l:List Ex)(hb:l.length≤1048576)(H:∀e∈l,AC Tryz.prog G dd [.agg (e.cs.map .p)] [] (MkW .agg true e.cs)):AC Tryz.prog G bH [.p (exL l)] [] (MkW dk true [exL l]):=by
 have hsl:∀l,exL l= .lst 4 (l.map Ex.cs):=fun _=>rfl
 refine AC.go lz ?_
 simp-implicitDefEqProofs[ig,hsl]
 refine⟨by omega,?_⟩
 refine aq (fun a:FilS=>af 23 [(0,.p (exL l)),(3,.sl 0 4 0 l.length),(4,.p (.int .i64 a.i))]) (fun a=>a.h) (FilI true 0 4 (l.map Ex.cs) zEx) (fun a=>l.length-a.i) ⟨0,[.row 4 (List.replicate l.length [.p (.int .i64 0),.p (.int .i64 0),.p (.str []),.nils])]⟩
  (FilI.init rfl (by simp) (.p _ (fun _=>rfl) (.p _ (fun _=>rfl) (.p _ (fun _=>rfl) (.nils 4 .nil)))) rfl) ?_ ?_
 ·exact aP (by simp) (by simp[below,hsl])
 ·rintro⟨i,hh⟩ hI
  simp-implicitDefEqProofs[hsl]
  refine aQ (fun h1=>?_) (fun h1=>?_)
  ·simp at h1
   have hg:=List.getElem?_eq_getElem h1
   have hH:=H l[i] (List.getElem_mem h1)
   have hcs:=l[i].cs_eq
   have hD':(l.map Ex.cs)[i]?=some l[i].cs:=by rw[List.getElem?_map,hg];rfl
   generalize l[i]=e at hg hH hcs hD'
   have hA:=AC.mkLift rj hH (h:=hh) (by rw[hcs];simp)
   rw[hcs] at hA
   simp-implicitDefEqProofs[hg,hcs]
   refine hA.mono ?_
   rintro r h2 ⟨vs,I2,os,rfl,e2,ho,nd,hf⟩
   rw[←hcs] at ho
   obtain⟨rows,r0,k1,k2,k3,k4,k5,k6⟩:=hI.step hD' e2 ho nd hf e.cs_len
   obtain⟨K,rfl,hK⟩:=Cj ho
   obtain⟨c1,c2⟩:=dO hK
   obtain⟨z1,z2,z3,z4,rfl⟩:=Lg k3
   have hll:0<h2.length:=(List.getElem?_eq_some_iff.1 k1).1
   simp-implicitDefEqProofs[-AV.cells,-AV.isCell,jv,bB,cD,jr,bz,c1,c2,aa,k1,k2,h1,dC]
   refine⟨_,k6,by simp;omega,aP (by simp) ?_⟩
   simp[below,hsl,w1 (i:=i) (by omega)]
   omega
  ·simp at h1
   obtain⟨rows,J,hr⟩:=hI.done (by simpa using h1)
   simp-implicitDefEqProofs[]
   exact⟨_,_,rfl,hr.tree (by simp),hr.nd⟩
theorem DD:∀(N:Nat) (e:Ex),e.sz≤N→e.sz≤1048576→AC Tryz.prog G dd [.agg (e.cs.map .p)] [] (MkW .agg true e.cs):=by
 intro N
 induction N with
 |zero=>intro e he;have:=e.sz_pos;omega
 |succ N ih=>
  intro e he hb
  have hec:=e.cs_eq
  have hsz:=e.sz_eq
  have hkl:=aW e.kids
  have hS:=uI G e.kids (by omega) (fun x hx=>ih x (by have:=aO hx;omega) (by have:=aO hx;omega))
  refine AC.go nr ?_
  simp-implicitDefEqProofs[jp,hec]
  refine(AC.mkLift gm hS (by simp)).mono ?_
  rintro r h2 ⟨vs,I2,os,rfl,e2,ho,nd,hf⟩
  obtain⟨K,rfl⟩:=cz ho
  obtain⟨c1,c2⟩:=dO ho
  simp at hf
  subst e2
  simp-implicitDefEqProofs[-AV.cells,-AV.isCell,jv,bB,cD,jr,bz,c1,c2,aa,dk]
  refine⟨_,I2,rfl,?_,nd⟩
  have:=GQ (o:=e.op) (n:=e.n) (w:=e.name) (k:=e.kids) (fr3 (r:=[]) (a':= .row 4 [[.p (.int .i64 e.op),.p (.int .i64 e.n),.p (.str e.name),.p (exL e.kids)]]) (b':= .row 4 [[.p (.int .i64 e.op),.p (.int .i64 e.n),.p (.str e.name),K]]) (c':= .row 4 [[.p (.int .i64 e.op),.p (.int .i64 e.n),.p (.str e.name),K]]) ho hf)
  rw[List.append_nil,Ex.cs_eq] at this
  exact this
theorem Br(l:List Ex)(hb:bv l≤1048576):AC Tryz.prog G bH [.p (exL l)] [] (MkW dk true [exL l]):=
 uI G l (by have:=aW l;omega) (fun e he=>DD G e.sz e (Nat.le_refl _) (by have:=aO he;omega))
theorem qc(l:List Sm)(hb:l.length≤1048576)(H:∀e∈l,AC Tryz.prog G dg [.agg (e.cs.map .p)] [] (MkW .agg true e.cs)):AC Tryz.prog G bh [.p (smL l)] [] (MkW dk true [smL l]):=by
 have hsl:∀l,smL l= .lst 5 (l.map Sm.cs):=fun _=>rfl
 refine AC.go lm ?_
 simp-implicitDefEqProofs[il,hsl]
 refine⟨by omega,?_⟩
 refine aq (fun a:FilS=>af 23 [(0,.p (smL l)),(3,.sl 0 5 0 l.length),(4,.p (.int .i64 a.i))]) (fun a=>a.h) (FilI true 0 5 (l.map Sm.cs) zSm) (fun a=>l.length-a.i) ⟨0,[.row 5 (List.replicate l.length [.p (.int .i64 0),.p (.str []),.nils,.nils,.nils])]⟩
  (FilI.init rfl (by simp) (.p _ (fun _=>rfl) (.p _ (fun _=>rfl) (.nils 4 (.nils 5 (.nils 5 .nil))))) rfl) ?_ ?_
 ·exact aP (by simp) (by simp[below,hsl])
 ·rintro⟨i,hh⟩ hI
  simp-implicitDefEqProofs[hsl]
  refine aQ (fun h1=>?_) (fun h1=>?_)
  ·simp at h1
   have hg:=List.getElem?_eq_getElem h1
   have hH:=H l[i] (List.getElem_mem h1)
   have hcs:=l[i].cs_eq
   have hD':(l.map Sm.cs)[i]?=some l[i].cs:=by rw[List.getElem?_map,hg];rfl
   generalize l[i]=e at hg hH hcs hD'
   have hA:=AC.mkLift rj hH (h:=hh) (by rw[hcs];simp)
   rw[hcs] at hA
   simp-implicitDefEqProofs[hg,hcs]
   refine hA.mono ?_
   rintro r h2 ⟨vs,I2,os,rfl,e2,ho,nd,hf⟩
   rw[←hcs] at ho
   obtain⟨rows,r0,k1,k2,k3,k4,k5,k6⟩:=hI.step hD' e2 ho nd hf e.cs_len
   obtain⟨A,B,E,I3,I4,I5,rfl,_,hA1,hA2,hA3⟩:=Dh ho
   obtain⟨c1,c2⟩:=dO hA1
   obtain⟨c3,c4⟩:=dO hA2
   obtain⟨c5,c6⟩:=dO hA3
   obtain⟨z1,z2,z3,z4,z5,rfl⟩:=KZ k3
   have hll:0<h2.length:=(List.getElem?_eq_some_iff.1 k1).1
   simp-implicitDefEqProofs[-AV.cells,-AV.isCell,jv,bB,cD,jr,bz,c1,c2,c3,c4,c5,c6,aa,k1,k2,h1,dC]
   refine⟨_,k6,by simp;omega,aP (by simp) ?_⟩
   simp[below,hsl,w1 (i:=i) (by omega)]
   omega
  ·simp at h1
   obtain⟨rows,J,hr⟩:=hI.done (by simpa using h1)
   simp-implicitDefEqProofs[]
   exact⟨_,_,rfl,hr.tree (by simp),hr.nd⟩
theorem Dg:∀(N:Nat) (e:Sm),e.sz≤N→e.sz≤1048576→AC Tryz.prog G dg [.agg (e.cs.map .p)] [] (MkW .agg true e.cs):=by
 intro N
 induction N with
 |zero=>intro e he;have:=e.sz_pos;omega
 |succ N ih=>
  intro e he hb
  have hec:=e.cs_eq
  have hsz:=e.sz_eq
  have hA:=Br G e.args (by omega)
  have hB:=qc G e.body (by have:=aZ e.body;omega) (fun x hx=>ih x (by have:=aN hx;omega) (by have:=aN hx;omega))
  have hE:=qc G e.els (by have:=aZ e.els;omega) (fun x hx=>ih x (by have:=aN hx;omega) (by have:=aN hx;omega))
  refine AC.go ni ?_
  simp-implicitDefEqProofs[jz,hec]
  refine(AC.mkLift gm hA (by simp)).mono ?_
  rintro r h2 ⟨vs,I1,os1,rfl,e2,o1,n1,f1⟩
  obtain⟨A,rfl⟩:=cz o1
  obtain⟨c1,c2⟩:=dO o1
  have l1:=fun i (hi:i∈I1)=>o1.lt hi
  simp at f1
  subst e2
  simp at l1
  simp-implicitDefEqProofs[-AV.cells,-AV.isCell,jv,bB,cD,jr,bz,c1,c2,aa,dk]
  refine(AC.mkLift gm hB (by simp)).mono ?_
  rintro r h2 ⟨vs,I2,os2,rfl,e2,o2,n2,f2⟩
  obtain⟨B,rfl⟩:=cz o2
  obtain⟨c3,c4⟩:=dO o2
  have l2:=fun i (hi:i∈I2)=>o2.lt hi
  simp at f2
  subst e2
  simp at l2
  simp-implicitDefEqProofs[-AV.cells,-AV.isCell,jv,bB,cD,jr,bz,c1,c2,c3,c4,aa,dk]
  refine(AC.mkLift gm hE (by simp)).mono ?_
  rintro r h2 ⟨vs,I3,os3,rfl,e2,o3,n3,f3⟩
  obtain⟨E,rfl⟩:=cz o3
  obtain⟨c5,c6⟩:=dO o3
  simp at f3
  subst e2
  simp-implicitDefEqProofs[-AV.cells,-AV.isCell,jv,bB,cD,jr,bz,c1,c2,c3,c4,c5,c6,aa,dk]
  simp only[List.cons_append,List.nil_append,List.append_assoc] at o1 o2 o3
  refine⟨_,I1++(I2++I3),rfl,?_,zg (os1.length+3) n1 (zg (os1.length+os2.length+3) n2 n3 (fun i hi=>by have:=l2 i hi;omega) (fun i hi=>by have:=f3 i hi;omega)) (fun i hi=>by have:=l1 i hi;omega) (fun i hi=>by
   rcases List.mem_append.1 hi with h|h
   ·have:=f2 i h;omega
   ·have:=f3 i h;omega)⟩
  have hd:=GH (o:=e.op) (w:=e.name) (a:=e.args) (b:=e.body) (e:=e.els) (A:=A) (B:=B) (E:=E) (I1:=I1) (I2:=I2) (I3:=I3)
   (fr3 (r:=os2++os3) (a':= .row 5 [[.p (.int .i64 e.op),.p (.str e.name),.p (exL e.args),.p (smL e.body),.p (smL e.els)]]) (b':= .row 5 [[.p (.int .i64 e.op),.p (.str e.name),A,B,E]]) (c':= .row 5 [[.p (.int .i64 e.op),.p (.str e.name),A,B,E]]) o1 f1)
   (by
     have:=fr3 (r:=os3) (a':= .row 5 [[.p (.int .i64 e.op),.p (.str e.name),.p (exL e.args),.p (smL e.body),.p (smL e.els)]]) (b':= .row 5 [[.p (.int .i64 e.op),.p (.str e.name),A,B,E]]) (c':= .row 5 [[.p (.int .i64 e.op),.p (.str e.name),A,B,E]]) o2 (fun i hi=>by have:=f2 i hi;omega)
     rwa[List.append_assoc] at this)
   (by
     have:=fr3 (r:=[]) (a':= .row 5 [[.p (.int .i64 e.op),.p (.str e.name),.p (exL e.args),.p (smL e.body),.p (smL e.els)]]) (b':= .row 5 [[.p (.int .i64 e.op),.p (.str e.name),A,B,E]]) (c':= .row 5 [[.p (.int .i64 e.op),.p (.str e.name),A,B,E]]) o3 (fun i hi=>by have:=f3 i hi;omega)
     rwa[List.append_nil] at this)
  rw[Sm.cs_eq] at hd
  exact hd
theorem At(l:List Sm)(hb:au l≤1048576):AC Tryz.prog G bh [.p (smL l)] [] (MkW dk true [smL l]):=
 qc G l (by have:=aZ l;omega) (fun e he=>Dg G e.sz e (Nat.le_refl _) (by have:=aN he;omega))
theorem uO{h:List AO}{id:Nat}{l:List (List UInt8)}(e:h[id]?=some (cJ l)){n:Nat}(hn:n=l.length):OwnL true h [.sl id 1 0 n] [aC l] [id]:=by
 have hf:∀l:List (List UInt8),OwnL true h (l.map fun w=>[AV.p (.str w)]).flatten (l.map fun w=>[PV.str w]).flatten []:=by
  intro l
  induction l with
  |nil=>exact .nil
  |cons w r ih=>exact .p _ (fun _=>rfl) ih
 exact .sl id 1 n _ _ (by rw[e];rfl) (by simp[hn]) (by simp) (by simp) (by simp) (hf l) .nil
theorem FZ(l:List Fd)(hb:l.length≤1048576)(H:∀e∈l,AC Tryz.prog G eX [.agg (e.cs.map .p)] [] (MkW .agg true e.cs)):AC Tryz.prog G fv [.p (fdL l)] [] (MkW dk true [fdL l]):=by
 have hsl:∀l,fdL l= .lst 3 (l.map Fd.cs):=fun _=>rfl
 refine AC.go pm ?_
 simp-implicitDefEqProofs[kr,hsl]
 refine⟨by omega,?_⟩
 refine aq (fun a:FilS=>af 23 [(0,.p (fdL l)),(3,.sl 0 3 0 l.length),(4,.p (.int .i64 a.i))]) (fun a=>a.h) (FilI true 0 3 (l.map Fd.cs) zFd) (fun a=>l.length-a.i) ⟨0,[.row 3 (List.replicate l.length [.p (.str []),.nils,.nils])]⟩
  (FilI.init rfl (by simp) (.p _ (fun _=>rfl) (.nils 1 (.nils 5 .nil))) rfl) ?_ ?_
 ·exact aP (by simp) (by simp[below,hsl])
 ·rintro⟨i,hh⟩ hI
  simp-implicitDefEqProofs[hsl]
  refine aQ (fun h1=>?_) (fun h1=>?_)
  ·simp at h1
   have hg:=List.getElem?_eq_getElem h1
   have hH:=H l[i] (List.getElem_mem h1)
   have hcs:=l[i].cs_eq'
   have hD':(l.map Fd.cs)[i]?=some l[i].cs:=by rw[List.getElem?_map,hg];rfl
   generalize l[i]=e at hg hH hcs hD'
   have hA:=AC.mkLift rj hH (h:=hh) (by rw[hcs];simp)
   rw[hcs] at hA
   simp-implicitDefEqProofs[hg,hcs]
   refine hA.mono ?_
   rintro r h2 ⟨vs,I2,os,rfl,e2,ho,nd,hf⟩
   rw[←hcs] at ho
   obtain⟨rows,r0,k1,k2,k3,k4,k5,k6⟩:=hI.step hD' e2 ho nd hf e.cs_len
   obtain⟨A,B,I3,I4,rfl,_,hA1,hA2⟩:=DF ho
   obtain⟨c1,c2⟩:=dO hA1
   obtain⟨c3,c4⟩:=dO hA2
   obtain⟨z1,z2,z3,rfl⟩:=KD k3
   have hll:0<h2.length:=(List.getElem?_eq_some_iff.1 k1).1
   simp-implicitDefEqProofs[-AV.cells,-AV.isCell,jv,bB,cD,jr,bz,c1,c2,c3,c4,aa,k1,k2,h1,dC]
   refine⟨_,k6,by simp;omega,aP (by simp) ?_⟩
   simp[below,hsl,w1 (i:=i) (by omega)]
   omega
  ·simp at h1
   obtain⟨rows,J,hr⟩:=hI.done (by simpa using h1)
   simp-implicitDefEqProofs[]
   exact⟨_,_,rfl,hr.tree (by simp),hr.nd⟩
theorem GV(e:Fd)(hb:e.sz≤1048576):AC Tryz.prog G eX [.agg (e.cs.map .p)] [] (MkW .agg true e.cs):=by
 have hec:=e.cs_eq'
 have hsz:e.sz=1+e.name.length+(e.params.length+(e.params.map List.length).sum)+au e.body:=rfl
 have hA:AC Tryz.prog G cI [.p (aC e.params)] [] (MkW dk true [aC e.params]):=(qI G e.params (by omega)).mono fun x h ⟨h1,h2⟩=>⟨[.sl 0 1 0 e.params.length],[0],by rw[h1];rfl,uO (by rw[h2];rfl) rfl,by simp⟩
 have hB:=At G e.body (by omega)
 refine AC.go qq ?_
 simp-implicitDefEqProofs[lp,hec]
 refine(AC.mkLift gm hA (by simp)).mono ?_
 rintro r h2 ⟨vs,I1,os1,rfl,e2,o1,n1,f1⟩
 obtain⟨A,rfl⟩:=cz o1
 obtain⟨c1,c2⟩:=dO o1
 have l1:=fun i (hi:i∈I1)=>o1.lt hi
 simp at f1
 subst e2
 simp at l1
 simp-implicitDefEqProofs[-AV.cells,-AV.isCell,jv,bB,cD,jr,bz,c1,c2,aa,dk]
 refine(AC.mkLift gm hB (by simp)).mono ?_
 rintro r h2 ⟨vs,I2,os2,rfl,e2,o2,n2,f2⟩
 obtain⟨B,rfl⟩:=cz o2
 obtain⟨c3,c4⟩:=dO o2
 simp at f2
 subst e2
 simp-implicitDefEqProofs[-AV.cells,-AV.isCell,jv,bB,cD,jr,bz,c1,c2,c3,c4,aa,dk]
 simp only[List.cons_append,List.nil_append,List.append_assoc] at o1 o2
 refine⟨_,I1++I2,rfl,?_,zg (os1.length+3) n1 n2 (fun i hi=>by have:=l1 i hi;omega) (fun i hi=>by have:=f2 i hi;omega)⟩
 refine HC (fr3 (r:=os2) o1 f1) ?_
 have:=fr3 (r:=[]) (a':= .row 3 [[.p (.str e.name),.p (aC e.params),.p (smL e.body)]]) (b':= .row 3 [[.p (.str e.name),A,B]]) (c':= .row 3 [[.p (.str e.name),A,B]]) o2 (fun i hi=>by have:=f2 i hi;omega)
 rwa[List.append_nil] at this
theorem xC(l:List Fd)(hb:bL l≤1048576):AC Tryz.prog G bw [.agg [.p (fdL l)]] [] (MkW .agg true [fdL l]):=by
 have hA:=FZ G l (by have:=br l;omega) (fun e he=>GV G e (by have:=dc he;omega))
 refine AC.go jP ?_
 simp-implicitDefEqProofs[fX]
 refine(AC.mkLift gm hA (by simp)).mono ?_
 rintro r h2 ⟨vs,I1,os1,rfl,e2,o1,n1,f1⟩
 obtain⟨A,rfl⟩:=cz o1
 obtain⟨c1,c2⟩:=dO o1
 simp at f1
 subst e2
 simp-implicitDefEqProofs[-AV.cells,-AV.isCell,jv,bB,cD,jr,bz,c1,c2,aa,dk]
 have:=fr3 (r:=[]) (a':= .row 1 [[.p (fdL l)]]) (b':= .row 1 [[A]]) (c':= .row 1 [[A]]) o1 f1
 rw[List.append_nil] at this
 exact⟨_,I1,rfl,this,n1⟩
end Go.Proofs.YtnjbhgpbgmpkcaaGreatDoor
namespace Go.Proofs.YtnjbhgpbgmpkcaaGreatDoor
open Go Go.Aw
set_option maxRecDepth 100000
set_option maxHeartbeats 4000000
theorem Ht(n:Int):IntKind.u8.wrap n=n%256:=by simp[IntKind.wrap,IntKind.bits,IntKind.signed]
theorem DN{x:Int}{n:Nat}(h:x=n)(hn:n≤9223372036854775807):IntKind.i64.wrap x=n:=by rw[al (by omega) (by omega),h]
def tZ(n:Nat)(acc:List UInt8):List UInt8:=if n=0 then acc else tZ (n/10) (UInt8.ofNat (48+n%10)::acc)
termination_by n
theorem Ak(acc:List UInt8):tZ 0 acc=acc:=by rw[tZ,if_pos rfl]
theorem AB{n:Nat}(h:¬n=0)(acc:List UInt8):tZ n acc=tZ (n/10) (UInt8.ofNat (48+n%10)::acc):=by rw[tZ,if_neg h]
def cZ(n:Nat):List UInt8:=if n=0 then[109,48] else 109::tZ n []
structure DGm where (n:Nat) (acc:List UInt8)
variable (G:aw)
theorem ki(n:Nat)(hn:n≤1152921504606846976):VF Tryz.prog G aS [.p (.int .i64 n)] (.p (.str (cZ n))):=by
 refine AC.go qL ?_
 by_cases h0:n=0
 ·subst h0
  simp-implicitDefEqProofs[gJ,cZ]
 have h1:¬(n:Int)≤0:=by omega
 simp-implicitDefEqProofs[gJ,h1,h0]
 refine aq (fun d:DGm=>af 20 [(0,.p (.int .i64 d.n)),(3,.p (.str d.acc))]) (fun _=>[]) (fun d=>tZ d.n d.acc=tZ n []∧d.acc.length+d.n≤n) (fun d=>d.n) ⟨n,[]⟩ (by simp) ?_ ?_
 ·exact aD rfl (by simp[below])
 ·rintro⟨m,acc⟩ ⟨i1,i2⟩
  simp only at i1 i2
  simp-implicitDefEqProofs[]
  refine aQ (fun h2=>?_) (fun h2=>?_)
  ·simp at h2
   have hm0:¬m=0:=by omega
   have e10:(m:Int).tmod 10=(m:Int)%10:=Int.tmod_eq_emod_of_nonneg (by omega)
   have ew:IntKind.i64.wrap (48+(m:Int)%10)=48+(m:Int)%10:=al (by omega) (by omega)
   have e8:IntKind.u8.wrap (48+(m:Int)%10)=48+(m:Int)%10:=by rw[Ht];omega
   have et:(48+(m:Int)%10).toNat=48+m%10:=by omega
   have ed:IntKind.i64.wrap ((m:Int)/10)=((m/10:Nat):Int):=DN (by omega) (by omega)
   simp-implicitDefEqProofs[e10,ew,e8,et,ed]
   refine⟨by omega,⟨m/10,UInt8.ofNat (48+m%10)::acc⟩,⟨?_,?_⟩,by simp only;omega,aD rfl ?_⟩
   ·rw[←i1];exact(AB hm0 acc).symm
   ·simp only[List.length_cons];omega
   ·simp[below]
  ·simp at h2
   have:m=0:=by omega
   subst this
   rw[Ak] at i1
   have hl:1+(tZ n []).length≤9223372036854775807:=by rw[←i1];omega
   simp-implicitDefEqProofs[cZ,h0,i1]
   exact hl
def kV(k n:Nat):List Int:=(List.range n).map fun j=>((k+j:Nat):Int)
def jV(k n:Nat):List (List UInt8):=(List.range n).map fun j=>cZ (k+j)
theorem wI(k n:Nat):(kV k n).length=n:=by simp[kV]
theorem xr(k n:Nat):(jV k n).length=n:=by simp[jV]
theorem yG{h:List AO}{id:Nat}{xs:List Int}{k:Nat}(hr:h[id]?=some (nS xs))(hk:k+xs.length≤1152921504606846976):
 AC Tryz.prog G eB [.sl id 1 0 xs.length,.p (.int .i64 k)] h fun x h'=>x= .ret (.p (.int .i64 ((k+xs.length:Nat):Int)))∧h'=h.set id (nS (kV k xs.length)):=by
 refine AC.enterB eG fun hb=>AC.go eG ?_
 have hid:id<h.length:=(List.getElem?_eq_some_iff.1 hr).1
 have hbs:∀ys:List Int,HB (h.set id (nS ys)):=fun ys=>hb.set_row fun e he=>by
  obtain⟨x,_,rfl⟩:=List.mem_map.1 he
  simp
 simp-implicitDefEqProofs[eE]
 have e0:kV k 0++xs.drop 0=xs:=by simp[kV]
 refine aq (fun a:Nat × List Int=>af 19 [(0,.sl id 1 0 xs.length),(1,.p (.int .i64 ((k+a.1:Nat):Int))),(5,.p (.int .i64 a.1))]) (fun a=>h.set id (nS a.2)) (fun a=>a.1≤xs.length∧a.2=kV k a.1++xs.drop a.1) (fun a=>xs.length-a.1) (0,xs) ⟨by simp,e0.symm⟩ ?_ ?_
 ·have e:h.set id (nS xs)=h:=by
   obtain⟨hi,e⟩:=List.getElem?_eq_some_iff.1 hr
   rw[←e];simp
  rw[e]
  exact iO (by simp) hb (by simp-implicitDefEqProofs[below,hid])
 ·rintro⟨i,ys⟩ ⟨hi,hy⟩
  simp only at hi hy
  simp-implicitDefEqProofs[]
  refine aQ (fun h1=>?_) (fun h1=>?_)
  ·simp at h1
   have hyl:ys.length=xs.length:=by rw[hy];simp[kV];omega
   have hys:ys.set i ((k+i:Nat):Int)=kV k (i+1)++xs.drop (i+1):=by
    rw[hy,List.set_append_right _ _ (by simp[kV])]
    simp only[kV,List.length_map,List.length_range,Nat.sub_self]
    rw[List.drop_eq_getElem_cons h1,List.set_cons_zero,List.range_succ]
    simp
   have hg:(List.map (fun n=>[AV.p (.int .i64 n)]) ys)[i]?=some [AV.p (.int .i64 (ys[i]'(by omega)))]:=by rw[List.getElem?_map,List.getElem?_eq_getElem (by omega)];rfl
   have hw1:IntKind.i64.wrap ((k:Int)+(i:Int)+1)=(k:Int)+(i:Int)+1:=al (by omega) (by omega)
   simp-implicitDefEqProofs[nS,hid,h1,hg,hw1]
   refine⟨i+1,ys.set i ((k+i:Nat):Int),⟨h1,hys⟩,by omega,?_⟩
   have e:(List.map (fun n=>[AV.p (PV.int IntKind.i64 n)]) ys).set i [AV.p (PV.int IntKind.i64 (↑k+ ↑i))]=List.map (fun n=>[AV.p (PV.int IntKind.i64 n)]) (ys.set i ((k+i:Nat):Int)):=by
    rw[List.map_set];simp
   rw[e]
   refine iO ?_ (hbs (ys.set i ((k+i:Nat):Int))) ?_
   ·simp
   simp[w1 (i:=i) (by omega),below,hid]
   omega
  ·simp at h1
   have:i=xs.length:=by omega
   subst this
   simp[hy]
theorem qC(k i:Nat)(hn:k+i≤1152921504606846976):VF Tryz.prog G aS [.p (.int .i64 ((k:Int)+(i:Int)))] (.p (.str (cZ (k+i)))):=by
 have:=ki G (k+i) hn
 rwa[Int.natCast_add] at this
theorem uc{h:List AO}{id:Nat}{xs:List (List UInt8)}{k:Nat}(hr:h[id]?=some (cJ xs))(hk:k+xs.length≤1152921504606846976):
 AC Tryz.prog G cS [.sl id 1 0 xs.length,.p (.int .i64 k)] h fun x h'=>x= .ret (.p (.int .i64 ((k+xs.length:Nat):Int)))∧h'=h.set id (cJ (jV k xs.length)):=by
 refine AC.enterB cT fun hb=>AC.go cT ?_
 have hid:id<h.length:=(List.getElem?_eq_some_iff.1 hr).1
 have hbs:∀ys:List (List UInt8),HB (h.set id (cJ ys)):=fun ys=>hb.set_row fun e he=>by
  obtain⟨x,_,rfl⟩:=List.mem_map.1 he
  simp
 simp-implicitDefEqProofs[cW]
 have e0:jV k 0++xs.drop 0=xs:=by simp[jV]
 refine aq (fun a:Nat × List (List UInt8)=>af 20 [(0,.sl id 1 0 xs.length),(1,.p (.int .i64 ((k+a.1:Nat):Int))),(5,.p (.int .i64 a.1))]) (fun a=>h.set id (cJ a.2)) (fun a=>a.1≤xs.length∧a.2=jV k a.1++xs.drop a.1) (fun a=>xs.length-a.1) (0,xs) ⟨by simp,e0.symm⟩ ?_ ?_
 ·have e:h.set id (cJ xs)=h:=by
   obtain⟨hi,e⟩:=List.getElem?_eq_some_iff.1 hr
   rw[←e];simp
  rw[e]
  exact iO (by simp) hb (by simp-implicitDefEqProofs[below,hid])
 ·rintro⟨i,ys⟩ ⟨hi,hy⟩
  simp only at hi hy
  simp-implicitDefEqProofs[]
  refine aQ (fun h1=>?_) (fun h1=>?_)
  ·simp at h1
   have hyl:ys.length=xs.length:=by rw[hy];simp[jV];omega
   have hys:ys.set i (cZ (k+i))=jV k (i+1)++xs.drop (i+1):=by
    rw[hy,List.set_append_right _ _ (by simp[jV])]
    simp only[jV,List.length_map,List.length_range,Nat.sub_self]
    rw[List.drop_eq_getElem_cons h1,List.set_cons_zero,List.range_succ]
    simp
   have hg:(List.map (fun n=>[AV.p (.str n)]) ys)[i]?=some [AV.p (.str (ys[i]'(by omega)))]:=by rw[List.getElem?_map,List.getElem?_eq_getElem (by omega)];rfl
   have hw1:IntKind.i64.wrap ((k:Int)+(i:Int)+1)=(k:Int)+(i:Int)+1:=al (by omega) (by omega)
   simp-implicitDefEqProofs[]
   refine(qC G k i (by omega)).use ?_
   simp-implicitDefEqProofs[cJ,hid,h1,hg,hw1]
   refine⟨i+1,ys.set i (cZ (k+i)),⟨h1,hys⟩,by omega,?_⟩
   have e:(List.map (fun n=>[AV.p (PV.str n)]) ys).set i [AV.p (PV.str (cZ (k+i)))]=List.map (fun n=>[AV.p (PV.str n)]) (ys.set i (cZ (k+i))):=by
    rw[List.map_set]
   rw[e]
   refine iO ?_ (hbs (ys.set i (cZ (k+i)))) ?_
   ·simp
   simp[w1 (i:=i) (by omega),below,hid]
   omega
  ·simp at h1
   have:i=xs.length:=by omega
   subst this
   simp[hy]
theorem EM(k n:Nat)(hk:k+n≤1152921504606846976):VF Tryz.prog G iQ [.p (aC (jV k n)),.p (.int .i64 k)] (.p (.int .i64 ((k+n:Nat):Int))):=by
 refine AC.go nQ ?_
 have hsl:∀l,aC l= .lst 1 (l.map fun w=>[.str w]):=fun _=>rfl
 have hl:=xr k n
 simp-implicitDefEqProofs[iR]
 refine aq (fun i:Nat=>af 22 [(0,.p (aC (jV k n))),(1,.p (.int .i64 ((k+i:Nat):Int))),(5,.p (.int .i64 i))]) (fun _=>[]) (fun i=>i≤n) (fun i=>n-i) 0 (by simp) ?_ ?_
 ·exact aD rfl (by simp[below,aC])
 intro i hi
 simp-implicitDefEqProofs[hsl,hl]
 refine aQ (fun h1=>?_) (fun h1=>?_)
 ·simp at h1
  have hg:(jV k n)[i]?=some (cZ (k+i)):=by simp[jV,h1]
  have hw1:IntKind.i64.wrap ((k:Int)+(i:Int)+1)=(k:Int)+(i:Int)+1:=al (by omega) (by omega)
  clear hl
  simp-implicitDefEqProofs[hg]
  refine(qC G k i (by omega)).use ?_
  simp-implicitDefEqProofs[hw1]
  refine⟨i+1,h1,by omega,aD rfl ?_⟩
  simp[below,aC,w1 (i:=i) (by omega)]
  omega
 ·simp at h1
  have:i=n:=by omega
  subst this
  simp-implicitDefEqProofs[]
theorem yA(k n:Nat)(hk:k+n≤1152921504606846976):VF Tryz.prog G eJ [.p (eM (kV k n)),.p (.int .i64 k)] (.p (.int .i64 ((k+n:Nat):Int))):=by
 refine AC.go qW ?_
 have hsl:∀l,eM l= .lst 1 (l.map fun w=>[.int .i64 w]):=fun _=>rfl
 have hl:=wI k n
 simp-implicitDefEqProofs[kO]
 refine aq (fun i:Nat=>af 21 [(0,.p (eM (kV k n))),(1,.p (.int .i64 ((k+i:Nat):Int))),(5,.p (.int .i64 i))]) (fun _=>[]) (fun i=>i≤n) (fun i=>n-i) 0 (by simp) ?_ ?_
 ·exact aD rfl (by simp[below,eM])
 intro i hi
 simp-implicitDefEqProofs[hsl,hl]
 refine aQ (fun h1=>?_) (fun h1=>?_)
 ·simp at h1
  have hg:(kV k n)[i]?=some ((k+i:Nat):Int):=by simp[kV,h1]
  have hw1:IntKind.i64.wrap ((k:Int)+(i:Int)+1)=(k:Int)+(i:Int)+1:=al (by omega) (by omega)
  clear hl
  simp-implicitDefEqProofs[hg,hw1]
  refine⟨i+1,h1,by omega,aD rfl ?_⟩
  simp[below,eM,w1 (i:=i) (by omega)]
  omega
 ·simp at h1
  have:i=n:=by omega
  subst this
  simp-implicitDefEqProofs[]
end Go.Proofs.YtnjbhgpbgmpkcaaGreatDoor
