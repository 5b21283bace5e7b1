/-
  Contracts and lemmas that the card needs, part 7.
-/
import Derived.Test.YtnjbhgpbgmpkcaaGreatDoorRm6
import Derived.Shelf.Slices.In.SortNone
namespace Go.Proofs.YtnjbhgpbgmpkcaaGreatDoor
open Go Go.Aw
set_option maxRecDepth 100000
set_option maxHeartbeats 4000000
def im(v:LV):LV:=⟨vnm v.num,v.num,v.block⟩
theorem BP:∀{a b:Nat},a<26→b<26→vnm a=vnm b→a=b:=by
 have key:∀a b:Fin 26,vnm a.val=vnm b.val→a=b:=by decide
 intro a b ha hb h
 exact congrArg Fin.val (key ⟨a,ha⟩ ⟨b,hb⟩ h)
theorem uM:∀n:Nat,aD (vnm n)=true:=by
 have key:∀a:Fin 26,aD (vnm a.val)=true:=by decide
 intro n
 have e:vnm n=vnm (n%26):=by simp[vnm]
 rw[e]
 exact key ⟨n%26,Nat.mod_lt _ (by omega)⟩
structure NOk (w:WS):Prop where
 down:w.vs.Pairwise (fun a b=>b.num<a.num)
 lt:∀v∈w.vs,v.num<w.count
theorem IW{vs:List LV}{s:List UInt8}{v:LV}(hd:vs.Pairwise (fun a b=>b.num<a.num))(h26:∀v∈vs,v.num<26)(h:lkV vs s=some v):lkV (vs.map im) (vnm v.num)=some (im v):=by
 have hv:=xx h
 clear h
 induction vs with
 |nil=>cases hv
 |cons x r ih=>
  obtain⟨h1,h2⟩:=List.pairwise_cons.1 hd
  rcases List.mem_cons.1 hv with rfl|hv
  ·simp[lkV,im]
  ·have hne:¬vnm x.num=vnm v.num:=fun e=>by
    have:=BP (h26 x (by simp)) (h26 v (by simp[hv])) e
    have:=h1 v hv
    omega
   have:=ih h2 (fun y hy=>h26 y (by simp[hy])) hv
   rw[List.map_cons,lkV,List.find?_cons,show decide ((im x).name=vnm v.num)=false from decide_eq_false hne]
   exact this
theorem Km{vs:List LV}{n:Nat}(hn:n<26)(hlt:∀v∈vs,v.num<n):lkV (vs.map im) (vnm n)=none:=by
 rw[lkV,List.find?_eq_none]
 intro x hx
 obtain⟨v,hv,rfl⟩:=List.mem_map.1 hx
 have:=hlt v hv
 simp only[decide_eq_true_eq]
 intro e
 have:=BP (by omega) hn e
 omega
structure Like (fns fns':List Fd):Prop where
 at_:∀s,bW fns' s=bW fns s
 par:∀j,vK fns' j=vK fns j
theorem DZ(l:List Fd)(g:Fd→Fd)(hn:∀f,(g f).name=f.name)(hp:∀f,(g f).params.length=f.params.length):Like l (l.map g) where
 at_:=fun s=>by
  rw[bW,bW,List.findIdx?_map]
  congr 1
  funext f
  simp[hn]
 par:=fun j=>by
  rw[vK,vK,List.getElem?_map]
  cases l[j]? with
  |none=>rfl
  |some f=>exact hp f
theorem ty(vs:List LV):∀l:List Ex,(dj vs l).length=l.length
 |[]=>rfl
 |e::r=>by rw[dj,List.length_cons,List.length_cons,ty vs r]
mutual
theorem reE{fns fns':List Fd}(hL:Like fns fns'){k:Nat}{vs:List LV}(hd:vs.Pairwise (fun a b=>b.num<a.num))(h26:∀v∈vs,v.num<26):∀(e:Ex),mP fns k vs e 0=0→mP fns' k (vs.map im) (rnE vs e) 0=0∧rnE (vs.map im) (rnE vs e)=rnE vs e
 | .mk o n s ks,h=>by
   rw[mP] at h
   have h0:=gu h
   rw[h0] at h
   obtain⟨a1,a2⟩:=Ku hL hd h26 ks h
   rw[rnE,rnE,mP,a2,ty]
   by_cases h2:o=2
   ·subst h2
    rw[gX,if_pos rfl] at h0
    obtain⟨_,v,hv⟩:=oo h0
    have hu:jE vs s=vnm v.num:=by rw[jE,hv]
    have hk:=IW hd h26 hv
    have hu2:jE (vs.map im) (vnm v.num)=vnm v.num:=by rw[jE,hk];rfl
    have hc:gX fns' k (vs.map im) 2 (vnm v.num) ks.length 0=0:=by rw[gX,if_pos rfl,lU,hk]
    simp only[if_true,hu,hu2,hc]
    exact⟨a1,trivial⟩
   ·simp only[if_neg h2]
    have hc:gX fns' k (vs.map im) o s ks.length 0=0:=by
     rw[gX,if_neg h2] at h0⊢
     by_cases h3:o=13
     ·rw[if_pos h3] at h0⊢
      rw[lz] at h0⊢
      rw[hL.at_]
      simp only[hL.par]
      exact h0
     ·rw[if_neg h3]
    rw[hc]
    exact⟨a1,trivial⟩
theorem Ku{fns fns':List Fd}(hL:Like fns fns'){k:Nat}{vs:List LV}(hd:vs.Pairwise (fun a b=>b.num<a.num))(h26:∀v∈vs,v.num<26):∀(l:List Ex),bg fns k vs l 0=0→bg fns' k (vs.map im) (dj vs l) 0=0∧dj (vs.map im) (dj vs l)=dj vs l
 |[],_=>⟨rfl,rfl⟩
 |e::r,h=>by
  rw[bg] at h
  have h0:=gu h
  rw[h0] at h
  obtain⟨a1,a2⟩:=reE hL hd h26 e h0
  obtain⟨b1,b2⟩:=Ku hL hd h26 r h
  rw[dj,dj,bg,a1,a2,b2]
  exact⟨b1,rfl⟩
end
def WS.im(w:WS):WS:=⟨w.vs.map Go.Proofs.YtnjbhgpbgmpkcaaGreatDoor.im,w.count,w.code⟩
theorem NOk.put{w:WS}(h:NOk w)(s:List UInt8)(b:Nat):NOk (eZ w s b):=by
 refine⟨List.pairwise_cons.2 ⟨fun v hv=>h.lt v hv,h.down⟩,fun v hv=>?_⟩
 rcases List.mem_cons.1 hv with rfl|hv
 ·exact Nat.lt_succ_self _
 ·exact Nat.lt_succ_of_lt (h.lt v hv)
theorem Ja{w:WS}(h:NOk w)(h26:w.count<26)(s:List UInt8)(b:Nat)(hz:(eZ w s b).code=0):eZ w.im (vnm w.count) b=(eZ w s b).im:=by
 have hc:w.code=0:=wN hz
 have hk:=Km h26 h.lt
 have e:pk (w.vs.map im) (vnm w.count) b w.code=(eZ w s b).code:=by rw[pk,hk,hz,hc]
 show WS.mk (⟨vnm w.count,w.count,b⟩::w.vs.map im) (w.count+1) (pk (w.vs.map im) (vnm w.count) b w.code)=_
 rw[e]
 rfl
theorem NZ{w:WS}(h:NOk w)(o:Int)(h26:w.count+(if o=1 then 1 else 0)≤26)(s:List UInt8)(b:Nat)(hz:(opW o s b w).code=0):opW o (opN o s w) b w.im=(opW o s b w).im∧opN o (opN o s w) w.im=opN o s w∧NOk (opW o s b w):=by
 unfold opW at hz⊢
 unfold opN
 by_cases h1:o=1
 ·simp only[h1,if_true] at hz h26⊢
  exact⟨Ja h (by omega) s b hz,rfl,h.put s b⟩
 ·simp only[if_neg h1] at hz h26⊢
  by_cases h2:o=2
  ·simp only[h2,if_true] at hz⊢
   obtain⟨hc,v,hv⟩:=oo hz
   have hk:=IW h.down (fun v hv=>by have:=h.lt v hv;omega) hv
   have hu:jE w.vs s=vnm v.num:=by rw[jE,hv]
   have hu2:jE w.im.vs (vnm v.num)=vnm v.num:=by
    show jE (w.vs.map im) _=_
    rw[jE,hk];rfl
   rw[hu,hu2]
   refine⟨?_,rfl,⟨h.down,h.lt⟩⟩
   show WS.mk (w.vs.map im) w.count (lU (w.vs.map im) (vnm v.num) w.code)=⟨w.vs.map im,w.count,lU w.vs s w.code⟩
   rw[hz,lU,hk,hc]
  ·simp only[if_neg h2]
   exact⟨trivial,trivial,h⟩
mutual
theorem reS{fns fns':List Fd}(hL:Like fns fns'){k:Nat}:∀(s:Sm) (b:Nat) (w:WS),NOk w→w.count+jf s≤26→(stW fns k b s w).code=0→stW fns' k b (rnS fns k b s w) w.im=(stW fns k b s w).im∧rnS fns' k b (rnS fns k b s w) w.im=rnS fns k b s w∧NOk (stW fns k b s w)
 | .mk o s a bd el,b,w,hn,h26,hz=>by
   rw[jf] at h26
   rw[stW,dW] at hz
   have z1:=dN hz
   rw[dW] at z1
   have z2:=dN z1
   have z3:bg fns k w.vs a w.code=0:=vg z2
   have hc0:=gu z3
   have hn1:NOk (⟨w.vs,w.count,bg fns k w.vs a w.code⟩:WS):=⟨hn.down,hn.lt⟩
   rw[hc0] at z3
   obtain⟨e1,e2⟩:=Ku hL hn.down (fun v hv=>by have:=hn.lt v hv;omega) a z3
   have hop:=NZ hn1 o (by simp only;omega) s b z2
   have hcnt:=lQ o s b ⟨w.vs,w.count,bg fns k w.vs a w.code⟩
   simp only at hcnt
   have hopn:opN o s (⟨w.vs,w.count,bg fns k w.vs a w.code⟩:WS)=opN o s w:=rfl
   rw[hopn] at hop
   have hin:(⟨w.im.vs,w.im.count,bg fns' k w.im.vs (dj w.vs a) w.im.code⟩:WS)=(⟨w.vs,w.count,bg fns k w.vs a w.code⟩:WS).im:=by
    show WS.mk (w.vs.map im) w.count (bg fns' k (w.vs.map im) (dj w.vs a) w.code)=⟨w.vs.map im,w.count,bg fns k w.vs a w.code⟩
    rw[hc0,e1,z3]
   have hopn2:opN o (opN o s w) w.im=opN o s w:=hop.2.1
   generalize hw2:opW o s b ⟨w.vs,w.count,bg fns k w.vs a w.code⟩=w2 at*
   obtain⟨p1,p2,p3⟩:=IG hL bd (b+1) w2 hop.2.2 (by omega) z1
   have hcb:=ep fns k bd (b+1) w2
   have hn3:NOk ((bn fns k (b+1) bd w2).back w2.vs):=⟨hop.2.2.down,fun v hv=>by
    have:=hop.2.2.lt v hv
    show v.num<(bn fns k (b+1) bd w2).count
    omega⟩
   obtain⟨q1,q2,q3⟩:=IG hL el (b+1) ((bn fns k (b+1) bd w2).back w2.vs) hn3 (by show(bn fns k (b+1) bd w2).count+_≤26;omega) hz
   have hce:=ep fns k el (b+1) ((bn fns k (b+1) bd w2).back w2.vs)
   have hbk:(bn fns' k (b+1) (cG fns k (b+1) bd w2) w2.im).back w2.im.vs=((bn fns k (b+1) bd w2).back w2.vs).im:=by rw[p1];rfl
   rw[rnS]
   try simp only
   rw[hw2]
   refine⟨?_,?_,?_⟩
   ·rw[stW,stW]
    try simp only
    rw[hin,hop.1,hbk,q1,hw2]
    rfl
   ·rw[rnS]
    try simp only
    rw[hin,hop.1,hbk,q2,p2,hopn2]
    have:dj w.im.vs (dj w.vs a)=dj w.vs a:=e2
    rw[this]
   ·rw[stW]
    try simp only
    rw[hw2]
    refine⟨hop.2.2.down,fun v hv=>?_⟩
    have:=hop.2.2.lt v hv
    have hb2:((bn fns k (b+1) bd w2).back w2.vs).count=(bn fns k (b+1) bd w2).count:=rfl
    show v.num<(bn fns k (b+1) el ((bn fns k (b+1) bd w2).back w2.vs)).count
    omega
theorem IG{fns fns':List Fd}(hL:Like fns fns'){k:Nat}:∀(l:List Sm) (b:Nat) (w:WS),NOk w→w.count+bS l≤26→(bn fns k b l w).code=0→bn fns' k b (cG fns k b l w) w.im=(bn fns k b l w).im∧cG fns' k b (cG fns k b l w) w.im=cG fns k b l w∧NOk (bn fns k b l w)
 |[],b,w,hn,_,_=>⟨rfl,rfl,hn⟩
 |s::r,b,w,hn,h26,hz=>by
  rw[bS] at h26
  rw[bn] at hz
  have hc:=rG fns k s b w
  obtain⟨a1,a2,a3⟩:=reS hL s b w hn (by omega) (dN hz)
  obtain⟨b1,b2,b3⟩:=IG hL r b (stW fns k b s w) a3 (by omega) hz
  rw[cG,cG,bn,bn,a1,a2,b1,b2]
  exact⟨rfl,rfl,b3⟩
end
theorem Mc:∀(ps:List (List UInt8)) (w:WS),NOk w→w.count+ps.length≤26→(bH ps w).code=0→bH (fI ps w) w.im=(bH ps w).im∧fI (fI ps w) w.im=fI ps w∧NOk (bH ps w)
 |[],w,hn,_,_=>⟨rfl,rfl,hn⟩
 |s::r,w,hn,h26,hz=>by
  rw[List.length_cons] at h26
  have hz':(bH r (eZ w s 0)).code=0:=hz
  have e:=Ja hn (by omega) s 0 (pV hz')
  obtain⟨a1,a2,a3⟩:=Mc r (eZ w s 0) (hn.put s 0) (by show w.count+1+r.length≤26;omega) hz'
  refine⟨?_,?_,a3⟩
  ·show bH (fI r (eZ w s 0)) (eZ w.im (vnm w.count) 0)=_
   rw[e];exact a1
  ·show vnm w.count::fI (fI r (eZ w s 0)) (eZ w.im (vnm w.count) 0)=_
   rw[e,a2];rfl
theorem xW:∀(ps:List (List UInt8)) (w:WS),(fI ps w).length=ps.length
 |[],_=>rfl
 |s::r,w=>by rw[fI,List.length_cons,List.length_cons,xW r]
theorem reF{fns fns':List Fd}(hL:Like fns fns'){k:Nat}{f:Fd}(hv:iC f≤26)(hz:(fnW fns k f).code=0):(fnW fns' k (irF f)).code=0∧irF (irF f)=irF f:=by
 have hat:=(sk hz).2
 have hrn:=xM fns k f hz
 have hz0:=hz
 rw[fnW,if_pos hat] at hz
 have hpz:=dN hz
 have hn0:NOk (⟨[],0,0⟩:WS):=⟨.nil,fun v hv=>by cases hv⟩
 have hvn:iC f=f.params.length+bS f.body:=rfl
 obtain⟨a1,a2,a3⟩:=Mc f.params ⟨[],0,0⟩ hn0 (by simp only;omega) hpz
 have hpc:=kI f.params ⟨[],0,0⟩
 simp only at hpc
 obtain⟨b1,b2,b3⟩:=IG hL (k:=k) f.body 0 (bH f.params ⟨[],0,0⟩) a3 (by omega) hz
 have him:(⟨[],0,0⟩:WS).im=⟨[],0,0⟩:=rfl
 rw[him] at a1 a2
 have hF:irF f=⟨f.name,fI f.params ⟨[],0,0⟩,cG fns k 0 f.body (bH f.params ⟨[],0,0⟩)⟩:=by
  rw[←hrn,rnF,if_pos hat]
 have hat':bW fns' (irF f).name=some k:=by rw[hL.at_];exact hat
 have hz':(fnW fns' k (irF f)).code=0:=by
  rw[fnW,if_pos hat',hF]
  simp only
  rw[a1,b1]
  exact hz
 refine⟨hz',?_⟩
 rw[←xM fns' k (irF f) hz',rnF,if_pos hat',hF]
 simp only
 rw[a2,a1,b2]
mutual
theorem Kp(op:Int)(h:op≠2)(vs:List LV):∀(e:Ex) (out:Wds),nmE op (rnE vs e) out=nmE op e out
 | .mk o n s ks,out=>by
   rw[rnE,nmE,nmE,xN op h vs ks]
   by_cases h2:o=2
   ·have:¬o=op:=fun e=>h (e▸h2)
    simp[this]
   ·simp[h2]
theorem xN(op:Int)(h:op≠2)(vs:List LV):∀(l:List Ex) (out:Wds),vO op (dj vs l) out=vO op l out
 |[],out=>rfl
 |e::r,out=>by rw[dj,vO,vO,Kp op h vs e,xN op h vs r]
end
mutual
theorem Ki(fns:List Fd)(k:Nat):∀(s:Sm) (b:Nat) (w:WS) (out:Wds),clS (rnS fns k b s w) out=clS s out
 | .mk o s a bd el,b,w,out=>by
   rw[rnS,clS,clS,xN 13 (by omega),tt fns k bd,tt fns k el]
theorem tt(fns:List Fd)(k:Nat):∀(l:List Sm) (b:Nat) (w:WS) (out:Wds),nv (cG fns k b l w) out=nv l out
 |[],b,w,out=>rfl
 |s::r,b,w,out=>by rw[cG,nv,nv,Ki fns k s,tt fns k r]
end
mutual
theorem Hj(fns:List Fd)(k:Nat):∀(s:Sm) (b:Nat) (w:WS),jf (rnS fns k b s w)=jf s
 | .mk o s a bd el,b,w=>by rw[rnS,jf,jf,qW fns k bd,qW fns k el]
theorem qW(fns:List Fd)(k:Nat):∀(l:List Sm) (b:Nat) (w:WS),bS (cG fns k b l w)=bS l
 |[],b,w=>rfl
 |s::r,b,w=>by rw[cG,bS,bS,Hj fns k s,qW fns k r]
end
mutual
theorem Jr(fns:List Fd)(k:Nat):∀(s:Sm) (b:Nat) (w:WS),(rnS fns k b s w).cnt=s.cnt
 | .mk o s a bd el,b,w=>by rw[rnS,Sm.cnt,Sm.cnt,tu fns k bd,tu fns k el]
theorem tu(fns:List Fd)(k:Nat):∀(l:List Sm) (b:Nat) (w:WS),cW (cG fns k b l w)=cW l
 |[],b,w=>rfl
 |s::r,b,w=>by rw[cG,cW,cW,Jr fns k s,tu fns k r]
end
mutual
theorem zs(vs:List LV):∀e:Ex,(rnE vs e).parts=e.parts
 | .mk o n s ks=>by rw[rnE,Ex.parts,Ex.parts,Bp vs ks]
theorem Bp(vs:List LV):∀l:List Ex,bt (dj vs l)=bt l
 |[]=>rfl
 |e::r=>by rw[dj,bt,bt,zs vs e,Bp vs r]
end
theorem wL{vs:List LV}{s:List UInt8}(h:aD s=true):aD (jE vs s)=true:=by
 unfold jE
 split
 ·exact h
 ·exact uM _
theorem ua{vs:List LV}{p q:Ex→Bool}:∀{l:List Ex},(∀e∈l,p e=true→q (rnE vs e)=true)→l.all p=true→(dj vs l).all q=true
 |[],_,_=>rfl
 |e::r,h,hp=>by
  rw[List.all_cons,Bool.and_eq_true] at hp
  rw[dj,List.all_cons,Bool.and_eq_true]
  exact⟨h e (by simp) hp.1,ua (fun x hx=>h x (by simp[hx])) hp.2⟩
theorem xZ(vs:List LV):∀(d:Nat) (e:Ex),eb d e=true→eb d (rnE vs e)=true
 |0,e,h=>by cases h
 |d+1,.mk o n s ks,h=>by
  rw[eb,Bool.and_eq_true] at h⊢
  obtain⟨h1,h2⟩:=h
  refine⟨?_,?_⟩
  ·simp only[lS,rnE,Ex.op,Ex.n,Ex.name,Ex.kids,ty] at h1⊢
   by_cases h2:o=2
   ·subst h2
    have hnd:zn 2=true:=rfl
    rw[hnd] at h1⊢
    simp only[if_true,Bool.true_or,Bool.and_true] at h1⊢
    have hnm:aD s=true:=by
     simp only[Bool.and_eq_true,beq_iff_eq] at h1
     exact h1.1.1.2.symm
    rw[hnm] at h1
    rw[wL hnm]
    exact h1
   ·simp only[if_neg h2]
    exact h1
  ·simp only[rnE,Ex.kids] at h2⊢
   exact ua (fun e _ he=>xZ vs d e he) h2
theorem GZ(vs:List LV)(e:Ex)(h:iX e=true):iX (rnE vs e)=true:=by
 rw[iX,Bool.and_eq_true] at h⊢
 exact⟨xZ vs 6 e h.1,by rw[zs];exact h.2⟩
end Go.Proofs.YtnjbhgpbgmpkcaaGreatDoor
namespace Go.Proofs.YtnjbhgpbgmpkcaaGreatDoor
open Go Go.Aw
set_option maxRecDepth 100000
set_option maxHeartbeats 4000000
variable (G:aC)
mutual
def Sm.mq:Sm→Nat
 | .mk _ _ a b e=>2+3*bt a+IJ b+IJ e
def IJ:List Sm→Nat
 |[]=>0
 |s::r=>s.mq+IJ r
end
def Fd.mq(f:Fd):Nat:=1+f.params.length+IJ f.body
end Go.Proofs.YtnjbhgpbgmpkcaaGreatDoor
namespace Go.Proofs.YtnjbhgpbgmpkcaaGreatDoor
open Go Go.Aw
set_option maxRecDepth 100000
set_option maxHeartbeats 4000000
abbrev Ix:Nat:=0
def GY:List PV:=[.int .i64 0,.int .i64 0,.int .i64 0,.int .i64 1,.int .i64 2,.int .i64 3,.int .i64 255,.int .i64 16,.int .i64 7]
variable (G:aC)
end Go.Proofs.YtnjbhgpbgmpkcaaGreatDoor
namespace Go.Proofs.YtnjbhgpbgmpkcaaGreatDoor
open Go Go.Aw
set_option maxRecDepth 100000
set_option maxHeartbeats 4000000
variable (G:aC)
variable (hT:G Ix=some GY)
include hT
omit hT
theorem CZ{h:List AO}{id:Nat}{l:List Int}(e:h[id]?=some (ug l)){n:Nat}(hn:n=l.length):OwnL true h [.sl id 1 0 n] [rn l] [id]:=by
 subst hn
 have hf:∀l:List Int,OwnL true h (l.map fun w=>[AV.p (.int .i64 w)]).flatten (l.map fun w=>[PV.int .i64 w]).flatten []:=by
  intro l
  induction l with
  |nil=>exact .nil
  |cons w r ih=>exact .p _ (fun _=>rfl) ih
 have:RowOwn true h id 1 (l.map fun w=>[.p (.int .i64 w)]) (l.map fun w=>[.int .i64 w]) []:=⟨e,by simp,by simp,by simp,hf l,by simp⟩
 exact this.tree (by simp)
include hT
end Go.Proofs.YtnjbhgpbgmpkcaaGreatDoor
namespace Go.Proofs.YtnjbhgpbgmpkcaaGreatDoor
open Go Go.Aw
set_option maxRecDepth 100000
set_option maxHeartbeats 4000000
theorem AC.shelfNil{P:Program}{G:aC}{f:FuncId}{h:List AO}{rv:AV}{r:Value}(hf:gP P f=true)(hr:∀(W:World) (S:Nat→Prop) (φ:Aw.Place) (n:Nat),VRel W S φ n rv r)
 (H:∀W:World,Calls P f #[.slice none 0 0] W fun e W'=>e= .returned r∧W'=W):AC P G f [.nils] h fun x h'=>x= .ret rv∧h'=h:=by
 refine⟨hf,fun W S φ vs hH hA=>?_⟩
 have hs1:vs.size=1:=hA.1
 obtain⟨v0,rfl⟩:∃v0,vs=#[v0]:=⟨vs[0],by
  apply Array.ext
  ·simp[hs1]
  ·intro i h1 h2
   have:i=0:=by omega
   subst this;rfl⟩
 have hv:=hA.2 0 _ v0 rfl rfl
 cases hv
 refine(H W).mono ?_
 rintro e W' ⟨rfl,rfl⟩
 exact⟨.ret rv,S,φ,h,⟨rfl,rfl⟩,hH,.ret _ _ (hr _ _ _ _),Keep.refl hH⟩
theorem rS:∀h:List AO,Cuts h h
 |[]=>trivial
 |_::r=>⟨.inl rfl,rS r⟩
theorem zg:∀{h:List AO} {id sz:Nat} {es:List (List AV)} (k:Nat),h[id]?=some (.row sz es)→Cuts h (h.set id (.row sz (es.take k)))
 |[],_,_,_,_,e=>by simp at e
 |o::r,0,sz,es,k,e=>by
  simp at e;subst e
  exact⟨.inr ⟨sz,es,k,rfl,rfl⟩,rS r⟩
 |o::r,id+1,sz,es,k,e=>⟨.inl rfl,zg k (by simpa using e)⟩
variable (G:aC)
theorem CU(h:List AO):AC Tryz.prog G (lays189_ren.f 189) [.nils] h fun x h'=>x= .ret (.tup [])∧h'=h:=
 AC.shelfNil (r:= .tuple #[]) (by kernel_rfl) (fun _ _ _ _=> .tup [] #[] rfl (fun j c v e=>by simp at e)) fun W=>Any.slices_Sort_int_none Ce none 0 W
theorem xQ(h:List AO):AC Tryz.prog G (lays20_ren.f 20) [.nils] h fun x h'=>x= .ret .nils∧h'=h:=
 AC.shelfNil (r:= .slice none 0 0) (by kernel_rfl) (fun _ _ _ _=> .nils) fun W=>Any.slices_Compact_int_empty EJ none 0 W
def tT(l:List Fd)(out:List Int)(x:Sm × Nat):List Int:=(ca x.1.args).foldl (gy l) out
theorem Br{out:List Int}{a b:Nat}(h:mm out b)(hab:a≤b):mm out a:=by unfold mm at*;omega
theorem ul(l:List Fd):∀out (s:Sm) (d k:Nat),mm out (k+s.own)→mm (tT l out (s,d)) k:=by
 intro out s d k h
 have:=qD s.args
 exact nj (qq l) s.args out k (Br h (by unfold Sm.own;omega))
theorem zK(l:List Fd)(hl:l.length≤1073741824):∀out (s:Sm) (d k id:Nat) h,mm out (k+s.own)→s.sz≤1073741824→DK l out id h→
 AC Tryz.prog G dX (.agg (s.cs.map .p):: .p (.int .i64 (d:Nat))::[.ptr 1 1 0 0,.ptr 0 1 0 0]) h fun x h'=>x= .ret (.tup [])∧(cHV dX l).Left id h (tT l out (s,d)) h':=by
 intro out s d k id h hk hz hI
 have hcs:=s.cs_eq
 have hsz:=s.sz_eq
 have hal:=bi s.args
 have hap:=qD s.args
 have hxl:exL s.args= .lst 4 (s.args.map Ex.cs):=rfl
 have hlen:=(cHV aI l).len hI
 have hn2:2≤h.length:=hlen.1
 have hid:id<h.length:=hlen.2
 have hk0:mm out (k+bt s.args):=Br hk (by unfold Sm.own;omega)
 refine AC.go se ?_
 simp-implicitDefEqProofs[lr,hcs,hxl]
 refine aN (fun a:HS=>al 19 [(2,.ptr 1 1 0 0),(3,.ptr 0 1 0 0),(9,.p (exL s.args)),(10,.p (.int .i64 s.args.length)),(11,.p (.int .i64 a.i))])
  (fun a=>a.h) (fun a=>a.i≤s.args.length∧DK l ((ca (s.args.take a.i)).foldl (gy l) out) a.id a.h∧h.length<a.h.length∧(∀i,i<h.length→2≤i→i≠id→a.h[i]?=h[i]?)∧(a.id=id∨h.length≤a.id)) (fun a=>s.args.length-a.i) ⟨0,id,h++[.row 5 [[.p (.int .i64 s.op),.p (.str s.name),.p (exL s.args),.p (smL s.body),.p (smL s.els)]]]⟩ ⟨Nat.zero_le _,(cHV aI l).more hI _,by simp,fun i a1 a2 a3=>List.getElem?_append_left a1,.inl rfl⟩ ?_ ?_
 ·exact cS (by simp) (by simp[below,hxl];omega)
 rintro⟨i,idc,hc⟩ ⟨hil,hIc,hlc,hkc,hic⟩
 simp only at hil hIc hlc hkc hic
 simp-implicitDefEqProofs[hxl]
 refine bc (fun hcc=>?_) (fun hcc=>?_)
 ·simp at hcc
  have hg:=List.getElem?_eq_getElem hcc
  have hks:=bj (List.getElem_mem hcc)
  have hkc2:=s.args[i].cs_eq
  have hT:s.args.take (i+1)=s.args.take i++[s.args[i]]:=an hcc
  have hsum:bt s.args=bt (s.args.take i)+(s.args[i].parts+bt (s.args.drop (i+1))):=by
   have e1:bt s.args=bt (s.args.take i)+bt (s.args.drop i):=by rw[←eU,List.take_append_drop]
   have e2:bt (s.args.drop i)=s.args[i].parts+bt (s.args.drop (i+1)):=by rw[List.drop_eq_getElem_cons hcc,bt]
   omega
  have hic2:mm ((ca (s.args.take i)).foldl (gy l) out) (k+bt (s.args.drop (i+1))+s.args[i].parts):=
   nj (qq l) _ _ _ (by rw[show k+bt (s.args.drop (i+1))+s.args[i].parts+bt (s.args.take i)=k+bt s.args by omega];exact hk0)
  have hA:=fun os=>El G (cHV aI l) (gy l) mm 1073741824 (Nat.le_refl _) (qq l) (vM G l hl) 1073741825 s.args[i] (by omega) (by omega) _ _ idc (hc++os) hic2 ((cHV aI l).more hIc os)
  have hf:(ca (s.args.take (i+1))).foldl (gy l) out=s.args[i].pre.foldl (gy l) ((ca (s.args.take i)).foldl (gy l) out):=by
   rw[hT,lP,List.foldl_append,ca,ca,List.append_nil]
  have hF:(cHV aI l).F=aI:=rfl
  have hC:(cHV aI l).caps=[.ptr 1 1 0 0,.ptr 0 1 0 0]:=rfl
  rw[hkc2,hF,hC] at hA
  simp-implicitDefEqProofs[hg,hkc2]
  refine(hA _).mono ?_
  rintro r h3 ⟨rfl,id3,M1,M2,M3,M4⟩
  rw[List.length_append] at M2 M3 M4
  simp only[List.length_cons,List.length_nil] at M2 M3 M4
  have M3':∀i,i<hc.length+(0+1)→2≤i→i≠idc→h3[i]?=_:=M3
  simp-implicitDefEqProofs[aa]
  refine⟨⟨i+1,id3,h3⟩,⟨hcc,by rw[hf];exact M1,by show h.length<h3.length;omega,fun j a1 a2 a3=>?_,?_⟩,by show s.args.length-(i+1)<s.args.length-i;omega,cS (by show h.length≤h3.length;omega) ?_⟩
  ·show h3[j]?=h[j]?
   rw[M3' j (by omega) a2 (by omega),List.getElem?_append_left (by omega),hkc j a1 a2 a3]
  ·show id3=id∨h.length≤id3
   omega
  ·simp[below,hxl,w1 (i:=i) (by omega)]
   omega
 ·simp at hcc
  have hie:i=s.args.length:=by omega
  subst hie
  rw[List.take_length] at hIc
  simp-implicitDefEqProofs[]
  exact⟨idc,hIc,by omega,hkc,by omega⟩
theorem uR(l:List Fd):∀(xs:List (Sm × Nat)) (out:List Int),xs.foldl (tT l) out=(xs.flatMap fun x=>ca x.1.args).foldl (gy l) out
 |[],out=>rfl
 |x::r,out=>by rw[List.foldl_cons,uR l r,List.flatMap_cons,List.foldl_append];rfl
theorem sy(l:List Fd)(bd:List Sm):(aW 1 bd).foldl (tT l) []=kh l bd:=by
 rw[uR,uQ];rfl
def qO(l:List Fd)(bd:List Sm):List Int:=Lib.compact ((kh l bd).mergeSort fun x y=>decide (x≤y))
theorem CP(l:List Fd)(hz:aO l≤1073741824){k:Nat}{f:Fd}(hk:l[k]?=some f):AC Tryz.prog G gT [.agg [.p (fdL l)],.p (.int .i64 k)] [] (MkW di true [rn (qO l f.body)]):=by
 have hll:=bX l
 have hfm:=cg (List.mem_of_getElem? hk)
 have hfz:f.sz=1+f.name.length+(f.params.length+(f.params.map List.length).sum)+am f.body:=rfl
 have hfl:fdL l= .lst 3 (l.map Fd.cs):=rfl
 have hcs:f.cs=[.str f.name,au f.params,smL f.body]:=rfl
 have hin:∀xs,kD xs=ug xs:=fun _=>rfl
 generalize hS:(kh l f.body).mergeSort (fun x y=>decide (x≤y))=S
 have hSl:S.length=(kh l f.body).length:=by rw[←hS,List.length_mergeSort]
 have hcl:=ye S
 have hcnt:mm (kh l f.body) 0:=by
  rw[←sy]
  exact oD (ul l) f.body 1 [] 0 (by unfold mm;simp;omega)
 have hnum:(kh l f.body).length≤1099511627776:=by unfold mm at hcnt;omega
 have key:AC Tryz.prog G gT [.agg [.p (fdL l)],.p (.int .i64 k)] [] fun x h=>(x= .ret .nils∧kh l f.body=[])∨∃id t,x= .ret (.sl id 1 0 (Lib.compact S).length)∧h[id]?=some (kD (Lib.compact S++t)):=by
  refine AC.go uy ?_
  simp-implicitDefEqProofs[nb,hfl,hk,hcs]
  refine(EF G (cHV dX l) (tT l) mm 1073741824 (Nat.le_refl _) (ul l) (fun st s d k id h=>zK G l (by omega) st s d k id h) 1073741825 f.body (by omega) (by omega) 1 (by omega) [] 0 0 [.row 1 [[.p (fdL l)]],.row 1 [[.nils]]] (by unfold mm;simp;omega) ⟨rfl,by simp,.inl ⟨rfl,rfl,rfl⟩⟩).mono ?_
  rintro r h ⟨rfl,id,L1,L2,L3,L4⟩
  rw[sy] at L1
  obtain⟨h0,h2,⟨hn,rfl,h1⟩|⟨hn,hid,h1,hr⟩⟩:DK l (kh l f.body) id h:=L1
  ·simp-implicitDefEqProofs[aa,h1]
   refine(CU G h).mono ?_
   rintro r h' ⟨rfl,rfl⟩
   simp-implicitDefEqProofs[aa,h1]
   refine(xQ G h').mono ?_
   rintro r h'' ⟨rfl,rfl⟩
   simp-implicitDefEqProofs[aa]
   exact hn
  ·have hidl:=(List.getElem?_eq_some_iff.1 hr).1
   simp-implicitDefEqProofs[aa,h1]
   refine(Jo G hr hn (by omega)).mono ?_
   rintro r h' ⟨rfl,rfl⟩
   rw[hS]
   have hne:id≠1:=by omega
   have hC:=Ds G (h:=h.set id (kD S)) (id:=id) (xs:=S) (by simp[hidl]) (by intro e;rw[e] at hSl;simp at hSl;exact hn (List.length_eq_zero_iff.1 hSl.symm)) (by omega) hcl
   rw[hSl] at hC
   simp-implicitDefEqProofs[aa,h1,List.getElem?_set_ne hne]
   refine hC.mono ?_
   rintro r h'' ⟨rfl,rfl⟩
   simp-implicitDefEqProofs[aa]
   exact⟨List.replicate ((kh l f.body).length-(Lib.compact S).length) 0,by simp[hidl]⟩
 refine key.wk (fun t v h hh=>?_) fun v h hh=>?_
 ·rcases hh with⟨e,_⟩|⟨_,_,e,_⟩<;>cases e
 have hO:qO l f.body=Lib.compact S:=by rw[qO,hS]
 rw[hO]
 rcases hh with⟨e,hn⟩|⟨id,t,e,hid⟩
 ·cases e
  have:S=[]:=by rw[hn] at hSl;exact List.length_eq_zero_iff.1 (by simpa using hSl)
  rw[this]
  exact⟨.nils,h,tp (rS h),[.nils],[],rfl,.nils 1 .nil,List.nodup_nil⟩
 ·cases e
  have hidl:=(List.getElem?_eq_some_iff.1 hid).1
  refine⟨_,_,tp (zg (Lib.compact S).length hid),[.sl id 1 0 (Lib.compact S).length],[id],rfl,CZ ?_ rfl,by simp⟩
  rw[List.getElem?_set_self hidl]
  simp[ug,←List.map_take]
end Go.Proofs.YtnjbhgpbgmpkcaaGreatDoor
namespace Go.Proofs.YtnjbhgpbgmpkcaaGreatDoor
open Go Go.Aw
set_option maxRecDepth 100000
set_option maxHeartbeats 4000000
theorem yU(l:List Fd)(k:Int):(dO l k).length≤l.length:=by
 unfold dO
 split
 ·rename_i h
  split
  ·rename_i f hf
   have h1:=yr l f.body k.toNat
   have h2:=(List.getElem?_eq_some_iff.1 hf).1
   have:gh l f.body k.toNat=BG l f.body k.toNat:=rfl
   rw[this];omega
  ·simp
 ·simp
variable (G:aC) (hK:G fC=some ff) (hS:G db=some [.tbl opK opV])
include hK hS
theorem Bc(l:List Fd)(hz:aO l≤1073741824)(k:Int):AC Tryz.prog G eB [.agg [.p (fdL l)],.p (.int .i64 k)] [] (MkW di true [rn (xi (dO l k))]):=by
 refine AC.go ti ?_
 have hll:=bX l
 have hfl:fdL l= .lst 3 (l.map Fd.cs):=rfl
 have hw:IntKind.i64.wrap ((l.length:Int)-1)=(l.length:Int)-1:=ah (by omega) (by omega)
 simp-implicitDefEqProofs[mF]
 refine(AQ G hK hS l hz).use ?_
 by_cases h0:bD l=0
 case neg=>
  have:dO l k=[]:=if_neg (fun h=>h0 h.1)
  rw[this]
  simp-implicitDefEqProofs[h0]
  exact⟨[.nils],[],rfl,.nils 1 .nil,List.nodup_nil⟩
 simp-implicitDefEqProofs[h0,hfl,hw]
 refine(jU G _ _ _).use ?_
 by_cases h1:inR k 0 ((l.length:Int)-1)=true
 case neg=>
  have h1':inR k 0 ((l.length:Int)-1)=false:=by simpa using h1
  have:dO l k=[]:=if_neg (fun h=>h1 h.2)
  rw[h1',this]
  simp-implicitDefEqProofs[]
  exact⟨[.nils],[],rfl,.nils 1 .nil,List.nodup_nil⟩
 have hk:0≤k∧k≤(l.length:Int)-1:=by simpa[inR] using h1
 obtain⟨n,rfl⟩:∃n:Nat,k=n:=⟨k.toNat,by omega⟩
 have hn:n<l.length:=by omega
 have hg:=List.getElem?_eq_getElem hn
 have hc:dO l (n:Int)=gh l l[n].body n:=by
  rw[dO,if_pos ⟨h0,h1⟩];simp only[Int.toNat_natCast,hg]
 have hA:=fun h:List AO=>AC.mkLift me (CP G l hz hg) (h:=h) (by simp)
 have hO:qO l l[n].body=xi (gh l l[n].body n):=DJ h0 hg
 rw[hO] at hA
 rw[h1,hc]
 generalize xi (gh l l[n].body n)=ys at*
 simp-implicitDefEqProofs[hfl]
 refine(hA _).mono ?_
 rintro x h2 ⟨vs,I,os,rfl,rfl,ho,nd,hf⟩
 obtain⟨v,rfl⟩:=eX ho
 simp-implicitDefEqProofs[aa,di]
 exact⟨[v],I,rfl,ho,nd⟩
theorem tJ(l:List Fd)(hz:aO l≤1073741824)(k:Int):VF Tryz.prog G eB [.agg [.p (fdL l)],.p (.int .i64 k)] (.p (rn (xi (dO l k)))):=
 AC.mkFreeze (w:=di) (qs:=[_]) me (Bc G hK hS l hz k)
end Go.Proofs.YtnjbhgpbgmpkcaaGreatDoor
namespace Go.Proofs.YtnjbhgpbgmpkcaaGreatDoor
open Go Go.Aw
set_option maxRecDepth 100000
set_option maxHeartbeats 4000000
theorem Gb(fns:List Fd)(k b:Nat)(l:List Sm)(w:WS):(cG fns k b l w).isEmpty=l.isEmpty:=by cases l<;>rfl
theorem CJ(vs:List LV)(l:List Ex):(match dj vs l with|a::_=>decide (a.op=13)|[]=>false)=(match l with|a::_=>decide (a.op=13)|[]=>false):=by
 cases l with
 |nil=>rfl
 |cons a r=>cases a;rfl
theorem Eg(fns:List Fd)(k b:Nat)(s:Sm)(w:WS)(h:fY s=true):fY (rnS fns k b s w)=true:=by
 obtain⟨o,nm,a,bd,el⟩:=s
 rw[rnS]
 simp only[fY,Sm.op,Sm.name,Sm.args,Sm.body,Sm.els,Gb,ty,CJ] at h⊢
 have hall:a.all iX=true→(dj w.vs a).all iX=true:=ua fun e _ he=>GZ w.vs e he
 unfold opN
 by_cases h1:o=1
 ·subst h1
  have hnd:cV 1=true:=rfl
  rw[hnd] at h⊢
  simp only[if_true,Bool.true_or,Bool.and_true,Bool.and_eq_true,beq_iff_eq] at h⊢
  obtain⟨⟨⟨⟨⟨p1,p2⟩,p3⟩,p4⟩,p5⟩,p6⟩:=h
  exact⟨⟨⟨⟨⟨p1,(uM _).symm⟩,hall p3⟩,p4⟩,p5⟩,p6⟩
 ·by_cases h2:o=2
  ·subst h2
   have hnd:cV 2=true:=rfl
   rw[hnd] at h⊢
   simp only[if_neg h1,if_true,Bool.true_or,Bool.and_true,Bool.and_eq_true,beq_iff_eq] at h⊢
   obtain⟨⟨⟨⟨⟨p1,p2⟩,p3⟩,p4⟩,p5⟩,p6⟩:=h
   exact⟨⟨⟨⟨⟨p1,(wL p2.symm).symm⟩,hall p3⟩,p4⟩,p5⟩,p6⟩
  ·simp only[if_neg h1,if_neg h2,Bool.and_eq_true] at h⊢
   obtain⟨⟨⟨⟨⟨p1,p2⟩,p3⟩,p4⟩,p5⟩,p6⟩:=h
   refine⟨⟨⟨⟨⟨p1,p2⟩,hall p3⟩,?_⟩,p5⟩,p6⟩
   cases a with
   |nil=>exact p4
   |cons x r=>cases x;exact p4
theorem DV(fns:List Fd)(k:Nat):∀(d:Nat) (s:Sm),aH d s=true→∀(b:Nat) (w:WS),aH d (rnS fns k b s w)=true:=by
 intro d
 induction d with
 |zero=>intro s h;cases h
 |succ d ih=>
  have hl:∀(l:List Sm) (b:Nat) (w:WS),l.all (aH d)=true→(cG fns k b l w).all (aH d)=true:=by
   intro l
   induction l with
   |nil=>intro b w _;rfl
   |cons s r ihl=>
    intro b w h
    rw[List.all_cons,Bool.and_eq_true] at h
    rw[cG,List.all_cons,Bool.and_eq_true]
    exact⟨ih s h.1 b w,ihl b _ h.2⟩
  intro s h b w
  have hh:=Eg fns k b s w
  obtain⟨o,nm,a,bd,el⟩:=s
  rw[aH,Bool.and_eq_true,Bool.and_eq_true] at h
  obtain⟨⟨h1,h2⟩,h3⟩:=h
  have hh:=hh h1
  rw[rnS] at hh⊢
  rw[aH,Bool.and_eq_true,Bool.and_eq_true]
  exact⟨⟨hh,hl bd _ _ h2⟩,hl el _ _ h3⟩
theorem uN:∀(ps:List (List UInt8)) (w:WS),(fI ps w).all aD=true
 |[],_=>rfl
 |s::r,w=>by rw[fI,List.all_cons,uM,uN r];rfl
theorem Ih{fns:List Fd}{k:Nat}{f:Fd}(h:ig f=true):ig (rnF fns k f)=true:=by
 rw[ig,Bool.and_eq_true,Bool.and_eq_true,Bool.and_eq_true] at h⊢
 obtain⟨⟨⟨h1,h2⟩,h3⟩,h4⟩:=h
 refine⟨⟨⟨uN _ _,h2⟩,?_⟩,?_⟩
 ·show decide ((fI f.params _).length≤3)=true
  rw[xW];exact h3
 ·have hl:∀(l:List Sm) (b:Nat) (w:WS),l.all (aH 4)=true→(cG fns k b l w).all (aH 4)=true:=by
   intro l
   induction l with
   |nil=>intro b w _;rfl
   |cons s r ihl=>
    intro b w h
    rw[List.all_cons,Bool.and_eq_true] at h
    rw[cG,List.all_cons,Bool.and_eq_true]
    exact⟨DV fns k 4 s h.1 b w,ihl b _ h.2⟩
  exact hl f.body _ _ h4
theorem Ee(f:Fd):(irF f).name=f.name:=rfl
theorem yP:∀(ps:List (List UInt8)) (m:Scp) (n:Nat),(fg ps m n).1.length=ps.length
 |[],_,_=>rfl
 |s::r,m,n=>by rw[fg];simp[yP r]
theorem Ib(f:Fd):(irF f).params.length=f.params.length:=yP _ _ _
structure Ren (l:List Fd):Prop where
 chk:bD (l.map irF)=0
 ok:dG (l.map irF)=true
 same:(l.map irF).map irF=l.map irF
 stm:fy (l.map irF)=fy l
 vars:∀f∈l,iC (irF f)=iC f
 calls:∀f∈l,∀out,nv (irF f).body out=nv f.body out
theorem AA{l:List Fd}(h:dG l=true):Ren l:=by
 rw[dG,Bool.and_eq_true] at h
 obtain⟨h1,h2⟩:=h
 have hc:=of_decide_eq_true h1
 have hL:=DZ l irF Ee Ib
 obtain⟨hp,hz⟩:=(my l).1 hc
 obtain⟨⟨q1,q2⟩,q3,q4⟩:=(iy l).1 hp
 have hfew:∀f∈l,iC f≤26:=fun f hf=>by
  have:=List.all_eq_true.1 h2 f hf
  exact of_decide_eq_true this
 have hat:∀f∈l,∃k,l[k]?=some f:=fun f hf=>List.mem_iff_getElem?.1 hf
 have hrn:∀f∈l,∃k,(fnW l k f).code=0∧rnF l k f=irF f:=fun f hf=>by
  obtain⟨k,hk⟩:=hat f hf
  exact⟨k,hz k f hk,xM l k f (hz k f hk)⟩
 have hvars:∀f∈l,iC (irF f)=iC f:=fun f hf=>by
  obtain⟨k,_,e⟩:=hrn f hf
  rw[←e]
  show(fI f.params _).length+bS (cG l k 0 f.body _)=_
  rw[xW,qW];rfl
 have hsn:∀f∈l,cW (irF f).body=cW f.body:=fun f hf=>by
  obtain⟨k,_,e⟩:=hrn f hf
  rw[←e]
  exact tu l k f.body 0 _
 have hstm:fy (l.map irF)=fy l:=by
  rw[fy,fy,List.map_map]
  congr 1
  exact List.map_congr_left fun f hf=>hsn f hf
 have hp':bu (l.map irF)=true:=(iy _).2 ⟨by rw[List.length_map];exact⟨q1,q2⟩,fun f hf=>by
  obtain⟨g,hg,rfl⟩:=List.mem_map.1 hf
  obtain⟨k,_,e⟩:=hrn g hg
  rw[←e]
  exact Ih (q3 g hg),by rw[hstm];exact q4⟩
 have hre:∀(k:Nat) (f:Fd),l[k]?=some f→(fnW (l.map irF) k (irF f)).code=0∧irF (irF f)=irF f:=fun k f hk=>reF hL (hfew f (List.mem_of_getElem? hk)) (hz k f hk)
 have hchk:bD (l.map irF)=0:=(my _).2 ⟨hp',fun k f hk=>by
  rw[List.getElem?_map,Option.map_eq_some_iff] at hk
  obtain⟨g,hg,rfl⟩:=hk
  exact(hre k g hg).1⟩
 refine⟨hchk,?_,?_,hstm,hvars,fun f hf out=>?_⟩
 ·rw[dG,hchk]
  simp only[decide_true,Bool.true_and,qf,List.all_eq_true]
  intro f hf
  obtain⟨g,hg,rfl⟩:=List.mem_map.1 hf
  rw[hvars g hg]
  exact decide_eq_true (hfew g hg)
 ·rw[List.map_map]
  exact List.map_congr_left fun f hf=>by
   obtain⟨k,hk⟩:=hat f hf
   exact(hre k f hk).2
 ·obtain⟨k,_,e⟩:=hrn f hf
  rw[←e]
  exact tt l k f.body 0 _ out
theorem qU{l:List Fd}(h:dG l=true):ed l=l.map irF:=if_pos h
theorem ID{l:List Fd}(h:dG l=true)(k:Int):xl (ed l) k=xl l k:=by
 have R:=AA h
 have hc:bD l=0:=by rw[dG,Bool.and_eq_true] at h;exact of_decide_eq_true h.1
 rw[qU h,xl,xl,R.chk,hc,List.length_map,List.getElem?_map]
 split
 ·cases hg:l[k.toNat]? with
  |none=>rfl
  |some f=>
   show((iC (irF f):Nat):Int)=_
   rw[R.vars f (List.mem_of_getElem? hg)]
 ·rfl
theorem Ae{l:List Fd}(h:dG l=true)(k:Int):dO (ed l) k=dO l k:=by
 have R:=AA h
 have hc:bD l=0:=by rw[dG,Bool.and_eq_true] at h;exact of_decide_eq_true h.1
 rw[qU h,dO,dO,R.chk,hc,List.length_map,List.getElem?_map]
 split
 ·cases hg:l[k.toNat]? with
  |none=>rfl
  |some f=>
   show gh (l.map irF) (irF f).body k.toNat=gh l f.body k.toNat
   rw[gh,gh]
   refine List.filter_congr fun i hi=>?_
   rw[List.getElem?_map]
   cases hgi:l[i]? with
   |none=>rfl
   |some g=>
    show decide ((irF g).name∈nv (irF f).body [])=decide (g.name∈nv f.body [])
    rw[R.calls f (List.mem_of_getElem? hg)];rfl
 ·rfl
end Go.Proofs.YtnjbhgpbgmpkcaaGreatDoor
namespace Go.Proofs.YtnjbhgpbgmpkcaaGreatDoor
open Go Go.Aw
set_option maxRecDepth 100000
set_option maxHeartbeats 4000000
def si(l:List (List UInt8)):Prop:=l.length≤1000000∧∀s∈l,s.length≤8
theorem eC{h:List AO}{id:Nat}{l:List Ex}(e:h[id]?=some (.row 4 (l.map fun x=>x.cs.map .p))):View h (.sl id 4 0 l.length) (exL l):=by
 have:=kf (h:=h) (id:=id) (sz:=4) (n:=l.length) (ls:=l.map Ex.cs) (by rw[e];simp) (by simp) (fun x hx=>by obtain⟨b,_,rfl⟩:=List.mem_map.1 hx;exact b.cs_len)
 exact this
variable (G:aC)
def ExQ(p n m:Nat)(v:AV)(q:Nat):Prop:=(∃e:Ex,v= .agg (e.cs.map .p)∧e.sz≤n)∧p≤q∧q≤p+m
theorem uz{b:List Int}(hb:Byt b)(hl:b.length≤2000){p:Nat}(hp:p≤1000000000000)(names:List (List UInt8))(hn:si names):AC Tryz.prog G dE [.ptr 0 2 0 0,.p (au names)] [rdO b p] fun x h=>∃v q,x= .ret v∧h=[rdO b q]∧ExQ p 9 2 v q:=by
 refine lX G (AC.go pO ?_)
 have hsl:au names= .lst 1 (names.map fun w=>[.str w]):=rfl
 have fin1:∀(o n:Int) (s:List UInt8) (q:Nat) (rest:List AO),p≤q→q≤p+2→s.length≤8→DP b (ExQ p 9 2) (.ret (.agg [.p (.int .i64 o),.p (.int .i64 n),.p (.str s),.nils])) (rdO b q::rest):=fun o n s q rest h1 h2 hs=>
  ⟨_,rest,q,.agg ((Ex.mk o n s []).cs.map .p),rfl,rfl,.agg (.keep (by simp) (.keep (by simp) (.keep (by simp) (.one (View.nils 4) .nil)))) .nil,⟨_,rfl,by simp[Ex.sz,aY];omega⟩,h1,h2⟩
 have num:∀(q:Nat) (h:List AO),q≤1000000000001→h[0]?=some (rdO b q)→h[2]?=some (ug [0,1,2,3,5,7,15,16,100,255])→_:=fun q h hq h0 h1=>kw G hb hl (p:=q) (by omega) [0,1,2,3,5,7,15,16,100,255] (h:=h) (k:=2) (by simp) (by simp) (by omega) h0 h1
 by_cases hne:names=[]
 ·subst hne
  have hs0:au []= .lst 1 []:=rfl
  simp-implicitDefEqProofs[fQ,hs0]
  refine(num p _ (by omega) rfl rfl).mono ?_
  rintro r h ⟨n,_,rfl,rfl⟩
  simp-implicitDefEqProofs[aa]
  exact fin1 _ _ _ _ _ (by omega) (by omega) (by simp)
 ·have hlen:¬names.length=0:=fun h=>hne (List.eq_nil_of_length_eq_zero h)
  simp-implicitDefEqProofs[fQ,hsl,hne]
  refine(bl G b hb hl p (by omega) 3 _).mono ?_
  rintro r h ⟨k,rfl,rfl,_⟩
  simp-implicitDefEqProofs[aa]
  refine bc (fun hc=>?_) (fun hc=>?_)
  ·simp-implicitDefEqProofs[]
   refine(num (p+1) _ (by omega) rfl rfl).mono ?_
   rintro r h ⟨n,_,rfl,rfl⟩
   simp-implicitDefEqProofs[aa]
   exact fin1 _ _ _ _ _ (by omega) (by omega) (by simp)
  ·simp-implicitDefEqProofs[]
   rw[←hsl]
   refine(Bt G hb hl (by omega) names hne (by have:=hn.1;omega) _).mono ?_
   rintro r h ⟨s,hs,rfl,rfl⟩
   have:=hn.2 s hs
   simp-implicitDefEqProofs[aa]
   exact fin1 _ _ _ _ _ (by omega) (by omega) this
theorem vn{b:List Int}(hb:Byt b)(hl:b.length≤2000)(names:List (List UInt8))(hn:si names):∀(d:Nat),d≤20→∀{p:Nat},p+6*3^d≤1000000000000→AC Tryz.prog G be [.ptr 0 2 0 0,.p (au names),.p (.int .i64 d)] [rdO b p] fun x h=>∃v q,x= .ret v∧h=[rdO b q]∧ExQ p (10*3^d) (6*3^d) v q:=by
 intro d
 induction d with
 |zero=>
  intro _ p hp
  refine lX G (AC.go lb ?_)
  simp-implicitDefEqProofs[eF]
  refine(jj G (uz G hb hl (by omega) names hn) _ (by simp[below])).mono ?_
  rintro r h ⟨v,q,rfl,rfl,⟨e,rfl,he⟩,h1,h2⟩
  have hec:=e.cs_eq
  simp-implicitDefEqProofs[aa,hec]
  exact⟨_,_,q,.agg (e.cs.map .p),rfl,rfl,.agg (by rw[hec];exact gQ (by simp)) .nil,⟨e,rfl,by omega⟩,h1,by omega⟩
 |succ d ih=>
  intro hd p hp
  have hpow:3^(d+1)=3*3^d:=by rw[Nat.pow_succ];omega
  have h1p:1≤3^d:=Nat.one_le_pow _ _ (by omega)
  have ih:=fun{p:Nat} (hp:p+6*3^d≤1000000000000)=>ih (by omega) (p:=p) hp
  rw[hpow] at hp⊢
  generalize 3^d=t at*
  have hw:IntKind.i64.wrap (d:Int)=(d:Int):=ah (by omega) (by omega)
  have leaf:∀(q:Nat) (rest:List AO),p≤q→q≤p+3→AC Tryz.prog G dE [.ptr 0 2 0 0,.p (au names)] (rdO b q::rest) fun x h=>∃v q',x= .ret v∧h=rdO b q'::rest∧ExQ q 9 2 v q':=fun q rest _ _=>jj G (uz G hb hl (by omega) names hn) rest (by simp[below])
  have sub:∀(q:Nat) (rest:List AO),p≤q→q≤p+6+6*t→AC Tryz.prog G be [.ptr 0 2 0 0,.p (au names),.p (.int .i64 d)] (rdO b q::rest) fun x h=>∃v q',x= .ret v∧h=rdO b q'::rest∧ExQ q (10*t) (6*t) v q':=fun q rest _ _=>jj G (ih (by omega)) rest (by simp[below])
  refine lX G (AC.go lb ?_)
  have leafCase:∀(e:Ex) (q:Nat) (rest:List AO),e.sz≤9→p≤q→q≤p+5→DP b (ExQ p (10*(3*t)) (6*(3*t))) (.ret (.agg (e.cs.map .p))) (rdO b q::rest):=fun e q rest h1 h2 h3=>
   ⟨_,_,q,.agg (e.cs.map .p),rfl,rfl,.agg (by rw[e.cs_eq];exact gQ (by simp)) .nil,⟨e,rfl,by omega⟩,h2,by omega⟩
  have bin:∀(o:Int) (e1 e2:Ex) (q:Nat) (rest:List AO) (k:Nat),(rdO b q::rest)[k+1]?=some (.row 4 [e1.cs.map .p,e2.cs.map .p])→e1.sz≤10*t→e2.sz≤10*t→p≤q→q≤p+6*(3*t)→DP b (ExQ p (10*(3*t)) (6*(3*t))) (.ret (.agg [.p (.int .i64 o),.p (.int .i64 0),.p (.str []),.sl (k+1) 4 0 2])) (rdO b q::rest):=fun o e1 e2 q rest k hk h1 h2 h3 h4=>
   ⟨_,rest,q,.agg ((Ex.mk o 0 [] [e1,e2]).cs.map .p),rfl,rfl,.agg (.keep (by simp) (.keep (by simp) (.keep (by simp) (.one (eC (l:=[e1,e2]) (by simpa using hk)) .nil)))) .nil,⟨_,rfl,by simp[Ex.sz,aY];omega⟩,h3,h4⟩
  have una:∀(o:Int) (e1:Ex) (q:Nat) (rest:List AO) (k:Nat),(rdO b q::rest)[k+1]?=some (.row 4 [e1.cs.map .p])→e1.sz≤10*t→p≤q→q≤p+6*(3*t)→DP b (ExQ p (10*(3*t)) (6*(3*t))) (.ret (.agg [.p (.int .i64 o),.p (.int .i64 0),.p (.str []),.sl (k+1) 4 0 1])) (rdO b q::rest):=fun o e1 q rest k hk h1 h3 h4=>
   ⟨_,rest,q,.agg ((Ex.mk o 0 [] [e1]).cs.map .p),rfl,rfl,.agg (.keep (by simp) (.keep (by simp) (.keep (by simp) (.one (eC (l:=[e1]) (by simpa using hk)) .nil)))) .nil,⟨_,rfl,by simp[Ex.sz,aY];omega⟩,h3,h4⟩
  by_cases hd0:d=0
  ·subst hd0
   simp-implicitDefEqProofs[eF]
   refine(leaf p _ (by omega) (by omega)).mono ?_
   rintro r h ⟨v,q,rfl,rfl,⟨e,rfl,he⟩,h1,h2⟩
   have hec:=e.cs_eq
   simp-implicitDefEqProofs[aa,hec]
   have:=leafCase e q [.row 4 [e.cs.map .p]] he h1 (by omega)
   rw[hec] at this
   exact this
  have hd2:¬(d:Int)+1<2:=by omega
  simp-implicitDefEqProofs[eF,hd2]
  refine(bl G b hb hl p (by omega) 4 _).mono ?_
  rintro r h ⟨k1,rfl,rfl,_⟩
  simp-implicitDefEqProofs[aa]
  refine bc (fun hc=>?_) (fun hc=>?_)
  ·simp-implicitDefEqProofs[]
   refine(leaf (p+1) _ (by omega) (by omega)).mono ?_
   rintro r h ⟨v,q,rfl,rfl,⟨e,rfl,he⟩,h1,h2⟩
   have hec:=e.cs_eq
   simp-implicitDefEqProofs[aa,hec]
   have:=leafCase e q [.row 4 [e.cs.map .p]] he (by omega) (by omega)
   rw[hec] at this
   exact this
  simp-implicitDefEqProofs[]
  refine(bl G b hb hl (p+1) (by omega) 7 _).mono ?_
  rintro r h ⟨k2,rfl,rfl,_⟩
  simp-implicitDefEqProofs[aa]
  refine bc (fun hc=>?_) (fun hc=>?_)
  ·simp-implicitDefEqProofs[]
   refine(kw G hb hl (p:=p+2) (by omega) [11,12,11] (k:=2) (by simp) (by simp) (by omega) rfl rfl).mono ?_
   rintro r h ⟨n,_,rfl,rfl⟩
   simp-implicitDefEqProofs[aa,hw]
   refine(sub (p+3) _ (by omega) (by omega)).mono ?_
   rintro r h ⟨v,q,rfl,rfl,⟨e,rfl,he⟩,h1,h2⟩
   have hec:=e.cs_eq
   simp-implicitDefEqProofs[aa,hec]
   exact una n e q _ 2 (by rw[hec];rfl) he (by omega) (by omega)
  ·simp-implicitDefEqProofs[]
   refine(kw G hb hl (p:=p+2) (by omega) [3,3,4,5,6,7,8,9,10] (k:=2) (by simp) (by simp) (by omega) rfl rfl).mono ?_
   rintro r h ⟨n,_,rfl,rfl⟩
   simp-implicitDefEqProofs[aa,hw]
   refine(sub (p+3) _ (by omega) (by omega)).mono ?_
   rintro r h ⟨v,q,rfl,rfl,⟨e,rfl,he⟩,h1,h2⟩
   have hec:=e.cs_eq
   simp-implicitDefEqProofs[aa,hec,hw]
   refine(sub q _ (by omega) (by omega)).mono ?_
   rintro r h ⟨v,q2,rfl,rfl,⟨e2,rfl,he2⟩,h3,h4⟩
   have hec2:=e2.cs_eq
   simp-implicitDefEqProofs[aa,hec2]
   exact bin n e e2 q2 _ 2 (by rw[hec,hec2];rfl) he he2 (by omega) (by omega)
end Go.Proofs.YtnjbhgpbgmpkcaaGreatDoor
namespace Go.Proofs.YtnjbhgpbgmpkcaaGreatDoor
open Go Go.Aw
set_option maxRecDepth 100000
set_option maxHeartbeats 4000000
def cJ(fns:List Fd)(vs:List (List UInt8))(next left:Int):List AV:=[.ptr 0 2 0 0,slE 2 3 (aJ fns),.p (au vs),.p (.int .i64 next),.p (.int .i64 left)]
def HG(b:List Int)(p:Nat)(fns:List Fd)(vs:List (List UInt8))(next left:Int):List AO:=[rdO b p,.row 5 [cJ fns vs next left],br 3 (aJ fns)]
def DG(b:List Int)(fns:List Fd)(Q:AV→Nat→List (List UInt8)→Int→Int→Prop)(x:ARes)(h:List AO):Prop:=
 ∃v rest q vc v1 vs next left,x= .ret v∧h=rdO b q:: .row 5 [[.ptr 0 2 0 0,slE 2 3 (aJ fns),vc,.p (.int .i64 next),.p (.int .i64 left)]]::br 3 (aJ fns)::rest∧
  Fzs (.dead:: .dead:: .dead::rest) 3 [vc] [.p (au vs)]∧Fzs (.dead:: .dead:: .dead::rest) 3 [v] [v1]∧Q v1 q vs next left
def PG(b:List Int)(fns:List Fd)(Q:AV→Nat→List (List UInt8)→Int→Int→Prop)(rest:List AO)(x:ARes)(h:List AO):Prop:=
 ∃v q vs next left,x= .ret v∧h=rdO b q:: .row 5 [cJ fns vs next left]::br 3 (aJ fns)::rest∧Q v q vs next left
variable (G:aC)
theorem kH{f:FuncId}{args:List AV}{b:List Int}{p:Nat}{fns:List Fd}{vs:List (List UInt8)}{next left:Int}{Q:AV→Nat→List (List UInt8)→Int→Int→Prop}(H:AC Tryz.prog G f args (HG b p fns vs next left) (DG b fns Q)):
 AC Tryz.prog G f args (HG b p fns vs next left) (PG b fns Q []):=by
 refine H.frz 3 (by simp[HG]) (fun t v h ⟨_,_,_,_,_,_,_,_,e,_⟩=>by cases e) ?_
 rintro v h ⟨v0,rest,q,vc,v1,vs',n',l',e,rfl,hc,hf,r⟩
 cases e
 refine⟨v1,HG b q fns vs' n' l',by simp,rfl,hf,.same (bz _ _ _) (.one ?_ (.same (kz _ _) (.nil _))),v1,q,vs',n',l',rfl,rfl,r⟩
 exact .keep (by simp[below]) (.keep (mb (by omega)) (hc.append (.keep (by simp) (.keep (by simp) .nil))))
theorem GI(b:List Int)(p:Nat)(fns:List Fd)(vs:List (List UInt8))(next left:Int):∀o∈HG b p fns vs next left,okO 3 o:=by
 intro o ho
 simp only[HG,List.mem_cons,List.not_mem_nil,or_false] at ho
 rcases ho with rfl|rfl|rfl
 ·exact bz _ _ _
 ·intro e he
  rw[List.mem_singleton.1 he]
  exact⟨by simp[below],mb (by omega),by simp,by simp,by simp,trivial⟩
 ·exact kz _ _
theorem dp{f:FuncId}{args:List AV}{b:List Int}{p:Nat}{fns:List Fd}{vs:List (List UInt8)}{next left:Int}{Q:AV→Nat→List (List UInt8)→Int→Int→Prop}(H:AC Tryz.prog G f args (HG b p fns vs next left) (PG b fns Q []))(rest:List AO)(ha:ag 3 args):
 AC Tryz.prog G f args (rdO b p:: .row 5 [cJ fns vs next left]::br 3 (aJ fns)::rest) (PG b fns Q rest):=by
 refine(AC.pre H rest ha (GI _ _ _ _ _ _) ?_).mono ?_
 ·rintro x h ⟨v,q,vs',n',l',_,rfl,_⟩;rfl
 ·rintro x h ⟨h1,⟨v,q,vs',n',l',e1,rfl,e2⟩,rfl⟩
  exact⟨v,q,vs',n',l',e1,rfl,e2⟩
def MI(p:Nat)(vs:List (List UInt8))(next left:Int)(v:AV)(q:Nat)(vs':List (List UInt8))(next' left':Int):Prop:=(∃s:List UInt8,v= .p (.str s)∧s.length≤8)∧p≤q∧q≤p+2∧vs'=vs∧next'=next+1∧left'=left
theorem Cg{b:List Int}(hb:Byt b)(hl:b.length≤2000){p:Nat}(hp:p+2≤1000000000000)(fns:List Fd)(vs:List (List UInt8))(hv:si vs){next:Int}(hn: -1≤next)(hn2:next≤1000000000000)(left:Int):
 AC Tryz.prog G gn [.ptr 1 5 0 0] (HG b p fns vs next left) (PG b fns (MI p vs next left) []):=by
 refine kH G (AC.go qc ?_)
 have hw:IntKind.i64.wrap (next+1)=next+1:=ah (by omega) (by omega)
 have hsl:au vs= .lst 1 (vs.map fun w=>[.str w]):=rfl
 simp-implicitDefEqProofs[jV,HG,cJ,hw]
 refine(bl G b hb hl p (by omega) 9 _).mono ?_
 rintro r h ⟨k,rfl,rfl,_⟩
 have fin:∀(s:List UInt8) (q:Nat),s.length≤8→p≤q→q≤p+2→DG b fns (MI p vs next left) (.ret (.p (.str s))) [rdO b q,.row 5 [[.ptr 0 2 0 0,slE 2 3 (aJ fns),.p (au vs),.p (.int .i64 (next+1)),.p (.int .i64 left)]],br 3 (aJ fns)]:=fun s q h1 h2 h3=>
  ⟨_,[],q,_,_,vs,next+1,left,rfl,rfl,.keep (by simp) .nil,.keep (by simp) .nil,⟨s,rfl,h1⟩,h2,h3,rfl,rfl,rfl⟩
 obtain⟨N,hN⟩:∃N:Nat,next+1=N:=⟨(next+1).toNat,by omega⟩
 have hm:N%24<24:=Nat.mod_lt _ (by omega)
 have ht:(N:Int).tmod 24=((N%24:Nat):Int):=rfl
 have hw2:IntKind.i64.wrap (((N%24:Nat):Int)+1)=((N%24+1:Nat):Int):=w1 (by omega)
 rw[hN] at fin⊢
 generalize N%24=m at hm ht hw2
 have hm1:m+1≤24:=by omega
 have h0m:(0:Int)≤(m:Int)+1:=by omega
 by_cases hc:k=0∧vs≠[]
 ·obtain⟨rfl,hne⟩:=hc
  have hpos:0<vs.length:=List.length_pos_iff.2 hne
  simp-implicitDefEqProofs[aa,hsl,hpos]
  rw[←hsl]
  refine(Bt G hb hl (by omega) vs hne (by have:=hv.1;omega) _).mono ?_
  rintro r h ⟨s,hs,rfl,rfl⟩
  simp-implicitDefEqProofs[aa]
  exact fin s _ (hv.2 s hs) (by omega) (by omega)
 ·have hcc:(k=0∧0<vs.length)=False:=by
   simp only[eq_iff_iff,iff_false]
   exact fun⟨a,c⟩=>hc ⟨a,List.length_pos_iff.1 c⟩
  by_cases hk:k=0
  ·have hv0:vs=[]:=by
    by_cases e:vs=[]
    ·exact e
    ·exact absurd ⟨hk,e⟩ hc
   subst hv0
   have hs0:au []= .lst 1 []:=rfl
   simp-implicitDefEqProofs[aa,hs0,hk,ht,hw2,hm1,h0m]
   rw[←hs0]
   refine fin _ (p+1) ?_ (by omega) (by omega)
   simp
   omega
  ·simp-implicitDefEqProofs[aa,hk,ht,hw2,hm1,h0m]
   refine fin _ (p+1) ?_ (by omega) (by omega)
   simp
   omega
def tM(fns:List Fd):Prop:=fns.length≤1000∧∀f∈fns,f.name.length≤8∧f.params.length≤3
def Mw(p:Nat)(vs:List (List UInt8))(next left:Int)(v:AV)(q:Nat)(vs':List (List UInt8))(next' left':Int):Prop:=(∃e:Ex,v= .agg (e.cs.map .p)∧e.sz≤400)∧p≤q∧q≤p+400∧vs'=vs∧next'=next∧left'=left
theorem AW{b:List Int}(hb:Byt b)(hl:b.length≤2000){p:Nat}(hp:p≤1000000000000)(l:List Int)(hne:l≠[])(hll:l.length≤1000000000000)(rest:List AO):
 AC Tryz.prog G aq [.ptr 0 2 0 0,.p (rn l)] (rdO b p::rest) fun x h=>∃n,n∈l∧x= .ret (.p (.int .i64 n))∧h=rdO b (p+1)::rest:=by
 have key:AC Tryz.prog G aq [.ptr 0 2 0 0,.p (rn l)] [rdO b p] fun x h=>∃n,n∈l∧x= .ret (.p (.int .i64 n))∧h=[rdO b (p+1)]:=by
  refine AC.go lK ?_
  have hpos:0<l.length:=List.length_pos_iff.2 hne
  have hnl:rn l= .lst 1 (l.map fun n=>[.int .i64 n]):=rfl
  simp-implicitDefEqProofs[iA,hnl]
  refine(bl G b hb hl p (by omega) l.length []).mono ?_
  rintro r h ⟨m,rfl,rfl,hm⟩
  have hml:m<l.length:=by omega
  have hg:=List.getElem?_eq_getElem hml
  simp-implicitDefEqProofs[aa,hg]
 refine(key.pre rest (by simp[below]) (fun o ho=>by rw[List.mem_singleton.1 ho];exact bz _ _ _) ?_).mono ?_
 ·rintro x h ⟨n,_,_,rfl⟩;rfl
 ·rintro x h ⟨h1,⟨n,e1,e2,rfl⟩,rfl⟩
  exact⟨n,e1,e2,rfl⟩
structure ExS where (es:List Ex) (q:Nat)
theorem kV{b:List Int}(hb:Byt b)(hl:b.length≤2000){p:Nat}(hp:p+1000≤1000000000000)(fns:List Fd)(hf:tM fns)(vs:List (List UInt8))(hv:si vs)(next left:Int){d:Nat}(hd:d≤3):
 AC Tryz.prog G aU [.ptr 1 5 0 0,.p (.int .i64 d)] (HG b p fns vs next left) (PG b fns (Mw p vs next left) []):=by
 refine kH G (AC.go qZ ?_)
 have hpow:3^d≤27:=by
  have:3^d≤3^3:=Nat.pow_le_pow_right (by omega) hd
  omega
 have sub:∀(k:Nat),k≤3→∀(q:Nat) (rest:List AO),p≤q→q≤p+700→AC Tryz.prog G be [.ptr 0 2 0 0,.p (au vs),.p (.int .i64 k)] (rdO b q::rest) fun x h=>∃v q',x= .ret v∧h=rdO b q'::rest∧ExQ q (10*3^k) (6*3^k) v q':=fun k hk q rest _ _=>by
  have:3^k≤3^3:=Nat.pow_le_pow_right (by omega) hk
  exact jj G (vn G hb hl vs hv k (by omega) (by omega)) rest (by simp[below])
 simp-implicitDefEqProofs[ky,HG,cJ]
 refine(sub d hd p _ (by omega) (by omega)).mono ?_
 rintro r h ⟨v,q0,rfl,rfl,⟨e0,rfl,he0⟩,hq1,hq2⟩
 have hec:=e0.cs_eq
 simp-implicitDefEqProofs[aa,hec]
 have finE:∀(e:Ex) (q:Nat) (rest:List AO) (v:AV),Fzs (.dead:: .dead:: .dead::rest) 3 [v] [.agg (e.cs.map .p)]→e.sz≤400→p≤q→q≤p+400→DG b fns (Mw p vs next left) (.ret v) (rdO b q:: .row 5 [[.ptr 0 2 0 0,slE 2 3 (aJ fns),.p (au vs),.p (.int .i64 next),.p (.int .i64 left)]]::br 3 (aJ fns)::rest):=fun e q rest v hz h1 h2 h3=>
  ⟨_,rest,q,_,_,vs,next,left,rfl,rfl,.keep (by simp) .nil,hz,⟨e,rfl,h1⟩,h2,h3,rfl,rfl,rfl⟩
 have fz0:∀rest,Fzs (.dead:: .dead:: .dead::rest) 3 [.agg [.p (.int .i64 e0.op),.p (.int .i64 e0.n),.p (.str e0.name),.p (exL e0.kids)]] [.agg (e0.cs.map .p)]:=fun rest=> .agg (by rw[hec];exact gQ (by simp)) .nil
 by_cases hfe:fns=[]
 ·have h0:aJ fns=[]:=by rw[hfe];rfl
  simp-implicitDefEqProofs[h0]
  rw[←h0]
  have:=finE e0 q0 [.row 4 [[.p (.int .i64 e0.op),.p (.int .i64 e0.n),.p (.str e0.name),.p (exL e0.kids)]],.row 4 [[.p (.int .i64 e0.op),.p (.int .i64 e0.n),.p (.str e0.name),.p (exL e0.kids)]]] _ (fz0 _) (by omega) (by omega) (by omega)
  rw[h0] at this⊢
  exact this
 have hfr:¬aJ fns=[]:=fun h=>hfe (List.map_eq_nil_iff.1 h)
 have hfl:(aJ fns).length=fns.length:=by simp[aJ]
 have hfp:0<fns.length:=List.length_pos_iff.2 hfe
 simp only[fu hfr,dL hfr,hfl] at finE
 rw[show br 3 (aJ fns)= .row 3 (aJ fns) from fu hfr,show slE 2 3 (aJ fns)= .sl 2 3 0 (aJ fns).length from dL hfr,hfl]
 generalize hR:aJ fns=R at*
 simp-implicitDefEqProofs[hfr]
 refine(bl G b hb hl q0 (by omega) 4 _).mono ?_
 rintro r h ⟨k1,rfl,rfl,_⟩
 simp-implicitDefEqProofs[aa]
 refine bc (fun hc=>?_) (fun hc=>?_)
 ·simp-implicitDefEqProofs[]
  exact finE e0 _ _ _ (fz0 _) (by omega) (by omega) (by omega)
 simp-implicitDefEqProofs[hfl]
 refine(bl G b hb hl (q0+1) (by omega) fns.length _).mono ?_
 rintro r h ⟨k2,rfl,rfl,hk2⟩
 have hk:k2<fns.length:=by omega
 have hg:=List.getElem?_eq_getElem hk
 have hgr:R[k2]?=some (fns[k2].cs.map .p):=by rw[←hR,aJ,List.getElem?_map,hg];rfl
 have hfo:=hf.2 _ (List.getElem_mem hk)
 generalize fns[k2]=fd at hg hgr hfo
 have hfc:fd.cs=[.str fd.name,au fd.params,smL fd.body]:=rfl
 have hsp:au fd.params= .lst 1 (fd.params.map fun w=>[.str w]):=rfl
 clear hfl hg
 simp-implicitDefEqProofs[aa,hgr,hk,hfc]
 have hexn:∀(es:List Ex) (e:Ex),exR (es++[e])=exR es++[e.cs.map .p]:=fun es e=>by simp[exR]
 have hRp:∀x∈R,ag 0 x:=by rw[←hR];exact jF fns
 refine aN (fun s:ExS=>al 99 [(8,.p (.int .i64 s.es.length)),(7,.ptr 6 4 0 0),(6,.ptr 5 3 0 0),(4,.ptr 3 4 0 0),(0,.ptr 1 5 0 0)])
  (fun s=>[rdO b s.q,.row 5 [[.ptr 0 2 0 0,.sl 2 3 0 fns.length,.p (au vs),.p (.int .i64 next),.p (.int .i64 left)]],.row 3 R,.row 4 [[.p (.int .i64 0),.p (.int .i64 0),.p (.str []),.nils]],
    .row 4 [[.p (.int .i64 e0.op),.p (.int .i64 e0.n),.p (.str e0.name),.p (exL e0.kids)]],.row 3 [[.p (.str fd.name),.p (au fd.params),.p (smL fd.body)]],.row 4 [[.p (.int .i64 13),.p (.int .i64 0),.p (.str fd.name),slE 7 4 (exR s.es)]],br 4 (exR s.es)])
  (fun s=>s.es.length≤fd.params.length∧aY s.es≤90*s.es.length∧q0≤s.q∧s.q≤q0+2+54*s.es.length) (fun s=>fd.params.length-s.es.length) ⟨[],q0+1+1⟩ ⟨by simp,by simp[aY],by simp only;omega,by simp⟩
  (ic (by simp) (by simp) (by
    intro o h
    simp only[List.mem_cons,List.not_mem_nil,or_false] at h
    rcases h with rfl|rfl|rfl|rfl|rfl|rfl|rfl
    ·exact bz _ _ _
    ·simp[okO,below]
    ·exact bU (fun e he=>hRp e he)
    ·simp[okO,below]
    ·simp[okO,below]
    ·simp[okO,below]
    ·simp[okO,below]) (by simp[below])) ?_
 rintro⟨es,q⟩ ⟨h1,h2,h3,h4⟩
 simp only at h1 h2 h3 h4
 simp-implicitDefEqProofs[hsp]
 refine bc (fun hc=>?_) (fun hc=>?_)
 ·simp at hc
  have hp3:=hfo.2
  simp-implicitDefEqProofs[]
  refine(sub 2 (by omega) q _ (by omega) (by omega)).mono ?_
  rintro r h ⟨v,q2,rfl,rfl,⟨e,rfl,he⟩,hq3,hq4⟩
  have hec:=e.cs_eq
  simp-implicitDefEqProofs[aa,hec]
  have hxl:(exR es).length=es.length:=by simp[exR]
  refine⟨by rw[hxl];omega,⟨es++[e],q2⟩,⟨by simp;omega,by rw[fe];simp[aY];omega,by simp only;omega,by simp;omega⟩,by simp;omega,?_⟩
  rw[hexn,mr _ (by simp),jP _ (by simp),hec]
  refine fk [0,1,2,3,4,5,6,8] (by simp) (by decide) (by decide) (du rfl (bz _ _ _) (cr (by simp[below]) (by simp[ren,bp]) (bs rfl hRp (bs rfl (by simp[below]) (bs rfl (by simp[below]) (bs rfl (by simp[below]) (cr (by simp[below]) (by simp[ren,bp]) (bs rfl (fun x hx=>by
   rcases List.mem_append.1 hx with h|h
   ·exact dM _ x h
   ·rw[List.mem_singleton.1 h];simp) cQ)))))))) ?_
  simp[below,ren,w1 (i:=es.length) (by omega)]
 ·simp at hc
  have hp3:=hfo.2
  have hlen:es.length=fd.params.length:=by omega
  have hxl:(exR es).length=es.length:=by simp[exR]
  have hkids:∀(h:List AO),h[7]?=some (br 4 (exR es))→View h (slE 7 4 (exR es)) (exL es):=fun h hh=>gD hh
  simp-implicitDefEqProofs[]
  refine(bl G b hb hl q (by omega) 2 _).mono ?_
  rintro r h ⟨k3,rfl,rfl,_⟩
  simp-implicitDefEqProofs[aa]
  refine bc (fun hc2=>?_) (fun hc2=>?_)
  ·simp-implicitDefEqProofs[]
   have hcc:(Ex.mk 13 0 fd.name es).cs=[.int .i64 13,.int .i64 0,.str fd.name,exL es]:=Ex.cs_eq _
   exact finE ⟨13,0,fd.name,es⟩ (q+1) _ _ (.agg (by rw[hcc];exact .keep (by simp) (.keep (by simp) (.keep (by simp) (.one (hkids _ rfl) .nil)))) .nil) (by simp[Ex.sz];omega) (by omega) (by omega)
  ·simp-implicitDefEqProofs[]
   refine(AW G hb hl (p:=q+1) (by omega) [3,4,8,10] (by simp) (by simp) _).mono ?_
   rintro r h ⟨n,_,rfl,rfl⟩
   simp-implicitDefEqProofs[aa]
   refine(sub 2 (by omega) (q+1+1) _ (by omega) (by omega)).mono ?_
   rintro r h ⟨v,q2,rfl,rfl,⟨e,rfl,he⟩,hq3,hq4⟩
   have hec:=e.cs_eq
   simp-implicitDefEqProofs[aa,hec]
   have hcc:(Ex.mk 13 0 fd.name es).cs=[.int .i64 13,.int .i64 0,.str fd.name,exL es]:=Ex.cs_eq _
   exact finE ⟨n,0,[],[⟨13,0,fd.name,es⟩,e]⟩ q2 _ _ (.agg (.keep (by simp) (.keep (by simp) (.keep (by simp) (.one (qN (p0:=(Ex.mk 13 0 fd.name es).cs) (p1:=e.cs) rfl (Ex.cs_len _) (Ex.cs_len _) (fun j q a e1 e2=>by
    rw[hcc] at e1
    match j,e1,e2 with
    |0,e1,e2=>cases e1;cases e2;exact .p _
    |1,e1,e2=>cases e1;cases e2;exact .p _
    |2,e1,e2=>cases e1;cases e2;exact .p _
    |3,e1,e2=>cases e1;cases e2;exact hkids _ rfl
    |j+4,e1,e2=>simp at e1) (fun j q a e1 e2=>by
    rw[hec] at e1
    match j,e1,e2 with
    |0,e1,e2=>cases e1;cases e2;exact .p _
    |1,e1,e2=>cases e1;cases e2;exact .p _
    |2,e1,e2=>cases e1;cases e2;exact .p _
    |3,e1,e2=>cases e1;cases e2;exact .p _
    |j+4,e1,e2=>simp at e1)) .nil)))) .nil) (by simp[Ex.sz,aY];omega) (by omega) (by omega)
end Go.Proofs.YtnjbhgpbgmpkcaaGreatDoor
namespace Go.Proofs.YtnjbhgpbgmpkcaaGreatDoor
open Go Go.Aw
set_option maxRecDepth 100000
set_option maxHeartbeats 4000000
variable (G:aC)
def Od(p:Nat)(vs:List (List UInt8))(next left:Int)(v:AV)(q:Nat)(vs':List (List UInt8))(next' left':Int):Prop:=(∃e:Ex,v= .agg (e.cs.map .p)∧e.sz≤410)∧p≤q∧q≤p+401∧vs'=vs∧next'=next∧left'=left
theorem EK{b:List Int}(hb:Byt b)(hl:b.length≤2000){p:Nat}(hp:p+2000≤1000000000000)(fns:List Fd)(hf:tM fns)(vs:List (List UInt8))(hv:si vs)(next left:Int):
 AC Tryz.prog G eO [.ptr 1 5 0 0] (HG b p fns vs next left) (PG b fns (Od p vs next left) []):=by
 refine kH G (AC.go qr ?_)
 simp-implicitDefEqProofs[kG,HG,cJ]
 refine(dp G (kV G hb hl (p:=p) (by omega) fns hf vs hv next left (d:=2) (by omega)) _ (by simp[below])).mono ?_
 rintro r h ⟨v,q,vs',n',l',rfl,rfl,⟨e,rfl,he⟩,h1,h2,rfl,rfl,rfl⟩
 have hec:=e.cs_eq
 simp-implicitDefEqProofs[aa,cJ,hec]
 refine(AW G hb hl (p:=q) (by omega) [16,16,16,8,17,0] (by simp) (by simp) _).mono ?_
 rintro r h ⟨n,_,rfl,rfl⟩
 simp-implicitDefEqProofs[aa]
 have hn:(Ex.mk 1 n [] []).cs=[.int .i64 1,.int .i64 n,.str [],.lst 4 []]:=Ex.cs_eq _
 refine⟨_,[_,_],q+1,_,.agg ((Ex.mk 7 0 [] [e,⟨1,n,[],[]⟩]).cs.map .p),vs',n',l',rfl,rfl,.keep (by simp) .nil,.agg (.keep (by simp) (.keep (by simp) (.keep (by simp) (.one (qN (p0:=e.cs) (p1:=(Ex.mk 1 n [] []).cs) rfl (Ex.cs_len _) (Ex.cs_len _) (fun j q a e1 e2=>?_) (fun j q a e1 e2=>?_)) .nil)))) .nil,⟨_,rfl,by simp[Ex.sz,aY];omega⟩,by omega,by omega,rfl,rfl,rfl⟩
 ·rw[hec] at e1
  match j,e1,e2 with
  |0,e1,e2=>cases e1;cases e2;exact .p _
  |1,e1,e2=>cases e1;cases e2;exact .p _
  |2,e1,e2=>cases e1;cases e2;exact .p _
  |3,e1,e2=>cases e1;cases e2;exact .p _
  |j+4,e1,e2=>simp at e1
 ·rw[hn] at e1
  match j,e1,e2 with
  |0,e1,e2=>cases e1;cases e2;exact .p _
  |1,e1,e2=>cases e1;cases e2;exact .p _
  |2,e1,e2=>cases e1;cases e2;exact .p _
  |3,e1,e2=>cases e1;cases e2;exact View.nils 4
  |j+4,e1,e2=>simp at e1
def LU(p:Nat)(e:Ex)(vs:List (List UInt8))(next left:Int)(v:AV)(q:Nat)(vs':List (List UInt8))(next' left':Int):Prop:=
 ∃s:List UInt8,s.length≤8∧v= .agg ((Sm.mk 1 s [e] [] []).cs.map .p)∧p≤q∧q≤p+2∧vs'=vs++[s]∧next'=next+1∧left'=left
theorem Jj{b:List Int}(hb:Byt b)(hl:b.length≤2000){p:Nat}(hp:p+2≤1000000000000)(fns:List Fd)(vs:List (List UInt8))(hv:si vs){next:Int}(hn: -1≤next)(hn2:next≤1000000000000)(left:Int)(e:Ex):
 AC Tryz.prog G cU [.ptr 1 5 0 0,.agg (e.cs.map .p)] (HG b p fns vs next left) (PG b fns (LU p e vs next left) []):=by
 refine kH G (AC.go lv ?_)
 have hec:=e.cs_eq
 simp-implicitDefEqProofs[iH,HG,cJ,hec]
 refine(dp G (Cg G hb hl hp fns vs hv hn hn2 left) _ (by simp[below])).mono ?_
 rintro r h ⟨v,q,vs',n',l',rfl,rfl,⟨s,rfl,hs⟩,h1,h2,rfl,rfl,rfl⟩
 have hsl:au vs'= .lst 1 (vs'.map fun w=>[.str w]):=rfl
 simp-implicitDefEqProofs[aa,cJ,hsl]
 have hv1:=hv.1
 have hrow:List.take vs'.length (List.map ((fun x=>List.map AV.p x)∘fun w=>[PV.str w]) vs')++[[AV.p (PV.str s)]]=(vs'++[s]).map fun w=>[AV.p (.str w)]:=by
  rw[List.take_of_length_le (by simp)];simp[Function.comp_def]
 have hlen:vs'.length+1=(vs'++[s]).length:=by simp
 refine⟨by omega,by omega,?_⟩
 rw[hrow,hlen]
 have hsm:(Sm.mk 1 s [e] [] []).cs=[.int .i64 1,.str s,exL [e],smL [],smL []]:=Sm.cs_eq _
 refine⟨_,_,q,_,.agg ((Sm.mk 1 s [e] [] []).cs.map .p),vs'++[s],next+1,l',rfl,rfl,.one (iJ rfl) .nil,.agg ?_ .nil,⟨s,hs,rfl,h1,h2,rfl,rfl,rfl⟩⟩
 rw[hsm]
 refine .keep (by simp) (.keep (by simp) (.one ?_ (.one (View.nils 5) (.one (View.nils 5) .nil))))
 exact eC (l:=[e]) (by rw[List.map_singleton,hec];rfl)
theorem JI{b:List Int}(hb:Byt b)(hl:b.length≤2000){p:Nat}(hp:p+2≤1000000000000)(fns:List Fd)(vs:List (List UInt8))(hv:si vs){next:Int}(hn: -1≤next)(hn2:next≤1000000000000)(left:Int)(N:Int):
 AC Tryz.prog G cU [.ptr 1 5 0 0,.agg [.p (.int .i64 1),.p (.int .i64 N),.p (.str []),.nils]] (HG b p fns vs next left) (PG b fns (LU p ⟨1,N,[],[]⟩ vs next left) []):=by
 refine kH G (AC.go lv ?_)
 simp-implicitDefEqProofs[iH,HG,cJ]
 refine(dp G (Cg G hb hl hp fns vs hv hn hn2 left) _ (by simp[below])).mono ?_
 rintro r h ⟨v,q,vs',n',l',rfl,rfl,⟨s,rfl,hs⟩,h1,h2,rfl,rfl,rfl⟩
 have hsl:au vs'= .lst 1 (vs'.map fun w=>[.str w]):=rfl
 simp-implicitDefEqProofs[aa,cJ,hsl]
 have hv1:=hv.1
 have hrow:List.take vs'.length (List.map ((fun x=>List.map AV.p x)∘fun w=>[PV.str w]) vs')++[[AV.p (PV.str s)]]=(vs'++[s]).map fun w=>[AV.p (.str w)]:=by
  rw[List.take_of_length_le (by simp)];simp[Function.comp_def]
 have hlen:vs'.length+1=(vs'++[s]).length:=by simp
 refine⟨by omega,by omega,?_⟩
 rw[hrow,hlen]
 have hsm:(Sm.mk 1 s [⟨1,N,[],[]⟩] [] []).cs=[.int .i64 1,.str s,exL [⟨1,N,[],[]⟩],smL [],smL []]:=Sm.cs_eq _
 refine⟨_,_,q,_,.agg ((Sm.mk 1 s [⟨1,N,[],[]⟩] [] []).cs.map .p),vs'++[s],next+1,l',rfl,rfl,.one (iJ rfl) .nil,.agg ?_ .nil,⟨s,hs,rfl,h1,h2,rfl,rfl,rfl⟩⟩
 rw[hsm]
 refine .keep (by simp) (.keep (by simp) (.one ?_ (.one (View.nils 5) (.one (View.nils 5) .nil))))
 refine View.sl _ _ _ _ [(Ex.mk 1 N [] []).cs] rfl (by simp) (by simp) fun i j e q e' a a1 a2 a3 a4=>?_
 rw[Nat.zero_add] at a3
 match i,a1,a3 with
 |0,a1,a3=>
  cases a1;cases a3
  have hn:(Ex.mk 1 N [] []).cs=[.int .i64 1,.int .i64 N,.str [],.lst 4 []]:=Ex.cs_eq _
  rw[hn] at a2
  match j,a2,a4 with
  |0,e1,e2=>cases e1;cases e2;exact .p _
  |1,e1,e2=>cases e1;cases e2;exact .p _
  |2,e1,e2=>cases e1;cases e2;exact .p _
  |3,e1,e2=>cases e1;cases e2;exact View.nils 4
  |j+4,e1,e2=>simp at e1
 |i+1,a1,a3=>simp at a1
end Go.Proofs.YtnjbhgpbgmpkcaaGreatDoor
namespace Go.Proofs.YtnjbhgpbgmpkcaaGreatDoor
open Go Go.Aw
set_option maxRecDepth 100000
set_option maxHeartbeats 4000000
def Pd(d:Nat):Nat:=5000*20^d
structure Bd (n:Nat) (p:Nat) (vs:List (List UInt8)) (next left:Int):Prop where
 p:p+n≤100000000000
 v:vs.length+n/50≤900000
 w:∀s∈vs,s.length≤8
 n0: -1≤next
 n1:next+n≤100000000000
 l0: -100000000000≤left-n
 l1:left≤100000000000
theorem Bd.shrt{n p:Nat}{vs:List (List UInt8)}{next left:Int}(h:Bd n p vs next left):si vs:=⟨by have:=h.v;omega,h.w⟩
def Mv(n p q:Nat)(next next' left left':Int):Prop:=p≤q∧q≤p+n∧next≤next'∧next'≤next+n∧left-n≤left'∧left'≤left
def Hz(b:List Int)(fns:List Fd)(vs:List (List UInt8))(p n:Nat)(next left:Int)(rest:List AO)(x:ARes)(h:List AO):Prop:=
 ∃(out:List Sm) (q:Nat) (next' left':Int),x= .ret (.sl (3+rest.length) 5 0 out.length)∧h=rdO b q:: .row 5 [cJ fns vs next' left']::br 3 (aJ fns)::rest++[.row 5 (smR out)]∧am out≤n∧out.length≤100∧Mv n p q next next' left left'
def CC(G:aC)(b:List Int)(fns:List Fd)(d:Nat):Prop:=∀{p:Nat} {vs:List (List UInt8)} {next left:Int},Bd (Pd d) p vs next left→AC Tryz.prog G aQ [.ptr 1 5 0 0,.p (.int .i64 d)] (HG b p fns vs next left) (Hz b fns vs p (Pd d) next left [])
variable (G:aC)
theorem qx{b:List Int}{fns:List Fd}{d p:Nat}{vs:List (List UInt8)}{next left:Int}(H:AC Tryz.prog G aQ [.ptr 1 5 0 0,.p (.int .i64 d)] (HG b p fns vs next left) (Hz b fns vs p (Pd d) next left []))(rest:List AO):
 AC Tryz.prog G aQ [.ptr 1 5 0 0,.p (.int .i64 d)] (rdO b p:: .row 5 [cJ fns vs next left]::br 3 (aJ fns)::rest) (Hz b fns vs p (Pd d) next left rest):=by
 have H2:AC Tryz.prog G aQ [.ptr 1 5 0 0,.p (.int .i64 d)] (HG b p fns vs next left) fun x h'=>∃h1 es,h'=h1++[.row 5 es]∧h1.length=(HG b p fns vs next left).length∧x= .ret (.sl (HG b p fns vs next left).length 5 0 es.length)∧(∀e∈es,ag 0 e)∧
  (∃(out:List Sm) (q:Nat) (next' left':Int),es=smR out∧h1=HG b q fns vs next' left'∧am out≤Pd d∧out.length≤100∧Mv (Pd d) p q next next' left left'):=by
  refine H.mono ?_
  rintro x h ⟨out,q,n',l',rfl,rfl,h1,h2,h3⟩
  exact⟨HG b q fns vs n' l',smR out,rfl,rfl,by simp[HG,gd],dR out,out,q,n',l',rfl,rfl,h1,h2,h3⟩
 refine(AC.pre1 (R:=fun h1 es=>∃(out:List Sm) (q:Nat) (next' left':Int),es=smR out∧h1=HG b q fns vs next' left'∧am out≤Pd d∧out.length≤100∧Mv (Pd d) p q next next' left left') H2 rest (by simp[below,HG]) (GI _ _ _ _ _ _) ?_).mono ?_
 ·rintro h1 es ⟨out,q,n',l',rfl,rfl,_⟩
  exact GI _ _ _ _ _ _
 ·rintro x h ⟨h1,es,rfl,_,rfl,_,out,q,n',l',rfl,rfl,r⟩
  exact⟨out,q,n',l',by simp[HG,gd],rfl,r⟩
def K_spec_l3Gen_loop:AK:= .seq (.reg [oJ 4 (.mov (.c .nils))]) (.seq (.reg [oM 9 0,oM 10 0,oN 11 10,oF 12 0 11,oL 13 12,oJ 14 (.bsl 1 [(.p (.int .i64 0))] 5 [(0,1,(.c (.p (.int .i64 2)))),(1,1,(.c (.p (.int .i64 3)))),(2,1,(.c (.p (.int .i64 1)))),(3,1,(.c (.p (.int .i64 0)))),(4,1,(.c (.p (.int .i64 5))))]),oJ 15 (.call aq [(.t 13),(.t 14)]),oJ 16 (.bld [(.p (.int .i64 0)),(.p (.int .i64 0)),(.p (.str [])),.nils] [(0,1,(.c (.p (.int .i64 1)))),(1,1,(.t 15))]),oJ 17 (.call cU [(.t 9),(.t 16)]),oJ 5 (.alloc [(.p (.int .i64 0)),(.p (.str [])),.nils,.nils,.nils]),⟨none,none,.st 5 (.t 5) (.t 17)⟩]) (.seq (.reg [oF 18 1 5,oL 19 18,oJ 20 (.bld [(.p (.int .i64 0)),(.p (.int .i64 0)),(.p (.str [])),.nils] [(0,1,(.c (.p (.int .i64 2)))),(2,1,(.t 19))]),oJ 6 (.alloc [(.p (.int .i64 0)),(.p (.int .i64 0)),(.p (.str [])),.nils]),⟨none,none,.st 4 (.t 6) (.t 20)⟩]) (.seq (.reg [oM 21 0,oM 22 1,oJ 23 (.bin .sub (.t 22) (.c (.p (.int .i64 1)))),oJ 24 (.call aQ [(.t 21),(.t 23)]),oM 7 24]) (.seq (.reg [oF 25 1 5,oL 26 25,oJ 27 (.ld (some 4) (.t 6)),oJ 28 (.bld [(.p (.int .i64 0)),(.p (.int .i64 0)),(.p (.str [])),.nils] [(0,1,(.c (.p (.int .i64 1)))),(1,1,(.c (.p (.int .i64 1))))]),oJ 29 (.bsl 4 [(.p (.int .i64 0)),(.p (.int .i64 0)),(.p (.str [])),.nils] 2 [(0,4,(.t 27)),(4,4,(.t 28))]),oJ 30 (.bld [(.p (.int .i64 0)),(.p (.int .i64 0)),(.p (.str [])),.nils] [(0,1,(.c (.p (.int .i64 4)))),(3,1,(.t 29))]),oJ 31 (.bsl 4 [(.p (.int .i64 0)),(.p (.int .i64 0)),(.p (.str [])),.nils] 1 [(0,4,(.t 30))]),oJ 32 (.bld [(.p (.int .i64 0)),(.p (.str [])),.nils,.nils,.nils] [(0,1,(.c (.p (.int .i64 2)))),(1,1,(.t 26)),(2,1,(.t 31))]),oJ 8 (.alloc [(.p (.int .i64 0)),(.p (.str [])),.nils,.nils,.nils]),⟨none,none,.st 5 (.t 8) (.t 32)⟩]) (.cut (.reg [oM 33 0,oM 34 0,oN 35 34,oF 36 4 35,oL 37 36,oJ 38 (.bin .sub (.t 37) (.c (.p (.int .i64 2)))),oN 39 33,oF 40 4 39,oS 40 38]) (.seq (.reg [oM 44 7,oJ 41 (.ld (some 5) (.t 5)),oJ 42 (.ld (some 4) (.t 6)),oJ 43 (.bslP 4 [(.p (.int .i64 0)),(.p (.int .i64 0)),(.p (.str [])),.nils] 1 [(0,4,(.t 42))]),oJ 45 (.ld (some 5) (.t 8)),oJ 46 (.bslP 5 [(.p (.int .i64 0)),(.p (.str [])),.nils,.nils,.nils] 1 [(0,5,(.t 45))]),oJ 47 (.app 5 96 (.t 44) (.t 46)),⟨none,none,.chk (some 5) 5 41⟩,⟨none,none,.chk (some 4) 6 42⟩,oJ 48 (.bld [(.p (.int .i64 0)),(.p (.str [])),.nils,.nils,.nils] [(0,1,(.c (.p (.int .i64 6)))),(2,1,(.t 43)),(3,1,(.t 47))]),oJ 49 (.bsl 5 [(.p (.int .i64 0)),(.p (.str [])),.nils,.nils,.nils] 2 [(0,5,(.t 41)),(5,5,(.t 48))]),oM 4 49]) (.ret)))))))
theorem qy:K_spec_l3Gen_loop.whole=F_spec_l3Gen_loop.ak:=rfl
def NK(n p:Nat)(vs:List (List UInt8))(next left:Int)(v:AV)(q:Nat)(vs':List (List UInt8))(next' left':Int):Prop:=
 ∃(out:List Sm) (s:List UInt8),v= .p (smL out)∧am out≤n∧1≤out.length∧out.length≤2∧s.length≤8∧vs'=vs++[s]∧Mv n p q next next' left left'
theorem En{b:List Int}(hb:Byt b)(hl:b.length≤2000)(fns:List Fd){d:Nat}(hd:d≤10)(hblk:CC G b fns d){p:Nat}{vs:List (List UInt8)}{next left:Int}(hB:Bd (Pd d+60) p vs next left):
 AC Tryz.prog G gW [.ptr 1 5 0 0,.p (.int .i64 ((d:Int)+1))] (HG b p fns vs next left) (PG b fns (NK (Pd d+60) p vs next left) []):=by
 have hp:=hB.p
 have hv:=hB.v
 have hn0:=hB.n0
 have hn1:=hB.n1
 have hl0:=hB.l0
 have hl1:=hB.l1
 refine kH G (AC.goK rh qy ?_)
 simp-implicitDefEqProofs[K_spec_l3Gen_loop,F_spec_l3Gen_loop,HG,cJ]
 refine(kw G hb hl (p:=p) (by omega) [2,3,1,0,5] (k:=3) (by simp) (by simp) (by omega) rfl rfl).mono ?_
 rintro r h ⟨N,hN,rfl,rfl⟩
 have hN5:0≤N∧N≤5:=by simp at hN;omega
 simp-implicitDefEqProofs[aa]
 refine(dp G (JI G hb hl (p:=p+1) (by omega) fns vs hB.shrt hn0 (by omega) left N) _ (by simp[below])).mono ?_
 rintro r h ⟨v,q,vs',n',l',rfl,rfl,s,hs,rfl,h1,h2,rfl,rfl,rfl⟩
 have hsm:(Sm.mk 1 s [⟨1,N,[],[]⟩] [] []).cs=[.int .i64 1,.str s,exL [⟨1,N,[],[]⟩],smL [],smL []]:=Sm.cs_eq _
 have hwd:IntKind.i64.wrap ((d:Int)+1-1)=d:=by rw[ah (by omega) (by omega)];omega
 have hw2:IntKind.i64.wrap (d:Int)=d:=ah (by omega) (by omega)
 simp-implicitDefEqProofs[aa,cJ,hsm,hw2]
 have hB2:Bd (Pd d) q (vs++[s]) (next+1) l':=⟨by omega,by simp;omega,fun w hw=>by
  rcases List.mem_append.1 hw with h|h
  ·exact hB.w w h
  ·rw[List.mem_singleton.1 h];exact hs,by omega,by omega,by omega,by omega⟩
 refine(qx G (hblk hB2) _).mono ?_
 rintro r h ⟨out,q2,n2,l2,rfl,rfl,z1,z2,m1,m2,m3,m4,m5,m6⟩
 have hwl:IntKind.i64.wrap (l2-2)=l2-2:=ah (by omega) (by omega)
 simp-implicitDefEqProofs[aa,cJ,hwl]
 have hHb:∀(l:Int),okO 7 (.row 5 [[.ptr 0 2 0 0,slE 2 3 (aJ fns),.p (au (vs++[s])),.p (.int .i64 n2),.p (.int .i64 l)]]):=fun l e he=>by
  rw[List.mem_singleton.1 he];exact⟨by simp[below],mb (by omega),by simp,by simp,by simp,trivial⟩
 refine lg (al 50 [(0,.ptr 1 5 0 0),(5,.ptr 3 5 0 0),(6,.ptr 4 4 0 0),(7,.sl 5 5 0 out.length),(8,.ptr 6 5 0 0)])
  [rdO b q2,.row 5 [[.ptr 0 2 0 0,slE 2 3 (aJ fns),.p (au (vs++[s])),.p (.int .i64 n2),.p (.int .i64 (l2-2))]],br 3 (aJ fns),
   .row 5 [[.p (.int .i64 1),.p (.str s),.p (exL [Ex.mk 1 N [] []]),.p (smL []),.p (smL [])]],.row 4 [[.p (.int .i64 2),.p (.int .i64 0),.p (.str s),.p (exL [])]],.row 5 (smR out),
   .row 5 [[.p (.int .i64 2),.p (.str s),.p (exL [Ex.mk 4 0 [] [⟨2,0,s,[]⟩,⟨1,1,[],[]⟩]]),.p (smL []),.p (smL [])]]] ?_ ?_
 ·simp-implicitDefEqProofs[hwl]
  refine Wk.trans (fk (l1:=[(0,.ptr 1 5 0 0),(5,.ptr 3 5 0 0),(6,.ptr 4 4 0 0),(7,.sl 5 5 0 out.length),(8,.ptr 6 5 0 0)])
   (h1:=[rdO b q2,.row 5 [[.ptr 0 2 0 0,slE 2 3 (aJ fns),.p (au (vs++[s])),.p (.int .i64 n2),.p (.int .i64 (l2-2))]],br 3 (aJ fns),
   .row 5 [[.p (.int .i64 1),.p (.str s),.p (exL [Ex.mk 1 N [] []]),.p (smL []),.p (smL [])]],.row 4 [[.p (.int .i64 2),.p (.int .i64 0),.p (.str s),.nils]],.row 5 (smR out),
   .row 5 [[.p (.int .i64 2),.p (.str s),.sl 8 4 0 1,.nils,.nils]],.row 4 [[.p (.int .i64 2),.p (.int .i64 0),.p (.str s),.nils],[.p (.int .i64 1),.p (.int .i64 1),.p (.str []),.nils]],.row 4 [[.p (.int .i64 4),.p (.int .i64 0),.p (.str []),.sl 7 4 0 2]]])
   [0,1,2,4,5,6,9,7,8] (by simp) (by decide) (by decide) (du rfl (bz _ _ _) (cr (by simp[below]) (by simp[ren,bp]) (du rfl (kz _ _) (bs rfl (by simp[below]) (bs rfl (by simp[below]) (bs rfl (dR out) (cr (by simp[below]) (by simp[ren,bp]) (bs rfl (by simp[below]) (cr (by simp[below]) (by simp[ren,bp]) cQ))))))))) (by simp[below,ren]))
   (mz 7 (by omega) (by simp) rfl (.same (bz _ _ _) (.same (hHb _) (.same (kz _ _) (.same (by simp[okO,below]) (.one (.keep (by simp) (.keep (by simp) (.keep (by simp) (.one (View.nils 4) .nil)))) (.same (bU (dR out)) (.one (.keep (by simp) (.keep (by simp) (.one ?_ (.one (View.nils 5) (.one (View.nils 5) .nil))))) (.nil _)))))))) ?_)
  ·exact bG (p0:=(Ex.mk 4 0 [] [⟨2,0,s,[]⟩,⟨1,1,[],[]⟩]).cs) rfl (Ex.cs_len _) (gE (qN (p0:=(Ex.mk 2 0 s []).cs) (p1:=(Ex.mk 1 1 [] []).cs) rfl (Ex.cs_len _) (Ex.cs_len _) (gE (View.nils 4)) (gE (View.nils 4))))
  ·exact⟨.keep (by simp[below]) .nil,.keep (by simp[below]) .nil,.keep (by simp[below]) .nil,.keep (by simp[below]) .nil,.keep (by simp[below]) .nil,trivial⟩
 ·simp-implicitDefEqProofs[]
  have hless:(Sm.mk 2 s [Ex.mk 4 0 [] [⟨2,0,s,[]⟩,⟨1,1,[],[]⟩]] [] []).cs=[.int .i64 2,.str s,exL [Ex.mk 4 0 [] [⟨2,0,s,[]⟩,⟨1,1,[],[]⟩]],smL [],smL []]:=Sm.cs_eq _
  have hrow:List.take out.length (smR out)++[[AV.p (.int .i64 2),.p (.str s),.p (exL [Ex.mk 4 0 [] [⟨2,0,s,[]⟩,⟨1,1,[],[]⟩]]),.p (smL []),.p (smL [])]]=smR (out++[Sm.mk 2 s [Ex.mk 4 0 [] [⟨2,0,s,[]⟩,⟨1,1,[],[]⟩]] [] []]):=by
   rw[List.take_of_length_le (by rw[gd];exact Nat.le_refl _),xK];exact congrArg (smR out++ ·) (by rw[smR,List.map_singleton,hless];rfl)
  have hlen:out.length+1=(out++[Sm.mk 2 s [Ex.mk 4 0 [] [⟨2,0,s,[]⟩,⟨1,1,[],[]⟩]] [] []]).length:=by simp
  refine⟨⟨by rw[gd];exact Nat.le_refl _,by omega,by omega⟩,?_⟩
  rw[hrow,hlen]
  refine⟨_,_,q2,_,.p (smL [Sm.mk 1 s [⟨1,N,[],[]⟩] [] [],Sm.mk 6 [] [⟨2,0,s,[]⟩] (out++[Sm.mk 2 s [Ex.mk 4 0 [] [⟨2,0,s,[]⟩,⟨1,1,[],[]⟩]] [] []]) []]),vs++[s],n2,l2-2,rfl,rfl,.keep (by simp) .nil,
   .one (qN (p0:=(Sm.mk 1 s [⟨1,N,[],[]⟩] [] []).cs) (p1:=(Sm.mk 6 [] [⟨2,0,s,[]⟩] (out++[Sm.mk 2 s [Ex.mk 4 0 [] [⟨2,0,s,[]⟩,⟨1,1,[],[]⟩]] [] []]) []).cs) rfl (Sm.cs_len _) (Sm.cs_len _)
    (cf (.p _) (.p _) (.p _)) (cf ?_ (ko rfl) (View.nils 5))) .nil,_,s,rfl,?_,by simp,by simp,hs,rfl,?_⟩
  ·have h2:(Ex.mk 2 0 s []).cs=[.int .i64 2,.int .i64 0,.str s,exL []]:=Ex.cs_eq _
   have he:exL [Ex.mk 2 0 s []]= .lst 4 [[.int .i64 2,.int .i64 0,.str s,exL []]]:=by rw[exL,List.map_singleton,h2]
   rw[he]
   exact .p _
  ·simp[am,bC,Sm.sz,Ex.sz,aY]
   omega
  ·exact⟨by omega,by omega,by omega,by omega,by omega,by omega⟩
end Go.Proofs.YtnjbhgpbgmpkcaaGreatDoor
namespace Go.Proofs.YtnjbhgpbgmpkcaaGreatDoor
open Go Go.Aw
set_option maxRecDepth 100000
set_option maxHeartbeats 4000000
variable (G:aC)
def Mt(n p:Nat)(vs:List (List UInt8))(next left:Int)(v:AV)(q:Nat)(vs':List (List UInt8))(next' left':Int):Prop:=
 ∃out:List Sm,v= .p (smL out)∧am out≤n∧1≤out.length∧out.length≤2∧(vs'=vs∨∃s:List UInt8,s.length≤8∧vs'=vs++[s])∧Mv n p q next next' left left'
theorem JO{b:List Int}(hb:Byt b)(hl:b.length≤2000)(fns:List Fd)(hf:tM fns){d:Nat}(hd:d≤10)(hblk:1≤d→CC G b fns d){p:Nat}{vs:List (List UInt8)}{next left:Int}(hB:Bd (2*Pd d+3000) p vs next left):
 AC Tryz.prog G gR [.ptr 1 5 0 0,.p (.int .i64 ((d:Int)+1))] (HG b p fns vs next left) (PG b fns (Mt (2*Pd d+3000) p vs next left) []):=by
 have hp:=hB.p
 have hv:=hB.v
 have hn0:=hB.n0
 have hn1:=hB.n1
 have hl0:=hB.l0
 have hl1:=hB.l1
 refine kH G (AC.go qB ?_)
 have hwl:IntKind.i64.wrap (left-1)=left-1:=ah (by omega) (by omega)
 have hsl:au vs= .lst 1 (vs.map fun w=>[.str w]):=rfl
 simp-implicitDefEqProofs[kE,HG,cJ,hwl]
 refine(bl G b hb hl p (by omega) 13 _).mono ?_
 rintro r h ⟨k,rfl,rfl,hk⟩
 have di:∀(m:Sm) (q:Nat) (rest:List AO) (v:AV) (vc:AV) (vs':List (List UInt8)) (next' left':Int),Fzs (.dead:: .dead:: .dead::rest) 3 [vc] [.p (au vs')]→Fzs (.dead:: .dead:: .dead::rest) 3 [v] [.p (smL [m])]→m.sz≤2*Pd d+3000→(vs'=vs∨∃s:List UInt8,s.length≤8∧vs'=vs++[s])→Mv (2*Pd d+3000) p q next next' left left'→
  DG b fns (Mt (2*Pd d+3000) p vs next left) (.ret v) (rdO b q:: .row 5 [[.ptr 0 2 0 0,slE 2 3 (aJ fns),vc,.p (.int .i64 next'),.p (.int .i64 left')]]::br 3 (aJ fns)::rest):=fun m q rest v vc vs' next' left' h1 h2 h3 h4 h5=>
  ⟨_,rest,q,_,_,vs',next',left',rfl,rfl,h1,h2,[m],rfl,by simp[am];omega,by simp,by simp,h4,h5⟩
 by_cases hc:k<3∧vs≠[]
 ·obtain⟨hc1,hne⟩:=hc
  have hpos:0<vs.length:=List.length_pos_iff.2 hne
  have hc1':(k:Int)<3:=by omega
  have hv1:=hB.v
  simp-implicitDefEqProofs[aa,hsl,hc1,hc1',hpos]
  rw[←hsl]
  refine(Bt G hb hl (p:=p+1) (by omega) vs hne (by omega) _).mono ?_
  rintro r h ⟨w,hw,rfl,rfl⟩
  have hw8:=hB.w w hw
  simp-implicitDefEqProofs[aa]
  refine(dp G (kV G hb hl (p:=p+1+1) (by omega) fns hf vs hB.shrt next (left-1) (d:=3) (by omega)) _ (by simp[below])).mono ?_
  rintro r h ⟨v,q,vs',n',l',rfl,rfl,⟨e,rfl,he⟩,h1,h2,rfl,rfl,rfl⟩
  have hec:=e.cs_eq
  simp-implicitDefEqProofs[aa,cJ,hec]
  exact di ⟨2,w,[e],[],[]⟩ q _ _ _ vs' n' (left-1) (.keep (by simp) .nil) (.one (bG (p0:=(Sm.mk 2 w [e] [] []).cs) rfl (Sm.cs_len _) (cf (eC (l:=[e]) (by rw[List.map_singleton,hec];rfl)) (View.nils 5) (View.nils 5))) .nil) (by simp[Sm.sz,aY,am];omega) (.inl rfl) ⟨by omega,by omega,by omega,by omega,by omega,by omega⟩
 have hcc:(k<3∧0<vs.length)=False:=by
  simp only[eq_iff_iff,iff_false]
  exact fun⟨a,c⟩=>hc ⟨a,List.length_pos_iff.1 c⟩
 have hvz:(k:Int)<3→vs.length=0:=fun h=>by
  by_cases e:vs=[]
  ·rw[e];rfl
  ·exact absurd ⟨by omega,e⟩ hc
 have hvx:=hB.shrt
 have hvv:=hB.v
 by_cases k5:(k:Int)<5
 ·by_cases k3:(k:Int)<3
  ·have hv0:=hvz k3
   simp-implicitDefEqProofs[aa,hsl,k3,hv0,k5]
   rw[←hsl]
   refine(dp G (kV G hb hl (p:=p+1) (by omega) fns hf vs hvx next (left-1) (d:=3) (by omega)) _ (by simp[below])).mono ?_
   rintro r h ⟨v,q,vs',n',l',rfl,rfl,⟨e,rfl,he⟩,h1,h2,rfl,rfl,rfl⟩
   have hec:=e.cs_eq
   have hL:=Jj G hb hl (p:=q) (by omega) fns vs' hvx hn0 (by omega) (left-1) e
   rw[hec] at hL
   simp-implicitDefEqProofs[aa,cJ,hec]
   refine(dp G hL _ (by simp[below])).mono ?_
   rintro r h ⟨v,q2,vs2,n2,l2,rfl,rfl,s,hs,rfl,h3,h4,rfl,rfl,rfl⟩
   have hsm:(Sm.mk 1 s [e] [] []).cs=[.int .i64 1,.str s,exL [e],smL [],smL []]:=Sm.cs_eq _
   simp-implicitDefEqProofs[aa,cJ,hsm]
   exact di ⟨1,s,[e],[],[]⟩ q2 _ _ _ (vs'++[s]) (n'+1) (left-1) (.keep (by simp) .nil) (.one (bG (p0:=(Sm.mk 1 s [e] [] []).cs) rfl (Sm.cs_len _) (cf (.p _) (.p _) (.p _))) .nil) (by simp[Sm.sz,aY,am];omega) (.inr ⟨s,hs,rfl⟩) ⟨by omega,by omega,by omega,by omega,by omega,by omega⟩
  ·simp-implicitDefEqProofs[aa,hsl,k3,k5]
   rw[←hsl]
   refine(dp G (kV G hb hl (p:=p+1) (by omega) fns hf vs hvx next (left-1) (d:=3) (by omega)) _ (by simp[below])).mono ?_
   rintro r h ⟨v,q,vs',n',l',rfl,rfl,⟨e,rfl,he⟩,h1,h2,rfl,rfl,rfl⟩
   have hec:=e.cs_eq
   have hL:=Jj G hb hl (p:=q) (by omega) fns vs' hvx hn0 (by omega) (left-1) e
   rw[hec] at hL
   simp-implicitDefEqProofs[aa,cJ,hec]
   refine(dp G hL _ (by simp[below])).mono ?_
   rintro r h ⟨v,q2,vs2,n2,l2,rfl,rfl,s,hs,rfl,h3,h4,rfl,rfl,rfl⟩
   have hsm:(Sm.mk 1 s [e] [] []).cs=[.int .i64 1,.str s,exL [e],smL [],smL []]:=Sm.cs_eq _
   simp-implicitDefEqProofs[aa,cJ,hsm]
   exact di ⟨1,s,[e],[],[]⟩ q2 _ _ _ (vs'++[s]) (n'+1) (left-1) (.keep (by simp) .nil) (.one (bG (p0:=(Sm.mk 1 s [e] [] []).cs) rfl (Sm.cs_len _) (cf (.p _) (.p _) (.p _))) .nil) (by simp[Sm.sz,aY,am];omega) (.inr ⟨s,hs,rfl⟩) ⟨by omega,by omega,by omega,by omega,by omega,by omega⟩
 have k3:¬(k:Int)<3:=by omega
 by_cases k7:(k:Int)<7∨d=0
 ·by_cases k7':(k:Int)<7
  ·simp-implicitDefEqProofs[aa,k3,k5,k7']
   refine(dp G (kV G hb hl (p:=p+1) (by omega) fns hf vs hvx next (left-1) (d:=3) (by omega)) _ (by simp[below])).mono ?_
   rintro r h ⟨v,q,vs',n',l',rfl,rfl,⟨e,rfl,he⟩,h1,h2,rfl,rfl,rfl⟩
   have hec:=e.cs_eq
   simp-implicitDefEqProofs[aa,cJ,hec]
   exact di ⟨3,[],[e],[],[]⟩ q _ _ _ vs' n' (left-1) (.keep (by simp) .nil) (.one (bG (p0:=(Sm.mk 3 [] [e] [] []).cs) rfl (Sm.cs_len _) (cf (eC (l:=[e]) (by rw[List.map_singleton,hec];rfl)) (View.nils 5) (View.nils 5))) .nil) (by simp[Sm.sz,aY,am];omega) (.inl rfl) ⟨by omega,by omega,by omega,by omega,by omega,by omega⟩
  ·have hdl:(d:Int)+1<2:=by omega
   simp-implicitDefEqProofs[aa,k3,k5,k7',hdl]
   refine(dp G (kV G hb hl (p:=p+1) (by omega) fns hf vs hvx next (left-1) (d:=3) (by omega)) _ (by simp[below])).mono ?_
   rintro r h ⟨v,q,vs',n',l',rfl,rfl,⟨e,rfl,he⟩,h1,h2,rfl,rfl,rfl⟩
   have hec:=e.cs_eq
   simp-implicitDefEqProofs[aa,cJ,hec]
   exact di ⟨3,[],[e],[],[]⟩ q _ _ _ vs' n' (left-1) (.keep (by simp) .nil) (.one (bG (p0:=(Sm.mk 3 [] [e] [] []).cs) rfl (Sm.cs_len _) (cf (eC (l:=[e]) (by rw[List.map_singleton,hec];rfl)) (View.nils 5) (View.nils 5))) .nil) (by simp[Sm.sz,aY,am];omega) (.inl rfl) ⟨by omega,by omega,by omega,by omega,by omega,by omega⟩
 have k7':¬(k:Int)<7:=fun h=>k7 (.inl h)
 have hd1:1≤d:=by omega
 have hd2:¬((d:Int)+1)<2:=by omega
 have hblk2:CC G b fns d:= @hblk hd1
 by_cases e7:(k:Int)=7
 ·simp-implicitDefEqProofs[aa,k3,k5,k7',hd2,e7]
  refine(dp G (EK G hb hl (p:=p+1) (by omega) fns hf vs hvx next (left-1)) _ (by simp[below])).mono ?_
  rintro r h ⟨v,q,vs',n',l',rfl,rfl,⟨e,rfl,he⟩,h1,h2,rfl,rfl,rfl⟩
  have hec:=e.cs_eq
  simp-implicitDefEqProofs[aa,cJ,hec]
  refine(dp G (kV G hb hl (p:=q) (by omega) fns hf vs' hvx n' (left-1) (d:=2) (by omega)) _ (by simp[below])).mono ?_
  rintro r h ⟨v,q2,vs2,n2,l2,rfl,rfl,⟨e2,rfl,he2⟩,h3,h4,rfl,rfl,rfl⟩
  have hec2:=e2.cs_eq
  simp-implicitDefEqProofs[aa,cJ,hec2]
  exact di ⟨4,[],[e,e2],[],[]⟩ q2 _ _ _ vs2 n2 (left-1) (.keep (by simp) .nil) (.one (bG (p0:=(Sm.mk 4 [] [e,e2] [] []).cs) rfl (Sm.cs_len _) (cf (eC (l:=[e,e2]) (by rw[List.map_cons,List.map_singleton,hec,hec2];rfl)) (View.nils 5) (View.nils 5))) .nil) (by simp[Sm.sz,aY,am];omega) (.inl rfl) ⟨by omega,by omega,by omega,by omega,by omega,by omega⟩
 by_cases e8:(k:Int)=8
 ·simp-implicitDefEqProofs[aa,k3,k5,k7',hd2,e7,e8]
  refine(dp G (EK G hb hl (p:=p+1) (by omega) fns hf vs hvx next (left-1)) _ (by simp[below])).mono ?_
  rintro r h ⟨v,q,vs',n',l',rfl,rfl,⟨e,rfl,he⟩,h1,h2,rfl,rfl,rfl⟩
  have hec:=e.cs_eq
  simp-implicitDefEqProofs[aa,cJ,hec]
  exact di ⟨3,[],[⟨12,0,[],[e]⟩],[],[]⟩ q _ _ _ vs' n' (left-1) (.keep (by simp) .nil) (.one (bG (p0:=(Sm.mk 3 [] [⟨12,0,[],[e]⟩] [] []).cs) rfl (Sm.cs_len _) (cf (bG (p0:=(Ex.mk 12 0 [] [e]).cs) rfl (Ex.cs_len _) (gE (eC (l:=[e]) (by rw[List.map_singleton,hec];rfl)))) (View.nils 5) (View.nils 5))) .nil) (by simp[Sm.sz,Ex.sz,aY,am];omega) (.inl rfl) ⟨by omega,by omega,by omega,by omega,by omega,by omega⟩
 have hwd:IntKind.i64.wrap ((d:Int)+1-1)=d:=by rw[ah (by omega) (by omega)];omega
 have hwd2:IntKind.i64.wrap (d:Int)=d:=ah (by omega) (by omega)
 by_cases k11:(k:Int)<11
 ·simp-implicitDefEqProofs[aa,k3,k5,k7',hd2,e7,e8,k11]
  refine(dp G (kV G hb hl (p:=p+1) (by omega) fns hf vs hvx next (left-1) (d:=3) (by omega)) _ (by simp[below])).mono ?_
  rintro r h ⟨v,q,vs',n',l',rfl,rfl,⟨e,rfl,he⟩,h1,h2,rfl,rfl,rfl⟩
  have hec:=e.cs_eq
  simp-implicitDefEqProofs[aa,cJ,hec,hwd2]
  have hB2:Bd (Pd d) q vs' n' (left-1):=⟨by omega,by omega,hB.w,by omega,by omega,by omega,by omega⟩
  refine(qx G (hblk2 hB2) _).mono ?_
  rintro r h ⟨out,q2,n2,l2,rfl,rfl,z1,z2,m1,m2,m3,m4,m5,m6⟩
  simp-implicitDefEqProofs[aa,cJ]
  refine(bl G b hb hl q2 (by omega) 2 _).mono ?_
  rintro r h ⟨k2,rfl,rfl,_⟩
  simp-implicitDefEqProofs[aa]
  refine bc (fun hq=>?_) (fun hq=>?_)
  ·simp-implicitDefEqProofs[hwd2]
   have hB3:Bd (Pd d) (q2+1) vs' n2 l2:=⟨by omega,by omega,hB.w,by omega,by omega,by omega,by omega⟩
   refine(qx G (hblk2 hB3) _).mono ?_
   rintro r h ⟨out2,q3,n3,l3,rfl,rfl,y1,y2,w1,w2,w3,w4,w5,w6⟩
   simp-implicitDefEqProofs[aa,cJ]
   exact di ⟨5,[],[e],out,out2⟩ q3 _ _ _ vs' n3 l3 (.keep (by simp) .nil) (.one (bG (p0:=(Sm.mk 5 [] [e] out out2).cs) rfl (Sm.cs_len _) (cf (eC (l:=[e]) (by rw[List.map_singleton,hec];rfl)) (ko rfl) (ko rfl))) .nil) (by simp[Sm.sz,aY];omega) (.inl rfl) ⟨by omega,by omega,by omega,by omega,by omega,by omega⟩
  ·simp-implicitDefEqProofs[]
   exact di ⟨5,[],[e],out,[]⟩ (q2+1) _ _ _ vs' n2 l2 (.keep (by simp) .nil) (.one (bG (p0:=(Sm.mk 5 [] [e] out []).cs) rfl (Sm.cs_len _) (cf (eC (l:=[e]) (by rw[List.map_singleton,hec];rfl)) (ko rfl) (View.nils 5))) .nil) (by simp[Sm.sz,aY,am];omega) (.inl rfl) ⟨by omega,by omega,by omega,by omega,by omega,by omega⟩
 by_cases e11:(k:Int)=11
 ·simp-implicitDefEqProofs[aa,k3,k5,k7',hd2,e7,e8,k11,e11]
  refine(bl G b hb hl (p+1) (by omega) 3 _).mono ?_
  rintro r h ⟨k2,rfl,rfl,_⟩
  simp-implicitDefEqProofs[aa]
  refine bc (fun hq=>?_) (fun hq=>?_)
  ·simp-implicitDefEqProofs[]
   refine(dp G (kV G hb hl (p:=p+1+1) (by omega) fns hf vs hvx next (left-1) (d:=2) (by omega)) _ (by simp[below])).mono ?_
   rintro r h ⟨v,q,vs',n',l',rfl,rfl,⟨e,rfl,he⟩,h1,h2,rfl,rfl,rfl⟩
   have hec:=e.cs_eq
   simp-implicitDefEqProofs[aa,cJ,hec]
   exact di ⟨7,[],[e],[],[]⟩ q _ _ _ vs' n' (left-1) (.keep (by simp) .nil) (.one (bG (p0:=(Sm.mk 7 [] [e] [] []).cs) rfl (Sm.cs_len _) (cf (eC (l:=[e]) (by rw[List.map_singleton,hec];rfl)) (View.nils 5) (View.nils 5))) .nil) (by simp[Sm.sz,aY,am];omega) (.inl rfl) ⟨by omega,by omega,by omega,by omega,by omega,by omega⟩
  ·simp-implicitDefEqProofs[]
   have hBL:Bd (Pd d+60) (p+1+1) vs next (left-1):=⟨by omega,by omega,hB.w,hn0,by omega,by omega,by omega⟩
   refine(dp G (En G hb hl fns hd hblk2 hBL) _ (by simp[below])).mono ?_
   rintro r h ⟨v,q,vs2,n2,l2,rfl,rfl,out,s,rfl,z1,z2,z3,hs,rfl,m1,m2,m3,m4,m5,m6⟩
   simp-implicitDefEqProofs[aa,cJ]
   exact⟨_,_,q,_,_,vs++[s],n2,l2,rfl,rfl,.keep (by simp) .nil,.keep (by simp) .nil,out,rfl,by omega,z2,z3,.inr ⟨s,hs,rfl⟩,by omega,by omega,by omega,by omega,by omega,by omega⟩
 ·simp-implicitDefEqProofs[aa,k3,k5,k7',hd2,e7,e8,k11,e11]
  have hBL:Bd (Pd d+60) (p+1) vs next (left-1):=⟨by omega,by omega,hB.w,hn0,by omega,by omega,by omega⟩
  refine(dp G (En G hb hl fns hd hblk2 hBL) _ (by simp[below])).mono ?_
  rintro r h ⟨v,q,vs2,n2,l2,rfl,rfl,out,s,rfl,z1,z2,z3,hs,rfl,m1,m2,m3,m4,m5,m6⟩
  simp-implicitDefEqProofs[aa,cJ]
  exact⟨_,_,q,_,_,vs++[s],n2,l2,rfl,rfl,.keep (by simp) .nil,.keep (by simp) .nil,out,rfl,by omega,z2,z3,.inr ⟨s,hs,rfl⟩,by omega,by omega,by omega,by omega,by omega,by omega⟩
end Go.Proofs.YtnjbhgpbgmpkcaaGreatDoor
namespace Go.Proofs.YtnjbhgpbgmpkcaaGreatDoor
open Go Go.Aw
set_option maxRecDepth 100000
set_option maxHeartbeats 4000000
variable (G:aC)
structure BkS where (j m:Nat) (out:List Sm) (q:Nat) (vs:List (List UInt8)) (next left:Int)
theorem LQ(d:Nat):5000≤Pd d:=by
 have:1≤20^d:=Nat.one_le_pow _ _ (by omega)
 simp only[Pd];omega
theorem HE(d:Nat):Pd (d+1)=20*Pd d:=by simp only[Pd,Nat.pow_succ];omega
theorem xU{b:List Int}(hb:Byt b)(hl:b.length≤2000)(fns:List Fd)(hf:tM fns){d:Nat}(hd:d≤10)(hblk:1≤d→CC G b fns d):CC G b fns (d+1):=by
 intro p vs next left hB
 have hp:=hB.p
 have hv:=hB.v
 have hn0:=hB.n0
 have hn1:=hB.n1
 have hl0:=hB.l0
 have hl1:=hB.l1
 have hP:=LQ d
 have hPs:=HE d
 generalize hN:Pd d=N at*
 rw[hPs] at hp hv hn1 hl0⊢
 have hGok:∀(vs:List (List UInt8)) (nx lf:Int),okO 4 (.row 5 [cJ fns vs nx lf]):=fun vs nx lf e he=>by
  rw[List.mem_singleton.1 he];exact⟨by simp[below],mb (by omega),by simp,by simp,by simp,trivial⟩
 refine AC.go pZ ?_
 simp-implicitDefEqProofs[kj,HG,cJ]
 refine(kw G hb hl (p:=p) (by omega) [2,3,1,4] (k:=4) (by simp) (by simp) (by omega) rfl rfl).mono ?_
 rintro r h ⟨I,hI,rfl,rfl⟩
 obtain⟨J,rfl,hJ⟩:∃J:Nat,I=J∧J≤4:=⟨I.toNat,by simp at hI;omega,by simp at hI;omega⟩
 simp-implicitDefEqProofs[aa]
 refine aN (fun s:BkS=>al 40 [(0,.ptr 1 5 0 0),(1,.p (.int .i64 ((d:Int)+1))),(5,.p (au vs)),(6,.sl 3 5 0 s.out.length),(7,.p (.int .i64 s.j))])
  (fun s=>[rdO b s.q,.row 5 [cJ fns s.vs s.next s.left],br 3 (aJ fns),.row 5 (smR s.out)])
  (fun s=>s.j+s.m≤4∧am s.out≤s.m*(2*N+3000)∧s.out.length≤2*s.m∧p≤s.q∧s.q≤p+1+s.m*(2*N+3000)∧s.vs.length≤vs.length+s.m∧(∀w∈s.vs,w.length≤8)∧next≤s.next∧s.next≤next+((s.m*(2*N+3000):Nat):Int)∧left-((s.m*(2*N+3000):Nat):Int)≤s.left∧s.left≤left)
  (fun s=>s.j) ⟨J,0,[],p+1,vs,next,left⟩ ⟨by simp only;omega,by simp[am],by simp,by simp,by simp,by simp,hB.w,by simp,by simp,by simp,by simp⟩ ?_ ?_
 ·refine gH (m:=4) (by omega) (dQ (h1:=[rdO b (p+1),.row 5 [cJ fns vs next left],br 3 (aJ fns),.row 5 (smR [])]) rfl rfl (ae (bz _ _ _) (ae (hGok _ _ _) (ae (kz _ _) (ae (bU (dR [])) dv))))) (by simp[below])
 rintro⟨j,m,out,q,vs',nx,lf⟩ ⟨i1,i2,i3,i4,i5,i6,i7,i8,i9,i10,i11⟩
 simp only at i1 i2 i3 i4 i5 i6 i7 i8 i9 i10 i11
 simp-implicitDefEqProofs[cJ]
 have hm4:m*(2*N+3000)≤4*(2*N+3000):=Nat.mul_le_mul_right _ (by omega)
 by_cases hc:0<j∧0<lf
 ·obtain⟨c1,c2⟩:=hc
  have hm3:m*(2*N+3000)≤3*(2*N+3000):=Nat.mul_le_mul_right _ (by omega)
  have hms:(m+1)*(2*N+3000)=m*(2*N+3000)+(2*N+3000):=by rw[Nat.add_mul,Nat.one_mul]
  have hmsI:((m+1:Nat):Int)*(2*(N:Int)+3000)=((m*(2*N+3000)+(2*N+3000):Nat):Int):=by rw[←hms];simp
  generalize m*(2*N+3000)=M at*
  have hB2:Bd (2*Pd d+3000) q vs' nx lf:=by
   rw[hN];exact⟨by omega,by omega,i7,by omega,by omega,by omega,by omega⟩
  have hS:=JO G hb hl fns hf hd hblk hB2
  rw[hN] at hS
  simp-implicitDefEqProofs[c1,c2]
  refine(dp G hS _ (by simp[below])).mono ?_
  rintro r h ⟨v,q2,vs2,n2,l2,rfl,rfl,out2,rfl,z1,z2,z3,hvs,m1,m2,m3,m4,m5,m6⟩
  have hsl:smL out2= .lst 5 (out2.map Sm.cs):=rfl
  simp-implicitDefEqProofs[aa,cJ,hsl]
  have hol:(smR out).length=out.length:=gd out
  have hwj:IntKind.i64.wrap ((j:Int)-1)=((j-1:Nat):Int):=by rw[ah (by omega) (by omega)];omega
  have hrow:List.take out.length (smR out)++List.map ((fun x=>List.map AV.p x)∘Sm.cs) out2=smR (out++out2):=by
   rw[List.take_of_length_le (by omega),xK];rfl
  refine⟨⟨by omega,by omega,by omega⟩,⟨j-1,m+1,out++out2,q2,vs2,n2,l2⟩,⟨by simp only;omega,by simp only;rw[bC,hms];omega,by simp only;rw[List.length_append];omega,by simp only;omega,by simp only;rw[hms];omega,?_,?_,by simp only;omega,by simp only;rw[hmsI];omega,by simp only;rw[hmsI];omega,by simp only;omega⟩,by simp only;omega,?_⟩
  ·simp only
   rcases hvs with rfl|⟨s,_,rfl⟩
   ·omega
   ·rw[List.length_append,List.length_singleton];omega
  ·simp only
   rcases hvs with rfl|⟨s,hs,rfl⟩
   ·exact i7
   ·intro w hw
    rcases List.mem_append.1 hw with h|h
    ·exact i7 w h
    ·rw[List.mem_singleton.1 h];exact hs
  ·rw[hrow]
   refine fk [0,1,2,4] (by simp) (by decide) (by decide) (du rfl (bz _ _ _) (cr ?_ ?_ (du rfl (kz _ _) (bs rfl (dR _) cQ)))) (by simp[below,ren,hwj])
   ·intro x hx
    rw[List.mem_singleton.1 hx];exact⟨by simp[below],mb (by simp),by simp,by simp,by simp,trivial⟩
   ·simp[cJ,ren,bp]
 ·have hce:(decide (0<j)&&decide (0<lf))=false:=by
   by_cases h1:0<j
   ·have h2:¬0<lf:=fun h=>hc ⟨h1,h⟩
    simp[h2]
   ·simp[h1]
  have fin:Hz b fns vs p (20*N) next left [] (.ret (.sl 3 5 0 out.length)) [rdO b q,.row 5 [[.ptr 0 2 0 0,slE 2 3 (aJ fns),.p (au vs),.p (.int .i64 nx),.p (.int .i64 lf)]],br 3 (aJ fns),.row 5 (smR out)]:=
   ⟨out,q,nx,lf,rfl,rfl,by omega,by omega,by omega,by omega,by omega,by omega,by omega,by omega⟩
  by_cases h1:0<j
  ·have h2:¬0<lf:=fun h=>hc ⟨h1,h⟩
   simp-implicitDefEqProofs[h1,h2]
   exact fin
  ·simp-implicitDefEqProofs[h1]
   exact fin
end Go.Proofs.YtnjbhgpbgmpkcaaGreatDoor
namespace Go.Proofs.YtnjbhgpbgmpkcaaGreatDoor
open Go Go.Aw
set_option maxRecDepth 100000
set_option maxHeartbeats 4000000
def K_spec_l3Gen_fn:AK:= .seq (.reg [oJ 6 (.alloc [(.p (.str [])),.nils,.nils])]) (.seq (.reg [oM 8 0,oJ 9 (.bsl 1 [(.p (.str []))] 3 [(0,1,(.c (.p (.str [97])))),(1,1,(.c (.p (.str [98])))),(2,1,(.c (.p (.str [99]))))]),oM 10 2,oJ 11 (.slS 1 (.t 9) none (some (.t 10))),oN 12 8,oF 13 2 12,oS 13 11]) (.seq (.reg [oM 14 0,oM 15 2,oJ 16 (.bin .sub (.t 15) (.c (.p (.int .i64 1)))),oN 17 14,oF 18 3 17,oS 18 16]) (.cut (.reg [oM 19 1,oJ 20 (.bsl 1 [(.p (.str []))] 0 []),oM 21 0,oN 22 21,oF 23 2 22,oL 24 23,oJ 25 (.app 1 16 (.t 20) (.t 24)),oJ 26 (.bld [(.p (.str [])),.nils,.nils] [(0,1,(.t 19)),(1,1,(.t 25))]),oJ 7 (.alloc [(.p (.str [])),.nils,.nils]),⟨none,none,.st 3 (.t 7) (.t 26)⟩]) (.seq (.reg [oM 27 0,oJ 28 (.call aQ [(.t 27),(.c (.p (.int .i64 3)))]),oF 29 2 7,oS 29 28]) (.seq (.seq (.reg [oM 30 0,oN 31 30,oF 32 4 31,oL 33 32,oJ 34 (.bin .gtr (.t 33) (.c (.p (.int .i64 0)))),oM 35 34,⟨(some 36),some (35,true),.mov (.t 0)⟩,⟨(some 37),some (35,true),.nilck (.t 36)⟩,⟨(some 38),some (35,true),.fldA 0 (.t 37)⟩,⟨(some 39),some (35,true),.ld none (.t 38)⟩,⟨(some 40),some (35,true),.call af [(.t 39),(.c (.p (.int .i64 4)))]⟩,⟨(some 41),some (35,true),.bin .gtr (.t 40) (.c (.p (.int .i64 0)))⟩,oJ 42 (.pick (.t 35) (.t 41) (.c (.p (.bool false))))]) (.cond (.t 42) (.seq (.reg [oM 43 0,oM 44 0,oN 45 44,oF 46 4 45,oL 47 46,oJ 48 (.bin .sub (.t 47) (.c (.p (.int .i64 1)))),oN 49 43,oF 50 4 49,oS 50 48]) (.reg [oF 51 2 7,oM 53 0,oL 52 51,oJ 54 (.call aU [(.t 53),(.c (.p (.int .i64 2)))]),⟨none,none,.chk none 51 52⟩,oJ 55 (.bslP 4 [(.p (.int .i64 0)),(.p (.int .i64 0)),(.p (.str [])),.nils] 1 [(0,4,(.t 54))]),oJ 56 (.bld [(.p (.int .i64 0)),(.p (.str [])),.nils,.nils,.nils] [(0,1,(.c (.p (.int .i64 7)))),(2,1,(.t 55))]),oJ 57 (.bslP 5 [(.p (.int .i64 0)),(.p (.str [])),.nils,.nils,.nils] 1 [(0,5,(.t 56))]),oJ 58 (.app 5 96 (.t 52) (.t 57)),oF 59 2 7,oS 59 58])) (.skip))) (.seq (.reg [oJ 60 (.ld (some 3) (.t 7)),⟨none,none,.st 3 (.t 6) (.t 60)⟩]) (.ret)))))))
theorem td:K_spec_l3Gen_fn.whole=F_spec_l3Gen_fn.ak:=rfl
theorem xX{h:List AO}{id:Nat}{out:List Sm}{m:Sm}{c:List AV}(e:h[id]?=some (.row 5 (smR out++[c])))(hc:∀(j:Nat) (q:PV) (a:AV),m.cs[j]?=some q→c[j]?=some a→View h a q):View h (.sl id 5 0 (out.length+1)) (smL (out++[m])):=by
 have hl:((out++[m]).map Sm.cs).length=out.length+1:=by simp
 have:=View.sl (h:=h) id 5 0 _ ((out++[m]).map Sm.cs) e (by rw[hl];simp[gd]) (fun x hx=>by obtain⟨b,_,rfl⟩:=List.mem_map.1 hx;exact b.cs_len) (fun i j e q e' a a1 a2 a3 a4=>?_)
 ·rwa[hl] at this
 rw[Nat.zero_add] at a3
 rw[List.map_append] at a1
 rcases Nat.lt_or_ge i out.length with hi|hi
 ·rw[List.getElem?_append_left (by simpa using hi),List.getElem?_map,List.getElem?_eq_getElem hi] at a1
  rw[List.getElem?_append_left (by simpa[gd] using hi),smR,List.getElem?_map,List.getElem?_eq_getElem hi] at a3
  cases a1;cases a3
  rw[List.getElem?_map,a2] at a4
  cases a4
  exact .p _
 ·rw[List.getElem?_append_right (by simpa using hi)] at a1
  rw[List.getElem?_append_right (by simpa[gd] using hi),gd] at a3
  rw[List.length_map] at a1
  cases hd:i-out.length with
  |zero=>
   rw[hd] at a1 a3
   cases a1;cases a3
   exact hc j q a a2 a4
  |succ n=>rw[hd] at a3;simp at a3
variable (G:aC)
theorem Ej{b:List Int}(hb:Byt b)(hl:b.length≤2000)(fns:List Fd)(hf:tM fns):CC G b fns 3:=
 xU G hb hl fns hf (d:=2) (by omega) fun _=>xU G hb hl fns hf (d:=1) (by omega) fun _=>xU G hb hl fns hf (d:=0) (by omega) fun h=>absurd h (by omega)
def abcW:List (List UInt8):=[[97],[98],[99]]
def fnQ(p:Nat)(name:List UInt8)(np:Nat)(left:Int)(v:AV)(q:Nat)(vs':List (List UInt8))(next' left':Int):Prop:=
 ∃f:Fd,v= .agg (f.cs.map .p)∧f.name=name∧f.params=abcW.take np∧am f.body≤40000500∧p≤q∧q≤p+40000500∧left-40000500≤left'∧left'≤left
theorem Mp{b:List Int}(hb:Byt b)(hl:b.length≤2000){p:Nat}(hp:p≤90000000000)(fns:List Fd)(hf:tM fns)(vs:List (List UInt8))(next left:Int)(hl0: -1000000000≤left)(hl1:left≤1000000000)(name:List UInt8)(np:Nat)(hnp:np≤3):
 AC Tryz.prog G gl [.ptr 1 5 0 0,.p (.str name),.p (.int .i64 np)] (HG b p fns vs next left) (PG b fns (fnQ p name np left) []):=by
 refine kH G (AC.goK sX td ?_)
 have hwn:IntKind.i64.wrap ((np:Int)-1)=(np:Int)-1:=ah (by omega) (by omega)
 have h3:(np:Int)≤3:=by omega
 simp-implicitDefEqProofs[K_spec_l3Gen_fn,F_spec_l3Gen_fn,HG,cJ,hwn,h3,hnp]
 refine lg (al 61 [(0,.ptr 1 5 0 0),(6,.ptr 3 3 0 0),(7,.ptr 4 3 0 0)]) [rdO b p,.row 5 [cJ fns (abcW.take np) ((np:Int)-1) left],br 3 (aJ fns),.row 3 [[.p (.str []),.nils,.nils]],.row 3 [[.p (.str name),.p (au (abcW.take np)),.nils]]] ?_ ?_
 ·have hlen:(abcW.take np).length=np:=by simp[abcW];omega
  simp-implicitDefEqProofs[hnp,hlen]
  refine⟨⟨by omega,by omega⟩,?_⟩
  have hcutR:ga (abcW.take np)= .row 1 (List.take np [[AV.p (PV.str [97])],[AV.p (PV.str [98])],[AV.p (PV.str [99])]]):=by
   simp only[ga,List.map_take];rfl
  rw[←hcutR]
  refine Wk.trans (tp (h1:=[rdO b p,.row 5 [[.ptr 0 2 0 0,slE 2 3 (aJ fns),.sl 4 1 0 np,.p (.int .i64 ((np:Int)-1)),.p (.int .i64 left)]],br 3 (aJ fns),.row 3 [[.p (.str []),.nils,.nils]],ga (abcW.take np),.dead,ga (abcW.take np),.row 3 [[.p (.str name),.sl 6 1 0 np,.nils]]])
   ⟨.inl rfl,.inl rfl,.inl rfl,.inl rfl,.inr ⟨1,_,np,rfl,hcutR⟩,.inl rfl,.inl rfl,.inl rfl,trivial⟩) ?_
  refine Wk.trans (fk (l1:=[(0,.ptr 1 5 0 0),(6,.ptr 3 3 0 0),(7,.ptr 4 3 0 0)])
   (h1:=[rdO b p,.row 5 [[.ptr 0 2 0 0,slE 2 3 (aJ fns),.sl 5 1 0 np,.p (.int .i64 ((np:Int)-1)),.p (.int .i64 left)]],br 3 (aJ fns),.row 3 [[.p (.str []),.nils,.nils]],.row 3 [[.p (.str name),.sl 6 1 0 np,.nils]],ga (abcW.take np),ga (abcW.take np)])
   [0,1,2,3,7,4,6] (by simp) (by decide) (by decide) (du rfl (bz _ _ _) (cr (by simp[below]) (by simp[ren,bp]) (du rfl (kz _ _) (bs rfl (by simp[below]) (cr (by simp[below]) (by simp[ren,bp]) (du rfl (lL _) (du rfl (lL _) cQ))))))) (by simp[below,ren]))
   (mz 5 (by omega) (by simp) rfl (.same (bz _ _ _) (.one (.keep (by simp[below]) (.keep (mb (by omega)) (.one ?_ (.keep (by simp) (.keep (by simp) .nil))))) (.same (kz _ _) (.same (by simp[okO,below]) (.one (.keep (by simp) (.one ?_ (.keep (by simp[below]) .nil))) (.nil _)))))) ?_)
  ·have:=iJ (l:=abcW.take np) (id:=5) (h:=mR 5 [rdO b p,.row 5 [[.ptr 0 2 0 0,slE 2 3 (aJ fns),.sl 5 1 0 np,.p (.int .i64 ((np:Int)-1)),.p (.int .i64 left)]],br 3 (aJ fns),.row 3 [[.p (.str []),.nils,.nils]],.row 3 [[.p (.str name),.sl 6 1 0 np,.nils]],ga (abcW.take np),ga (abcW.take np)]) rfl
   rwa[hlen] at this
  ·have:=iJ (l:=abcW.take np) (id:=6) (h:=mR 5 [rdO b p,.row 5 [[.ptr 0 2 0 0,slE 2 3 (aJ fns),.sl 5 1 0 np,.p (.int .i64 ((np:Int)-1)),.p (.int .i64 left)]],br 3 (aJ fns),.row 3 [[.p (.str []),.nils,.nils]],.row 3 [[.p (.str name),.sl 6 1 0 np,.nils]],ga (abcW.take np),ga (abcW.take np)]) rfl
   rwa[hlen] at this
  ·exact⟨.keep (by simp[below]) .nil,.keep (by simp[below]) .nil,.keep (by simp[below]) .nil,trivial⟩
 have hlen:(abcW.take np).length≤3:=by simp[abcW];omega
 have hw8:∀s∈abcW.take np,s.length≤8:=by
  intro s hs
  have:=List.mem_of_mem_take hs
  simp only[abcW,List.mem_cons,List.not_mem_nil,or_false] at this
  rcases this with rfl|rfl|rfl<;>simp
 have hPd:Pd 3=40000000:=rfl
 have hB:Bd (Pd 3) p (abcW.take np) ((np:Int)-1) left:=by rw[hPd];exact⟨by omega,by omega,hw8,by omega,by omega,by omega,by omega⟩
 simp-implicitDefEqProofs[cJ]
 refine(qx G (Ej G hb hl fns hf hB) _).mono ?_
 rintro r h ⟨out,q,n2,l2,rfl,rfl,z1,z2,m1,m2,m3,m4,m5,m6⟩
 rw[hPd] at z1 m2 m4 m5
 simp-implicitDefEqProofs[aa,cJ]
 have fin:∀(out:List Sm) (q:Nat) (l2:Int) (rest:List AO) (v:AV) (vc:AV) (vs':List (List UInt8)) (n2:Int),Fzs (.dead:: .dead:: .dead::rest) 3 [vc] [.p (au vs')]→Fzs (.dead:: .dead:: .dead::rest) 3 [v] [.agg ((Fd.mk name (abcW.take np) out).cs.map .p)]→am out≤40000500→p≤q→q≤p+40000500→left-40000500≤l2→l2≤left→
  DG b fns (fnQ p name np left) (.ret v) (rdO b q:: .row 5 [[.ptr 0 2 0 0,slE 2 3 (aJ fns),vc,.p (.int .i64 n2),.p (.int .i64 l2)]]::br 3 (aJ fns)::rest):=fun out q l2 rest v vc vs' n2 h1 h2 h3 h4 h5 h6 h7=>
  ⟨_,rest,q,_,_,vs',n2,l2,rfl,rfl,h1,h2,⟨name,abcW.take np,out⟩,rfl,rfl,rfl,h3,h4,h5,h6,h7⟩
 by_cases hl2:0<l2
 ·simp-implicitDefEqProofs[hl2]
  refine(bl G b hb hl q (by omega) 4 _).mono ?_
  rintro r h ⟨k,rfl,rfl,_⟩
  simp-implicitDefEqProofs[aa]
  refine bc (fun hc=>?_) (fun hc=>?_)
  ·have hwl:IntKind.i64.wrap (l2-1)=l2-1:=ah (by omega) (by omega)
   simp-implicitDefEqProofs[hwl]
   have hShrt:si (abcW.take np):=⟨by omega,hw8⟩
   refine(dp G (kV G hb hl (p:=q+1) (by omega) fns hf (abcW.take np) hShrt n2 (l2-1) (d:=2) (by omega)) _ (by simp[below])).mono ?_
   rintro r h ⟨v,q2,vs2,n3,l3,rfl,rfl,⟨e,rfl,he⟩,h1,h2,hvs,rfl,rfl⟩
   subst hvs
   have hec:=e.cs_eq
   have hol:(smR out).length=out.length:=gd out
   simp-implicitDefEqProofs[aa,cJ,hec,hol]
   refine⟨⟨by omega,by omega⟩,?_⟩
   have htk:List.take out.length (smR out)=smR out:=List.take_of_length_le (by omega)
   rw[htk]
   have hm:(Sm.mk 7 [] [e] [] []).cs=[.int .i64 7,.str [],.lst 4 [[.int .i64 e.op,.int .i64 e.n,.str e.name,exL e.kids]],.lst 5 [],.lst 5 []]:=by
    rw[Sm.cs_eq,←hec];rfl
   refine fin (out++[⟨7,[],[e],[],[]⟩]) q2 (l2-1) _ _ _ (abcW.take np) n3 (.keep (by simp) .nil) (.agg (.keep (by simp) (.keep (by simp) (.one (xX rfl ?_) .nil))) .nil) (by simp[bC,am,Sm.sz,aY];omega) (by omega) (by omega) (by omega) (by omega)
   intro j q a a1 a2
   rw[hm] at a1
   match j,a1,a2 with
   |0,a1,a2=>cases a1;cases a2;exact .p _
   |1,a1,a2=>cases a1;cases a2;exact .p _
   |2,a1,a2=>cases a1;cases a2;exact .p _
   |3,a1,a2=>cases a1;cases a2;exact View.e 0 5
   |4,a1,a2=>cases a1;cases a2;exact View.e 0 5
   |j+5,a1,a2=>simp at a1
  ·simp-implicitDefEqProofs[]
   exact fin out (q+1) l2 _ _ _ (abcW.take np) n2 (.keep (by simp) .nil) (.agg (.keep (by simp) (.keep (by simp) (.one (ko rfl) .nil))) .nil) (by omega) (by omega) (by omega) (by omega) (by omega)
 ·simp-implicitDefEqProofs[hl2]
  exact fin out q l2 _ _ _ (abcW.take np) n2 (.keep (by simp) .nil) (.agg (.keep (by simp) (.keep (by simp) (.one (ko rfl) .nil))) .nil) (by omega) (by omega) (by omega) (by omega) (by omega)
end Go.Proofs.YtnjbhgpbgmpkcaaGreatDoor
namespace Go.Proofs.YtnjbhgpbgmpkcaaGreatDoor
open Go Go.Aw
set_option maxRecDepth 100000
set_option maxHeartbeats 4000000
theorem vb{h:List AO}{s:List UInt8}{ps:List (List UInt8)}{bd:List Sm}{P B:AV}(hP:View h P (au ps))(hB:View h B (smL bd)):∀(j:Nat) (q:PV) (x:AV),(Fd.mk s ps bd).cs[j]?=some q→[AV.p (.str s),P,B][j]?=some x→View h x q:=by
 intro j q x e1 e2
 match j,e1,e2 with
 |0,e1,e2=>cases e1;cases e2;exact .p _
 |1,e1,e2=>cases e1;cases e2;exact hP
 |2,e1,e2=>cases e1;cases e2;exact hB
 |j+3,e1,e2=>simp[Fd.cs] at e1
theorem rR{h:List AO}{id:Nat}{l:List Fd}(e:h[id]?=some (.row 3 (aJ l))):View h (.sl id 3 0 l.length) (fdL l):=by
 have:=kf (h:=h) (id:=id) (sz:=3) (n:=l.length) (ls:=l.map Fd.cs) (by rw[e,aJ];simp) (by simp) (fun x hx=>by obtain⟨b,_,rfl⟩:=List.mem_map.1 hx;exact b.cs_len)
 exact this
theorem yE(a b:List Fd):aJ (a++b)=aJ a++aJ b:=by simp[aJ]
theorem uc(a:List Fd):(aJ a).length=a.length:=by simp[aJ]
theorem lG(a b:List Fd):aO (a++b)=aO a+aO b:=by simp[aO]
def KA:List Fd:=[⟨[109],[],[⟨3,[],[⟨1,1,[],[]⟩],[],[]⟩]⟩]
theorem BW:bu KA=true:=by decide
theorem BF(k:Nat)(hk:k≤3):(abcW.take k).length+((abcW.take k).map List.length).sum≤6:=by
 have h:k=0∨k=1∨k=2∨k=3:=by omega
 rcases h with rfl|rfl|rfl|rfl<;>decide
variable (G:aC)
structure PgS where (j:Nat) (fns:List Fd) (q:Nat) (vs:List (List UInt8)) (next left:Int)
def NS(b:List Int)(p n:Nat)(x:ARes)(h:List AO):Prop:=∃(l:List Fd) (q:Nat),x= .ret (.agg [.p (fdL l)])∧h=[rdO b q]∧bu l=true∧aO l≤200000000∧p≤q∧q≤p+n
def NF(b:List Int)(p n:Nat)(x:ARes)(h:List AO):Prop:=∃(l:List Fd) (q:Nat) (v:AV) (rest:List AO),x= .ret (.agg [v])∧h=rdO b q::rest∧View (mR 1 h) v (fdL l)∧bu l=true∧aO l≤200000000∧p≤q∧q≤p+n
theorem EI{b:List Int}(hb:Byt b)(hl:b.length≤2000){p:Nat}(hp:p≤10000000000):AC Tryz.prog G dC [.ptr 0 2 0 0] [rdO b p] (NS b p 200000000):=by
 refine AC.frz (R:=NF b p 200000000) ?_ 1 (by simp) (fun t v h ⟨_,_,_,_,e,_⟩=>by cases e) ?_
 ·refine AC.go vT ?_
  simp-implicitDefEqProofs[pD]
  refine(kw G hb hl (p:=p) (by omega) [14,20,8,26] (k:=2) (by simp) (by simp) (by omega) rfl rfl).mono ?_
  rintro r h ⟨L0,hL0,rfl,rfl⟩
  have hL:0≤L0∧L0≤26:=by simp at hL0;omega
  simp-implicitDefEqProofs[aa]
  refine(kw G hb hl (p:=p+1) (by omega) [0,1,1,2] (k:=4) (by simp) (by simp) (by omega) rfl rfl).mono ?_
  rintro r h ⟨J0,hJ0,rfl,rfl⟩
  obtain⟨J,rfl,hJ⟩:∃J:Nat,J0=J∧J≤2:=⟨J0.toNat,by simp at hJ0;omega,by simp at hJ0;omega⟩
  simp-implicitDefEqProofs[aa]
  refine aN (fun s:PgS=>al 69 [(0,.ptr 0 2 0 0),(2,.ptr 3 1 0 0),(3,.ptr 1 5 0 0),(4,.p (.int .i64 s.j))])
   (fun s=>[rdO b s.q,.row 5 [cJ s.fns s.vs s.next s.left],br 3 (aJ s.fns),.row 1 [[.nils]]])
   (fun s=>s.j+s.fns.length≤2∧tM s.fns∧aO s.fns≤s.fns.length*40000600∧p≤s.q∧s.q≤p+2+s.fns.length*40000600∧L0-s.fns.length*40000600≤s.left∧s.left≤L0)
   (fun s=>s.j) ⟨J,[],p+1+1,[],0,L0⟩ ⟨by simp only[List.length_nil];omega,⟨by simp,by simp⟩,by simp[aO],by simp only;omega,by simp,by simp,by simp⟩ ?_ ?_
  ·refine Wk.trans (fk (l1:=[(0,.ptr 0 2 0 0),(2,.ptr 3 1 0 0),(3,.ptr 1 5 0 0),(4,.p (.int .i64 J))])
    (h1:=[rdO b (p+1+1),.row 5 [[.ptr 0 2 0 0,.nils,.nils,.p (.int .i64 0),.p (.int .i64 L0)]],.dead,.row 1 [[.nils]]])
    [0,3,2,1] (by simp) (by decide) (by decide) (du rfl (bz _ _ _) (cr (by simp[below]) (by simp[ren,bp]) (eL (by simp) (bs rfl (by simp[below]) cQ)))) (by simp[below,ren]))
    (mz 4 (by omega) (by simp) rfl (.same (bz _ _ _) (.one (.keep (by simp[below]) (.keep (by simp[below,aJ,slE]) (.one (View.nils 1) (.keep (by simp) (.keep (by simp) .nil))))) (.dead (.same (by simp[okO,below]) (.nil _))))) ?_)
   exact⟨.keep (by simp[below]) .nil,.keep (by simp[below]) .nil,.keep (by simp[below]) .nil,.keep (by simp[below]) .nil,trivial⟩
  rintro⟨j,fns,q,vs,nx,lf⟩ ⟨i1,i2,i3,i4,i5,i6,i7⟩
  simp only at i1 i2 i3 i4 i5 i6 i7
  simp-implicitDefEqProofs[cJ]
  by_cases hj:0<j
  ·have hfl:fns.length<3:=by omega
   have hcl:(aJ fns).length=fns.length:=uc fns
   obtain⟨nm,hget,hnm⟩:∃nm:List UInt8,([[PV.str [102]],[PV.str [103]],[PV.str [104]]]:List (List PV))[fns.length]?=some [.str nm]∧nm.length≤8:=by
    have h3:fns.length=0∨fns.length=1∨fns.length=2:=by omega
    rcases h3 with h|h|h<;>rw[h]
    ·exact⟨[102],rfl,by simp⟩
    ·exact⟨[103],rfl,by simp⟩
    ·exact⟨[104],rfl,by simp⟩
   simp-implicitDefEqProofs[hj,hcl,hget]
   refine(bl G b hb hl q (by omega) 3 _).mono ?_
   rintro r h ⟨k,rfl,rfl,hk⟩
   have hk3:k≤3:=by omega
   simp-implicitDefEqProofs[aa,hcl,hget]
   refine(dp G (Mp G hb hl (p:=q+1) (by omega) fns i2 vs nx lf (by omega) (by omega) nm k hk3) _ (by simp[below])).mono ?_
   rintro r h ⟨v,q2,vs2,n2,l2,rfl,rfl,f,rfl,hf1,hf2,z1,z2,z3,z4,z5⟩
   have hcs:=f.cs_len
   have hcf:f.cs=[.str f.name,au f.params,smL f.body]:=rfl
   simp-implicitDefEqProofs[aa,cJ,hcf]
   have hfs:f.sz≤40000600:=by
    have h1:f.sz=1+f.name.length+(f.params.length+(f.params.map List.length).sum)+am f.body:=rfl
    have h2:=BF k hk3
    rw[←hf2] at h2
    rw[hf1] at h1
    omega
   have hwj:IntKind.i64.wrap ((j:Int)-1)=((j-1:Nat):Int):=by rw[ah (by omega) (by omega)];omega
   have hfp:f.params.length≤3:=by rw[hf2];simp[abcW];omega
   have hrow:aJ fns++[[AV.p (.str f.name),.p (au f.params),.p (smL f.body)]]=aJ (fns++[f]):=by rw[yE];rfl
   have hne:aJ (fns++[f])≠[]:=by simp[aJ]
   have hll:(aJ fns).length+1=(aJ (fns++[f])).length:=by simp[aJ]
   rw[hrow,hll]
   refine⟨⟨by rw[←hll,hcl];omega,by omega⟩,⟨j-1,fns++[f],q2,vs2,n2,l2⟩,⟨by simp;omega,⟨by simp;omega,?_⟩,by simp only[lG,List.length_append];simp[aO] at*;omega,by simp only;omega,by simp;omega,by simp;omega,by simp only;omega⟩,by simp only;omega,?_⟩
   ·intro x hx
    rcases List.mem_append.1 hx with h|h
    ·exact i2.2 x h
    ·rw[List.mem_singleton.1 h,hf1];exact⟨hnm,hfp⟩
   ·rw[dL hne,fu hne]
    refine fk [0,1,5,3] (by simp) (by decide) (by decide) (du rfl (bz _ _ _) (cr (by simp[below]) (by simp[ren,bp]) (bs rfl (jF _) (bs rfl (by simp[below]) cQ)))) (by simp[below,ren,hwj])
  ·simp-implicitDefEqProofs[hj]
   refine(kw G hb hl (p:=q) (by omega) [0,1,2,1] (k:=4) (by simp) (by simp) (by omega) rfl rfl).mono ?_
   rintro r h ⟨N0,hN0,rfl,rfl⟩
   obtain⟨np,rfl,hnp⟩:∃J:Nat,N0=J∧J≤2:=⟨N0.toNat,by simp at hN0;omega,by simp at hN0;omega⟩
   simp-implicitDefEqProofs[aa]
   refine(dp G (Mp G hb hl (p:=q+1) (by omega) fns i2 vs nx lf (by omega) (by omega) [109] np (by omega)) _ (by simp[below])).mono ?_
   rintro r h ⟨v,q2,vs2,n2,l2,rfl,rfl,f,rfl,hf1,hf2,z1,z2,z3,z4,z5⟩
   have hcf:f.cs=[.str f.name,au f.params,smL f.body]:=rfl
   have hcl:(aJ fns).length=fns.length:=uc fns
   have hfs:f.sz≤40000600:=by
    have h1:f.sz=1+f.name.length+(f.params.length+(f.params.map List.length).sum)+am f.body:=rfl
    have h2:=BF np (by omega)
    rw[←hf2] at h2
    rw[hf1] at h1
    simp at h1
    omega
   by_cases hfe:fns=[]
   ·subst hfe
    have h0:aJ []=[]:=rfl
    rw[h0]
    simp-implicitDefEqProofs[aa,cJ,hcf,h0,mc,ut]
    have hrow:[[AV.p (.str f.name),.p (au f.params),.p (smL f.body)]]=aJ [f]:=rfl
    rw[hrow]
    have vw:∀h:List AO,h[8]?=some (.row 3 (aJ [f]))→View h (.sl 8 3 0 1) (fdL [f]):=fun h e=>rR (l:=[f]) e
    refine((ke G [f] (by simp only[aO,List.map_cons,List.map_nil,List.sum_cons,List.sum_nil] at*;omega)).lend (.agg (.one (vw _ rfl) .nil) .nil) rfl).mono ?_
    rintro r h ⟨rfl,rfl⟩
    simp-implicitDefEqProofs[aa]
    by_cases hok:bu [f]=true
    ·simp-implicitDefEqProofs[hok]
     exact⟨[f],q2,_,_,rfl,rfl,vw _ rfl,hok,by simp only[aO,List.map_cons,List.map_nil,List.sum_cons,List.sum_nil] at*;omega,by omega,by omega⟩
    ·have hok':bu [f]=false:=by simpa using hok
     simp-implicitDefEqProofs[hok']
     exact⟨KA,q2,_,_,rfl,rfl,bG (p0:=(Fd.mk [109] [] [⟨3,[],[⟨1,1,[],[]⟩],[],[]⟩]).cs) rfl rfl (vb (View.nils 1) (bG (p0:=(Sm.mk 3 [] [⟨1,1,[],[]⟩] [] []).cs) rfl (Sm.cs_len _) (cf (bG (p0:=(Ex.mk 1 1 [] []).cs) rfl (Ex.cs_len _) (gE (View.nils 4))) (View.nils 5) (View.nils 5)))),BW,by decide,by omega,by omega⟩
   ·have h0:aJ fns≠[]:=fun h=>hfe (List.map_eq_nil_iff.1 h)
    simp only[cJ,fu h0,dL h0]
    simp-implicitDefEqProofs[aa,hcf,hcl]
    refine⟨⟨by omega,by omega⟩,⟨by omega,by omega⟩,?_⟩
    have hrow:List.take fns.length (List.take fns.length (aJ fns))++[[AV.p (.str f.name),.p (au f.params),.p (smL f.body)]]=aJ (fns++[f]):=by
     rw[List.take_of_length_le (by rw[List.length_take];omega),List.take_of_length_le (by omega),yE];rfl
    rw[hrow]
    have vw:∀h:List AO,h[8]?=some (.row 3 (aJ (fns++[f])))→View h (.sl 8 3 0 (fns.length+1)) (fdL (fns++[f])):=fun h e=>by
     have:=rR e
     rwa[List.length_append,List.length_singleton] at this
    refine((ke G (fns++[f]) (by rw[lG];simp only[aO,List.map_cons,List.map_nil,List.sum_cons,List.sum_nil] at*;omega)).lend (.agg (.one (vw _ rfl) .nil) .nil) rfl).mono ?_
    rintro r h ⟨rfl,rfl⟩
    simp-implicitDefEqProofs[aa]
    by_cases hok:bu (fns++[f])=true
    ·simp-implicitDefEqProofs[hok]
     exact⟨fns++[f],q2,_,_,rfl,rfl,vw _ rfl,hok,by rw[lG];simp only[aO,List.map_cons,List.map_nil,List.sum_cons,List.sum_nil] at*;omega,by omega,by omega⟩
    ·have hok':bu (fns++[f])=false:=by simpa using hok
     simp-implicitDefEqProofs[hok']
     exact⟨KA,q2,_,_,rfl,rfl,bG (p0:=(Fd.mk [109] [] [⟨3,[],[⟨1,1,[],[]⟩],[],[]⟩]).cs) rfl rfl (vb (View.nils 1) (bG (p0:=(Sm.mk 3 [] [⟨1,1,[],[]⟩] [] []).cs) rfl (Sm.cs_len _) (cf (bG (p0:=(Ex.mk 1 1 [] []).cs) rfl (Ex.cs_len _) (gE (View.nils 4))) (View.nils 5) (View.nils 5)))),BW,by decide,by omega,by omega⟩
 ·rintro v h ⟨l,q,v0,rest,e,rfl,hv,h1,h2,h3,h4⟩
  cases e
  exact⟨_,[rdO b q],by simp,rfl,.agg (.one hv .nil) .nil,.same (bz _ _ _) (.nil _),l,q,rfl,rfl,h1,h2,h3,h4⟩
end Go.Proofs.YtnjbhgpbgmpkcaaGreatDoor
namespace Go.Proofs.YtnjbhgpbgmpkcaaGreatDoor
open Go Go.Aw
set_option maxRecDepth 100000
set_option maxHeartbeats 4000000
variable (G:aC)
theorem wU{hF:List AO}{n:Nat}{o k:Int}{w:List UInt8}{ks:List Ex}{K:AV}(hk:View hF K (exL ks)):Fzs hF n [.agg [.p (.int .i64 o),.p (.int .i64 k),.p (.str w),K]] [.agg ((Ex.mk o k w ks).cs.map .p)]:=by
 rw[Ex.cs_eq]
 exact .agg (.keep (by simp) (.keep (by simp) (.keep (by simp) (.one hk .nil)))) .nil
def GU(h:List AO)(kids:List Ex)(K:AV):Prop:=(K= .nils∧kids=[])∨∃id rows hX,K= .sl (id+1) 4 0 kids.length∧kids≠[]∧h[id+1]?=some (.row 4 rows)∧hX.length=h.length∧(∀(i:Nat) o,hX[i]?=some o→o.live→h[i]?=some o)∧¬Live hX 0∧¬Live hX (id+1)∧
 rows.length=kids.length∧∀(j:Nat) (e e1:List AV),rows[j]?=some e→(exR kids)[j]?=some e1→Fzs hX h.length e e1
def DT(b:List Int)(Q:Ex→Nat→Prop)(x:ARes)(h:List AO):Prop:=∃(e:Ex) (q:Nat) (rest:List AO) (K:AV),x= .ret (.agg [.p (.int .i64 e.op),.p (.int .i64 e.n),.p (.str e.name),K])∧h=rdO b q::rest∧GU h e.kids K∧Q e q
def EN(b:List Int)(Q:Ex→Nat→Prop)(x:ARes)(h:List AO):Prop:=∃(e:Ex) (q:Nat),x= .ret (.agg [.p (.int .i64 e.op),.p (.int .i64 e.n),.p (.str e.name),slE 1 4 (exR e.kids)])∧h=[rdO b q,br 4 (exR e.kids)]∧Q e q
def EoQ(p n m:Nat)(e:Ex)(q:Nat):Prop:=e.sz≤n∧p≤q∧q≤p+m
theorem zb{hF:List AO}{n:Nat}:∀h:List AO,FzO hF n h (List.replicate h.length .dead)
 |[]=> .nil _
 |o::r=>by rw[List.length_cons,List.replicate_succ];exact .dead (zb r)
theorem yF{hF:List AO}{n sz:Nat}{es es1:List (List AV)}(hl:es.length=es1.length)(hv:∀(j:Nat) (e e1:List AV),es[j]?=some e→es1[j]?=some e1→Fzs hF n e e1):∀(h:List AO) (id:Nat),h[id]?=some (.row sz es)→FzO hF n h ((List.replicate h.length .dead).set id (.row sz es1))
 |[],id,e=>by simp at e
 |o::r,0,e=>by
  cases e
  rw[List.length_cons,List.replicate_succ,List.set_cons_zero]
  exact .rows hl hv (zb r)
 |o::r,id+1,e=>by
  rw[List.length_cons,List.replicate_succ,List.set_cons_succ]
  exact .dead (yF hl hv r id (by simpa using e))
theorem yJ{f:FuncId}{args:List AV}{b:List Int}{p:Nat}{Q:Ex→Nat→Prop}(H:AC Tryz.prog G f args [rdO b p] (DT b Q)):AC Tryz.prog G f args [rdO b p] (EN b Q):=by
 refine H.wk (fun t v h ⟨_,_,_,_,e,_⟩=>by cases e) ?_
 rintro v h ⟨e,q,rest,K,ev,rfl,hk,hq⟩
 cases ev
 rcases hk with⟨rfl,hk⟩|⟨id,rows,hX,rfl,hne,he,x1,x2,x3,x4,x5,x6⟩
 ·refine⟨_,_,?_,e,q,rfl,rfl,hq⟩
  have h0:exR e.kids=[]:=by rw[hk];rfl
  rw[h0,mc,ut]
  exact Wk.ofL [0,0] (by simp) (by simp) (by simp[rdO,jb]) (by simp[below,ag,ren,bp]) (du rfl (bz _ _ _) (eL (by simp) cQ))
 ·have hr:exR e.kids≠[]:=fun h=>hne (List.map_eq_nil_iff.1 h)
  have hrl:(exR e.kids).length=e.kids.length:=by simp[exR]
  rw[List.getElem?_cons_succ] at he
  have hid:id<rest.length:=(List.getElem?_eq_some_iff.1 he).1
  refine⟨.agg [.p (.int .i64 e.op),.p (.int .i64 e.n),.p (.str e.name),slE 1 4 (exR e.kids)],[rdO b q,br 4 (exR e.kids)],?_,e,q,rfl,rfl,hq⟩
  rw[dL hr,fu hr,hrl]
  refine Wk.trans (ts1:=[.agg [.p (.int .i64 e.op),.p (.int .i64 e.n),.p (.str e.name),.sl (id+1) 4 0 e.kids.length]]) (h1:=rdO b q::(List.replicate rest.length .dead).set id (.row 4 (exR e.kids))) (Ca (hX:=hX) (by simp) x1 x2 (fun i ⟨o,e1,l1⟩ ⟨o2,e2,l2⟩=>?_) (by simp) rfl (fun i u hi=>?_) (.same (bz _ _ _) (yF (by rw[hrl];exact x5) x6 rest id he))) ?_
  ·cases i with
   |zero=>exact x3 ⟨o,e1,l1⟩
   |succ i=>
    by_cases hi:i=id
    ·subst hi;exact x4 ⟨o,e1,l1⟩
    ·rw[List.getElem?_cons_succ,List.getElem?_set_ne (Ne.symm hi),List.getElem?_replicate] at e2
     split at e2
     ·cases e2;exact l2
     ·cases e2
  ·cases i with
   |zero=>cases hi;exact .inr ⟨_,rfl,gQ (by simp[below,ag];exact hid)⟩
   |succ i=>simp at hi
  ·refine Wk.of [0,id+1] (by simp) (by simp) (by simp) (by simp[below,ag,ren,bp]) (du rfl (bz _ _ _) (bs ?_ (dM _) cQ))
   rw[List.getElem?_cons_succ,List.getElem?_set_self (by simpa using hid)]
theorem tx{f:FuncId}{args:List AV}{b:List Int}{p:Nat}{Q:Ex→Nat→Prop}(H:AC Tryz.prog G f args [rdO b p] (EN b Q))(rest:List AO)(ha:ag 1 args):
 AC Tryz.prog G f args (rdO b p::rest) fun x h=>∃(e:Ex) (q:Nat),x= .ret (.agg [.p (.int .i64 e.op),.p (.int .i64 e.n),.p (.str e.name),slE (rest.length+1) 4 (exR e.kids)])∧h=rdO b q::(rest++[br 4 (exR e.kids)])∧Q e q:=by
 refine(H.frame (h:=rdO b p::rest) [0] (by simp) (zM (n:=1) ha) (du rfl (bz _ _ _) cQ)).mono ?_
 rintro x h ⟨x0,h0,⟨e,q,rfl,rfl,hq⟩,hl,rfl,rfl⟩
 have hp:∀σ,fb σ (br 4 (exR e.kids))=br 4 (exR e.kids):=fun σ=>by
  unfold br
  split
  ·rfl
  ·simp only[fb]
   rw[List.map_congr_left (g:=id) fun x hx=>dT _ x (dM _ x hx)];simp
 have hp2:∀σ,fb σ (rdO b q)=rdO b q:=fun σ=>by simp[rdO,fb,bp,ren]
 refine⟨e,q,?_,?_,hq⟩
 ·simp[uf,ren,bp]
 ·have hl2:([rdO b q,br 4 (exR e.kids)]:List AO).length-[rdO b p].length=1:=rfl
  rw[hl2]
  simp only[List.length_cons,List.length_nil,Nat.zero_add,List.take_succ_cons,List.take_zero,List.map_cons,List.map_nil,hp2,List.drop_succ_cons,List.drop_zero,mrg,List.set_cons_zero,List.cons_append,hp]
def LfQ(p:Nat)(v:AV)(q:Nat):Prop:=(∃(o n:Int) (s:List UInt8),v= .agg [.p (.int .i64 o),.p (.int .i64 n),.p (.str s),.nils]∧s.length≤8)∧p≤q∧q≤p+2
theorem Dc{b:List Int}(hb:Byt b)(hl:b.length≤2000){p:Nat}(hp:p≤1000000000000)(names:List (List UInt8))(hn:si names):AC Tryz.prog G dE [.ptr 0 2 0 0,.p (au names)] [rdO b p] fun x h=>∃v q,x= .ret v∧h=[rdO b q]∧LfQ p v q:=by
 refine lX G (AC.go pO ?_)
 have hsl:au names= .lst 1 (names.map fun w=>[.str w]):=rfl
 have fin1:∀(o n:Int) (s:List UInt8) (q:Nat) (rest:List AO),p≤q→q≤p+2→s.length≤8→DP b (LfQ p) (.ret (.agg [.p (.int .i64 o),.p (.int .i64 n),.p (.str s),.nils])) (rdO b q::rest):=fun o n s q rest h1 h2 hs=>
  ⟨_,rest,q,_,rfl,rfl,gQ (by simp),⟨o,n,s,rfl,hs⟩,h1,h2⟩
 have num:∀(q:Nat) (h:List AO),q≤1000000000001→h[0]?=some (rdO b q)→h[2]?=some (ug [0,1,2,3,5,7,15,16,100,255])→_:=fun q h hq h0 h1=>kw G hb hl (p:=q) (by omega) [0,1,2,3,5,7,15,16,100,255] (h:=h) (k:=2) (by simp) (by simp) (by omega) h0 h1
 by_cases hne:names=[]
 ·subst hne
  have hs0:au []= .lst 1 []:=rfl
  simp-implicitDefEqProofs[fQ,hs0]
  refine(num p _ (by omega) rfl rfl).mono ?_
  rintro r h ⟨n,_,rfl,rfl⟩
  simp-implicitDefEqProofs[aa]
  exact fin1 _ _ _ _ _ (by omega) (by omega) (by simp)
 ·have hlen:¬names.length=0:=fun h=>hne (List.eq_nil_of_length_eq_zero h)
  simp-implicitDefEqProofs[fQ,hsl,hne]
  refine(bl G b hb hl p (by omega) 3 _).mono ?_
  rintro r h ⟨k,rfl,rfl,_⟩
  simp-implicitDefEqProofs[aa]
  refine bc (fun hc=>?_) (fun hc=>?_)
  ·simp-implicitDefEqProofs[]
   refine(num (p+1) _ (by omega) rfl rfl).mono ?_
   rintro r h ⟨n,_,rfl,rfl⟩
   simp-implicitDefEqProofs[aa]
   exact fin1 _ _ _ _ _ (by omega) (by omega) (by simp)
  ·simp-implicitDefEqProofs[]
   rw[←hsl]
   refine(Bt G hb hl (by omega) names hne (by have:=hn.1;omega) _).mono ?_
   rintro r h ⟨s,hs,rfl,rfl⟩
   have:=hn.2 s hs
   simp-implicitDefEqProofs[aa]
   exact fin1 _ _ _ _ _ (by omega) (by omega) this
theorem DF{b:List Int}(hb:Byt b)(hl:b.length≤2000)(names:List (List UInt8))(hn:si names)(d:Nat)(hd:d+1≤20){p:Nat}(hp:p+6*3^(d+1)≤1000000000000):AC Tryz.prog G be [.ptr 0 2 0 0,.p (au names),.p (.int .i64 ((d+1:Nat):Int))] [rdO b p] (EN b (EoQ p (10*3^(d+1)) (6*3^(d+1)))):=by
 have hpow:3^(d+1)=3*3^d:=by rw[Nat.pow_succ];omega
 have h1p:1≤3^d:=Nat.one_le_pow _ _ (by omega)
 have ih:=fun{p:Nat} (hp:p+6*3^d≤1000000000000)=>vn G hb hl names hn d (by omega) (p:=p) hp
 rw[hpow] at hp⊢
 generalize 3^d=t at*
 have hw:IntKind.i64.wrap (d:Int)=(d:Int):=ah (by omega) (by omega)
 have leaf:∀(q:Nat) (rest:List AO),p≤q→q≤p+3→AC Tryz.prog G dE [.ptr 0 2 0 0,.p (au names)] (rdO b q::rest) fun x h=>∃v q',x= .ret v∧h=rdO b q'::rest∧LfQ q v q':=fun q rest _ _=>jj G (Dc G hb hl (by omega) names hn) rest (by simp[below])
 have sub:∀(q:Nat) (rest:List AO),p≤q→q≤p+6+6*t→AC Tryz.prog G be [.ptr 0 2 0 0,.p (au names),.p (.int .i64 d)] (rdO b q::rest) fun x h=>∃v q',x= .ret v∧h=rdO b q'::rest∧ExQ q (10*t) (6*t) v q':=fun q rest _ _=>jj G (ih (by omega)) rest (by simp[below])
 refine yJ G (AC.go lb ?_)
 have leafCase:∀(o n:Int) (s:List UInt8) (q:Nat) (rest:List AO),s.length≤8→p≤q→q≤p+5→DT b (EoQ p (10*(3*t)) (6*(3*t))) (.ret (.agg [.p (.int .i64 o),.p (.int .i64 n),.p (.str s),.nils])) (rdO b q::rest):=fun o n s q rest h1 h2 h3=>
  ⟨⟨o,n,s,[]⟩,q,rest,_,rfl,rfl,.inl ⟨rfl,rfl⟩,by simp[Ex.sz,aY];omega,h2,by omega⟩
 have top:∀(kids:List Ex) (h:List AO) (k:Nat),h[k+1]?=some (.row 4 (exR kids))→kids≠[]→GU h kids (.sl (k+1) 4 0 kids.length):=fun kids h k hk hne=>
  .inr ⟨k,exR kids,List.replicate h.length .dead,rfl,hne,hk,by simp,fun i o e l=>(by rw[List.getElem?_replicate] at e;split at e<;>cases e;exact l.elim),fun⟨o,e,l⟩=>(by rw[List.getElem?_replicate] at e;split at e<;>cases e;exact l.elim),fun⟨o,e,l⟩=>(by rw[List.getElem?_replicate] at e;split at e<;>cases e;exact l.elim),by simp[exR],fun j e e1 h1 h2=>(by rw[h1] at h2;cases h2;exact gQ (az (Nat.zero_le _) _ (dM _ e (List.mem_of_getElem? h1))))⟩
 have bin:∀(o:Int) (e1 e2:Ex) (q:Nat) (rest:List AO) (k:Nat),(rdO b q::rest)[k+1]?=some (.row 4 [e1.cs.map .p,e2.cs.map .p])→e1.sz≤10*t→e2.sz≤10*t→p≤q→q≤p+6*(3*t)→DT b (EoQ p (10*(3*t)) (6*(3*t))) (.ret (.agg [.p (.int .i64 o),.p (.int .i64 0),.p (.str []),.sl (k+1) 4 0 2])) (rdO b q::rest):=fun o e1 e2 q rest k hk h1 h2 h3 h4=>
  ⟨⟨o,0,[],[e1,e2]⟩,q,rest,_,rfl,rfl,top [e1,e2] _ k hk (by simp),by simp[Ex.sz,aY];omega,h3,h4⟩
 have una:∀(o:Int) (e1:Ex) (q:Nat) (rest:List AO) (k:Nat),(rdO b q::rest)[k+1]?=some (.row 4 [e1.cs.map .p])→e1.sz≤10*t→p≤q→q≤p+6*(3*t)→DT b (EoQ p (10*(3*t)) (6*(3*t))) (.ret (.agg [.p (.int .i64 o),.p (.int .i64 0),.p (.str []),.sl (k+1) 4 0 1])) (rdO b q::rest):=fun o e1 q rest k hk h1 h3 h4=>
  ⟨⟨o,0,[],[e1]⟩,q,rest,_,rfl,rfl,top [e1] _ k hk (by simp),by simp[Ex.sz,aY];omega,h3,h4⟩
 by_cases hd0:d=0
 ·subst hd0
  simp-implicitDefEqProofs[eF]
  refine(leaf p _ (by omega) (by omega)).mono ?_
  rintro r h ⟨v,q,rfl,rfl,⟨o,n,s,rfl,he⟩,h1,h2⟩
  simp-implicitDefEqProofs[aa]
  exact leafCase o n s q _ he (by omega) (by omega)
 have hd2:¬(d:Int)+1<2:=by omega
 simp-implicitDefEqProofs[eF,hd2]
 refine(bl G b hb hl p (by omega) 4 _).mono ?_
 rintro r h ⟨k1,rfl,rfl,_⟩
 simp-implicitDefEqProofs[aa]
 refine bc (fun hc=>?_) (fun hc=>?_)
 ·simp-implicitDefEqProofs[]
  refine(leaf (p+1) _ (by omega) (by omega)).mono ?_
  rintro r h ⟨v,q,rfl,rfl,⟨o,n,s,rfl,he⟩,h1,h2⟩
  simp-implicitDefEqProofs[aa]
  exact leafCase o n s q _ he (by omega) (by omega)
 simp-implicitDefEqProofs[]
 refine(bl G b hb hl (p+1) (by omega) 7 _).mono ?_
 rintro r h ⟨k2,rfl,rfl,_⟩
 simp-implicitDefEqProofs[aa]
 refine bc (fun hc=>?_) (fun hc=>?_)
 ·simp-implicitDefEqProofs[]
  refine(kw G hb hl (p:=p+2) (by omega) [11,12,11] (k:=2) (by simp) (by simp) (by omega) rfl rfl).mono ?_
  rintro r h ⟨n,_,rfl,rfl⟩
  simp-implicitDefEqProofs[aa,hw]
  refine(sub (p+3) _ (by omega) (by omega)).mono ?_
  rintro r h ⟨v,q,rfl,rfl,⟨e,rfl,he⟩,h1,h2⟩
  have hec:=e.cs_eq
  simp-implicitDefEqProofs[aa,hec]
  exact una n e q _ 2 (by rw[hec];rfl) he (by omega) (by omega)
 ·simp-implicitDefEqProofs[]
  refine(kw G hb hl (p:=p+2) (by omega) [3,3,4,5,6,7,8,9,10] (k:=2) (by simp) (by simp) (by omega) rfl rfl).mono ?_
  rintro r h ⟨n,_,rfl,rfl⟩
  simp-implicitDefEqProofs[aa,hw]
  refine(sub (p+3) _ (by omega) (by omega)).mono ?_
  rintro r h ⟨v,q,rfl,rfl,⟨e,rfl,he⟩,h1,h2⟩
  have hec:=e.cs_eq
  simp-implicitDefEqProofs[aa,hec,hw]
  refine(sub q _ (by omega) (by omega)).mono ?_
  rintro r h ⟨v,q2,rfl,rfl,⟨e2,rfl,he2⟩,h3,h4⟩
  have hec2:=e2.cs_eq
  simp-implicitDefEqProofs[aa,hec2]
  exact bin n e e2 q2 _ 2 (by rw[hec,hec2];rfl) he he2 (by omega) (by omega)
end Go.Proofs.YtnjbhgpbgmpkcaaGreatDoor
namespace Go.Proofs.YtnjbhgpbgmpkcaaGreatDoor
open Go Go.Aw
set_option maxRecDepth 100000
set_option maxHeartbeats 4000000
variable (G:aC)
theorem Mx{h:List AO}{kids:List Ex}{id:Nat}(he:h[id+1]?=some (br 4 (exR kids))):GU h kids (slE (id+1) 4 (exR kids)):=by
 by_cases hk:kids=[]
 ·subst hk;exact .inl ⟨rfl,rfl⟩
 ·have hr:exR kids≠[]:=fun h=>hk (List.map_eq_nil_iff.1 h)
  rw[fu hr] at he
  rw[dL hr]
  have hrl:(exR kids).length=kids.length:=by simp[exR]
  rw[hrl]
  exact .inr ⟨id,exR kids,List.replicate h.length .dead,rfl,hk,he,by simp,fun i o e l=>(by rw[List.getElem?_replicate] at e;split at e<;>cases e;exact l.elim),fun⟨o,e,l⟩=>(by rw[List.getElem?_replicate] at e;split at e<;>cases e;exact l.elim),fun⟨o,e,l⟩=>(by rw[List.getElem?_replicate] at e;split at e<;>cases e;exact l.elim),by simp[exR],fun j e e1 h1 h2=>(by rw[h1] at h2;cases h2;exact gQ (az (Nat.zero_le _) _ (dM _ e (List.mem_of_getElem? h1))))⟩
theorem JK(l:List Ex)(n:Nat):okO n (br 4 (exR l)):=bU (Cd (dM l))
theorem Ey{hF:List AO}{n id:Nat}{e:Ex}(he:hF[id]?=some (br 4 (exR e.kids))):Fzs hF n [.p (.int .i64 e.op),.p (.int .i64 e.n),.p (.str e.name),slE id 4 (exR e.kids)] (e.cs.map .p):=by
 rw[e.cs_eq]
 exact .keep (by simp) (.keep (by simp) (.keep (by simp) (.one (gD he) .nil)))
structure KdS where (k:Nat) (es:List Ex) (q:Nat)
theorem xo{b:List Int}(hb:Byt b)(hl:b.length≤2000){d:Nat}(hd:d+1≤7){p:Nat}(hp:p+20000≤1000000000000):AC Tryz.prog G fj [.ptr 0 2 0 0,.p (.int .i64 ((d+1:Nat):Int))] [rdO b p] (EN b (EoQ p 30000 20000)):=by
 refine yJ G (AC.go xn ?_)
 have h3:3^(d+1)≤2187:=by
  have:3^(d+1)≤3^7:=Nat.pow_le_pow_right (by omega) hd
  omega
 have fin:∀(e:Ex) (q:Nat) (rest:List AO) (K:AV),GU (rdO b q::rest) e.kids K→e.sz≤30000→p≤q→q≤p+20000→DT b (EoQ p 30000 20000) (.ret (.agg [.p (.int .i64 e.op),.p (.int .i64 e.n),.p (.str e.name),K])) (rdO b q::rest):=fun e q rest K hk h1 h2 h3=>
  ⟨e,q,rest,K,rfl,rfl,hk,h1,h2,h3⟩
 have hn4:si [[97],[98],[120],[103,111]]:=⟨by simp,by simp⟩
 have hn2:si [[97],[98]]:=⟨by simp,by simp⟩
 simp-implicitDefEqProofs[qA]
 refine(AC.give (hX:=[.dead,.dead,ga [[97],[98],[120],[103,111]]]) (hR:=[rdO b p,.row 4 [[.p (.int .i64 0),.p (.int .i64 0),.p (.str []),.nils]],.dead]) (pargs:=[.ptr 0 2 0 0,.p (au [[97],[98],[120],[103,111]]),.p (.int .i64 ((d+1:Nat):Int))]) (.keep _ (.keep _ (.give _ .nil))) (.keep (by simp[below]) (.one (iJ (l:=[[97],[98],[120],[103,111]]) rfl) (.keep (by simp) .nil))) (tx G (DF G hb hl _ hn4 d (by omega) (by omega)) _ (by simp[below]))).mono ?_
 rintro r h ⟨e0,q,rfl,rfl,he0,h1,h2⟩
 simp-implicitDefEqProofs[aa]
 refine(bl G b hb hl q (by omega) 3 _).mono ?_
 rintro r h ⟨k1,rfl,rfl,_⟩
 simp-implicitDefEqProofs[aa]
 refine bc (fun hc=>?_) (fun hc=>?_)
 ·simp-implicitDefEqProofs[]
  exact fin e0 _ _ _ (Mx rfl) (by omega) (by omega) (by omega)
 simp-implicitDefEqProofs[]
 refine(zi G hb hl (p:=q+1) (by omega) [[102],[103],[97]] (k:=5) (by simp) (by simp) (by omega) rfl rfl).mono ?_
 rintro r h ⟨s,hs,rfl,rfl⟩
 have hsl:s.length≤8:=by simp at hs;rcases hs with rfl|rfl|rfl<;>simp
 simp-implicitDefEqProofs[aa]
 refine(bl G b hb hl (q+1+1) (by omega) 4 _).mono ?_
 rintro r h ⟨k2,rfl,rfl,hk2⟩
 simp-implicitDefEqProofs[aa]
 have hexn:∀(es:List Ex) (e:Ex),exR (es++[e])=exR es++[e.cs.map .p]:=fun es e=>by simp[exR]
 refine aN (fun s:KdS=>al 42 [(7,.p (.int .i64 s.k)),(6,.ptr 6 4 0 0),(5,.ptr 4 4 0 0),(4,.ptr 1 4 0 0),(0,.ptr 0 2 0 0)])
  (fun a=>[rdO b a.q,.row 4 [[.p (.int .i64 0),.p (.int .i64 0),.p (.str []),.nils]],.dead,br 4 (exR e0.kids),.row 4 [[.p (.int .i64 e0.op),.p (.int .i64 e0.n),.p (.str e0.name),slE 3 4 (exR e0.kids)]],.row 1 [[.p (.str [102])],[.p (.str [103])],[.p (.str [97])]],
    .row 4 [[.p (.int .i64 13),.p (.int .i64 0),.p (.str s),slE 7 4 (exR a.es)]],br 4 (exR a.es)])
  (fun a=>a.k+a.es.length≤3∧aY a.es≤90*a.es.length∧q≤a.q∧a.q≤q+3+54*a.es.length) (fun a=>a.k) ⟨k2,[],q+1+1+1⟩ ⟨by simp only[List.length_nil];omega,by simp[aY],by simp only;omega,by simp⟩
  (ic (by simp) (by simp) (by
    intro o h
    simp only[List.mem_cons,List.not_mem_nil,or_false] at h
    rcases h with rfl|rfl|rfl|rfl|rfl|rfl|rfl
    ·exact bz _ _ _
    ·simp[okO,below]
    ·simp[okO]
    ·exact JK _ _
    ·simp[okO,below]
    ·simp[okO,below]
    ·simp[okO,below]) (by simp[below])) ?_
 rintro⟨k,es,q1⟩ ⟨i1,i2,i3,i4⟩
 simp only at i1 i2 i3 i4
 have hxl:(exR es).length=es.length:=by simp[exR]
 simp-implicitDefEqProofs[]
 refine bc (fun hc=>?_) (fun hc=>?_)
 ·simp at hc
  simp-implicitDefEqProofs[]
  have hE:=jj G (vn G hb hl _ hn2 2 (by omega) (p:=q1) (by omega)) ([.row 4 [[.p (.int .i64 0),.p (.int .i64 0),.p (.str []),.nils]],.dead,br 4 (exR e0.kids),.row 4 [[.p (.int .i64 e0.op),.p (.int .i64 e0.n),.p (.str e0.name),slE 3 4 (exR e0.kids)]],.row 1 [[.p (.str [102])],[.p (.str [103])],[.p (.str [97])]],
   .row 4 [[.p (.int .i64 13),.p (.int .i64 0),.p (.str s),slE 7 4 (exR es)]],br 4 (exR es)]) (by simp[below])
  refine hE.mono ?_
  rintro r h ⟨v,q2,rfl,rfl,⟨e,rfl,he⟩,hq1,hq2⟩
  have hec':=e.cs_eq
  simp-implicitDefEqProofs[aa,hec']
  refine⟨by rw[hxl];omega,⟨k-1,es++[e],q2⟩,⟨by simp;omega,by rw[fe];simp[aY];omega,by simp only;omega,by simp;omega⟩,by simp;omega,?_⟩
  have hwk:IntKind.i64.wrap ((k:Int)-1)=((k-1:Nat):Int):=by rw[ah (by omega) (by omega)];omega
  rw[hexn,mr _ (by simp),jP _ (by simp),hec']
  refine fk [0,1,2,3,4,5,6,8] (by simp) (by decide) (by decide) (du rfl (bz _ _ _) (cr (by simp[below]) (by simp[ren,bp]) (eL (by simp) (HK rfl (dM _) (cr (by simp[below]) (by simp[ren,bp]) (bs rfl (by simp[below]) (cr (by simp[below]) (by simp[ren,bp]) (bs rfl (fun x hx=>by
   rcases List.mem_append.1 hx with h|h
   ·exact dM _ x h
   ·rw[List.mem_singleton.1 h];simp) cQ)))))))) ?_
  simp[below,ren,hwk]
 ·simp at hc
  simp-implicitDefEqProofs[]
  refine(bl G b hb hl q1 (by omega) 2 _).mono ?_
  rintro r h ⟨k3,rfl,rfl,_⟩
  simp-implicitDefEqProofs[aa]
  refine bc (fun hc2=>?_) (fun hc2=>?_)
  ·simp-implicitDefEqProofs[]
   exact fin ⟨13,0,s,es⟩ (q1+1) _ _ (Mx rfl) (by simp[Ex.sz];omega) (by omega) (by omega)
  ·simp-implicitDefEqProofs[]
   have hv:∀hF:List AO,hF[3]?=some (br 4 (exR e0.kids))→hF[7]?=some (br 4 (exR es))→∀(n j:Nat) (x x1:List AV),[[AV.p (.int .i64 e0.op),.p (.int .i64 e0.n),.p (.str e0.name),slE 3 4 (exR e0.kids)],[.p (.int .i64 13),.p (.int .i64 0),.p (.str s),slE 7 4 (exR es)]][j]?=some x→(exR [e0,⟨13,0,s,es⟩])[j]?=some x1→Fzs hF n x x1:=by
    intro hF h3 h7 n j x x1 a1 a2
    match j,a1,a2 with
    |0,a1,a2=>cases a1;cases a2;exact Ey h3
    |1,a1,a2=>cases a1;cases a2;exact Ey (e:=⟨13,0,s,es⟩) h7
    |j+2,a1,a2=>simp at a1
   refine fin ⟨3,0,[],[e0,⟨13,0,s,es⟩]⟩ (q1+1) _ _ (.inr ⟨7,_,[.dead,.dead,.dead,br 4 (exR e0.kids),.dead,.dead,.dead,br 4 (exR es),.dead],rfl,by simp[Ex.kids],rfl,rfl,fun i o e l=>?_,fun⟨o,e,l⟩=>?_,fun⟨o,e,l⟩=>?_,rfl,hv _ rfl rfl _⟩) (by simp[Ex.sz,aY];omega) (by omega) (by omega)
   ·match i,e with
    |0,e=>cases e;exact l.elim
    |1,e=>cases e;exact l.elim
    |2,e=>cases e;exact l.elim
    |3,e=>exact e
    |4,e=>cases e;exact l.elim
    |5,e=>cases e;exact l.elim
    |6,e=>cases e;exact l.elim
    |7,e=>exact e
    |8,e=>cases e;exact l.elim
    |i+9,e=>simp at e
   ·cases e;exact l
   ·cases e;exact l
theorem DS{b:List Int}(hb:Byt b)(hl:b.length≤2000){p:Nat}(hp:p+50000≤1000000000000):AC Tryz.prog G iN [.ptr 0 2 0 0] [rdO b p] fun x h=>∃v q,x= .ret v∧h=[rdO b q]∧ExQ p 60000 50000 v q:=by
 refine lX G (AC.go wg ?_)
 have fin:∀(e:Ex) (q:Nat) (rest:List AO) (v:AV),Fzs (.dead::rest) 1 [v] [.agg (e.cs.map .p)]→e.sz≤60000→p≤q→q≤p+50000→DP b (ExQ p 60000 50000) (.ret v) (rdO b q::rest):=fun e q rest v hz h1 h2 h3=>
  ⟨_,rest,q,.agg (e.cs.map .p),rfl,rfl,hz,⟨e,rfl,h1⟩,h2,h3⟩
 simp-implicitDefEqProofs[pQ]
 refine(tx G (xo G hb hl (d:=3) (by omega) (by omega)) _ (by simp[below])).mono ?_
 rintro r h ⟨e0,q,rfl,rfl,he0,h1,h2⟩
 have hsz:=e0.sz_eq
 have hkl:=bi e0.kids
 have hrl:(exR e0.kids).length=e0.kids.length:=by simp[exR]
 simp-implicitDefEqProofs[aa]
 refine(bl G b hb hl q (by omega) 20 _).mono ?_
 rintro r h ⟨k1,rfl,rfl,_⟩
 by_cases k10:k1=0
 ·subst k10
  simp-implicitDefEqProofs[aa]
  refine(kw G hb hl (p:=q+1) (by omega) [-1,256,3] (k:=4) (by simp) (by simp) (by omega) rfl rfl).mono ?_
  rintro r h ⟨n,_,rfl,rfl⟩
  simp-implicitDefEqProofs[aa]
  exact fin ⟨e0.op,n,e0.name,e0.kids⟩ _ _ _ (wU (gD rfl)) (by simp[Ex.sz];omega) (by omega) (by omega)
 by_cases k11:k1=1
 ·subst k11
  simp-implicitDefEqProofs[aa]
  refine(zi G hb hl (p:=q+1) (by omega) [[],[100,111],[65],[97,98,99,100,101],[113]] (k:=4) (by simp) (by simp) (by omega) rfl rfl).mono ?_
  rintro r h ⟨s,hs,rfl,rfl⟩
  have hsl:s.length≤8:=by simp at hs;rcases hs with rfl|rfl|rfl|rfl|rfl<;>simp
  simp-implicitDefEqProofs[aa]
  exact fin ⟨e0.op,e0.n,s,e0.kids⟩ _ _ _ (wU (gD rfl)) (by simp[Ex.sz];omega) (by omega) (by omega)
 by_cases k12:k1=2
 ·subst k12
  simp-implicitDefEqProofs[aa]
  refine(kw G hb hl (p:=q+1) (by omega) [0,14,-1,5,11] (k:=4) (by simp) (by simp) (by omega) rfl rfl).mono ?_
  rintro r h ⟨n,_,rfl,rfl⟩
  simp-implicitDefEqProofs[aa]
  exact fin ⟨n,e0.n,e0.name,e0.kids⟩ _ _ _ (wU (gD rfl)) (by simp[Ex.sz];omega) (by omega) (by omega)
 by_cases k13:k1=3
 ·subst k13
  simp-implicitDefEqProofs[aa]
  refine(AC.give (pargs:=[.ptr 0 2 0 0,.p (au [])]) (Spl.rest _) (.keep (by simp[below]) (.one (View.nils 1) .nil)) (jj G (uz G hb hl (p:=q+1) (by omega) [] ⟨by simp,by simp⟩) _ (by simp[below]))).mono ?_
  rintro r h ⟨v,q2,rfl,rfl,⟨e1,rfl,he1⟩,h3,h4⟩
  have hec1:=e1.cs_eq
  have hx:exR (e0.kids++[e1])=exR e0.kids++[[.p (.int .i64 e1.op),.p (.int .i64 e1.n),.p (.str e1.name),.p (exL e1.kids)]]:=by simp[exR,hec1]
  have hne:exR (e0.kids++[e1])≠[]:=by simp[exR]
  simp-implicitDefEqProofs[aa,hec1]
  refine⟨by omega,?_⟩
  rw[←hx]
  have hl2:(exR e0.kids).length+1=(exR (e0.kids++[e1])).length:=by simp[exR]
  have hv:∀h:List AO,h[4]?=some (.row 4 (exR (e0.kids++[e1])))→View h (.sl 4 4 0 ((exR e0.kids).length+1)) (exL (e0.kids++[e1])):=fun h e=>by
   have:=gD (h:=h) (id:=4) (l:=e0.kids++[e1]) (by rw[fu hne];exact e)
   rwa[dL hne,←hl2] at this
  exact fin ⟨e0.op,e0.n,e0.name,e0.kids++[e1]⟩ q2 _ _ (wU (hv _ rfl)) (by simp[Ex.sz,fe,aY];omega) (by omega) (by omega)
 by_cases k14:k1=4
 ·subst k14
  simp-implicitDefEqProofs[aa]
  refine(tx G (xo G hb hl (d:=6) (by omega) (by omega)) _ (by simp[below])).mono ?_
  rintro r h ⟨e1,q2,rfl,rfl,he1,h3,h4⟩
  simp-implicitDefEqProofs[aa]
  have hs1:=e1.sz_eq
  exact fin ⟨e1.op,e1.n,e1.name,e1.kids⟩ _ _ _ (wU (gD rfl)) (by simp[Ex.sz];omega) (by omega) (by omega)
 have c1:¬(k1:Int)=1:=by omega
 have c2:¬(k1:Int)=2:=by omega
 have c3:¬(k1:Int)=3:=by omega
 have c4:¬(k1:Int)=4:=by omega
 simp-implicitDefEqProofs[aa,k10,c1,c2,c3,c4]
 exact fin ⟨e0.op,e0.n,e0.name,e0.kids⟩ _ _ _ (wU (gD rfl)) (by simp[Ex.sz];omega) (by omega) (by omega)
end Go.Proofs.YtnjbhgpbgmpkcaaGreatDoor
namespace Go.Proofs.YtnjbhgpbgmpkcaaGreatDoor
open Go Go.Aw
set_option maxRecDepth 100000
set_option maxHeartbeats 4000000
variable (G:aC)
def PgQ(p n m:Nat)(v:AV)(q:Nat):Prop:=(∃l:List Fd,v= .agg [.p (fdL l)]∧aO l≤n)∧p≤q∧q≤p+m
theorem wR{h:List AO}{id sz:Nat}{rows:List (List AV)}{es:List (List PV)}(he:h[id]?=some (.row sz rows))(hl:rows.length=es.length)(hs:∀e∈es,e.length=sz)(hv:∀(i j:Nat) (e:List PV) (q:PV) (e':List AV) (a:AV),es[i]?=some e→e[j]?=some q→rows[i]?=some e'→e'[j]?=some a→View h a q){n:Nat}(hn:n=es.length):View h (.sl id sz 0 n) (.lst sz es):=by
 subst hn
 exact .sl id sz 0 rows es he (by omega) hs fun i j e q e' a a1 a2 a3 a4=>hv i j e q e' a a1 a2 (by rwa[Nat.zero_add] at a3) a4
theorem qj{h:List AO}{e:List PV}{j:Nat}{q:PV}{a:AV}(h1:e[j]?=some q)(h2:(e.map AV.p)[j]?=some a):View h a q:=by
 rw[List.getElem?_map,h1] at h2;cases h2;exact .p _
theorem CT{h:List AO}{id k:Nat}{l:List Fd}{f:Fd}{P B:AV}(he:h[id]?=some (.row 3 ((aJ l).set k [.p (.str f.name),P,B])))(hk:k<l.length)(hP:View h P (au f.params))(hB:View h B (smL f.body)){n:Nat}(hn:n=l.length):View h (.sl id 3 0 n) (fdL (l.set k f)):=by
 refine wR (es:=(l.set k f).map Fd.cs) he (by simp[aJ]) (fun e he=>by obtain⟨x,_,rfl⟩:=List.mem_map.1 he;simp) (fun i j e q e' a a1 a2 a3 a4=>?_) (by simpa using hn)
 rw[List.getElem?_map] at a1
 by_cases hik:k=i
 ·subst hik
  rw[List.getElem?_set_self hk] at a1
  rw[List.getElem?_set_self (by simpa[aJ] using hk)] at a3
  cases a1;cases a3
  exact vb (s:=f.name) (ps:=f.params) (bd:=f.body) hP hB j q a a2 a4
 ·rw[List.getElem?_set_ne hik] at a1 a3
  obtain⟨g,g1,g2⟩:=Option.map_eq_some_iff.1 a1
  subst g2
  rw[aJ,List.getElem?_map,g1] at a3
  cases a3
  exact qj a2 a4
theorem Cw{h:List AO}{id:Nat}{l:List (List UInt8)}{s:List UInt8}(he:h[id]?=some (.row 1 (List.take l.length (l.map fun w=>[AV.p (.str w)])++[[.p (.str s)]]))):View h (.sl id 1 0 (l.length+1)) (au (l++[s])):=by
 have e:h[id]?=some (ga (l++[s])):=by rw[he,List.take_of_length_le (by simp)];simp[ga]
 have:=iJ e
 rwa[List.length_append,List.length_singleton] at this
theorem qC{h:List AO}{id:Nat}{l:List Sm}{s:Sm}{r:List AV}(he:h[id]?=some (.row 5 (List.take l.length (smR l)++[r])))(hr:∀(j:Nat) (q:PV) (a:AV),s.cs[j]?=some q→r[j]?=some a→View h a q):View h (.sl id 5 0 (l.length+1)) (smL (l++[s])):=by
 have hl:=gd l
 refine wR (es:=(l++[s]).map Sm.cs) he (by simp[hl]) (fun e he=>by obtain⟨x,_,rfl⟩:=List.mem_map.1 he;simp) (fun i j e q e' a a1 a2 a3 a4=>?_) (by simp)
 rw[List.take_of_length_le (by omega)] at a3
 rw[List.map_append] at a1
 rcases Nat.lt_or_ge i l.length with hi|hi
 ·rw[List.getElem?_append_left (by simpa using hi)] at a1
  rw[List.getElem?_append_left (by omega)] at a3
  rw[List.getElem?_map] at a1
  obtain⟨g,g1,g2⟩:=Option.map_eq_some_iff.1 a1
  subst g2
  rw[smR,List.getElem?_map,g1] at a3
  cases a3
  exact qj a2 a4
 ·rw[List.getElem?_append_right (by simpa using hi)] at a1
  rw[List.getElem?_append_right (by omega),hl] at a3
  simp only[List.length_map] at a1
  generalize i-l.length=k at a1 a3
  cases k with
  |zero=>cases a1;cases a3;exact hr j q a a2 a4
  |succ k=>simp at a1
theorem Gt{h:List AO}{id:Nat}{l:List Fd}{f:Fd}(he:h[id]?=some (.row 3 (List.take l.length (aJ l)++[f.cs.map .p]))):View h (.sl id 3 0 (l.length+1)) (fdL (l++[f])):=by
 have hl:=uc l
 have:=rR (h:=h) (id:=id) (l:=l++[f]) (by rw[he,List.take_of_length_le (by omega)];simp[aJ])
 rwa[List.length_append,List.length_singleton] at this
theorem yv(l:List Fd)(k:Nat)(f:Fd):aO (l.set k f)≤aO l+f.sz:=by
 by_cases hk:k<l.length
 ·rw[fS f hk]
  have e:l=l.take k++l.drop k:=(List.take_append_drop _ _).symm
  have e2:l.drop k=l[k]::l.drop (k+1):=List.drop_eq_getElem_cons hk
  have h1:aO l=aO (l.take k)+aO (l.drop k):=by rw[←lG,←e]
  rw[lG]
  have h3:aO (f::l.drop (k+1))=f.sz+aO (l.drop (k+1)):=by simp[aO]
  have h4:aO (l.drop k)=l[k].sz+aO (l.drop (k+1)):=by rw[e2];unfold aO;rw[List.map_cons,List.sum_cons]
  omega
 ·rw[List.set_eq_of_length_le (by omega)];omega
theorem wu{l:List Fd}{f:Fd}(h:f∈l):f.sz≤aO l:=by
 induction l with
 |nil=>cases h
 |cons x r ih=>
  have e:aO (x::r)=x.sz+aO r:=by simp[aO]
  rcases List.mem_cons.1 h with rfl|h
  ·omega
  ·have:=ih h;omega
def K_spec_l3Bent:AK:= .seq (.reg [oJ 2 (.alloc [.nils])]) (.seq (.reg [oM 9 0,oJ 10 (.call dC [(.t 9)]),oJ 3 (.alloc [.nils]),oS 3 10]) (.seq (.reg [oF 11 0 3,oL 12 11,oF 13 0 3,oL 14 13,oJ 15 (.len false (.t 14)),oJ 16 (.bin .sub (.t 15) (.c (.p (.int .i64 1)))),oJ 17 (.idxS 3 (.t 12) (.t 16)),oJ 18 (.ld (some 3) (.t 17)),oJ 4 (.alloc [(.p (.str [])),.nils,.nils]),⟨none,none,.st 3 (.t 4) (.t 18)⟩]) (.cut (.seq (.reg [oM 19 0,oJ 20 (.call af [(.t 19),(.c (.p (.int .i64 32)))])]) (.blk 0 (.seq (.reg [oJ 22 (.bin .eql (.t 20) (.c (.p (.int .i64 0)))),oM 21 22]) (.cond (.t 21) (.reg [oM 23 0,oJ 24 (.bsl 1 [(.p (.str []))] 4 [(0,1,(.c (.p (.str [102])))),(1,1,(.c (.p (.str [100,111])))),(2,1,(.c (.p (.str [])))),(3,1,(.c (.p (.str [103]))))]),oJ 25 (.call aG [(.t 23),(.t 24)]),oF 26 0 4,oS 26 25]) (.seq (.reg [oJ 28 (.bin .eql (.t 20) (.c (.p (.int .i64 1)))),oM 27 28]) (.cond (.t 27) (.reg [oJ 29 (.bsl 1 [(.p (.str []))] 0 []),oF 30 1 4,oL 31 30,oJ 32 (.app 1 16 (.t 29) (.t 31)),oM 33 0,oJ 34 (.bsl 1 [(.p (.str []))] 3 [(0,1,(.c (.p (.str [97])))),(1,1,(.c (.p (.str [120])))),(2,1,(.c (.p (.str [105,102]))))]),oJ 35 (.call aG [(.t 33),(.t 34)]),oJ 36 (.bsl 1 [(.p (.str []))] 1 [(0,1,(.t 35))]),oJ 37 (.app 1 16 (.t 32) (.t 36)),oF 38 1 4,oS 38 37]) (.seq (.reg [oJ 40 (.bin .eql (.t 20) (.c (.p (.int .i64 2)))),oM 39 40]) (.cond (.t 39) (.reg [oJ 41 (.bsl 5 [(.p (.int .i64 0)),(.p (.str [])),.nils,.nils,.nils] 0 []),oF 42 2 4,oL 43 42,oJ 44 (.app 5 96 (.t 41) (.t 43)),oM 45 0,oJ 46 (.call iN [(.t 45)]),oJ 47 (.bsl 4 [(.p (.int .i64 0)),(.p (.int .i64 0)),(.p (.str [])),.nils] 1 [(0,4,(.t 46))]),oJ 48 (.bld [(.p (.int .i64 0)),(.p (.str [])),.nils,.nils,.nils] [(0,1,(.c (.p (.int .i64 3)))),(2,1,(.t 47))]),oJ 49 (.bsl 5 [(.p (.int .i64 0)),(.p (.str [])),.nils,.nils,.nils] 1 [(0,5,(.t 48))]),oJ 50 (.app 5 96 (.t 44) (.t 49)),oF 51 2 4,oS 51 50]) (.seq (.reg [oJ 53 (.bin .eql (.t 20) (.c (.p (.int .i64 3)))),oM 52 53]) (.cond (.t 52) (.reg [oJ 54 (.bsl 5 [(.p (.int .i64 0)),(.p (.str [])),.nils,.nils,.nils] 0 []),oF 55 2 4,oL 56 55,oJ 57 (.app 5 96 (.t 54) (.t 56)),oM 58 0,oJ 59 (.call af [(.t 58),(.c (.p (.int .i64 10)))]),oM 60 0,oJ 61 (.bsl 1 [(.p (.str []))] 3 [(0,1,(.c (.p (.str [])))),(1,1,(.c (.p (.str [97])))),(2,1,(.c (.p (.str [122,122]))))]),oJ 62 (.call aG [(.t 60),(.t 61)]),oM 63 0,oJ 64 (.call fj [(.t 63),(.c (.p (.int .i64 2)))]),oJ 65 (.bsl 4 [(.p (.int .i64 0)),(.p (.int .i64 0)),(.p (.str [])),.nils] 1 [(0,4,(.t 64))]),oJ 66 (.bld [(.p (.int .i64 0)),(.p (.str [])),.nils,.nils,.nils] [(0,1,(.t 59)),(1,1,(.t 62)),(2,1,(.t 65))]),oJ 67 (.bsl 5 [(.p (.int .i64 0)),(.p (.str [])),.nils,.nils,.nils] 1 [(0,5,(.t 66))]),oJ 68 (.app 5 96 (.t 57) (.t 67)),oF 69 2 4,oS 69 68]) (.seq (.reg [oJ 71 (.bin .eql (.t 20) (.c (.p (.int .i64 4)))),oM 70 71]) (.cond (.t 70) (.seq (.reg [oJ 72 (.bld [(.p (.int .i64 0)),(.p (.int .i64 0)),(.p (.str [])),.nils] [(0,1,(.c (.p (.int .i64 1))))]),oJ 73 (.bsl 4 [(.p (.int .i64 0)),(.p (.int .i64 0)),(.p (.str [])),.nils] 1 [(0,4,(.t 72))]),oJ 74 (.bld [(.p (.int .i64 0)),(.p (.str [])),.nils,.nils,.nils] [(0,1,(.c (.p (.int .i64 6)))),(2,1,(.t 73))]),oJ 5 (.alloc [(.p (.int .i64 0)),(.p (.str [])),.nils,.nils,.nils]),⟨none,none,.st 5 (.t 5) (.t 74)⟩]) (.cut (.seq (.reg [oM 75 0,oJ 76 (.call af [(.t 75),(.c (.p (.int .i64 5)))]),oM 6 76]) (.blk 1 (.loop (.seq (.seq (.reg [oM 77 6,oJ 78 (.bin .gtr (.t 77) (.c (.p (.int .i64 0))))]) (.cond (.t 78) (.skip) (.exit 1))) (.seq (.blk 2 (.reg [oM 81 0,oJ 82 (.bslP 1 [(.p (.int .i64 0))] 2 [(0,1,(.c (.p (.int .i64 5)))),(1,1,(.c (.p (.int .i64 6))))]),oF 84 2 5,oL 85 84,oJ 86 (.ld (some 5) (.t 5)),oJ 87 (.bslP 5 [(.p (.int .i64 0)),(.p (.str [])),.nils,.nils,.nils] 1 [(0,5,(.t 86))]),oJ 83 (.call aq [(.t 81),(.t 82)]),⟨none,none,.chk none 84 85⟩,⟨none,none,.chk (some 5) 5 86⟩,oJ 88 (.bld [(.p (.int .i64 0)),(.p (.str [])),.nils,.nils,.nils] [(0,1,(.t 83)),(2,1,(.t 85)),(3,1,(.t 87))]),⟨none,none,.st 5 (.t 5) (.t 88)⟩])) (.reg [oM 79 6,oJ 80 (.bin .sub (.t 79) (.c (.p (.int .i64 1)))),oM 6 80])))))) (.reg [oF 90 2 4,oL 91 90,oJ 93 (.ld (some 5) (.t 5)),oJ 94 (.bslP 5 [(.p (.int .i64 0)),(.p (.str [])),.nils,.nils,.nils] 1 [(0,5,(.t 93))]),oJ 89 (.bsl 5 [(.p (.int .i64 0)),(.p (.str [])),.nils,.nils,.nils] 0 []),⟨none,none,.chk none 90 91⟩,⟨none,none,.chk (some 5) 5 93⟩,oJ 92 (.app 5 96 (.t 89) (.t 91)),⟨none,none,.chk (some 5) 5 93⟩,oJ 95 (.app 5 96 (.t 92) (.t 94)),oF 96 2 4,oS 96 95]))) (.seq (.reg [oJ 98 (.bin .eql (.t 20) (.c (.p (.int .i64 5)))),oM 97 98]) (.cond (.t 97) (.seq (.reg [oJ 99 (.bld [.nils] []),oS 2 99]) (.ret)) (.seq (.reg [oJ 101 (.bin .eql (.t 20) (.c (.p (.int .i64 6)))),oM 100 101]) (.cond (.t 100) (.seq (.reg [oM 102 0,oJ 103 (.bsl 1 [(.p (.int .i64 0))] 3 [(0,1,(.c (.p (.int .i64 20)))),(1,1,(.c (.p (.int .i64 40)))),(2,1,(.c (.p (.int .i64 41))))]),oJ 104 (.call aq [(.t 102),(.t 103)]),oM 7 104]) (.blk 3 (.loop (.seq (.seq (.reg [oM 105 7,oJ 106 (.bin .gtr (.t 105) (.c (.p (.int .i64 0))))]) (.cond (.t 106) (.skip) (.exit 3))) (.seq (.blk 4 (.reg [oJ 109 (.bsl 5 [(.p (.int .i64 0)),(.p (.str [])),.nils,.nils,.nils] 0 []),oF 110 2 4,oL 111 110,oJ 112 (.app 5 96 (.t 109) (.t 111)),oM 113 7,oJ 114 (.bld [(.p (.int .i64 0)),(.p (.int .i64 0)),(.p (.str [])),.nils] [(0,1,(.c (.p (.int .i64 1)))),(1,1,(.t 113))]),oJ 115 (.bsl 4 [(.p (.int .i64 0)),(.p (.int .i64 0)),(.p (.str [])),.nils] 1 [(0,4,(.t 114))]),oJ 116 (.bld [(.p (.int .i64 0)),(.p (.str [])),.nils,.nils,.nils] [(0,1,(.c (.p (.int .i64 3)))),(2,1,(.t 115))]),oJ 117 (.bsl 5 [(.p (.int .i64 0)),(.p (.str [])),.nils,.nils,.nils] 1 [(0,5,(.t 116))]),oJ 118 (.app 5 96 (.t 112) (.t 117)),oF 119 2 4,oS 119 118])) (.reg [oM 107 7,oJ 108 (.bin .sub (.t 107) (.c (.p (.int .i64 1)))),oM 7 108])))))) (.seq (.reg [oJ 121 (.bin .eql (.t 20) (.c (.p (.int .i64 7)))),oM 120 121]) (.cond (.t 120) (.seq (.reg [oF 123 0 3,oF 126 0 3,oL 124 123,oL 127 126,oJ 128 (.idxS 3 (.t 127) (.c (.p (.int .i64 0)))),oJ 129 (.ld (some 3) (.t 128)),oJ 130 (.bslP 3 [(.p (.str [])),.nils,.nils] 1 [(0,3,(.t 129))]),oJ 122 (.bsl 3 [(.p (.str [])),.nils,.nils] 0 []),⟨none,none,.chk none 123 124⟩,⟨none,none,.chk none 126 127⟩,⟨none,none,.chk (some 3) 128 129⟩,oJ 125 (.app 3 64 (.t 122) (.t 124)),⟨none,none,.chk none 126 127⟩,⟨none,none,.chk (some 3) 128 129⟩,oJ 131 (.app 3 64 (.t 125) (.t 130)),oJ 132 (.bld [.nils] [(0,1,(.t 131))]),oS 2 132]) (.ret)) (.skip))))))))))))))))))) (.seq (.reg [oJ 133 (.bsl 3 [(.p (.str [])),.nils,.nils] 0 []),oF 134 0 3,oL 135 134,oJ 136 (.app 3 64 (.t 133) (.t 135)),oM 8 136]) (.seq (.reg [oM 137 8,oM 138 8,oJ 139 (.len false (.t 138)),oJ 140 (.bin .sub (.t 139) (.c (.p (.int .i64 1)))),oJ 141 (.ld (some 3) (.t 4)),oJ 142 (.idxS 3 (.t 137) (.t 140)),⟨none,none,.st 3 (.t 142) (.t 141)⟩]) (.seq (.reg [oM 143 8,oJ 144 (.bld [.nils] [(0,1,(.t 143))]),oS 2 144]) (.ret)))))))
theorem we:K_spec_l3Bent.whole=F_spec_l3Bent.ak:=rfl
structure NsS where (i:Nat) (o:Int) (w:List UInt8) (A B C:PV) (q:Nat)
structure BdS where (i:Nat) (bd:List Sm)
structure CfS where (f:Fd) (q:Nat)
theorem Fx{b:List Int}(hb:Byt b)(hl:b.length≤2000){p:Nat}(hp:p≤10000000000):AC Tryz.prog G kU [.ptr 0 2 0 0] [rdO b p] fun x h=>∃v q,x= .ret v∧h=[rdO b q]∧PgQ p 500000000 200200000 v q:=by
 refine lX G (AC.goK vP we ?_)
 have hprog:AC Tryz.prog G dC [.ptr 0 2 0 0] [rdO b p] fun x h=>∃v q,x= .ret v∧h=[rdO b q]∧((∃l:List Fd,v= .agg [.p (fdL l)]∧bu l=true∧aO l≤200000000)∧p≤q∧q≤p+200000000):=
  (EI G hb hl hp).mono fun x h ⟨l,q,e1,e2,e3,e4,e5,e6⟩=>⟨_,q,e1,e2,⟨l,rfl,e3,e4⟩,e5,e6⟩
 simp-implicitDefEqProofs[K_spec_l3Bent,F_spec_l3Bent]
 refine(jj G hprog _ (by simp[below])).mono ?_
 rintro r h ⟨v,q,rfl,rfl,⟨l,rfl,hok,hz⟩,h1,h2⟩
 have hlen:=((iy l).1 hok).1
 obtain⟨n,hn⟩:∃n,l.length=n+1:=⟨l.length-1,by omega⟩
 have hnl:n<l.length:=by omega
 have hfz:=wu (List.getElem_mem hnl)
 obtain⟨f,hfe⟩:∃f,l[n]=f:=⟨_,rfl⟩
 rw[hfe] at hfz
 have hg:l[n]?=some f:=by rw[List.getElem?_eq_getElem hnl,hfe]
 have fin:∀(r1:List (Nat × AV)) (f':Fd) (q':Nat) (rest:List AO) (P B:AV),Aw.look r1 0= .ptr 0 2 0 0→Aw.look r1 2= .ptr 1 1 0 0→Aw.look r1 3= .ptr 2 1 0 0→Aw.look r1 4= .ptr 3 3 0 0→View (.dead:: .dead:: .dead:: .dead::rest) P (au f'.params)→View (.dead:: .dead:: .dead:: .dead::rest) B (smL f'.body)→f'.sz≤300000000→q≤q'→q'≤q+100000→
  ∃s:CfS,(s.f.sz≤300000000∧q≤s.q∧s.q≤q+100000)∧Wk 1 (al 145 r1) (rdO b q':: .row 1 [[.nils]]:: .row 1 [[.p (.lst 3 (l.map Fd.cs))]]:: .row 3 [[.p (.str f'.name),P,B]]::rest) (al 145 [(4,.ptr 3 3 0 0),(3,.ptr 2 1 0 0),(2,.ptr 1 1 0 0),(0,.ptr 0 2 0 0)])
   [rdO b s.q,.row 1 [[.nils]],.row 1 [[.p (.lst 3 (l.map Fd.cs))]],.row 3 [[.p (.str s.f.name),.p (au s.f.params),.p (smL s.f.body)]]]:=fun r1 f' q' rest P B e0 e2 e3 e4 hP hB hz' h3 h4=>
  ⟨⟨f',q'⟩,⟨hz',h3,h4⟩,mz 4 (by omega) (by simp) rfl (.same (bz _ _ _) (.same (by simp[okO,below]) (.same (by simp[okO,below]) (.one (.keep (by simp[below]) (.one hP (.one hB .nil))) (.nil _))))) (by
    simp only[FzA,e0,e2,e3,e4]
    exact⟨.keep (by simp[below]) .nil,.keep (by simp[below]) .nil,.keep (by simp[below]) .nil,.keep (by simp[below]) .nil,trivial⟩)⟩
 have hfsz:f.sz=1+f.name.length+(f.params.length+(f.params.map List.length).sum)+am f.body:=rfl
 have hln:l.length≤4:=hlen.2
 have hbl:=bA f.body
 have hcs:f.cs=[.str f.name,au f.params,smL f.body]:=rfl
 have hfl:fdL l= .lst 3 (l.map Fd.cs):=rfl
 have hw:IntKind.i64.wrap ((l.length:Int)-1)=(n:Int):=by rw[ah (by omega) (by omega)];omega
 have hsl:au f.params= .lst 1 (f.params.map fun w=>[.str w]):=rfl
 have hml:smL f.body= .lst 5 (f.body.map Sm.cs):=rfl
 simp-implicitDefEqProofs[aa,hfl,hw,hg,hcs]
 refine tP (fun _:CfS=>al 145 [(4,.ptr 3 3 0 0),(3,.ptr 2 1 0 0),(2,.ptr 1 1 0 0),(0,.ptr 0 2 0 0)]) (fun s=>[rdO b s.q,.row 1 [[.nils]],.row 1 [[.p (.lst 3 (l.map Fd.cs))]],.row 3 [[.p (.str s.f.name),.p (au s.f.params),.p (smL s.f.body)]]])
  (fun s=>s.f.sz≤300000000∧q≤s.q∧s.q≤q+100000) ?_ ?_
 rotate_left
 ·rintro⟨f',q'⟩ ⟨h3,h4,h5⟩
  simp only at h3 h4 h5
  simp-implicitDefEqProofs[hw,hnl,hfe,hcs]
  exact⟨⟨by omega,by omega⟩,_,_,q',.agg [.p (fdL (l.set n f'))],rfl,rfl,.agg (.one (CT (f:=f') rfl hnl (.p _) (.p _) rfl) .nil) .nil,⟨_,rfl,by have:=yv l n f';omega⟩,by omega,by omega⟩
 simp-implicitDefEqProofs[]
 refine(bl G b hb hl q (by omega) 32 _).mono ?_
 rintro r h ⟨k,rfl,rfl,_⟩
 by_cases k0:k=0
 ·subst k0
  simp-implicitDefEqProofs[aa]
  refine(zi G hb hl (p:=q+1) (by omega) [[102],[100,111],[],[103]] (k:=4) (by simp) (by simp) (by omega) rfl rfl).mono ?_
  rintro r h ⟨s,hs,rfl,rfl⟩
  have hs8:s.length≤8:=by simp at hs;rcases hs with rfl|rfl|rfl|rfl<;>simp
  simp-implicitDefEqProofs[aa]
  exact fin _ ⟨s,f.params,f.body⟩ _ _ _ _ (by simp) (by simp) (by simp) (by simp) (.p _) (.p _) (by simp only[Fd.sz];omega) (by omega) (by omega)
 by_cases k1:k=1
 ·subst k1
  simp-implicitDefEqProofs[aa,hsl]
  refine⟨⟨by omega,by omega⟩,?_⟩
  refine(zi G hb hl (p:=q+1) (by omega) [[97],[120],[105,102]] (k:=6) (by simp) (by simp) (by omega) rfl rfl).mono ?_
  rintro r h ⟨s,hs,rfl,rfl⟩
  have hs8:s.length≤8:=by simp at hs;rcases hs with rfl|rfl|rfl<;>simp
  simp-implicitDefEqProofs[aa]
  refine⟨⟨by omega,by omega⟩,?_⟩
  exact fin _ ⟨f.name,f.params++[s],f.body⟩ _ _ _ _ (by simp) (by simp) (by simp) (by simp) (Cw rfl) (.p _) (by simp[Fd.sz];omega) (by omega) (by omega)
 by_cases k2:k=2
 ·subst k2
  simp-implicitDefEqProofs[aa,hml]
  refine⟨⟨by omega,by omega⟩,?_⟩
  refine(jj G (DS G hb hl (p:=q+1) (by omega)) _ (by simp[below])).mono ?_
  rintro r h ⟨v,q2,rfl,rfl,⟨e,rfl,he⟩,h3,h4⟩
  have hec:=e.cs_eq
  simp-implicitDefEqProofs[aa,hec]
  refine⟨⟨by omega,by omega⟩,?_⟩
  exact fin _ ⟨f.name,f.params,f.body++[⟨3,[],[e],[],[]⟩]⟩ _ _ _ _ (by simp) (by simp) (by simp) (by simp) (.p _) (qC rfl (cf (eC (l:=[e]) (by rw[List.map_singleton,hec];rfl)) (View.nils 5) (View.nils 5))) (by simp[Fd.sz,bC,am,Sm.sz,aY];omega) (by omega) (by omega)
 by_cases k3:k=3
 ·subst k3
  simp-implicitDefEqProofs[aa,hml]
  refine⟨⟨by omega,by omega⟩,?_⟩
  refine(bl G b hb hl (q+1) (by omega) 10 _).mono ?_
  rintro r h ⟨o,rfl,rfl,_⟩
  simp-implicitDefEqProofs[aa]
  refine(zi G hb hl (p:=q+1+1) (by omega) [[],[97],[122,122]] (k:=6) (by simp) (by simp) (by omega) rfl rfl).mono ?_
  rintro r h ⟨s,hs,rfl,rfl⟩
  have hs8:s.length≤8:=by simp at hs;rcases hs with rfl|rfl|rfl<;>simp
  simp-implicitDefEqProofs[aa]
  refine(tx G (xo G hb hl (d:=1) (by omega) (p:=q+1+1+1) (by omega)) _ (by simp[below])).mono ?_
  rintro r h ⟨e,q2,rfl,rfl,he,h3,h4⟩
  simp-implicitDefEqProofs[aa]
  refine⟨⟨by omega,by omega⟩,?_⟩
  obtain⟨eo,en,es,ek⟩:=e
  exact fin _ ⟨f.name,f.params,f.body++[⟨o,s,[⟨eo,en,es,ek⟩],[],[]⟩]⟩ _ _ _ _ (by simp) (by simp) (by simp) (by simp) (.p _) (qC rfl (cf (bG (p0:=(Ex.mk eo en es ek).cs) rfl (Ex.cs_len _) (gE (gD rfl))) (View.nils 5) (View.nils 5))) (by simp[Fd.sz,bC,am,Sm.sz,aY];omega) (by omega) (by omega)
 by_cases k5:k=5
 ·subst k5
  simp-implicitDefEqProofs[aa]
  exact⟨_,_,q+1,.agg [.p (fdL [])],rfl,rfl,.agg (.one (View.nils 3) .nil) .nil,⟨[],rfl,by simp[aO]⟩,by omega,by omega⟩
 by_cases k7:k=7
 ·subst k7
  simp-implicitDefEqProofs[aa,hfl]
  have hl0:0<l.length:=by omega
  have hf0:=wu (List.getElem_mem hl0)
  obtain⟨f0,hg0,hf0⟩:∃f0,l[0]?=some f0∧f0.sz≤aO l:=⟨_,List.getElem?_eq_getElem hl0,hf0⟩
  have hc0:f0.cs=[.str f0.name,au f0.params,smL f0.body]:=rfl
  have hfa:aO (l++[f0])=aO l+f0.sz:=by rw[lG];simp[aO]
  simp-implicitDefEqProofs[hg0,hc0]
  exact⟨⟨by omega,by omega⟩,⟨by omega,by omega⟩,_,_,q+1,.agg [.p (fdL (l++[f0]))],rfl,rfl,.agg (.one (Gt rfl) .nil) .nil,⟨_,rfl,by omega⟩,by omega,by omega⟩
 by_cases k4:k=4
 ·subst k4
  simp-implicitDefEqProofs[aa]
  refine tP (fun _:NsS=>al 145 [(5,.ptr 5 5 0 0),(4,.ptr 3 3 0 0),(3,.ptr 2 1 0 0),(2,.ptr 1 1 0 0),(0,.ptr 0 2 0 0)])
   (fun a=>[rdO b a.q,.row 1 [[.nils]],.row 1 [[.p (.lst 3 (l.map Fd.cs))]],.row 3 [[.p (.str f.name),.p (au f.params),.p (smL f.body)]],.dead,.row 5 [[.p (.int .i64 a.o),.p (.str a.w),.p a.A,.p a.B,.p a.C]]])
   (fun a=>(∃s:Sm,s.cs=[.int .i64 a.o,.str a.w,a.A,a.B,a.C]∧aY s.args≤1∧s.sz+2*a.i≤20)∧q+2≤a.q∧a.q+a.i≤q+10) ?_ ?_
  rotate_left
  ·rintro⟨i,o,w,A,B,C,q1⟩ ⟨⟨s,hse,j1,j2⟩,j3,j4⟩
   simp only at hse j1 j2 j3 j4
   have hss:∀(h:List AO) (id:Nat),h[id]?=some (.row 5 (List.take f.body.length (smR f.body)++[[.p (.int .i64 o),.p (.str w),.p A,.p B,.p C]]))→View h (.sl id 5 0 (f.body.length+1)) (smL (f.body++[s])):=fun h id e=>qC e (fun j q a a1 a2=>qj (e:=[.int .i64 o,.str w,A,B,C]) (hse▸a1) a2)
   simp-implicitDefEqProofs[hml]
   refine⟨⟨by omega,by omega⟩,⟨by omega,by omega⟩,?_⟩
   exact fin _ ⟨f.name,f.params,f.body++[s]⟩ _ _ _ _ (by simp) (by simp) (by simp) (by simp) (.p _) (hss _ _ rfl) (by simp[Fd.sz,bC,am];omega) (by omega) (by omega)
  simp-implicitDefEqProofs[]
  refine(bl G b hb hl (q+1) (by omega) 5 _).mono ?_
  rintro r h ⟨i0,rfl,rfl,hi0⟩
  simp-implicitDefEqProofs[aa]
  have hs0:(Sm.mk 6 [] [⟨1,0,[],[]⟩] [] []).cs=[.int .i64 6,.str [],exL [⟨1,0,[],[]⟩],smL [],smL []]:=Sm.cs_eq _
  refine aN (fun a:NsS=>al 145 [(6,.p (.int .i64 a.i)),(5,.ptr 5 5 0 0),(4,.ptr 3 3 0 0),(3,.ptr 2 1 0 0),(2,.ptr 1 1 0 0),(0,.ptr 0 2 0 0)])
   (fun a=>[rdO b a.q,.row 1 [[.nils]],.row 1 [[.p (.lst 3 (l.map Fd.cs))]],.row 3 [[.p (.str f.name),.p (au f.params),.p (smL f.body)]],.dead,.row 5 [[.p (.int .i64 a.o),.p (.str a.w),.p a.A,.p a.B,.p a.C]]])
   (fun a=>(∃s:Sm,s.cs=[.int .i64 a.o,.str a.w,a.A,a.B,a.C]∧aY s.args≤1∧s.sz+2*a.i≤20)∧q+2≤a.q∧a.q+a.i≤q+10) (fun a=>a.i) ⟨i0,6,[],exL [⟨1,0,[],[]⟩],smL [],smL [],q+1+1⟩ ⟨⟨_,hs0,by simp[Sm.args,aY,Ex.sz],by simp[Sm.sz,aY,Ex.sz,am];omega⟩,by simp only;omega,by simp only;omega⟩ ?_ ?_
  ·refine yd (hX:=[.dead,.dead,.dead,.dead,.row 4 [[.p (.int .i64 1),.p (.int .i64 0),.p (.str []),.nils]],.dead]) (by simp)
    (.same (bz _ _ _) (.same (by simp[okO,below]) (.same (by simp[okO,below]) (.same (by simp[okO,below]) (.give (.one ?_ .nil)))))) ?_
   ·exact .keep (by simp[below]) (.keep (by simp[below]) (.one (bG (p0:=(Ex.mk 1 0 [] []).cs) rfl (Ex.cs_len _) (gE (View.nils 4))) (.one (View.nils 5) (.one (View.nils 5) .nil))))
   ·exact⟨.keep (by simp[below]) .nil,.keep (by simp[below]) .nil,.keep (by simp[below]) .nil,.keep (by simp[below]) .nil,.keep (by simp[below]) .nil,.keep (by simp[below]) .nil,trivial⟩
  rintro⟨i,o,w,A,B,C,q1⟩ ⟨⟨s,hse,j1,j2⟩,j3,j4⟩
  simp only at hse j1 j2 j3 j4
  have hcs1:∀n:Int,(Sm.mk n [] s.args [s] []).cs=[.int .i64 n,.str [],A,.lst 5 [[.int .i64 o,.str w,A,B,C]],.lst 5 []]:=fun n=>by
   have hsa:=s.cs_eq
   rw[hse] at hsa
   simp only[List.cons.injEq] at hsa
   rw[Sm.cs_eq];simp only[Sm.op,Sm.name,Sm.args,Sm.body,Sm.els];rw[←hse,hsa.2.2.1];rfl
  have hsz:∀n:Int,(Sm.mk n [] s.args [s] []).sz=1+aY s.args+s.sz:=fun n=>by simp[Sm.sz,am]
  simp-implicitDefEqProofs[]
  refine bc (fun hc=>?_) (fun hc=>?_)
  ·simp at hc
   simp-implicitDefEqProofs[]
   refine(AW G hb hl (p:=q1) (by omega) [5,6] (by simp) (by simp) _).mono ?_
   rintro r h ⟨n1,_,rfl,rfl⟩
   have hwk:IntKind.i64.wrap ((i:Int)-1)=((i-1:Nat):Int):=by rw[ah (by omega) (by omega)];omega
   simp-implicitDefEqProofs[aa]
   refine⟨⟨i-1,n1,[],A,.lst 5 [[.int .i64 o,.str w,A,B,C]],.lst 5 [],q1+1⟩,⟨⟨_,hcs1 n1,j1,by simp only[hsz];omega⟩,by simp only;omega,by simp only;omega⟩,by simp only;omega,?_⟩
   refine yd (hX:=[.dead,.dead,.dead,.dead,.dead,.dead]) (by simp) (.same (bz _ _ _) (.same (by simp[okO,below]) (.same (by simp[okO,below]) (.same (by simp[okO,below]) (.drop (.one (.keep (by simp[below]) (.keep (by simp[below]) (.keep (by simp[below]) (.keep (by simp[below]) (.one (View.nils 5) .nil))))) .nil)))))) ?_
   simp only[hwk]
   exact⟨.keep (by simp[below]) .nil,.keep (by simp[below]) .nil,.keep (by simp[below]) .nil,.keep (by simp[below]) .nil,.keep (by simp[below]) .nil,.keep (by simp[below]) .nil,trivial⟩
  ·simp at hc
   exact⟨⟨i,o,w,A,B,C,q1⟩,⟨⟨s,hse,j1,j2⟩,j3,j4⟩,gH (m:=6) (by simp) (dQ rfl rfl (ae (bz _ _ _) (ae (by simp[okO,below]) (ae (by simp[okO,below]) (ae (by simp[okO,below]) (ae (by simp[okO]) (ae (by simp[okO,below]) dv))))))) (by simp[below])⟩
 by_cases k6:k=6
 ·subst k6
  simp-implicitDefEqProofs[aa]
  refine(kw G hb hl (p:=q+1) (by omega) [20,40,41] (k:=4) (by simp) (by simp) (by omega) rfl rfl).mono ?_
  rintro r h ⟨i0,hi0,rfl,rfl⟩
  obtain⟨i,rfl,hi⟩:∃J:Nat,i0=J∧J≤41:=⟨i0.toNat,by simp at hi0;omega,by simp at hi0;omega⟩
  simp-implicitDefEqProofs[aa]
  refine aN (fun a:BdS=>al 145 [(7,.p (.int .i64 a.i)),(4,.ptr 3 3 0 0),(3,.ptr 2 1 0 0),(2,.ptr 1 1 0 0),(0,.ptr 0 2 0 0)])
   (fun a=>[rdO b (q+1+1),.row 1 [[.nils]],.row 1 [[.p (.lst 3 (l.map Fd.cs))]],.row 3 [[.p (.str f.name),.p (au f.params),.p (smL a.bd)]]])
   (fun a=>a.i≤41∧am a.bd+10*a.i≤am f.body+500) (fun a=>a.i) ⟨i,f.body⟩ ⟨hi,by simp only;omega⟩ ?_ ?_
  ·exact gH (m:=4) (by simp) (dQ rfl rfl (ae (bz _ _ _) (ae (by simp[okO,below]) (ae (by simp[okO,below]) (ae (by simp[okO,below]) dv))))) (by simp[below])
  rintro⟨i1,bd⟩ ⟨j1,j2⟩
  simp only at j1 j2
  have hbl2:=bA bd
  have hml2:smL bd= .lst 5 (bd.map Sm.cs):=rfl
  simp-implicitDefEqProofs[hml2]
  refine bc (fun hc=>?_) (fun hc=>?_)
  ·simp at hc
   have hwk:IntKind.i64.wrap ((i1:Int)-1)=((i1-1:Nat):Int):=by rw[ah (by omega) (by omega)];omega
   simp-implicitDefEqProofs[hml2]
   refine⟨⟨by omega,by omega⟩,⟨by omega,by omega⟩,⟨i1-1,bd++[⟨3,[],[⟨1,i1,[],[]⟩],[],[]⟩]⟩,⟨by simp only;omega,by simp[bC,am,Sm.sz,aY,Ex.sz];omega⟩,by simp only;omega,?_⟩
   refine mz 4 (by omega) (by simp) rfl (.same (bz _ _ _) (.same (by simp[okO,below]) (.same (by simp[okO,below]) (.one (.keep (by simp[below]) (.keep (by simp[below]) (.one (qC rfl (cf (bG (p0:=(Ex.mk 1 i1 [] []).cs) rfl (Ex.cs_len _) (gE (View.nils 4))) (View.nils 5) (View.nils 5))) .nil))) (.nil _))))) ?_
   simp only[hwk]
   exact⟨.keep (by simp[below]) .nil,.keep (by simp[below]) .nil,.keep (by simp[below]) .nil,.keep (by simp[below]) .nil,.keep (by simp[below]) .nil,trivial⟩
  ·simp at hc
   exact fin _ ⟨f.name,f.params,bd⟩ _ _ _ _ (by simp) (by simp) (by simp) (by simp) (.p _) (.p _) (by simp[Fd.sz];omega) (by omega) (by omega)
 have c1:¬(k:Int)=1:=by omega
 have c2:¬(k:Int)=2:=by omega
 have c3:¬(k:Int)=3:=by omega
 have c4:¬(k:Int)=4:=by omega
 have c5:¬(k:Int)=5:=by omega
 have c6:¬(k:Int)=6:=by omega
 have c7:¬(k:Int)=7:=by omega
 simp-implicitDefEqProofs[aa,k0,c1,c2,c3,c4,c5,c6,c7]
 exact fin _ ⟨f.name,f.params,f.body⟩ _ _ _ _ (by simp) (by simp) (by simp) (by simp) (.p _) (.p _) (by simp only[Fd.sz];omega) (by omega) (by omega)
end Go.Proofs.YtnjbhgpbgmpkcaaGreatDoor
namespace Go.Proofs.YtnjbhgpbgmpkcaaGreatDoor
open Go Go.Aw
set_option maxRecDepth 100000
set_option maxHeartbeats 4000000
variable (G:aC)
def PshF(s:Bool)(sz:Nat)(D:List (List PV))(h0:List AO)(a:PshS):Prop:=a.i≤D.length∧h0.length≤a.id∧h0.length≤a.h.length∧(∀j,j<h0.length→a.h[j]?=h0[j]?)∧∃rows J,RowOwn s a.h a.id sz rows (D.take a.i) J∧∀j∈J,h0.length≤j
theorem vq{h h2:List AO}(hl:h.length≤h2.length)(hf:∀j,j<h.length→h2[j]?=h[j]?):h2=h++h2.drop h.length:=by
 have e:h2.take h.length=h:=by
  apply List.ext_getElem?
  intro j
  by_cases hj:j<h.length
  ·rw[List.getElem?_take_of_lt hj];exact hf j hj
  ·rw[List.getElem?_eq_none (by rw[List.length_take];omega),List.getElem?_eq_none (by omega)]
 have e2:=List.take_append_drop h.length h2
 rw[e] at e2
 exact e2.symm
theorem PshF.init{s:Bool}{sz:Nat}{D:List (List PV)}(h0 os:List AO):PshF s sz D h0 ⟨0,h0.length,h0++ .row sz []::os⟩:=
 ⟨Nat.zero_le _,Nat.le_refl _,by simp,fun j hj=>List.getElem?_append_left hj,[],[],⟨by simp,rfl,fun _ h=>(by cases h),fun _ h=>(by cases h),.nil,by simp⟩,fun j hj=>by cases hj⟩
theorem PshF.step{s:Bool}{sz i id:Nat}{D:List (List PV)}{h0 h:List AO}(H:PshF s sz D h0 ⟨i,id,h⟩){e:List PV}(hi:D[i]?=some e){h2:List AO}(hl:h.length≤h2.length)(hf:∀j,j<h.length→h2[j]?=h[j]?){r':List AV}{I2:List Nat}(ho:OwnL s h2 r' e I2)(nd2:I2.Nodup)(hn:∀j∈I2,h.length≤j)(he:e.length=sz):
 ∃rows,(∀os,(h2++os)[id]?=some (.row sz rows))∧rows.length=i∧i<D.length∧id<h2.length∧∀os1 os2,PshF s sz D h0 ⟨i+1,(h2++os1).length,(h2++os1).set id .dead++ .row sz (rows++[r'])::os2⟩:=by
 obtain⟨h1,h3,h4,h5,rows,J,hr,hJ⟩:=H
 have hil:i<D.length:=(List.getElem?_eq_some_iff.1 hi).1
 have hlen:=hr.len
 simp only at h1 h3 h4 h5 hlen hr
 rw[List.length_take,Nat.min_eq_left h1] at hlen
 have e2:=vq hl hf
 have hid:=hr.lt
 have h2e:h2[id]?=some (.row sz rows):=by rw[hf id hid];exact hr.here
 refine⟨rows,fun os=>by rw[List.getElem?_append_left (by omega)];exact h2e,hlen,hil,by omega,fun os1 os2=>⟨hil,by simp only[List.length_append];omega,by simp;omega,fun j hj=>?_,rows++[r'],J++I2,?_,fun j hj=>?_⟩⟩
 ·simp only
  rw[List.getElem?_append_left (by simp only[List.length_set,List.length_append,List.length_cons];omega),List.getElem?_set_ne (by omega),List.getElem?_append_left (by omega),hf j (by omega)]
  exact h5 j hj
 ·have hp:=(hr.push (h2:=h2++os1) (os:=h2.drop h.length++os1) (by rw[←List.append_assoc,←e2]) (ho.more os1) nd2 hn he).more os2
  have hd:D.take i++[e]=D.take (i+1):=by rw[List.take_add_one,hi];rfl
  rw[hd,List.append_assoc] at hp
  exact hp
 ·rcases List.mem_append.1 hj with hj|hj
  ·exact hJ j hj
  ·have:=hn j hj;omega
theorem PshF.done{s:Bool}{sz i id:Nat}{D:List (List PV)}{h0 h:List AO}(H:PshF s sz D h0 ⟨i,id,h⟩)(hi:D.length≤i):h0.length≤h.length∧(∀j,j<h0.length→h[j]?=h0[j]?)∧∃I,OwnL s h [.sl id sz 0 i] [.lst sz D] I∧I.Nodup∧∀j∈I,h0.length≤j:=by
 obtain⟨h1,h3,h4,h5,rows,J,hr,hJ⟩:=H
 simp only at h1 h3 h4 h5 hr
 rw[List.take_of_length_le hi] at hr
 exact⟨h4,h5,id::J,hr.tree (by omega),hr.nd,fun j hj=>by
  rcases List.mem_cons.1 hj with rfl|hj
  ·exact h3
  ·exact hJ j hj⟩
theorem yS{s:Bool}{n:Nat}{h1 os:List AO}{a b:List AV}{c d:List PV}{I1 I2:List Nat}(H1:OwnL s h1 a c I1)(n1:I1.Nodup)(f1:∀i∈I1,n≤i)(H2:OwnL s (h1++os) b d I2)(n2:I2.Nodup)(f2:∀i∈I2,h1.length≤i)(hn:n≤h1.length):
 OwnL s (h1++os) (a++b) (c++d) (I1++I2)∧(I1++I2).Nodup∧∀i∈I1++I2,n≤i:=by
 refine⟨(H1.more os).app H2,?_,fun i hi=>?_⟩
 ·rw[List.nodup_append]
  refine⟨n1,n2,fun a ha b hb e=>?_⟩
  have:=H1.lt ha;have:=f2 b hb;omega
 ·rcases List.mem_append.1 hi with hi|hi
  ·exact f1 i hi
  ·have:=f2 i hi;omega
theorem vA{α:Type}(l:List α)(a b:α):(l++[a]).set l.length b=l++[b]:=by
 rw[List.set_append_right _ _ (Nat.le_refl _),Nat.sub_self];rfl
theorem IP{h:List AO}{s:Sm}{A B E:AV}{I:List Nat}(H:OwnL true h ([A]++[B]++[E]) ([exL s.args]++[smL s.body]++[smL s.els]) I):OwnL true h [.p (.int .i64 s.op),.p (.str s.name),A,B,E] s.cs I:=by
 rw[s.cs_eq]
 exact .p _ (fun _=>rfl) (.p _ (fun _=>rfl) H)
theorem jI{s:Bool}{h:List AO}{v:AV}{q:PV}{I:List Nat}(H:OwnL s h [v] [q] I):(∃q',v= .p q')∨v= .nils∨∃a b n,v= .sl a b 0 n:=by
 cases H with
 |p q=>exact .inl ⟨_,rfl⟩
 |nils=>exact .inr (.inl rfl)
 |sl id sz n=>exact .inr (.inr ⟨_,_,_,rfl⟩)
theorem Ht{s:Bool}{h:List AO}{e:Ex}{K:AV}{I:List Nat}(H:OwnL s h [K] [exL e.kids] I):OwnL s h [.p (.int .i64 e.op),.p (.int .i64 e.n),.p (.str e.name),K] e.cs I:=by
 rw[e.cs_eq]
 exact .p _ (fun _=>rfl) (.p _ (fun _=>rfl) (.p _ (fun _=>rfl) H))
theorem Ed:∀(N:Nat) (e:Ex),e.sz≤N→e.sz≤1073741824→AC Tryz.prog G iO [.agg (e.cs.map .p)] [] (MkW .agg true e.cs):=by
 intro N
 induction N with
 |zero=>intro e he;have:=e.sz_eq;omega
 |succ N ih=>
  intro e he hb
  have hsz:=e.sz_eq
  have hkl:=bi e.kids
  refine AC.go vW ?_
  have hec:=e.cs_eq
  have hsl:exL e.kids= .lst 4 (e.kids.map Ex.cs):=rfl
  simp-implicitDefEqProofs[pz,hec,hsl]
  obtain⟨hb0,ehb⟩:∃hb0:List AO,hb0=[.row 4 [[.p (.int .i64 e.op),.p (.int .i64 e.n),.p (.str e.name),.p (.lst 4 (e.kids.map Ex.cs))]],.row 4 [[.p (.int .i64 0),.p (.int .i64 0),.p (.str []),.nils]]]:=⟨_,rfl⟩
  have hini:PshF true 4 (e.kids.map Ex.cs) hb0 ⟨0,2,[.row 4 [[.p (.int .i64 e.op),.p (.int .i64 e.n),.p (.str e.name),.p (.lst 4 (e.kids.map Ex.cs))]],.row 4 [[.p (.int .i64 0),.p (.int .i64 0),.p (.str []),.nils]],.row 4 []]⟩:=by
   rw[ehb];exact PshF.init _ []
  refine aN (fun a:PshS=>al 25 [(4,.p (.int .i64 a.i)),(3,.sl a.id 4 0 a.i),(2,.ptr 1 4 0 0),(1,.ptr 0 4 0 0)]) (fun a=>a.h) (PshF true 4 (e.kids.map Ex.cs) hb0) (fun a=>e.kids.length-a.i) _ hini ?_ ?_
  ·exact cS (by simp) (by simp[below])
  rintro⟨i,id,h'⟩ hJ
  have hl0:hb0.length=2:=by rw[ehb];rfl
  have g0:h'[0]?=some (.row 4 [[.p (.int .i64 e.op),.p (.int .i64 e.n),.p (.str e.name),.p (.lst 4 (e.kids.map Ex.cs))]]):=by rw[hJ.2.2.2.1 0 (by omega),ehb];rfl
  have g1:h'[1]?=some (.row 4 [[.p (.int .i64 0),.p (.int .i64 0),.p (.str []),.nils]]):=by rw[hJ.2.2.2.1 1 (by omega),ehb];rfl
  have hl2:2≤h'.length:=by have:=hJ.2.2.1;simp only at this;omega
  simp-implicitDefEqProofs[g0]
  refine bc (fun h1=>?_) (fun h1=>?_)
  ·simp at h1
   have hg:=List.getElem?_eq_getElem h1
   have hm:=bj (List.getElem_mem h1)
   have hH:=ih e.kids[i] (by omega) (by omega)
   have hcs:=e.kids[i].cs_eq
   have hDa:(e.kids.map Ex.cs)[i]?=some e.kids[i].cs:=by rw[List.getElem?_map,hg];rfl
   generalize e.kids[i]=k at hg hH hcs hDa
   have hA:=AC.mkLift xh hH (h:=h') (by rw[hcs];simp)
   rw[hcs] at hA
   simp-implicitDefEqProofs[g0,hg,hcs]
   refine hA.mono ?_
   rintro r h2 ⟨vs,I2,os,rfl,e2,ho,nd,hf⟩
   rw[←hcs] at ho
   obtain⟨rows,k1,k2,k3,k4,k5⟩:=hJ.step hDa (h2:=h2) (by rw[e2];simp) (fun x hx=>by rw[e2,List.getElem?_append_left hx]) ho nd hf k.cs_len
   obtain⟨K,rfl,hK⟩:=AZ ho
   have hwi:=w1 (i:=i) (by omega)
   rcases jI hK with⟨q1,rfl⟩|rfl|⟨x1,x2,x3,rfl⟩
   ·have k6:=k5 [.row 4 [[.p (.int .i64 k.op),.p (.int .i64 k.n),.p (.str k.name),.p q1]]] []
    simp-implicitDefEqProofs[aa,k1,k2]
    rw[List.take_of_length_le (l:=rows) (i:=i) (by omega)]
    refine⟨⟨by omega,by omega⟩,_,k6,by simp only;omega,cS (by simp) ?_⟩
    simp[below,hwi]
   ·have k6:=k5 [.row 4 [[.p (.int .i64 k.op),.p (.int .i64 k.n),.p (.str k.name),.nils]]] []
    simp-implicitDefEqProofs[aa,k1,k2]
    rw[List.take_of_length_le (l:=rows) (i:=i) (by omega)]
    refine⟨⟨by omega,by omega⟩,_,k6,by simp only;omega,cS (by simp) ?_⟩
    simp[below,hwi]
   ·have k6:=k5 [.row 4 [[.p (.int .i64 k.op),.p (.int .i64 k.n),.p (.str k.name),.sl x1 x2 0 x3]]] []
    simp-implicitDefEqProofs[aa,k1,k2]
    rw[List.take_of_length_le (l:=rows) (i:=i) (by omega)]
    refine⟨⟨by omega,by omega⟩,_,k6,by simp only;omega,cS (by simp) ?_⟩
    simp[below,hwi]
  ·simp at h1
   have hie:i=e.kids.length:=by have:=hJ.1;simp at this;omega
   obtain⟨d1,d2,I,ho,nd,hI⟩:=hJ.done (by simpa using h1)
   subst hie
   have hn0:0∉I:=fun hm=>by have:=hI 0 hm;omega
   have hn1:1∉I:=fun hm=>by have:=hI 1 hm;omega
   have s0:∀x,(h'.set 0 x)[0]?=some x:=fun x=>List.getElem?_set_self (by omega)
   have s1:∀x,(h'.set 0 x)[1]?=some (.row 4 [[.p (.int .i64 0),.p (.int .i64 0),.p (.str []),.nils]]):=fun x=>by rw[List.getElem?_set_ne (by omega)];exact g1
   have s2:∀x y,((h'.set 0 x).set 1 y)[1]?=some y:=fun x y=>List.getElem?_set_self (by rw[List.length_set];omega)
   simp-implicitDefEqProofs[g0,g1,s0,s1,s2]
   rw[←hsl,←hec]
   exact⟨_,I,rfl,Ht ((ho.set_out hn0 _).set_out hn1 _),nd⟩
theorem wx:∀(N:Nat) (l:List Sm),am l<N→am l≤1073741824→AC Tryz.prog G dP [.p (smL l)] [] (MkW di true [smL l]):=by
 intro N
 induction N with
 |zero=>intro l he;omega
 |succ N ih=>
  intro l hN hz
  have hsl:∀l,smL l= .lst 5 (l.map Sm.cs):=fun _=>rfl
  have hll:=bA l
  refine AC.go tO ?_
  simp-implicitDefEqProofs[nP,hsl]
  refine aN (fun a:PshS=>al 52 [(4,.p (.int .i64 a.i)),(3,.sl a.id 5 0 a.i),(0,.p (smL l))]) (fun a=>a.h) (PshF true 5 (l.map Sm.cs) []) (fun a=>l.length-a.i) ⟨0,0,[.row 5 []]⟩ (PshF.init [] []) ?_ ?_
  ·exact cS (by simp) (by simp[below,hsl])
  rintro⟨i,id,hh⟩ hI
  simp-implicitDefEqProofs[hsl]
  refine bc (fun h1=>?_) (fun h1=>?_)
  ·simp at h1
   have hg:=List.getElem?_eq_getElem h1
   have hm:=bY (List.getElem_mem h1)
   have hcs:=l[i].cs_eq
   have hse:=l[i].sz_eq
   have hD:(l.map Sm.cs)[i]?=some l[i].cs:=by rw[List.getElem?_map,hg];rfl
   generalize l[i]=s at hg hm hcs hse hD
   simp-implicitDefEqProofs[hg,hcs,vA]
   have hid:id<hh.length:=by obtain⟨_,_,_,_,_,_,hr,_⟩:=hI;exact hr.lt
   have hal:=bi s.args
   have hxl:exL s.args= .lst 4 (s.args.map Ex.cs):=rfl
   obtain⟨hb,ehb⟩:∃hb,hb=hh++[AO.row 5 [[.p (.int .i64 s.op),.p (.str s.name),.p (exL s.args),.p (smL s.body),.p (smL s.els)]]]:=⟨_,rfl⟩
   have hbl:hb.length=hh.length+1:=by rw[ehb];simp
   have hbx:hb[hh.length]?=some (.row 5 [[.p (.int .i64 s.op),.p (.str s.name),.p (exL s.args),.p (smL s.body),.p (smL s.els)]]):=by rw[ehb];simp
   have hini:PshF true 4 (s.args.map Ex.cs) hb ⟨0,hh.length+1,hh++[AO.row 5 [[.p (.int .i64 s.op),.p (.str s.name),.p (exL s.args),.p (smL s.body),.p (smL s.els)]],.row 4 []]⟩:=by
    have:=PshF.init (s:=true) (sz:=4) (D:=s.args.map Ex.cs) hb []
    rw[hbl,ehb,List.append_assoc] at this
    rw[ehb];exact this
   refine aN (fun a:PshS=>al 52 [(7,.p (.int .i64 a.i)),(6,.sl a.id 4 0 a.i),(5,.ptr hh.length 5 0 0),(4,.p (.int .i64 i)),(3,.sl id 5 0 i),(0,.p (smL l))]) (fun a=>a.h) (PshF true 4 (s.args.map Ex.cs) hb) (fun a=>s.args.length-a.i) _ hini ?_ ?_
   ·refine cS (by simp) ?_
    simp[below,hsl]
    omega
   rintro⟨j,id2,h'⟩ hJ
   have hjb:h'[hh.length]?=some (.row 5 [[.p (.int .i64 s.op),.p (.str s.name),.p (exL s.args),.p (smL s.body),.p (smL s.els)]]):=by
    rw[hJ.2.2.2.1 _ (by omega)];exact hbx
   have hlb:hh.length+1≤h'.length:=by have:=hJ.2.2.1;simp only at this;omega
   simp-implicitDefEqProofs[hjb,hxl]
   refine bc (fun h2=>?_) (fun h2=>?_)
   ·simp at h2
    have hga:=List.getElem?_eq_getElem h2
    have hma:=bj (List.getElem_mem h2)
    have hC:=Ed G _ s.args[j] (Nat.le_refl _) (by omega)
    have hka:=s.args[j].cs_eq
    have hDa:(s.args.map Ex.cs)[j]?=some s.args[j].cs:=by rw[List.getElem?_map,hga];rfl
    generalize s.args[j]=e at hga hma hC hka hDa
    have hA:=AC.mkLift xh hC (h:=h') (by rw[hka];simp)
    rw[hka] at hA
    simp-implicitDefEqProofs[hjb,hga,hka,hxl]
    refine hA.mono ?_
    rintro r h2 ⟨vs,I2,os,rfl,e2,ho,nd,hf⟩
    rw[←hka] at ho
    obtain⟨rows,k1,k2,k3,k4,k5⟩:=hJ.step hDa (h2:=h2) (by rw[e2];simp) (fun x hx=>by rw[e2,List.getElem?_append_left hx]) ho nd hf e.cs_len
    obtain⟨K,rfl,hK⟩:=AZ ho
    have hwj:=w1 (i:=j) (by omega)
    have hl2:h'.length≤h2.length:=by rw[e2];simp
    rcases jI hK with⟨q1,rfl⟩|rfl|⟨x1,x2,x3,rfl⟩
    ·have k6:=k5 [.row 4 [[.p (.int .i64 e.op),.p (.int .i64 e.n),.p (.str e.name),.p q1]]] []
     simp-implicitDefEqProofs[aa,k1,k2]
     rw[List.take_of_length_le (l:=rows) (i:=j) (by omega)]
     refine⟨⟨by omega,by omega⟩,_,k6,by simp only;omega,cS (by simp) ?_⟩
     simp[below,hsl,hwj]
     omega
    ·have k6:=k5 [.row 4 [[.p (.int .i64 e.op),.p (.int .i64 e.n),.p (.str e.name),.nils]]] []
     simp-implicitDefEqProofs[aa,k1,k2]
     rw[List.take_of_length_le (l:=rows) (i:=j) (by omega)]
     refine⟨⟨by omega,by omega⟩,_,k6,by simp only;omega,cS (by simp) ?_⟩
     simp[below,hsl,hwj]
     omega
    ·have k6:=k5 [.row 4 [[.p (.int .i64 e.op),.p (.int .i64 e.n),.p (.str e.name),.sl x1 x2 0 x3]]] []
     simp-implicitDefEqProofs[aa,k1,k2]
     rw[List.take_of_length_le (l:=rows) (i:=j) (by omega)]
     refine⟨⟨by omega,by omega⟩,_,k6,by simp only;omega,cS (by simp) ?_⟩
     simp[below,hsl,hwj]
     omega
   ·simp at h2
    have hjl:j=s.args.length:=by have:=hJ.1;simp at this;omega
    obtain⟨d1,d2,IA,oA,nA,fA⟩:=hJ.done (by simpa using h2)
    subst hjl
    have hB:=ih s.body (by omega) (by omega)
    have hE:=ih s.els (by omega) (by omega)
    simp-implicitDefEqProofs[hjb]
    refine(AC.mkLift me hB (h:=h') (by simp)).mono ?_
    rintro r h3 ⟨vB,IB,o1,rfl,e3,oB,nB,fB⟩
    obtain⟨B,rfl⟩:=eX oB
    have hjb3:h3[hh.length]?=some (.row 5 [[.p (.int .i64 s.op),.p (.str s.name),.p (exL s.args),.p (smL s.body),.p (smL s.els)]]):=by
     rw[e3,List.getElem?_append_left (by omega)];exact hjb
    simp-implicitDefEqProofs[aa,di,hjb3]
    refine(AC.mkLift me hE (h:=h3) (by simp)).mono ?_
    rintro r h4 ⟨vE,IE,o2,rfl,e4,oE,nE,fE⟩
    obtain⟨E,rfl⟩:=eX oE
    have hjb4:h4[hh.length]?=some (.row 5 [[.p (.int .i64 s.op),.p (.str s.name),.p (exL s.args),.p (smL s.body),.p (smL s.els)]]):=by
     have:hh.length<h3.length:=(List.getElem?_eq_some_iff.1 hjb3).1
     rw[e4,List.getElem?_append_left this];exact hjb3
    have cB:=jI oB
    have cE:=jI oE
    obtain⟨a1,a2,a3⟩:=yS oA nA fA (by rw[←e3];exact oB) nB fB d1
    rw[←e3] at a1
    obtain⟨b1,b2,b3⟩:=yS a1 a2 a3 (by rw[←e4];exact oE) nE fE (by rw[e3];simp;omega)
    rw[←e4] at b1
    have hS:=IP (s:=s) b1
    obtain⟨rows,k1,k2,k3,k4,k5⟩:=hI.step hD (h2:=h4) (by rw[e4,e3];simp;omega) (fun x hx=>by
     rw[e4,List.getElem?_append_left (by rw[e3];simp;omega),e3,List.getElem?_append_left (by omega),d2 x (by omega),ehb,List.getElem?_append_left hx]) hS b2 (fun x hx=>by have:=b3 x hx;omega) s.cs_len
    have k6:=k5 [.row 5 [[.p (.int .i64 s.op),.p (.str s.name),.sl id2 4 0 s.args.length,B,E]]] []
    have hwi:=w1 (i:=i) (by omega)
    rcases cB with⟨q1,rfl⟩|rfl|⟨x1,x2,x3,rfl⟩<;>rcases cE with⟨q2,rfl⟩|rfl|⟨y1,y2,y3,rfl⟩<;>
    ·simp-implicitDefEqProofs[aa,di,hjb4,k1,k2]
     rw[List.take_of_length_le (l:=rows) (i:=i) (by omega)]
     refine⟨⟨by omega,by omega⟩,_,k6,by simp only;omega,cS (by simp) ?_⟩
     simp[below,hsl,hwi]
  ·simp at h1
   obtain⟨_,_,I,ho,nd,_⟩:=hI.done (by simpa using h1)
   have hie:i=l.length:=by have:=hI.1;simp at this;omega
   subst hie
   simp-implicitDefEqProofs[]
   exact⟨_,I,rfl,ho,nd⟩
def cpK(a:PshS):AV:=if a.i=0 then .nils else .sl a.id 3 0 a.i
def CpI(l:List Fd)(a:PshS):Prop:=a.i≤l.length∧a.h[0]?=some (.row 1 [[.p (fdL l)]])∧a.h[1]?=some (.row 1 [[.nils]])∧a.h[2]?=some (.row 1 [[cpK a]])∧
 (0<a.i→3≤a.id∧∃rows J,RowOwn true a.h a.id 3 rows ((l.map Fd.cs).take a.i) J∧∀j∈J,3≤j)
theorem wI:∀l:List Fd,l.length≤aO l
 |[]=>Nat.le_refl _
 |f::r=>by
  have:=wI r
  have h1:aO (f::r)=f.sz+aO r:=by simp[aO]
  have h2:f.sz=1+f.name.length+(f.params.length+(f.params.map List.length).sum)+am f.body:=rfl
  simp only[List.length_cons];omega
theorem yq{h:List AO}{id:Nat}{l:List (List UInt8)}(e:h[id]?=some (ga l)){n:Nat}(hn:n=l.length):OwnL true h [.sl id 1 0 n] [au l] [id]:=by
 have hr:RowOwn true h id 1 (l.map fun w=>[AV.p (.str w)]) (l.map fun w=>[PV.str w]) []:=by
  refine⟨e,by simp,fun x hx=>by obtain⟨w,_,rfl⟩:=List.mem_map.1 hx;rfl,fun x hx=>by obtain⟨w,_,rfl⟩:=List.mem_map.1 hx;rfl,?_,by simp⟩
  clear e hn
  induction l with
  |nil=>exact .nil
  |cons w r ih=>exact .p _ (fun _=>rfl) ih
 exact hr.tree (by simpa using hn)
theorem GG{h3:List AO}(hl:3≤h3.length){r:List AV}{f:Fd}{I2:List Nat}(ho:OwnL true h3 r f.cs I2)(nd:I2.Nodup)(hf:∀j∈I2,3≤j)(o x:AO):∃J,RowOwn true ((h3++[o,.row 3 [r]]).set 2 x) (h3.length+1) 3 [r] [f.cs] J∧∀j∈J,3≤j:=by
 have hr:r.length=3:=by rw[ho.len,Fd.cs_len]
 refine⟨I2,⟨?_,rfl,fun e he=>by rw[List.mem_singleton.1 he];exact hr,fun e he=>by rw[List.mem_singleton.1 he];exact Fd.cs_len f,?_,?_⟩,hf⟩
 ·rw[List.getElem?_set_ne (by omega),List.getElem?_append_right (by omega),Nat.add_sub_cancel_left];rfl
 ·have:=(ho.more [o,.row 3 [r]]).set_out (fun hm=>by have:=hf 2 hm;omega:2∉I2) x
  simpa using this
 ·rw[List.nodup_cons]
  exact⟨fun hm=>by have:=ho.lt hm;omega,nd⟩
theorem Io{h h3:List AO}{id:Nat}{rows:List (List AV)}{D:List (List PV)}{J:List Nat}(H:RowOwn true h id 3 rows D J)(hJ:∀j∈J,3≤j)(hid:3≤id)(hh:3≤h.length)(e3:h3=h++h3.drop h.length){r:List AV}{f:Fd}{I2:List Nat}(ho:OwnL true h3 r f.cs I2)(nd:I2.Nodup)(hf:∀j∈I2,h.length≤j)(o x:AO):
 ∃J,RowOwn true (((h3++[o]).set id .dead++[AO.row 3 (rows++[r])]).set 2 x) (h3.length+1) 3 (rows++[r]) (D++[f.cs]) J∧∀j∈J,3≤j:=by
 have hp:=H.push (h2:=h3++[o]) (os:=h3.drop h.length++[o]) (by rw[←List.append_assoc,←e3]) (ho.more [o]) nd hf (Fd.cs_len f)
 have hl:(h3++[o]).length=h3.length+1:=by simp
 rw[hl] at hp
 have hl3:h.length≤h3.length:=by rw[e3];simp
 refine⟨J++I2,hp.frame fun k hk=>?_,fun j hj=>?_⟩
 ·have:3≤k:=by
   rcases List.mem_cons.1 hk with rfl|hk
   ·omega
   ·rcases List.mem_append.1 hk with hk|hk
    ·exact hJ k hk
    ·have:=hf k hk;omega
  rw[List.getElem?_set_ne (by omega)]
 ·rcases List.mem_append.1 hj with hj|hj
  ·exact hJ j hj
  ·have:=hf j hj;omega
theorem Et(l:List Fd)(hz:aO l≤1073741824):AC Tryz.prog G kW [.agg [.p (fdL l)]] [] (MkW .agg true [fdL l]):=by
 have hfl:∀l,fdL l= .lst 3 (l.map Fd.cs):=fun _=>rfl
 have hll:l.length≤aO l:=wI l
 refine AC.go wl ?_
 simp-implicitDefEqProofs[pt,hfl]
 refine aN (fun a:PshS=>al 35 [(4,.p (.int .i64 a.i)),(3,.ptr 2 1 0 0),(2,.ptr 1 1 0 0),(1,.ptr 0 1 0 0)]) (fun a=>a.h) (CpI l) (fun a=>l.length-a.i) ⟨0,0,[.row 1 [[.p (fdL l)]],.row 1 [[.nils]],.row 1 [[.nils]]]⟩ ⟨Nat.zero_le _,rfl,rfl,rfl,fun h=>by simp at h⟩ ?_ ?_
 ·exact cS (by simp) (by simp[below])
 rintro⟨i,id,h⟩ ⟨i1,i2,i3,i4,i5⟩
 simp only at i1 i2 i3 i4 i5
 have hl3:3≤h.length:=by have:=(List.getElem?_eq_some_iff.1 i4).1;omega
 have j2:∀os,(h++os)[0]?=some (.row 1 [[.p (fdL l)]]):=fun os=>by rw[List.getElem?_append_left (by omega)];exact i2
 have j4:∀os,(h++os)[2]?=some (.row 1 [[cpK ⟨i,id,h⟩]]):=fun os=>by rw[List.getElem?_append_left (by omega)];exact i4
 simp-implicitDefEqProofs[i2,hfl]
 refine bc (fun h1=>?_) (fun h1=>?_)
 ·simp at h1
  have hg:=List.getElem?_eq_getElem h1
  have hm:=cg (List.getElem_mem h1)
  have hD:(l.map Fd.cs)[i]?=some l[i].cs:=by rw[List.getElem?_map,hg];rfl
  generalize l[i]=f at hg hm hD
  have hcs:f.cs=[.str f.name,au f.params,smL f.body]:=rfl
  have hsp:au f.params= .lst 1 (f.params.map fun w=>[.str w]):=rfl
  have hfz:f.sz=1+f.name.length+(f.params.length+(f.params.map List.length).sum)+am f.body:=rfl
  have hB:=wx G _ f.body (Nat.lt_succ_self _) (by omega)
  by_cases hi0:i=0
  ·subst hi0
   have hk:cpK ⟨0,id,h⟩= .nils:=rfl
   rw[hk] at j4 i4
   have fin0:∀(h3:List AO) (r:List AV) (I2:List Nat) (l0:List (Nat × AV)),h.length+3≤h3.length→(∀j,j<h.length→h3[j]?=h[j]?)→OwnL true h3 r f.cs I2→I2.Nodup→(∀j∈I2,h.length≤j)→∀(o:AO) (hw:Aw.look l0 4= .p (.int .i64 (IntKind.i64.wrap 1))∧Aw.look l0 3= .ptr 2 1 0 0∧Aw.look l0 2= .ptr 1 1 0 0∧Aw.look l0 1= .ptr 0 1 0 0),
    ∃a',CpI l a'∧l.length-a'.i<l.length∧Wk 0 (al 35 l0) ((h3++[o,.row 3 [r]]).set 2 (.row 1 [[.sl (h3.length+1) 3 0 1]])) (al 35 [(4,.p (.int .i64 a'.i)),(3,.ptr 2 1 0 0),(2,.ptr 1 1 0 0),(1,.ptr 0 1 0 0)]) a'.h:=by
    intro h3 r I2 l0 hl4 hg3 oR nR fR o ⟨e4,e3,e2,e1⟩
    obtain⟨J,hJ,hJ3⟩:=GG (by omega) oR nR (fun j hj=>by have:=fR j hj;omega) o (.row 1 [[.sl (h3.length+1) 3 0 1]])
    have hd:(l.map Fd.cs).take 1=[f.cs]:=by rw[List.take_add_one,hD];rfl
    refine⟨⟨1,h3.length+1,_⟩,⟨by simp only;omega,?_,?_,?_,fun _=>⟨by simp only;omega,_,J,by simp only[hd];exact hJ,hJ3⟩⟩,by simp only;omega,cS (by simp) ?_⟩
    ·rw[List.getElem?_set_ne (by omega),List.getElem?_append_left (by omega),hg3 0 (by omega)];exact i2
    ·rw[List.getElem?_set_ne (by omega),List.getElem?_append_left (by omega),hg3 1 (by omega)];exact i3
    ·rw[List.getElem?_set_self (by simp;omega)];rfl
    ·simp[e1,e2,e3,e4,below]
     exact⟨by have:=w1 (i:=0) (by omega);simpa using this,by omega⟩
   simp-implicitDefEqProofs[i2,hfl,hg,hcs,hsp,vA, ↓j2, ↓j4]
   refine⟨⟨by omega,by omega⟩,?_⟩
   refine(AC.mkLift me hB (by simp)).mono ?_
   rintro r h3 ⟨vB,IB,o1,rfl,e3,oB,nB,fB⟩
   obtain⟨B,rfl⟩:=eX oB
   simp at fB
   have hg3:∀j,j<h.length→h3[j]?=h[j]?:=fun j hj=>by rw[e3,List.append_assoc,List.getElem?_append_left hj]
   have p0:h3[h.length]?=some (.row 3 [[.p (.str f.name),.p (.lst 1 (f.params.map fun w=>[.str w])),.p (smL f.body)]]):=by
    rw[e3,List.append_assoc,List.getElem?_append_right (Nat.le_refl _),Nat.sub_self];rfl
   have p2:h3[h.length+2]?=some (ga f.params):=by
    rw[e3,List.append_assoc,List.getElem?_append_right (by omega),Nat.add_sub_cancel_left]
    simp[ga,Function.comp_def]
   have oP:=yq p2 (n:=f.params.length) rfl
   have hl4:h.length+3≤h3.length:=by rw[e3];simp
   have q0:∀os,(h3++os)[2]?=some (.row 1 [[.nils]]):=fun os=>by rw[List.getElem?_append_left (by omega),hg3 2 (by omega)];exact i4
   have q1:h3[2]?=some (.row 1 [[.nils]]):=by rw[hg3 2 (by omega)];exact i4
   have q2:∀os,(h3++os)[h.length]?=some (.row 3 [[.p (.str f.name),.p (.lst 1 (f.params.map fun w=>[.str w])),.p (smL f.body)]]):=fun os=>by rw[List.getElem?_append_left (by omega)];exact p0
   clear p2
   have hfR:∀j∈[h.length+2]++IB,h.length≤j:=fun j hj=>by
    rcases List.mem_append.1 hj with hj|hj
    ·rw[List.mem_singleton.1 hj];omega
    ·have:=fB j hj;omega
   have hnR:([h.length+2]++IB).Nodup:=List.nodup_cons.2 ⟨fun hm=>by have:=fB _ hm;omega,nB⟩
   rcases jI oB with⟨b1,rfl⟩|rfl|⟨x1,x2,x3,rfl⟩
   ·have oR:=qg (s:=true) (w:=f.name) oP oB
    simp-implicitDefEqProofs[aa,di, ↓q1, ↓p0, ↓q0, ↓q2]
    exact fin0 h3 _ _ _ hl4 hg3 oR hnR hfR _ (by simp)
   ·have oR:=qg (s:=true) (w:=f.name) oP oB
    simp-implicitDefEqProofs[aa,di, ↓q1, ↓p0, ↓q0, ↓q2]
    exact fin0 h3 _ _ _ hl4 hg3 oR hnR hfR _ (by simp)
   ·have oR:=qg (s:=true) (w:=f.name) oP oB
    simp-implicitDefEqProofs[aa,di, ↓q1, ↓p0, ↓q0, ↓q2]
    exact fin0 h3 _ _ _ hl4 hg3 oR hnR hfR _ (by simp)
  ·have hk:cpK ⟨i,id,h⟩= .sl id 3 0 i:=if_neg hi0
   rw[hk] at j4 i4
   obtain⟨hid3,rows,J,hr,hJ3⟩:=i5 (by omega)
   have hrl:rows.length=i:=by have:=hr.len;rw[List.length_take,List.length_map] at this;omega
   have hidl:=hr.lt
   have fin0:∀(h3:List AO) (r:List AV) (I2:List Nat) (l0:List (Nat × AV)),h.length+3≤h3.length→(∀j,j<h.length→h3[j]?=h[j]?)→OwnL true h3 r f.cs I2→I2.Nodup→(∀j∈I2,h.length≤j)→∀(o:AO) (hw:Aw.look l0 4= .p (.int .i64 (IntKind.i64.wrap ((i:Int)+1)))∧Aw.look l0 3= .ptr 2 1 0 0∧Aw.look l0 2= .ptr 1 1 0 0∧Aw.look l0 1= .ptr 0 1 0 0),
    ∃a',CpI l a'∧l.length-a'.i<l.length-i∧Wk 0 (al 35 l0) (((h3++[o]).set id .dead++[AO.row 3 (rows++[r])]).set 2 (.row 1 [[.sl (h3.length+1) 3 0 (i+1)]])) (al 35 [(4,.p (.int .i64 a'.i)),(3,.ptr 2 1 0 0),(2,.ptr 1 1 0 0),(1,.ptr 0 1 0 0)]) a'.h:=by
    intro h3 r I2 l0 hl4 hg3 oR nR fR o ⟨e4,e3,e2,e1⟩
    obtain⟨J2,hJ,hJ4⟩:=Io hr hJ3 hid3 hl3 (vq (by omega) hg3) oR nR fR o (.row 1 [[.sl (h3.length+1) 3 0 (i+1)]])
    have hd:(l.map Fd.cs).take i++[f.cs]=(l.map Fd.cs).take (i+1):=by rw[List.take_add_one,hD];rfl
    rw[hd] at hJ
    refine⟨⟨i+1,h3.length+1,_⟩,⟨by simp only;omega,?_,?_,?_,fun _=>⟨by simp only;omega,_,J2,hJ,hJ4⟩⟩,by simp only;omega,cS (by simp) ?_⟩
    ·rw[List.getElem?_set_ne (by omega),List.getElem?_append_left (by simp only[List.length_set,List.length_append,List.length_cons];omega),List.getElem?_set_ne (by omega),List.getElem?_append_left (by omega),hg3 0 (by omega)];exact i2
    ·rw[List.getElem?_set_ne (by omega),List.getElem?_append_left (by simp only[List.length_set,List.length_append,List.length_cons];omega),List.getElem?_set_ne (by omega),List.getElem?_append_left (by omega),hg3 1 (by omega)];exact i3
    ·rw[List.getElem?_set_self (by simp;omega),cpK,if_neg (show¬(i+1=0) by omega)]
    ·simp[e1,e2,e3,e4,below]
     exact⟨w1 (i:=i) (by omega),by omega⟩
   simp-implicitDefEqProofs[i2,hfl,hg,hcs,hsp,vA, ↓j2, ↓j4]
   refine⟨⟨by omega,by omega⟩,?_⟩
   refine(AC.mkLift me hB (by simp)).mono ?_
   rintro r h3 ⟨vB,IB,o1,rfl,e3,oB,nB,fB⟩
   obtain⟨B,rfl⟩:=eX oB
   simp at fB
   have hg3:∀j,j<h.length→h3[j]?=h[j]?:=fun j hj=>by rw[e3,List.append_assoc,List.getElem?_append_left hj]
   have p0:h3[h.length]?=some (.row 3 [[.p (.str f.name),.p (.lst 1 (f.params.map fun w=>[.str w])),.p (smL f.body)]]):=by
    rw[e3,List.append_assoc,List.getElem?_append_right (Nat.le_refl _),Nat.sub_self];rfl
   have p2:h3[h.length+2]?=some (ga f.params):=by
    rw[e3,List.append_assoc,List.getElem?_append_right (by omega),Nat.add_sub_cancel_left]
    simp[ga,Function.comp_def]
   have oP:=yq p2 (n:=f.params.length) rfl
   have hl4:h.length+3≤h3.length:=by rw[e3];simp
   have q0:∀os,(h3++os)[2]?=some (.row 1 [[.sl id 3 0 i]]):=fun os=>by rw[List.getElem?_append_left (by omega),hg3 2 (by omega)];exact i4
   have q1:h3[2]?=some (.row 1 [[.sl id 3 0 i]]):=by rw[hg3 2 (by omega)];exact i4
   have q2:∀os,(h3++os)[h.length]?=some (.row 3 [[.p (.str f.name),.p (.lst 1 (f.params.map fun w=>[.str w])),.p (smL f.body)]]):=fun os=>by rw[List.getElem?_append_left (by omega)];exact p0
   clear p2
   have q4:∀x o y,((h3++x).set id o++y)[2]?=some (.row 1 [[.sl id 3 0 i]]):=fun x o y=>by
    rw[List.getElem?_append_left (by simp only[List.length_set,List.length_append];omega),List.getElem?_set_ne (by omega),List.getElem?_append_left (by omega),hg3 2 (by omega)];exact i4
   have q3:∀os,(h3++os)[id]?=some (.row 3 rows):=fun os=>by rw[List.getElem?_append_left (by omega),hg3 id hidl];exact hr.here
   have hfR:∀j∈[h.length+2]++IB,h.length≤j:=fun j hj=>by
    rcases List.mem_append.1 hj with hj|hj
    ·rw[List.mem_singleton.1 hj];omega
    ·have:=fB j hj;omega
   have hnR:([h.length+2]++IB).Nodup:=List.nodup_cons.2 ⟨fun hm=>by have:=fB _ hm;omega,nB⟩
   rcases jI oB with⟨b1,rfl⟩|rfl|⟨x1,x2,x3,rfl⟩
   ·have oR:=qg (s:=true) (w:=f.name) oP oB
    simp-implicitDefEqProofs[aa,di, ↓q1, ↓p0, ↓q0, ↓q2, ↓q3, ↓q4,hrl]
    rw[List.take_of_length_le (l:=rows) (i:=i) (by omega)]
    refine⟨⟨by omega,by omega⟩,?_⟩
    exact fin0 h3 _ _ _ hl4 hg3 oR hnR hfR _ (by simp)
   ·have oR:=qg (s:=true) (w:=f.name) oP oB
    simp-implicitDefEqProofs[aa,di, ↓q1, ↓p0, ↓q0, ↓q2, ↓q3, ↓q4,hrl]
    rw[List.take_of_length_le (l:=rows) (i:=i) (by omega)]
    refine⟨⟨by omega,by omega⟩,?_⟩
    exact fin0 h3 _ _ _ hl4 hg3 oR hnR hfR _ (by simp)
   ·have oR:=qg (s:=true) (w:=f.name) oP oB
    simp-implicitDefEqProofs[aa,di, ↓q1, ↓p0, ↓q0, ↓q2, ↓q3, ↓q4,hrl]
    rw[List.take_of_length_le (l:=rows) (i:=i) (by omega)]
    refine⟨⟨by omega,by omega⟩,?_⟩
    exact fin0 h3 _ _ _ hl4 hg3 oR hnR hfR _ (by simp)
 ·simp at h1
  have hie:i=l.length:=by omega
  subst hie
  have s1:∀x,(h.set 1 x)[1]?=some x:=fun x=>List.getElem?_set_self (by omega)
  by_cases hi0:l.length=0
  ·have hk:cpK ⟨l.length,id,h⟩= .nils:=if_pos hi0
   rw[hk] at i4
   simp-implicitDefEqProofs[i4,i3,s1]
   obtain rfl:=List.eq_nil_of_length_eq_zero hi0
   exact⟨[.nils],[],rfl,.nils 3 .nil,by simp⟩
  ·have hk:cpK ⟨l.length,id,h⟩= .sl id 3 0 l.length:=if_neg hi0
   rw[hk] at i4
   obtain⟨hid3,rows,J,hr,hJ3⟩:=i5 (by omega)
   rw[List.take_of_length_le (by simp)] at hr
   simp-implicitDefEqProofs[i4,i3,s1]
   have ho:=hr.tree (n:=l.length) (by simp)
   exact⟨[.sl id 3 0 l.length],id::J,rfl,ho.set_out (fun hm=>by
    rcases List.mem_cons.1 hm with hm|hm
    ·omega
    ·have:=hJ3 _ hm;omega) _,hr.nd⟩
end Go.Proofs.YtnjbhgpbgmpkcaaGreatDoor
