/-
  Contracts and lemmas that the card needs, part 5.
-/
import Derived.Test.YtiojgfhdcpppcaaDoorVc4
namespace Go.Proofs.YtiojgfhdcpppcaaDoor
open Go Go.Aw
set_option maxRecDepth 100000
structure LV where (name:List UInt8) (num block:Nat)
structure WS where (vs:List LV) (count:Nat) (code:Int)
def fl(c k:Int):Int:=if c=0 then k else c
theorem xr{c k:Int}(h:c≠0):fl c k=c:=if_neg h
def lkV(vs:List LV)(s:List UInt8):Option LV:=vs.find? fun v=>decide (v.name=s)
def dw(fns:List Fd)(s:List UInt8):Option Nat:=fns.findIdx? fun f=>decide (f.name=s)
def xS(fns:List Fd)(j:Nat):Nat:=match fns[j]? with|some f=>f.params.length|none=>0
def pE(vs:List LV)(s:List UInt8)(c:Int):Int:=match lkV vs s with|none=>fl c 3|some _=>c
def nt(fns:List Fd)(k:Nat)(s:List UInt8)(n:Nat)(c:Int):Int:=
 match dw fns s with|none=>fl c 4|some j=>if k≤j then fl c 4 else if xS fns j=n then c else fl c 5
def lP(fns:List Fd)(k:Nat)(vs:List LV)(o:Int)(s:List UInt8)(n:Nat)(c:Int):Int:=
 if o=2 then pE vs s c else if o=13 then nt fns k s n c else c
mutual
def uT(fns:List Fd)(k:Nat)(vs:List LV):Ex→Int→Int
 | .mk o _ s ks,c=>cY fns k vs ks (lP fns k vs o s ks.length c)
def cY(fns:List Fd)(k:Nat)(vs:List LV):List Ex→Int→Int
 |[],c=>c
 |e::r,c=>cY fns k vs r (uT fns k vs e c)
end
def vnm(n:Nat):List UInt8:=[118,UInt8.ofNat (97+n%26)]
def ra(vs:List LV)(s:List UInt8):List UInt8:=match lkV vs s with|none=>s|some v=>vnm v.num
mutual
def rnE(vs:List LV):Ex→Ex
 | .mk o n s ks=> .mk o n (if o=2 then ra vs s else s) (gX vs ks)
def gX(vs:List LV):List Ex→List Ex
 |[]=>[]
 |e::r=>rnE vs e::gX vs r
end
def rS(vs:List LV)(s:List UInt8)(b:Nat)(c:Int):Int:=match lkV vs s with|none=>c|some v=>if v.block=b then fl c 2 else c
def jg(w:WS)(s:List UInt8)(b:Nat):WS:=⟨⟨s,w.count,b⟩::w.vs,w.count+1,rS w.vs s b w.code⟩
def opW(o:Int)(s:List UInt8)(b:Nat)(w:WS):WS:=if o=1 then jg w s b else if o=2 then⟨w.vs,w.count,pE w.vs s w.code⟩ else w
def opN(o:Int)(s:List UInt8)(w:WS):List UInt8:=if o=1 then vnm w.count else if o=2 then ra w.vs s else s
def WS.back(w:WS)(vs:List LV):WS:=⟨vs,w.count,w.code⟩
mutual
def stW(fns:List Fd)(k b:Nat):Sm→WS→WS
 | .mk o s a bd el,w=>
   let w2:=opW o s b ⟨w.vs,w.count,cY fns k w.vs a w.code⟩
   let w3:=(cw fns k (b+1) bd w2).back w2.vs
   (cw fns k (b+1) el w3).back w2.vs
def cw(fns:List Fd)(k b:Nat):List Sm→WS→WS
 |[],w=>w
 |s::r,w=>cw fns k b r (stW fns k b s w)
end
def co(ps:List (List UInt8))(w:WS):WS:=ps.foldl (fun w s=>jg w s 0) w
def fnW(fns:List Fd)(k:Nat)(f:Fd):WS:=cw fns k 0 f.body (co f.params ⟨[],0,if dw fns f.name=some k then 0 else 2⟩)
def jc(fns:List Fd):Nat→List Fd→Int
 |_,[]=>0
 |k,f::r=>if(fnW fns k f).code=0 then jc fns (k+1) r else(fnW fns k f).code
def cD(fns:List Fd):Int:=if br fns then jc fns 0 fns else 1
abbrev Scp:=List (List UInt8 × Nat)
def fZ(m:Scp)(s:List UInt8):Option Nat:=(m.find? fun x=>decide (x.1=s)).map (·.2)
def im:Scp→List UInt8→Nat→Scp
 |[],s,n=>[(s,n)]
 |x::r,s,n=>if x.1=s then(s,n)::r else x::im r s n
def ij:List Scp→List UInt8→Option Nat
 |[],_=>none
 |m::r,s=>match fZ m s with|some n=>some n|none=>ij r s
def ew(fns:List Fd)(k:Nat)(ch:List Scp)(c:Int)(e:Ex):Int:=
 if e.op=2 then(if(ij ch e.name).isSome then c else fl c 3)
 else if e.op=13 then(match dw (fns.take k) e.name with|none=>fl c 4|some j=>if xS fns j=e.kids.length then c else fl c 5)
 else c
mutual
def Ex.pre:Ex→List Ex
 | .mk o n s ks=> .mk o n s ks::fI ks
def fI:List Ex→List Ex
 |[]=>[]
 |e::r=>e.pre++fI r
end
def wl(fns:List Fd)(k:Nat)(ch:List Scp)(l:List Ex)(c:Int):Int:=(fI l).foldl (ew fns k ch) c
def opS(o:Int)(s:List UInt8)(m:Scp)(n:Nat):Scp:=if o=1 then im m s n else m
def opC(o:Int)(s:List UInt8)(m:Scp)(up:List Scp)(c:Int):Int:=
 if o=1 then(if(fZ m s).isSome then fl c 2 else c) else if o=2 then(if(ij (m::up) s).isSome then c else fl c 3) else c
mutual
def icS(fns:List Fd)(k:Nat):Sm→Scp→List Scp→Int→Scp × Int
 | .mk o s a bd el,m,up,c=>
   let m2:=opS o s m 0
   let c2:=opC o s m up (wl fns k (m::up) a c)
   (m2,if o=5∨o=6 then(fm fns k el [] (m2::up) (fm fns k bd [] (m2::up) c2).2).2 else c2)
def fm(fns:List Fd)(k:Nat):List Sm→Scp→List Scp→Int→Scp × Int
 |[],m,_,c=>(m,c)
 |s::r,m,up,c=>fm fns k r (icS fns k s m up c).1 up (icS fns k s m up c).2
end
def iV(ps:List (List UInt8))(m:Scp)(c:Int):Scp × Int:=ps.foldl (fun x s=>(im x.1 s 0,if(fZ x.1 s).isSome then fl x.2 2 else x.2)) (m,c)
def icF(fns:List Fd)(k:Nat)(f:Fd)(c:Int):Int:=
 let c1:=if(match dw fns f.name with|some j=>decide (j<k)|none=>true) then fl c 2 else c
 let x:=iV f.params [] c1
 (fm fns k f.body x.1 [] x.2).2
def ia(fns:List Fd):Nat→List Fd→Int→Int
 |_,[],c=>c
 |k,f::r,c=>ia fns (k+1) r (icF fns k f c)
def SR(g:LV→Nat):Nat→List LV→List Scp→Prop
 |_,_,[]=>False
 |b,vs,m::up=>∃v1 v2,vs=v1++v2∧(∀v∈v1,v.block=b)∧(∀s,(lkV v1 s).map g=fZ m s)∧match b with
  |0=>v2=[]∧up=[]
  |b+1=>SR g b v2 up
theorem xL(a b:List LV)(s:List UInt8):lkV (a++b) s=match lkV a s with|some v=>some v|none=>lkV b s:=by
 simp only[lkV,List.find?_append]
 cases List.find? (fun v=>decide (v.name=s)) a<;>rfl
variable {g:LV→Nat}
theorem SR.blk:∀{b:Nat} {vs:List LV} {ch:List Scp},SR g b vs ch→∀v∈vs,v.block≤b
 |b,_,[],h,v,hv=>by cases b<;>exact False.elim h
 |0,vs,m::up,⟨v1,v2,e,h1,_,h3,_⟩,v,hv=>by
  subst e;subst h3
  rw[List.append_nil] at hv
  exact Nat.le_of_eq (h1 v hv)
 |b+1,vs,m::up,⟨v1,v2,e,h1,_,h3⟩,v,hv=>by
  subst e
  rcases List.mem_append.1 hv with h|h
  ·exact Nat.le_of_eq (h1 v h)
  ·exact Nat.le_succ_of_le (SR.blk h3 v h)
theorem SR.fnd:∀{b:Nat} {vs:List LV} {ch:List Scp},SR g b vs ch→∀s,(lkV vs s).map g=ij ch s
 |b,_,[],h,s=>by cases b<;>exact False.elim h
 |0,vs,m::up,⟨v1,v2,e,h1,h2,h3,h4⟩,s=>by
  subst e;subst h3;subst h4
  rw[List.append_nil,h2,ij]
  cases fZ m s<;>rfl
 |b+1,vs,m::up,⟨v1,v2,e,h1,h2,h3⟩,s=>by
  subst e
  have ih:=SR.fnd h3 s
  have h2:=h2 s
  rw[xL,ij,←h2]
  cases e1:lkV v1 s with
  |some v=>rfl
  |none=>exact ih
theorem SR.is{b:Nat}{vs:List LV}{ch:List Scp}(h:SR g b vs ch)(s:List UInt8):(lkV vs s).isSome=(ij ch s).isSome:=by rw[←h.fnd s,Option.isSome_map]
theorem xE{vs:List LV}{s:List UInt8}{v:LV}(h:lkV vs s=some v):v∈vs:=List.mem_of_find?_eq_some h
theorem SR.put:∀{b:Nat} {vs:List LV} {m:Scp} {up:List Scp},SR g b vs (m::up)→∀(s:List UInt8) (c:Int),rS vs s b c=if(fZ m s).isSome then fl c 2 else c:=by
 intro b vs m up h s c
 have key:∀v1 v2:List LV,(∀v∈v1,v.block=b)→(lkV v1 s).map g=fZ m s→(∀v∈v2,v.block≠b)→rS (v1++v2) s b c=if(fZ m s).isSome then fl c 2 else c:=by
  intro v1 v2 h1 h2 h3
  rw[←h2,rS,xL]
  cases e1:lkV v1 s with
  |some v=>simp[h1 v (xE e1)]
  |none=>
   cases e2:lkV v2 s with
   |none=>rfl
   |some v=>simp[h3 v (xE e2)]
 match b,h with
 |0,⟨v1,v2,e,h1,h2,h3,_⟩=>subst e;subst h3;exact key v1 [] h1 (h2 s) (fun v hv=>by simp at hv)
 |b+1,⟨v1,v2,e,h1,h2,h3⟩=>subst e;exact key v1 v2 h1 (h2 s) (fun v hv e=>by have:=h3.blk v hv;omega)
theorem uc:∀(m:Scp) (s:List UInt8) (n:Nat) (t:List UInt8),fZ (im m s n) t=if s=t then some n else fZ m t
 |[],s,n,t=>by
  by_cases h:s=t
  ·simp[im,fZ,h]
  ·simp[im,fZ,h]
 |x::r,s,n,t=>by
  have ih:=uc r s n t
  simp only[fZ] at ih
  by_cases hx:x.1=s
  ·by_cases h:s=t
   ·simp[im,fZ,hx,h]
   ·have:¬x.1=t:=by rw[hx];exact h
    simp[im,fZ,hx,h]
  ·by_cases ht:x.1=t
   ·have:¬s=t:=fun e=>hx (ht.trans e.symm)
    rw[im,if_neg hx,if_neg this];simp[fZ,ht]
   ·simp only[im,fZ,if_neg hx,List.find?_cons,ht,decide_false]
    exact ih
theorem SR.add{b:Nat}{vs:List LV}{m:Scp}{up:List Scp}(h:SR g b vs (m::up))(s:List UInt8)(n k:Nat)(hg:g ⟨s,n,b⟩=k):SR g b (⟨s,n,b⟩::vs) (im m s k::up):=by
 have key:∀v1:List LV,(∀s,(lkV v1 s).map g=fZ m s)→∀t,(lkV (⟨s,n,b⟩::v1) t).map g=fZ (im m s k) t:=by
  intro v1 h2 t
  rw[uc]
  by_cases e:s=t
  ·simp[lkV,e,←hg]
  ·rw[if_neg e,←h2 t];simp[lkV,e]
 match b,h with
 |0,⟨v1,v2,e,h1,h2,h3⟩=>
  subst e
  refine⟨⟨s,n,0⟩::v1,v2,rfl,fun v hv=>?_,key v1 h2,h3⟩
  rcases List.mem_cons.1 hv with rfl|hv
  ·rfl
  ·exact h1 v hv
 |b+1,⟨v1,v2,e,h1,h2,h3⟩=>
  subst e
  refine⟨⟨s,n,b+1⟩::v1,v2,rfl,fun v hv=>?_,key v1 h2,h3⟩
  rcases List.mem_cons.1 hv with rfl|hv
  ·rfl
  ·exact h1 v hv
theorem SR.open{b:Nat}{vs:List LV}{ch:List Scp}(h:SR g b vs ch):SR g (b+1) vs ([]::ch):=⟨[],vs,rfl,fun v hv=>by simp at hv,fun s=>rfl,h⟩
theorem SR.base:SR g 0 [] [[]]:=⟨[],[],rfl,fun v hv=>by simp at hv,fun s=>rfl,rfl,rfl⟩
theorem tq{α:Type}{p:α→Bool}{l:List α}{k:Nat}:(l.take k).findIdx? p=match l.findIdx? p with|some j=>if j<k then some j else none|none=>none:=by
 cases h:l.findIdx? p with
 |none=>
  rw[List.findIdx?_eq_none_iff] at h⊢
  exact fun x hx=>h x (List.mem_of_mem_take hx)
 |some j=>
  rw[List.findIdx?_eq_some_iff_getElem] at h
  obtain⟨h1,h2,h3⟩:=h
  simp only
  split
  ·rename_i hj
   rw[List.findIdx?_eq_some_iff_getElem]
   exact⟨by rw[List.length_take];omega,by rw[List.getElem_take];exact h2,fun i hi=>by rw[List.getElem_take];exact h3 i hi⟩
  ·rename_i hj
   rw[List.findIdx?_eq_none_iff]
   intro x hx
   obtain⟨i,hi,rfl⟩:=List.mem_take_iff_getElem.1 hx
   simpa using h3 i (by omega)
theorem AN(fns:List Fd)(k:Nat){vs:List LV}{ch:List Scp}(h:∀s,(lkV vs s).isSome=(ij ch s).isSome)(e:Ex)(c:Int):lP fns k vs e.op e.name e.kids.length c=ew fns k ch c e:=by
 unfold lP ew
 split
 ·rw[←h,pE];cases lkV vs e.name<;>rfl
 ·split
  ·rw[nt,dw,dw,tq]
   cases List.findIdx? (fun f=>decide (f.name=e.name)) fns with
   |none=>rfl
   |some j=>
    simp only
    by_cases hj:j<k
    ·rw[if_neg (by omega),if_pos hj]
    ·rw[if_pos (by omega),if_neg hj]
  ·rfl
mutual
theorem Ca(fns:List Fd)(k:Nat){vs:List LV}{ch:List Scp}(h:∀s,(lkV vs s).isSome=(ij ch s).isSome):∀(e:Ex) (c:Int),uT fns k vs e c=e.pre.foldl (ew fns k ch) c
 | .mk o n s ks,c=>by
   rw[uT,Ex.pre,List.foldl_cons,←qM fns k h ks,←AN fns k h];rfl
theorem qM(fns:List Fd)(k:Nat){vs:List LV}{ch:List Scp}(h:∀s,(lkV vs s).isSome=(ij ch s).isSome):∀(l:List Ex) (c:Int),cY fns k vs l c=(fI l).foldl (ew fns k ch) c
 |[],c=>rfl
 |e::r,c=>by rw[cY,fI,List.foldl_append,Ca fns k h e,qM fns k h r]
end
abbrev g0:LV→Nat:=fun _=>0
theorem Dq{b:Nat}{w:WS}{m:Scp}{up:List Scp}(h:SR g0 b w.vs (m::up))(o:Int)(s:List UInt8):SR g0 b (opW o s b w).vs (opS o s m 0::up)∧(opW o s b w).code=opC o s m up w.code:=by
 unfold opW opS opC
 by_cases h1:o=1
 ·simp only[h1,if_true]
  exact⟨h.add s _ 0 rfl,h.put s _⟩
 ·simp only[if_neg h1]
  split
  ·refine⟨h,?_⟩
   have:=h.is s
   simp only[pE]
   rw[←this]
   cases lkV w.vs s<;>rfl
  ·exact⟨h,rfl⟩
theorem wN{d:Nat}{o:Int}{s:List UInt8}{a:List Ex}{bd el:List Sm}(h:aI (d+1) (.mk o s a bd el)=true):bd.all (aI d)=true∧el.all (aI d)=true∧(¬(o=5∨o=6)→bd=[]∧el=[]):=by
 simp only[aI,gB,Sm.op,Sm.body,Sm.els,Bool.and_eq_true,Bool.or_eq_true,decide_eq_true_eq,List.isEmpty_iff] at h
 refine⟨h.1.2,h.2,fun hn=>⟨?_,?_⟩⟩
 ·rcases h.1.1.2 with(h|h)|h
  ·exact h
  ·exact absurd (.inl (of_decide_eq_true h)) hn
  ·exact absurd (.inr (of_decide_eq_true h)) hn
 ·rcases h.1.1.1.2 with h|h
  ·exact h
  ·exact absurd (.inl (of_decide_eq_true h)) hn
theorem sh(w:WS)(vs:List LV):(w.back vs).code=w.code:=rfl
theorem DY(fns:List Fd)(k:Nat):∀(d b:Nat) (l:List Sm),l.all (aI d)=true→∀(w:WS) (m:Scp) (up:List Scp),SR g0 b w.vs (m::up)→
 SR g0 b (cw fns k b l w).vs ((fm fns k l m up w.code).1::up)∧(cw fns k b l w).code=(fm fns k l m up w.code).2:=by
 intro d
 induction d with
 |zero=>
  intro b l hl w m up h
  cases l with
  |nil=>exact⟨h,rfl⟩
  |cons s r=>simp[aI] at hl
 |succ d ih=>
  have one:∀(b:Nat) (s:Sm),aI (d+1) s=true→∀(w:WS) (m:Scp) (up:List Scp),SR g0 b w.vs (m::up)→
   SR g0 b (stW fns k b s w).vs ((icS fns k s m up w.code).1::up)∧(stW fns k b s w).code=(icS fns k s m up w.code).2:=by
   intro b s hs w m up h
   obtain⟨o,n,a,bd,el⟩:=s
   obtain⟨f1,f2,f3⟩:=wN hs
   have hc:=qM fns k h.is a w.code
   obtain⟨g1,g2⟩:=Dq (w:=⟨w.vs,w.count,cY fns k w.vs a w.code⟩) h o n
   rw[stW,icS]
   simp only[hc] at g1 g2⊢
   generalize hw2:opW o n b ⟨w.vs,w.count,(fI a).foldl (ew fns k (m::up)) w.code⟩=w2 at*
   refine⟨g1,?_⟩
   rw[sh]
   have g2':w2.code=opC o n m up (wl fns k (m::up) a w.code):=g2
   rw[←g2']
   by_cases ho:o=5∨o=6
   ·rw[if_pos ho]
    have k1:=ih (b+1) bd f1 w2 [] _ g1.open
    have k2:=ih (b+1) el f2 ((cw fns k (b+1) bd w2).back w2.vs) [] _ g1.open
    rw[k2.2,sh,k1.2]
   ·obtain⟨rfl,rfl⟩:=f3 ho
    rw[if_neg ho]
    simp[cw,WS.back]
  intro b l
  induction l with
  |nil=>intro _ w m up h;exact⟨h,rfl⟩
  |cons s r ihl=>
   intro hl w m up h
   rw[List.all_cons,Bool.and_eq_true] at hl
   obtain⟨k1,k2⟩:=one b s hl.1 w m up h
   have:=ihl hl.2 _ _ up k1
   rw[cw,fm,←k2]
   exact this
theorem wU:∀(ps:List (List UInt8)) (w:WS) (m:Scp),SR g0 0 w.vs [m]→SR g0 0 (co ps w).vs [(iV ps m w.code).1]∧(co ps w).code=(iV ps m w.code).2
 |[],w,m,h=>⟨h,rfl⟩
 |s::r,w,m,h=>by
  have hp:=h.put s w.code
  have:=wU r (jg w s 0) (im m s 0) (h.add s w.count 0 rfl)
  simp only[co,iV,List.foldl_cons] at this⊢
  rw[←hp]
  exact this
theorem Ab{fns:List Fd}{k:Nat}{ch:List Scp}{c:Int}(h:c≠0)(e:Ex):ew fns k ch c e=c:=by
 unfold ew
 simp only[xr h]
 split
 ·split<;>rfl
 ·split
  ·split
   ·rfl
   ·split<;>rfl
  ·rfl
theorem sE{fns:List Fd}{k:Nat}{ch:List Scp}{c:Int}(h:c≠0):∀l:List Ex,l.foldl (ew fns k ch) c=c
 |[]=>rfl
 |e::r=>by rw[List.foldl_cons,Ab h,sE h r]
theorem Bq{o:Int}{s:List UInt8}{m:Scp}{up:List Scp}{c:Int}(h:c≠0):opC o s m up c=c:=by
 unfold opC
 simp only[xr h]
 split
 ·split<;>rfl
 ·split
  ·split<;>rfl
  ·rfl
mutual
theorem Bb(fns:List Fd)(k:Nat){c:Int}(h:c≠0):∀(s:Sm) (m:Scp) (up:List Scp),(icS fns k s m up c).2=c
 | .mk o s a bd el,m,up=>by
   rw[icS]
   simp only[wl,sE h,Bq h]
   rw[kR fns k h bd,kR fns k h el,ite_self]
theorem kR(fns:List Fd)(k:Nat){c:Int}(h:c≠0):∀(l:List Sm) (m:Scp) (up:List Scp),(fm fns k l m up c).2=c
 |[],m,up=>rfl
 |s::r,m,up=>by rw[fm,Bb fns k h s m up,kR fns k h r]
end
theorem sG{c:Int}(h:c≠0):∀(ps:List (List UInt8)) (m:Scp),(iV ps m c).2=c
 |[],m=>rfl
 |s::r,m=>by
  have:=sG h r (im m s 0)
  simp only[iV,List.foldl_cons,xr h,ite_self] at this⊢
  exact this
theorem Au(fns:List Fd)(k:Nat)(f:Fd){c:Int}(h:c≠0):icF fns k f c=c:=by
 simp only[icF,xr h,ite_self]
 rw[sG h,kR fns k h]
theorem qE(fns:List Fd){c:Int}(h:c≠0):∀(l:List Fd) (k:Nat),ia fns k l c=c
 |[],k=>rfl
 |f::r,k=>by rw[ia,Au fns k f h,qE fns h r]
theorem sw{fns:List Fd}{k:Nat}{f:Fd}(h:fns[k]?=some f):∃j,dw fns f.name=some j∧j≤k:=by
 cases e:dw fns f.name with
 |none=>
  rw[dw,List.findIdx?_eq_none_iff] at e
  have:=e f (List.mem_of_getElem? h)
  simp at this
 |some j=>
  refine⟨j,rfl,?_⟩
  rw[dw,List.findIdx?_eq_some_iff_getElem] at e
  obtain⟨h1,h2,h3⟩:=e
  rcases Nat.lt_or_ge k j with hk|hk
  ·have:=h3 k hk
   obtain⟨a1,a2⟩:=List.getElem?_eq_some_iff.1 h
   rw[a2] at this
   simp at this
  ·exact hk
theorem Fx(fns:List Fd){k:Nat}{f:Fd}(hf:fns[k]?=some f)(hok:ir f=true):(fnW fns k f).code=icF fns k f 0:=by
 obtain⟨j,e1,e2⟩:=sw hf
 have hb:f.body.all (aI 4)=true:=by simp only[ir,Bool.and_eq_true] at hok;exact hok.2
 have hc:(if dw fns f.name=some k then(0:Int) else 2)=if(match dw fns f.name with|some j=>decide (j<k)|none=>true) then fl 0 2 else 0:=by
  rw[e1]
  by_cases h:j=k
  ·subst h;simp
  ·have:j<k:=by omega
   simp[h,this,fl]
 obtain⟨p1,p2⟩:=wU f.params ⟨[],0,if dw fns f.name=some k then(0:Int) else 2⟩ [] SR.base
 obtain⟨q1,q2⟩:=DY fns k 4 0 f.body hb _ _ [] p1
 rw[fnW,q2,p2]
 simp only[icF,←hc]
theorem Bn(fns:List Fd):∀(l:List Fd) (k:Nat),(∀i,l[i]?=fns[k+i]?)→l.all ir=true→jc fns k l=ia fns k l 0
 |[],k,_,_=>rfl
 |f::r,k,hl,ha=>by
  rw[List.all_cons,Bool.and_eq_true] at ha
  have h0:fns[k]?=some f:=by have:=hl 0;simpa using this.symm
  have hr:∀i,r[i]?=fns[k+1+i]?:=fun i=>by have:=hl (i+1);rw[List.getElem?_cons_succ] at this;rw[this];congr 1;omega
  rw[jc,ia,Fx fns h0 ha.1]
  split
  ·rename_i e;rw[e];exact Bn fns r (k+1) hr ha.2
  ·rename_i e;rw[qE fns e]
theorem wP(fns:List Fd):cD fns=if br fns then ia fns 0 fns 0 else 1:=by
 unfold cD
 split
 ·rename_i h
  simp only[br,Bool.and_eq_true] at h
  exact Bn fns fns 0 (fun i=>by rw[Nat.zero_add]) h.1.2
 ·rfl
end Go.Proofs.YtiojgfhdcpppcaaDoor
namespace Go.Proofs.YtiojgfhdcpppcaaDoor
open Go Go.Aw
set_option maxRecDepth 100000
mutual
def rnS(fns:List Fd)(k b:Nat):Sm→WS→Sm
 | .mk o s a bd el,w=>
   let w2:=opW o s b ⟨w.vs,w.count,cY fns k w.vs a w.code⟩
   .mk o (opN o s w) (gX w.vs a) (fp fns k (b+1) bd w2) (fp fns k (b+1) el ((cw fns k (b+1) bd w2).back w2.vs))
def fp(fns:List Fd)(k b:Nat):List Sm→WS→List Sm
 |[],_=>[]
 |s::r,w=>rnS fns k b s w::fp fns k b r (stW fns k b s w)
end
def lA:List (List UInt8)→WS→List (List UInt8)
 |[],_=>[]
 |s::r,w=>vnm w.count::lA r (jg w s 0)
def rnF(fns:List Fd)(k:Nat)(f:Fd):Fd:=
 ⟨f.name,lA f.params ⟨[],0,if dw fns f.name=some k then 0 else 2⟩,fp fns k 0 f.body (co f.params ⟨[],0,if dw fns f.name=some k then 0 else 2⟩)⟩
mutual
def qO:Sm→Nat
 | .mk o _ _ bd el=>(if o=1 then 1 else 0)+dv bd+dv el
def dv:List Sm→Nat
 |[]=>0
 |s::r=>qO s+dv r
end
theorem oH(o:Int)(s:List UInt8)(b:Nat)(w:WS):(opW o s b w).count=w.count+if o=1 then 1 else 0:=by
 unfold opW
 split
 ·rfl
 ·split<;>rfl
mutual
theorem sx(fns:List Fd)(k:Nat):∀(s:Sm) (b:Nat) (w:WS),(stW fns k b s w).count=w.count+qO s
 | .mk o s a bd el,b,w=>by
   rw[stW,qO]
   simp only[WS.back]
   rw[ey fns k el,ey fns k bd,oH];show w.count+_+_+_=_
   omega
theorem ey(fns:List Fd)(k:Nat):∀(l:List Sm) (b:Nat) (w:WS),(cw fns k b l w).count=w.count+dv l
 |[],b,w=>rfl
 |s::r,b,w=>by rw[cw,dv,ey fns k r,sx fns k s];omega
end
mutual
theorem Cf:∀s:Sm,qO s≤s.cnt
 | .mk o s a bd el=>by
   have:=jY bd
   have:=jY el
   simp only[qO,Sm.cnt]
   split<;>omega
theorem jY:∀l:List Sm,dv l≤dh l
 |[]=>Nat.le_refl _
 |s::r=>by have:=Cf s;have:=jY r;simp only[dv,dh];omega
end
theorem kb:∀(ps:List (List UInt8)) (w:WS),(co ps w).count=w.count+ps.length
 |[],w=>rfl
 |s::r,w=>by
  have:=kb r (jg w s 0)
  simp only[co,List.foldl_cons,List.length_cons] at this⊢
  rw[this];simp only[jg];omega
theorem yn(fns:List Fd)(k:Nat)(f:Fd):(fnW fns k f).count=f.params.length+dv f.body:=by
 rw[fnW,ey,kb];simp
theorem Cq(o:Int)(s:List UInt8)(b:Nat)(w:WS):∃e,(opW o s b w).vs=e++w.vs:=by
 unfold opW
 split
 ·exact⟨[_],rfl⟩
 ·split<;>exact⟨[],rfl⟩
theorem zO(fns:List Fd)(k b:Nat)(o:Int)(s:List UInt8)(a:List Ex)(bd el:List Sm)(w:WS):(stW fns k b (.mk o s a bd el) w).vs=(opW o s b ⟨w.vs,w.count,cY fns k w.vs a w.code⟩).vs:=rfl
theorem vD(fns:List Fd)(k:Nat):∀(l:List Sm) (b:Nat) (w:WS),∃e,(cw fns k b l w).vs=e++w.vs
 |[],b,w=>⟨[],rfl⟩
 | .mk o s a bd el::r,b,w=>by
   obtain⟨e1,h1⟩:=vD fns k r b (stW fns k b (.mk o s a bd el) w)
   obtain⟨e2,h2⟩:=Cq o s b ⟨w.vs,w.count,cY fns k w.vs a w.code⟩
   exact⟨e1++e2,by rw[cw,h1,zO,h2,List.append_assoc]⟩
theorem DW{o:Int}{s:List UInt8}{b:Nat}{w:WS}(h:w.vs.length≤w.count):(opW o s b w).vs.length≤(opW o s b w).count:=by
 unfold opW
 split
 ·simp[jg,h]
 ·split<;>exact h
theorem Dy(fns:List Fd)(k:Nat){s:Sm}{b:Nat}{w:WS}(h:w.vs.length≤w.count):(stW fns k b s w).vs.length≤(stW fns k b s w).count:=by
 obtain⟨o,n,a,bd,el⟩:=s
 rw[sx,zO]
 have:=DW (o:=o) (s:=n) (b:=b) (w:=⟨w.vs,w.count,cY fns k w.vs a w.code⟩) h
 rw[oH] at this
 simp only[qO]
 simp only at this
 omega
theorem xm(fns:List Fd)(k:Nat):∀{l:List Sm} {b:Nat} {w:WS},w.vs.length≤w.count→(cw fns k b l w).vs.length≤(cw fns k b l w).count
 |[],_,_,h=>h
 |s::r,b,w,h=>xm fns k (l:=r) (Dy fns k h)
mutual
def Sm.pre(d:Nat):Sm→List (Sm × Nat)
 | .mk o s a bd el=>(.mk o s a bd el,d)::(bv (d+1) bd++bv (d+1) el)
def bv(d:Nat):List Sm→List (Sm × Nat)
 |[]=>[]
 |s::r=>Sm.pre d s++bv d r
end
theorem Sm.pre_eq(d:Nat)(s:Sm):s.pre d=(s,d)::(bv (d+1) s.body++bv (d+1) s.els):=by cases s;rfl
theorem me(d:Nat):∀a b:List Sm,bv d (a++b)=bv d a++bv d b
 |[],b=>rfl
 |s::r,b=>by rw[List.cons_append,bv,bv,me d r b,List.append_assoc]
theorem Ex.pre_eq(e:Ex):e.pre=e::fI e.kids:=by cases e;rfl
theorem mQ:∀a b:List Ex,fI (a++b)=fI a++fI b
 |[],b=>rfl
 |e::r,b=>by rw[List.cons_append,fI,fI,mQ r b,List.append_assoc]
mutual
theorem Sm.pre_len:∀(s:Sm) (d:Nat),(s.pre d).length=s.cnt
 | .mk o s a bd el,d=>by simp only[Sm.pre,Sm.cnt,List.length_cons,List.length_append,ik bd,ik el];omega
theorem ik:∀(l:List Sm) (d:Nat),(bv d l).length=dh l
 |[],d=>rfl
 |s::r,d=>by simp only[bv,dh,List.length_append,Sm.pre_len s,ik r]
end
end Go.Proofs.YtiojgfhdcpppcaaDoor
namespace Go.Proofs.YtiojgfhdcpppcaaDoor
open Go Go.Aw
set_option maxRecDepth 100000
set_option maxHeartbeats 4000000
theorem di{α:Type}{p:α→Bool}{xs:List α}{i:Nat}(h:i<xs.length):(xs.take (i+1)).all p=((xs.take i).all p&&p xs[i]):=by
 rw[au h,List.all_append];simp
theorem jy{α:Type}{p:α→Bool}{xs:List α}{i:Nat}(h:i<xs.length)(hp:p xs[i]=false):xs.all p=false:=
 List.all_eq_false.2 ⟨_,List.getElem_mem h,by simp[hp]⟩
theorem eK{α:Type}{p:α→Bool}{xs:List α}{i:Nat}(h:xs.length≤i)(ht:(xs.take i).all p=true):xs.all p=true:=by
 rwa[List.take_of_length_le h] at ht
def K_spec_l2Form:AK:= .seq (.reg [oJ 2 (.box 4 (.t 0)),oJ 4 (.mov (.c (.p (.bool false))))]) (.seq (.reg [oF 10 0 2,oL 11 10,oJ 12 (.call fV [(.t 11)]),oM 9 12,oJ 13 (.ext 0 (.t 9)),oJ 14 (.ext 1 (.t 9)),oM 5 13,oM 6 14]) (.seq (.seq (.reg [oM 15 1,oJ 16 (.bin .lss (.t 15) (.c (.p (.int .i64 1)))),oM 17 16,⟨(some 18),some (17,false),.fldA 0 (.t 2)⟩,⟨(some 19),some (17,false),.ld none (.t 18)⟩,⟨(some 20),some (17,false),.call bp [(.t 19),(.c (.p (.int .i64 1))),(.c (.p (.int .i64 13)))]⟩,⟨(some 21),some (17,false),.not (.t 20)⟩,oJ 22 (.pick (.t 17) (.c (.p (.bool true))) (.t 21)),oM 23 22,⟨(some 24),some (23,false),.fldA 3 (.t 2)⟩,⟨(some 25),some (23,false),.ld none (.t 24)⟩,⟨(some 26),some (23,false),.len false (.t 25)⟩,⟨(some 27),some (23,false),.mov (.t 5)⟩,⟨(some 28),some (23,false),.mov (.t 6)⟩,⟨(some 29),some (23,false),.call bp [(.t 26),(.t 27),(.t 28)]⟩,⟨(some 30),some (23,false),.not (.t 29)⟩,oJ 31 (.pick (.t 23) (.c (.p (.bool true))) (.t 30))]) (.cond (.t 31) (.seq (.reg [oJ 4 (.mov (.c (.p (.bool false))))]) (.ret)) (.skip))) (.cut (.reg [oF 32 0 2,oL 33 32,oJ 34 (.bin .eql (.t 33) (.c (.p (.int .i64 2)))),oM 35 34,⟨(some 36),some (35,false),.fldA 0 (.t 2)⟩,⟨(some 37),some (35,false),.ld none (.t 36)⟩,⟨(some 38),some (35,false),.bin .eql (.t 37) (.c (.p (.int .i64 13)))⟩,oJ 39 (.pick (.t 35) (.c (.p (.bool true))) (.t 38)),oM 7 39]) (.cut (.seq (.reg [oM 40 7,oF 41 2 2,oL 42 41,oJ 43 (.call bW [(.t 42)]),oJ 44 (.beq true (.t 40) (.t 43)),oM 45 44,⟨(some 46),some (45,false),.mov (.t 7)⟩,⟨(some 47),some (45,false),.not (.t 46)⟩,⟨(some 48),some (45,false),.mov (.t 47)⟩,⟨(some 49),some (48,true),.fldA 2 (.t 2)⟩,⟨(some 50),some (48,true),.ld none (.t 49)⟩,⟨(some 51),some (48,true),.bins .neq (.t 50) (.c (.p (.str [])))⟩,⟨(some 52),some (45,false),.pick (.t 48) (.t 51) (.c (.p (.bool false)))⟩,oJ 53 (.pick (.t 45) (.c (.p (.bool true))) (.t 52)),oM 54 53,⟨(some 55),some (54,false),.fldA 1 (.t 2)⟩,⟨(some 56),some (54,false),.ld none (.t 55)⟩,⟨(some 57),some (54,false),.call bp [(.t 56),(.c (.p (.int .i64 0))),(.c (.p (.int .i64 255)))]⟩,⟨(some 58),some (54,false),.not (.t 57)⟩,oJ 59 (.pick (.t 54) (.c (.p (.bool true))) (.t 58)),oM 60 59,⟨(some 61),some (60,false),.fldA 0 (.t 2)⟩,⟨(some 62),some (60,false),.ld none (.t 61)⟩,⟨(some 63),some (60,false),.bin .neq (.t 62) (.c (.p (.int .i64 1)))⟩,⟨(some 64),some (60,false),.mov (.t 63)⟩,⟨(some 65),some (64,true),.fldA 1 (.t 2)⟩,⟨(some 66),some (64,true),.ld none (.t 65)⟩,⟨(some 67),some (64,true),.bin .neq (.t 66) (.c (.p (.int .i64 0)))⟩,⟨(some 68),some (60,false),.pick (.t 64) (.t 67) (.c (.p (.bool false)))⟩,oJ 69 (.pick (.t 60) (.c (.p (.bool true))) (.t 68))]) (.cond (.t 69) (.seq (.reg [oJ 4 (.mov (.c (.p (.bool false))))]) (.ret)) (.skip))) (.seq (.seq (.reg [oK 8 0]) (.blk 0 (.loop (.seq (.seq (.reg [oM 70 8,oF 71 3 2,oL 72 71,oJ 73 (.len false (.t 72)),oJ 74 (.bin .lss (.t 70) (.t 73))]) (.cond (.t 74) (.skip) (.exit 0))) (.seq (.blk 1 (.seq (.reg [oF 77 3 2,oL 78 77,oM 79 8,oJ 80 (.idxS 4 (.t 78) (.t 79)),oJ 81 (.ld (some 4) (.t 80)),oM 82 1,oJ 83 (.bin .sub (.t 82) (.c (.p (.int .i64 1)))),oJ 84 (.call dY [(.t 81),(.t 83)]),oJ 85 (.not (.t 84))]) (.cond (.t 85) (.seq (.reg [oJ 4 (.mov (.c (.p (.bool false))))]) (.ret)) (.skip)))) (.reg [oM 75 8,oJ 76 (.bin .add (.t 75) (.c (.p (.int .i64 1)))),oM 8 76])))))) (.seq (.reg [oJ 4 (.mov (.c (.p (.bool true))))]) (.ret)))))))
theorem rE:K_spec_l2Form.whole=F_spec_l2Form.ak:=rfl
def K_spec_l3Stmt:AK:= .seq (.reg [oJ 2 (.box 5 (.t 0)),oJ 4 (.mov (.c (.p (.bool false))))]) (.cut (.seq (.reg [oM 7 1,oJ 8 (.bin .lss (.t 7) (.c (.p (.int .i64 1)))),oM 9 8,⟨(some 10),some (9,false),.fldA 0 (.t 2)⟩,⟨(some 11),some (9,false),.ld none (.t 10)⟩,⟨(some 12),some (9,false),.call bp [(.t 11),(.c (.p (.int .i64 1))),(.c (.p (.int .i64 8)))]⟩,⟨(some 13),some (9,false),.not (.t 12)⟩,oJ 14 (.pick (.t 9) (.c (.p (.bool true))) (.t 13)),oM 15 14,⟨(some 16),some (15,false),.fldA 2 (.t 2)⟩,⟨(some 19),some (15,false),.fldA 0 (.t 2)⟩,⟨(some 17),some (15,false),.ld none (.t 16)⟩,⟨(some 18),some (15,false),.len false (.t 17)⟩,⟨(some 20),some (15,false),.ld none (.t 19)⟩,⟨(some 21),some (15,false),.qcall fS [(.t 20)]⟩,⟨(some 22),some (15,false),.bin .neq (.t 18) (.t 21)⟩,oJ 23 (.pick (.t 15) (.c (.p (.bool true))) (.t 22))]) (.cond (.t 23) (.seq (.reg [oJ 4 (.mov (.c (.p (.bool false))))]) (.ret)) (.skip))) (.cut (.reg [oF 24 0 2,oL 25 24,oJ 26 (.bin .eql (.t 25) (.c (.p (.int .i64 1)))),oM 27 26,⟨(some 28),some (27,false),.fldA 0 (.t 2)⟩,⟨(some 29),some (27,false),.ld none (.t 28)⟩,⟨(some 30),some (27,false),.bin .eql (.t 29) (.c (.p (.int .i64 2)))⟩,oJ 31 (.pick (.t 27) (.c (.p (.bool true))) (.t 30)),oM 5 31]) (.cut (.seq (.reg [oM 32 5,oF 33 1 2,oL 34 33,oJ 35 (.call bW [(.t 34)]),oJ 36 (.beq true (.t 32) (.t 35)),oM 37 36,⟨(some 38),some (37,false),.mov (.t 5)⟩,⟨(some 39),some (37,false),.not (.t 38)⟩,⟨(some 40),some (37,false),.mov (.t 39)⟩,⟨(some 41),some (40,true),.fldA 1 (.t 2)⟩,⟨(some 42),some (40,true),.ld none (.t 41)⟩,⟨(some 43),some (40,true),.bins .neq (.t 42) (.c (.p (.str [])))⟩,⟨(some 44),some (37,false),.pick (.t 40) (.t 43) (.c (.p (.bool false)))⟩,oJ 45 (.pick (.t 37) (.c (.p (.bool true))) (.t 44))]) (.cond (.t 45) (.seq (.reg [oJ 4 (.mov (.c (.p (.bool false))))]) (.ret)) (.skip))) (.seq (.seq (.reg [oK 6 0]) (.blk 0 (.loop (.seq (.seq (.reg [oM 46 6,oF 47 2 2,oL 48 47,oJ 49 (.len false (.t 48)),oJ 50 (.bin .lss (.t 46) (.t 49))]) (.cond (.t 50) (.skip) (.exit 0))) (.seq (.blk 1 (.seq (.reg [oF 53 2 2,oL 54 53,oM 55 6,oJ 56 (.idxS 4 (.t 54) (.t 55)),oJ 57 (.ld (some 4) (.t 56)),oJ 58 (.call dH [(.t 57)]),oJ 59 (.not (.t 58))]) (.cond (.t 59) (.seq (.reg [oJ 4 (.mov (.c (.p (.bool false))))]) (.ret)) (.skip)))) (.reg [oM 51 6,oJ 52 (.bin .add (.t 51) (.c (.p (.int .i64 1)))),oM 6 52])))))) (.cut (.seq (.reg [oF 60 0 2,oL 61 60,oJ 62 (.bin .eql (.t 61) (.c (.p (.int .i64 8)))),oM 63 62,⟨(some 64),some (63,true),.fldA 2 (.t 2)⟩,⟨(some 65),some (63,true),.ld none (.t 64)⟩,⟨(some 66),some (63,true),.idxS 4 (.t 65) (.c (.p (.int .i64 0)))⟩,⟨(some 67),some (63,true),.fldA 0 (.t 66)⟩,⟨(some 68),some (63,true),.ld none (.t 67)⟩,⟨(some 69),some (63,true),.bin .neq (.t 68) (.c (.p (.int .i64 13)))⟩,oJ 70 (.pick (.t 63) (.t 69) (.c (.p (.bool false))))]) (.cond (.t 70) (.seq (.reg [oJ 4 (.mov (.c (.p (.bool false))))]) (.ret)) (.skip))) (.cut (.seq (.reg [oF 71 4 2,oL 72 71,oJ 73 (.len false (.t 72)),oJ 74 (.bin .gtr (.t 73) (.c (.p (.int .i64 0)))),oM 75 74,⟨(some 76),some (75,true),.fldA 0 (.t 2)⟩,⟨(some 77),some (75,true),.ld none (.t 76)⟩,⟨(some 78),some (75,true),.bin .neq (.t 77) (.c (.p (.int .i64 5)))⟩,oJ 79 (.pick (.t 75) (.t 78) (.c (.p (.bool false)))),oM 80 79,⟨(some 81),some (80,false),.fldA 3 (.t 2)⟩,⟨(some 82),some (80,false),.ld none (.t 81)⟩,⟨(some 83),some (80,false),.len false (.t 82)⟩,⟨(some 84),some (80,false),.bin .gtr (.t 83) (.c (.p (.int .i64 0)))⟩,⟨(some 85),some (80,false),.mov (.t 84)⟩,⟨(some 86),some (85,true),.fldA 0 (.t 2)⟩,⟨(some 87),some (85,true),.ld none (.t 86)⟩,⟨(some 88),some (85,true),.bin .neq (.t 87) (.c (.p (.int .i64 5)))⟩,⟨(some 89),some (80,false),.pick (.t 85) (.t 88) (.c (.p (.bool false)))⟩,⟨(some 90),some (80,false),.mov (.t 89)⟩,⟨(some 91),some (90,true),.fldA 0 (.t 2)⟩,⟨(some 92),some (90,true),.ld none (.t 91)⟩,⟨(some 93),some (90,true),.bin .neq (.t 92) (.c (.p (.int .i64 6)))⟩,⟨(some 94),some (80,false),.pick (.t 90) (.t 93) (.c (.p (.bool false)))⟩,oJ 95 (.pick (.t 80) (.c (.p (.bool true))) (.t 94))]) (.cond (.t 95) (.seq (.reg [oJ 4 (.mov (.c (.p (.bool false))))]) (.ret)) (.skip))) (.seq (.reg [oF 96 3 2,oL 97 96,oM 98 1,oJ 99 (.bin .sub (.t 98) (.c (.p (.int .i64 1)))),oJ 100 (.call bG [(.t 97),(.t 99)]),oM 101 100,⟨(some 102),some (101,true),.fldA 4 (.t 2)⟩,⟨(some 103),some (101,true),.ld none (.t 102)⟩,⟨(some 104),some (101,true),.mov (.t 1)⟩,⟨(some 105),some (101,true),.bin .sub (.t 104) (.c (.p (.int .i64 1)))⟩,⟨(some 106),some (101,true),.call bG [(.t 103),(.t 105)]⟩,oJ 107 (.pick (.t 101) (.t 106) (.c (.p (.bool false)))),oM 4 107]) (.ret))))))))
theorem rR:K_spec_l3Stmt.whole=F_spec_l3Stmt.ak:=rfl
variable (G:aG)
theorem ke(n lo hi:Int):VF Tryd.prog G bp [.p (.int .i64 n),.p (.int .i64 lo),.p (.int .i64 hi)] (.p (.bool (inR n lo hi))):=by
 refine AC.go uF ?_
 by_cases h:lo≤n
 ·simp-implicitDefEqProofs[kg,h,inR]
 ·simp-implicitDefEqProofs[kg,h,inR]
theorem tQ(op:Int):VF Tryd.prog G fV [.p (.int .i64 op)] (.tup [.p (.int .i64 (loK op)),.p (.int .i64 (hiK op))]):=by
 refine AC.go rG ?_
 by_cases h1:op=1
 ·subst h1;simp-implicitDefEqProofs[cF,loK,hiK]
 by_cases h2:op=2
 ·subst h2;simp-implicitDefEqProofs[cF,loK,hiK]
 by_cases h3:op=11
 ·subst h3;simp-implicitDefEqProofs[cF,loK,hiK]
 by_cases h4:op=12
 ·subst h4;simp-implicitDefEqProofs[cF,loK,hiK]
 by_cases h5:op=13
 ·subst h5;simp-implicitDefEqProofs[cF,loK,hiK]
 simp-implicitDefEqProofs[cF,loK,hiK,h1,h2,h3,h4,h5]
theorem AE:∀(d:Nat) (e:Ex),e.sz≤1099511627776→d≤1000→VF Tryd.prog G dY [.agg (e.cs.map .p),.p (.int .i64 d)] (.p (.bool (eV d e))):=by
 intro d
 induction d with
 |zero=>
  intro e he _
  refine AC.go lY ?_
  simp-implicitDefEqProofs[F_spec_l2Form,Ex.cs_eq]
  refine(tQ G _).use ?_
  simp-implicitDefEqProofs[eV]
 |succ d ih=>
  intro e he hd
  have hsz:=e.sz_eq
  have hkl:=bQ e.kids
  refine AC.goK lY rE ?_
  have hd1:¬(d:Int)+1<1:=by omega
  have hw:IntKind.i64.wrap ((d:Int)+1-1)=(d:Int):=by rw[show(d:Int)+1-1=d by omega];exact ag (by omega) (by omega)
  have hw':IntKind.i64.wrap (d:Int)=(d:Int):=ag (by omega) (by omega)
  have hxl:∀l,exL l= .lst 4 (l.map Ex.cs):=fun _=>rfl
  simp-implicitDefEqProofs[K_spec_l2Form,F_spec_l2Form,Ex.cs_eq]
  refine(tQ G _).use ?_
  simp-implicitDefEqProofs[hd1]
  refine(ke G _ _ _).use ?_
  by_cases h1:inR e.op 1 13=true
  case neg=>simp-implicitDefEqProofs[h1,eV,lQ]
  simp-implicitDefEqProofs[h1,hxl]
  refine(ke G _ _ _).use ?_
  by_cases h2:inR e.kids.length (loK e.op) (hiK e.op)=true
  case neg=>simp-implicitDefEqProofs[h2,eV,lQ]
  simp-implicitDefEqProofs[h2]
  refine iu (am 86 [(1,.p (.int .i64 (d+1))),(2,.ptr 0 4 0 0),(7,.p (.bool (wD e.op)))]) [.row 4 [[.p (.int .i64 e.op),.p (.int .i64 e.n),.p (.str e.name),.p (.lst 4 (e.kids.map Ex.cs))]]] ?_ ?_
  ·by_cases o2:e.op=2
   ·simp-implicitDefEqProofs[o2]
    exact ab (by simp) (by simp[okO]) (by simp[below,wD])
   ·by_cases o13:e.op=13
    ·simp-implicitDefEqProofs[o13]
     exact ab (by simp) (by simp[okO]) (by simp[below,wD])
    ·simp-implicitDefEqProofs[o2,o13]
     exact ab (by simp) (by simp[okO]) (by simp[below,wD,o2,o13])
  have hn:e.name.length≤140737488355328:=by omega
  refine pI (fun _:Unit=>am 86 [(1,.p (.int .i64 ((d:Int)+1))),(2,.ptr 0 4 0 0)]) (fun _=>[.row 4 [[.p (.int .i64 e.op),.p (.int .i64 e.n),.p (.str e.name),.p (.lst 4 (e.kids.map Ex.cs))]]]) (fun _=>lQ e=true) ?_ ?_
  ·simp-implicitDefEqProofs[]
   refine(nz G _ hn).use ?_
   simp-implicitDefEqProofs[]
   repeat' first
    |(refine(ke G _ _ _).use ?_;simp-implicitDefEqProofs[])
    |(refine bc (fun hc=>?_) (fun hc=>?_)<;>simp-implicitDefEqProofs[hc])
   all_goals first
    |exact⟨by simp_all [lQ],ab (by simp) (by simp[okO]) (by simp[below])⟩
    |simp_all [eV,lQ]
  intro _ hh
  simp-implicitDefEqProofs[]
  refine aR (fun i:Nat=>am 86 [(1,.p (.int .i64 ((d:Int)+1))),(2,.ptr 0 4 0 0),(8,.p (.int .i64 i))]) (fun _=>[.row 4 [[.p (.int .i64 e.op),.p (.int .i64 e.n),.p (.str e.name),.p (.lst 4 (e.kids.map Ex.cs))]]])
   (fun i=>i≤e.kids.length∧(e.kids.take i).all (eV d)=true) (fun i=>e.kids.length-i) 0 (by simp) (ab (by simp) (by simp[okO]) (by simp[below])) ?_
  intro i ⟨hi,hall⟩
  simp-implicitDefEqProofs[]
  refine bc (fun h=>?_) (fun h=>?_)
  ·simp at h
   have hg:=List.getElem?_eq_getElem h
   have hks:=cf (List.getElem_mem h)
   simp-implicitDefEqProofs[hg,hw']
   refine(ih e.kids[i] (by omega) (by omega)).use ?_
   by_cases hk:eV d e.kids[i]=true
   ·simp-implicitDefEqProofs[hk]
    refine⟨i+1,⟨h,by rw[←List.all_eq_true,di h,hall,hk];rfl⟩,by omega,ab (by simp) (by simp[okO]) ?_⟩
    simp[below,w1 (i:=i) (by omega)]
   ·have hk':eV d e.kids[i]=false:=by simpa using hk
    have hf:eV (d+1) e=false:=by simp only[eV,jy h hk',Bool.and_false]
    simp-implicitDefEqProofs[hk',hf]
  ·simp at h
   have hf:eV (d+1) e=true:=by simp only[eV,eK h hall,hh,Bool.and_self]
   simp-implicitDefEqProofs[hf]
theorem yN{l:List Ex}{i:Nat}(h:i<l.length):fh (l.take (i+1))=fh (l.take i)+l[i].parts:=by
 rw[au h,gi];simp[fh]
theorem ty(l:List Ex)(i:Nat):fh (l.take i)≤fh l:=by
 have:=gi (l.take i) (l.drop i)
 rw[List.take_append_drop] at this
 omega
theorem yt:∀(k:Nat) (e:Ex),e.sz≤k→k≤1099511627776→VF Tryd.prog G eS [.agg (e.cs.map .p)] (.p (.int .i64 e.parts)):=by
 intro k
 induction k with
 |zero=>intro e he;have:=e.sz_eq;omega
 |succ k ih=>
  intro e he hk
  have hsz:=e.sz_eq
  have hkl:=bQ e.kids
  have hpe:=e.parts_eq
  have hpz:=sU e.kids
  refine AC.go qv ?_
  have hxl:∀l,exL l= .lst 4 (l.map Ex.cs):=fun _=>rfl
  simp-implicitDefEqProofs[kA,Ex.cs_eq,hxl]
  refine aR (fun i:Nat=>am 21 [(1,.ptr 0 4 0 0),(3,.p (.int .i64 ((1+fh (e.kids.take i):Nat):Int))),(4,.p (.int .i64 i))]) (fun _=>[.row 4 [[.p (.int .i64 e.op),.p (.int .i64 e.n),.p (.str e.name),.p (.lst 4 (e.kids.map Ex.cs))]]])
   (fun i=>i≤e.kids.length) (fun i=>e.kids.length-i) 0 (by simp) (ab (by simp) (by simp[okO]) (by simp[below,fh])) ?_
  intro i hi
  simp-implicitDefEqProofs[]
  refine bc (fun h=>?_) (fun h=>?_)
  ·simp at h
   have hg:=List.getElem?_eq_getElem h
   have hks:=cf (List.getElem_mem h)
   have hps:=yN h
   have hple:=ty e.kids (i+1)
   simp-implicitDefEqProofs[hg]
   refine(ih e.kids[i] (by omega) (by omega)).use ?_
   have hw:IntKind.i64.wrap (1+(fh (e.kids.take i):Int)+(e.kids[i].parts:Int))=((1+fh (e.kids.take (i+1)):Nat):Int):=by rw[ag (by omega) (by omega)];omega
   simp-implicitDefEqProofs[hw]
   exact⟨i+1,h,by omega,ab (by simp) (by simp[okO]) (by simp[below,w1 (i:=i) (by omega)])⟩
  ·simp at h
   rw[List.take_of_length_le h]
   simp-implicitDefEqProofs[]
   omega
theorem tZ(e:Ex)(he:e.sz≤1099511627776):VF Tryd.prog G dH [.agg (e.cs.map .p)] (.p (.bool (jP e))):=by
 refine AC.go nX ?_
 simp-implicitDefEqProofs[jv]
 have h6:=AE G 6 e he (by omega)
 refine h6.use ?_
 by_cases h:eV 6 e=true
 ·simp-implicitDefEqProofs[h]
  refine(yt G _ e (Nat.le_refl _) he).use ?_
  simp-implicitDefEqProofs[jP,h]
  omega
 ·simp-implicitDefEqProofs[h,jP]
theorem ze(op:Int):VF Tryd.prog G fS [.p (.int .i64 op)] (.p (.int .i64 (iG op))):=by
 refine AC.go rH ?_
 by_cases h:op=4
 ·simp-implicitDefEqProofs[iU,h,iG]
 ·simp-implicitDefEqProofs[iU,h,iG]
theorem pc(d:Nat)(hd:d≤1000)(hs:∀s:Sm,s.sz≤1099511627776→VF Tryd.prog G fM [.agg (s.cs.map .p),.p (.int .i64 d)] (.p (.bool (aI d s))))(l:List Sm)(hl:aC l≤1099511627776):
 VF Tryd.prog G bG [.p (smL l),.p (.int .i64 d)] (.p (.bool (l.all (aI d)))):=by
 refine AC.go pT ?_
 have hll:=bO l
 have hsl:∀l,smL l= .lst 5 (l.map Sm.cs):=fun _=>rfl
 simp-implicitDefEqProofs[jU]
 refine aR (fun i:Nat=>am 19 [(0,.p (smL l)),(1,.p (.int .i64 d)),(5,.p (.int .i64 i))]) (fun _=>[]) (fun i=>i≤l.length∧(l.take i).all (aI d)=true) (fun i=>l.length-i) 0 (by simp) (cW rfl (by simp[below,hsl])) ?_
 intro i ⟨hi,hall⟩
 simp-implicitDefEqProofs[hsl]
 refine bc (fun h=>?_) (fun h=>?_)
 ·simp at h
  have hg:=List.getElem?_eq_getElem h
  have hks:=eZ (List.getElem_mem h)
  simp-implicitDefEqProofs[hg]
  refine(hs l[i] (by omega)).use ?_
  by_cases hk:aI d l[i]=true
  ·simp-implicitDefEqProofs[hk]
   exact⟨i+1,⟨h,by rw[←List.all_eq_true,di h,hall,hk];rfl⟩,by omega,cW rfl (by simp[below,hsl,w1 (i:=i) (by omega)])⟩
  ·have hk':aI d l[i]=false:=by simpa using hk
   have hf:=jy h hk'
   simp-implicitDefEqProofs[hk',hf]
 ·simp at h
  have hf:=eK h hall
  simp-implicitDefEqProofs[hf]
theorem BC:∀(d:Nat),d≤1000→∀s:Sm,s.sz≤1099511627776→VF Tryd.prog G fM [.agg (s.cs.map .p),.p (.int .i64 d)] (.p (.bool (aI d s))):=by
 intro d
 induction d with
 |zero=>
  intro _ s _
  refine AC.go lT ?_
  simp-implicitDefEqProofs[F_spec_l3Stmt,Sm.cs_eq,aI]
 |succ d ih=>
  intro hd s he
  have hsz:=s.sz_eq
  have hal:=bQ s.args
  have hbl:=bO s.body
  have hel:=bO s.els
  have ihs:=pc G d (by omega) (ih (by omega))
  refine AC.goK lT rR ?_
  have hd1:¬(d:Int)+1<1:=by omega
  have hw':IntKind.i64.wrap (d:Int)=(d:Int):=ag (by omega) (by omega)
  have hxl:∀l,exL l= .lst 4 (l.map Ex.cs):=fun _=>rfl
  have hsl:∀l,smL l= .lst 5 (l.map Sm.cs):=fun _=>rfl
  have hn:s.name.length≤140737488355328:=by omega
  simp-implicitDefEqProofs[K_spec_l3Stmt,F_spec_l3Stmt,Sm.cs_eq]
  generalize hH:[AO.row 5 [[AV.p (.int .i64 s.op),.p (.str s.name),.p (exL s.args),.p (smL s.body),.p (smL s.els)]]]=H
  have hho:∀o∈H,okO H.length o:=by rw[←hH];simp[okO]
  have hhl:0<H.length:=by rw[←hH];simp
  have hh0:H[0]?=some (AO.row 5 [[AV.p (.int .i64 s.op),.p (.str s.name),.p (exL s.args),.p (smL s.body),.p (smL s.els)]]):=by rw[←hH];rfl
  have hhL:H.length=1:=by rw[←hH];rfl
  refine pI (fun _:Unit=>am 108 [(1,.p (.int .i64 ((d:Int)+1))),(2,.ptr 0 5 0 0)]) (fun _=>H) (fun _=>inR s.op 1 8=true∧s.args.length=iG s.op) ?_ ?_
  ·simp-implicitDefEqProofs[hd1,hh0]
   refine(ke G _ _ _).use ?_
   by_cases h1:inR s.op 1 8=true
   case neg=>simp-implicitDefEqProofs[h1,aI,gB]
   simp-implicitDefEqProofs[h1,hh0,hxl]
   refine(ze G _).useQ ?_
   by_cases h2:s.args.length=iG s.op
   ·simp-implicitDefEqProofs[h2]
    exact ab (by omega) hho (by simp[below,hhl])
   ·have h2':¬(s.args.length:Int)=(iG s.op:Int):=by omega
    simp-implicitDefEqProofs[h2,h2',aI,gB]
  intro _ ⟨h1,h2⟩
  refine pI (fun _:Unit=>am 108 [(1,.p (.int .i64 ((d:Int)+1))),(2,.ptr 0 5 0 0),(5,.p (.bool (cn s.op)))]) (fun _=>H) (fun _=>True) ?_ ?_
  ·simp-implicitDefEqProofs[hh0]
   by_cases o1:s.op=1
   ·simp-implicitDefEqProofs[o1,hh0,cn]
    exact ab (by omega) hho (by simp[below,hhl])
   ·by_cases o2:s.op=2
    ·simp-implicitDefEqProofs[o2,hh0,cn]
     exact ab (by omega) hho (by simp[below,hhl])
    ·simp-implicitDefEqProofs[o1,o2,hh0,cn]
     exact ab (by omega) hho (by simp[below,hhl])
  intro _ _
  refine pI (fun _:Unit=>am 108 [(1,.p (.int .i64 ((d:Int)+1))),(2,.ptr 0 5 0 0)]) (fun _=>H) (fun _=>(cn s.op==aD s.name)=true∧(cn s.op||decide (s.name=[]))=true) ?_ ?_
  ·simp-implicitDefEqProofs[hh0]
   refine(nz G _ hn).use ?_
   simp-implicitDefEqProofs[hh0]
   repeat' first
    |(refine bc (fun hc=>?_) (fun hc=>?_)<;>simp-implicitDefEqProofs[hc,hh0])
   all_goals first
    |exact ab (by omega) hho (by simp[below,hhl])
    |exact⟨by simp_all,by simp_all,ab (by omega) hho (by simp[below,hhl])⟩
    |exact⟨by simp_all,ab (by omega) hho (by simp[below,hhl])⟩
    |(simp_all [aI,gB];done)
  intro _ ⟨h3,h4⟩
  simp-implicitDefEqProofs[]
  refine aR (fun i:Nat=>am 108 [(1,.p (.int .i64 ((d:Int)+1))),(2,.ptr 0 5 0 0),(6,.p (.int .i64 i))]) (fun _=>H) (fun i=>i≤s.args.length∧(s.args.take i).all jP=true) (fun i=>s.args.length-i) 0 (by simp) (ab (by omega) hho (by simp[below,hhl])) ?_
  intro i ⟨hi,hall⟩
  simp-implicitDefEqProofs[hh0,hxl]
  refine bc (fun h=>?_) (fun h=>?_)
  ·simp at h
   have hg:=List.getElem?_eq_getElem h
   have hks:=cf (List.getElem_mem h)
   simp-implicitDefEqProofs[hg,hh0,hxl]
   refine(tZ G s.args[i] (by omega)).use ?_
   by_cases hk:jP s.args[i]=true
   ·simp-implicitDefEqProofs[hk]
    exact⟨i+1,⟨h,by rw[←List.all_eq_true,di h,hall,hk];rfl⟩,by omega,ab (by omega) hho (by simp[below,hhl,w1 (i:=i) (by omega)])⟩
   ·have hk':jP s.args[i]=false:=by simpa using hk
    have hf:aI (d+1) s=false:=by simp only[aI,gB,jy h hk',Bool.and_false,Bool.false_and]
    simp-implicitDefEqProofs[hk',hf]
  simp at h
  have h5:s.args.all jP=true:=eK h hall
  have hlen1:1≤s.args.length:=by rw[h2];unfold iG;split<;>omega
  obtain⟨a0,ar,ha⟩:∃a r,s.args=a::r:=by
   cases hh:s.args with
   |nil=>rw[hh] at hlen1;simp at hlen1
   |cons a r=>exact⟨a,r,rfl⟩
  have ha0:s.args[0]?=some a0:=by rw[ha];rfl
  refine pI (fun _:Unit=>am 108 [(1,.p (.int .i64 ((d:Int)+1))),(2,.ptr 0 5 0 0)]) (fun _=>H) (fun _=>(!decide (s.op=8)||decide (a0.op=13))=true) ?_ ?_
  ·simp-implicitDefEqProofs[hh0]
   by_cases o8:s.op=8
   ·have hae:=a0.cs_eq
    simp-implicitDefEqProofs[o8,hh0,hxl,ha0,hae]
    refine bc (fun hc=>?_) (fun hc=>?_)
    ·simp at hc
     have hf:aI (d+1) s=false:=by simp[aI,gB,o8,ha,hc]
     simp-implicitDefEqProofs[hf]
    ·simp at hc
     simp-implicitDefEqProofs[hc]
     exact ab (by omega) hho (by simp[below,hhl])
   ·simp-implicitDefEqProofs[o8,hh0]
    exact ab (by omega) hho (by simp[below,hhl])
  intro _ h6
  refine pI (fun _:Unit=>am 108 [(1,.p (.int .i64 ((d:Int)+1))),(2,.ptr 0 5 0 0)]) (fun _=>H) (fun _=>(s.els.isEmpty||decide (s.op=5))=true∧(s.body.isEmpty||decide (s.op=5)||decide (s.op=6))=true) ?_ ?_
  ·have hf:¬((s.els.isEmpty||decide (s.op=5))=true∧(s.body.isEmpty||decide (s.op=5)||decide (s.op=6))=true)→aI (d+1) s=false:=fun h=>by
    have:gB s=false:=by
     cases hx:gB s with
     |false=>rfl
     |true=>refine absurd ?_ h;simp only[gB,Bool.and_eq_true] at hx;exact⟨hx.1.2,hx.2⟩
    simp[aI,this]
   have pe:¬s.els=[]→0<s.els.length:=List.length_pos_iff.2
   have pb:¬s.body=[]→0<s.body.length:=List.length_pos_iff.2
   by_cases o5:s.op=5
   ·simp-implicitDefEqProofs[hh0,hsl,o5]
    repeat' first
     |(refine bc (fun hc=>?_) (fun hc=>?_)<;>simp-implicitDefEqProofs[hc,hh0,hsl,o5])
    all_goals exact ab (by omega) hho (by simp[below,hhl])
   by_cases e1:s.els=[]
   case neg=>
    have hf:=hf (by simp[e1,o5])
    have:=pe e1
    simp-implicitDefEqProofs[hh0,hsl,o5,e1,this,hf]
   by_cases e2:s.body=[]
   ·simp-implicitDefEqProofs[hh0,hsl,o5,e1,e2]
    exact ab (by omega) hho (by simp[below,hhl])
   have:=pb e2
   by_cases o6:s.op=6
   ·simp-implicitDefEqProofs[hh0,hsl,o6,e1,e2,this]
    exact ab (by omega) hho (by simp[below,hhl])
   ·have hf:=hf (by simp[e2,o5,o6])
    simp-implicitDefEqProofs[hh0,hsl,o5,o6,e1,e2,this,hf]
  intro _ ⟨h7,h8⟩
  have hm:(match s.args with|a::_=>decide (a.op=13)|[]=>false)=decide (a0.op=13):=by rw[ha]
  have hhd:gB s=true:=by
   have h6':(!decide (s.op=8)||(match s.args with|a::_=>decide (a.op=13)|[]=>false))=true:=by rw[hm];exact h6
   have h2':decide (s.args.length=iG s.op)=true:=by simp[h2]
   simp only[gB,h1,h2',h3,h4,h5,h7,h8,Bool.and_self,Bool.and_true,Bool.true_and]
   exact h6'
  simp-implicitDefEqProofs[hh0,hw']
  refine(ihs s.body (by omega)).use ?_
  by_cases hB:s.body.all (aI d)=true
  ·simp only[hB]
   simp-implicitDefEqProofs[hh0,hw']
   refine(ihs s.els (by omega)).use ?_
   have hf:aI (d+1) s=s.els.all (aI d):=by simp only[aI,hhd,hB,Bool.true_and]
   rw[hf]
   generalize s.els.all (aI d)=w
   simp-implicitDefEqProofs[]
  ·have hB':s.body.all (aI d)=false:=by simpa using hB
   have hf:aI (d+1) s=false:=by simp only[aI,hB',Bool.and_false,Bool.false_and]
   simp only[hB',hf]
   simp-implicitDefEqProofs[]
theorem yB(d:Nat)(hd:d≤1000)(l:List Sm)(hl:aC l≤1099511627776):VF Tryd.prog G bG [.p (smL l),.p (.int .i64 d)] (.p (.bool (l.all (aI d)))):=
 pc G d hd (BC G d hd) l hl
theorem Ef(f:Fd)(hf:f.sz≤1099511627776):VF Tryd.prog G kI [.agg (f.cs.map .p)] (.p (.bool (ir f))):=by
 refine AC.go uu ?_
 have hsz:f.sz=1+f.name.length+(f.params.length+(f.params.map List.length).sum)+aC f.body:=rfl
 have hps:∀x∈f.params,x.length≤(f.params.map List.length).sum:=fun x hx=>by
  have key:∀l:List (List UInt8),x∈l→x.length≤(l.map List.length).sum:=by
   intro l
   induction l with
   |nil=>intro h;cases h
   |cons y r ih=>
    intro h
    simp only[List.map_cons,List.sum_cons]
    rcases List.mem_cons.1 h with rfl|h
    ·omega
    ·have:=ih h;omega
  exact key _ hx
 have hst:ay f.params= .lst 1 (f.params.map fun w=>[.str w]):=rfl
 have h4:=yB G 4 (by omega) f.body (by omega)
 simp-implicitDefEqProofs[po,Fd.cs,hst]
 refine aR (fun i:Nat=>am 32 [(1,.ptr 0 3 0 0),(3,.p (.int .i64 i))]) (fun _=>[.row 3 [[.p (.str f.name),.p (ay f.params),.p (smL f.body)]]]) (fun i=>i≤f.params.length∧(f.params.take i).all aD=true) (fun i=>f.params.length-i) 0 (by simp) (ab (by simp) (by simp[okO]) (by simp[below])) ?_
 intro i ⟨hi,hall⟩
 simp-implicitDefEqProofs[hst]
 refine bc (fun h=>?_) (fun h=>?_)
 ·simp at h
  have hg:=List.getElem?_eq_getElem h
  have hl:=hps _ (List.getElem_mem h)
  simp-implicitDefEqProofs[hg]
  refine(nz G _ (by omega)).use ?_
  by_cases hk:aD f.params[i]=true
  ·simp-implicitDefEqProofs[hk]
   exact⟨i+1,⟨h,by rw[←List.all_eq_true,di h,hall,hk];rfl⟩,by omega,ab (by simp) (by simp[okO]) (by simp[below,w1 (i:=i) (by omega)])⟩
  ·have hk':aD f.params[i]=false:=by simpa using hk
   have hff:ir f=false:=by simp only[ir,jy h hk',Bool.false_and]
   simp-implicitDefEqProofs[hk',hff]
 ·simp at h
  have h1:f.params.all aD=true:=eK h hall
  simp-implicitDefEqProofs[]
  refine(nz G _ (by omega)).use ?_
  by_cases h2:aD f.name=true
  case neg=>
   have h2':aD f.name=false:=by simpa using h2
   simp-implicitDefEqProofs[h2',ir]
  simp-implicitDefEqProofs[h2]
  by_cases h3:f.params.length≤3
  case neg=>
   have h3':¬(f.params.length:Int)≤3:=by omega
   simp-implicitDefEqProofs[h3,h3',ir]
  have h3':(f.params.length:Int)≤3:=by omega
  simp-implicitDefEqProofs[h3']
  refine h4.use ?_
  have hff:ir f=f.body.all (aI 4):=by simp only[ir,h1,h2,h3,decide_true,Bool.true_and]
  rw[hff]
  generalize f.body.all (aI 4)=w
  simp-implicitDefEqProofs[]
theorem xQ{l:List Sm}{i:Nat}(h:i<l.length):dh (l.take (i+1))=dh (l.take i)+l[i].cnt:=by
 rw[au h,ko];simp[dh]
theorem nG(l:List Sm)(i:Nat):dh (l.take i)≤dh l:=by
 have:=ko (l.take i) (l.drop i)
 rw[List.take_append_drop] at this
 omega
def iy(l:List Sm)(i:Nat):Nat:=l.length+((l.take i).map fun s=>dh s.body+dh s.els).sum
theorem vP(l:List Sm):iy l 0=l.length:=by simp[iy]
theorem qc{l:List Sm}{i:Nat}(h:i<l.length):iy l (i+1)=iy l i+dh l[i].body+dh l[i].els:=by
 rw[iy,iy,au h,List.map_append,List.sum_append]
 simp only[List.map_cons,List.map_nil,List.sum_cons,List.sum_nil]
 omega
theorem nS(l:List Sm):∀i,i≤l.length→dh (l.take i)+l.length=i+iy l i
 |0,_=>by simp[dh,iy]
 |i+1,h=>by
  have:=nS l i (by omega)
  rw[xQ (by omega),qc (by omega),(l[i]'(by omega)).cnt_eq]
  omega
theorem xR:∀(k:Nat) (l:List Sm),aC l≤k→k≤1099511627776→VF Tryd.prog G dz [.p (smL l)] (.p (.int .i64 (dh l))):=by
 intro k
 induction k with
 |zero=>
  intro l hl _
  have:l=[]:=by
   cases l with
   |nil=>rfl
   |cons s r=>have:=s.sz_eq;simp only[aC] at hl;omega
  subst this
  refine AC.go kB ?_
  have hsl:smL []= .lst 5 []:=rfl
  simp-implicitDefEqProofs[il,hsl]
  refine aR (fun _:Unit=>am 29 [(0,.p (.lst 5 [])),(3,.p (.int .i64 0)),(4,.p (.int .i64 0))]) (fun _=>[]) (fun _=>True) (fun _=>0) () trivial (cW rfl (by simp[below])) ?_
  intro _ _
  simp-implicitDefEqProofs[dh]
 |succ k ih=>
  intro l hl hk
  have hll:=bO l
  have hnz:=jz l
  refine AC.go kB ?_
  have hsl:∀l,smL l= .lst 5 (l.map Sm.cs):=fun _=>rfl
  simp-implicitDefEqProofs[il,hsl]
  refine aR (fun i:Nat=>am 29 [(0,.p (smL l)),(3,.p (.int .i64 (iy l i))),(4,.p (.int .i64 i))]) (fun _=>[]) (fun i=>i≤l.length) (fun i=>l.length-i) 0 (by simp) (cW rfl (by simp[below,hsl,vP])) ?_
  intro i hi
  have k0:=nS l i hi
  have k2:=nG l i
  simp-implicitDefEqProofs[hsl]
  refine bc (fun h=>?_) (fun h=>?_)
  ·simp at h
   have hg:=List.getElem?_eq_getElem h
   have hks:=eZ (List.getElem_mem h)
   have hse:=l[i].sz_eq
   have hce:=l[i].cs_eq
   have k1:=qc h
   have k3:=nS l (i+1) h
   have k4:=nG l (i+1)
   simp-implicitDefEqProofs[hg,hce]
   refine(ih l[i].body (by omega) (by omega)).use ?_
   simp-implicitDefEqProofs[hg,hce]
   refine(ih l[i].els (by omega) (by omega)).use ?_
   have w1':IntKind.i64.wrap ((iy l i:Int)+(dh l[i].body:Int))=(iy l i:Int)+(dh l[i].body:Int):=ag (by omega) (by omega)
   have w2':IntKind.i64.wrap ((iy l i:Int)+(dh l[i].body:Int)+(dh l[i].els:Int))=(iy l (i+1):Int):=by rw[ag (by omega) (by omega)];omega
   simp-implicitDefEqProofs[w1',w2']
   exact⟨i+1,h,by omega,cW rfl (by simp[below,hsl,w1 (i:=i) (by omega)])⟩
  ·simp at h
   rw[List.take_of_length_le h] at k0
   have:iy l i=dh l:=by omega
   simp-implicitDefEqProofs[this]
theorem dg:∀{l:List Fd} {f:Fd},f∈l→f.sz≤aN l
 |x::r,e,h=>by
  simp only[aN,List.map_cons,List.sum_cons]
  rcases List.mem_cons.1 h with rfl|h
  ·omega
  ·have:=dg h;simp only[aN] at this;omega
theorem ck:∀l:List Fd,l.length≤aN l
 |[]=>Nat.le_refl _
 |e::r=>by have:=ck r;simp only[aN,List.map_cons,List.sum_cons,List.length_cons] at this⊢;have:1≤e.sz:=by unfold Fd.sz;omega
           omega
def qQ(l:List Fd)(i:Nat):Nat:=jj (l.take i)
theorem yL{l:List Fd}{i:Nat}(h:i<l.length):qQ l (i+1)=qQ l i+dh l[i].body:=by
 rw[qQ,qQ,jj,jj,au h,List.map_append,List.sum_append];simp
theorem tl:∀l:List Fd,jj l≤aN l
 |[]=>Nat.le_refl _
 |f::r=>by
  have:=tl r
  have h2:=jz f.body
  simp only[jj,aN,List.map_cons,List.sum_cons] at this⊢
  have:aC f.body≤f.sz:=by unfold Fd.sz;omega
  omega
theorem BX(l:List Fd)(i:Nat):qQ l i≤aN l:=by
 have h1:=tl (l.take i)
 have h2:aN (l.take i)≤aN l:=by
  have:aN l=aN (l.take i)+aN (l.drop i):=by
   rw[←List.take_append_drop i l,aN,List.map_append,List.sum_append];simp[aN]
  omega
 exact Nat.le_trans h1 h2
theorem CJ(l:List Fd)(hl:aN l≤1099511627776):VF Tryd.prog G jH [.agg [.p (fdL l)]] (.p (.int .i64 (jj l))):=by
 refine AC.go ti ?_
 have hll:=ck l
 have hfl:∀l,fdL l= .lst 3 (l.map Fd.cs):=fun _=>rfl
 simp-implicitDefEqProofs[mH]
 refine aR (fun i:Nat=>am 22 [(1,.ptr 0 1 0 0),(3,.p (.int .i64 (qQ l i))),(4,.p (.int .i64 i))]) (fun _=>[.row 1 [[.p (fdL l)]]]) (fun i=>i≤l.length) (fun i=>l.length-i) 0 (by simp) (ab (by simp) (by simp[okO]) (by simp[below,qQ,jj])) ?_
 intro i hi
 simp-implicitDefEqProofs[hfl]
 refine bc (fun h=>?_) (fun h=>?_)
 ·simp at h
  have hg:=List.getElem?_eq_getElem h
  have hks:=dg (List.getElem_mem h)
  have hse:l[i].sz=1+l[i].name.length+(l[i].params.length+(l[i].params.map List.length).sum)+aC l[i].body:=rfl
  have hce:l[i].cs=[.str l[i].name,ay l[i].params,smL l[i].body]:=rfl
  have k1:=yL h
  have k2:=BX l (i+1)
  simp-implicitDefEqProofs[hg,hce]
  refine(xR G _ l[i].body (Nat.le_refl _) (by omega)).use ?_
  have w1':IntKind.i64.wrap ((qQ l i:Int)+(dh l[i].body:Int))=(qQ l (i+1):Int):=by rw[ag (by omega) (by omega)];omega
  simp-implicitDefEqProofs[w1']
  exact⟨i+1,h,by omega,ab (by simp) (by simp[okO]) (by simp[below,w1 (i:=i) (by omega),hfl])⟩
 ·simp at h
  have:qQ l i=jj l:=by rw[qQ,List.take_of_length_le h]
  simp-implicitDefEqProofs[this]
theorem gY(l:List Fd)(hl:aN l≤1099511627776):VF Tryd.prog G cK [.agg [.p (fdL l)]] (.p (.bool (br l))):=by
 refine AC.go ln ?_
 have hfl:∀l,fdL l= .lst 3 (l.map Fd.cs):=fun _=>rfl
 have hall:=CJ G l hl
 have hll:=ck l
 rw[hfl] at hall
 simp-implicitDefEqProofs[gz,hfl]
 refine(ke G _ _ _).use ?_
 by_cases h1:inR l.length 1 4=true
 case neg=>simp-implicitDefEqProofs[h1,br]
 simp-implicitDefEqProofs[h1]
 refine aR (fun i:Nat=>am 26 [(1,.ptr 0 1 0 0),(3,.p (.int .i64 i))]) (fun _=>[.row 1 [[.p (.lst 3 (l.map Fd.cs))]]]) (fun i=>i≤l.length∧(l.take i).all ir=true) (fun i=>l.length-i) 0 (by simp) (ab (by simp) (by simp[okO]) (by simp[below])) ?_
 intro i ⟨hi,ha⟩
 simp-implicitDefEqProofs[]
 refine bc (fun h=>?_) (fun h=>?_)
 ·simp at h
  have hg:=List.getElem?_eq_getElem h
  have hks:=dg (List.getElem_mem h)
  simp-implicitDefEqProofs[hg]
  refine(Ef G l[i] (by omega)).use ?_
  by_cases hk:ir l[i]=true
  ·simp-implicitDefEqProofs[hk]
   exact⟨i+1,⟨h,by rw[←List.all_eq_true,di h,ha,hk];rfl⟩,by omega,ab (by simp) (by simp[okO]) (by simp[below,w1 (i:=i) (by omega)])⟩
  ·have hk':ir l[i]=false:=by simpa using hk
   have hff:br l=false:=by simp only[br,jy h hk',Bool.and_false,Bool.false_and]
   simp-implicitDefEqProofs[hk',hff]
 ·simp at h
  have h2:l.all ir=true:=eK h ha
  simp-implicitDefEqProofs[]
  refine hall.use ?_
  have hff:br l=decide (jj l≤40):=by simp only[br,h1,h2,Bool.true_and]
  simp-implicitDefEqProofs[hff]
  omega
end Go.Proofs.YtiojgfhdcpppcaaDoor
namespace Go.Proofs.YtiojgfhdcpppcaaDoor
open Go Go.Aw
set_option maxRecDepth 100000
set_option maxHeartbeats 4000000
theorem cR{n:Nat}{h h1:List AO}(e:h.take n=h1)(hn:h1.length=n)(ho:∀o∈h1,okO n o):Fst n h h1:=by
 have hl:n≤h.length:=by
  have:=congrArg List.length e
  rw[List.length_take] at this;omega
 have hg:∀(i:Nat) (o:AO),h1[i]?=some o→h[i]?=some o:=fun i o hi=>by
  have h2:=(List.getElem?_eq_some_iff.1 hi).1
  rw[←e,List.getElem?_take_of_lt (by omega)] at hi
  exact hi
 exact⟨hn,hl,fun i sz es hi=>⟨hg _ _ hi,ho _ (List.mem_of_getElem? hi)⟩,fun i es hi=>⟨hg _ _ hi,ho _ (List.mem_of_getElem? hi)⟩,fun i s p hi=>hg _ _ hi⟩
theorem sq:∀(r:List AO) (s:Nat),((eF (List.range' s r.length++[0]) (r++[.dead])).Nodup∧∀i∈eF (List.range' s r.length++[0]) (r++[.dead]),s≤i)
 |[],s=>by simp[eF]
 |o::r,s=>by
  obtain⟨h1,h2⟩:=sq r (s+1)
  rw[List.length_cons,List.range'_succ]
  cases o with
  |dead=>exact⟨h1,fun i hi=>Nat.le_of_succ_le (h2 i hi)⟩
  |_=>exact⟨List.nodup_cons.2 ⟨fun hm=>absurd (h2 _ hm) (by omega),h1⟩,fun i hi=>by
   rcases List.mem_cons.1 hi with rfl|hi
   ·exact Nat.le_refl _
   ·exact Nat.le_of_succ_le (h2 i hi)⟩
theorem ui{h:List AO}(hp:0<h.length)(ho:∀o∈h,okO h.length o):∀(r:List AO) (s:Nat),(∀i:Nat,r[i]?=h[s+i]?)→s+r.length=h.length→HW (List.range' 0 h.length++[0]) h (List.range' s r.length++[0]) (r++[.dead])
 |[],s,_,_=>bA hp bm
 |o::r,s,hr,hs=>by
  have hσ:∀i,i<h.length→(List.range' 0 h.length++[0]).getD i 0=i:=fun i hi=>by
   rw[List.getD_eq_getElem?_getD,List.getElem?_append_left (by simp;exact hi)];simp[hi]
  rw[List.length_cons,List.range'_succ]
  have h0:=hr 0
  have ih:=ui hp ho r (s+1) (fun i=>by have:=hr (i+1);rw[List.getElem?_cons_succ] at this;rw[this];congr 1;omega) (by simp at hs;omega)
  have hm:h[s]?=some o:=by simpa using h0.symm
  have hok:=ho o (List.mem_of_getElem? hm)
  cases o with
  |dead=>exact bA (List.getElem?_eq_some_iff.1 hm).1 ih
  |row sz es=>
   refine cC (fun x hx=>aW (by simp) _ (hok x hx)) ?_ ih
   rw[hm,List.map_congr_left (g:=id) fun x hx=>jf hσ x (hok x hx)];simp
  |mp es=>exact⟨(List.getElem?_eq_some_iff.1 hm).1,⟨fun x hx=>by exact(aW (by simp) [x.2] ⟨hok x hx,trivial⟩).1,by rw[hm,List.map_congr_left (g:=id) fun x hx=>by rw[jB hσ x.2 (hok x hx)];rfl];simp⟩,ih⟩
  |sit s p=>exact⟨(List.getElem?_eq_some_iff.1 hm).1,hm,ih⟩
theorem tT{m:Nat}{l:List (Nat × AV)}:∀r:List (Nat × AV),FgA m l r→TWA (List.range' 0 m++[0]) l r
 |[],_=>trivial
 |x::r,⟨⟨a,c⟩,d⟩=>by
  have hσ:∀i,i<m→(List.range' 0 m++[0]).getD i 0=i:=fun i hi=>by
   rw[List.getD_eq_getElem?_getD,List.getElem?_append_left (by simp;exact hi)];simp[hi]
  exact⟨⟨(aW (by simp) [x.2] ⟨a,trivial⟩).1,by rw[jB hσ _ a,c]⟩,tT r d⟩
theorem mY{k n:Nat}{l l1:List (Nat × AV)}{h:List AO}(hk:k≤h.length)(hp:0<h.length)(ho:∀o∈h,okO h.length o)(H:FgA h.length l l1):Wk k (am n l) h (am n l1) (h++[.dead]):=by
 have hσ:∀i,i<h.length→(List.range' 0 h.length++[0]).getD i 0=i:=fun i hi=>by
  rw[List.getD_eq_getElem?_getD,List.getElem?_append_left (by simp;exact hi)];simp[hi]
 refine nM (List.range' 0 h.length++[0]) (by simp;omega) (fun i hi=>hσ i (by omega)) ?_ ?_ (tT _ H)
 ·exact(sq h 0).1
 ·exact ui hp ho h 0 (fun i=>by simp) (by simp)
def aS(fns:List Fd):List (List AV):=fns.map fun f=>f.cs.map .p
theorem ow(fns:List Fd):∀x∈aS fns,ah 0 x:=by
 intro x hx;obtain⟨m,_,rfl⟩:=List.mem_map.1 hx;simp
theorem bU{n:Nat}{o:AO}(h:okO 0 o):okO n o:=by
 cases o with
 |dead=>trivial
 |sit=>trivial
 |row sz es=>exact fun e he=>aW (Nat.zero_le _) _ (h e he)
 |mp es=>exact fun e he=>(aW (Nat.zero_le n) [e.2] ⟨h e he,trivial⟩).1
theorem iD(fns:List Fd)(n:Nat):okO n (bF 3 (aS fns)):=bU (AY (ow fns))
def exR(l:List Ex):List (List AV):=l.map fun e=>e.cs.map .p
theorem cX(l:List Ex):∀x∈exR l,ah 0 x:=by
 intro x hx;obtain⟨m,_,rfl⟩:=List.mem_map.1 hx;simp
theorem ff{h:List AO}{id:Nat}{l:List Ex}(e:h[id]?=some (bF 4 (exR l))):View h (slE id 4 (exR l)) (exL l):=by
 have hh:exR l=(l.map Ex.cs).map (·.map .p):=by simp[exR]
 rw[hh] at e⊢
 exact Ej e (fun x hx=>by obtain⟨b,_,rfl⟩:=List.mem_map.1 hx;exact b.cs_len)
theorem mS{h:List AO}{id sz:Nat}{r0 r1:List AV}{p0 p1:List PV}(he:h[id]?=some (.row sz [r0,r1]))(l0:p0.length=sz)(l1:p1.length=sz)(h0:∀(j:Nat) (q:PV) (a:AV),p0[j]?=some q→r0[j]?=some a→View h a q)(h1:∀(j:Nat) (q:PV) (a:AV),p1[j]?=some q→r1[j]?=some a→View h a q):View h (.sl id sz 0 2) (.lst sz [p0,p1]):=by
 refine View.sl id sz 0 _ [p0,p1] he (by simp) (by simp[l0,l1]) fun i j e q e' a a1 a2 a3 a4=>?_
 rw[Nat.zero_add] at a3
 match i,a1,a3 with
 |0,a1,a3=>cases a1;cases a3;exact h0 j q a a2 a4
 |1,a1,a3=>cases a1;cases a3;exact h1 j q a a2 a4
 |i+2,a1,a3=>simp at a1
def smR(l:List Sm):List (List AV):=l.map fun s=>s.cs.map .p
theorem dc(l:List Sm):∀x∈smR l,ah 0 x:=by
 intro x hx;obtain⟨m,_,rfl⟩:=List.mem_map.1 hx;simp
theorem ep(l:List Sm):(smR l).length=l.length:=by simp[smR]
theorem tw(a b:List Sm):smR (a++b)=smR a++smR b:=by simp[smR]
theorem bg{h:List AO}{id sz:Nat}{r0:List AV}{p0:List PV}(he:h[id]?=some (.row sz [r0]))(l0:p0.length=sz)(h0:∀(j:Nat) (q:PV) (a:AV),p0[j]?=some q→r0[j]?=some a→View h a q):View h (.sl id sz 0 1) (.lst sz [p0]):=by
 refine View.sl id sz 0 _ [p0] he (by simp) (by simp[l0]) fun i j e q e' a a1 a2 a3 a4=>?_
 rw[Nat.zero_add] at a3
 match i,a1,a3 with
 |0,a1,a3=>cases a1;cases a3;exact h0 j q a a2 a4
 |i+1,a1,a3=>simp at a1
theorem dV{h:List AO}{o n:Int}{w:List UInt8}{k:List Ex}{K:AV}(hk:View h K (exL k)):∀(j:Nat) (q:PV) (a:AV),(Ex.mk o n w k).cs[j]?=some q→[AV.p (.int .i64 o),.p (.int .i64 n),.p (.str w),K][j]?=some a→View h a q:=by
 intro j q a e1 e2
 have hc:(Ex.mk o n w k).cs=[.int .i64 o,.int .i64 n,.str w,exL k]:=Ex.cs_eq _
 rw[hc] at e1
 match j,e1,e2 with
 |0,e1,e2=>cases e1;cases e2;exact .p _
 |1,e1,e2=>cases e1;cases e2;exact .p _
 |2,e1,e2=>cases e1;cases e2;exact .p _
 |3,e1,e2=>cases e1;cases e2;exact hk
 |j+4,e1,e2=>simp at e1
theorem ic{h:List AO}{id:Nat}{l:List Sm}(e:h[id]?=some (.row 5 (smR l))):View h (.sl id 5 0 l.length) (smL l):=by
 have:=fW (h:=h) (id:=id) (sz:=5) (n:=l.length) (ls:=l.map Sm.cs) (by rw[e,smR];simp) (by simp) (fun x hx=>by obtain⟨b,_,rfl⟩:=List.mem_map.1 hx;exact b.cs_len)
 exact this
theorem bC{h:List AO}{o:Int}{w:List UInt8}{a:List Ex}{bd el:List Sm}{A B E:AV}(hA:View h A (exL a))(hB:View h B (smL bd))(hE:View h E (smL el)):∀(j:Nat) (q:PV) (x:AV),(Sm.mk o w a bd el).cs[j]?=some q→[AV.p (.int .i64 o),.p (.str w),A,B,E][j]?=some x→View h x q:=by
 intro j q x e1 e2
 have hc:(Sm.mk o w a bd el).cs=[.int .i64 o,.str w,exL a,smL bd,smL el]:=Sm.cs_eq _
 rw[hc] at e1
 match j,e1,e2 with
 |0,e1,e2=>cases e1;cases e2;exact .p _
 |1,e1,e2=>cases e1;cases e2;exact .p _
 |2,e1,e2=>cases e1;cases e2;exact hA
 |3,e1,e2=>cases e1;cases e2;exact hB
 |4,e1,e2=>cases e1;cases e2;exact hE
 |j+5,e1,e2=>simp at e1
theorem cy{n:Nat}:∀o∈([]:List AO),okO n o:=fun o h=>by cases h
theorem af{n:Nat}{a:AO}{l:List AO}(h:okO n a)(r:∀o∈l,okO n o):∀o∈a::l,okO n o:=fun o ho=>by
 rcases List.mem_cons.1 ho with rfl|ho
 ·exact h
 ·exact r o ho
end Go.Proofs.YtiojgfhdcpppcaaDoor
namespace Go.Proofs.YtiojgfhdcpppcaaDoor
open Go Go.Aw
set_option maxRecDepth 100000
set_option maxHeartbeats 4000000
def ixI:Option Nat→Int|none=> -1|some i=>i
def vaC(nf:Bool)(id n:Nat):AV:=if nf then .nils else .sl id 3 0 n
def lvC(v:LV):List AV:=[.p (.str v.name),.p (.int .i64 v.num),.p (.int .i64 v.block)]
def lvR(vs:List LV):List (List AV):=vs.reverse.map lvC
def roC(nf:Bool)(vs:List LV):AO:=if nf then .dead else .row 3 (lvR vs)
def wC(id:Nat)(nf:Bool)(fns:List Fd)(k:Nat)(w:WS):List AV:=[.p (fdL fns),.p (.int .i64 k),vaC nf id w.vs.length,.p (.int .i64 w.count),.p (.int .i64 w.code)]
def wO(id:Nat)(nf:Bool)(fns:List Fd)(k:Nat)(w:WS):AO:= .row 5 [wC id nf fns k w]
def HWk(nf:Bool)(fns:List Fd)(k:Nat)(w:WS):List AO:=[wO 1 nf fns k w,roC nf w.vs]
theorem pM(vs:List LV):(lvR vs).length=vs.length:=by simp[lvR]
theorem uU(vs:List LV):∀x∈lvR vs,ah 0 x:=by
 intro x hx;obtain⟨m,_,rfl⟩:=List.mem_map.1 hx;simp[lvC,ah,below]
theorem eA(nf:Bool)(vs:List LV)(n:Nat):okO n (roC nf vs):=by
 cases nf
 ·exact bU (fun e he=>uU vs e he)
 ·exact trivial
theorem yA{nf:Bool}{id n m:Nat}(h:id<m):below m (vaC nf id n):=by cases nf<;>simp[vaC,below,h]
theorem qP{id:Nat}{nf:Bool}{fns:List Fd}{k:Nat}{w:WS}{m:Nat}(h:id<m):ah m (wC id nf fns k w):=⟨by simp,by simp,yA h,by simp,by simp,trivial⟩
theorem oX{id:Nat}{nf:Bool}{fns:List Fd}{k:Nat}{w:WS}{m:Nat}(h:id<m):okO m (wO id nf fns k w):=by
 intro e he;rw[List.mem_singleton.1 he];exact qP h
theorem CT(σ:List Nat)(nf:Bool)(id n:Nat):ren σ (vaC nf id n)=vaC nf (σ.getD id 0) n:=by cases nf<;>rfl
theorem sN(σ:List Nat)(id:Nat)(nf:Bool)(fns:List Fd)(k:Nat)(w:WS):aX σ (wC id nf fns k w)=wC (σ.getD id 0) nf fns k w:=by
 simp only[wC,aX,CT];rfl
theorem xe(σ:List Nat)(id:Nat)(nf:Bool)(fns:List Fd)(k:Nat)(w:WS):eC σ (wO id nf fns k w)=wO (σ.getD id 0) nf fns k w:=by
 simp only[wO,eC,List.map_cons,List.map_nil,sN]
theorem vo(σ:List Nat)(nf:Bool)(vs:List LV):eC σ (roC nf vs)=roC nf vs:=by
 cases nf
 ·show AO.row 3 ((lvR vs).map (aX σ))= .row 3 (lvR vs)
  rw[List.map_congr_left (g:=id) fun x hx=>cN σ x (uU vs x hx)];simp
 ·rfl
theorem wH(pre:List LV)(v:LV)(r:List LV):(lvR (pre++v::r))[r.length]?=some (lvC v):=by
 simp[lvR]
theorem zY(v:LV)(r:List LV):lvR (v::r)=lvR r++[lvC v]:=by simp[lvR]
def oy:List LV→List UInt8→Int
 |[],_=> -1
 |v::r,s=>if v.name=s then r.length else oy r s
theorem oq:∀(vs:List LV) (s:List UInt8),(lkV vs s=none∧oy vs s= -1)∨∃pre v r,vs=pre++v::r∧lkV vs s=some v∧oy vs s=r.length
 |[],s=> .inl ⟨rfl,rfl⟩
 |v::r,s=>by
  by_cases h:v.name=s
  ·exact .inr ⟨[],v,r,rfl,by simp[lkV,h],by simp[oy,h]⟩
  ·have h1:lkV (v::r) s=lkV r s:=by simp[lkV,h]
   have h2:oy (v::r) s=oy r s:=by simp[oy,h]
   rw[h1,h2]
   rcases oq r s with h|⟨pre,u,q,e,h⟩
   ·exact .inl h
   ·exact .inr ⟨v::pre,u,q,by rw[e];rfl,h⟩
def K_spec_l4Walk_put:AK:= .seq (.reg [oJ 6 (.mov (.c (.p (.str []))))]) (.seq (.reg [oM 8 0,oM 9 1,oJ 10 (.call cg [(.t 8),(.t 9)]),oM 7 10]) (.cut (.seq (.reg [oM 11 7,oJ 12 (.bin .geq (.t 11) (.c (.p (.int .i64 0)))),oM 13 12,⟨(some 14),some (13,true),.mov (.t 0)⟩,⟨(some 15),some (13,true),.nilck (.t 14)⟩,⟨(some 16),some (13,true),.fldA 2 (.t 15)⟩,⟨(some 17),some (13,true),.ld none (.t 16)⟩,⟨(some 18),some (13,true),.mov (.t 7)⟩,⟨(some 19),some (13,true),.idxS 3 (.t 17) (.t 18)⟩,⟨(some 20),some (13,true),.fldA 2 (.t 19)⟩,⟨(some 21),some (13,true),.ld none (.t 20)⟩,⟨(some 22),some (13,true),.mov (.t 2)⟩,⟨(some 23),some (13,true),.bin .eql (.t 21) (.t 22)⟩,oJ 24 (.pick (.t 13) (.t 23) (.c (.p (.bool false))))]) (.cond (.t 24) (.reg [oM 25 0,oJ 26 (.call aJ [(.t 25),(.c (.p (.int .i64 2)))])]) (.skip))) (.seq (.reg [oM 27 0,oM 28 0,oN 29 28,oF 30 2 29,oM 32 1,oM 33 0,oN 34 33,oF 35 3 34,oM 37 2,oL 31 30,oL 36 35,oJ 38 (.bld [(.p (.str [])),(.p (.int .i64 0)),(.p (.int .i64 0))] [(0,1,(.t 32)),(1,1,(.t 36)),(2,1,(.t 37))]),oJ 39 (.bslP 3 [(.p (.str [])),(.p (.int .i64 0)),(.p (.int .i64 0))] 1 [(0,3,(.t 38))]),oJ 40 (.app 3 32 (.t 31) (.t 39)),oN 41 27,oF 42 2 41,oS 42 40]) (.seq (.reg [oM 43 0,oM 44 0,oN 45 44,oF 46 3 45,oL 47 46,oJ 48 (.bin .add (.t 47) (.c (.p (.int .i64 1)))),oN 49 43,oF 50 3 49,oS 50 48]) (.seq (.reg [oM 51 0,oN 52 51,oF 53 3 52,oL 54 53,oJ 55 (.bin .sub (.t 54) (.c (.p (.int .i64 1)))),oJ 56 (.call dZ [(.t 55)]),oM 6 56]) (.ret))))))
theorem no:K_spec_l4Walk_put.whole=F_spec_l4Walk_put.ak:=rfl
variable (G:aG)
theorem zq(l:List Fd)(s:List UInt8)(hl:l.length≤1099511627776):VF Tryd.prog G eG [.agg [.p (fdL l)],.p (.str s)] (.p (.int .i64 (ixI (dw l s)))):=by
 refine AC.go ue ?_
 have hfl:∀l,fdL l= .lst 3 (l.map Fd.cs):=fun _=>rfl
 simp-implicitDefEqProofs[pk,hfl]
 refine aR (fun i:Nat=>am 22 [(1,.p (.str s)),(2,.ptr 0 1 0 0),(5,.p (.int .i64 i))]) (fun _=>[.row 1 [[.p (.lst 3 (l.map Fd.cs))]]]) (fun i=>i≤l.length∧∀f∈l.take i,f.name≠s) (fun i=>l.length-i) 0 (by simp) (ab (by simp) (by simp[okO]) (by simp[below])) ?_
 intro i ⟨hi,hn⟩
 simp-implicitDefEqProofs[]
 refine bc (fun h=>?_) (fun h=>?_)
 ·simp at h
  have hg:=List.getElem?_eq_getElem h
  have hce:l[i].cs=[.str l[i].name,ay l[i].params,smL l[i].body]:=rfl
  by_cases he:l[i].name=s
  ·have hf:dw l s=some i:=by
    rw[dw,List.findIdx?_eq_some_iff_getElem]
    exact⟨h,by simpa using he,fun j hj=>by have:=hn l[j] (List.mem_take_iff_getElem.2 ⟨j,by omega,rfl⟩);simpa using this⟩
   simp-implicitDefEqProofs[hg,hce,he,hf,ixI]
  ·simp-implicitDefEqProofs[hg,hce,he]
   refine⟨i+1,⟨h,fun p hp=>?_⟩,by omega,ab (by simp) (by simp[okO]) (by simp[below,w1 (i:=i) (by omega)])⟩
   rw[au h] at hp
   rcases List.mem_append.1 hp with hp|hp
   ·exact hn p hp
   ·rw[List.mem_singleton.1 hp];exact he
 ·simp at h
  rw[List.take_of_length_le h] at hn
  have hf:dw l s=none:=by
   rw[dw,List.findIdx?_eq_none_iff];intro x hx;simpa using hn x hx
  simp-implicitDefEqProofs[hf,ixI]
theorem DD:∀m:Nat,m<26→((([97,98,99,100,101,102,103,104,105,106,107,108,109,110,111,112,113,114,115,116,117,118,119,120,121,122]:List UInt8).take (m+1)).drop m)=[UInt8.ofNat (97+m)]:=by decide
theorem CK:∀m:Nat,m<26→List.drop m ((97:UInt8)::List.take m [98,99,100,101,102,103,104,105,106,107,108,109,110,111,112,113,114,115,116,117,118,119,120,121,122])=[97+UInt8.ofNat m]:=by decide
theorem qn(n:Nat):VF Tryd.prog G dZ [.p (.int .i64 n)] (.p (.str (vnm n))):=by
 refine AC.go rT ?_
 have hm:n%26<26:=Nat.mod_lt _ (by omega)
 have ht:(n:Int).tmod 26=((n%26:Nat):Int):=rfl
 have hw:IntKind.i64.wrap (((n%26:Nat):Int)+1)=((n%26+1:Nat):Int):=w1 (by omega)
 have habc:=DD _ hm
 rw[vnm]
 generalize n%26=m at hm ht hw habc
 have h0:(0:Int)≤(m:Int)+1:=by omega
 have h1:m+1≤26:=by omega
 simp-implicitDefEqProofs[lW,ht,hw,h0,h1]
 exact⟨by omega,CK m hm⟩
theorem kW(nf:Bool)(fns:List Fd)(k:Nat)(w:WS)(c:Int):AC Tryd.prog G aJ [.ptr 0 5 0 0,.p (.int .i64 c)] (HWk nf fns k w) fun x h=>x= .ret (.tup [])∧h=HWk nf fns k ⟨w.vs,w.count,fl w.code c⟩:=by
 refine AC.go md ?_
 by_cases h0:w.code=0
 ·simp-implicitDefEqProofs[eu,HWk,wO,wC,h0,fl]
 ·simp-implicitDefEqProofs[eu,HWk,wO,wC,h0,fl]
theorem rm(nf:Bool)(fns:List Fd)(k:Nat)(w:WS):∀o∈HWk nf fns k w,okO 2 o:=by
 intro o ho
 simp only[HWk,List.mem_cons,List.not_mem_nil,or_false] at ho
 rcases ho with rfl|rfl
 ·exact oX (by omega)
 ·exact eA _ _ _
theorem xg(nf:Bool)(fns:List Fd)(k:Nat)(w:WS)(hn:nf=true→w.vs=[])(hl:w.vs.length≤1099511627776)(s:List UInt8):AC Tryd.prog G cg [.ptr 0 5 0 0,.p (.str s)] (HWk nf fns k w) fun x h=>x= .ret (.p (.int .i64 (oy w.vs s)))∧h=HWk nf fns k w:=by
 refine AC.go mA ?_
 have hok:=rm nf fns k w
 cases nf with
 |true=>
  have hv:=hn rfl
  rw[HWk] at hok⊢
  simp-implicitDefEqProofs[er,wO,wC,vaC,hv]
  refine aR (fun _:Unit=>am 27 [(0,.ptr 0 5 0 0),(1,.p (.str s)),(5,.p (.int .i64 (-1)))]) (fun _=>[wO 1 true fns k w,roC true w.vs]) (fun _=>True) (fun _=>0) () trivial ?_ ?_
  ·have e:wO 1 true fns k w= .row 5 [[.p (fdL fns),.p (.int .i64 k),.nils,.p (.int .i64 w.count),.p (.int .i64 w.code)]]:=by simp[wO,wC,vaC]
   rw[←e,←hv]
   exact ab (by simp) hok (by simp[below,ag (x:= -1) (by omega) (by omega)])
  ·intro _ _
   simp-implicitDefEqProofs[oy]
   simp[wO,wC,vaC,hv]
 |false=>
  rw[HWk] at hok⊢
  have e:∀r,roC false r= .row 3 (lvR r):=fun _=>rfl
  have hw0:IntKind.i64.wrap ((w.vs.length:Int)-1)=(w.vs.length:Int)-1:=ag (by omega) (by omega)
  simp-implicitDefEqProofs[er,wO,wC,vaC,hw0]
  refine aR (fun r:List LV=>am 27 [(0,.ptr 0 5 0 0),(1,.p (.str s)),(5,.p (.int .i64 ((r.length:Int)-1)))]) (fun _=>[wO 1 false fns k w,roC false w.vs]) (fun r=>∃pre,w.vs=pre++r∧oy w.vs s=oy r s) (fun r=>r.length) w.vs ⟨[],rfl,rfl⟩ ?_ ?_
  ·exact ab (h:=[wO 1 false fns k w,roC false w.vs]) (by simp) hok (by simp[below])
  ·rintro r ⟨pre,e1,e2⟩
   cases r with
   |nil=>
    simp-implicitDefEqProofs[wO,wC,vaC]
    rw[e2];rfl
   |cons v r=>
    have hat:=wH pre v r
    rw[←e1] at hat
    have hlen:r.length<w.vs.length:=by rw[e1];simp;omega
    have hll:=pM w.vs
    have c1:((r.length+1:Nat):Int)-1=(r.length:Int):=by omega
    have hw1:IntKind.i64.wrap ((r.length:Int)-1)=(r.length:Int)-1:=ag (by omega) (by omega)
    by_cases hs:v.name=s
    ·simp-implicitDefEqProofs[wO,wC,vaC,e,c1,hat,hlen,lvC,hs]
     rw[e2];simp[oy,hs]
    ·simp-implicitDefEqProofs[wO,wC,vaC,e,c1,hat,hlen,lvC,hs]
     refine⟨r,⟨⟨pre++[v],by rw[e1];simp⟩,by rw[e2];simp[oy,hs]⟩,by simp,?_⟩
     refine ab (h:=[wO 1 false fns k w,roC false w.vs]) (by simp) hok ?_
     simp[below,hw1]
theorem zj(nf:Bool)(fns:List Fd)(k:Nat)(w:WS)(hn:nf=true→w.vs=[])(hl:w.vs.length≤1099511627776)(s:List UInt8):AC Tryd.prog G bJ [.ptr 0 5 0 0,.p (.str s)] (HWk nf fns k w) fun x h=>x= .ret (.p (.str (ra w.vs s)))∧h=HWk nf fns k ⟨w.vs,w.count,pE w.vs s w.code⟩:=by
 refine AC.go nC ?_
 simp-implicitDefEqProofs[iN]
 refine(xg G nf fns k w hn hl s).mono ?_
 rintro r h ⟨rfl,rfl⟩
 rcases oq w.vs s with⟨e1,e2⟩|⟨pre,v,q,e0,e1,e2⟩
 ·simp-implicitDefEqProofs[aa,e2]
  refine(kW G nf fns k w 3).mono ?_
  rintro r h ⟨rfl,rfl⟩
  simp-implicitDefEqProofs[aa,ra,pE,e1]
 ·have hat:=wH pre v q
  rw[←e0] at hat
  have hlen:q.length<w.vs.length:=by rw[e0];simp;omega
  have hnf:nf=false:=by
   cases nf with
   |false=>rfl
   |true=>rw[hn rfl] at e0;simp at e0
  subst hnf
  have e:∀r,roC false r= .row 3 (lvR r):=fun _=>rfl
  have hq:¬(q.length:Int)<0:=by omega
  simp-implicitDefEqProofs[aa,e2,hq,HWk,wO,wC,vaC,e,hat,hlen,lvC]
  refine(qn G v.num).use ?_
  simp-implicitDefEqProofs[ra,pE,e1]
theorem zC(nf:Bool)(fns:List Fd)(k:Nat)(w:WS)(hn:nf=true→w.vs=[])(hl:w.vs.length≤1099511627776)(hc:w.count≤1099511627776)(s:List UInt8)(b:Nat):AC Tryd.prog G bK [.ptr 0 5 0 0,.p (.str s),.p (.int .i64 b)] (HWk nf fns k w) fun x h=>x= .ret (.p (.str (vnm w.count)))∧h=[wO 2 false fns k (jg w s b),.dead,roC false (jg w s b).vs]:=by
 refine AC.goK mO no ?_
 have hw1:IntKind.i64.wrap ((w.count:Int)+1)=(w.count:Int)+1:=ag (by omega) (by omega)
 have hw2:IntKind.i64.wrap ((w.count:Int)+1-1)=(w.count:Int):=by rw[ag (by omega) (by omega)];omega
 have hw3:IntKind.i64.wrap (w.count:Int)=(w.count:Int):=ag (by omega) (by omega)
 have hll:=pM w.vs
 simp-implicitDefEqProofs[K_spec_l4Walk_put,F_spec_l4Walk_put]
 refine(xg G nf fns k w hn hl s).mono ?_
 rintro r h ⟨rfl,rfl⟩
 simp-implicitDefEqProofs[aa]
 refine iu (am 57 [(0,.ptr 0 5 0 0),(1,.p (.str s)),(2,.p (.int .i64 b))]) (HWk nf fns k ⟨w.vs,w.count,rS w.vs s b w.code⟩) ?_ ?_
 ·rcases oq w.vs s with⟨e1,e2⟩|⟨pre,v,q,e0,e1,e2⟩
  ·simp-implicitDefEqProofs[e2,rS,e1]
   exact ab (by simp[HWk]) (rm nf fns k w) (by simp[below,HWk])
  ·have hat:=wH pre v q
   rw[←e0] at hat
   have hlen:q.length<w.vs.length:=by rw[e0];simp;omega
   have hnf:nf=false:=by
    cases nf with
    |false=>rfl
    |true=>rw[hn rfl] at e0;simp at e0
   subst hnf
   have e:∀r,roC false r= .row 3 (lvR r):=fun _=>rfl
   have hq:(0:Int)≤(q.length:Int):=by omega
   by_cases hb:v.block=b
   ·have:=kW G false fns k w 2
    simp only[HWk,wO,wC,vaC,e] at this
    simp-implicitDefEqProofs[e2,HWk,wO,wC,vaC,e,hat,hlen,lvC,hb]
    refine this.mono ?_
    rintro r h ⟨rfl,rfl⟩
    have hp:rS w.vs s b w.code=fl w.code 2:=by simp[rS,e1,hb]
    rw[hp]
    simp-implicitDefEqProofs[aa]
    refine ab (h:=HWk false fns k ⟨w.vs,w.count,fl w.code 2⟩) ?_ (rm _ _ _ _) ?_
    ·simp[HWk]
    ·simp[below,HWk]
   ·have hp:rS w.vs s b w.code=w.code:=by simp[rS,e1,hb]
    have hbi:¬(v.block:Int)=(b:Int):=by omega
    rw[hp]
    simp-implicitDefEqProofs[e2,HWk,wO,wC,vaC,e,hat,hlen,lvC,hbi]
    refine ab (h:=HWk false fns k w) ?_ (rm _ _ _ _) ?_
    ·simp[HWk]
    ·simp[below,HWk]
 ·cases nf with
  |true=>
   have hv:=hn rfl
   simp-implicitDefEqProofs[HWk,wO,wC,vaC,roC,hv,hw1,hw2,hw3]
   refine(qn G w.count).use ?_
   simp-implicitDefEqProofs[jg,lvR,lvC,hv]
  |false=>
   have e:∀r,roC false r= .row 3 (lvR r):=fun _=>rfl
   simp-implicitDefEqProofs[HWk,wO,wC,vaC,e,hw1,hw2,hw3,hll]
   refine⟨by omega,?_⟩
   refine(qn G w.count).use ?_
   simp-implicitDefEqProofs[jg,zY,lvC]
   rw[List.take_of_length_le (by omega)]
end Go.Proofs.YtiojgfhdcpppcaaDoor
namespace Go.Proofs.YtiojgfhdcpppcaaDoor
open Go Go.Aw
set_option maxRecDepth 100000
set_option maxHeartbeats 4000000
def K_spec_l4Walk_expr:AK:= .seq (.reg [oJ 3 (.box 4 (.t 1)),oJ 4 (.alloc [(.p (.int .i64 0)),(.p (.int .i64 0)),(.p (.str [])),.nils])]) (.cut (.seq (.reg [oF 8 0 3,oL 9 8,oJ 10 (.bin .eql (.t 9) (.c (.p (.int .i64 2))))]) (.cond (.t 10) (.reg [oM 11 0,oF 12 2 3,oL 13 12,oJ 14 (.call bJ [(.t 11),(.t 13)]),oF 15 2 3,oS 15 14]) (.skip))) (.cut (.seq (.reg [oF 16 0 3,oL 17 16,oJ 18 (.bin .eql (.t 17) (.c (.p (.int .i64 13))))]) (.cond (.t 18) (.seq (.reg [oM 19 0,oN 20 19,oF 21 0 20,oF 23 2 3,oJ 22 (.ld (some 1) (.t 21)),oL 24 23,oJ 25 (.call eG [(.t 22),(.t 24)]),oM 5 25]) (.seq (.reg [oM 26 5,oJ 27 (.bin .lss (.t 26) (.c (.p (.int .i64 0)))),oM 28 27,⟨(some 29),some (28,false),.mov (.t 5)⟩,⟨(some 30),some (28,false),.mov (.t 0)⟩,⟨(some 31),some (28,false),.nilck (.t 30)⟩,⟨(some 32),some (28,false),.fldA 1 (.t 31)⟩,⟨(some 33),some (28,false),.ld none (.t 32)⟩,⟨(some 34),some (28,false),.bin .geq (.t 29) (.t 33)⟩,oJ 35 (.pick (.t 28) (.c (.p (.bool true))) (.t 34))]) (.cond (.t 35) (.reg [oM 36 0,oJ 37 (.call aJ [(.t 36),(.c (.p (.int .i64 4)))])]) (.seq (.reg [oM 38 0,oN 39 38,oF 40 0 39,oF 41 0 40,oM 43 5,oF 48 3 3,oL 42 41,oJ 44 (.idxS 3 (.t 42) (.t 43)),oF 45 1 44,oL 46 45,oJ 47 (.len false (.t 46)),oL 49 48,oJ 50 (.len false (.t 49)),oJ 51 (.bin .neq (.t 47) (.t 50))]) (.cond (.t 51) (.reg [oM 52 0,oJ 53 (.call aJ [(.t 52),(.c (.p (.int .i64 5)))])]) (.skip)))))) (.skip))) (.seq (.reg [oJ 54 (.bsl 4 [(.p (.int .i64 0)),(.p (.int .i64 0)),(.p (.str [])),.nils] 0 []),oM 6 54]) (.seq (.seq (.reg [oK 7 0]) (.blk 0 (.loop (.seq (.seq (.reg [oM 55 7,oF 56 3 3,oL 57 56,oJ 58 (.len false (.t 57)),oJ 59 (.bin .lss (.t 55) (.t 58))]) (.cond (.t 59) (.skip) (.exit 0))) (.seq (.blk 1 (.reg [oM 62 6,oM 63 0,oF 64 3 3,oL 65 64,oM 66 7,oJ 67 (.idxS 4 (.t 65) (.t 66)),oJ 68 (.ld (some 4) (.t 67)),oJ 69 (.call bl [(.t 63),(.t 68)]),oJ 70 (.bsl 4 [(.p (.int .i64 0)),(.p (.int .i64 0)),(.p (.str [])),.nils] 1 [(0,4,(.t 69))]),oJ 71 (.app 4 56 (.t 62) (.t 70)),oM 6 71])) (.reg [oM 60 7,oJ 61 (.bin .add (.t 60) (.c (.p (.int .i64 1)))),oM 7 61])))))) (.seq (.reg [oM 72 6,oF 73 3 3,oS 73 72]) (.seq (.reg [oJ 74 (.ld (some 4) (.t 3)),⟨none,none,.st 4 (.t 4) (.t 74)⟩]) (.ret)))))))
theorem mr:K_spec_l4Walk_expr.whole=F_spec_l4Walk_expr.ak:=rfl
variable (G:aG)
theorem vt{f:FuncId}{args:List AV}{nf:Bool}{fns:List Fd}{k:Nat}{w w':WS}{v:AV}(H:AC Tryd.prog G f args (HWk nf fns k w) fun x h=>x= .ret v∧h=HWk nf fns k w')(rest:List AO)(ha:ah 2 args):
 AC Tryd.prog G f args (wO 1 nf fns k w::roC nf w.vs::rest) fun x h=>x= .ret v∧h=wO 1 nf fns k w'::roC nf w'.vs::rest:=by
 refine(AC.pre H rest ha (rm _ _ _ _) ?_).mono ?_
 ·rintro x h ⟨_,rfl⟩;rfl
 ·rintro x h ⟨h1,⟨rfl,rfl⟩,rfl⟩
  exact⟨rfl,rfl⟩
theorem nh{n id:Nat}(hn:id<n){nf nf':Bool}{fns:List Fd}{k:Nat}{w:WS}{vs:List LV}{l:List AO}(r:∀o∈l,okO n o):∀o∈wO id nf fns k w::roC nf' vs::l,okO n o:=af (oX hn) (af (eA _ _ _) r)
theorem qy{ρ π:List Nat}{h r1:List AO}{i id:Nat}{nf:Bool}{fns:List Fd}{k:Nat}{w:WS}(hid:id<ρ.length)(e:h[i]?=some (wO (ρ.getD id 0) nf fns k w))(hr:HW ρ h π r1):HW ρ h (i::π) (wO id nf fns k w::r1):=by
 refine cC (es:=[wC id nf fns k w]) (fun x hx=>?_) ?_ hr
 ·rw[List.mem_singleton.1 hx];exact qP hid
 ·rw[e,List.map_cons,List.map_nil,sN];rfl
theorem yr{α:Type}{l:List α}{i j:Nat}{a b:α}(hij:i≠j)(h:l[j]?=some b):(l.set i a).set j b=l.set i a:=by
 apply List.ext_getElem?
 intro n
 rw[List.getElem?_set]
 split
 ·rename_i e
  subst e
  rw[List.getElem?_set_ne hij,h]
  rw[if_pos (by rw[List.length_set];exact(List.getElem?_eq_some_iff.1 h).1)]
 ·rfl
theorem sY(ρ:List Nat):∀l:List AV,ah 0 l→TW ρ l l
 |[],_=>by simp
 |v::r,h=>by
  rw[nk]
  refine⟨.inr ⟨(aW (Nat.zero_le _) [v] ⟨h.1,trivial⟩).1,?_⟩,sY ρ r h.2⟩
  have:=cN ρ [v] ⟨h.1,trivial⟩
  simpa[aX] using this
theorem FB{h:List AO}{wid id:Nat}{nf:Bool}{fns:List Fd}{k:Nat}{w:WS}(e0:h[wid]?=some (wO id nf fns k w))(e1:h[id]?=some (roC nf w.vs)):HW [wid,id] h [wid,id] (HWk nf fns k w):=by
 refine cC (es:=[wC 1 nf fns k w]) (fun x hx=>?_) ?_ ?_
 ·rw[List.mem_singleton.1 hx];exact qP (by simp)
 ·rw[e0,List.map_cons,List.map_nil,sN];rfl
 ·exact bn e1 (eA _ _ _) bm
theorem DV{f:FuncId}{args:List AV}{nf:Bool}{fns:List Fd}{k:Nat}{w:WS}{v:AV}{c:Int}(H:AC Tryd.prog G f (.ptr 0 5 0 0::args) (HWk nf fns k w) fun x h=>x= .ret v∧h=HWk nf fns k ⟨w.vs,w.count,c⟩)(ha:ah 0 args)(hv:below 0 v)
 {h:List AO}{wid id:Nat}(hid:wid≠id)(e0:h[wid]?=some (wO id nf fns k w))(e1:h[id]?=some (roC nf w.vs)):
 AC Tryd.prog G f (.ptr wid 5 0 0::args) h fun x h'=>x= .ret v∧h'=h.set wid (wO id nf fns k ⟨w.vs,w.count,c⟩):=by
 refine(H.frame [wid,id] (by simp[hid]) ?_ (FB e0 e1)).mono ?_
 ·rw[nk];exact⟨.inr ⟨by simp[below],rfl⟩,sY _ _ ha⟩
 ·rintro x h' ⟨x0,h0,⟨rfl,rfl⟩,_,rfl,rfl⟩
  refine⟨?_,?_⟩
  ·have:=cN ([wid,id]++List.range' h.length ((HWk nf fns k ⟨w.vs,w.count,c⟩).length-(HWk nf fns k w).length)) [v] ⟨hv,trivial⟩
   simp only[aX] at this
   simp only[rc]
   exact congrArg ARes.ret (List.cons.inj this).1
  ·simp only[HWk,List.length_cons,List.length_nil,Nat.sub_self,List.range'_zero,List.append_nil,List.take_succ_cons,List.take_zero,List.map_cons,List.map_nil,List.drop_succ_cons,List.drop_zero,xe,vo,mrg]
   exact yr hid e1
theorem By{f:FuncId}{args:List AV}{nf:Bool}{fns:List Fd}{k:Nat}{w:WS}{v:AV}{Q:Bool→WS→Prop}(H:AC Tryd.prog G f (.ptr 0 5 0 0::args) (HWk nf fns k w) fun x h=>∃nf' w',x= .ret v∧h=[wO 2 nf' fns k w',.dead,roC nf' w'.vs]∧Q nf' w')(ha:ah 0 args)(hv:below 0 v)
 {h:List AO}{wid id:Nat}(hid:wid≠id)(e0:h[wid]?=some (wO id nf fns k w))(e1:h[id]?=some (roC nf w.vs)):
 AC Tryd.prog G f (.ptr wid 5 0 0::args) h fun x h'=>∃nf' w',x= .ret v∧h'=(h.set wid (wO h.length nf' fns k w')).set id .dead++[roC nf' w'.vs]∧Q nf' w':=by
 refine(H.frame [wid,id] (by simp[hid]) ?_ (FB e0 e1)).mono ?_
 ·rw[nk];exact⟨.inr ⟨by simp[below],rfl⟩,sY _ _ ha⟩
 ·rintro x h' ⟨x0,h0,⟨nf',w',rfl,rfl,q⟩,_,rfl,rfl⟩
  refine⟨nf',w',?_,?_,q⟩
  ·have:=cN ([wid,id]++List.range' h.length ([wO 2 nf' fns k w',.dead,roC nf' w'.vs].length-(HWk nf fns k w).length)) [v] ⟨hv,trivial⟩
   simp only[aX] at this
   simp only[rc]
   exact congrArg ARes.ret (List.cons.inj this).1
  ·simp only[HWk,List.length_cons,List.length_nil,List.take_succ_cons,List.take_zero,List.map_cons,List.map_nil,List.drop_succ_cons,List.drop_zero,xe,vo,mrg]
   rfl
theorem sB(fns:List Fd)(k:Nat)(vs:List LV):∀(a b:List Ex) (c:Int),cY fns k vs (a++b) c=cY fns k vs b (cY fns k vs a c)
 |[],b,c=>rfl
 |e::r,b,c=>by rw[List.cons_append,cY,cY,sB fns k vs r]
theorem mZ(vs:List LV):∀l:List Ex,gX vs l=l.map (rnE vs)
 |[]=>rfl
 |e::r=>by rw[gX,mZ vs r];rfl
theorem rf{fns:List Fd}{k:Nat}{vs:List LV}{l:List Ex}{c:Int}{i:Nat}(h:i<l.length):cY fns k vs (l.take (i+1)) c=uT fns k vs l[i] (cY fns k vs (l.take i) c):=by
 rw[au h,sB];rfl
theorem sA{vs:List LV}{l:List Ex}{i:Nat}(h:i<l.length):gX vs (l.take (i+1))=gX vs (l.take i)++[rnE vs l[i]]:=by
 rw[mZ,mZ,au h,List.map_append];rfl
theorem nn(vs:List LV)(l:List Ex):(gX vs l).length=l.length:=by rw[mZ,List.length_map]
theorem wT(l:List Ex):(exR l).length=l.length:=by simp[exR]
theorem xJ(a b:List Ex):exR (a++b)=exR a++exR b:=by simp[exR]
theorem vj{h:List AO}{id:Nat}{l:List Ex}(e:h[id]?=some (.row 4 (exR l))):View h (.sl id 4 0 l.length) (exL l):=by
 have:=fW (h:=h) (id:=id) (sz:=4) (n:=l.length) (ls:=l.map Ex.cs) (by rw[e,exR];simp) (by simp) (fun x hx=>by obtain⟨b,_,rfl⟩:=List.mem_map.1 hx;exact b.cs_len)
 exact this
theorem Cw{fns:List Fd}{s:List UInt8}{j:Nat}(h:dw fns s=some j):j<fns.length:=by
 rw[dw,List.findIdx?_eq_some_iff_getElem] at h;exact h.1
theorem BW{fns:List Fd}{k:Nat}(hf:fns.length≤1099511627776):∀(N:Nat) (e:Ex),e.sz≤N→N≤1099511627776→∀(nf:Bool) (w:WS),(nf=true→w.vs=[])→w.vs.length≤1099511627776→
 AC Tryd.prog G bl [.ptr 0 5 0 0,.agg (e.cs.map .p)] (HWk nf fns k w) fun x h=>x= .ret (.agg ((rnE w.vs e).cs.map .p))∧h=HWk nf fns k ⟨w.vs,w.count,uT fns k w.vs e w.code⟩:=by
 intro N
 induction N with
 |zero=>intro e he;have:=e.sz_eq;omega
 |succ N ih=>
  intro e he hN nf w hn hl
  have hec:=e.cs_eq
  have hsz:=e.sz_eq
  have hkl:=bQ e.kids
  have hre:(rnE w.vs e).cs=[.int .i64 e.op,.int .i64 e.n,.str (if e.op=2 then ra w.vs e.name else e.name),exL (gX w.vs e.kids)]:=by
   obtain⟨o,n,s,ks⟩:=e;rw[rnE,Ex.cs_eq];rfl
  have hce:uT fns k w.vs e w.code=cY fns k w.vs e.kids (lP fns k w.vs e.op e.name e.kids.length w.code):=by
   obtain⟨o,n,s,ks⟩:=e;rfl
  have main:AC Tryd.prog G bl [.ptr 0 5 0 0,.agg (e.cs.map .p)] (HWk nf fns k w) fun x h=>∃E1 E2,x= .ret (.agg [.p (.int .i64 e.op),.p (.int .i64 e.n),.p (.str (if e.op=2 then ra w.vs e.name else e.name)),.sl 4 4 0 e.kids.length])∧
   h=[wO 1 nf fns k ⟨w.vs,w.count,uT fns k w.vs e w.code⟩,roC nf w.vs,E1,E2,.row 4 (exR (gX w.vs e.kids))]:=by
   refine AC.goK mz mr ?_
   simp-implicitDefEqProofs[K_spec_l4Walk_expr,F_spec_l4Walk_expr,HWk,hec]
   refine iu (am 75 [(0,.ptr 0 5 0 0),(3,.ptr 2 4 0 0),(4,.ptr 3 4 0 0)]) [wO 1 nf fns k ⟨w.vs,w.count,if e.op=2 then pE w.vs e.name w.code else w.code⟩,roC nf w.vs,.row 4 [[.p (.int .i64 e.op),.p (.int .i64 e.n),.p (.str (if e.op=2 then ra w.vs e.name else e.name)),.p (exL e.kids)]],.row 4 [[.p (.int .i64 0),.p (.int .i64 0),.p (.str []),.nils]]] ?_ ?_
   ·by_cases o2:e.op=2
    ·simp-implicitDefEqProofs[o2]
     refine(vt G (zj G nf fns k w hn hl e.name) _ (by simp[below])).mono ?_
     rintro r h ⟨rfl,rfl⟩
     simp-implicitDefEqProofs[aa]
     exact ab (by simp) (nh (by simp) (by simp[okO,below])) (by simp[below])
    ·simp-implicitDefEqProofs[o2]
     exact ab (by simp) (nh (by simp) (by simp[okO,below])) (by simp[below])
   refine iu (am 75 [(0,.ptr 0 5 0 0),(3,.ptr 2 4 0 0),(4,.ptr 3 4 0 0)]) [wO 1 nf fns k ⟨w.vs,w.count,lP fns k w.vs e.op e.name e.kids.length w.code⟩,roC nf w.vs,.row 4 [[.p (.int .i64 e.op),.p (.int .i64 e.n),.p (.str (if e.op=2 then ra w.vs e.name else e.name)),.p (exL e.kids)]],.row 4 [[.p (.int .i64 0),.p (.int .i64 0),.p (.str []),.nils]]] ?_ ?_
   ·by_cases o13:e.op=13
    ·have hhd:lP fns k w.vs e.op e.name e.kids.length w.code=nt fns k e.name e.kids.length w.code:=by simp[lP,o13]
     rw[hhd]
     simp-implicitDefEqProofs[o13,wO,wC]
     refine(zq G fns e.name hf).use ?_
     have fin:∀c:Int,Wk 2 (am 75 [(0,.ptr 0 5 0 0),(3,.ptr 2 4 0 0),(4,.ptr 3 4 0 0)]) [wO 1 nf fns k ⟨w.vs,w.count,c⟩,roC nf w.vs,.row 4 [[.p (.int .i64 13),.p (.int .i64 e.n),.p (.str e.name),.p (exL e.kids)]],.row 4 [[.p (.int .i64 0),.p (.int .i64 0),.p (.str []),.nils]]] (am 75 [(0,.ptr 0 5 0 0),(3,.ptr 2 4 0 0),(4,.ptr 3 4 0 0)]) [wO 1 nf fns k ⟨w.vs,w.count,c⟩,roC nf w.vs,.row 4 [[.p (.int .i64 13),.p (.int .i64 e.n),.p (.str e.name),.p (exL e.kids)]],.row 4 [[.p (.int .i64 0),.p (.int .i64 0),.p (.str []),.nils]]]:=fun c=>
      ab (by simp) (nh (by simp) (by simp[okO,below])) (by simp[below])
     cases hfa:dw fns e.name with
     |none=>
      simp-implicitDefEqProofs[ixI,nt,hfa]
      refine(vt G (kW G nf fns k w 4) _ (by simp[below])).mono ?_
      rintro r h ⟨rfl,rfl⟩
      simp-implicitDefEqProofs[aa]
      exact ab (h:=[wO 1 nf fns k ⟨w.vs,w.count,fl w.code 4⟩,roC nf w.vs,.row 4 [[.p (.int .i64 13),.p (.int .i64 e.n),.p (.str e.name),.p (exL e.kids)]],.row 4 [[.p (.int .i64 0),.p (.int .i64 0),.p (.str []),.nils]]]) (by simp) (nh (by simp) (by simp[okO,below])) (by simp[below])
     |some j=>
      have hj:=Cw hfa
      have hg:=List.getElem?_eq_getElem hj
      have hjn:¬(j:Int)<0:=by omega
      by_cases hkj:k≤j
      ·have hkj':(k:Int)≤(j:Int):=by omega
       simp-implicitDefEqProofs[ixI,nt,hfa,hkj,hkj',hjn]
       refine(vt G (kW G nf fns k w 4) _ (by simp[below])).mono ?_
       rintro r h ⟨rfl,rfl⟩
       simp-implicitDefEqProofs[aa]
       exact ab (h:=[wO 1 nf fns k ⟨w.vs,w.count,fl w.code 4⟩,roC nf w.vs,.row 4 [[.p (.int .i64 13),.p (.int .i64 e.n),.p (.str e.name),.p (exL e.kids)]],.row 4 [[.p (.int .i64 0),.p (.int .i64 0),.p (.str []),.nils]]]) (by simp) (nh (by simp) (by simp[okO,below])) (by simp[below])
      ·have hkj':¬(k:Int)≤(j:Int):=by omega
       have hfl:fdL fns= .lst 3 (fns.map Fd.cs):=rfl
       have hcs:fns[j].cs=[.str fns[j].name,ay fns[j].params,smL fns[j].body]:=rfl
       have hst:ay fns[j].params= .lst 1 (fns[j].params.map fun w=>[.str w]):=rfl
       have hxl:∀l,exL l= .lst 4 (l.map Ex.cs):=fun _=>rfl
       have hpn:xS fns j=fns[j].params.length:=by simp[xS,hg]
       by_cases hp:fns[j].params.length=e.kids.length
       ·have hcc:nt fns k e.name e.kids.length w.code=w.code:=by simp[nt,hfa,hkj,hpn,hp]
        rw[hcc]
        simp-implicitDefEqProofs[ixI,hkj',hjn,hfl,hg,hcs,hst,hxl,hp]
        exact ab (h:=[wO 1 nf fns k w,roC nf w.vs,.row 4 [[.p (.int .i64 13),.p (.int .i64 e.n),.p (.str e.name),.p (exL e.kids)]],.row 4 [[.p (.int .i64 0),.p (.int .i64 0),.p (.str []),.nils]]]) (by simp) (nh (by simp) (by simp[okO,below])) (by simp[below])
       ·have hcc:nt fns k e.name e.kids.length w.code=fl w.code 5:=by simp[nt,hfa,hkj,hpn,hp]
        have hp':¬(fns[j].params.length:Int)=(e.kids.length:Int):=by omega
        rw[hcc]
        simp-implicitDefEqProofs[ixI,hkj',hjn,hfl,hg,hcs,hst,hxl,hp']
        refine(vt G (kW G nf fns k w 5) _ (by simp[below])).mono ?_
        rintro r h ⟨rfl,rfl⟩
        simp-implicitDefEqProofs[aa]
        exact ab (h:=[wO 1 nf fns k ⟨w.vs,w.count,fl w.code 5⟩,roC nf w.vs,.row 4 [[.p (.int .i64 13),.p (.int .i64 e.n),.p (.str e.name),.p (exL e.kids)]],.row 4 [[.p (.int .i64 0),.p (.int .i64 0),.p (.str []),.nils]]]) (by simp) (nh (by simp) (by simp[okO,below])) (by simp[below])
    ·have hhd:lP fns k w.vs e.op e.name e.kids.length w.code=if e.op=2 then pE w.vs e.name w.code else w.code:=by simp[lP,o13]
     rw[hhd]
     simp-implicitDefEqProofs[o13]
     exact ab (by simp) (nh (by simp) (by simp[okO,below])) (by simp[below])
   rw[hce]
   generalize lP fns k w.vs e.op e.name e.kids.length w.code=c2
   generalize (if e.op=2 then ra w.vs e.name else e.name)=s1
   have hxl:exL e.kids= .lst 4 (e.kids.map Ex.cs):=rfl
   simp-implicitDefEqProofs[]
   refine aR (fun i:Nat=>am 75 [(0,.ptr 0 5 0 0),(3,.ptr 2 4 0 0),(4,.ptr 3 4 0 0),(6,.sl 4 4 0 i),(7,.p (.int .i64 i))])
    (fun i=>[wO 1 nf fns k ⟨w.vs,w.count,cY fns k w.vs (e.kids.take i) c2⟩,roC nf w.vs,.row 4 [[.p (.int .i64 e.op),.p (.int .i64 e.n),.p (.str s1),.p (exL e.kids)]],.row 4 [[.p (.int .i64 0),.p (.int .i64 0),.p (.str []),.nils]],.row 4 (exR (gX w.vs (e.kids.take i)))])
    (fun i=>i≤e.kids.length) (fun i=>e.kids.length-i) 0 (by simp) ?_ ?_
   ·exact ab (by simp) (nh (by simp) (by simp[okO,below])) (by simp[below])
   ·intro i hi
    have hrl:(exR (gX w.vs (e.kids.take i))).length=i:=by rw[wT,nn];simp;omega
    simp-implicitDefEqProofs[hxl]
    refine bc (fun h=>?_) (fun h=>?_)
    ·simp at h
     have hg:=List.getElem?_eq_getElem h
     have hks:=cf (List.getElem_mem h)
     have hkc:=(rnE w.vs e.kids[i]).cs_eq
     simp-implicitDefEqProofs[hg]
     refine(vt G (ih e.kids[i] (by omega) (by omega) nf ⟨w.vs,w.count,cY fns k w.vs (e.kids.take i) c2⟩ hn hl) _ (by simp[below])).mono ?_
     rintro r h ⟨rfl,rfl⟩
     rw[show(rnE (WS.mk w.vs w.count (cY fns k w.vs (e.kids.take i) c2)).vs e.kids[i])=rnE w.vs e.kids[i] from rfl]
     simp-implicitDefEqProofs[aa,hkc,hrl]
     refine⟨by omega,?_⟩
     refine⟨i+1,by omega,by omega,?_⟩
     have htk:List.take i (exR (gX w.vs (e.kids.take i)))=exR (gX w.vs (e.kids.take i)):=List.take_of_length_le (by omega)
     rw[rf h,sA h,xJ,htk]
     refine cJ [0,1,2,3,6] (by simp) (by decide) (by decide) (qy (by simp) rfl (bn rfl (eA _ _ _) (be rfl (by simp[below]) (be rfl (by simp[below]) (be ?_ ?_ bm))))) (by simp[below,ren,w1 (i:=i) (by omega)])
     ·have:exR [rnE w.vs e.kids[i]]=[[.p (.int .i64 (rnE w.vs e.kids[i]).op),.p (.int .i64 (rnE w.vs e.kids[i]).n),.p (.str (rnE w.vs e.kids[i]).name),.p (exL (rnE w.vs e.kids[i]).kids)]]:=by rw[exR,List.map_singleton,hkc];rfl
      rw[this];rfl
     ·intro x hx
      rcases List.mem_append.1 hx with h|h
      ·exact cX _ x h
      ·exact cX _ x h
    ·simp at h
     have hie:i=e.kids.length:=by omega
     subst hie
     simp-implicitDefEqProofs[]
  refine main.frz 2 (by simp[HWk]) (fun t v h ⟨_,_,e,_⟩=>by cases e) ?_
  rintro v h ⟨E1,E2,e,rfl⟩
  cases e
  refine⟨_,HWk nf fns k ⟨w.vs,w.count,uT fns k w.vs e w.code⟩,by simp,rfl,.agg ?_ .nil,.same (oX (by omega)) (.same (eA _ _ _) (.nil _)),rfl,rfl⟩
  rw[hre]
  have hrl:=nn w.vs e.kids
  rw[←hrl]
  exact .keep (by simp) (.keep (by simp) (.keep (by simp) (.one (vj rfl) .nil)))
end Go.Proofs.YtiojgfhdcpppcaaDoor
namespace Go.Proofs.YtiojgfhdcpppcaaDoor
open Go Go.Aw
set_option maxRecDepth 100000
set_option maxHeartbeats 4000000
def K_spec_l4Walk_stmts:AK:= .seq (.reg [oJ 6 (.mov (.c .nils))]) (.seq (.reg [oJ 13 (.bsl 5 [(.p (.int .i64 0)),(.p (.str [])),.nils,.nils,.nils] 0 []),oM 7 13]) (.seq (.reg [oM 14 0,oN 15 14,oF 16 2 15,oL 17 16,oJ 18 (.len false (.t 17)),oM 8 18]) (.seq (.seq (.reg [oK 9 0]) (.blk 0 (.loop (.seq (.seq (.reg [oM 19 9,oM 20 1,oJ 21 (.len false (.t 20)),oJ 22 (.bin .lss (.t 19) (.t 21))]) (.cond (.t 22) (.skip) (.exit 0))) (.seq (.blk 1 (.seq (.reg [oM 25 1,oM 26 9,oJ 27 (.idxS 5 (.t 25) (.t 26)),oJ 28 (.ld (some 5) (.t 27)),oJ 10 (.alloc [(.p (.int .i64 0)),(.p (.str [])),.nils,.nils,.nils]),⟨none,none,.st 5 (.t 10) (.t 28)⟩]) (.seq (.reg [oJ 29 (.bsl 4 [(.p (.int .i64 0)),(.p (.int .i64 0)),(.p (.str [])),.nils] 0 []),oM 11 29]) (.seq (.seq (.reg [oK 12 0]) (.blk 2 (.loop (.seq (.seq (.reg [oM 30 12,oF 31 2 10,oL 32 31,oJ 33 (.len false (.t 32)),oJ 34 (.bin .lss (.t 30) (.t 33))]) (.cond (.t 34) (.skip) (.exit 2))) (.seq (.blk 3 (.reg [oM 37 11,oM 38 0,oF 39 2 10,oL 40 39,oM 41 12,oJ 42 (.idxS 4 (.t 40) (.t 41)),oJ 43 (.ld (some 4) (.t 42)),oJ 44 (.call bl [(.t 38),(.t 43)]),oJ 45 (.bsl 4 [(.p (.int .i64 0)),(.p (.int .i64 0)),(.p (.str [])),.nils] 1 [(0,4,(.t 44))]),oJ 46 (.app 4 56 (.t 37) (.t 45)),oM 11 46])) (.reg [oM 35 12,oJ 36 (.bin .add (.t 35) (.c (.p (.int .i64 1)))),oM 12 36])))))) (.cut (.reg [oM 47 11,oF 48 2 10,oS 48 47]) (.cut (.seq (.reg [oF 49 0 10,oL 50 49,oJ 51 (.bin .eql (.t 50) (.c (.p (.int .i64 1))))]) (.cond (.t 51) (.reg [oM 52 0,oF 53 1 10,oL 54 53,oM 55 2,oJ 56 (.call bK [(.t 52),(.t 54),(.t 55)]),oF 57 1 10,oS 57 56]) (.skip))) (.cut (.seq (.reg [oF 58 0 10,oL 59 58,oJ 60 (.bin .eql (.t 59) (.c (.p (.int .i64 2))))]) (.cond (.t 60) (.reg [oM 61 0,oF 62 1 10,oL 63 62,oJ 64 (.call bJ [(.t 61),(.t 63)]),oF 65 1 10,oS 65 64]) (.skip))) (.seq (.reg [oM 66 0,oF 67 3 10,oL 68 67,oM 69 2,oJ 70 (.bin .add (.t 69) (.c (.p (.int .i64 1)))),oJ 71 (.call aV [(.t 66),(.t 68),(.t 70)]),oF 72 3 10,oS 72 71]) (.seq (.reg [oM 73 0,oF 74 4 10,oL 75 74,oM 76 2,oJ 77 (.bin .add (.t 76) (.c (.p (.int .i64 1)))),oJ 78 (.call aV [(.t 73),(.t 75),(.t 77)]),oF 79 4 10,oS 79 78]) (.reg [oM 80 7,oJ 81 (.ld (some 5) (.t 10)),oJ 82 (.bsl 5 [(.p (.int .i64 0)),(.p (.str [])),.nils,.nils,.nils] 1 [(0,5,(.t 81))]),oJ 83 (.app 5 96 (.t 80) (.t 82)),oM 7 83])))))))))) (.reg [oM 23 9,oJ 24 (.bin .add (.t 23) (.c (.p (.int .i64 1)))),oM 9 24])))))) (.cut (.seq (.reg [oM 84 2,oJ 85 (.bin .gtr (.t 84) (.c (.p (.int .i64 0))))]) (.cond (.t 85) (.reg [oM 86 0,oM 87 0,oN 88 87,oF 89 2 88,oL 90 89,oM 91 8,oJ 92 (.slS 3 (.t 90) none (some (.t 91))),oN 93 86,oF 94 2 93,oS 94 92]) (.skip))) (.seq (.reg [oM 95 7,oM 6 95]) (.ret))))))
theorem lh:K_spec_l4Walk_stmts.whole=F_spec_l4Walk_stmts.ak:=rfl
theorem uq(fns:List Fd)(k b:Nat):∀(x y:List Sm) (w:WS),cw fns k b (x++y) w=cw fns k b y (cw fns k b x w)
 |[],y,w=>rfl
 |s::r,y,w=>by rw[List.cons_append,cw,cw,uq fns k b r]
theorem uK(fns:List Fd)(k b:Nat):∀(x y:List Sm) (w:WS),fp fns k b (x++y) w=fp fns k b x w++fp fns k b y (cw fns k b x w)
 |[],y,w=>rfl
 |s::r,y,w=>by rw[List.cons_append,fp,fp,uK fns k b r];rfl
theorem yp{fns:List Fd}{k b:Nat}{l:List Sm}{w:WS}{i:Nat}(h:i<l.length):cw fns k b (l.take (i+1)) w=stW fns k b l[i] (cw fns k b (l.take i) w):=by
 rw[au h,uq];rfl
theorem yV{fns:List Fd}{k b:Nat}{l:List Sm}{w:WS}{i:Nat}(h:i<l.length):fp fns k b (l.take (i+1)) w=fp fns k b (l.take i) w++[rnS fns k b l[i] (cw fns k b (l.take i) w)]:=by
 rw[au h,uK];rfl
theorem qV(fns:List Fd)(k b:Nat):∀(l:List Sm) (w:WS),(fp fns k b l w).length=l.length
 |[],w=>rfl
 |s::r,w=>by rw[fp,List.length_cons,qV fns k b r,List.length_cons]
theorem xv{l:List Sm}{i:Nat}(h:i<l.length):aC (l.take i)+l[i].sz≤aC l:=by
 have e:l=l.take i++l[i]::l.drop (i+1):=by rw[←List.drop_eq_getElem_cons h,List.take_append_drop]
 have h2:aC l=aC (l.take i)+(l[i].sz+aC (l.drop (i+1))):=by
  conv=>lhs;rw[e]
  rw[bi];rfl
 omega
def ml(fns:List Fd)(k b:Nat)(l:List Sm)(w:WS):WS:=if 0<b then(cw fns k b l w).back w.vs else cw fns k b l w
theorem wd(fns:List Fd)(k b:Nat)(l:List Sm)(w:WS):(ml fns k b l w).count=w.count+dv l:=by
 unfold ml
 split
 ·exact ey fns k l b w
 ·exact ey fns k l b w
theorem Bu{e vs:List LV}:(lvR (e++vs)).take vs.length=lvR vs:=by
 have h:lvR (e++vs)=lvR vs++lvR e:=by simp[lvR]
 rw[h,List.take_append_of_le_length (by rw[pM];exact Nat.le_refl _),List.take_of_length_le (by rw[pM];exact Nat.le_refl _)]
theorem oO(l:List Sm):dv l≤aC l:=Nat.le_trans (jY l) (jz l)
theorem wz(nf:Bool)(id n:Nat):(vaC nf id n).isCell=true:=by cases nf<;>rfl
theorem yh(nf:Bool)(id n:Nat):(vaC nf id n).cells=[vaC nf id n]:=by cases nf<;>rfl
attribute [simp ↓] wz yh
variable (G:aG)
def StP(fns:List Fd)(k b:Nat)(l:List Sm)(w:WS)(x:ARes)(h:List AO):Prop:=∃nf' w',x= .ret (.p (smL (fp fns k b l w)))∧h=[wO 2 nf' fns k w',.dead,roC nf' w'.vs]∧(nf'=true→w'.vs=[])∧w'=ml fns k b l w
structure StS where (i:Nat) (nf:Bool)
theorem zs{fns:List Fd}{k:Nat}(hf:fns.length≤1099511627776):∀(N:Nat) (l:List Sm),aC l<N→∀(b:Nat) (nf:Bool) (w:WS),(nf=true→w.vs=[])→w.vs.length≤w.count→w.count+aC l≤1099511627776→b+aC l≤1099511627776→
 AC Tryd.prog G aV [.ptr 0 5 0 0,.p (smL l),.p (.int .i64 b)] (HWk nf fns k w) (StP fns k b l w):=by
 intro N
 induction N with
 |zero=>
  intro l hl b nf w hn hv hc hb
  omega
 |succ N ih=>
  intro l hl b nf w hn hv hc hb
  have hll:=bO l
  refine AC.goK lu lh ?_
  have hsl:∀l,smL l= .lst 5 (l.map Sm.cs):=fun _=>rfl
  have hlen0:wt (vaC nf 1 w.vs.length)=some (.p (.int .i64 w.vs.length)):=by
   cases nf
   ·rfl
   ·simp[vaC,hn rfl]
  simp-implicitDefEqProofs[K_spec_l4Walk_stmts,F_spec_l4Walk_stmts,HWk,wO,wC,hlen0]
  refine aR (fun s:StS=>am 96 [(0,.ptr 0 5 0 0),(1,.p (smL l)),(2,.p (.int .i64 b)),(7,.sl 2 5 0 s.i),(8,.p (.int .i64 w.vs.length)),(9,.p (.int .i64 s.i))])
   (fun s=>[wO 3 s.nf fns k (cw fns k b (l.take s.i) w),.dead,.row 5 (smR (fp fns k b (l.take s.i) w)),roC s.nf (cw fns k b (l.take s.i) w).vs])
   (fun s=>s.i≤l.length∧(s.nf=true→(cw fns k b (l.take s.i) w).vs=[])) (fun s=>l.length-s.i) ⟨0,nf⟩ ⟨by simp,hn⟩ ?_ ?_
  ·refine nM [0,1,2,1] (by simp) (by decide) ?_ (qy (by simp) rfl (bA (by simp) (be rfl (by simp[smR,fp]) (bn rfl (eA _ _ _) bm)))) (by simp[below,ren])
   cases nf<;>simp[eF,roC,wO,cw]
  ·rintro⟨i,nf⟩ ⟨hi,hn⟩
   simp only at hi hn
   simp-implicitDefEqProofs[hsl]
   refine bc (fun h=>?_) (fun h=>?_)
   ·simp at h
    have hg:=List.getElem?_eq_getElem h
    have hat:=xv h
    have hse:=l[i].cs_eq
    have hsz:=l[i].sz_eq
    have hle:=xm fns k (l:=l.take i) (b:=b) hv
    have hcn:=ey fns k (l.take i) b w
    have hlz:=oO (l.take i)
    have eW:=yp (fns:=fns) (k:=k) (b:=b) (w:=w) h
    have eR:=yV (fns:=fns) (k:=k) (b:=b) (w:=w) h
    have hol:=qV fns k b (l.take i) w
    rw[List.length_take,Nat.min_eq_left hi] at hol
    generalize l[i]=s at hg hat hse hsz eW eR
    generalize cw fns k b (l.take i) w=wi at hn hle hcn eW eR⊢
    generalize fp fns k b (l.take i) w=out at hol eR⊢
    obtain⟨o,nme,a,bd,el⟩:=s
    simp only[Sm.op,Sm.name,Sm.args,Sm.body,Sm.els] at hse hsz
    simp-implicitDefEqProofs[hg,hse]
    have hxl:∀l,exL l= .lst 4 (l.map Ex.cs):=fun _=>rfl
    have hal:=bQ a
    have hlE:=oO bd
    have hwl:wi.vs.length≤1099511627776:=by omega
    have hopR:∀(x y z u v:AV),ah 0 [x,y,z,u,v]→okO 5 (AO.row 5 [[x,y,z,u,v]]):=fun x y z u v hh=>bU (fun e he=>by rw[List.mem_singleton.1 he];exact hh)
    refine aR (fun j:Nat=>am 96 [(0,.ptr 0 5 0 0),(1,.p (smL l)),(2,.p (.int .i64 b)),(7,.sl 2 5 0 i),(8,.p (.int .i64 w.vs.length)),(9,.p (.int .i64 i)),(10,.ptr 4 5 0 0),(11,.sl 5 4 0 j),(12,.p (.int .i64 j))])
     (fun j=>[wO 3 nf fns k ⟨wi.vs,wi.count,cY fns k wi.vs (a.take j) wi.code⟩,.dead,.row 5 (smR out),roC nf wi.vs,.row 5 [[.p (.int .i64 o),.p (.str nme),.p (exL a),.p (smL bd),.p (smL el)]],.row 4 (exR (gX wi.vs (a.take j)))])
     (fun j=>j≤a.length) (fun j=>a.length-j) 0 (by simp) ?_ ?_
    ·refine ab (h:=[wO 3 nf fns k wi,.dead,.row 5 (smR out),roC nf wi.vs,.row 5 [[.p (.int .i64 o),.p (.str nme),.p (exL a),.p (smL bd),.p (smL el)]],.row 4 []]) (by simp) (af (oX (by simp)) (af trivial (af (bU (dc out)) (af (eA _ _ _) (by simp[okO,below]))))) (by simp[below,hsl])
    intro j hj
    have hrl:(exR (gX wi.vs (a.take j))).length=j:=by rw[wT,nn];simp;omega
    simp-implicitDefEqProofs[hxl]
    refine bc (fun hc=>?_) (fun hc=>?_)
    ·simp at hc
     have hga:=List.getElem?_eq_getElem hc
     have hks:=cf (List.getElem_mem hc)
     have hkc:=(rnE wi.vs a[j]).cs_eq
     simp-implicitDefEqProofs[hga]
     refine(DV G (id:=3) (BW G hf (a[j].sz) a[j] (Nat.le_refl _) (by omega) nf ⟨wi.vs,wi.count,cY fns k wi.vs (a.take j) wi.code⟩ hn hwl) (by simp) (by simp[below]) (by decide) rfl rfl).mono ?_
     rintro r h' ⟨rfl,rfl⟩
     rw[show(rnE (WS.mk wi.vs wi.count (cY fns k wi.vs (a.take j) wi.code)).vs a[j])=rnE wi.vs a[j] from rfl]
     simp-implicitDefEqProofs[aa,hkc,hrl]
     refine⟨by omega,j+1,by omega,by omega,?_⟩
     have htk:List.take j (exR (gX wi.vs (a.take j)))=exR (gX wi.vs (a.take j)):=List.take_of_length_le (by omega)
     rw[rf hc,sA hc,xJ,htk]
     refine cJ [0,1,2,3,4,7] (by simp) (by decide) (by decide) (qy (by simp) rfl (bA (by simp) (be rfl (dc out) (bn rfl (eA _ _ _) (be rfl (by simp[below]) (be ?_ ?_ bm)))))) (by simp[below,ren,hsl,w1 (i:=j) (by omega)])
     ·have:exR [rnE wi.vs a[j]]=[[.p (.int .i64 (rnE wi.vs a[j]).op),.p (.int .i64 (rnE wi.vs a[j]).n),.p (.str (rnE wi.vs a[j]).name),.p (exL (rnE wi.vs a[j]).kids)]]:=by rw[exR,List.map_singleton,hkc];rfl
      rw[this];rfl
     ·intro x hx
      rcases List.mem_append.1 hx with h|h
      ·exact cX _ x h
      ·exact cX _ x h
    simp at hc
    have hje:j=a.length:=by omega
    subst hje
    rw[List.take_length] at hrl⊢
    have hal2:=nn wi.vs a
    simp-implicitDefEqProofs[]
    generalize hw1:WS.mk wi.vs wi.count (cY fns k wi.vs a wi.code)=w1
    have e1v:w1.vs=wi.vs:=by rw[←hw1]
    have e1c:w1.count=wi.count:=by rw[←hw1]
    have e1l:w1.vs.length=wi.vs.length:=by rw[e1v]
    rw[←e1v]
    refine iu (am 96 [(0,.ptr 0 5 0 0),(1,.p (smL l)),(2,.p (.int .i64 b)),(7,.sl 2 5 0 i),(8,.p (.int .i64 w.vs.length)),(9,.p (.int .i64 i)),(10,.ptr 4 5 0 0)])
     [wO 3 nf fns k w1,.dead,.row 5 (smR out),roC nf w1.vs,.row 5 [[.p (.int .i64 o),.p (.str nme),.p (exL (gX w1.vs a)),.p (smL bd),.p (smL el)]]] ?_ ?_
    ·simp-implicitDefEqProofs[]
     refine gE 5 (by omega) (by simp) rfl (.same (oX (by omega)) (.dead (.same (bU (dc out)) (.same (eA _ _ _) (.one (.keep (by simp[below]) (.keep (by simp[below]) (.one ?_ (.keep (by simp[below]) (.keep (by simp[below]) .nil))))) (.nil _)))))) ?_
     ·rw[←e1v] at hal2
      rw[←hal2]
      exact vj rfl
     ·refine⟨.keep (by simp[below]) .nil,.keep (by simp[below]) .nil,.keep (by simp[below]) .nil,.keep (by simp[below]) .nil,.keep (by simp[below]) .nil,.keep (by simp[below]) .nil,.keep (by simp[below]) .nil,trivial⟩
    have TT:∀(r1:List (Nat × AV)),Aw.look r1 0= .ptr 0 5 0 0→Aw.look r1 1= .p (smL l)→Aw.look r1 2= .p (.int .i64 b)→Aw.look r1 7= .sl 2 5 0 i→Aw.look r1 8= .p (.int .i64 w.vs.length)→Aw.look r1 9= .p (.int .i64 i)→Aw.look r1 10= .ptr 4 5 0 0→∀ρ:List Nat,ρ.length=5→ρ.getD 0 0=0→ρ.getD 2 0=2→ρ.getD 4 0=4→
     TWA ρ r1 [(0,.ptr 0 5 0 0),(1,.p (smL l)),(2,.p (.int .i64 b)),(7,.sl 2 5 0 i),(8,.p (.int .i64 w.vs.length)),(9,.p (.int .i64 i)),(10,.ptr 4 5 0 0)]:=by
     intro r1 a0 a1 a2 a7 a8 a9 a10 ρ hr r0 r2 r4
     simp[below,ren,hr,a0,a1,a2,a7,a8,a9,a10]
     rw[List.getD_eq_getElem?_getD,List.getElem?_eq_getElem (by omega)] at r0 r2 r4
     exact⟨r0,r2,r4⟩
    have hn1:nf=true→w1.vs=[]:=fun h=>by rw[e1v];exact hn h
    have okB:∀(nf:Bool) (w:WS) (r:AO),okO 0 r→∀x∈[wO 3 nf fns k w,.dead,.row 5 (smR out),roC nf w.vs,r],okO 5 x:=fun nf w r hr=>
     af (oX (by omega)) (af trivial (af (bU (dc out)) (af (eA _ _ _) (af (bU hr) cy))))
    refine iu (am 96 [(0,.ptr 0 5 0 0),(1,.p (smL l)),(2,.p (.int .i64 b)),(7,.sl 2 5 0 i),(8,.p (.int .i64 w.vs.length)),(9,.p (.int .i64 i)),(10,.ptr 4 5 0 0)])
     [wO 3 (if o=1 then false else nf) fns k (if o=1 then jg w1 nme b else w1),.dead,.row 5 (smR out),roC (if o=1 then false else nf) (if o=1 then jg w1 nme b else w1).vs,.row 5 [[.p (.int .i64 o),.p (.str (if o=1 then vnm w1.count else nme)),.p (exL (gX w1.vs a)),.p (smL bd),.p (smL el)]]] ?_ ?_
    ·by_cases o1:o=1
     ·simp-implicitDefEqProofs[o1]
      refine(By G (id:=3) (Q:=fun nf' w'=>nf'=false∧w'=jg w1 nme b) ((zC G nf fns k w1 hn1 (by omega) (by omega) nme b).mono (by rintro x h ⟨rfl,rfl⟩;exact⟨false,_,rfl,rfl,rfl,rfl⟩)) (by simp) (by simp[below]) (by decide) rfl rfl).mono ?_
      rintro r h' ⟨nf',w',rfl,rfl,rfl,rfl⟩
      simp-implicitDefEqProofs[aa]
      refine cJ [0,1,2,5,4] (by simp) (by decide) (by decide) (qy (by simp) rfl (bA (by simp) (be rfl (dc out) (bn rfl (eA _ _ _) (be rfl (by simp[below]) bm))))) (TT _ (by simp) (by simp) (by simp) (by simp) (by simp) (by simp) (by simp) _ rfl rfl rfl rfl)
     ·simp-implicitDefEqProofs[o1]
      refine ab (by simp) (okB nf w1 _ (by simp[okO,below])) (by simp[below])
    generalize hw2:(if o=1 then jg w1 nme b else w1)=w2
    generalize hnf2:(if o=1 then false else nf)=nf2
    generalize hnm2:(if o=1 then vnm w1.count else nme)=nm2
    have hn2:nf2=true→w2.vs=[]:=by
     intro h
     by_cases o1:o=1
     ·rw[if_pos o1] at hnf2;rw[←hnf2] at h;cases h
     ·rw[if_neg o1] at hnf2 hw2;rw[←hw2];exact hn1 (by rw[hnf2];exact h)
    have h2c:w2.count=w1.count+if o=1 then 1 else 0:=by rw[←hw2];split<;>rfl
    have h2v:w2.vs.length≤w2.count:=by
     rw[←hw2];split
     ·simp[jg];omega
     ·omega
    have h2b:w2.count≤wi.count+1:=by rw[h2c,e1c];split<;>omega
    refine iu (am 96 [(0,.ptr 0 5 0 0),(1,.p (smL l)),(2,.p (.int .i64 b)),(7,.sl 2 5 0 i),(8,.p (.int .i64 w.vs.length)),(9,.p (.int .i64 i)),(10,.ptr 4 5 0 0)])
     [wO 3 nf2 fns k (opW o nme b w1),.dead,.row 5 (smR out),roC nf2 (opW o nme b w1).vs,.row 5 [[.p (.int .i64 o),.p (.str (opN o nme w1)),.p (exL (gX w1.vs a)),.p (smL bd),.p (smL el)]]] ?_ ?_
    ·by_cases o2:o=2
     ·have o1:¬o=1:=by omega
      rw[if_neg o1] at hw2 hnm2
      subst hw2;subst hnm2
      have eo:opW o nme b w1=⟨w1.vs,w1.count,pE w1.vs nme w1.code⟩:=by rw[opW,if_neg o1,if_pos o2]
      have en:opN o nme w1=ra w1.vs nme:=by rw[opN,if_neg o1,if_pos o2]
      rw[eo,en]
      simp-implicitDefEqProofs[o2]
      refine(DV G (id:=3) (zj G nf2 fns k w1 hn2 (by omega) nme) (by simp) (by simp[below]) (by decide) rfl rfl).mono ?_
      rintro r h' ⟨rfl,rfl⟩
      simp-implicitDefEqProofs[aa]
      refine ab (h:=[wO 3 nf2 fns k ⟨w1.vs,w1.count,pE w1.vs nme w1.code⟩,.dead,.row 5 (smR out),roC nf2 w1.vs,_]) (by simp) (okB nf2 ⟨w1.vs,w1.count,pE w1.vs nme w1.code⟩ _ (by simp[okO,below])) (by simp[below])
     ·have eo:opW o nme b w1=w2:=by rw[opW,if_neg o2,←hw2]
      have en:opN o nme w1=nm2:=by rw[opN,if_neg o2,←hnm2]
      rw[eo,en]
      simp-implicitDefEqProofs[o2]
      refine ab (by simp) (okB nf2 w2 _ (by simp[okO,below])) (by simp[below])
    have eov:(opW o nme b w1).vs=w2.vs:=by
     rw[opW,←hw2];split
     ·rfl
     ·split<;>rfl
    have eoc:(opW o nme b w1).count=w2.count:=by rw[oH,h2c]
    have hwb:IntKind.i64.wrap ((b:Int)+1)=((b+1:Nat):Int):=by rw[ag (by omega) (by omega)];omega
    have hstw:stW fns k b (.mk o nme a bd el) wi=ml fns k (b+1) el (ml fns k (b+1) bd (opW o nme b w1)):=by
     rw[stW]
     simp only[hw1,ml,Nat.succ_pos,if_true]
     rfl
    have hrns:(rnS fns k b (.mk o nme a bd el) wi).cs=[.int .i64 o,.str (opN o nme w1),exL (gX w1.vs a),smL (fp fns k (b+1) bd (opW o nme b w1)),smL (fp fns k (b+1) el (ml fns k (b+1) bd (opW o nme b w1)))]:=by
     rw[rnS,Sm.cs_eq]
     simp only[hw1,ml,Nat.succ_pos,if_true,Sm.op,Sm.name,Sm.args,Sm.body,Sm.els,e1v]
     have:opN o nme wi=opN o nme w1:=by simp only[opN,e1v,e1c]
     rw[this]
    rw[hstw] at eW
    clear hstw
    generalize opW o nme b w1=w3 at eov eoc hrns eW⊢
    have hn3:nf2=true→w3.vs=[]:=fun h=>by rw[eov];exact hn2 h
    have h3v:w3.vs.length≤w3.count:=by rw[eov,eoc];exact h2v
    simp-implicitDefEqProofs[hwb]
    refine(By G (id:=3) (ih bd (by omega) (b+1) nf2 w3 hn3 h3v (by omega) (by omega)) (by simp) (by simp[below]) (by decide) rfl rfl).mono ?_
    rintro r h' ⟨nf4,w4,rfl,rfl,hn4,hw4⟩
    rw[←hw4] at hrns eW
    have h4c:w4.count=w3.count+dv bd:=by rw[hw4];exact wd _ _ _ _ _
    have h4v:w4.vs.length≤w4.count:=by
     have:w4.vs=w3.vs:=by rw[hw4];simp[ml,WS.back]
     rw[this,h4c];omega
    simp-implicitDefEqProofs[aa,hwb]
    refine(By G (id:=5) (ih el (by omega) (b+1) nf4 w4 hn4 h4v (by omega) (by omega)) (by simp) (by simp[below]) (by decide) rfl rfl).mono ?_
    rintro r h' ⟨nf5,w5,rfl,rfl,hn5,hw5⟩
    rw[←hw5] at eW
    have hsl2:(smR out).length=i:=by rw[ep];exact hol
    simp-implicitDefEqProofs[aa,hsl2]
    refine⟨⟨by omega,by omega⟩,⟨i+1,nf5⟩,⟨by simp only;omega,fun h=>by simp only at h⊢;rw[eW];exact hn5 h⟩,by simp only;omega,?_⟩
    simp only
    rw[eW,eR,tw]
    have htk:List.take i (smR out)=smR out:=List.take_of_length_le (by omega)
    rw[htk]
    have hsm1:smR [rnS fns k b (.mk o nme a bd el) wi]=[[.p (.int .i64 o),.p (.str (opN o nme w1)),.p (exL (gX w1.vs a)),.p (smL (fp fns k (b+1) bd w3)),.p (smL (fp fns k (b+1) el w4))]]:=by rw[smR,List.map_singleton,hrns];rfl
    rw[hsm1]
    refine cJ [0,1,8,6] (by simp) (by decide) (by decide) (qy (by simp) rfl (bA (by simp) (be rfl (fun x hx=>?_) (bn rfl (eA _ _ _) bm)))) (by simp[below,ren,hsl,show IntKind.i64.wrap ((i:Int)+1)=((i:Int)+1) from ag (by omega) (by omega)])
    rcases List.mem_append.1 hx with h|h
    ·exact dc out x h
    ·rw[List.mem_singleton.1 h];simp
   ·simp at h
    have hie:i=l.length:=by omega
    subst hie
    rw[List.take_length] at hn⊢
    obtain⟨ext,hext⟩:=vD fns k l b w
    have hlen:=qV fns k b l w
    refine iu (am 96 [(7,.p (smL (fp fns k b l w)))]) [wO 2 nf fns k (ml fns k b l w),.dead,roC nf (ml fns k b l w).vs] ?_ ?_
    ·have fin:∀(r1:List (Nat × AV)) (w':WS),w'.vs=w.vs∨w'.vs=(cw fns k b l w).vs→(Aw.look r1 7= .sl 2 5 0 l.length)→
      Wk 2 (am 96 r1) [wO 3 nf fns k w',.dead,.row 5 (smR (fp fns k b l w)),roC nf (cw fns k b l w).vs] (am 96 [(7,.p (smL (fp fns k b l w)))]) [wO 2 nf fns k w',.dead,roC nf w'.vs]:=by
      intro r1 w' hv' hr
      refine Wk.trans (xK (h1:=[wO 3 nf fns k w',.dead,.row 5 (smR (fp fns k b l w)),roC nf w'.vs]) ?_) (Wk.trans (cJ (l1:=[(7,.sl 3 5 0 l.length)]) (h1:=[wO 2 nf fns k w',.dead,roC nf w'.vs,.row 5 (smR (fp fns k b l w))]) [0,1,3,2] (by simp) (by decide) (by decide) (qy (by simp) rfl (bA (by simp) (bn rfl (eA _ _ _) (be rfl (dc _) bm)))) (by simp[below,ren,hr]))
       (gE 3 (by omega) (by simp) rfl (.same (oX (by omega)) (.dead (.same (eA _ _ _) (.nil _)))) ?_))
      ·refine⟨.inl rfl,.inl rfl,.inl rfl,?_,trivial⟩
       rcases hv' with e|e
       ·cases nf with
        |true=>exact .inl rfl
        |false=>
         refine .inr ⟨3,lvR (cw fns k b l w).vs,w.vs.length,rfl,?_⟩
         rw[hext,Bu,e];rfl
       ·rw[e];exact .inl rfl
      ·rw[←hlen]
       exact⟨.one (ic rfl) .nil,trivial⟩
     by_cases hb0:0<b
     ·have hwe:ml fns k b l w=(cw fns k b l w).back w.vs:=if_pos hb0
      rw[hwe]
      have hll2:(cw fns k b l w).vs.length=ext.length+w.vs.length:=by rw[hext,List.length_append]
      cases nf with
      |true=>
       have h0:=hn rfl
       rw[h0] at hext
       have h00:w.vs=[]:=(List.append_eq_nil_iff.1 hext.symm).2
       simp-implicitDefEqProofs[hb0,wO,wC,vaC,h00]
       rw[h00] at fin
       exact fin _ ⟨[],(cw fns k b l w).count,(cw fns k b l w).code⟩ (.inl rfl) (by simp)
      |false=>
       have hle:w.vs.length≤(cw fns k b l w).vs.length:=by omega
       simp-implicitDefEqProofs[hb0,wO,wC,vaC,hle]
       exact fin _ ⟨w.vs,(cw fns k b l w).count,(cw fns k b l w).code⟩ (.inl rfl) (by simp)
     ·have hwe:ml fns k b l w=cw fns k b l w:=if_neg hb0
      have hb0':b=0:=by omega
      subst hb0'
      rw[hwe]
      simp-implicitDefEqProofs[]
      exact fin _ _ (.inr rfl) (by simp)
    ·simp-implicitDefEqProofs[]
     refine⟨nf,_,rfl,rfl,?_,rfl⟩
     intro hnf
     have h0:=hn hnf
     unfold ml
     split
     ·rw[h0] at hext;exact(List.append_eq_nil_iff.1 hext.symm).2
     ·exact h0
end Go.Proofs.YtiojgfhdcpppcaaDoor
namespace Go.Proofs.YtiojgfhdcpppcaaDoor
open Go Go.Aw
set_option maxRecDepth 100000
set_option maxHeartbeats 4000000
def K_spec_l4Fn:AK:= .seq (.reg [oJ 2 (.box 1 (.t 0)),oJ 4 (.alloc [(.p (.str [])),.nils,.nils]),oK 5 0,oK 6 0]) (.seq (.reg [oJ 11 (.ld (some 1) (.t 2)),oM 12 1,oJ 13 (.bld [.nils,(.p (.int .i64 0)),.nils,(.p (.int .i64 0)),(.p (.int .i64 0))] [(0,1,(.t 11)),(1,1,(.t 12))]),oJ 14 (.box 5 (.t 13)),oM 7 14]) (.cut (.reg [oF 15 0 2,oL 16 15,oM 17 1,oJ 18 (.idxS 3 (.t 16) (.t 17)),oJ 19 (.ld (some 3) (.t 18)),oJ 8 (.alloc [(.p (.str [])),.nils,.nils]),⟨none,none,.st 3 (.t 8) (.t 19)⟩]) (.cut (.seq (.reg [oJ 20 (.ld (some 1) (.t 2)),oF 21 0 8,oL 22 21,oJ 23 (.call eG [(.t 20),(.t 22)]),oM 24 1,oJ 25 (.bin .neq (.t 23) (.t 24))]) (.cond (.t 25) (.reg [oM 26 7,oJ 27 (.call aJ [(.t 26),(.c (.p (.int .i64 2)))])]) (.skip))) (.seq (.reg [oJ 28 (.bsl 1 [(.p (.str []))] 0 []),oM 9 28]) (.seq (.seq (.reg [oK 10 0]) (.blk 0 (.loop (.seq (.seq (.reg [oM 29 10,oF 30 1 8,oL 31 30,oJ 32 (.len false (.t 31)),oJ 33 (.bin .lss (.t 29) (.t 32))]) (.cond (.t 33) (.skip) (.exit 0))) (.seq (.blk 1 (.reg [oM 36 9,oM 37 7,oF 38 1 8,oL 39 38,oM 40 10,oJ 41 (.idxS 1 (.t 39) (.t 40)),oL 42 41,oJ 43 (.call bK [(.t 37),(.t 42),(.c (.p (.int .i64 0)))]),oJ 44 (.bsl 1 [(.p (.str []))] 1 [(0,1,(.t 43))]),oJ 45 (.app 1 16 (.t 36) (.t 44)),oM 9 45])) (.reg [oM 34 10,oJ 35 (.bin .add (.t 34) (.c (.p (.int .i64 1)))),oM 10 35])))))) (.seq (.reg [oM 46 9,oF 47 1 8,oS 47 46]) (.seq (.reg [oM 48 7,oF 49 2 8,oL 50 49,oJ 51 (.call aV [(.t 48),(.t 50),(.c (.p (.int .i64 0)))]),oF 52 2 8,oS 52 51]) (.seq (.reg [oM 54 7,oN 55 54,oF 56 4 55,oM 58 7,oN 59 58,oF 60 3 59,oJ 53 (.ld (some 3) (.t 8)),oL 57 56,oL 61 60,⟨none,none,.st 3 (.t 4) (.t 53)⟩,⟨none,none,.chk none 56 57⟩,⟨none,none,.chk none 60 61⟩,oM 5 57,oM 6 61]) (.ret)))))))))
theorem uW:K_spec_l4Fn.whole=F_spec_l4Fn.ak:=rfl
theorem vu:∀(ps:List (List UInt8)) (w:WS),w.vs.length≤w.count→(co ps w).vs.length≤(co ps w).count
 |[],w,h=>h
 |s::r,w,h=>vu r (jg w s 0) (by simp[jg];omega)
theorem yO(a b:List (List UInt8))(w:WS):co (a++b) w=co b (co a w):=by simp[co]
theorem wB{l:List (List UInt8)}{w:WS}{i:Nat}(h:i<l.length):co (l.take (i+1)) w=jg (co (l.take i) w) l[i] 0:=by
 rw[au h,yO];rfl
theorem uy:∀(a b:List (List UInt8)) (w:WS),lA (a++b) w=lA a w++lA b (co a w)
 |[],b,w=>rfl
 |s::r,b,w=>by rw[List.cons_append,lA,lA,uy r];rfl
theorem yF{l:List (List UInt8)}{w:WS}{i:Nat}(h:i<l.length):lA (l.take (i+1)) w=lA (l.take i) w++[vnm (co (l.take i) w).count]:=by
 rw[au h,uy];rfl
theorem qC:∀(l:List (List UInt8)) (w:WS),(lA l w).length=l.length
 |[],w=>rfl
 |s::r,w=>by rw[lA,List.length_cons,qC r,List.length_cons]
def w0(fns:List Fd)(k:Nat)(f:Fd):WS:=⟨[],0,if dw fns f.name=some k then 0 else 2⟩
theorem Ds(fns:List Fd)(k:Nat)(f:Fd):fnW fns k f=cw fns k 0 f.body (co f.params (w0 fns k f)):=rfl
theorem vI(fns:List Fd)(k:Nat)(f:Fd):(rnF fns k f).cs=[.str f.name,ay (lA f.params (w0 fns k f)),smL (fp fns k 0 f.body (co f.params (w0 fns k f)))]:=rfl
variable (G:aG)
theorem Br{fns:List Fd}{k:Nat}{f:Fd}(hk:fns[k]?=some f)(hz:aN fns≤1073741824):VF Tryd.prog G gb [.agg [.p (fdL fns)],.p (.int .i64 k)] (.tup [.agg ((rnF fns k f).cs.map .p),.p (.int .i64 (fnW fns k f).code),.p (.int .i64 (fnW fns k f).count)]):=by
 have hfl:=ck fns
 have hfm:=dg (List.mem_of_getElem? hk)
 have hfz:f.sz=1+f.name.length+(f.params.length+(f.params.map List.length).sum)+aC f.body:=rfl
 have hkl:=(List.getElem?_eq_some_iff.1 hk).1
 have key:AC Tryd.prog G gb [.agg [.p (fdL fns)],.p (.int .i64 k)] [] fun x h=>x= .ret (.tup [.agg [.p (.str f.name),.sl 5 1 0 f.params.length,.p (smL (fp fns k 0 f.body (co f.params (w0 fns k f))))],.p (.int .i64 (fnW fns k f).code),.p (.int .i64 (fnW fns k f).count)])∧h[5]?=some (bx (lA f.params (w0 fns k f))):=by
  refine AC.goK uJ uW ?_
  have hfd:∀l,fdL l= .lst 3 (l.map Fd.cs):=fun _=>rfl
  have hcs:f.cs=[.str f.name,ay f.params,smL f.body]:=rfl
  have hst:ay f.params= .lst 1 (f.params.map fun w=>[.str w]):=rfl
  simp-implicitDefEqProofs[K_spec_l4Fn,F_spec_l4Fn]
  refine iu (am 62 [(1,.p (.int .i64 k)),(2,.ptr 0 1 0 0),(4,.ptr 1 3 0 0),(7,.ptr 2 5 0 0),(8,.ptr 3 3 0 0)])
   [.row 1 [[.p (fdL fns)]],.row 3 [[.p (.str []),.nils,.nils]],wO 4 true fns k ⟨[],0,0⟩,.row 3 [[.p (.str f.name),.p (ay f.params),.p (smL f.body)]],.dead] ?_ ?_
  ·simp-implicitDefEqProofs[hfd,hk,hcs]
   refine mY (h:=[.row 1 [[.p (fdL fns)]],.row 3 [[.p (.str []),.nils,.nils]],wO 4 true fns k ⟨[],0,0⟩,.row 3 [[.p (.str f.name),.p (ay f.params),.p (smL f.body)]]]) (by simp) (by simp) ?_ (by simp[below])
   refine af (by simp[okO,below]) (af (by simp[okO,below]) (af ?_ (af (by simp[okO,below]) cy)))
   intro x hx
   rw[List.mem_singleton.1 hx];simp[wC,vaC,below]
  refine iu (am 62 [(1,.p (.int .i64 k)),(2,.ptr 0 1 0 0),(4,.ptr 1 3 0 0),(7,.ptr 2 5 0 0),(8,.ptr 3 3 0 0)])
   [.row 1 [[.p (fdL fns)]],.row 3 [[.p (.str []),.nils,.nils]],wO 4 true fns k (w0 fns k f),.row 3 [[.p (.str f.name),.p (ay f.params),.p (smL f.body)]],.dead] ?_ ?_
  ·simp-implicitDefEqProofs[]
   refine(zq G fns f.name (by omega)).use ?_
   have hok:∀w:WS,∀o∈[AO.row 1 [[.p (fdL fns)]],.row 3 [[.p (.str []),.nils,.nils]],wO 4 true fns k w,.row 3 [[.p (.str f.name),.p (ay f.params),.p (smL f.body)]],.dead],okO 5 o:=fun w=>
    af (by simp[okO,below]) (af (by simp[okO,below]) (af (oX (by simp)) (af (by simp[okO,below]) (af trivial cy))))
   by_cases he:dw fns f.name=some k
   ·have hw:w0 fns k f=⟨[],0,0⟩:=by rw[w0,if_pos he]
    rw[hw,he]
    simp-implicitDefEqProofs[ixI]
    exact ab (by simp) (hok _) (by simp[below])
   ·have hw:w0 fns k f=⟨[],0,2⟩:=by rw[w0,if_neg he]
    have hne:¬ixI (dw fns f.name)=(k:Int):=by
     intro h
     apply he
     cases e:dw fns f.name with
     |none=>rw[e] at h;simp only[ixI] at h;omega
     |some j=>rw[e] at h;simp only[ixI] at h;have:j=k:=by omega
              rw[this]
    rw[hw]
    simp-implicitDefEqProofs[hne]
    refine(DV G (wid:=2) (id:=4) (kW G true fns k ⟨[],0,0⟩ 2) (by simp) (by simp[below]) (by decide) rfl rfl).mono ?_
    rintro r h' ⟨rfl,rfl⟩
    simp-implicitDefEqProofs[aa]
    exact ab (h:=[AO.row 1 [[.p (fdL fns)]],.row 3 [[.p (.str []),.nils,.nils]],wO 4 true fns k ⟨[],0,2⟩,.row 3 [[.p (.str f.name),.p (ay f.params),.p (smL f.body)]],.dead]) (by simp) (hok _) (by simp[below])
  rw[Ds]
  have hw0v:(w0 fns k f).vs=[]:=rfl
  have hw0c:(w0 fns k f).count=0:=rfl
  generalize w0 fns k f=w0 at hw0v hw0c⊢
  simp-implicitDefEqProofs[]
  have hcnt:∀j,j≤f.params.length→(co (f.params.take j) w0).count=j:=fun j hj=>by rw[kb,hw0c];simp;omega
  have hvl:∀j,(co (f.params.take j) w0).vs.length≤(co (f.params.take j) w0).count:=fun j=>vu _ _ (by rw[hw0v];simp)
  refine aR (fun j:Nat=>am 62 [(1,.p (.int .i64 k)),(2,.ptr 0 1 0 0),(4,.ptr 1 3 0 0),(7,.ptr 2 5 0 0),(8,.ptr 3 3 0 0),(9,.sl 5 1 0 j),(10,.p (.int .i64 j))])
   (fun j=>[.row 1 [[.p (fdL fns)]],.row 3 [[.p (.str []),.nils,.nils]],wO 6 (decide (j=0)) fns k (co (f.params.take j) w0),.row 3 [[.p (.str f.name),.p (ay f.params),.p (smL f.body)]],.dead,bx (lA (f.params.take j) w0),roC (decide (j=0)) (co (f.params.take j) w0).vs])
   (fun j=>j≤f.params.length) (fun j=>f.params.length-j) 0 (by simp) ?_ ?_
  ·refine mY (h:=[.row 1 [[.p (fdL fns)]],.row 3 [[.p (.str []),.nils,.nils]],wO 6 true fns k w0,.row 3 [[.p (.str f.name),.p (ay f.params),.p (smL f.body)]],.dead,.row 1 []]) (by simp) (by simp) ?_ (by simp[below])
   refine af (by simp[okO,below]) (af (by simp[okO,below]) (af ?_ (af (by simp[okO,below]) (af trivial (af (by simp[okO]) cy)))))
   intro x hx
   rw[List.mem_singleton.1 hx];simp[wC,vaC,below]
  intro j hj
  have hjc:=hcnt j hj
  have hjv:=hvl j
  have hol:=qC (f.params.take j) w0
  rw[List.length_take,Nat.min_eq_left hj] at hol
  have hnf:decide (j=0)=true→(co (f.params.take j) w0).vs=[]:=by
   intro h
   have h0:j=0:=by simpa using h
   rw[h0,List.take_zero]
   exact hw0v
  simp-implicitDefEqProofs[hst]
  refine bc (fun h=>?_) (fun h=>?_)
  ·simp at h
   have hg:=List.getElem?_eq_getElem h
   have eP:=wB (w:=w0) h
   have eR:=yF (w:=w0) h
   simp-implicitDefEqProofs[hg]
   refine(By G (wid:=2) (id:=6) (Q:=fun nf' w'=>nf'=false∧w'=jg (co (f.params.take j) w0) f.params[j] 0) ((zC G (decide (j=0)) fns k _ hnf (by omega) (by omega) f.params[j] 0).mono (by rintro x h ⟨rfl,rfl⟩;exact⟨false,_,rfl,rfl,rfl,rfl⟩)) (by simp) (by simp[below]) (by decide) rfl rfl).mono ?_
   rintro r h' ⟨nf',w',rfl,rfl,rfl,rfl⟩
   have hso:∀l,bx l= .row 1 (l.map fun n=>[.p (.str n)]):=fun _=>rfl
   simp-implicitDefEqProofs[aa,hso,hol]
   refine⟨by omega,j+1,by omega,by omega,?_⟩
   have htk:List.take j ((lA (f.params.take j) w0).map fun n=>[AV.p (.str n)])=(lA (f.params.take j) w0).map fun n=>[AV.p (.str n)]:=List.take_of_length_le (by rw[List.length_map];omega)
   have hd:decide (j+1=0)=false:=by simp
   rw[eP,eR,hd,List.map_append,←List.map_take,List.map_take,htk]
   refine uN [0,1,2,3,4,9,7] rfl (by decide) (be rfl (by simp) (be rfl (by simp[below]) (qy (by simp) rfl (be rfl (by simp) (bA (by simp) (be rfl (fun x hx=>?_) (bn rfl (eA _ _ _) bm))))))) (by simp[below,ren,w1 (i:=j) (by omega)])
   rcases List.mem_append.1 hx with h|h
   ·exact bk _ x h
   ·exact bk _ x h
  ·simp at h
   have hje:j=f.params.length:=by omega
   subst hje
   rw[List.take_length] at hol hjc hjv hnf⊢
   generalize decide (f.params.length=0)=nf at hnf⊢
   simp-implicitDefEqProofs[]
   refine(By G (wid:=2) (id:=6) (zs G (fns:=fns) (by omega) (aC f.body+1) f.body (by omega) 0 _ (co f.params w0) hnf hjv (by omega) (by omega)) (by simp) (by simp[below]) (by decide) rfl rfl).mono ?_
   rintro r h' ⟨nf',w',rfl,rfl,hn',hw'⟩
   have hb:ml fns k 0 f.body (co f.params w0)=cw fns k 0 f.body (co f.params w0):=rfl
   rw[hb] at hw'
   rw[←hw']
   simp-implicitDefEqProofs[aa,wO,wC]
 refine key.freezeR (fun t v h ⟨e,_⟩=>by cases e) fun v h ⟨e1,e2⟩=>?_
 cases e1
 rw[vI]
 have hol:=qC f.params (w0 fns k f)
 have hv:=dk e2
 rw[hol] at hv
 exact .tup (.agg (.keep (by simp) (.one hv (.keep (by simp) .nil))) (.keep (by simp) (.keep (by simp) .nil))) .nil
theorem uj{fns:List Fd}{i:Nat}(h:i<fns.length):jc fns i (fns.drop i)=if(fnW fns i fns[i]).code=0 then jc fns (i+1) (fns.drop (i+1)) else(fnW fns i fns[i]).code:=by
 rw[List.drop_eq_getElem_cons h,jc]
theorem rp(l:List Fd)(hz:aN l≤1073741824):VF Tryd.prog G dS [.agg [.p (fdL l)]] (.p (.int .i64 (cD l))):=by
 refine AC.go lg ?_
 have hll:=ck l
 have hfd:∀l,fdL l= .lst 3 (l.map Fd.cs):=fun _=>rfl
 simp-implicitDefEqProofs[gy]
 refine(gY G l (by omega)).use ?_
 by_cases hv:br l=true
 case neg=>
  have:cD l=1:=if_neg hv
  have hv':br l=false:=by simpa using hv
  simp-implicitDefEqProofs[hv',this]
 have hc:cD l=jc l 0 (l.drop 0):=if_pos hv
 rw[hc]
 simp-implicitDefEqProofs[hv]
 refine aR (fun i:Nat=>am 27 [(1,.ptr 0 1 0 0),(3,.p (.int .i64 i))]) (fun _=>[.row 1 [[.p (fdL l)]]]) (fun i=>i≤l.length∧jc l 0 l=jc l i (l.drop i)) (fun i=>l.length-i) 0 (by simp) (ab (by simp) (by simp[okO]) (by simp[below])) ?_
 rintro i ⟨hi,he⟩
 simp-implicitDefEqProofs[hfd]
 refine bc (fun h=>?_) (fun h=>?_)
 ·simp at h
  have hg:=List.getElem?_eq_getElem h
  have hd:=uj h
  simp-implicitDefEqProofs[]
  refine(Br G hg hz).use ?_
  have hrc:=vI l i l[i]
  by_cases h0:(fnW l i l[i]).code=0
  ·rw[if_pos h0] at hd
   simp-implicitDefEqProofs[h0,hrc]
   refine⟨i+1,⟨by omega,by rw[he,hd]⟩,by omega,?_⟩
   refine eM (m:=1) (by omega) (cR rfl rfl (by simp[okO,below])) (by simp[below,hfd,w1 (i:=i) (by omega)])
  ·rw[if_neg h0] at hd
   simp-implicitDefEqProofs[h0,hrc]
   rw[he,hd]
 ·simp at h
  have hie:i=l.length:=by omega
  subst hie
  rw[List.drop_length] at he
  simp-implicitDefEqProofs[]
  rw[he];rfl
end Go.Proofs.YtiojgfhdcpppcaaDoor
namespace Go.Proofs.YtiojgfhdcpppcaaDoor
open Go Go.Aw
set_option maxRecDepth 100000
set_option maxHeartbeats 4000000
variable (G:aG)
theorem jl(n lo hi:Int):VF Tryd.prog G bX [.p (.int .i64 n),.p (.int .i64 lo),.p (.int .i64 hi)] (.p (.bool (inR n lo hi))):=by
 refine AC.go rU ?_
 by_cases h:lo≤n
 ·simp-implicitDefEqProofs[iX,h,inR]
 ·simp-implicitDefEqProofs[iX,h,inR]
theorem zH(n:Int):VF Tryd.prog G fL [.p (.int .i64 n)] (.p (.bool (inR n 0 255))):=by
 refine AC.go rD ?_
 simp-implicitDefEqProofs[lH]
 refine(jl G _ _ _).use ?_
 simp-implicitDefEqProofs[]
theorem wE(n:Int):VF Tryd.prog G cx [.p (.int .i32 n)] (.p (.bool (decide (n<97)||decide (122<n)))):=by
 refine AC.go py ?_
 simp-implicitDefEqProofs[jM]
 by_cases h:n<97
 ·simp-implicitDefEqProofs[h]
 ·simp-implicitDefEqProofs[h]
theorem CR{s:List UInt8}{i:Nat}(h:i<s.length)(hl:cU s[i]=true):Utf8.decode ⟨⟨s⟩⟩ i=(s[i].toNat,1):=by
 simp only[cU,Bool.and_eq_true,decide_eq_true_eq] at hl
 exact decode_ascii ⟨⟨s⟩⟩ i h (by show(s[i]).toNat<128;omega)
theorem yb{s:List UInt8}{i:Nat}(h:i<s.length)(hl:¬cU s[i]=true):(((Utf8.decode ⟨⟨s⟩⟩ i).1:Int)<97∨122<((Utf8.decode ⟨⟨s⟩⟩ i).1:Int)):=by
 rcases Nat.lt_or_ge s[i].toNat 128 with h1|h1
 ·rw[show Utf8.decode ⟨⟨s⟩⟩ i=(s[i].toNat,1) from decode_ascii ⟨⟨s⟩⟩ i h h1]
  simp[cU] at hl
  simp only
  omega
 ·have:=(decode_high ⟨⟨s⟩⟩ i h h1).1
  omega
theorem uZ(s:List UInt8)(hb:s.length≤140737488355328):VF Tryd.prog G dL [.p (.str s),.fn (.func cx) [],.p (.bool true)] (.p (.int .i64 (sM s))):=by
 refine AC.go lc ?_
 simp-implicitDefEqProofs[gA]
 refine aR (fun i:Nat=>am 21 [(0,.p (.str s)),(1,.fn (.func cx) []),(2,.p (.bool true)),(10,.it 0)]) (fun i=>[.sit s i]) (fun i=>i≤s.length∧∀x∈s.take i,cU x=true) (fun i=>s.length-i) 0 (by simp) ?_ ?_
 ·exact ab (by simp) (by simp[okO]) (by simp[below,ah])
 ·intro i ⟨hi,hn⟩
  simp-implicitDefEqProofs[]
  by_cases h1:i<s.length
  ·have hg:=List.getElem?_eq_getElem h1
   simp-implicitDefEqProofs[h1]
   refine(wE G _).use ?_
   by_cases hl:cU s[i]=true
   ·have hd:=CR h1 hl
    have hl':=hl
    simp only[cU,Bool.and_eq_true,decide_eq_true_eq] at hl'
    have e1:¬((s[i].toNat:Int)<97):=by omega
    have e2:¬(122<(s[i].toNat:Int)):=by omega
    rw[hd]
    simp-implicitDefEqProofs[e1,e2]
    refine⟨i+1,⟨h1,fun p hp=>?_⟩,by omega,ab (by simp) (by simp[okO]) (by simp[below,ah])⟩
    rw[au h1] at hp
    rcases List.mem_append.1 hp with hp|hp
    ·exact hn p hp
    ·rw[List.mem_singleton.1 hp];exact hl
   ·have hd:=yb h1 hl
    have hf:sM s=i:=by
     have:s.findIdx? (fun x=> !cU x)=some i:=by
      rw[List.findIdx?_eq_some_iff_getElem]
      exact⟨h1,by simpa using hl,fun j hj=>by have:=hn s[j] (List.mem_take_iff_getElem.2 ⟨j,by omega,rfl⟩);simpa using this⟩
     rw[sM,this]
    have hdb:(decide (((Utf8.decode ⟨⟨s⟩⟩ i).1:Int)<97)||decide (122<((Utf8.decode ⟨⟨s⟩⟩ i).1:Int)))=true:=by
     rcases hd with h|h<;>simp[h]
    rw[hdb]
    simp-implicitDefEqProofs[hf]
  ·have hn':=hn
   rw[List.take_of_length_le (by omega)] at hn'
   have hf:sM s= -1:=by
    have:s.findIdx? (fun x=> !cU x)=none:=by
     rw[List.findIdx?_eq_none_iff];intro x hx;simpa using hn' x hx
    rw[sM,this]
   simp-implicitDefEqProofs[h1,hf]
theorem tS(s:List UInt8)(hb:s.length≤140737488355328):VF Tryd.prog G dQ [.p (.str s),.fn (.func cx) []] (.p (.int .i64 (sM s))):=by
 refine AC.go lq ?_
 simp-implicitDefEqProofs[gC]
 refine(uZ G s hb).use ?_
 simp-implicitDefEqProofs[]
theorem CP(L:List (List UInt8))(s:List UInt8)(hb:L.length≤1048576):VF Tryd.prog G dp [.p (ay L),.p (.str s)] (.p (.int .i64 (idxS L s))):=by
 refine AC.go jT ?_
 have hsl:ay L= .lst 1 (L.map fun w=>[.str w]):=rfl
 simp-implicitDefEqProofs[fu,hsl]
 refine aR (fun i:Nat=>am 19 [(0,.p (ay L)),(1,.p (.str s)),(6,.p (ay L)),(7,.p (.int .i64 L.length)),(8,.p (.int .i64 i))]) (fun _=>[]) (fun i=>i≤L.length∧∀w∈L.take i,w≠s) (fun i=>L.length-i) 0 (by simp) ?_ ?_
 ·exact cW rfl (by simp[below,ay])
 ·intro i ⟨hi,hn⟩
  simp-implicitDefEqProofs[hsl]
  refine bc (fun h1=>?_) (fun h1=>?_)
  ·simp at h1
   have hg:=List.getElem?_eq_getElem h1
   by_cases he:L[i]=s
   ·have hf:idxS L s=i:=by
     have:L.findIdx? (fun w=>w==s)=some i:=by
      rw[List.findIdx?_eq_some_iff_getElem]
      exact⟨h1,by simpa using he,fun j hj=>by have:=hn L[j] (List.mem_take_iff_getElem.2 ⟨j,by omega,rfl⟩);simpa using this⟩
     rw[idxS,this]
    have he':s=L[i]:=he.symm
    simp-implicitDefEqProofs[hg,hf,←he']
   ·have he':¬s=L[i]:=fun e=>he e.symm
    simp-implicitDefEqProofs[hg,he']
    refine⟨i+1,⟨h1,fun p hp=>?_⟩,by omega,cW rfl ?_⟩
    ·rw[au h1] at hp
     rcases List.mem_append.1 hp with hp|hp
     ·exact hn p hp
     ·rw[List.mem_singleton.1 hp];exact he
    ·simp[below,ay,w1 (i:=i) (by omega)]
  ·simp at h1
   rw[List.take_of_length_le h1] at hn
   have hf:idxS L s= -1:=by
    have:L.findIdx? (fun w=>w==s)=none:=by
     rw[List.findIdx?_eq_none_iff];intro x hx;simpa using hn x hx
    rw[idxS,this]
   simp-implicitDefEqProofs[hf]
theorem vH(L:List (List UInt8))(s:List UInt8)(hb:L.length≤1048576):VF Tryd.prog G cH [.p (ay L),.p (.str s)] (.p (.bool (L.contains s))):=by
 rw[←zF]
 refine AC.go iR ?_
 simp-implicitDefEqProofs[dX]
 refine(CP G L s hb).use ?_
 simp-implicitDefEqProofs[]
abbrev iW:Nat:=0
def gm:List PV:=keyW.map .str
variable (hK:G iW=some gm)
include hK
theorem kG(s:List UInt8)(hb:s.length≤140737488355328):VF Tryd.prog G bs [.p (.str s)] (.p (.bool (aD s))):=by
 refine AC.go se ?_
 have hg:iW=0:=rfl
 rw[hg] at hK
 simp-implicitDefEqProofs[lF]
 refine(jl G _ _ _).use ?_
 have hr:inR (s.length:Int) 1 4=(decide (0<s.length)&&decide (s.length≤4)):=by
  unfold inR
  by_cases h1:0<s.length<;>by_cases h2:s.length≤4<;>simp[h1,h2]<;>omega
 rw[hr]
 have hi:aD s=((decide (0<s.length)&&decide (s.length≤4))&&(s.all cU&& !keyW.contains s)):=by
  rw[aD];cases s.all cU<;>cases decide (0<s.length)<;>cases decide (s.length≤4)<;>rfl
 cases h1:(decide (0<s.length)&&decide (s.length≤4)) with
 |false=>
  rw[hi,h1]
  simp-implicitDefEqProofs[]
 |true=>
  rw[hi,h1]
  simp-implicitDefEqProofs[]
  refine(tS G s hb).use ?_
  rw[←zK]
  by_cases hn:sM s<0
  ·simp-implicitDefEqProofs[hn,hK,gm,keyW]
   refine(vH G keyW s (by decide)).use ?_
   simp-implicitDefEqProofs[keyW]
  ·simp-implicitDefEqProofs[hn]
end Go.Proofs.YtiojgfhdcpppcaaDoor
namespace Go.Proofs.YtiojgfhdcpppcaaDoor
open Go Go.Aw
set_option maxRecDepth 100000
set_option maxHeartbeats 4000000
def K_impl_exprSize:AK:= .seq (.reg [oJ 2 (.box 4 (.t 0)),oK 4 0,oK 5 0,oJ 6 (.mov (.c (.p (.bool false))))]) (.seq (.reg [oK 7 0,oK 8 0]) (.cut (.blk 0 (.seq (.reg [oF 17 0 2,oL 18 17,oJ 19 (.bin .eql (.t 18) (.c (.p (.int .i64 1)))),oM 16 19]) (.cond (.t 16) (.seq (.reg [oF 20 1 2,oL 21 20,oJ 22 (.call fL [(.t 21)]),oJ 23 (.not (.t 22)),oM 24 23,⟨(some 25),some (24,false),.fldA 2 (.t 2)⟩,⟨(some 26),some (24,false),.ld none (.t 25)⟩,⟨(some 27),some (24,false),.bins .neq (.t 26) (.c (.p (.str [])))⟩,oJ 28 (.pick (.t 24) (.c (.p (.bool true))) (.t 27))]) (.cond (.t 28) (.seq (.reg [oK 4 0,oK 5 0,oJ 6 (.mov (.c (.p (.bool false))))]) (.ret)) (.skip))) (.seq (.reg [oF 30 0 2,oL 31 30,oJ 32 (.bin .eql (.t 31) (.c (.p (.int .i64 2)))),oM 29 32]) (.cond (.t 29) (.seq (.reg [oF 33 2 2,oL 34 33,oJ 35 (.call bs [(.t 34)]),oJ 36 (.not (.t 35)),oM 37 36,⟨(some 38),some (37,false),.fldA 1 (.t 2)⟩,⟨(some 39),some (37,false),.ld none (.t 38)⟩,⟨(some 40),some (37,false),.bin .neq (.t 39) (.c (.p (.int .i64 0)))⟩,oJ 41 (.pick (.t 37) (.c (.p (.bool true))) (.t 40))]) (.cond (.t 41) (.seq (.reg [oK 4 0,oK 5 0,oJ 6 (.mov (.c (.p (.bool false))))]) (.ret)) (.skip))) (.seq (.reg [oF 43 0 2,oL 44 43,oJ 45 (.bin .eql (.t 44) (.c (.p (.int .i64 13)))),oM 42 45]) (.cond (.t 42) (.seq (.reg [oK 8 3]) (.seq (.reg [oF 46 2 2,oL 47 46,oJ 48 (.call bs [(.t 47)]),oJ 49 (.not (.t 48)),oM 50 49,⟨(some 51),some (50,false),.fldA 1 (.t 2)⟩,⟨(some 52),some (50,false),.ld none (.t 51)⟩,⟨(some 53),some (50,false),.bin .neq (.t 52) (.c (.p (.int .i64 0)))⟩,oJ 54 (.pick (.t 50) (.c (.p (.bool true))) (.t 53))]) (.cond (.t 54) (.seq (.reg [oK 4 0,oK 5 0,oJ 6 (.mov (.c (.p (.bool false))))]) (.ret)) (.skip)))) (.seq (.reg [oJ 56 (.ld none (.c (.gp 1 0))),oF 57 0 2,oL 58 57,oJ 59 (.lk 0 (.agg [(.p (.str [])),(.p (.int .i64 0))]) false (.t 56) (.t 58)),oJ 60 (.fldv 1 none (.t 59)),oJ 61 (.bin .gtr (.t 60) (.c (.p (.int .i64 0)))),oM 55 61]) (.cond (.t 55) (.reg [oK 7 2,oK 8 2]) (.seq (.reg [oF 63 0 2,oL 64 63,oJ 65 (.bin .eql (.t 64) (.c (.p (.int .i64 11)))),oM 66 65,⟨(some 67),some (66,false),.fldA 0 (.t 2)⟩,⟨(some 68),some (66,false),.ld none (.t 67)⟩,⟨(some 69),some (66,false),.bin .eql (.t 68) (.c (.p (.int .i64 12)))⟩,oJ 70 (.pick (.t 66) (.c (.p (.bool true))) (.t 69)),oM 62 70]) (.cond (.t 62) (.reg [oK 7 1,oK 8 1]) (.seq (.reg [oK 4 0,oK 5 0,oJ 6 (.mov (.c (.p (.bool false))))]) (.ret))))))))))))) (.cut (.seq (.reg [oF 71 0 2,oL 72 71,oJ 73 (.call eU [(.t 72)]),oJ 74 (.bin .lss (.t 73) (.c (.p (.int .i64 6)))),oM 75 74,⟨(some 76),some (75,true),.fldA 1 (.t 2)⟩,⟨(some 77),some (75,true),.ld none (.t 76)⟩,⟨(some 78),some (75,true),.bin .neq (.t 77) (.c (.p (.int .i64 0)))⟩,⟨(some 79),some (75,true),.mov (.t 78)⟩,⟨(some 80),some (79,false),.fldA 2 (.t 2)⟩,⟨(some 81),some (79,false),.ld none (.t 80)⟩,⟨(some 82),some (79,false),.bins .neq (.t 81) (.c (.p (.str [])))⟩,⟨(some 83),some (75,true),.pick (.t 79) (.c (.p (.bool true))) (.t 82)⟩,oJ 84 (.pick (.t 75) (.t 83) (.c (.p (.bool false)))),oM 85 84,⟨(some 86),some (85,false),.fldA 3 (.t 2)⟩,⟨(some 87),some (85,false),.ld none (.t 86)⟩,⟨(some 88),some (85,false),.len false (.t 87)⟩,⟨(some 89),some (85,false),.mov (.t 7)⟩,⟨(some 90),some (85,false),.mov (.t 8)⟩,⟨(some 91),some (85,false),.call bX [(.t 88),(.t 89),(.t 90)]⟩,⟨(some 92),some (85,false),.not (.t 91)⟩,oJ 93 (.pick (.t 85) (.c (.p (.bool true))) (.t 92)),oM 94 93,⟨(some 95),some (94,false),.mov (.t 1)⟩,⟨(some 96),some (94,false),.bin .lss (.t 95) (.c (.p (.int .i64 1)))⟩,oJ 97 (.pick (.t 94) (.c (.p (.bool true))) (.t 96))]) (.cond (.t 97) (.seq (.reg [oK 4 0,oK 5 0,oJ 6 (.mov (.c (.p (.bool false))))]) (.ret)) (.skip))) (.seq (.reg [oK 9 1,oK 10 1]) (.seq (.seq (.reg [oF 98 3 2,oL 99 98,oJ 100 (.len false (.t 99)),oK 101 0]) (.blk 1 (.loop (.seq (.reg [oJ 102 (.bin .lss (.t 101) (.t 100))]) (.seq (.cond (.t 102) (.skip) (.exit 1)) (.seq (.blk 2 (.seq (.reg [oJ 103 (.idxS 4 (.t 99) (.t 101)),oJ 104 (.ld (some 4) (.t 103)),oJ 12 (.alloc [(.p (.int .i64 0)),(.p (.int .i64 0)),(.p (.str [])),.nils]),⟨none,none,.st 4 (.t 12) (.t 104)⟩]) (.seq (.reg [oJ 106 (.ld (some 4) (.t 12)),oM 107 1,oJ 108 (.bin .sub (.t 107) (.c (.p (.int .i64 1)))),oJ 109 (.call da [(.t 106),(.t 108)]),oM 105 109,oJ 110 (.ext 0 (.t 105)),oJ 111 (.ext 1 (.t 105)),oJ 112 (.ext 2 (.t 105)),oM 13 110,oM 14 111,oM 15 112]) (.seq (.seq (.reg [oM 113 15,oJ 114 (.not (.t 113))]) (.cond (.t 114) (.seq (.reg [oK 4 0,oK 5 0,oJ 6 (.mov (.c (.p (.bool false))))]) (.ret)) (.skip))) (.seq (.reg [oM 115 9,oM 116 13,oJ 117 (.bin .add (.t 115) (.t 116)),oM 9 117]) (.reg [oM 118 10,oM 119 14,oJ 120 (.bin .add (.t 119) (.c (.p (.int .i64 1)))),oJ 121 (.mx (.t 118) (.t 120)),oM 10 121])))))) (.reg [oJ 122 (.bin .add (.t 101) (.c (.p (.int .i64 1)))),oM 101 122]))))))) (.seq (.reg [oM 123 9,oM 124 10,oM 125 9,oJ 126 (.bin .leq (.t 125) (.c (.p (.int .i64 30)))),oM 4 123,oM 5 124,oM 6 126]) (.ret)))))))
theorem pp:K_impl_exprSize.whole=F_impl_exprSize.ak:=rfl
abbrev gR:Nat:=1
def opK:List PV:=[.int .i64 3,.int .i64 4,.int .i64 5,.int .i64 6,.int .i64 7,.int .i64 8,.int .i64 9,.int .i64 10]
def opV:List (List PV):=[[.str [43],.int .i64 3],[.str [45],.int .i64 3],[.str [42],.int .i64 4],[.str [47],.int .i64 4],[.str [37],.int .i64 4],[.str [60],.int .i64 2],[.str [61],.int .i64 2],[.str [38],.int .i64 1]]
def lvl(op:Int):Int:=if op=10 then 1 else if op=8 then 2 else if op=9 then 2 else if op=3 then 3 else if op=4 then 3 else 4
def sgB(op:Int):UInt8:=if op=3 then 43 else if op=4 then 45 else if op=5 then 42 else if op=6 then 47 else if op=7 then 37 else if op=8 then 60 else if op=9 then 61 else 38
def sgn(op:Int):Option AV:=if 3≤op∧op≤10 then some (.agg [.p (.str [sgB op]),.p (.int .i64 (lvl op))]) else none
theorem xl(op:Int):(opK.all fun k'=>(keq (.int .i64 op) k').isSome)=true:=by simp[opK,keq]
theorem xD(op:Int):eL (.int .i64 op) (yS opK opV)=some (sgn op):=by
 by_cases h:3≤op∧op≤10
 ·have h8:op=3∨op=4∨op=5∨op=6∨op=7∨op=8∨op=9∨op=10:=by omega
  rcases h8 with rfl|rfl|rfl|rfl|rfl|rfl|rfl|rfl<;>rfl
 ·have e:sgn op=none:=if_neg h
  have h3:¬op=3:=by omega
  have h4:¬op=4:=by omega
  have h5:¬op=5:=by omega
  have h6:¬op=6:=by omega
  have h7:¬op=7:=by omega
  have h8:¬op=8:=by omega
  have h9:¬op=9:=by omega
  have h10:¬op=10:=by omega
  rw[e]
  simp[opK,opV,yS,eL,keq,h3,h4,h5,h6,h7,h8,h9,h10]
theorem xM(op:Int):0<lvl op:=by
 unfold lvl
 repeat' split
 all_goals omega
theorem DN(op:Int):lvl op<6:=by
 unfold lvl
 repeat' split
 all_goals omega
def lvI(op:Int):Int:=if 3≤op∧op≤10 then lvl op else if op=11∨op=12 then 5 else 6
mutual
def Ex.deep:Ex→Nat
 | .mk _ _ _ k=>1+ju k
def ju:List Ex→Nat
 |[]=>0
 |e::r=>max e.deep (ju r)
end
theorem Ex.deep_eq(e:Ex):e.deep=1+ju e.kids:=by cases e;rfl
theorem uS:∀a b:List Ex,ju (a++b)=max (ju a) (ju b)
 |[],b=>by simp[ju]
 |e::r,b=>by rw[List.cons_append,ju,ju,uS r b];omega
mutual
theorem Ex.deep_le:∀e:Ex,e.deep≤e.sz
 | .mk _ _ s k=>by have:=sS k;simp only[Ex.deep,Ex.sz];omega
theorem sS:∀l:List Ex,ju l≤aP l
 |[]=>Nat.le_refl _
 |e::r=>by have:=e.deep_le;have:=sS r;simp only[ju,aP];omega
end
theorem jV{α:Type}{p:α→Bool}{xs:List α}{i:Nat}{c:α}(h:xs[i]?=some c):(xs.take (i+1)).all p=((xs.take i).all p&&p c):=by
 rw[List.take_add_one,h,List.all_append];simp
def okE(m:Nat)(e:Ex):Bool:=eV m e&&decide (e.parts≤30)
def pC:Nat→Ex→Bool
 |0,_=>false
 |m+1,e=>lQ e&&e.kids.all (okE m)
theorem tR:∀{l:List Ex} {e:Ex},e∈l→e.parts≤fh l
 |x::r,e,h=>by
  simp only[fh]
  rcases List.mem_cons.1 h with rfl|h
  ·omega
  ·have:=tR h;omega
theorem xq(m:Nat)(e:Ex):(pC m e&&decide (e.parts≤30))=okE m e:=by
 cases m with
 |zero=>simp[pC,okE,eV]
 |succ m=>
  by_cases hp:e.parts≤30
  ·have h2:e.kids.all (okE m)=e.kids.all (eV m):=by
    rw[Bool.eq_iff_iff,List.all_eq_true,List.all_eq_true]
    refine⟨fun h x hx=>?_,fun h x hx=>?_⟩
    ·have:=h x hx;simp only[okE,Bool.and_eq_true] at this;exact this.1
    ·have h1:=h x hx
     have:=tR hx
     have:=e.parts_eq
     simp only[okE,h1,Bool.true_and]
     simp;omega
   simp[pC,okE,eV,h2]
  ·simp[okE,hp]
theorem Cs(e:Ex):okE 6 e=jP e:=rfl
def szA(m:Nat)(e:Ex):AV:=if pC m e then .tup [.p (.int .i64 e.parts),.p (.int .i64 e.deep),.p (.bool (decide (e.parts≤30)))] else .tup [.p (.int .i64 0),.p (.int .i64 0),.p (.bool false)]
def bT(e:Ex):Bool:=inR e.op 1 13&&(if e.op=1 then inR e.n 0 255&&decide (e.name=[]) else if e.op=2∨e.op=13 then aD e.name&&decide (e.n=0) else true)
def fw(e:Ex):Bool:=(decide (e.op=1∨e.op=2∨e.op=13)||(decide (e.n=0)&&decide (e.name=[])))&&inR e.kids.length (loK e.op) (hiK e.op)
theorem mE:aD []=false:=rfl
theorem vg(e:Ex):lQ e=(bT e&&fw e):=by
 unfold lQ bT fw wD
 by_cases h1:e.op=1
 ·simp only[h1]
  cases inR (e.kids.length:Int) (loK 1:Nat) (hiK 1:Nat)<;>by_cases hn:e.name=[]<;>cases h2:inR e.n 0 255<;>simp[hn,mE,inR]
 by_cases h2:e.op=2
 ·simp only[h2]
  cases inR (e.kids.length:Int) (loK 2:Nat) (hiK 2:Nat)<;>cases hi:aD e.name<;>by_cases hn:e.n=0<;>simp[hn,inR]
 by_cases h3:e.op=13
 ·simp only[h3]
  cases inR (e.kids.length:Int) (loK 13:Nat) (hiK 13:Nat)<;>cases hi:aD e.name<;>by_cases hn:e.n=0<;>simp[hn,inR]
 ·cases inR e.op 1 13<;>cases inR (e.kids.length:Int) (loK e.op:Nat) (hiK e.op:Nat)<;>by_cases hn:e.n=0<;>by_cases hm:e.name=[]<;>simp[h1,h2,h3,hn,hm,mE,inR]
variable (G:aG) (hK:G iW=some gm) (hS:G gR=some [.tbl opK opV])
include hS
theorem ye(op:Int):VF Tryd.prog G eU [.p (.int .i64 op)] (.p (.int .i64 (lvI op))):=by
 refine AC.go rh ?_
 have hall:=xl op
 have hget:=xD op
 have hS':G 1=some [.tbl opK opV]:=hS
 have hlp:=xM op
 by_cases h:3≤op∧op≤10
 ·have e:sgn op=some (.agg [.p (.str [sgB op]),.p (.int .i64 (lvl op))]):=if_pos h
  have e2:lvI op=lvl op:=if_pos h
  rw[e2]
  generalize lvl op=L at*
  simp-implicitDefEqProofs[dC,hS',hall,hget,e,hlp]
 ·have e:sgn op=none:=if_neg h
  by_cases h11:op=11
  ·subst h11;simp-implicitDefEqProofs[dC,hS',hall,hget,e,lvI]
  by_cases h12:op=12
  ·subst h12;simp-implicitDefEqProofs[dC,hS',hall,hget,e,lvI]
  have e2:lvI op=6:=by rw[lvI,if_neg h,if_neg (by simp[h11,h12])]
  simp-implicitDefEqProofs[dC,hS',hall,hget,e,e2,h11,h12]
include hK
theorem wK:∀(m:Nat) (e:Ex),e.sz≤1073741824→m≤100→VF Tryd.prog G da [.agg (e.cs.map .p),.p (.int .i64 m)] (szA m e):=by
 intro m
 induction m using Nat.strongRecOn with
 |_ m ih=>
 intro e he hm
 have hec:=e.cs_eq
 have hsz:=e.sz_eq
 have hkl:=bQ e.kids
 have hS':G 1=some [.tbl opK opV]:=hS
 have hall:=xl e.op
 have hget:=xD e.op
 have hxl:exL e.kids= .lst 4 (e.kids.map Ex.cs):=rfl
 have hbad:(bT e&&fw e&&decide (1≤m))=false→szA m e= .tup [.p (.int .i64 0),.p (.int .i64 0),.p (.bool false)]:=by
  intro h
  have:pC m e=false:=by
   cases m with
   |zero=>rfl
   |succ m=>rw[pC,vg];simp at h;cases h1:bT e<;>cases h2:fw e<;>simp[h1,h2] at h⊢
  rw[szA,this];rfl
 have hb1:bT e=false→szA m e= .tup [.p (.int .i64 0),.p (.int .i64 0),.p (.bool false)]:=fun h=>hbad (by rw[h];rfl)
 refine AC.goK pF pp ?_
 simp-implicitDefEqProofs[K_impl_exprSize,F_impl_exprSize,hec]
 refine pI (fun _:Unit=>am 127 [(1,.p (.int .i64 m)),(2,.ptr 0 4 0 0),(7,.p (.int .i64 (loK e.op))),(8,.p (.int .i64 (hiK e.op)))]) (fun _=>[.row 4 [[.p (.int .i64 e.op),.p (.int .i64 e.n),.p (.str e.name),.p (exL e.kids)]]]) (fun _=>bT e=true) ?_ ?_
 ·have fin:∀(r1:List (Nat × AV)),Aw.look r1 1= .p (.int .i64 m)→Aw.look r1 2= .ptr 0 4 0 0→Aw.look r1 7= .p (.int .i64 (loK e.op))→Aw.look r1 8= .p (.int .i64 (hiK e.op))→
   Wk 0 (am 127 r1) [.row 4 [[.p (.int .i64 e.op),.p (.int .i64 e.n),.p (.str e.name),.p (exL e.kids)]]] (am 127 [(1,.p (.int .i64 m)),(2,.ptr 0 4 0 0),(7,.p (.int .i64 (loK e.op))),(8,.p (.int .i64 (hiK e.op)))]) [.row 4 [[.p (.int .i64 e.op),.p (.int .i64 e.n),.p (.str e.name),.p (exL e.kids)]]]:=fun r1 a b c d=>
   ab (by simp) (by simp[okO,below]) (by simp[below,a,b,c,d])
  have hop1:inR (1:Int) 1 13=true:=rfl
  have hop2:inR (2:Int) 1 13=true:=rfl
  have hop13:inR (13:Int) 1 13=true:=rfl
  by_cases o1:e.op=1
  ·rw[o1] at fin⊢
   simp-implicitDefEqProofs[o1]
   refine(zH G _).use ?_
   by_cases h1:inR e.n 0 255=true
   ·by_cases h2:e.name=[]
    ·have hp:bT e=true:=by simp[bT,o1,h1,h2,hop1]
     rw[h2] at fin
     simp-implicitDefEqProofs[h1,h2,hp]
     exact fin _ (by simp) (by simp) (by simp[loK]) (by simp[hiK])
    ·have hp:bT e=false:=by simp[bT,o1,h1,h2,hop1]
     rw[hb1 hp]
     simp-implicitDefEqProofs[h1,h2]
   ·have hp:bT e=false:=by simp[bT,o1,h1,hop1]
    rw[hb1 hp]
    simp-implicitDefEqProofs[h1]
  by_cases o2:e.op=2
  ·rw[o2] at fin⊢
   simp-implicitDefEqProofs[o2]
   refine(kG G hK _ (by omega)).use ?_
   by_cases h1:aD e.name=true
   ·by_cases h2:e.n=0
    ·have hp:bT e=true:=by simp[bT,o2,h1,h2,hop2]
     rw[h2] at fin
     simp-implicitDefEqProofs[h1,h2,hp]
     exact fin _ (by simp) (by simp) (by simp[loK]) (by simp[hiK])
    ·have hp:bT e=false:=by simp[bT,o2,h1,h2,hop2]
     rw[hb1 hp]
     simp-implicitDefEqProofs[h1,h2]
   ·have hp:bT e=false:=by simp[bT,o2,h1,hop2]
    rw[hb1 hp]
    simp-implicitDefEqProofs[h1]
  by_cases o13:e.op=13
  ·rw[o13] at fin⊢
   simp-implicitDefEqProofs[o13]
   refine(kG G hK _ (by omega)).use ?_
   by_cases h1:aD e.name=true
   ·by_cases h2:e.n=0
    ·have hp:bT e=true:=by simp[bT,o13,h1,h2,hop13]
     rw[h2] at fin
     simp-implicitDefEqProofs[h1,h2,hp]
     exact fin _ (by simp) (by simp) (by simp[loK]) (by simp[hiK])
    ·have hp:bT e=false:=by simp[bT,o13,h1,h2,hop13]
     rw[hb1 hp]
     simp-implicitDefEqProofs[h1,h2]
   ·have hp:bT e=false:=by simp[bT,o13,h1,hop13]
    rw[hb1 hp]
    simp-implicitDefEqProofs[h1]
  have hlp:=xM e.op
  by_cases h:3≤e.op∧e.op≤10
  ·have es:sgn e.op=some (.agg [.p (.str [sgB e.op]),.p (.int .i64 (lvl e.op))]):=if_pos h
   have hp:bT e=true:=by simp[bT,o1,o2,o13,inR];omega
   have o11:¬e.op=11:=by omega
   have o12:¬e.op=12:=by omega
   have elo:loK e.op=2:=by simp[loK,o1,o2,o11,o12,o13]
   have ehi:hiK e.op=2:=by simp[hiK,o1,o2,o11,o12,o13]
   generalize lvl e.op=L at*
   simp-implicitDefEqProofs[o1,o2,o13,hS',hall,hget,es,hlp,hp]
   exact fin _ (by simp) (by simp) (by simp[elo]) (by simp[ehi])
  have es:sgn e.op=none:=if_neg h
  by_cases o11:e.op=11
  ·have hp:bT e=true:=by simp[bT,o11,inR]
   have elo:loK e.op=1:=by simp[loK,o11]
   have ehi:hiK e.op=1:=by simp[hiK,o11]
   rw[o11] at hall hget es fin
   simp-implicitDefEqProofs[o11,hS',hall,hget,es,hp]
   exact fin _ (by simp) (by simp) (by simp[loK]) (by simp[hiK])
  by_cases o12:e.op=12
  ·have hp:bT e=true:=by simp[bT,o12,inR]
   rw[o12] at hall hget es fin
   simp-implicitDefEqProofs[o12,hS',hall,hget,es,hp]
   exact fin _ (by simp) (by simp) (by simp[loK]) (by simp[hiK])
  ·have hp:bT e=false:=by simp[bT,o1,o2,o13,inR];omega
   rw[hb1 hp]
   simp-implicitDefEqProofs[o1,o2,o13,hS',hall,hget,es,o11,o12]
 intro _ hp
 have hop:1≤e.op∧e.op≤13:=by
  simp only[bT,Bool.and_eq_true,inR,decide_eq_true_eq] at hp
  exact hp.1
 have hb2:fw e=false→szA m e= .tup [.p (.int .i64 0),.p (.int .i64 0),.p (.bool false)]:=fun h=>hbad (by rw[h];simp)
 have hb3:m<1→szA m e= .tup [.p (.int .i64 0),.p (.int .i64 0),.p (.bool false)]:=by
  intro h
  have hd:decide (1≤m)=false:=by simp;omega
  exact hbad (by rw[hd];simp)
 refine pI (fun _:Unit=>am 127 [(1,.p (.int .i64 m)),(2,.ptr 0 4 0 0)]) (fun _=>[.row 4 [[.p (.int .i64 e.op),.p (.int .i64 e.n),.p (.str e.name),.p (exL e.kids)]]]) (fun _=>fw e=true∧1≤m) ?_ ?_
 ·have fin:∀(r1:List (Nat × AV)),Aw.look r1 1= .p (.int .i64 m)→Aw.look r1 2= .ptr 0 4 0 0→
   Wk 0 (am 127 r1) [.row 4 [[.p (.int .i64 e.op),.p (.int .i64 e.n),.p (.str e.name),.p (exL e.kids)]]] (am 127 [(1,.p (.int .i64 m)),(2,.ptr 0 4 0 0)]) [.row 4 [[.p (.int .i64 e.op),.p (.int .i64 e.n),.p (.str e.name),.p (exL e.kids)]]]:=fun r1 a b=>
   ab (by simp) (by simp[okO,below]) (by simp[below,a,b])
  simp-implicitDefEqProofs[]
  refine(ye G hS e.op).use ?_
  by_cases ho:e.op=1∨e.op=2∨e.op=13
  ·have hlv:lvI e.op=6:=by
    rw[lvI,if_neg (by omega),if_neg (by omega)]
   have hd:decide (e.op=1∨e.op=2∨e.op=13)=true:=by simpa using ho
   simp-implicitDefEqProofs[hlv,hxl]
   refine(jl G _ _ _).use ?_
   by_cases hk:inR e.kids.length (loK e.op) (hiK e.op)=true
   ·have hr:fw e=true:=by rw[fw,hd,hk];rfl
    by_cases hm1:m<1
    ·have hm1':(m:Int)<1:=by omega
     rw[hb3 hm1]
     simp-implicitDefEqProofs[hk,hm1']
    ·have hm1':¬(m:Int)<1:=by omega
     have hm2:1≤m:=by omega
     simp-implicitDefEqProofs[hk,hm1',hr,hm2]
     exact fin _ (by simp) (by simp)
   ·have hk':inR e.kids.length (loK e.op) (hiK e.op)=false:=by simpa using hk
    have hr:fw e=false:=by rw[fw,hk',Bool.and_false]
    rw[hb2 hr]
    simp-implicitDefEqProofs[hk']
  ·have hlv:lvI e.op<6:=by
    have:=DN e.op
    unfold lvI
    split
    ·exact this
    ·rw[if_pos (by omega)];omega
   have hd:decide (e.op=1∨e.op=2∨e.op=13)=false:=by simpa using ho
   generalize lvI e.op=L at hlv⊢
   by_cases h1:e.n=0
   ·by_cases h2:e.name=[]
    ·have hz:decide (e.n=0)=true∧decide (e.name=[])=true:=by simp[h1,h2]
     simp-implicitDefEqProofs[hlv,h1,h2,hxl]
     refine(jl G _ _ _).use ?_
     rw[h1,h2] at fin
     by_cases hk:inR e.kids.length (loK e.op) (hiK e.op)=true
     ·have hr:fw e=true:=by rw[fw,hd,hk,hz.1,hz.2];rfl
      by_cases hm1:m<1
      ·have hm1':(m:Int)<1:=by omega
       rw[hb3 hm1]
       simp-implicitDefEqProofs[hk,hm1']
      ·have hm1':¬(m:Int)<1:=by omega
       have hm2:1≤m:=by omega
       simp-implicitDefEqProofs[hk,hm1',hr,hm2]
       exact fin _ (by simp) (by simp)
     ·have hk':inR e.kids.length (loK e.op) (hiK e.op)=false:=by simpa using hk
      have hr:fw e=false:=by rw[fw,hk',Bool.and_false]
      rw[hb2 hr]
      simp-implicitDefEqProofs[hk']
    ·have hr:fw e=false:=by rw[fw,hd];simp[h2]
     rw[hb2 hr]
     simp-implicitDefEqProofs[hlv,h1,h2]
   ·have hr:fw e=false:=by rw[fw,hd];simp[h1]
    rw[hb2 hr]
    simp-implicitDefEqProofs[hlv,h1]
 rintro _ ⟨hr,hm1⟩
 have hhd:lQ e=true:=by rw[vg,hp,hr];rfl
 obtain⟨m',rfl⟩:∃m',m=m'+1:=⟨m-1,by omega⟩
 have hszO:pC (m'+1) e=e.kids.all (okE m'):=by rw[pC,hhd];rfl
 have hpe:=e.parts_eq
 have hde:=e.deep_eq
 have hpl:=e.parts_le
 have hwm:IntKind.i64.wrap (((m'+1:Nat):Int)-1)=(m':Int):=by rw[ag (by omega) (by omega)];omega
 simp-implicitDefEqProofs[hxl]
 refine aR (fun i:Nat=>am 127 [(1,.p (.int .i64 ((m':Int)+1))),(2,.ptr 0 4 0 0),(9,.p (.int .i64 ((1+fh (e.kids.take i):Nat):Int))),(10,.p (.int .i64 ((1+ju (e.kids.take i):Nat):Int))),(99,.p (exL e.kids)),(100,.p (.int .i64 e.kids.length)),(101,.p (.int .i64 i))])
  (fun _=>[.row 4 [[.p (.int .i64 e.op),.p (.int .i64 e.n),.p (.str e.name),.p (exL e.kids)]]]) (fun i=>i≤e.kids.length∧(e.kids.take i).all (okE m')=true) (fun i=>e.kids.length-i) 0 (by simp) ?_ ?_
 ·exact ab (by simp) (by simp[okO,below]) (by simp[below,hxl,fh,ju])
 rintro i ⟨hi,ha⟩
 have hwm':IntKind.i64.wrap (m':Int)=(m':Int):=ag (by omega) (by omega)
 simp-implicitDefEqProofs[hxl]
 refine bc (fun h=>?_) (fun h=>?_)
 ·simp at h
  have hg:=List.getElem?_eq_getElem h
  have hks:=cf (List.getElem_mem h)
  have hkc:=e.kids[i].cs_eq
  have hpt:fh (e.kids.take (i+1))=fh (e.kids.take i)+e.kids[i].parts:=by rw[au h,gi];simp[fh]
  have hdt:ju (e.kids.take (i+1))=max (ju (e.kids.take i)) e.kids[i].deep:=by rw[au h,uS];simp[ju]
  have hpl1:fh (e.kids.take (i+1))≤e.parts:=by
   have:=gi (e.kids.take (i+1)) (e.kids.drop (i+1))
   rw[List.take_append_drop] at this
   omega
  have hok:=xq m' e.kids[i]
  have hdl:e.kids[i].deep≤e.kids[i].sz:=Ex.deep_le _
  have hdl2:ju (e.kids.take i)≤e.sz:=by
   have h1:=sS (e.kids.take i)
   have h2:=cA (e.kids.take i) (e.kids.drop i)
   rw[List.take_append_drop] at h2
   omega
  generalize e.kids[i]=c at*
  simp-implicitDefEqProofs[hg,hkc,hwm']
  have hI:=ih m' (by omega) c (by omega) (by omega)
  rw[hkc] at hI
  by_cases ho:okE m' c=true
  ·have h1:pC m' c=true∧c.parts≤30:=by rw[ho] at hok;simpa using hok
   have hA:szA m' c= .tup [.p (.int .i64 c.parts),.p (.int .i64 c.deep),.p (.bool true)]:=by rw[szA,if_pos h1.1];simp[h1.2]
   rw[hA] at hI
   refine hI.use ?_
   have hw1:IntKind.i64.wrap (1+(fh (e.kids.take i):Int)+(c.parts:Int))=((1+fh (e.kids.take (i+1)):Nat):Int):=by rw[ag (by omega) (by omega)];omega
   have hw2:IntKind.i64.wrap ((c.deep:Int)+1)=(c.deep:Int)+1:=ag (by omega) (by omega)
   have hmx:(if 1+(ju (e.kids.take i):Int)<(c.deep:Int)+1 then(c.deep:Int)+1 else 1+(ju (e.kids.take i):Int))=1+(ju (e.kids.take (i+1)):Int):=by
    rw[hdt];split<;>omega
   simp-implicitDefEqProofs[hw1,hw2,hmx]
   refine⟨i+1,⟨h,by rw[←List.all_eq_true,jV hg,ha,ho];rfl⟩,by omega,?_⟩
   refine eM (m:=1) (by omega) (cR rfl rfl (by simp[okO,below])) (by simp[below,hxl,w1 (i:=i) (by omega)])
  ·have hf:e.kids.all (okE m')=false:=List.all_eq_false.2 ⟨c,List.mem_of_getElem? hg,by simpa using ho⟩
   have hA2:szA (m'+1) e= .tup [.p (.int .i64 0),.p (.int .i64 0),.p (.bool false)]:=by rw[szA,hszO,hf];rfl
   rw[hA2]
   by_cases h1:pC m' c=true
   ·have h2:¬c.parts≤30:=fun h2=>ho (by rw[←hok,h1];simpa using h2)
    have hA:szA m' c= .tup [.p (.int .i64 c.parts),.p (.int .i64 c.deep),.p (.bool false)]:=by rw[szA,if_pos h1];simp[h2]
    rw[hA] at hI
    refine hI.use ?_
    simp-implicitDefEqProofs[]
   ·have hA:szA m' c= .tup [.p (.int .i64 0),.p (.int .i64 0),.p (.bool false)]:=by rw[szA,if_neg h1]
    rw[hA] at hI
    refine hI.use ?_
    simp-implicitDefEqProofs[]
 ·simp at h
  rw[List.take_of_length_le h] at ha⊢
  have hA:szA (m'+1) e= .tup [.p (.int .i64 e.parts),.p (.int .i64 e.deep),.p (.bool (decide (e.parts≤30)))]:=by rw[szA,hszO,ha];rfl
  rw[hA,hpe,hde]
  simp-implicitDefEqProofs[]
  omega
theorem ur(e:Ex)(he:e.sz≤1073741824):VF Tryd.prog G dE [.agg (e.cs.map .p)] (.p (.bool (jP e))):=by
 refine AC.go oo ?_
 have hec:=e.cs_eq
 have hx:=wK G hK hS 6 e he (by omega)
 rw[hec] at hx
 simp-implicitDefEqProofs[js,hec]
 rw[←Cs,←xq]
 unfold szA at hx
 by_cases h:pC 6 e=true
 ·rw[if_pos h] at hx
  rw[h]
  refine hx.use ?_
  simp-implicitDefEqProofs[]
 ·have h':pC 6 e=false:=by simpa using h
  rw[if_neg h] at hx
  rw[h']
  refine hx.use ?_
  simp-implicitDefEqProofs[]
end Go.Proofs.YtiojgfhdcpppcaaDoor
namespace Go.Proofs.YtiojgfhdcpppcaaDoor
open Go Go.Aw
set_option maxRecDepth 100000
set_option maxHeartbeats 4000000
def K_impl_stmtOk:AK:= .seq (.reg [oJ 2 (.box 5 (.t 0)),oJ 4 (.mov (.c (.p (.bool false))))]) (.seq (.reg [oF 12 0 2,oL 13 12,oJ 14 (.call ed [(.t 13)]),oM 11 14,oJ 15 (.ext 0 (.t 11)),oJ 16 (.ext 1 (.t 11)),oJ 17 (.ext 2 (.t 11)),oJ 18 (.ext 3 (.t 11)),oM 5 15,oM 6 16,oM 7 17,oM 8 18]) (.cut (.blk 0 (.seq (.seq (.reg [oM 20 1,oJ 21 (.bin .gtr (.t 20) (.c (.p (.int .i64 4)))),oM 19 21]) (.cond (.t 19) (.skip) (.seq (.reg [oF 22 2 2,oL 23 22,oJ 24 (.len false (.t 23)),oM 25 5,oJ 26 (.bin .neq (.t 24) (.t 25)),oM 19 26]) (.cond (.t 19) (.skip) (.cut (.reg [oM 27 6,oM 28 27,⟨(some 29),some (28,true),.fldA 1 (.t 2)⟩,⟨(some 30),some (28,true),.ld none (.t 29)⟩,⟨(some 31),some (28,true),.call bs [(.t 30)]⟩,⟨(some 32),some (28,true),.not (.t 31)⟩,oJ 33 (.pick (.t 28) (.t 32) (.c (.p (.bool false)))),oM 19 33]) (.cond (.t 19) (.skip) (.cut (.reg [oM 34 6,oJ 35 (.not (.t 34)),oM 36 35,⟨(some 37),some (36,true),.fldA 1 (.t 2)⟩,⟨(some 38),some (36,true),.ld none (.t 37)⟩,⟨(some 39),some (36,true),.bins .neq (.t 38) (.c (.p (.str [])))⟩,oJ 40 (.pick (.t 36) (.t 39) (.c (.p (.bool false)))),oM 19 40]) (.cond (.t 19) (.skip) (.cut (.reg [oM 41 7,oJ 42 (.not (.t 41)),oM 43 42,⟨(some 44),some (43,true),.fldA 3 (.t 2)⟩,⟨(some 45),some (43,true),.ld none (.t 44)⟩,⟨(some 46),some (43,true),.len false (.t 45)⟩,⟨(some 47),some (43,true),.bin .gtr (.t 46) (.c (.p (.int .i64 0)))⟩,oJ 48 (.pick (.t 43) (.t 47) (.c (.p (.bool false)))),oM 19 48]) (.cond (.t 19) (.skip) (.cut (.reg [oM 49 8,oJ 50 (.not (.t 49)),oM 51 50,⟨(some 52),some (51,true),.fldA 4 (.t 2)⟩,⟨(some 53),some (51,true),.ld none (.t 52)⟩,⟨(some 54),some (51,true),.len false (.t 53)⟩,⟨(some 55),some (51,true),.bin .gtr (.t 54) (.c (.p (.int .i64 0)))⟩,oJ 56 (.pick (.t 51) (.t 55) (.c (.p (.bool false)))),oM 19 56]) (.cond (.t 19) (.skip) (.reg [oF 57 0 2,oL 58 57,oJ 59 (.bin .eql (.t 58) (.c (.p (.int .i64 8)))),oM 60 59,⟨(some 61),some (60,true),.fldA 2 (.t 2)⟩,⟨(some 62),some (60,true),.ld none (.t 61)⟩,⟨(some 63),some (60,true),.idxS 4 (.t 62) (.c (.p (.int .i64 0)))⟩,⟨(some 64),some (60,true),.fldA 0 (.t 63)⟩,⟨(some 65),some (60,true),.ld none (.t 64)⟩,⟨(some 66),some (60,true),.bin .neq (.t 65) (.c (.p (.int .i64 13)))⟩,oJ 67 (.pick (.t 60) (.t 66) (.c (.p (.bool false)))),oM 19 67]))))))))))))) (.cond (.t 19) (.seq (.reg [oJ 4 (.mov (.c (.p (.bool false))))]) (.ret)) (.skip)))) (.seq (.seq (.reg [oF 68 2 2,oL 69 68,oJ 70 (.len false (.t 69)),oK 71 0]) (.blk 1 (.loop (.seq (.reg [oJ 72 (.bin .lss (.t 71) (.t 70))]) (.seq (.cond (.t 72) (.skip) (.exit 1)) (.seq (.blk 2 (.seq (.reg [oJ 73 (.idxS 4 (.t 69) (.t 71)),oJ 74 (.ld (some 4) (.t 73)),oJ 10 (.alloc [(.p (.int .i64 0)),(.p (.int .i64 0)),(.p (.str [])),.nils]),⟨none,none,.st 4 (.t 10) (.t 74)⟩]) (.seq (.reg [oJ 75 (.ld (some 4) (.t 10)),oJ 76 (.call dE [(.t 75)]),oJ 77 (.not (.t 76))]) (.cond (.t 77) (.seq (.reg [oJ 4 (.mov (.c (.p (.bool false))))]) (.ret)) (.skip))))) (.reg [oJ 78 (.bin .add (.t 71) (.c (.p (.int .i64 1)))),oM 71 78]))))))) (.seq (.reg [oF 79 3 2,oL 80 79,oM 81 1,oJ 82 (.bin .add (.t 81) (.c (.p (.int .i64 1)))),oJ 83 (.call ce [(.t 80),(.t 82)]),oM 84 83,⟨(some 85),some (84,true),.fldA 4 (.t 2)⟩,⟨(some 86),some (84,true),.ld none (.t 85)⟩,⟨(some 87),some (84,true),.mov (.t 1)⟩,⟨(some 88),some (84,true),.bin .add (.t 87) (.c (.p (.int .i64 1)))⟩,⟨(some 89),some (84,true),.call ce [(.t 86),(.t 88)]⟩,oJ 90 (.pick (.t 84) (.t 89) (.c (.p (.bool false)))),oM 4 90]) (.ret)))))
theorem rI:K_impl_stmtOk.whole=F_impl_stmtOk.ak:=rfl
variable (G:aG)
def lp(op:Int):Int:=if op=4 then 2 else if inR op 1 8 then 1 else-1
def gr(op:Int):Bool:=decide (op=5)||decide (op=6)
theorem qS(op:Int):VF Tryd.prog G ed [.p (.int .i64 op)] (.tup [.p (.int .i64 (lp op)),.p (.bool (cn op)),.p (.bool (gr op)),.p (.bool (decide (op=5)))]):=by
 refine AC.go pq ?_
 by_cases h1:op=1
 ·subst h1;simp-implicitDefEqProofs[bf,lp,inR,cn,gr]
 by_cases h2:op=2
 ·subst h2;simp-implicitDefEqProofs[bf,lp,inR,cn,gr]
 by_cases h3:op=3
 ·subst h3;simp-implicitDefEqProofs[bf,lp,inR,cn,gr]
 by_cases h4:op=4
 ·subst h4;simp-implicitDefEqProofs[bf,lp,inR,cn,gr]
 by_cases h5:op=5
 ·subst h5;simp-implicitDefEqProofs[bf,lp,inR,cn,gr]
 by_cases h6:op=6
 ·subst h6;simp-implicitDefEqProofs[bf,lp,inR,cn,gr]
 by_cases h7:op=7
 ·subst h7;simp-implicitDefEqProofs[bf,lp,inR,cn,gr]
 by_cases h8:op=8
 ·subst h8;simp-implicitDefEqProofs[bf,lp,inR,cn,gr]
 have ha:lp op= -1:=by
  have:inR op 1 8=false:=by simp[inR];omega
  rw[lp,if_neg h4,this];rfl
 have hn:cn op=false:=by simp[cn,h1,h2]
 have hb:gr op=false:=by simp[gr,h5,h6]
 rw[ha,hn,hb]
 simp-implicitDefEqProofs[bf,h1,h2,h3,h4,h5,h6,h7,h8]
def vL:List Ex→Bool
 |a::_=>decide (a.op=13)
 |[]=>false
def gl(s:Sm):Bool:=decide ((s.args.length:Int)=lp s.op)&&(!cn s.op||aD s.name)&&(cn s.op||decide (s.name=[]))&&(gr s.op||decide (s.body=[]))&&(decide (s.op=5)||decide (s.els=[]))&&
 (!decide (s.op=8)||vL s.args)
theorem xN(s:Sm):gB s=(inR s.op 1 8&&decide (s.args.length=iG s.op)&&(cn s.op==aD s.name)&&(cn s.op||decide (s.name=[]))&&s.args.all jP&&
 (!decide (s.op=8)||vL s.args)&&(s.els.isEmpty||decide (s.op=5))&&(s.body.isEmpty||decide (s.op=5)||decide (s.op=6))):=by
 unfold gB
 cases s.args<;>rfl
theorem uL(s:Sm):gB s=(gl s&&s.args.all jP):=by
 have ha:decide ((s.args.length:Int)=lp s.op)=(inR s.op 1 8&&decide (s.args.length=iG s.op)):=by
  unfold lp iG
  by_cases h4:s.op=4
  ·have:inR s.op 1 8=true:=by simp[inR,h4]
   rw[this,if_pos h4,if_pos h4];simp;omega
  ·rw[if_neg h4,if_neg h4]
   cases h:inR s.op 1 8 with
   |true=>simp;omega
   |false=>simp
 have hn:(cn s.op==aD s.name&&(cn s.op||decide (s.name=[])))=((!cn s.op||aD s.name)&&(cn s.op||decide (s.name=[]))):=by
  cases cn s.op with
  |true=>cases aD s.name<;>rfl
  |false=>
   by_cases h:s.name=[]
   ·rw[h,mE];rfl
   ·simp[h]
 have hb:(s.body.isEmpty||decide (s.op=5)||decide (s.op=6))=(gr s.op||decide (s.body=[])):=by
  rw[gr]
  cases s.body<;>cases decide (s.op=5)<;>cases decide (s.op=6)<;>simp
 have he:(s.els.isEmpty||decide (s.op=5))=(decide (s.op=5)||decide (s.els=[])):=by
  cases s.els<;>cases decide (s.op=5)<;>simp
 rw[xN]
 unfold gl
 rw[ha,hb,he]
 generalize vL s.args=z
 generalize (cn s.op==aD s.name)=c at hn⊢
 generalize (!cn s.op||aD s.name)=c' at hn⊢
 generalize (cn s.op||decide (s.name=[]))=d at hn⊢
 generalize s.args.all jP=x
 generalize (gr s.op||decide (s.body=[]))=y
 generalize (decide (s.op=5)||decide (s.els=[]))=y'
 generalize (!decide (s.op=8))=u
 cases inR s.op 1 8<;>cases decide (s.args.length=iG s.op)<;>cases c<;>cases c'<;>cases d<;>cases x<;>cases y<;>cases y'<;>cases u<;>cases z<;>simp_all
variable (hK:G iW=some gm) (hS:G gR=some [.tbl opK opV])
def wn(d:Nat)(L:List Sm):Int:=match L.findIdx? (fun s=> !aI d s) with|some i=>i|none=> -1
theorem zf(d:Nat)(L:List Sm):decide (0≤wn d L)= !(L.all (aI d)):=by
 unfold wn
 cases h:L.findIdx? (fun x=> !aI d x) with
 |none=>
  rw[List.findIdx?_eq_none_iff] at h
  have:L.all (aI d)=true:=List.all_eq_true.2 fun x hx=>by have:=h x hx;simpa using this
  simp[this]
 |some i=>
  rw[List.findIdx?_eq_some_iff_getElem] at h
  obtain⟨h1,h2,_⟩:=h
  have:L.all (aI d)=false:=List.all_eq_false.2 ⟨_,List.getElem_mem h1,by simpa using h2⟩
  rw[this];simp
theorem oU(d:Nat)(nest:Int)(hs:∀s:Sm,s.sz≤1073741824→VF Tryd.prog G fQ [.agg (s.cs.map .p),.p (.int .i64 nest)] (.p (.bool (aI d s))))(L:List Sm)(hL:aC L≤1073741824):
 VF Tryd.prog G ce [.p (smL L),.p (.int .i64 nest)] (.p (.bool (L.all (aI d)))):=by
 have hsl:smL L= .lst 5 (L.map Sm.cs):=rfl
 have hll:=bO L
 have one:∀s:Sm,s.sz≤1073741824→AC Tryd.prog G bZ [.agg (s.cs.map .p),.ptr 0 1 0 0] [.row 1 [[.p (.int .i64 nest)]]] fun x h=>x= .ret (.p (.bool (!aI d s)))∧h=[.row 1 [[.p (.int .i64 nest)]]]:=by
  intro s hz
  refine AC.trim (AC.go ox ?_) (by simp[below])
  have hse:=s.cs_eq
  have h1:=hs s hz
  rw[hse] at h1
  simp-implicitDefEqProofs[jh,hse]
  refine h1.use ?_
  simp-implicitDefEqProofs[]
 have idx:AC Tryd.prog G bM [.p (smL L),.fn (.func bZ) [.ptr 0 1 0 0]] [.row 1 [[.p (.int .i64 nest)]]] fun x h=>x= .ret (.p (.int .i64 (wn d L)))∧h=[.row 1 [[.p (.int .i64 nest)]]]:=by
  refine AC.go gv ?_
  simp-implicitDefEqProofs[dd,hsl]
  refine aR (fun i:Nat=>am 19 [(0,.p (smL L)),(1,.fn (.func bZ) [.ptr 0 1 0 0]),(7,.p (.int .i64 L.length)),(8,.p (.int .i64 i))]) (fun _=>[.row 1 [[.p (.int .i64 nest)]]]) (fun i=>i≤L.length∧∀w∈L.take i,aI d w=true) (fun i=>L.length-i) 0 (by simp) ?_ ?_
  ·exact ab (by simp) (by simp[okO,below]) (by simp[below,ah,hsl])
  ·intro i ⟨hi,hn⟩
   simp-implicitDefEqProofs[hsl]
   refine bc (fun h1=>?_) (fun h1=>?_)
   ·simp at h1
    have hg:=List.getElem?_eq_getElem h1
    have hz:=eZ (List.getElem_mem h1)
    simp-implicitDefEqProofs[hg]
    refine(one L[i] (by omega)).mono ?_
    rintro r h ⟨rfl,rfl⟩
    by_cases he:aI d L[i]=true
    ·simp-implicitDefEqProofs[aa,he]
     refine⟨i+1,⟨h1,fun p hp=>?_⟩,by omega,ab (by simp) (by simp[okO,below]) (by simp[below,ah,hsl,w1 (i:=i) (by omega)])⟩
     rw[au h1] at hp
     rcases List.mem_append.1 hp with hp|hp
     ·exact hn p hp
     ·rw[List.mem_singleton.1 hp];exact he
    ·have hf:wn d L=i:=by
      have:L.findIdx? (fun w=> !aI d w)=some i:=by
       rw[List.findIdx?_eq_some_iff_getElem]
       exact⟨h1,by simpa using he,fun j hj=>by have:=hn L[j] (List.mem_take_iff_getElem.2 ⟨j,by omega,rfl⟩);simpa using this⟩
      rw[wn,this]
     simp-implicitDefEqProofs[aa,he,hf]
   ·simp at h1
    rw[List.take_of_length_le h1] at hn
    have hf:wn d L= -1:=by
     have:L.findIdx? (fun w=> !aI d w)=none:=by
      rw[List.findIdx?_eq_none_iff];intro x hx;simpa using hn x hx
     rw[wn,this]
    simp-implicitDefEqProofs[hf]
 have con:AC Tryd.prog G bz [.p (smL L),.fn (.func bZ) [.ptr 0 1 0 0]] [.row 1 [[.p (.int .i64 nest)]]] fun x h=>x= .ret (.p (.bool (!L.all (aI d))))∧h=[.row 1 [[.p (.int .i64 nest)]]]:=by
  refine AC.go fq ?_
  simp-implicitDefEqProofs[cI]
  refine idx.mono ?_
  rintro r h ⟨rfl,rfl⟩
  have:=zf d L
  simp-implicitDefEqProofs[aa]
  simpa using this
 refine AC.go ro ?_
 simp-implicitDefEqProofs[ku]
 refine con.mono ?_
 rintro r h ⟨rfl,rfl⟩
 simp-implicitDefEqProofs[aa]
include hS hK
theorem zA:∀d:Nat,d≤4→∀s:Sm,s.sz≤1073741824→VF Tryd.prog G fQ [.agg (s.cs.map .p),.p (.int .i64 (5-d))] (.p (.bool (aI d s))):=by
 intro d
 induction d with
 |zero=>
  intro _ s hz
  have hse:=s.cs_eq
  refine AC.go lE ?_
  simp-implicitDefEqProofs[F_impl_stmtOk,hse]
  refine(qS G _).use ?_
  simp-implicitDefEqProofs[aI]
 |succ d ih=>
  intro hd s hz
  have hse:=s.cs_eq
  have hsz:=s.sz_eq
  have hal:=bQ s.args
  have hblk:=oU G d (5-d) (ih (by omega))
  have hnn:(5:Int)-((d+1:Nat):Int)=4-d:=by omega
  have hnw:IntKind.i64.wrap (4-(d:Int)+1)=5-d:=by rw[ag (by omega) (by omega)];omega
  have hn4:¬(4:Int)<4-d:=by omega
  have hxl:exL s.args= .lst 4 (s.args.map Ex.cs):=rfl
  have hsl:∀l,smL l= .lst 5 (l.map Sm.cs):=fun _=>rfl
  rw[hnn]
  have hbad:gl s=false→aI (d+1) s=false:=fun h=>by rw[aI,uL,h];rfl
  refine AC.goK lE rI ?_
  simp-implicitDefEqProofs[K_impl_stmtOk,F_impl_stmtOk,hse]
  refine(qS G _).use ?_
  simp-implicitDefEqProofs[]
  refine pI (fun _:Unit=>am 91 [(1,.p (.int .i64 (4-d))),(2,.ptr 0 5 0 0)]) (fun _=>[.row 5 [[.p (.int .i64 s.op),.p (.str s.name),.p (exL s.args),.p (smL s.body),.p (smL s.els)]]]) (fun _=>gl s=true) ?_ ?_
  ·have fin:∀(r1:List (Nat × AV)),Aw.look r1 1= .p (.int .i64 (4-d))→Aw.look r1 2= .ptr 0 5 0 0→
    Wk 0 (am 91 r1) [.row 5 [[.p (.int .i64 s.op),.p (.str s.name),.p (exL s.args),.p (smL s.body),.p (smL s.els)]]] (am 91 [(1,.p (.int .i64 (4-d))),(2,.ptr 0 5 0 0)]) [.row 5 [[.p (.int .i64 s.op),.p (.str s.name),.p (exL s.args),.p (smL s.body),.p (smL s.els)]]]:=fun r1 a b=>
    ab (by simp) (by simp[okO,below]) (by simp[below,a,b])
   have hb0:s.body=[]∨0<s.body.length:=by cases s.body<;>simp
   have he0:s.els=[]∨0<s.els.length:=by cases s.els<;>simp
   by_cases hl:(s.args.length:Int)=lp s.op
   case neg=>
    rw[hbad (by simp[gl,hl])]
    simp-implicitDefEqProofs[hn4,hxl,hl]
   have hel:(decide (s.els=[]))= !decide (0<s.els.length):=by cases s.els<;>simp
   have hbo:(decide (s.body=[]))= !decide (0<s.body.length):=by cases s.body<;>simp
   simp-implicitDefEqProofs[hn4,hxl,hl]
   refine iu (am 91 [(1,.p (.int .i64 (4-d))),(2,.ptr 0 5 0 0),(6,.p (.bool (cn s.op))),(7,.p (.bool (gr s.op))),(8,.p (.bool (decide (s.op=5)))),(19,.p (.bool (cn s.op&& !aD s.name)))]) ([.row 5 [[.p (.int .i64 s.op),.p (.str s.name),.p (exL s.args),.p (smL s.body),.p (smL s.els)]]]) ?_ ?_
   ·cases hn:cn s.op with
    |true=>
     simp-implicitDefEqProofs[]
     refine(kG G hK _ (by omega)).use ?_
     simp-implicitDefEqProofs[]
     exact ab (by simp) (by simp[okO,below]) (by simp[below])
    |false=>
     simp-implicitDefEqProofs[]
     exact ab (by simp) (by simp[okO,below]) (by simp[below])
   by_cases h2:(cn s.op&& !aD s.name)=true
   ·rw[hbad (by simp only[gl];cases h:cn s.op<;>cases h':aD s.name<;>simp[h,h'] at h2⊢)]
    simp-implicitDefEqProofs[h2]
   have h2':(cn s.op&& !aD s.name)=false:=by simpa using h2
   rw[h2']
   simp-implicitDefEqProofs[]
   refine iu (am 91 [(1,.p (.int .i64 (4-d))),(2,.ptr 0 5 0 0),(6,.p (.bool (cn s.op))),(7,.p (.bool (gr s.op))),(8,.p (.bool (decide (s.op=5)))),(19,.p (.bool (!cn s.op&& !decide (s.name=[]))))]) ([.row 5 [[.p (.int .i64 s.op),.p (.str s.name),.p (exL s.args),.p (smL s.body),.p (smL s.els)]]]) ?_ ?_
   ·cases hn:cn s.op with
    |true=>
     simp-implicitDefEqProofs[]
     exact ab (by simp) (by simp[okO,below]) (by simp[below])
    |false=>
     simp-implicitDefEqProofs[]
     exact ab (by simp) (by simp[okO,below]) (by simp[below])
   by_cases h3:(!cn s.op&& !decide (s.name=[]))=true
   ·rw[hbad (by simp only[gl];cases h:cn s.op<;>cases h':decide (s.name=[])<;>simp[h,h'] at h3⊢)]
    simp-implicitDefEqProofs[h3]
   have h3':(!cn s.op&& !decide (s.name=[]))=false:=by simpa using h3
   rw[h3']
   simp-implicitDefEqProofs[]
   refine iu (am 91 [(1,.p (.int .i64 (4-d))),(2,.ptr 0 5 0 0),(6,.p (.bool (cn s.op))),(7,.p (.bool (gr s.op))),(8,.p (.bool (decide (s.op=5)))),(19,.p (.bool (!gr s.op&&decide (0<s.body.length))))]) ([.row 5 [[.p (.int .i64 s.op),.p (.str s.name),.p (exL s.args),.p (smL s.body),.p (smL s.els)]]]) ?_ ?_
   ·cases hn:gr s.op with
    |true=>
     simp-implicitDefEqProofs[hsl]
     exact ab (by simp) (by simp[okO,below]) (by simp[below])
    |false=>
     simp-implicitDefEqProofs[hsl]
     exact ab (by simp) (by simp[okO,below]) (by simp[below])
   by_cases h4:(!gr s.op&&decide (0<s.body.length))=true
   ·rw[hbad (by simp only[gl,hbo];cases h:gr s.op<;>cases h':decide (0<s.body.length)<;>simp[h,h'] at h4⊢)]
    simp-implicitDefEqProofs[h4]
   have h4':(!gr s.op&&decide (0<s.body.length))=false:=by simpa using h4
   rw[h4']
   simp-implicitDefEqProofs[]
   refine iu (am 91 [(1,.p (.int .i64 (4-d))),(2,.ptr 0 5 0 0),(6,.p (.bool (cn s.op))),(7,.p (.bool (gr s.op))),(8,.p (.bool (decide (s.op=5)))),(19,.p (.bool (!decide (s.op=5)&&decide (0<s.els.length))))]) ([.row 5 [[.p (.int .i64 s.op),.p (.str s.name),.p (exL s.args),.p (smL s.body),.p (smL s.els)]]]) ?_ ?_
   ·cases hn:decide (s.op=5) with
    |true=>
     simp-implicitDefEqProofs[hsl]
     exact ab (by simp) (by simp[okO,below]) (by simp[below])
    |false=>
     simp-implicitDefEqProofs[hsl]
     exact ab (by simp) (by simp[okO,below]) (by simp[below])
   by_cases h5:(!decide (s.op=5)&&decide (0<s.els.length))=true
   ·rw[hbad (by simp only[gl,hel];cases h:decide (s.op=5)<;>cases h':decide (0<s.els.length)<;>simp[h,h'] at h5⊢)]
    simp-implicitDefEqProofs[h5]
   have h5':(!decide (s.op=5)&&decide (0<s.els.length))=false:=by simpa using h5
   rw[h5']
   have hh1:gl s=(!decide (s.op=8)||vL s.args):=by
    simp only[gl,hl,decide_true,Bool.true_and,hel,hbo]
    cases h:cn s.op<;>cases hi:aD s.name<;>cases hm:decide (s.name=[])<;>cases hb:gr s.op<;>cases hc:decide (0<s.body.length)<;>cases ho:decide (s.op=5)<;>cases he:decide (0<s.els.length)<;>simp[h,hi,hm,hb,hc,ho,he] at h2' h3' h4' h5'⊢
   by_cases o8:s.op=8
   ·have ha1:s.args.length=1:=by
     have:lp s.op=1:=by rw[o8];rfl
     omega
    obtain⟨a0,ha0⟩:∃a0,s.args=[a0]:=by
     match hh:s.args,ha1 with
     |[x],_=>exact⟨x,rfl⟩
    have hae:=a0.cs_eq
    rw[hh1,o8,ha0]
    rw[o8,ha0] at fin
    have hxa:exL [a0]= .lst 4 [a0.cs]:=rfl
    by_cases hc:a0.op=13
    ·have h13:vL [a0]=true:=by simp[vL,hc]
     simp-implicitDefEqProofs[o8,hae,hc,h13,hxa]
     rw[hxa,hae,hc] at fin
     exact fin _ (by simp) (by simp)
    ·rw[hbad (by rw[hh1,o8,ha0];simp[vL,hc])]
     simp-implicitDefEqProofs[o8,hae,hc,hxa]
   ·have hh2:gl s=true:=by rw[hh1];simp[o8]
    simp-implicitDefEqProofs[o8,hh2]
    exact fin _ (by simp) (by simp)
  intro _ h1
  have hh:aI (d+1) s=(s.args.all jP&&(s.body.all (aI d)&&s.els.all (aI d))):=by rw[aI,uL,h1,Bool.true_and,Bool.and_assoc]
  simp-implicitDefEqProofs[hxl]
  refine aR (fun i:Nat=>am 91 [(1,.p (.int .i64 (4-d))),(2,.ptr 0 5 0 0),(69,.p (exL s.args)),(70,.p (.int .i64 s.args.length)),(71,.p (.int .i64 i))]) (fun _=>[.row 5 [[.p (.int .i64 s.op),.p (.str s.name),.p (exL s.args),.p (smL s.body),.p (smL s.els)]]]) (fun i=>i≤s.args.length∧(s.args.take i).all jP=true) (fun i=>s.args.length-i) 0 (by simp) ?_ ?_
  ·exact ab (by simp) (by simp[okO,below]) (by simp[below,hxl])
  rintro i ⟨hi,ha⟩
  simp-implicitDefEqProofs[hxl]
  refine bc (fun h=>?_) (fun h=>?_)
  ·simp at h
   have hg:=List.getElem?_eq_getElem h
   have hks:=cf (List.getElem_mem h)
   have hkc:=s.args[i].cs_eq
   have hx:=ur G hK hS s.args[i] (by omega)
   rw[hkc] at hx
   simp-implicitDefEqProofs[hg,hkc]
   refine hx.use ?_
   by_cases ho:jP s.args[i]=true
   ·simp-implicitDefEqProofs[ho]
    refine⟨i+1,⟨h,by rw[←List.all_eq_true,di h,ha,ho];rfl⟩,by omega,?_⟩
    refine eM (m:=1) (by omega) (cR rfl rfl (by simp[okO,below])) (by simp[below,hxl,w1 (i:=i) (by omega)])
   ·have ho':jP s.args[i]=false:=by simpa using ho
    rw[hh,jy h ho']
    simp-implicitDefEqProofs[ho']
  ·simp at h
   have ha2:s.args.all jP=true:=eK h ha
   rw[hh,ha2,Bool.true_and]
   simp-implicitDefEqProofs[hnw]
   refine(hblk s.body (by omega)).use ?_
   cases hb:s.body.all (aI d) with
   |true=>
    simp-implicitDefEqProofs[hnw]
    refine(hblk s.els (by omega)).use ?_
    simp-implicitDefEqProofs[]
   |false=>
    simp-implicitDefEqProofs[]
end Go.Proofs.YtiojgfhdcpppcaaDoor
namespace Go.Proofs.YtiojgfhdcpppcaaDoor
open Go Go.Aw
set_option maxRecDepth 100000
set_option maxHeartbeats 4000000
variable (G:aG)
structure Vis (σ:Type) where
 I:σ→List AO
 n:Nat
 F:FuncId
 caps:List AV
 len:∀st,(I st).length=n
 ok:∀st,∀o∈I st,okO n o
 capsOk:ah n caps
theorem Vis.pre{σ:Type}(V:Vis σ){f:FuncId}{args:List AV}{st st':σ}{v:AV}(H:AC Tryd.prog G f args (V.I st) fun x h=>x= .ret v∧h=V.I st')(rest:List AO)(ha:ah V.n args):
 AC Tryd.prog G f args (V.I st++rest) fun x h=>x= .ret v∧h=V.I st'++rest:=by
 refine(AC.pre H rest (by rw[V.len];exact ha) (by rw[V.len];exact V.ok st) ?_).mono ?_
 ·rintro x h ⟨_,rfl⟩;rw[V.len,V.len]
 ·rintro x h ⟨h1,⟨rfl,rfl⟩,rfl⟩
  exact⟨rfl,rfl⟩
theorem Vis.trim{σ:Type}(V:Vis σ){f:FuncId}{args:List AV}{st st':σ}{v:AV}(H:AC Tryd.prog G f args (V.I st) fun x h=>x= .ret v∧∃l,h=V.I st'++l)(hv:below V.n v):
 AC Tryd.prog G f args (V.I st) fun x h=>x= .ret v∧h=V.I st':=by
 refine H.wk (fun t v h ⟨e,_⟩=>by cases e) ?_
 rintro u h ⟨e,l,rfl⟩
 cases e
 refine⟨v,V.I st',rb (n:=V.n) (by rw[V.len];exact Nat.le_refl _) (cR (by rw[←V.len st',List.take_left'];rfl) (V.len _) (V.ok _)) ?_,rfl,rfl⟩
 simp[Fgt,hv]
theorem nq{n m:Nat}(h:n≤m){o:AO}(ho:okO n o):okO m o:=by
 cases o with
 |dead=>trivial
 |sit=>trivial
 |row sz es=>exact fun e he=>aW h _ (ho e he)
 |mp es=>exact fun e he=>(aW h [e.2] ⟨ho e he,trivial⟩).1
theorem Vis.oks{σ:Type}(V:Vis σ)(st:σ){m:Nat}(hm:V.n≤m){r:List AO}(hr:∀o∈r,okO m o):∀o∈V.I st++r,okO m o:=by
 intro o ho
 rcases List.mem_append.1 ho with h|h
 ·exact nq hm (V.ok st o h)
 ·exact hr o h
theorem Vis.same{σ:Type}(V:Vis σ)(st:σ){k n:Nat}(hk:k≤V.n){r s:List AO}{l l1:List (Nat × AV)}(hr:∀o∈r,okO (V.n+r.length) o)(H:FgA (V.n+r.length) l l1):Wk k (am n l) (V.I st++(r++s)) (am n l1) (V.I st++r):=by
 have hl:(V.I st++r).length=V.n+r.length:=by rw[List.length_append,V.len]
 refine eM (m:=V.n+r.length) (by omega) (cR ?_ hl (V.oks st (by omega) hr)) H
 rw[←List.append_assoc,←hl,List.take_left'];rfl
theorem Vis.same0{σ:Type}(V:Vis σ)(st:σ){k n:Nat}(hk:k≤V.n){s:List AO}{l l1:List (Nat × AV)}(H:FgA V.n l l1):Wk k (am n l) (V.I st++s) (am n l1) (V.I st):=by
 refine eM (m:=V.n) (by omega) (cR ?_ (V.len _) (V.ok st)) H
 rw[←V.len st,List.take_left'];rfl
theorem CF{α:Type}{a b:List α}{n:Nat}(h:a.length=n)(i:Nat):(a++b)[n+i]?=b[i]?:=by
 rw[←h,List.getElem?_append_right (by omega)];congr 1;omega
theorem Cr{σ:Type}(V:Vis σ)(step:σ→Ex→σ)(inv:σ→Prop)(B:Nat)(hB:B≤1073741824)
 (hv:∀st e,inv st→e.sz≤B→inv (step st e)∧AC Tryd.prog G V.F (.agg (e.cs.map .p)::V.caps) (V.I st) fun x h=>x= .ret (.tup [])∧h=V.I (step st e)):
 ∀(N:Nat) (e:Ex),e.sz<N→e.sz≤B→∀st,inv st→inv (e.pre.foldl step st)∧AC Tryd.prog G gH [.agg (e.cs.map .p),.fn (.func V.F) V.caps] (V.I st) fun x h=>x= .ret (.tup [])∧h=V.I (e.pre.foldl step st):=by
 intro N
 induction N with
 |zero=>intro e h;omega
 |succ N ih=>
  intro e he hz st hi
  have hec:=e.cs_eq
  have hsz:=e.sz_eq
  have hkl:=bQ e.kids
  have hxl:exL e.kids= .lst 4 (e.kids.map Ex.cs):=rfl
  have hlen:=V.len
  obtain⟨i1,h1⟩:=hv st e hi hz
  have hinv:∀i,i≤e.kids.length→inv ((fI (e.kids.take i)).foldl step (step st e)):=by
   intro i
   induction i with
   |zero=>intro _;exact i1
   |succ i ihi=>
    intro hl
    have hg:i<e.kids.length:=by omega
    have hks:=cf (List.getElem_mem hg)
    rw[au hg,mQ,List.foldl_append,fI,fI,List.append_nil]
    exact(ih e.kids[i] (by omega) (by omega) _ (ihi (by omega))).1
  refine⟨?_,?_⟩
  ·rw[Ex.pre_eq,List.foldl_cons]
   have:=hinv e.kids.length (Nat.le_refl _)
   rwa[List.take_length] at this
  refine V.trim G (AC.go tz ?_) (by simp[below])
  have hcb:=V.capsOk
  have hcb1:ah (V.n+1) V.caps:=aW (by omega) _ hcb
  rw[hec] at h1
  simp-implicitDefEqProofs[mW,hec,hlen]
  refine(V.pre G h1 _ ⟨by simp[below],hcb⟩).mono ?_
  rintro r h ⟨rfl,rfl⟩
  simp-implicitDefEqProofs[aa,hlen,hxl]
  refine aR (fun i:Nat=>am 20 [(1,.fn (.func V.F) V.caps),(2,.ptr V.n 4 0 0),(10,.p (exL e.kids)),(11,.p (.int .i64 e.kids.length)),(12,.p (.int .i64 i))])
   (fun i=>V.I ((fI (e.kids.take i)).foldl step (step st e))++[.row 4 [[.p (.int .i64 e.op),.p (.int .i64 e.n),.p (.str e.name),.p (exL e.kids)]]]) (fun i=>i≤e.kids.length) (fun i=>e.kids.length-i) 0 (by simp) ?_ ?_
  ·refine V.same (r:=[_]) (s:=[]) _ (Nat.le_refl _) (by simp[okO,below]) ?_
   simp[below,hxl,hcb1]
  intro i hil
  simp-implicitDefEqProofs[hxl]
  refine bc (fun hc=>?_) (fun hc=>?_)
  ·simp at hc
   have hg:=List.getElem?_eq_getElem hc
   have hks:=cf (List.getElem_mem hc)
   have hkc:=e.kids[i].cs_eq
   have hI:=(ih e.kids[i] (by omega) (by omega) _ (hinv i hil)).2
   rw[hkc] at hI
   simp-implicitDefEqProofs[hg,hkc,hlen]
   refine(V.pre G hI _ ⟨by simp[below],by simp[below,hcb],trivial⟩).mono ?_
   rintro r h ⟨rfl,rfl⟩
   simp-implicitDefEqProofs[aa]
   refine⟨i+1,hc,by omega,?_⟩
   have hf:(fI (e.kids.take (i+1))).foldl step (step st e)=e.kids[i].pre.foldl step ((fI (e.kids.take i)).foldl step (step st e)):=by
    rw[au hc,mQ,List.foldl_append,fI,fI,List.append_nil]
   rw[hf]
   refine V.same (r:=[_]) (s:=[_]) _ (Nat.le_refl _) (by simp[okO,below]) ?_
   simp[below,hxl,hcb1,w1 (i:=i) (by omega)]
  ·simp at hc
   have hie:i=e.kids.length:=by omega
   subst hie
   rw[List.take_length,Ex.pre_eq,List.foldl_cons]
   simp-implicitDefEqProofs[]
theorem xd{σ:Type}(V:Vis σ)(step:σ→Sm × Nat→σ)(inv:σ→Prop)(B:Nat)(hB:B≤1073741824)
 (hv:∀st s d,inv st→s.sz≤B→inv (step st (s,d))∧AC Tryd.prog G V.F (.agg (s.cs.map .p):: .p (.int .i64 (d:Nat))::V.caps) (V.I st) fun x h=>x= .ret (.tup [])∧h=V.I (step st (s,d))):
 ∀(N:Nat) (l:List Sm),aC l<N→aC l≤B→∀(d:Nat),d+aC l≤1099511627776→∀st,inv st→inv ((bv d l).foldl step st)∧AC Tryd.prog G dJ [.p (smL l),.p (.int .i64 d),.fn (.func V.F) V.caps] (V.I st) fun x h=>x= .ret (.tup [])∧h=V.I ((bv d l).foldl step st):=by
 intro N
 induction N with
 |zero=>intro l h;omega
 |succ N ih=>
  intro l hl hz d hd st hi
  have hll:=bO l
  have hlen:=V.len
  have hsl:∀l,smL l= .lst 5 (l.map Sm.cs):=fun _=>rfl
  have hone:∀s:Sm,s∈l→∀st,inv st→inv ((s.pre d).foldl step st):=by
   intro s hs st hi
   have hm:=eZ hs
   have hsz:=s.sz_eq
   have i1:=(hv st s d hi (by omega)).1
   have i2:=(ih s.body (by omega) (by omega) (d+1) (by omega) _ i1).1
   have i3:=(ih s.els (by omega) (by omega) (d+1) (by omega) _ i2).1
   rw[Sm.pre_eq,List.foldl_cons,List.foldl_append]
   exact i3
  have hinv:∀i,i≤l.length→inv ((bv d (l.take i)).foldl step st):=by
   intro i
   induction i with
   |zero=>intro _;exact hi
   |succ i ihi=>
    intro hl
    have hg:i<l.length:=by omega
    rw[au hg,me,List.foldl_append,bv,bv,List.append_nil]
    exact hone _ (List.getElem_mem hg) _ (ihi (by omega))
  refine⟨?_,?_⟩
  ·have:=hinv l.length (Nat.le_refl _)
   rwa[List.take_length] at this
  refine V.trim G (AC.go sR ?_) (by simp[below])
  have hcb:=V.capsOk
  simp-implicitDefEqProofs[mU,hsl]
  refine aR (fun i:Nat=>am 31 [(1,.p (.int .i64 d)),(2,.fn (.func V.F) V.caps),(8,.p (smL l)),(9,.p (.int .i64 l.length)),(10,.p (.int .i64 i))])
   (fun i=>V.I ((bv d (l.take i)).foldl step st)) (fun i=>i≤l.length) (fun i=>l.length-i) 0 (by simp) ?_ ?_
  ·rw[hlen]
   have:=V.same0 (s:=[]) st (k:=V.n) (n:=31) (Nat.le_refl _) (l:=[(10,.p (.int .i64 0)),(9,.p (.int .i64 l.length)),(8,.p (smL l)),(0,.p (smL l)),(1,.p (.int .i64 d)),(2,.fn (.func V.F) V.caps)]) (l1:=[(1,.p (.int .i64 d)),(2,.fn (.func V.F) V.caps),(8,.p (smL l)),(9,.p (.int .i64 l.length)),(10,.p (.int .i64 0))]) (by simp[below,hcb])
   rw[List.append_nil] at this
   exact this
  intro i hil
  simp-implicitDefEqProofs[hsl]
  refine bc (fun hc=>?_) (fun hc=>?_)
  ·simp at hc
   have hg:=List.getElem?_eq_getElem hc
   have hks:=eZ (List.getElem_mem hc)
   have hkc:=l[i].cs_eq
   have hsz:=l[i].sz_eq
   have hf:(bv d (l.take (i+1))).foldl step st=(l[i].pre d).foldl step ((bv d (l.take i)).foldl step st):=by
    rw[au hc,me,List.foldl_append,bv,bv,List.append_nil]
   have ii:=hinv i hil
   obtain⟨i1,h1⟩:=hv _ l[i] d ii (by omega)
   obtain⟨i2,h2⟩:=ih l[i].body (by omega) (by omega) (d+1) (by omega) _ i1
   obtain⟨i3,h3⟩:=ih l[i].els (by omega) (by omega) (d+1) (by omega) _ i2
   rw[Sm.pre_eq,List.foldl_cons,List.foldl_append] at hf
   have hwd:IntKind.i64.wrap ((d:Int)+1)=((d+1:Nat):Int):=by rw[ag (by omega) (by omega)];omega
   rw[hkc] at h1
   simp-implicitDefEqProofs[hg,hkc,hlen]
   refine(V.pre G h1 _ ⟨by simp,by simp,hcb⟩).mono ?_
   rintro r h ⟨rfl,rfl⟩
   simp-implicitDefEqProofs[aa,hlen,hwd]
   refine(V.pre G h2 _ ⟨by simp,by simp,by simp[below,hcb],trivial⟩).mono ?_
   rintro r h ⟨rfl,rfl⟩
   simp-implicitDefEqProofs[aa,hlen,hwd]
   refine(V.pre G h3 _ ⟨by simp,by simp,by simp[below,hcb],trivial⟩).mono ?_
   rintro r h ⟨rfl,rfl⟩
   simp-implicitDefEqProofs[aa]
   refine⟨i+1,hc,by omega,?_⟩
   rw[hf]
   refine V.same0 (s:=[_]) _ (Nat.le_refl _) ?_
   simp[below,hsl,hcb,w1 (i:=i) (by omega)]
  ·simp at hc
   have hie:i=l.length:=by omega
   subst hie
   rw[List.take_length]
   simp-implicitDefEqProofs[]
end Go.Proofs.YtiojgfhdcpppcaaDoor
