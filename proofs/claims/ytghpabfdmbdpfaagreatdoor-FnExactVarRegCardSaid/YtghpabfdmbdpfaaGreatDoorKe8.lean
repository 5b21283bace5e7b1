/-
  Contracts and lemmas that the card needs, part 8.
-/
import Derived.Test.YtghpabfdmbdpfaaGreatDoorKe7
namespace Go.Proofs.YtghpabfdmbdpfaaGreatDoor
open Go Go.Aw
set_option maxRecDepth 100000
set_option maxHeartbeats 4000000
section
theorem pq:AK.whole eQ=FK.ak fb:=rfl
theorem Bg(fns:List Fd):∀(a b:List Fd) (k:Nat) (c:Int),iM fns k (a++b) c=iM fns (k+a.length) b (iM fns k a c)
 |[],b,k,c=>rfl
 |f::r,b,k,c=>by rw[TN,iM,iM,Bg fns r];congr 1;simp only[Tu];omega
theorem FU{fns l:List Fd}{i:Nat}{c:Int}(h:i<l.length):iM fns 0 (l.take (i+1)) c=icF fns i l[i] (iM fns 0 (l.take i) c):=by
 rw[an h,Bg,TD,Nat.min_eq_left (Nat.le_of_lt h),Ua];rfl
theorem JF(a b:List (List UInt8))(m:Scp)(c:Int):ka (a++b) m c=ka b (ka a m c).1 (ka a m c).2:=by simp[ka]
theorem Is{l:List (List UInt8)}{i:Nat}{m:Scp}{c:Int}(h:i<l.length):ka (l.take (i+1)) m c=(dW (ka (l.take i) m c).1 l[i] 0,if(eU (ka (l.take i) m c).1 l[i]).isSome then fl (ka (l.take i) m c).2 2 else(ka (l.take i) m c).2):=by
 rw[an h,JF];rfl
variable (G:aH) (hK:G ja=some gO) (hS:G dV=some [.tbl opK opV])
include hK hS
theorem vC(l:List Fd)(hl:bQ l<=1073741824):VF Tryz.prog G eD [.agg [.p (fdL l)]] (.p (.int .i64 (cA l))):=by
 have hll:=dc l
 have hfl:∀l,fdL l= .lst 3 (l.map Fd.cs):=λ_=>rfl
 rw[zd]
 refine AC.goK px pq ?_
 simp-implicitDefEqProofs[eQ,fb]
 refine(vA G hK hS l hl).use ?_
 by_cases hv:bI l=true
 case neg=>
  have hv':bI l=false:=by simpa using hv
  simp-implicitDefEqProofs[hv']
 rw[if_pos hv]
 simp-implicitDefEqProofs[hv,hfl]
 refine aG (λi:Nat=>ay 73 [(1,.ptr 0 1 0 0),(3,.ptr 1 3 0 0),(18,.p (fdL l)),(19,.p (.int .i64 l.length)),(20,.p (.int .i64 i))])
  (λi=>[.row 1 [[.p (fdL l)]],cO l (i-1) (iM l 0 (l.take i) 0)]) (λi=>i<=l.length) (λi=>l.length-i) 0 (by simp) ?_ ?_
 ·refine am (h:=[.row 1 [[.p (fdL l)]],cO l 0 0]) (by simp) (by simp[okO,below,cO]) (by simp[below,hfl])
 intro i hi
 have hbo:okO 0 (.row 1 [[.p (fdL l)]]):=by simp[okO]
 simp-implicitDefEqProofs[hfl]
 refine aJ (λh=>?_) (λh=>?_)
 ·simp at h
  have hg:=Tc h
  have hks:=dy (Tp h)
  have eT:=FU (fns:=l) (c:=0) h
  obtain⟨j,ej,ejl⟩:=AZ hg
  generalize l[i]=f at*
  have hcs:f.cs=[.str f.name,aR f.params,smL f.body]:=rfl
  have hfz:f.sz=1+f.name.length+(f.params.length+(f.params.map List.length).sum)+aA f.body:=rfl
  have hst:aR f.params= .lst 1 (f.params.map λw=>[.str w]):=rfl
  generalize iM l 0 (l.take i) 0=c0 at eT⊢
  simp-implicitDefEqProofs[hg,hcs,cO]
  have hic:icF l i f c0=(dU l i f.body (ka f.params [] (if j<i then fl c0 2 else c0)).1 [] (ka f.params [] (if j<i then fl c0 2 else c0)).2).2:=by
   rw[icF,ej];simp
  rw[hic] at eT
  clear hic
  refine pm (ay 73 [(1,.ptr 0 1 0 0),(3,.ptr 1 3 0 0),(4,.p (.int .i64 i)),(5,.ptr 2 3 0 0),(18,.p (fdL l)),(19,.p (.int .i64 l.length)),(20,.p (.int .i64 i))])
   [.row 1 [[.p (fdL l)]],cO l i (if j<i then fl c0 2 else c0),.row 3 [[.p (.str f.name),.p (aR f.params),.p (smL f.body)]]] ?_ ?_
  ·simp-implicitDefEqProofs[]
   refine(Fs G l f.name (by omega)).use ?_
   rw[ej]
   by_cases hj:j<i
   ·have hj':(j:Int)<(i:Int):=by omega
    rw[if_pos hj]
    simp-implicitDefEqProofs[ixI,hj']
    refine(Cb G (.row 1 [[.p (fdL l)]]) l i c0 2 [.row 3 [[.p (.str f.name),.p (aR f.params),.p (smL f.body)]]]).mono ?_
    rintro r h ⟨rfl,rfl⟩
    simp-implicitDefEqProofs[aa]
    exact am (by simp) (by simp[okO,below,cO]) (by simp[below,hfl])
   ·have hj':¬(j:Int)<(i:Int):=by omega
    rw[if_neg hj]
    simp-implicitDefEqProofs[ixI,hj']
    exact am (h:=[.row 1 [[.p (fdL l)]],cO l i c0,.row 3 [[.p (.str f.name),.p (aR f.params),.p (smL f.body)]]]) (by simp) (by simp[okO,below,cO]) (by simp[below,hfl])
  generalize (if j<i then fl c0 2 else c0)=c1 at eT⊢
  have hCH:∀(c:Int) (m:Scp),CH (.row 1 [[.p (fdL l)]]) l i c [⟨[.row 3 [[.p (.str f.name),.p (aR f.params),.p (smL f.body)]]],m⟩]=[.row 1 [[.p (fdL l)]],cO l i c,.row 3 [[.p (.str f.name),.p (aR f.params),.p (smL f.body)]],.mp (mpE m),.row 2 [[.mp 3,.nilp]]]:=λ_ _=>rfl
  simp-implicitDefEqProofs[]
  refine(nb G .nilp (.inl rfl) _).mono ?_
  rintro r h ⟨rfl,rfl⟩
  simp-implicitDefEqProofs[aa,hst]
  refine aG (λq:Nat=>ay 73 [(1,.ptr 0 1 0 0),(3,.ptr 1 3 0 0),(4,.p (.int .i64 i)),(5,.ptr 2 3 0 0),(6,.ptr 4 2 0 0),(18,.p (fdL l)),(19,.p (.int .i64 l.length)),(20,.p (.int .i64 i)),(39,.p (aR f.params)),(40,.p (.int .i64 f.params.length)),(41,.p (.int .i64 q))])
   (λq=>[.row 1 [[.p (fdL l)]],cO l i (ka (f.params.take q) [] c1).2,.row 3 [[.p (.str f.name),.p (aR f.params),.p (smL f.body)]],.mp (mpE (ka (f.params.take q) [] c1).1),.row 2 [[.mp 3,.nilp]]])
   (λq=>q<=f.params.length) (λq=>f.params.length-q) 0 (by simp) ?_ ?_
  ·exact am (h:=[.row 1 [[.p (fdL l)]],cO l i c1,.row 3 [[.p (.str f.name),.p (aR f.params),.p (smL f.body)]],.mp [],.row 2 [[.mp 3,.nilp]]]) (by simp) (by simp[okO,below,cO]) (by simp[below,hfl,hst])
  intro q hq
  have eP:=λh=>Is (l:=f.params) (i:=q) (m:=[]) (c:=c1) h
  generalize hP:ka (f.params.take q) [] c1=st at eP⊢
  obtain⟨mq,cq⟩:=st
  simp only at eP⊢
  simp-implicitDefEqProofs[hst]
  refine aJ (λhc=>?_) (λhc=>?_)
  ·simp at hc
   have hga:=Tc hc
   have eP:=eP hc
   generalize f.params[q]=nme at hga eP
   have hmg:=md nme mq
   have hms:jL (.str nme) (.p (.int .i64 0)) (mpE mq)=some (mpE (dW mq nme 0)):=by simpa using ou nme 0 mq
   have fin:∀(r1:List (Nat × AV)) (c2:Int),Aw.look r1 1= .ptr 0 1 0 0->Aw.look r1 3= .ptr 1 3 0 0->Aw.look r1 4= .p (.int .i64 i)->Aw.look r1 5= .ptr 2 3 0 0->Aw.look r1 6= .ptr 4 2 0 0->Aw.look r1 18= .p (fdL l)->Aw.look r1 19= .p (.int .i64 l.length)->Aw.look r1 20= .p (.int .i64 i)->Aw.look r1 39= .p (aR f.params)->Aw.look r1 40= .p (.int .i64 f.params.length)->Aw.look r1 41= .p (.int .i64 ((q:Int)+1))->
    Wk 0 (ay 73 r1) [.row 1 [[.p (fdL l)]],cO l i c2,.row 3 [[.p (.str f.name),.p (aR f.params),.p (smL f.body)]],.mp (mpE (dW mq nme 0)),.row 2 [[.mp 3,.nilp]]]
     (ay 73 [(1,.ptr 0 1 0 0),(3,.ptr 1 3 0 0),(4,.p (.int .i64 i)),(5,.ptr 2 3 0 0),(6,.ptr 4 2 0 0),(18,.p (fdL l)),(19,.p (.int .i64 l.length)),(20,.p (.int .i64 i)),(39,.p (aR f.params)),(40,.p (.int .i64 f.params.length)),(41,.p (.int .i64 ((q:Int)+1)))])
     [.row 1 [[.p (fdL l)]],cO l i c2,.row 3 [[.p (.str f.name),.p (aR f.params),.p (smL f.body)]],.mp (mpE (dW mq nme 0)),.row 2 [[.mp 3,.nilp]]]:=by
    intro r1 c2 e1 e3 e4 e5 e6 e18 e19 e20 e39 e40 e41
    refine am (by simp) (aE (by simp[okO]) (aE (by simp[okO,cO]) (aE (by simp[okO]) (aE (Da _ _) (aE (by simp[okO,below]) jA))))) ?_
    simp[below,e1,e3,e4,e5,e6,e18,e19,e20,e39,e40,e41]
   cases hh:eU mq nme with
   |none=>
    rw[hh] at hmg eP
    simp-implicitDefEqProofs[hga,hmg,hms]
    refine⟨q+1,by omega,by omega,?_⟩
    rw[eP]
    exact fin _ _ (by simp) (by simp) (by simp) (by simp) (by simp) (by simp[hfl]) (by simp) (by simp) (by simp[hst]) (by simp) (by simp[w1 (i:=q) (by omega)])
   |some n=>
    rw[hh] at hmg eP
    simp-implicitDefEqProofs[hga,hmg,hms]
    refine(Cb G (.row 1 [[.p (fdL l)]]) l i cq 2 _).mono ?_
    rintro r h ⟨rfl,rfl⟩
    simp-implicitDefEqProofs[aa,hms]
    refine⟨q+1,by omega,by omega,?_⟩
    rw[eP]
    exact fin _ _ (by simp) (by simp) (by simp) (by simp) (by simp) (by simp[hfl]) (by simp) (by simp) (by simp[hst]) (by simp) (by simp[w1 (i:=q) (by omega)])
  ·simp at hc
   have hqe:q=f.params.length:=by omega
   subst hqe
   rw[Tz] at hP
   rw[hP] at eT
   simp only at eT
   have hB:=ND G (.row 1 [[.p (fdL l)]]) (fns:=l) (k:=i) (by omega) (by omega) hbo (aA f.body+1) f.body (by omega) (by omega) [.row 3 [[.p (.str f.name),.p (aR f.params),.p (smL f.body)]]] mq [] cq ⟨by simp[okO],trivial⟩
   rw[hCH] at hB
   simp-implicitDefEqProofs[]
   refine hB.mono ?_
   rintro r h ⟨rfl,rfl⟩
   simp-implicitDefEqProofs[aa]
   refine⟨i+1,by omega,by omega,?_⟩
   rw[eT]
   refine eg (m:=2) (by omega) (cw rfl rfl (by simp[okO,below,cO])) (by simp[below,hfl,w1 (i:=i) (by omega)])
 ·simp at h
  have hie:i=l.length:=by omega
  subst hie
  rw[Tz]
  simp-implicitDefEqProofs[cO]
end
section
abbrev BL:Nat:=9223372036854775807
mutual
def Ex.fit:Ex->Prop
 | .mk _ _ s k=>s.length<=BL/\k.length<=BL/\mL k
def mL:List Ex->Prop
 |[]=>True
 |e::r=>e.fit/\mL r
end
mutual
def Sm.fit:Sm->Prop
 | .mk _ s a b e=>s.length<=BL/\(a.length<=BL/\mL a)/\(b.length<=BL/\kh b)/\(e.length<=BL/\kh e)
def kh:List Sm->Prop
 |[]=>True
 |s::r=>s.fit/\kh r
end
def Fd.fit(f:Fd):Prop:=f.name.length<=BL/\(f.params.length<=BL/\∀x∈f.params,x.length<=BL)/\(f.body.length<=BL/\kh f.body)
theorem rA:∀{l:List Ex} {e:Ex},mL l->e∈l->e.fit
 |x::r,e,h,hm=>by
  rcases Tf.1 hm with rfl|hm
  ·exact h.1
  ·exact rA h.2 hm
theorem ru:∀{l:List Sm} {e:Sm},kh l->e∈l->e.fit
 |x::r,e,h,hm=>by
  rcases Tf.1 hm with rfl|hm
  ·exact h.1
  ·exact ru h.2 hm
theorem Ex.fit_eq(e:Ex):e.fit=(e.name.length<=BL/\e.kids.length<=BL/\mL e.kids):=by cases e;rfl
theorem Sm.fit_eq(s:Sm):s.fit=(s.name.length<=BL/\(s.args.length<=BL/\mL s.args)/\(s.body.length<=BL/\kh s.body)/\(s.els.length<=BL/\kh s.els)):=by cases s;rfl
theorem Fd.cs_eq'(f:Fd):f.cs=[.str f.name,aR f.params,smL f.body]:=rfl
def dk(ss:List Nat)(i:Nat):Nat:=ss.length+((ss.take i).map (· -1)).sum
theorem tS(ss:List Nat):dk ss 0=ss.length:=by simp[dk]
theorem tG{ss:List Nat}{i v:Nat}(h:ss[i]?=some v):dk ss (i+1)=dk ss i+(v-1):=by
 rw[dk,dk,List.take_add_one,h,List.map_append,List.sum_append];simp;omega
theorem BX:∀{ss:List Nat},(∀v∈ss,1<=v)->ss.length+(ss.map (· -1)).sum=ss.sum
 |[],_=>rfl
 |v::r,h=>by
  have:=BX (ss:=r) λx hx=>h x (by simp[hx])
  have h1:=h v (by simp)
  simp only[Tu,TA,List.sum_cons];omega
theorem vP{ss:List Nat}(h:∀v∈ss,1<=v){i:Nat}(hi:ss.length<=i):dk ss i=ss.sum:=by
 rw[dk,Tl hi,BX h]
theorem BJ{ss:List Nat}(h:∀v∈ss,1<=v)(i:Nat):dk ss i<=ss.sum:=by
 rw[←BX h,dk]
 have:(ss.map (· -1)).sum=((ss.take i).map (· -1)).sum+((ss.drop i).map (· -1)).sum:=by
  conv=>lhs;rw[←TL i ss,List.map_append,List.sum_append]
 omega
theorem Eu:∀l:List Ex,aL l=(l.map Ex.sz).sum
 |[]=>rfl
 |e::r=>by simp only[aL,TA,List.sum_cons,Eu r]
theorem Ep:∀l:List Sm,aA l=(l.map Sm.sz).sum
 |[]=>rfl
 |e::r=>by simp only[aA,TA,List.sum_cons,Ep r]
theorem Jt(l:List Fd):bQ l=(l.map Fd.sz).sum:=rfl
theorem Ex.sz_pos(e:Ex):1<=e.sz:=by rw[e.sz_eq];omega
theorem Sm.sz_pos(e:Sm):1<=e.sz:=by rw[e.sz_eq];omega
theorem Fd.sz_pos(f:Fd):1<=f.sz:=by unfold Fd.sz;omega
def bC(left z:Nat):Int:=if z<=left then((left-z:Nat):Int) else-1
variable (G:aH)
theorem Bi(l:List Ex)(left:Nat)(hl:left<=1048576)(hb:l.length<=BL)(H:∀e∈l,∀left:Nat,left<=1048576->VF Tryz.prog G iz [.agg (e.cs.map .p),.p (.int .i64 left)] (.p (.int .i64 (bC left (e.sz-1))))):
 VF Tryz.prog G dO [.p (exL l),.p (.int .i64 left)] (.p (.int .i64 (bC left (aL l)))):=by
 refine AC.go yz ?_
 have hpos:∀v∈l.map Ex.sz,1<=v:=λv hv=>by obtain⟨e,_,rfl⟩:=TE.1 hv;exact e.sz_pos
 have hz:=Eu l
 have hal:=λi (hi:l.length<=i)=>vP hpos (i:=i) (by rw[TB];exact hi)
 have hle:=BJ hpos
 have h00:dk (l.map Ex.sz) 0=l.length:=by rw[tS,TB]
 rw[←hz] at hal hle
 have hsl:∀l,exL l= .lst 4 (l.map Ex.cs):=λ_=>rfl
 have hw:IntKind.i64.wrap ((left:Int)-l.length)=(left:Int)-l.length:=ag (by simp only[BL] at hb;omega) (by omega)
 by_cases h:l.length<=left
 case neg=>
  have h1:(left:Int)-l.length<0:=by omega
  have:=hle 0
  have h2:bC left (aL l)= -1:=if_neg (by omega)
  simp-implicitDefEqProofs[jZ,hsl,hw,h1,h2]
 have h1:¬(left:Int)-l.length<0:=by omega
 simp-implicitDefEqProofs[jZ,hsl,hw,h1]
 refine aG (λi:Nat=>ay 27 [(0,.p (exL l)),(1,.p (.int .i64 ((left-dk (l.map Ex.sz) i:Nat):Int))),(5,.p (.int .i64 i))]) (λ_=>[]) (λi=>i<=l.length/\dk (l.map Ex.sz) i<=left) (λi=>l.length-i) 0 ⟨by omega,by rw[h00];exact h⟩ ?_ ?_
 ·refine aQ rfl ?_
  simp only[h00]
  simp[below,hsl]
  omega
 ·intro i ⟨hi,hx⟩
  simp-implicitDefEqProofs[hsl]
  refine aJ (λh1=>?_) (λh1=>?_)
  ·simp at h1
   have hg:=Tc h1
   have hsu:=tG (ss:=l.map Ex.sz) (i:=i) (v:=l[i].sz) (by rw[Ty,hg];rfl)
   have hH:=H l[i] (Tp h1) (left-dk (l.map Ex.sz) i) (by omega)
   have hcs:l[i].cs.length=4:=by simp
   have hle1:=hle (i+1)
   generalize l[i]=e at hg hsu hH hcs
   simp-implicitDefEqProofs[hg,hcs]
   refine hH.use ?_
   by_cases h2:e.sz-1<=left-dk (l.map Ex.sz) i
   ·have e2:bC (left-dk (l.map Ex.sz) i) (e.sz-1)=((left-dk (l.map Ex.sz) (i+1):Nat):Int):=by rw[bC,if_pos h2];omega
    have h3:¬((left-dk (l.map Ex.sz) (i+1):Nat):Int)<0:=by omega
    rw[e2]
    simp-implicitDefEqProofs[h3]
    refine⟨i+1,⟨h1,by omega⟩,by omega,aQ rfl (by simp[below,hsl,w1 (i:=i) (by simp only[BL] at hb;omega)])⟩
   ·have e2:bC (left-dk (l.map Ex.sz) i) (e.sz-1)= -1:=if_neg h2
    have e3:bC left (aL l)= -1:=if_neg (by omega)
    rw[e2,e3]
    simp-implicitDefEqProofs[]
  ·simp at h1
   have hta:=hal i h1
   have h5:bC left (aL l)=((left-dk (l.map Ex.sz) i:Nat):Int):=by rw[hta,bC,if_pos (by omega)]
   simp-implicitDefEqProofs[h5]
theorem AR(l:List Ex)(hb:l.length<=1048576)(H:∀e∈l,VF Tryz.prog G ip [.agg (e.cs.map .p)] (.agg (e.cs.map .p))):VF Tryz.prog G dg [.p (exL l)] (.p (exL l)):=by
 have hsl:∀l,exL l= .lst 4 (l.map Ex.cs):=λ_=>rfl
 have key:AC Tryz.prog G dg [.p (exL l)] [] λx h=>x= .ret (.sl 0 4 0 l.length)/\h=[.row 4 (l.map λe=>e.cs.map .p)]:=by
  refine AC.go vZ ?_
  have hn:(l.map λe=>e.cs.map AV.p).length=l.length:=by simp
  simp-implicitDefEqProofs[nY,hsl]
  refine⟨by omega,?_⟩
  refine aG (λi:Nat=>ay 23 [(0,.p (exL l)),(3,.sl 0 4 0 l.length),(4,.p (.int .i64 i))]) (λi=>[.row 4 ((l.map λe=>e.cs.map AV.p).take i++List.replicate (l.length-i) [.p (.int .i64 0),.p (.int .i64 0),.p (.str []),.nils])]) (λi=>i<=l.length) (λi=>l.length-i) 0 (by simp) ?_ ?_
  ·refine gq [0] rfl (by simp) (bP (by simp) (by simp[below]) cI) ?_
   simp[below,ren,hsl]
  ·intro i hi
   simp-implicitDefEqProofs[hsl]
   refine aJ (λh1=>?_) (λh1=>?_)
   ·simp at h1
    have hg:=Tc h1
    have hg2:=vJ (z:=([.p (.int .i64 0),.p (.int .i64 0),.p (.str []),.nils]:List AV)) hn h1
    have hset:=sY (z:=([.p (.int .i64 0),.p (.int .i64 0),.p (.str []),.nils]:List AV)) (v:=l[i].cs.map AV.p) hn h1 (by rw[Ty,hg];rfl)
    have hH:=H l[i] (Tp h1)
    have hcs:=l[i].cs_eq
    have htl:(List.take i (l.map λ(e:Ex)=>e.cs.map AV.p)++List.replicate (l.length-i) ([.p (.int .i64 0),.p (.int .i64 0),.p (.str []),.nils]:List AV)).length=l.length:=by simp;omega
    generalize l[i]=e at hg hset hH hcs
    generalize hRow:(List.take i (l.map λ(e:Ex)=>e.cs.map AV.p)++List.replicate (l.length-i) ([.p (.int .i64 0),.p (.int .i64 0),.p (.str []),.nils]:List AV))=Rw at hg2 hset htl⊢
    rw[hcs] at hH hset
    simp-implicitDefEqProofs[hg,hcs]
    refine hH.use ?_
    simp-implicitDefEqProofs[hg2,h1,fV]
    simp only[TA,TU] at hset
    rw[hset]
    refine⟨i+1,h1,by omega,gq [0] rfl (by simp) (bP rfl ?_ cI) ?_⟩
    ·intro x hx
     rcases Th.1 hx with hx|hx
     ·obtain⟨y,_,rfl⟩:=TE.1 (Uf hx);simp
     ·rw[(TY.1 hx).2];simp[below]
    ·simp[below,ren,hsl,w1 (i:=i) (by omega)]
   ·simp at h1
    have hie:i=l.length:=by omega
    subst hie
    rw[Nat.sub_self,List.replicate_zero,Tt,Tl (by rw[hn];exact Tk _)]
    simp-implicitDefEqProofs[]
 refine AC.freeze key (.one ?_ .nil)
 have:=fh (h:=[.row 4 (l.map λe=>e.cs.map .p)]) (id:=0) (sz:=4) (n:=l.length) (ls:=l.map Ex.cs) (by simp) (by simp) (λx hx=>by obtain⟨b,_,rfl⟩:=TE.1 hx;simp)
 exact this
theorem AU(l:List Ex)(hb:l.length<=1048576)(H:∀e∈l,VF Tryz.prog G iD [.agg (e.cs.map .p),.agg (e.cs.map .p)] (.p (.bool true))):VF Tryz.prog G dP [.p (exL l),.p (exL l)] (.p (.bool true)):=by
 refine AC.go zJ ?_
 have hsl:∀l,exL l= .lst 4 (l.map Ex.cs):=λ_=>rfl
 simp-implicitDefEqProofs[nK,hsl]
 refine aG (λi:Nat=>ay 27 [(0,.p (exL l)),(1,.p (exL l)),(5,.p (.int .i64 i))]) (λ_=>[]) (λi=>i<=l.length) (λi=>l.length-i) 0 (by simp) ?_ ?_
 ·exact aQ rfl (by simp[below,hsl])
 intro i hi
 simp-implicitDefEqProofs[hsl]
 refine aJ (λh1=>?_) (λh1=>?_)
 ·simp at h1
  have hg:=Tc h1
  have hH:=H l[i] (Tp h1)
  have hcs:l[i].cs.length=4:=by simp
  generalize l[i]=e at hg hH hcs
  simp-implicitDefEqProofs[hg,hcs]
  refine hH.use ?_
  simp-implicitDefEqProofs[]
  exact⟨i+1,h1,by omega,aQ rfl (by simp[below,hsl,w1 (i:=i) (by omega)])⟩
 ·simp at h1
  simp-implicitDefEqProofs[]
theorem Be(l:List Sm)(left:Nat)(hl:left<=1048576)(hb:l.length<=BL)(H:∀e∈l,∀left:Nat,left<=1048576->VF Tryz.prog G il [.agg (e.cs.map .p),.p (.int .i64 left)] (.p (.int .i64 (bC left (e.sz-1))))):
 VF Tryz.prog G cx [.p (smL l),.p (.int .i64 left)] (.p (.int .i64 (bC left (aA l)))):=by
 refine AC.go zN ?_
 have hpos:∀v∈l.map Sm.sz,1<=v:=λv hv=>by obtain⟨e,_,rfl⟩:=TE.1 hv;exact e.sz_pos
 have hz:=Ep l
 have hal:=λi (hi:l.length<=i)=>vP hpos (i:=i) (by rw[TB];exact hi)
 have hle:=BJ hpos
 have h00:dk (l.map Sm.sz) 0=l.length:=by rw[tS,TB]
 rw[←hz] at hal hle
 have hsl:∀l,smL l= .lst 5 (l.map Sm.cs):=λ_=>rfl
 have hw:IntKind.i64.wrap ((left:Int)-l.length)=(left:Int)-l.length:=ag (by simp only[BL] at hb;omega) (by omega)
 by_cases h:l.length<=left
 case neg=>
  have h1:(left:Int)-l.length<0:=by omega
  have:=hle 0
  have h2:bC left (aA l)= -1:=if_neg (by omega)
  simp-implicitDefEqProofs[jN,hsl,hw,h1,h2]
 have h1:¬(left:Int)-l.length<0:=by omega
 simp-implicitDefEqProofs[jN,hsl,hw,h1]
 refine aG (λi:Nat=>ay 27 [(0,.p (smL l)),(1,.p (.int .i64 ((left-dk (l.map Sm.sz) i:Nat):Int))),(5,.p (.int .i64 i))]) (λ_=>[]) (λi=>i<=l.length/\dk (l.map Sm.sz) i<=left) (λi=>l.length-i) 0 ⟨by omega,by rw[h00];exact h⟩ ?_ ?_
 ·refine aQ rfl ?_
  simp only[h00]
  simp[below,hsl]
  omega
 ·intro i ⟨hi,hx⟩
  simp-implicitDefEqProofs[hsl]
  refine aJ (λh1=>?_) (λh1=>?_)
  ·simp at h1
   have hg:=Tc h1
   have hsu:=tG (ss:=l.map Sm.sz) (i:=i) (v:=l[i].sz) (by rw[Ty,hg];rfl)
   have hH:=H l[i] (Tp h1) (left-dk (l.map Sm.sz) i) (by omega)
   have hcs:l[i].cs.length=5:=by simp
   have hle1:=hle (i+1)
   generalize l[i]=e at hg hsu hH hcs
   simp-implicitDefEqProofs[hg,hcs]
   refine hH.use ?_
   by_cases h2:e.sz-1<=left-dk (l.map Sm.sz) i
   ·have e2:bC (left-dk (l.map Sm.sz) i) (e.sz-1)=((left-dk (l.map Sm.sz) (i+1):Nat):Int):=by rw[bC,if_pos h2];omega
    have h3:¬((left-dk (l.map Sm.sz) (i+1):Nat):Int)<0:=by omega
    rw[e2]
    simp-implicitDefEqProofs[h3]
    refine⟨i+1,⟨h1,by omega⟩,by omega,aQ rfl (by simp[below,hsl,w1 (i:=i) (by simp only[BL] at hb;omega)])⟩
   ·have e2:bC (left-dk (l.map Sm.sz) i) (e.sz-1)= -1:=if_neg h2
    have e3:bC left (aA l)= -1:=if_neg (by omega)
    rw[e2,e3]
    simp-implicitDefEqProofs[]
  ·simp at h1
   have hta:=hal i h1
   have h5:bC left (aA l)=((left-dk (l.map Sm.sz) i:Nat):Int):=by rw[hta,bC,if_pos (by omega)]
   simp-implicitDefEqProofs[h5]
theorem ua(l:List Sm)(hb:l.length<=1048576)(H:∀e∈l,VF Tryz.prog G iu [.agg (e.cs.map .p)] (.agg (e.cs.map .p))):VF Tryz.prog G co [.p (smL l)] (.p (smL l)):=by
 have hsl:∀l,smL l= .lst 5 (l.map Sm.cs):=λ_=>rfl
 have key:AC Tryz.prog G co [.p (smL l)] [] λx h=>x= .ret (.sl 0 5 0 l.length)/\h=[.row 5 (l.map λe=>e.cs.map .p)]:=by
  refine AC.go vG ?_
  have hn:(l.map λe=>e.cs.map AV.p).length=l.length:=by simp
  simp-implicitDefEqProofs[oA,hsl]
  refine⟨by omega,?_⟩
  refine aG (λi:Nat=>ay 23 [(0,.p (smL l)),(3,.sl 0 5 0 l.length),(4,.p (.int .i64 i))]) (λi=>[.row 5 ((l.map λe=>e.cs.map AV.p).take i++List.replicate (l.length-i) [.p (.int .i64 0),.p (.str []),.nils,.nils,.nils])]) (λi=>i<=l.length) (λi=>l.length-i) 0 (by simp) ?_ ?_
  ·refine gq [0] rfl (by simp) (bP (by simp) (by simp[below]) cI) ?_
   simp[below,ren,hsl]
  ·intro i hi
   simp-implicitDefEqProofs[hsl]
   refine aJ (λh1=>?_) (λh1=>?_)
   ·simp at h1
    have hg:=Tc h1
    have hg2:=vJ (z:=([.p (.int .i64 0),.p (.str []),.nils,.nils,.nils]:List AV)) hn h1
    have hset:=sY (z:=([.p (.int .i64 0),.p (.str []),.nils,.nils,.nils]:List AV)) (v:=l[i].cs.map AV.p) hn h1 (by rw[Ty,hg];rfl)
    have hH:=H l[i] (Tp h1)
    have hcs:=l[i].cs_eq
    have htl:(List.take i (l.map λ(e:Sm)=>e.cs.map AV.p)++List.replicate (l.length-i) ([.p (.int .i64 0),.p (.str []),.nils,.nils,.nils]:List AV)).length=l.length:=by simp;omega
    generalize l[i]=e at hg hset hH hcs
    generalize hRow:(List.take i (l.map λ(e:Sm)=>e.cs.map AV.p)++List.replicate (l.length-i) ([.p (.int .i64 0),.p (.str []),.nils,.nils,.nils]:List AV))=Rw at hg2 hset htl⊢
    rw[hcs] at hH hset
    simp-implicitDefEqProofs[hg,hcs]
    refine hH.use ?_
    simp-implicitDefEqProofs[hg2,h1,fV]
    simp only[TA,TU] at hset
    rw[hset]
    refine⟨i+1,h1,by omega,gq [0] rfl (by simp) (bP rfl ?_ cI) ?_⟩
    ·intro x hx
     rcases Th.1 hx with hx|hx
     ·obtain⟨y,_,rfl⟩:=TE.1 (Uf hx);simp
     ·rw[(TY.1 hx).2];simp[below]
    ·simp[below,ren,hsl,w1 (i:=i) (by omega)]
   ·simp at h1
    have hie:i=l.length:=by omega
    subst hie
    rw[Nat.sub_self,List.replicate_zero,Tt,Tl (by rw[hn];exact Tk _)]
    simp-implicitDefEqProofs[]
 refine AC.freeze key (.one ?_ .nil)
 have:=fh (h:=[.row 5 (l.map λe=>e.cs.map .p)]) (id:=0) (sz:=5) (n:=l.length) (ls:=l.map Sm.cs) (by simp) (by simp) (λx hx=>by obtain⟨b,_,rfl⟩:=TE.1 hx;simp)
 exact this
theorem tw(l:List Sm)(hb:l.length<=1048576)(H:∀e∈l,VF Tryz.prog G io [.agg (e.cs.map .p),.agg (e.cs.map .p)] (.p (.bool true))):VF Tryz.prog G di [.p (smL l),.p (smL l)] (.p (.bool true)):=by
 refine AC.go zQ ?_
 have hsl:∀l,smL l= .lst 5 (l.map Sm.cs):=λ_=>rfl
 simp-implicitDefEqProofs[nS,hsl]
 refine aG (λi:Nat=>ay 27 [(0,.p (smL l)),(1,.p (smL l)),(5,.p (.int .i64 i))]) (λ_=>[]) (λi=>i<=l.length) (λi=>l.length-i) 0 (by simp) ?_ ?_
 ·exact aQ rfl (by simp[below,hsl])
 intro i hi
 simp-implicitDefEqProofs[hsl]
 refine aJ (λh1=>?_) (λh1=>?_)
 ·simp at h1
  have hg:=Tc h1
  have hH:=H l[i] (Tp h1)
  have hcs:l[i].cs.length=5:=by simp
  generalize l[i]=e at hg hH hcs
  simp-implicitDefEqProofs[hg,hcs]
  refine hH.use ?_
  simp-implicitDefEqProofs[]
  exact⟨i+1,h1,by omega,aQ rfl (by simp[below,hsl,w1 (i:=i) (by omega)])⟩
 ·simp at h1
  simp-implicitDefEqProofs[]
theorem MG(l:List Fd)(left:Nat)(hl:left<=1048576)(hb:l.length<=BL)(H:∀e∈l,∀left:Nat,left<=1048576->VF Tryz.prog G kV [.agg (e.cs.map .p),.p (.int .i64 left)] (.p (.int .i64 (bC left (e.sz-1))))):
 VF Tryz.prog G mM [.p (fdL l),.p (.int .i64 left)] (.p (.int .i64 (bC left (bQ l)))):=by
 refine AC.go Ct ?_
 have hpos:∀v∈l.map Fd.sz,1<=v:=λv hv=>by obtain⟨e,_,rfl⟩:=TE.1 hv;exact e.sz_pos
 have hz:=Jt l
 have hal:=λi (hi:l.length<=i)=>vP hpos (i:=i) (by rw[TB];exact hi)
 have hle:=BJ hpos
 have h00:dk (l.map Fd.sz) 0=l.length:=by rw[tS,TB]
 rw[←hz] at hal hle
 have hsl:∀l,fdL l= .lst 3 (l.map Fd.cs):=λ_=>rfl
 have hw:IntKind.i64.wrap ((left:Int)-l.length)=(left:Int)-l.length:=ag (by simp only[BL] at hb;omega) (by omega)
 by_cases h:l.length<=left
 case neg=>
  have h1:(left:Int)-l.length<0:=by omega
  have:=hle 0
  have h2:bC left (bQ l)= -1:=if_neg (by omega)
  simp-implicitDefEqProofs[mA,hsl,hw,h1,h2]
 have h1:¬(left:Int)-l.length<0:=by omega
 simp-implicitDefEqProofs[mA,hsl,hw,h1]
 refine aG (λi:Nat=>ay 27 [(0,.p (fdL l)),(1,.p (.int .i64 ((left-dk (l.map Fd.sz) i:Nat):Int))),(5,.p (.int .i64 i))]) (λ_=>[]) (λi=>i<=l.length/\dk (l.map Fd.sz) i<=left) (λi=>l.length-i) 0 ⟨by omega,by rw[h00];exact h⟩ ?_ ?_
 ·refine aQ rfl ?_
  simp only[h00]
  simp[below,hsl]
  omega
 ·intro i ⟨hi,hx⟩
  simp-implicitDefEqProofs[hsl]
  refine aJ (λh1=>?_) (λh1=>?_)
  ·simp at h1
   have hg:=Tc h1
   have hsu:=tG (ss:=l.map Fd.sz) (i:=i) (v:=l[i].sz) (by rw[Ty,hg];rfl)
   have hH:=H l[i] (Tp h1) (left-dk (l.map Fd.sz) i) (by omega)
   have hcs:l[i].cs.length=3:=by simp
   have hle1:=hle (i+1)
   generalize l[i]=e at hg hsu hH hcs
   simp-implicitDefEqProofs[hg,hcs]
   refine hH.use ?_
   by_cases h2:e.sz-1<=left-dk (l.map Fd.sz) i
   ·have e2:bC (left-dk (l.map Fd.sz) i) (e.sz-1)=((left-dk (l.map Fd.sz) (i+1):Nat):Int):=by rw[bC,if_pos h2];omega
    have h3:¬((left-dk (l.map Fd.sz) (i+1):Nat):Int)<0:=by omega
    rw[e2]
    simp-implicitDefEqProofs[h3]
    refine⟨i+1,⟨h1,by omega⟩,by omega,aQ rfl (by simp[below,hsl,w1 (i:=i) (by simp only[BL] at hb;omega)])⟩
   ·have e2:bC (left-dk (l.map Fd.sz) i) (e.sz-1)= -1:=if_neg h2
    have e3:bC left (bQ l)= -1:=if_neg (by omega)
    rw[e2,e3]
    simp-implicitDefEqProofs[]
  ·simp at h1
   have hta:=hal i h1
   have h5:bC left (bQ l)=((left-dk (l.map Fd.sz) i:Nat):Int):=by rw[hta,bC,if_pos (by omega)]
   simp-implicitDefEqProofs[h5]
theorem NJ(l:List Fd)(hb:l.length<=1048576)(H:∀e∈l,VF Tryz.prog G lc [.agg (e.cs.map .p)] (.agg (e.cs.map .p))):VF Tryz.prog G jy [.p (fdL l)] (.p (fdL l)):=by
 have hsl:∀l,fdL l= .lst 3 (l.map Fd.cs):=λ_=>rfl
 have key:AC Tryz.prog G jy [.p (fdL l)] [] λx h=>x= .ret (.sl 0 3 0 l.length)/\h=[.row 3 (l.map λe=>e.cs.map .p)]:=by
  refine AC.go BZ ?_
  have hn:(l.map λe=>e.cs.map AV.p).length=l.length:=by simp
  simp-implicitDefEqProofs[sL,hsl]
  refine⟨by omega,?_⟩
  refine aG (λi:Nat=>ay 23 [(0,.p (fdL l)),(3,.sl 0 3 0 l.length),(4,.p (.int .i64 i))]) (λi=>[.row 3 ((l.map λe=>e.cs.map AV.p).take i++List.replicate (l.length-i) [.p (.str []),.nils,.nils])]) (λi=>i<=l.length) (λi=>l.length-i) 0 (by simp) ?_ ?_
  ·refine gq [0] rfl (by simp) (bP (by simp) (by simp[below]) cI) ?_
   simp[below,ren,hsl]
  ·intro i hi
   simp-implicitDefEqProofs[hsl]
   refine aJ (λh1=>?_) (λh1=>?_)
   ·simp at h1
    have hg:=Tc h1
    have hg2:=vJ (z:=([.p (.str []),.nils,.nils]:List AV)) hn h1
    have hset:=sY (z:=([.p (.str []),.nils,.nils]:List AV)) (v:=l[i].cs.map AV.p) hn h1 (by rw[Ty,hg];rfl)
    have hH:=H l[i] (Tp h1)
    have hcs:=l[i].cs_eq'
    have htl:(List.take i (l.map λ(e:Fd)=>e.cs.map AV.p)++List.replicate (l.length-i) ([.p (.str []),.nils,.nils]:List AV)).length=l.length:=by simp;omega
    generalize l[i]=e at hg hset hH hcs
    generalize hRow:(List.take i (l.map λ(e:Fd)=>e.cs.map AV.p)++List.replicate (l.length-i) ([.p (.str []),.nils,.nils]:List AV))=Rw at hg2 hset htl⊢
    rw[hcs] at hH hset
    simp-implicitDefEqProofs[hg,hcs]
    refine hH.use ?_
    simp-implicitDefEqProofs[hg2,h1,fV]
    simp only[TA,TU] at hset
    rw[hset]
    refine⟨i+1,h1,by omega,gq [0] rfl (by simp) (bP rfl ?_ cI) ?_⟩
    ·intro x hx
     rcases Th.1 hx with hx|hx
     ·obtain⟨y,_,rfl⟩:=TE.1 (Uf hx);simp
     ·rw[(TY.1 hx).2];simp[below]
    ·simp[below,ren,hsl,w1 (i:=i) (by omega)]
   ·simp at h1
    have hie:i=l.length:=by omega
    subst hie
    rw[Nat.sub_self,List.replicate_zero,Tt,Tl (by rw[hn];exact Tk _)]
    simp-implicitDefEqProofs[]
 refine AC.freeze key (.one ?_ .nil)
 have:=fh (h:=[.row 3 (l.map λe=>e.cs.map .p)]) (id:=0) (sz:=3) (n:=l.length) (ls:=l.map Fd.cs) (by simp) (by simp) (λx hx=>by obtain⟨b,_,rfl⟩:=TE.1 hx;simp)
 exact this
theorem MT(l:List Fd)(hb:l.length<=1048576)(H:∀e∈l,VF Tryz.prog G kR [.agg (e.cs.map .p),.agg (e.cs.map .p)] (.p (.bool true))):VF Tryz.prog G mC [.p (fdL l),.p (fdL l)] (.p (.bool true)):=by
 refine AC.go BP ?_
 have hsl:∀l,fdL l= .lst 3 (l.map Fd.cs):=λ_=>rfl
 simp-implicitDefEqProofs[sD,hsl]
 refine aG (λi:Nat=>ay 27 [(0,.p (fdL l)),(1,.p (fdL l)),(5,.p (.int .i64 i))]) (λ_=>[]) (λi=>i<=l.length) (λi=>l.length-i) 0 (by simp) ?_ ?_
 ·exact aQ rfl (by simp[below,hsl])
 intro i hi
 simp-implicitDefEqProofs[hsl]
 refine aJ (λh1=>?_) (λh1=>?_)
 ·simp at h1
  have hg:=Tc h1
  have hH:=H l[i] (Tp h1)
  have hcs:l[i].cs.length=3:=by simp
  generalize l[i]=e at hg hH hcs
  simp-implicitDefEqProofs[hg,hcs]
  refine hH.use ?_
  simp-implicitDefEqProofs[]
  exact⟨i+1,h1,by omega,aQ rfl (by simp[below,hsl,w1 (i:=i) (by omega)])⟩
 ·simp at h1
  simp-implicitDefEqProofs[]
end
section
variable (G:aH)
theorem bz{left z:Nat}(h:¬z<=left):bC left z= -1:=if_neg h
theorem dD{left z:Nat}(h:z<=left):bC left z=((left-z:Nat):Int):=if_pos h
theorem LL:∀(N:Nat) (e:Ex),e.sz<=N->e.fit->∀left:Nat,left<=1048576->VF Tryz.prog G iz [.agg (e.cs.map .p),.p (.int .i64 left)] (.p (.int .i64 (bC left (e.sz-1)))):=by
 intro N
 induction N with
 |zero=>intro e he;have:=e.sz_pos;omega
 |succ N ih=>
  intro e he hf left hl
  have hec:=e.cs_eq
  have hsz:=e.sz_eq
  rw[e.fit_eq] at hf
  obtain⟨f1,f2,f3⟩:=hf
  refine AC.go Ay ?_
  have hw:IntKind.i64.wrap ((left:Int)-e.name.length)=(left:Int)-e.name.length:=ag (by simp only[BL] at f1;omega) (by omega)
  by_cases h1:e.name.length<=left
  case neg=>
   have h2:(left:Int)-e.name.length<0:=by omega
   rw[bz (by omega)]
   simp-implicitDefEqProofs[lq,hec,hw,h2]
  have h2:¬(left:Int)-e.name.length<0:=by omega
  have e2:(left:Int)-e.name.length=((left-e.name.length:Nat):Int):=by omega
  have hS:=Bi G e.kids (left-e.name.length) (by omega) f2 (λx hx l hl=>ih x (by have:=bv hx;omega) (rA f3 hx) l hl)
  rw[e2] at h2
  replace hw:=hw.trans e2
  simp-implicitDefEqProofs[lq,hec,hw,h2]
  refine hS.use ?_
  by_cases h3:aL e.kids<=left-e.name.length
  ·have n3:¬((left-e.name.length-aL e.kids:Nat):Int)<0:=by omega
   rw[dD h3,dD (by omega)]
   simp-implicitDefEqProofs[n3]
   omega
  ·rw[bz h3,bz (by omega)]
   simp-implicitDefEqProofs[]
theorem Hw(l:List Ex)(hf:mL l)(hb:l.length<=BL)(left:Nat)(hl:left<=1048576):VF Tryz.prog G dO [.p (exL l),.p (.int .i64 left)] (.p (.int .i64 (bC left (aL l)))):=
 Bi G l left hl hb (λe he l hl=>LL G e.sz e (Tk _) (rA hf he) l hl)
theorem Kq:∀(N:Nat) (s:Sm),s.sz<=N->s.fit->∀left:Nat,left<=1048576->VF Tryz.prog G il [.agg (s.cs.map .p),.p (.int .i64 left)] (.p (.int .i64 (bC left (s.sz-1)))):=by
 intro N
 induction N with
 |zero=>intro e he;have:=e.sz_pos;omega
 |succ N ih=>
  intro e he hf left hl
  have hec:=e.cs_eq
  have hsz:=e.sz_eq
  rw[e.fit_eq] at hf
  obtain⟨f1,⟨f2,f3⟩,⟨f4,f5⟩,f6,f7⟩:=hf
  have sub:∀l:List Sm,aA l<=N->kh l->l.length<=BL->∀left:Nat,left<=1048576->VF Tryz.prog G cx [.p (smL l),.p (.int .i64 left)] (.p (.int .i64 (bC left (aA l)))):=λl hz hf hb left hl=>
   Be G l left hl hb (λx hx l hl=>ih x (by have:=bp hx;omega) (ru hf hx) l hl)
  refine AC.go AB ?_
  have hw:IntKind.i64.wrap ((left:Int)-e.name.length)=(left:Int)-e.name.length:=ag (by simp only[BL] at f1;omega) (by omega)
  by_cases h1:e.name.length<=left
  case neg=>
   have h2:(left:Int)-e.name.length<0:=by omega
   rw[bz (by omega)]
   simp-implicitDefEqProofs[lm,hec,hw,h2]
  have h2:¬(left:Int)-e.name.length<0:=by omega
  have e2:(left:Int)-e.name.length=((left-e.name.length:Nat):Int):=by omega
  rw[e2] at h2
  replace hw:=hw.trans e2
  simp-implicitDefEqProofs[lm,hec,hw,h2]
  refine(Hw G e.args f3 f2 (left-e.name.length) (by omega)).use ?_
  by_cases h3:aL e.args<=left-e.name.length
  case neg=>
   rw[bz h3,bz (by omega)]
   simp-implicitDefEqProofs[]
  have n3:¬((left-e.name.length-aL e.args:Nat):Int)<0:=by omega
  rw[dD h3]
  simp-implicitDefEqProofs[n3]
  refine(sub e.body (by omega) f5 f4 (left-e.name.length-aL e.args) (by omega)).use ?_
  by_cases h4:aA e.body<=left-e.name.length-aL e.args
  case neg=>
   rw[bz h4,bz (by omega)]
   simp-implicitDefEqProofs[]
  have n4:¬((left-e.name.length-aL e.args-aA e.body:Nat):Int)<0:=by omega
  rw[dD h4]
  simp-implicitDefEqProofs[n4]
  refine(sub e.els (by omega) f7 f6 (left-e.name.length-aL e.args-aA e.body) (by omega)).use ?_
  by_cases h5:aA e.els<=left-e.name.length-aL e.args-aA e.body
  case neg=>
   rw[bz h5,bz (by omega)]
   simp-implicitDefEqProofs[]
  have n5:¬((left-e.name.length-aL e.args-aA e.body-aA e.els:Nat):Int)<0:=by omega
  rw[dD h5,dD (by omega)]
  simp-implicitDefEqProofs[n5]
  omega
theorem IA(l:List Sm)(hf:kh l)(hb:l.length<=BL)(left:Nat)(hl:left<=1048576):VF Tryz.prog G cx [.p (smL l),.p (.int .i64 left)] (.p (.int .i64 (bC left (aA l)))):=
 Be G l left hl hb (λe he l hl=>Kq G e.sz e (Tk _) (ru hf he) l hl)
def nv(xs:List (List UInt8))(i:Nat):Nat:=((xs.take i).map List.length).sum
theorem IT{xs:List (List UInt8)}{i:Nat}(h:i<xs.length):nv xs (i+1)=nv xs i+xs[i].length:=by
 show((xs.take (i+1)).map List.length).sum=((xs.take i).map List.length).sum+xs[i].length
 rw[an h,List.map_append,List.sum_append]
 rfl
theorem LO{xs:List (List UInt8)}{i:Nat}(h:xs.length<=i):nv xs i=(xs.map List.length).sum:=by rw[nv,Tl h]
theorem MY{xs:List (List UInt8)}{i:Nat}:nv xs i<=(xs.map List.length).sum:=by
 conv=>rhs;rw[←TL i xs,List.map_append,List.sum_append]
 simp[nv]
def szW(xs:List (List UInt8)):Nat:=xs.length+(xs.map List.length).sum
theorem Ej(xs:List (List UInt8))(left:Nat)(hl:left<=1048576)(hb:xs.length<=9223372036854775807)(hs:∀x∈xs,x.length<=9223372036854775807):VF Tryz.prog G gY [.p (aR xs),.p (.int .i64 left)] (.p (.int .i64 (if szW xs<=left then((left-szW xs:Nat):Int) else-1))):=by
 refine AC.go tP ?_
 have hw:IntKind.i64.wrap ((left:Int)-xs.length)=(left:Int)-xs.length:=ag (by omega) (by omega)
 have hsz:szW xs=xs.length+(xs.map List.length).sum:=rfl
 by_cases h:xs.length<=left
 case neg=>
  have h1:(left:Int)-xs.length<0:=by omega
  have h2:¬szW xs<=left:=by omega
  simp-implicitDefEqProofs[gN,aR,hw,h1,h2]
 have h1:¬(left:Int)-xs.length<0:=by omega
 simp-implicitDefEqProofs[gN,aR,hw,h1]
 refine aG (λi:Nat=>ay 28 [(0,.p (aR xs)),(1,.p (.int .i64 ((left-xs.length-nv xs i:Nat):Int))),(5,.p (.int .i64 i))]) (λ_=>[]) (λi=>i<=xs.length/\xs.length+nv xs i<=left) (λi=>xs.length-i) 0 (by simp[nv];omega) ?_ ?_
 ·refine aQ rfl ?_
  simp[below,aR,nv]
  omega
 ·intro i ⟨hi,hx⟩
  simp-implicitDefEqProofs[aR]
  refine aJ (λh1=>?_) (λh1=>?_)
  ·simp at h1
   have hg:=Tc h1
   have hle:=hs _ (Tp h1)
   have hsu:=IT h1
   have hsl:=MY (xs:=xs) (i:=i+1)
   have hw2:IntKind.i64.wrap (((left-xs.length-nv xs i:Nat):Int)-(xs[i].length:Int))=((left-xs.length-nv xs i:Nat):Int)-(xs[i].length:Int):=ag (by omega) (by omega)
   by_cases h2:xs.length+nv xs (i+1)<=left
   ·have h3:¬((left-xs.length-nv xs i:Nat):Int)-(xs[i].length:Int)<0:=by omega
    have h4:((left-xs.length-nv xs i:Nat):Int)-(xs[i].length:Int)=((left-xs.length-nv xs (i+1):Nat):Int):=by omega
    rw[h4] at h3
    replace hw2:=hw2.trans h4
    clear hle hsu hsl
    simp-implicitDefEqProofs[hg,hw2,h3]
    refine⟨i+1,⟨h1,h2⟩,by omega,aQ rfl (by simp[below,aR,w1 (i:=i) (by omega)])⟩
   ·have h3:((left-xs.length-nv xs i:Nat):Int)-(xs[i].length:Int)<0:=by omega
    have h5:¬szW xs<=left:=by omega
    clear hle hsu hsl
    simp-implicitDefEqProofs[hg,hw2,h3,h5]
  ·simp at h1
   have hta:=LO (xs:=xs) h1
   have h5:szW xs<=left:=by omega
   have h6:((left-xs.length-nv xs i:Nat):Int)=((left-szW xs:Nat):Int):=by omega
   simp-implicitDefEqProofs[h5,h6]
theorem OI(f:Fd)(hf:f.fit)(left:Nat)(hl:left<=1048576):VF Tryz.prog G kV [.agg (f.cs.map .p),.p (.int .i64 left)] (.p (.int .i64 (bC left (f.sz-1)))):=by
 obtain⟨f1,⟨f2,f3⟩,f4,f5⟩:=hf
 have hec:=f.cs_eq'
 have hsz:f.sz=1+f.name.length+szW f.params+aA f.body:=rfl
 refine AC.go Cv ?_
 have hw:IntKind.i64.wrap ((left:Int)-f.name.length)=(left:Int)-f.name.length:=ag (by simp only[BL] at f1;omega) (by omega)
 by_cases h1:f.name.length<=left
 case neg=>
  have h2:(left:Int)-f.name.length<0:=by omega
  rw[bz (by omega)]
  simp-implicitDefEqProofs[nX,hec,hw,h2]
 have h2:¬(left:Int)-f.name.length<0:=by omega
 have e2:(left:Int)-f.name.length=((left-f.name.length:Nat):Int):=by omega
 rw[e2] at h2
 replace hw:=hw.trans e2
 simp-implicitDefEqProofs[nX,hec,hw,h2]
 refine(Ej G f.params (left-f.name.length) (by omega) f2 f3).use ?_
 by_cases h3:szW f.params<=left-f.name.length
 case neg=>
  rw[if_neg h3,bz (by omega)]
  simp-implicitDefEqProofs[]
 have n3:¬((left-f.name.length-szW f.params:Nat):Int)<0:=by omega
 rw[if_pos h3]
 simp-implicitDefEqProofs[n3]
 refine(IA G f.body f5 f4 (left-f.name.length-szW f.params) (by omega)).use ?_
 by_cases h4:aA f.body<=left-f.name.length-szW f.params
 case neg=>
  rw[bz h4,bz (by omega)]
  simp-implicitDefEqProofs[]
 have n4:¬((left-f.name.length-szW f.params-aA f.body:Nat):Int)<0:=by omega
 rw[dD h4,dD (by omega)]
 simp-implicitDefEqProofs[n4]
 omega
def Pk(l:List Fd):Prop:=l.length<=BL/\∀f∈l,f.fit
theorem DE(l:List Fd)(hf:Pk l)(left:Nat)(hl:left<=1048576):VF Tryz.prog G ep [.agg [.p (fdL l)],.p (.int .i64 left)] (.p (.int .i64 (bC left (bQ l)))):=by
 have hS:=MG G l left hl hf.1 (λf hm left hl=>OI G f (hf.2 f hm) left hl)
 refine AC.go tr ?_
 simp-implicitDefEqProofs[mh]
 refine hS.use ?_
 by_cases h:bQ l<=left
 ·have n:¬((left-bQ l:Nat):Int)<0:=by omega
  rw[dD h]
  simp-implicitDefEqProofs[n]
 ·rw[bz h]
  simp-implicitDefEqProofs[]
theorem Jq:∀(N:Nat) (e:Ex),e.sz<=N->e.sz<=1048576->VF Tryz.prog G ip [.agg (e.cs.map .p)] (.agg (e.cs.map .p)):=by
 intro N
 induction N with
 |zero=>intro e he;have:=e.sz_pos;omega
 |succ N ih=>
  intro e he hb
  have hec:=e.cs_eq
  have hsz:=e.sz_eq
  have hkl:=bk e.kids
  have hS:=AR G e.kids (by omega) (λx hx=>ih x (by have:=bv hx;omega) (by have:=bv hx;omega))
  refine AC.go Ap ?_
  simp-implicitDefEqProofs[rg,hec]
  refine hS.use ?_
  simp-implicitDefEqProofs[]
theorem IW(l:List Ex)(hb:aL l<=1048576):VF Tryz.prog G dg [.p (exL l)] (.p (exL l)):=
 AR G l (by have:=bk l;omega) (λe he=>Jq G e.sz e (Tk _) (by have:=bv he;omega))
theorem Ju:∀(N:Nat) (e:Sm),e.sz<=N->e.sz<=1048576->VF Tryz.prog G iu [.agg (e.cs.map .p)] (.agg (e.cs.map .p)):=by
 intro N
 induction N with
 |zero=>intro e he;have:=e.sz_pos;omega
 |succ N ih=>
  intro e he hb
  have hec:=e.cs_eq
  have hsz:=e.sz_eq
  have h1:=bf e.body
  have h2:=bf e.els
  have hB:=ua G e.body (by omega) (λx hx=>ih x (by have:=bp hx;omega) (by have:=bp hx;omega))
  have hE:=ua G e.els (by omega) (λx hx=>ih x (by have:=bp hx;omega) (by have:=bp hx;omega))
  refine AC.go Av ?_
  simp-implicitDefEqProofs[pQ,hec]
  refine(IW G e.args (by omega)).use ?_
  simp-implicitDefEqProofs[]
  refine hB.use ?_
  simp-implicitDefEqProofs[]
  refine hE.use ?_
  simp-implicitDefEqProofs[]
theorem Jd(l:List Sm)(hb:aA l<=1048576):VF Tryz.prog G co [.p (smL l)] (.p (smL l)):=
 ua G l (by have:=bf l;omega) (λe he=>Ju G e.sz e (Tk _) (by have:=bp he;omega))
def mm(l:List (List UInt8))(i:Nat):List (List UInt8):=l.take i++List.replicate (l.length-i) []
theorem HQ{l:List (List UInt8)}{i:Nat}(h:i<l.length):(mm l i).set i l[i]=mm l (i+1):=by
 have hl:(l.take i).length=i:=by simp;omega
 have e:l.length-i=(l.length-(i+1))+1:=by omega
 show(l.take i++List.replicate (l.length-i) []).set i l[i]=l.take (i+1)++List.replicate (l.length-(i+1)) []
 rw[List.set_append_right _ _ (by omega),hl,Nat.sub_self,e,List.replicate_succ,List.set_cons_zero,an h,Ud]
 rfl
theorem HG{l:List (List UInt8)}{i:Nat}(h:i<l.length):(mm l i)[i]?=some []:=by
 have hl:(l.take i).length=i:=by simp;omega
 rw[mm,Tg (by omega),hl,Nat.sub_self,List.getElem?_replicate,if_pos (by omega)]
theorem Je{l:List (List UInt8)}{i:Nat}(h:i<=l.length):(mm l i).length=l.length:=by simp[mm];omega
theorem Eg(l:List (List UInt8))(hb:l.length<=1048576):AC Tryz.prog G eh [.p (aR l)] [] λx h=>x= .ret (.sl 0 1 0 l.length)/\h=[fp l]:=by
 refine AC.go tm ?_
 have hbl:aR l= .lst 1 (l.map λn=>[.str n]):=rfl
 simp-implicitDefEqProofs[mb,hbl]
 refine⟨by omega,?_⟩
 refine aG (λi:Nat=>ay 22 [(0,.p (aR l)),(3,.sl 0 1 0 l.length),(4,.p (.int .i64 i))]) (λi=>[fp (mm l i)]) (λi=>i<=l.length) (λi=>l.length-i) 0 (by simp) ?_ ?_
 ·refine gq [0] rfl (by simp) (bP (by simp[mm]) (by simp) cI) ?_
  simp[below,ren,aR]
 ·intro i hi
  have hlen:=Je hi
  simp-implicitDefEqProofs[hbl]
  refine aJ (λh1=>?_) (λh1=>?_)
  ·simp at h1
   have hg:=Tc h1
   have hg2:=HG h1
   have hset:((mm l i).map λn=>[AV.p (.str n)]).set i [.p (.str l[i])]=(mm l (i+1)).map λn=>[AV.p (.str n)]:=by rw[←HQ h1,List.map_set]
   have hbo:fp (mm l i)= .row 1 ((mm l i).map λn=>[.p (.str n)]):=rfl
   clear hlen
   simp-implicitDefEqProofs[hg,hbo,hg2,h1,hset]
   refine⟨i+1,h1,by omega,gq [0] rfl (by simp) (bP rfl (by simp) cI) ?_⟩
   simp[below,ren,aR,w1 (i:=i) (by omega)]
  ·simp at h1
   have:i=l.length:=by omega
   subst this
   simp-implicitDefEqProofs[mm]
theorem Er(l:List (List UInt8))(hb:l.length<=1048576):VF Tryz.prog G eh [.p (aR l)] (.p (aR l)):=AC.freeze (Eg G l hb) (.one (tE rfl) .nil)
theorem OU(f:Fd)(hb:f.sz<=1048576):VF Tryz.prog G lc [.agg (f.cs.map .p)] (.agg (f.cs.map .p)):=by
 have hec:=f.cs_eq'
 have hsz:f.sz=1+f.name.length+szW f.params+aA f.body:=rfl
 have hw:szW f.params=f.params.length+(f.params.map List.length).sum:=rfl
 refine AC.go Dz ?_
 simp-implicitDefEqProofs[uf,hec]
 refine(Er G f.params (by omega)).use ?_
 simp-implicitDefEqProofs[]
 refine(Jd G f.body (by omega)).use ?_
 simp-implicitDefEqProofs[]
theorem CU(l:List Fd)(hb:bQ l<=1048576):VF Tryz.prog G db [.agg [.p (fdL l)]] (.agg [.p (fdL l)]):=by
 have hS:=NJ G l (by have:=dc l;omega) (λf hm=>OU G f (by have:=dy hm;omega))
 refine AC.go tO ?_
 simp-implicitDefEqProofs[lS]
 refine hS.use ?_
 simp-implicitDefEqProofs[]
theorem KG:∀(N:Nat) (e:Ex),e.sz<=N->e.sz<=1048576->VF Tryz.prog G iD [.agg (e.cs.map .p),.agg (e.cs.map .p)] (.p (.bool true)):=by
 intro N
 induction N with
 |zero=>intro e he;have:=e.sz_pos;omega
 |succ N ih=>
  intro e he hb
  have hec:=e.cs_eq
  have hsz:=e.sz_eq
  have hkl:=bk e.kids
  have hS:=AU G e.kids (by omega) (λx hx=>ih x (by have:=bv hx;omega) (by have:=bv hx;omega))
  refine AC.go Am ?_
  simp-implicitDefEqProofs[pS,hec]
  refine hS.use ?_
  simp-implicitDefEqProofs[]
theorem HY(l:List Ex)(hb:aL l<=1048576):VF Tryz.prog G dP [.p (exL l),.p (exL l)] (.p (.bool true)):=
 AU G l (by have:=bk l;omega) (λe he=>KG G e.sz e (Tk _) (by have:=bv he;omega))
theorem Le:∀(N:Nat) (e:Sm),e.sz<=N->e.sz<=1048576->VF Tryz.prog G io [.agg (e.cs.map .p),.agg (e.cs.map .p)] (.p (.bool true)):=by
 intro N
 induction N with
 |zero=>intro e he;have:=e.sz_pos;omega
 |succ N ih=>
  intro e he hb
  have hec:=e.cs_eq
  have hsz:=e.sz_eq
  have h1:=bf e.body
  have h2:=bf e.els
  have hB:=tw G e.body (by omega) (λx hx=>ih x (by have:=bp hx;omega) (by have:=bp hx;omega))
  have hE:=tw G e.els (by omega) (λx hx=>ih x (by have:=bp hx;omega) (by have:=bp hx;omega))
  refine AC.go AL ?_
  simp-implicitDefEqProofs[rj,hec]
  refine(HY G e.args (by omega)).use ?_
  simp-implicitDefEqProofs[]
  refine hB.use ?_
  simp-implicitDefEqProofs[]
  refine hE.use ?_
  simp-implicitDefEqProofs[]
theorem Jb(l:List Sm)(hb:aA l<=1048576):VF Tryz.prog G di [.p (smL l),.p (smL l)] (.p (.bool true)):=
 tw G l (by have:=bf l;omega) (λe he=>Le G e.sz e (Tk _) (by have:=bp he;omega))
theorem Dg(xs:List (List UInt8))(hb:xs.length<=1048576):VF Tryz.prog G gS [.p (aR xs),.p (aR xs)] (.p (.bool true)):=by
 refine AC.go tR ?_
 have hsl:aR xs= .lst 1 (xs.map λw=>[.str w]):=rfl
 simp-implicitDefEqProofs[mv,hsl]
 refine aG (λi:Nat=>ay 26 [(0,.p (aR xs)),(1,.p (aR xs)),(5,.p (.int .i64 i))]) (λ_=>[]) (λi=>i<=xs.length) (λi=>xs.length-i) 0 (by simp) (aQ rfl (by simp[below,hsl])) ?_
 intro i hi
 simp-implicitDefEqProofs[hsl]
 refine aJ (λh1=>?_) (λh1=>?_)
 ·simp at h1
  have hx:=Tc h1
  generalize xs[i]=v at hx
  simp-implicitDefEqProofs[hx]
  exact⟨i+1,h1,by omega,aQ rfl (by simp[below,hsl,w1 (i:=i) (by omega)])⟩
 ·simp at h1
  simp-implicitDefEqProofs[]
theorem OW(f:Fd)(hb:f.sz<=1048576):VF Tryz.prog G kR [.agg (f.cs.map .p),.agg (f.cs.map .p)] (.p (.bool true)):=by
 have hec:=f.cs_eq'
 have hsz:f.sz=1+f.name.length+szW f.params+aA f.body:=rfl
 have hw:szW f.params=f.params.length+(f.params.map List.length).sum:=rfl
 refine AC.go DV ?_
 simp-implicitDefEqProofs[uv,hec]
 refine(Dg G f.params (by omega)).use ?_
 simp-implicitDefEqProofs[]
 refine(Jb G f.body (by omega)).use ?_
 simp-implicitDefEqProofs[]
theorem Dq(l:List Fd)(hb:bQ l<=1048576):VF Tryz.prog G ie [.agg [.p (fdL l)],.agg [.p (fdL l)]] (.p (.bool true)):=by
 have hS:=MT G l (by have:=dc l;omega) (λf hm=>OW G f (by have:=dy hm;omega))
 refine AC.go tL ?_
 simp-implicitDefEqProofs[lO]
 refine hS.use ?_
 simp-implicitDefEqProofs[]
end
section
def Ht(f:Fd):Nat:=f.params.length+aN f.body
def uu(st:Int)(x:Sm × Nat):Int:=if x.1.op=1 then IntKind.i64.wrap (st+1) else st
mutual
theorem MV:∀(s:Sm) (d:Nat) (st:Int),0<=st->st+rB s<=1099511627776->(s.pre d).foldl uu st=st+rB s
 | .mk o n a bd el,d,st,h0,h=>by
   rw[rB] at h
   have h1:=uZ bd (d+1)
   have h2:=uZ el (d+1)
   rw[Sm.pre,Ul,Uc,rB]
   by_cases ho:o=1
   ·have e:uu st (⟨o,n,a,bd,el⟩,d)=st+1:=by show(if o=1 then _ else _)=_;rw[if_pos ho,ag (by omega) (by rw[if_pos ho] at h;omega)]
    rw[if_pos ho] at h⊢
    rw[e,h1 _ (by omega) (by omega),h2 _ (by omega) (by omega)]
    omega
   ·have e:uu st (⟨o,n,a,bd,el⟩,d)=st:=by show(if o=1 then _ else _)=_;rw[if_neg ho]
    rw[if_neg ho] at h⊢
    rw[e,h1 _ (by omega) (by omega),h2 _ (by omega) (by omega)]
    omega
theorem uZ:∀(l:List Sm) (d:Nat) (st:Int),0<=st->st+aN l<=1099511627776->(aS d l).foldl uu st=st+aN l
 |[],d,st,_,_=>by simp[aS,aN]
 |s::r,d,st,h0,h=>by
  rw[aN] at h
  rw[aS,Uc,MV s d st h0 (by omega),uZ r d _ (by omega) (by omega),aN]
  omega
end
def ET(f:Fd):Vis Int where
 I:=λst=>[.row 3 [[.p (.str f.name),.p (aR f.params),.p (smL f.body)]],.row 1 [[.p (.int .i64 st)]]]
 n:=2
 F:=dK
 caps:=[.ptr 1 1 0 0]
 len:=λ_=>rfl
 ok:=λst=>by simp[okO,below]
 capsOk:=by simp[below]
variable (G:aH)
theorem Cg(f:Fd)(st:Int)(s:Sm)(d:Nat):AC Tryz.prog G dK [.agg (s.cs.map .p),.p (.int .i64 d),.ptr 1 1 0 0] ((ET f).I st) λx h=>x= .ret (.tup [])/\h=(ET f).I (uu st (s,d)):=by
 refine(ET f).trim G (AC.go sq ?_) (by simp[below])
 have hse:=s.cs_eq
 by_cases ho:s.op=1
 ·simp-implicitDefEqProofs[fR,hse,ET,uu,ho]
 ·simp-implicitDefEqProofs[fR,hse,ET,uu,ho]
theorem ER(f:Fd)(hb:f.sz<=1073741824):VF Tryz.prog G jf [.agg (f.cs.map .p)] (.p (.int .i64 (Ht f))):=by
 have hcs:=f.cs_eq'
 have hfz:f.sz=1+f.name.length+(f.params.length+(f.params.map List.length).sum)+aA f.body:=rfl
 have hl:=fe f.body
 have hl2:=fu f.body
 have hst:aR f.params= .lst 1 (f.params.map λw=>[.str w]):=rfl
 have hI:=(GM G (ET f) uu (λ_=>True) 1073741824 (by omega) (λst s d _ _=>⟨trivial,Cg G f st s d⟩) (aA f.body+1) f.body (by omega) (by omega) 1 (by omega) (f.params.length:Int) trivial).2
 rw[uZ f.body 1 f.params.length (by omega) (by omega)] at hI
 refine AC.go uS ?_
 simp-implicitDefEqProofs[ni,hcs,hst]
 refine hI.mono ?_
 rintro r h ⟨rfl,rfl⟩
 simp-implicitDefEqProofs[aa,ET,Ht]
theorem Kh(l:List Fd)(hz:bQ l<=1073741824):VF Tryz.prog G lM [.agg [.p (fdL l)]] (.p (.bool (decide (cA l=0)))):=by
 refine AC.go Ae ?_
 simp-implicitDefEqProofs[pV]
 refine(zW G l hz).use ?_
 simp-implicitDefEqProofs[]
variable (hK:G ja=some gO) (hS:G dV=some [.tbl opK opV])
include hK hS
theorem Pb(l:List Fd)(hz:bQ l<=1073741824):VF Tryz.prog G oe [.agg [.p (fdL l)]] (.p (.bool (decide (cA l=0)))):=by
 refine AC.go Cz ?_
 simp-implicitDefEqProofs[ug]
 refine(vC G hK hS l hz).use ?_
 simp-implicitDefEqProofs[]
end
section
theorem GK:∀(a b:List (List UInt8)) (m:Scp) (i:Nat),psS (a++b) m i=psS b (psS a m i) (i+a.length)
 |[],b,m,i=>by simp[psS]
 |p::r,b,m,i=>by rw[TN,psS,psS,GK r];simp;congr 1;omega
theorem DY{l:List (List UInt8)}{i:Nat}(h:i<l.length)(m:Scp):psS (l.take (i+1)) m 0=dW (psS (l.take i) m 0) l[i] i:=by
 rw[an h,GK,psS,psS,TD,Nat.min_eq_left (by omega),Ua]
variable (G:aH)
theorem JV{l:List Fd}{pr:Int}{L n:Nat}{h:List AO}(hg:h[L]?=some (.row 5 [[.p (fdL l),.p (.int .i64 pr),.p (.int .i64 n),.nils,.p (.int .i64 0)]])):
 AC Tryz.prog G aT [.ptr L 5 0 0,.p (.int .i64 1)] h λr h'=>r= .ret (.p (.int .i64 0))/\h'=(h++[AO.row 5 [[.nils,.nils,.p (.int .i64 0),.p (.int .i64 0),.nils]]]).set L (lwO l pr ⟨n,[bk0],0⟩ (.sl h.length 5 0 1)):=by
 have hLl:=(Ta.1 hg).1
 have hgt:∀t,(h++t)[L]?=some (.row 5 [[.p (fdL l),.p (.int .i64 pr),.p (.int .i64 n),.nils,.p (.int .i64 0)]]):=λt=>by rw[Tb hLl];exact hg
 refine AC.go iP ?_
 simp-implicitDefEqProofs[dT,hg,hgt,lwO]
theorem IZ(l:List Fd)(hl:l.length<=1073741824)(f:Fd)(hz:f.sz<=16777216)(hf:∀x∈f.body,aF 4 x=true):AC Tryz.prog G fW [.agg [.p (fdL l)],.agg (f.cs.map .p)] [] (MkW .agg false (lwF l 0 f).cs):=by
 have hfc:=f.cs_eq'
 have hfz:f.sz=1+f.name.length+(f.params.length+(f.params.map List.length).sum)+aA f.body:=rfl
 have hst:aR f.params= .lst 1 (f.params.map λw=>[.str w]):=rfl
 have hvn:Ht f=f.params.length+aN f.body:=rfl
 have hlet:=TP (fe f.body) (fu f.body)
 have hvI:(Ht f:Int)=((f.params.length+aN f.body:Nat):Int):=rfl
 refine AC.go zn ?_
 simp-implicitDefEqProofs[nN,hfc,hst]
 have hvc:=ER G f (by omega)
 rw[hfc,hst] at hvc
 refine hvc.use ?_
 simp-implicitDefEqProofs[]
 refine(nb G .nilp (.inl rfl) _).mono ?_
 rintro r h ⟨rfl,rfl⟩
 simp-implicitDefEqProofs[aa]
 refine aG (λi:Nat=>ay 65 [(3,.ptr 1 3 0 0),(4,.ptr 2 3 0 0),(5,.ptr 3 5 0 0),(6,.ptr 5 2 0 0),(27,.p (aR f.params)),(28,.p (.int .i64 f.params.length)),(29,.p (.int .i64 i))])
  (λi=>[.row 1 [[.p (fdL l)]],.row 3 [[.p (.str f.name),.p (aR f.params),.p (smL f.body)]],.row 3 [[.p (.int .i64 0),.p (.int .i64 0),.nils]],.row 5 [[.p (fdL l),.p (.int .i64 f.params.length),.p (.int .i64 (Ht f)),.nils,.p (.int .i64 0)]],.mp (mpE (psS (f.params.take i) [] 0)),.row 2 [[.mp 4,.nilp]]]) (λi=>i<=f.params.length) (λi=>f.params.length-i) 0 (by simp) ?_ ?_
 ·have e0:mpE (psS (f.params.take 0) [] 0)=[]:=rfl
  rw[e0,hst]
  exact aw (by simp) (by simp[below])
 intro i hi
 simp-implicitDefEqProofs[hst]
 refine aJ (λhc=>?_) (λhc=>?_)
 ·simp at hc
  have hg:=Tc hc
  have hps:=DY hc []
  have hms:=ou f.params[i] i (psS (f.params.take i) [] 0)
  simp-implicitDefEqProofs[hg,hms]
  refine⟨i+1,by omega,by omega,?_⟩
  rw[hps]
  exact aw (by simp) (by simp[below,hst,w1 (i:=i) (by omega)])
 ·simp at hc
  have hie:i=f.params.length:=by omega
  subst hie
  rw[Tz]
  obtain⟨m,hm⟩:∃m,m=psS f.params [] 0:=⟨_,rfl⟩
  rw[←hm]
  simp-implicitDefEqProofs[]
  have hn0:=JV G (l:=l) (pr:=f.params.length) (L:=3) (n:=f.params.length+aN f.body) (h:=[.row 1 [[.p (fdL l)]],.row 3 [[.p (.str f.name),.p (aR f.params),.p (smL f.body)]],.row 3 [[.p (.int .i64 0),.p (.int .i64 0),.nils]],.row 5 [[.p (fdL l),.p (.int .i64 f.params.length),.p (.int .i64 (Ht f)),.nils,.p (.int .i64 0)]],.mp (mpE m),.row 2 [[.mp 4,.nilp]]]) rfl
  rw[hst] at hn0
  refine hn0.mono ?_
  rintro x X1 ⟨rfl,rfl⟩
  obtain⟨w0,hw0⟩:∃w0:Lw,w0=⟨f.params.length+aN f.body,[bk0],0⟩:=⟨_,rfl⟩
  rw[←hw0]
  simp-implicitDefEqProofs[aa,lwO]
  obtain⟨H0,hH0⟩:∃H0,H0=[AO.row 1 [[.p (fdL l)]],.row 3 [[.p (.str f.name),.p (.lst 1 (f.params.map λw=>[.str w])),.p (smL f.body)]],.row 3 [[.p (.int .i64 0),.p (.int .i64 0),.nils]],.row 5 [[.p (fdL l),.p (.int .i64 f.params.length),.p (.int .i64 w0.regs),.sl 6 5 0 1,.p (.int .i64 w0.pos)]],.mp (mpE m),.row 2 [[.mp 4,.nilp]],.row 5 [[.nils,.nils,.p (.int .i64 0),.p (.int .i64 0),.nils]],.row 1 [[.p (.int .i64 f.params.length)]]]:=⟨_,rfl⟩
  rw[←hH0]
  have hls:LS (lwO l f.params.length) 3 w0 H0 (.sl 6 5 0 1) [6]:=by
   have hr:RowOwn false H0 6 5 [[.nils,.nils,.p (.int .i64 0),.p (.int .i64 0),.nils]] [bk0.cs] []:=⟨by rw[hH0];rfl,rfl,by simp,by simp[Bk.cs],.nils 2 (.nils 4 (.p _ (λ_=>rfl) (.p _ (λ_=>rfl) (.nils 1 .nil)))),by simp⟩
   refine⟨by rw[hH0];rfl,?_,by simp,λq e=>(by cases e),λkid n rows eK hg r hr'=>?_⟩
   ·rw[hw0];exact hr.tree rfl
   ·cases eK
    rw[hr.here] at hg
    cases hg
    rw[Ti.1 hr']
    intro q;simp
  have hok:w0.Ok (f.sz+1):=by
   rw[hw0]
   exact⟨by show f.params.length+aN f.body<=_;omega,by show 1<=_;omega,λb hb=>by rw[Ti.1 hb];show 0<=_;omega,by show 0<1;omega⟩
  have hblk:=LA G l hl f.params.length 3 4 f.body hf w0 H0 (.sl 6 5 0 1) [6] (f.sz+1) [] 5 4 m [] 7 f.params.length hls hok (by omega) (by omega) (.cons _ _ _ _ _ _ (by rw[hH0];rfl) (by rw[hH0];rfl) .nil) (by simp) (by rw[hH0];rfl) (by simp) (by simp)
  have okb:=cU (faI l) 0 f.body m [] f.params.length w0 _ hok
  obtain⟨y,hy⟩:∃y,y=aO (faI l) 0 f.body m [] f.params.length w0:=⟨_,rfl⟩
  rw[←hy] at hblk okb
  refine hblk.mono ?_
  rintro x X2 ⟨rfl,K2,I2,a1,a2,a3,_,_⟩
  have hH8:H0.length=8:=by rw[hH0];rfl
  have T2:Stb (lwO l f.params.length) 3 [3,7,4,6] [6] [2] H0 y.2.2 X2 K2 I2:=⟨a1,a2,by simp,by simp,a3,λi hi=>by
   rw[Ti.1 hi]
   have h1:=a2.1
   refine⟨by omega,?_⟩
   simp only[Tf,not_or]
   refine⟨by omega,λhm=>?_⟩
   rcases a3 2 hm with h|h
   ·simp at h
   ·omega⟩
  have b2:X2[2]?=some (.row 3 [[.p (.int .i64 0),.p (.int .i64 0),.nils]]):=by rw[a2.2 2 (by omega) (by simp),hH0];rfl
  have l2:=T2.ls.here
  simp only[lwO] at l2
  simp-implicitDefEqProofs[aa,l2]
  refine(sZ G T2.ls okb.1 (by omega) 1 0 [] (A:= .nils) (J:=[]) (.nils 1 .nil) List.nodup_nil (λj hj=>by cases hj)).mono ?_
  rintro x X3 ⟨rfl,hlr⟩
  obtain⟨K3,I3,T3,e3⟩:=T2.step (J:=[]) (λj hj=>by cases hj) hlr
  have ok3:=okb.1.mk' 1 0 []
  have b3:=(e3 2 (by simp)).trans b2
  have l3:=T3.ls.here
  simp only[lwO] at l3
  have hp3:(y.2.2.mk' 1 0 []).pos=y.2.2.pos:=rfl
  simp-implicitDefEqProofs[aa,l3,hp3]
  refine(lK G T3.ls ok3 3 y.2.2.regs y.2.2.pos [] (V:= .nils) (J:=[]) (.nils 1 .nil) List.nodup_nil (λj hj=>by cases hj)).mono ?_
  rintro x X4 ⟨rfl,hlr⟩
  obtain⟨K4,I4,T4,e4⟩:=T3.step (J:=[]) (λj hj=>by cases hj) hlr
  have b4:=(e4 2 (by simp)).trans b3
  have l4:=T4.ls.here
  simp only[lwO] at l4
  obtain⟨k1,k2⟩:=fI T4.ls.own
  have hs2:∀o,(X4.set 2 o)[2]?=some o:=λo=>Tr (T4.ap 2 (by simp)).1
  simp-implicitDefEqProofs[-AV.cells,-AV.isCell,aC,ab,af,aq,ah,aD,ae,au,aj,k1,k2,aa,l4,b4, ↓hs2]
  have hres:lwF l 0 f=⟨f.params.length,(y.2.2.mk' 1 0 []).regs,((y.2.2.mk' 1 0 []).fin 3 y.2.2.regs y.2.2.pos []).bs⟩:=by
   rw[lwF,←hm,←hw0,←hy];rfl
  rw[hres]
  refine⟨_,I4,rfl,.p _ (λ_=>rfl) (.p _ (λ_=>rfl) (T4.ls.own.frame λi hi=>Te λe=>(T4.ap 2 (by simp)).2 (by rw[e];exact Tx _ hi))),(TC.1 T4.ls.nd).2⟩
end
section
def dN{σ α β:Type}(g:σ->α->β × σ):σ->List α->List β × σ
 |st,[]=>([],st)
 |st,x::r=>((g st x).1::(dN g (g st x).2 r).1,(dN g (g st x).2 r).2)
theorem Ei{σ α β:Type}(g:σ->α->β × σ):∀(a b:List α) (st:σ),dN g st (a++b)=((dN g st a).1++(dN g (dN g st a).2 b).1,(dN g (dN g st a).2 b).2)
 |[],b,st=>rfl
 |x::r,b,st=>by rw[TN,dN,Ei g r];rfl
theorem Ij{σ α β:Type}{g:σ->α->β × σ}{l:List α}{st:σ}{i:Nat}(h:i<l.length):dN g st (l.take (i+1))=((dN g st (l.take i)).1++[(g (dN g st (l.take i)).2 l[i]).1],(g (dN g st (l.take i)).2 l[i]).2):=by
 rw[an h,Ei];rfl
theorem DM{σ α β:Type}(g:σ->α->β × σ):∀(l:List α) (st:σ),(dN g st l).1.length=l.length
 |[],st=>rfl
 |x::r,st=>by rw[dN,Tu,Tu,DM g r]
theorem Dh{σ α β:Type}{g:σ->α->β × σ}{inv:Nat->σ->Prop}:∀{l:List α} {st:σ} {k:Nat},inv k st->(∀(i:Nat) st (h:i<l.length),inv (k+i) st->inv (k+i+1) (g st l[i]).2)->∀i,i<=l.length->inv (k+i) (dN g st (l.take i)).2
 |[],st,k,h0,_,i,hi=>by
  have:i=0:=by simpa using hi
  subst this;exact h0
 |x::r,st,k,h0,hs,0,_=>h0
 |x::r,st,k,h0,hs,i+1,hi=>by
  have h1:=hs 0 st (by simp) h0
  have:=Dh (g:=g) (l:=r) (st:=(g st x).2) (k:=k+1) h1 (λj st hj hv=>by
   have:=hs (j+1) st (by simp;omega) (by rw[show k+(j+1)=k+1+j by omega];exact hv)
   rw[show k+(j+1)+1=k+1+j+1 by omega] at this
   exact this) i (by simpa using hi)
  rw[List.take_succ_cons,dN,show k+(i+1)=k+1+i by omega]
  exact this
theorem OZ{n k:Nat}{A:List AO}{π:List Nat}{h r1:List AO}(hl:A.length=n)(ha:∀o∈A,okO n o)(hh:∀i,i<n->h[i]?=A[i]?)(ρ:List Nat)(hρ:∀i,i<n->ρ.getD i 0=i)(hρn:n<=ρ.length)(hk:k=n)(hr:HW ρ h π r1):HW ρ h (List.range' 0 k++π) (A++r1):=by
 subst hk
 have key:∀(B:List AO) (s:Nat),(∀i:Nat,B[i]?=h[s+i]?\/B.length<=i)->s+B.length=k->(∀o∈B,okO k o)->HW ρ h (List.range' s B.length++π) (B++r1):=by
  intro B
  induction B with
  |nil=>intro s _ _ _;exact hr
  |cons o r ih=>
   intro s hb hs ho
   rw[Tu,List.range'_succ]
   have h0:h[s]?=some o:=by
    rcases hb 0 with h0|h0
    ·simpa using h0.symm
    ·simp at h0
   have hok:=ho o (by simp)
   have ih:=ih (s+1) (λi=>by
    rcases hb (i+1) with h1|h1
    ·rw[List.getElem?_cons_succ] at h1;left;rw[h1];congr 1;omega
    ·right;simpa using h1) (by simp at hs;omega) (λo ho'=>ho o (by simp[ho']))
   have hsl:=(Ta.1 h0).1
   cases o with
   |dead=>exact ew hsl ih
   |row sz es=>
    refine vh (λx hx=>aM hρn _ (hok x hx)) ?_ ih
    rw[h0,TI (g:=id) λx hx=>oq hρ x (hok x hx)];simp
   |mp es=>exact⟨hsl,⟨λx hx=>by exact(aM hρn [x.2] ⟨hok x hx,trivial⟩).1,by rw[h0,TI (g:=id) λx hx=>by rw[jz hρ x.2 (hok x hx)];rfl];simp⟩,ih⟩
   |sit s p=>exact⟨hsl,h0,ih⟩
 have:=key A 0 (λi=>by
  rcases TQ i A.length with hi|hi
  ·left;rw[Ua];exact(hh i (by omega)).symm
  ·right;exact hi) (by omega) ha
 rwa[hl] at this
theorem Pd{kk q n m d sz c:Nat}{A mid s:List AO}{es:List (List AV)}{l l1:List (Nat × AV)}(hl:A.length=n)(hm:mid.length=m)(hk:kk<=n)(ha:∀o∈A,okO n o)(he:∀x∈es,az 0 x)(H:FgA n l l1)(hd:Aw.look l d= .sl (n+m) sz 0 c):
 Wk kk (ay q l) (A++(mid++ .row sz es::s)) (ay q ((d,.sl n sz 0 c)::l1)) (A++[.row sz es]):=by
 have hρ:∀i,i<n->(List.range' 0 n++[n+m]).getD i 0=i:=λi hi=>by
  rw[Ts,Tb (by simp;exact hi)];simp[hi]
 have hρn:(List.range' 0 n++[n+m]).getD n 0=n+m:=by
  rw[Ts,Tg (by simp)];simp
 refine kN (List.range' 0 n++[n+m]) (by simp;omega) (λi hi=>hρ i (by omega)) ?_ ?_ ?_
 ·refine List.nodup_append.2 ⟨List.nodup_range',by simp,λa ha b hb e=>?_⟩
  rw[Ti] at hb
  have:=(List.mem_range'_1.1 ha).2
  omega
 ·refine OZ hl ha (λi hi=>by rw[Tb (by omega)]) _ hρ (by simp) rfl ?_
  refine bP ?_ he cI
  rw[Tg (by omega),hl,Nat.add_sub_cancel_left,Tg (by omega),hm,Nat.sub_self];rfl
 ·refine⟨⟨by simp only[below];simp,by simp only[ren,hρn];exact hd.symm⟩,?_⟩
  clear hd
  induction l1 with
  |nil=>trivial
  |cons x r ih=>
   obtain⟨⟨a,c⟩,e⟩:=H
   exact⟨⟨(aM (by simp) [x.2] ⟨a,trivial⟩).1,by rw[jz hρ _ a,c]⟩,ih e⟩
theorem Gj{hF:List AO}{n:Nat}:∀{A r:List AO},(∀o∈A,okO n o)->FzO hF n (A++r) A
 |[],r,_=> .nil r
 |o::a,r,h=> .same (h o (by simp)) (Gj λo ho=>h o (by simp[ho]))
theorem MI{n:Nat}{A r:List AO}{o:AO}(hl:A.length=n):(nw n (A++o::r))[n]?=some o:=by
 unfold nw
 rw[Tg (by simp),List.length_replicate,Nat.sub_self,←hl,List.drop_left']
 ·rfl
 ·rfl
variable (G:aH)
end
section
def hZ(l:List Cd):List (List AV):=l.map λc=>c.cs.map .p
theorem Hs(l:List Cd):∀x∈hZ l,az 0 x:=λx hx=>by
 obtain⟨c,_,rfl⟩:=TE.1 hx
 simp[Cd.cs,az,below]
theorem Cd.cs_eq'(c:Cd):c.cs=[.int .i64 c.params,.int .i64 c.regs,bkL c.blocks]:=rfl
variable (G:aH)
theorem HP{σ:Type}(V:Vis σ)(g:σ->Fd->Cd × σ)(inv:Nat->σ->Prop)(l:List Fd)(hb:l.length<=1073741824)(hn:0<V.n)
 (hv:∀(i:Nat) st (h:i<l.length),inv i st->inv (i+1) (g st l[i]).2/\AC Tryz.prog G V.F (.agg (l[i].cs.map .p)::V.caps) (V.I st) λx h'=>x= .ret (.agg ((g st l[i]).1.cs.map .p))/\h'=V.I (g st l[i]).2)(st:σ)(h0:inv 0 st):
 AC Tryz.prog G bO [.p (fdL l),.fn (.func V.F) V.caps] (V.I st) λx h=>x= .ret (.p (cdL (dN g st l).1))/\h=V.I (dN g st l).2:=by
 have hxl:∀l,fdL l= .lst 3 (l.map Fd.cs):=λ_=>rfl
 have hlen:=V.len
 have hcb:=V.capsOk
 have hinv:∀i,i<=l.length->inv i (dN g st (l.take i)).2:=λi hi=>by
  have:=Dh (g:=g) (inv:=inv) (l:=l) (st:=st) (k:=0) h0 (λi st h hi=>by
   rw[Ua] at hi⊢;exact(hv i st h hi).1) i hi
  rwa[Ua] at this
 have hRp:∀l:List Cd,∀x∈hZ l,az 0 x:=Hs
 have hRl:∀l:List Cd,(hZ l).length=l.length:=λl=>by simp[hZ]
 have hRa:∀(l:List Cd) (y:Cd),hZ (l++[y])=hZ l++[y.cs.map .p]:=λl y=>by simp[hZ]
 have key:AC Tryz.prog G bO [.p (fdL l),.fn (.func V.F) V.caps] (V.I st) λx h=>x= .ret (slE V.n 3 (hZ (dN g st l).1))/\h=V.I (dN g st l).2++[yw 3 (hZ (dN g st l).1)]:=by
  refine AC.go lR ?_
  simp-implicitDefEqProofs[fL,hxl]
  refine aG (λi:Nat=>ay 22 [(5,slE V.n 3 (hZ (dN g st (l.take i)).1)),(0,.p (fdL l)),(1,.fn (.func V.F) V.caps),(8,.p (fdL l)),(9,.p (.int .i64 l.length)),(10,.p (.int .i64 i))])
   (λi=>V.I (dN g st (l.take i)).2++[yw 3 (hZ (dN g st (l.take i)).1)]) (λi=>i<=l.length) (λi=>l.length-i) 0 (by simp) ?_ ?_
  ·have e:yw 3 (hZ (dN g st (l.take 0)).1)= .dead:=rfl
   rw[e]
   exact yR (by rw[hlen];exact Tk _) (by rw[hlen];exact hn) (by rw[hlen];exact V.ok st) (by simp[below,hxl,hcb,hlen,dN,hZ,Hc])
  intro i hi
  have hT:=λh=>Ij (g:=g) (l:=l) (st:=st) (i:=i) h
  have hi2:=hinv i hi
  have hml:=DM g (l.take i) st
  rw[TD,Nat.min_eq_left hi] at hml
  generalize hcur:dN g st (l.take i)=cur at hT hi2 hml⊢
  obtain⟨out,s⟩:=cur
  simp only at hT hi2 hml⊢
  simp-implicitDefEqProofs[hxl]
  refine aJ (λhc=>?_) (λhc=>?_)
  ·simp at hc
   have hg:=Tc hc
   have hT:=hT hc
   obtain⟨_,hA⟩:=hv i s hc hi2
   generalize l[i]=x at hg hT hA
   have hkc:=x.cs_eq'
   have hyc:=(g s x).1.cs_eq'
   rw[hkc] at hA
   simp-implicitDefEqProofs[hg,hkc,hlen]
   refine(V.pre G hA _ ⟨by simp[below],hcb⟩).mono ?_
   rintro r h ⟨rfl,rfl⟩
   rw[hyc]
   simp-implicitDefEqProofs[aa,hlen]
   have hol:=hRl out
   refine⟨⟨by omega,by omega⟩,i+1,hc,by omega,?_⟩
   rw[hT]
   simp only[hRa]
   rw[MP _ (by simp),LB _ (by simp),hyc]
   refine Pd (mid:=[_,_,_]) (s:=[]) (hlen _) rfl (Tk _) (V.ok _) ?_ ?_ ?_
   ·intro x hx
    rcases Th.1 hx with h|h
    ·exact hRp _ x h
    ·rw[Ti.1 h];simp
   ·simp[below,hxl,hcb,w1 (i:=i) (by omega)]
   ·simp
  ·simp at hc
   have hie:i=l.length:=by omega
   subst hie
   rw[Tz] at hcur
   rw[hcur]
   simp-implicitDefEqProofs[]
 refine key.frz V.n (by rw[hlen];exact Tk _) (λt v h ⟨e,_⟩=>by cases e) ?_
 rintro v h ⟨e,rfl⟩
 cases e
 refine⟨_,V.I (dN g st l).2,by rw[Tw,hlen];omega,hlen _,.one ?_ .nil,Gj (V.ok _),rfl,rfl⟩
 have ht:=MI (r:=[]) (o:=yw 3 (hZ (dN g st l).1)) (hlen (dN g st l).2)
 have hh:hZ (dN g st l).1=((dN g st l).1.map Cd.cs).map (·.map .p):=by simp[hZ]
 rw[hh] at ht⊢
 exact Oj ht (λx hx=>by obtain⟨b,_,rfl⟩:=TE.1 hx;rfl)
def unL(l:List Fd):List Cd:=l.map (lwF l 0)
theorem FA(l:List Fd)(hl:l.length<=1073741824)(f:Fd)(hz:f.sz<=16777216)(hf:∀x∈f.body,aF 4 x=true):VF Tryz.prog G fW [.agg [.p (fdL l)],.agg (f.cs.map .p)] (.agg ((lwF l 0 f).cs.map .p)):=
 AC.mkFreeze Hj (IZ G l hl f hz hf)
end
section
variable (G:aH)
theorem Bm(b:Bool):VF Tryz.prog G kA [.p (.bool b)] (.p (.int .i64 (if b then 1 else 0))):=by
 refine AC.go vV ?_
 cases b<;>simp-implicitDefEqProofs[nH]
end
section
theorem tZ:∀a b:List Sm,aN (a++b)=aN a+aN b
 |[],b=>by simp[aN]
 |s::r,b=>by rw[TN,aN,aN,tZ r b,Nat.add_assoc]
theorem ED{l:List Sm}{i:Nat}(h:i<l.length):aN (l.take (i+1))=aN (l.take i)+rB l[i]:=by rw[an h,tZ,aN,aN];rfl
theorem DR(l:List Sm)(i:Nat):aN (l.take i)<=aN l:=by
 have:=tZ (l.take i) (l.drop i)
 rw[TL] at this
 omega
variable (G:aH)
theorem JQ:∀(k:Nat) (l:List Sm),aA l<=k->k<=1099511627776->VF Tryz.prog G fd [.p (smL l)] (.p (.int .i64 (aN l))):=by
 intro k
 induction k with
 |zero=>
  intro l hl _
  have:l=[]:=by
   cases l with
   |nil=>rfl
   |cons s r=>have:=s.sz_eq;simp only[aA] at hl;omega
  subst this
  refine AC.go rh ?_
  have hsl:smL []= .lst 5 []:=rfl
  simp-implicitDefEqProofs[lD,hsl]
  refine aG (λ_:Unit=>ay 35 [(0,.p (.lst 5 [])),(3,.p (.int .i64 0)),(4,.p (.int .i64 0))]) (λ_=>[]) (λ_=>True) (λ_=>0) () trivial (aQ rfl (by simp[below])) ?_
  intro _ _
  simp-implicitDefEqProofs[aN]
 |succ k ih=>
  intro l hl hk
  have hll:=bf l
  have hnz:=TP (fe l) (fu l)
  refine AC.go rh ?_
  have hsl:∀l,smL l= .lst 5 (l.map Sm.cs):=λ_=>rfl
  simp-implicitDefEqProofs[lD,hsl]
  refine aG (λi:Nat=>ay 35 [(0,.p (smL l)),(3,.p (.int .i64 (aN (l.take i)))),(4,.p (.int .i64 i))]) (λ_=>[]) (λi=>i<=l.length) (λi=>l.length-i) 0 (by simp) (aQ rfl (by simp[below,hsl,aN])) ?_
  intro i hi
  have k2:=DR l i
  simp-implicitDefEqProofs[hsl]
  refine aJ (λh=>?_) (λh=>?_)
  ·simp at h
   have hg:=Tc h
   have hks:=bp (Tp h)
   have hse:=l[i].sz_eq
   have hce:=l[i].cs_eq
   have k1:=ED h
   have k4:=DR l (i+1)
   have k5:=MH l[i]
   have hb:=ih l[i].body (by omega) (by omega)
   have he:=ih l[i].els (by omega) (by omega)
   generalize l[i]=s at*
   generalize aN (l.take i)=n at*
   obtain⟨n2,hn2⟩:∃n2,n2=aN (l.take (i+1)):=⟨_,rfl⟩
   rw[←hn2] at k1 k4
   by_cases ho:s.op=1
   ·rw[if_pos ho] at k5
    simp-implicitDefEqProofs[hg,hce,ho]
    refine(Bm G true).use ?_
    have w0':IntKind.i64.wrap ((n:Int)+1)=(n:Int)+1:=ag (by omega) (by omega)
    simp-implicitDefEqProofs[hg,hce,w0']
    refine hb.use ?_
    have w1':IntKind.i64.wrap ((n:Int)+1+(aN s.body:Int))=(n:Int)+1+(aN s.body:Int):=ag (by omega) (by omega)
    simp-implicitDefEqProofs[hg,hce,w1']
    refine he.use ?_
    have w2':IntKind.i64.wrap ((n:Int)+1+(aN s.body:Int)+(aN s.els:Int))=(n2:Int):=by rw[ag (by omega) (by omega)];omega
    simp-implicitDefEqProofs[w2']
    exact⟨i+1,h,by omega,aQ rfl (by simp[below,hsl,←hn2,w1 (i:=i) (by omega)])⟩
   ·rw[if_neg ho] at k5
    simp-implicitDefEqProofs[hg,hce,ho]
    refine(Bm G false).use ?_
    have w0':IntKind.i64.wrap (n:Int)=(n:Int):=ag (by omega) (by omega)
    simp-implicitDefEqProofs[hg,hce,w0']
    refine hb.use ?_
    have w1':IntKind.i64.wrap ((n:Int)+(aN s.body:Int))=(n:Int)+(aN s.body:Int):=ag (by omega) (by omega)
    simp-implicitDefEqProofs[hg,hce,w1']
    refine he.use ?_
    have w2':IntKind.i64.wrap ((n:Int)+(aN s.body:Int)+(aN s.els:Int))=(n2:Int):=by rw[ag (by omega) (by omega)];omega
    simp-implicitDefEqProofs[w2']
    exact⟨i+1,h,by omega,aQ rfl (by simp[below,hsl,←hn2,w1 (i:=i) (by omega)])⟩
  ·simp at h
   rw[Tl h]
   simp-implicitDefEqProofs[]
section
variable {l:List Fd} {pr:Int} {L:Nat} {S I0 E:List Nat} {h:List AO} {w:Lw} {nx:Nat} {vs:Vs} {X:List AO} {K V:AV} {I:List Nat}
theorem Nb(T:RS l pr L S I0 E h w nx vs X K V I)(hw:w.regs<=1073741824):
 AC Tryz.prog G bF [.ptr L 8 0 0] X λx h'=>x= .ret (.p (.int .i64 w.regs))/\∃K' I',RS l pr L S I0 E h w.reg nx vs h' K' V I'/\∀i∈E,h'[i]?=X[i]?:=
 (lT G T.stb.ls hw).mono λx h' ⟨a,b⟩=>⟨a,T.step (J:=[]) (λj hj=>by cases hj) (by rw[Tt];exact b)⟩
theorem Ot(T:RS l pr L S I0 E h w nx vs X K V I){B:Nat}(hok:w.Ok B)(hB:B<=1073741824)(op to n:Int):
 AC Tryz.prog G ce [.ptr L 8 0 0,.p (.int .i64 op),.p (.int .i64 to),.p (.int .i64 n),.sl X.length 1 0 0] (X++[.row 1 []]) λr h'=>r= .ret (.p (.int .i64 to))/\∃K' I',RS l pr L S I0 E h (w.put ⟨op,to,[],n⟩) nx vs h' K' V I'/\∀i∈E,h'[i]?=X[i]?:=by
 obtain⟨f1,f2⟩:=T.fresh
 refine(ro G (T.stb.ls.more [.row 1 []]) hok hB ⟨op,to,[],n⟩ (cy X ([]:List Int) rfl) (by simp) f2).mono λr h' ⟨e,b⟩=>⟨e,?_⟩
 obtain⟨K2,I2,a1,a2⟩:=(T.more [_]).step f1 b
 exact⟨K2,I2,a1,λi hi=>(a2 i hi).trans (Tb (T.at.1 i hi).1)⟩
theorem NE(T:RS l pr L S I0 E h w nx vs X K V I){B:Nat}(hok:w.Ok B)(j o:Int)(g:Nat){gI:Int}(hg:gI=(g:Int)):
 AC Tryz.prog G bu [.ptr L 8 0 0,.p (.int .i64 j),.p (.int .i64 o),.sl X.length 1 0 0,.p (.int .i64 gI)] (X++[.row 1 []]) λr h'=>r= .ret (.tup [])/\∃K' I',RS l pr L S I0 E h (w.fin j o g []) nx vs h' K' V I'/\∀i∈E,h'[i]?=X[i]?:=by
 obtain⟨f1,f2⟩:=T.fresh
 rw[hg]
 refine(oX G (T.stb.ls.more [.row 1 []]) hok j o g [] (cy X ([]:List Int) rfl) (by simp) f2).mono λr h' ⟨e,b⟩=>⟨e,?_⟩
 obtain⟨K2,I2,a1,a2⟩:=(T.more [_]).step f1 b
 exact⟨K2,I2,a1,λi hi=>(a2 i hi).trans (Tb (T.at.1 i hi).1)⟩
theorem IS{n:Nat}(hg:X[L]?=some (.row 8 [[.p (fdL l),.p (.int .i64 pr),.p (.int .i64 n),.nils,.p (.int .i64 0),V,.p (.int .i64 nx),.nils]]))(hV:V.cells=[V]/\V.isCell=true):
 AC Tryz.prog G cf [.ptr L 8 0 0] X λr h'=>r= .ret (.p (.int .i64 0))/\∃K I,LS (lwR l pr V nx) L ⟨n,[bk0],0⟩ h' K I/\Frm [L] X h'/\∀j∈I,X.length<=j:=by
 have hLl:=(Ta.1 hg).1
 obtain⟨v1,v2⟩:=hV
 have hgt:∀t,(X++t)[L]?=some (.row 8 [[.p (fdL l),.p (.int .i64 pr),.p (.int .i64 n),.nils,.p (.int .i64 0),V,.p (.int .i64 nx),.nils]]):=λt=>by rw[Tb hLl];exact hg
 have hs3:∀t o,((X++t).set L o)[L]?=some o:=λt o=>Tr (by simp;omega)
 refine AC.go ke ?_
 simp-implicitDefEqProofs[-AV.cells,-AV.isCell,aC,ab,af,aq,ah,aD,ae,au,aj,v1,v2,fH,hg,hgt, ↓hs3]
 have key:∀o1:AO,∃K I,LS (lwR l pr V nx) L ⟨n,[bk0],0⟩ ((X++[.row 2 [],.row 4 [],.row 1 [],o1,.row 5 [[.sl X.length 2 0 0,.sl (X.length+1) 4 0 0,.p (.int .i64 0),.p (.int .i64 0),.sl (X.length+2) 1 0 0]]]).set L (lwR l pr V nx ⟨n,[bk0],0⟩ (.sl (X.length+4) 5 0 1))) K I/\Frm [L] X ((X++[.row 2 [],.row 4 [],.row 1 [],o1,.row 5 [[.sl X.length 2 0 0,.sl (X.length+1) 4 0 0,.p (.int .i64 0),.p (.int .i64 0),.sl (X.length+2) 1 0 0]]]).set L (lwR l pr V nx ⟨n,[bk0],0⟩ (.sl (X.length+4) 5 0 1)))/\∀j∈I,X.length<=j:=λo1=>by
  obtain⟨H,hH⟩:∃H,H=((X++[.row 2 [],.row 4 [],.row 1 [],o1,.row 5 [[.sl X.length 2 0 0,.sl (X.length+1) 4 0 0,.p (.int .i64 0),.p (.int .i64 0),.sl (X.length+2) 1 0 0]]]).set L (lwR l pr V nx ⟨n,[bk0],0⟩ (.sl (X.length+4) 5 0 1))):=⟨_,rfl⟩
  have g:∀k,H[X.length+k]?=[AO.row 2 [],.row 4 [],.row 1 [],o1,.row 5 [[.sl X.length 2 0 0,.sl (X.length+1) 4 0 0,.p (.int .i64 0),.p (.int .i64 0),.sl (X.length+2) 1 0 0]]][k]?:=λk=>by
   rw[hH,Te (by omega),Tg (by omega)]
   rw[Nat.add_sub_cancel_left]
  rw[←hH]
  have hr:RowOwn false H (X.length+4) 5 [[.sl X.length 2 0 0,.sl (X.length+1) 4 0 0,.p (.int .i64 0),.p (.int .i64 0),.sl (X.length+2) 1 0 0]] [bk0.cs] [X.length,X.length+1,X.length+2]:=
   ⟨g 4,rfl,by simp,by simp[bk0,Bk.cs],by rw[List.flatten_singleton,List.flatten_singleton];exact Hn (g 0) (g 1) (g 2),by simp⟩
  refine⟨_,_,⟨by rw[hH];exact Tr (by simp;omega),hr.tree rfl,by simp;omega,λq e=>(by cases e),λkid n2 rows2 eK hg2 r hr2=>?_⟩,⟨by rw[hH];simp,λi hi hn=>?_⟩,λj hj=>?_⟩
  ·cases eK
   rw[hr.here] at hg2
   cases hg2
   rw[Ti.1 hr2]
   intro q;simp
  ·rw[hH,Te (λe=>hn (by simp[e])),Tb hi]
  ·simp only[Tf,Uk,or_false] at hj
   omega
 have e:=key (.row 5 [[.sl X.length 2 0 0,.sl (X.length+1) 4 0 0,.p (.int .i64 0),.p (.int .i64 0),.sl (X.length+2) 1 0 0]])
 exact⟨ag (by omega) (by omega),e⟩
end
structure PvS where (i:Nat) (X:List AO)
theorem Nl{vs:Vs}{ps:List (List UInt8)}{i:Nat}(hi:i<ps.length)(hl:vs.length=i)(h:rgV vs=scF (-1) [psS (ps.take i) [] 0]):rgV (vs++[(ps[i],i)])=scF (-1) [psS (ps.take (i+1)) [] 0]:=by
 funext t
 simp only[zK,h,DY hi,scF,cE,kC]
 by_cases hst:ps[i]=t
 ·simp[hst]
 ·simp[hst]
theorem OC(l:List Fd)(hl:l.length<=1073741824)(k:Nat)(f:Fd)(hk:l[k]?=some f)(hz:f.sz<=16777216)(hf:∀x∈f.body,aF 4 x=true):AC Tryz.prog G lh [.agg [.p (fdL l)],.p (.int .i64 k)] [] (MkW .agg false (lwF l (-1) f).cs):=by
 have hfc:=f.cs_eq'
 have hfl:fdL l= .lst 3 (l.map Fd.cs):=rfl
 have hlk:=(Ta.1 hk).1
 have hfz:f.sz=1+f.name.length+(f.params.length+(f.params.map List.length).sum)+aA f.body:=rfl
 have hst:aR f.params= .lst 1 (f.params.map λw=>[.str w]):=rfl
 have hlet:=TP (fe f.body) (fu f.body)
 refine AC.go EA ?_
 simp-implicitDefEqProofs[ur,hfl,hk,hfc,hst]
 rw[←hfl]
 refine(JQ G _ f.body (Tk _) (by omega)).use ?_
 have hwl:IntKind.i64.wrap ((f.params.length:Int)+(aN f.body:Int))=((f.params.length+aN f.body:Nat):Int):=by rw[ag (by omega) (by omega)];omega
 simp-implicitDefEqProofs[hst,hwl]
 obtain⟨n,hn⟩:∃n:Nat,n=f.params.length+aN f.body:=⟨_,rfl⟩
 have hnI:(f.params.length:Int)+(aN f.body:Int)=n:=by omega
 rw[hnI]
 refine aG (λa:PvS=>ay 80 [(4,.ptr 1 3 0 0),(5,.ptr 2 3 0 0),(6,.ptr 3 8 0 0),(7,.p (.int .i64 a.i))]) (λa=>a.X)
  (λa=>a.i<=f.params.length/\4<=a.X.length/\a.X[1]?=some (.row 3 [[.p (.int .i64 0),.p (.int .i64 0),.nils]])/\a.X[2]?=some (.row 3 [[.p (.str f.name),.p (.lst 1 (f.params.map λw=>[.str w])),.p (smL f.body)]])/\∃V vs,a.X[3]?=some (.row 8 [[.p (fdL l),.p (.int .i64 f.params.length),.p (.int .i64 n),.nils,.p (.int .i64 0),V,.p (.int .i64 f.params.length),.nils]])/\VAt a.X V vs/\(∀i∈vi V,4<=i)/\vs.length=a.i/\rgV vs=scF (-1) [psS (f.params.take a.i) [] 0]) (λa=>f.params.length-a.i)
  ⟨0,[.row 1 [[.p (fdL l)]],.row 3 [[.p (.int .i64 0),.p (.int .i64 0),.nils]],.row 3 [[.p (.str f.name),.p (.lst 1 (f.params.map λw=>[.str w])),.p (smL f.body)]],.row 8 [[.p (fdL l),.p (.int .i64 f.params.length),.p (.int .i64 n),.nils,.p (.int .i64 0),.nils,.p (.int .i64 f.params.length),.nils]]]⟩ ⟨TM _,by simp,rfl,rfl,.nils,[],rfl,.nil,(λi hi=>by cases hi),rfl,rfl⟩ ?_ ?_
 ·exact aw (by simp) (by simp[below])
 rintro⟨i,X⟩ ⟨hi,hX4,hx1,hx2,V,vs,hx3,hV,hVi,hvl,hrg⟩
 simp only at hi hX4 hx1 hx2 hx3 hV hvl hrg
 obtain⟨v1,v2,v3⟩:=hV.is
 simp-implicitDefEqProofs[hx2]
 refine aJ (λhc=>?_) (λhc=>?_)
 ·simp at hc
  have hg:=Tc hc
  have hrg2:=Nl hc hvl hrg
  generalize f.params[i]=p at hg hrg2
  have hwi:=w1 (i:=i) (by omega)
  have hX2m:∀t,(X++t)[2]?=some (.row 3 [[.p (.str f.name),.p (.lst 1 (f.params.map λw=>[.str w])),.p (smL f.body)]]):=λt=>by rw[Tb (by omega)];exact hx2
  cases hV with
  |nil=>
   have hvi:i=0:=hvl.symm
   subst hvi
   have hX3m:∀t,(X++t)[3]?=some (.row 8 [[.p (fdL l),.p (.int .i64 f.params.length),.p (.int .i64 n),.nils,.p (.int .i64 0),.nils,.p (.int .i64 f.params.length),.nils]]):=λt=>by rw[Tb (by omega)];exact hx3
   simp-implicitDefEqProofs[hx2,hx3,hg,hX3m,hX2m]
   have hw11:IntKind.i64.wrap 1=1:=ag (by omega) (by omega)
   refine⟨⟨1,_⟩,⟨by simp only;omega,?_,?_,?_,.sl X.length 3 0 1,?_,[(p,0)],?_,?_,rfl,by simpa using hrg2⟩,by simp only;omega,aw ?_ ?_⟩
   rotate_left 6
   ·exact TM _
   ·simp[below,hw11]
    omega
   ·simp;omega
   ·rw[Te (by omega),Tb (by omega)];exact hx1
   ·rw[Te (by omega),Tb (by omega)];exact hx2
   ·exact Tr (by simp;omega)
   ·exact .sl _ [rr (p,0)] [(p,0)] (by rw[Te (by omega),Tg (Tk _)];simp[rr]) rfl
   ·intro j hj;rw[Ti.1 hj];exact hX4
  |sl vid rows _ hv1 hv2=>
   have hvX:=(Ta.1 hv1).1
   have hv4:=hVi vid (by simp[vi])
   have hvk:vs.length<=rows.length:=by
    have:=congrArg List.length hv2
    rw[TD,TB] at this
    omega
   have hX3m:∀t,(X.set vid .dead++t)[3]?=X[3]?:=λt=>by rw[Tb (by simp;omega),Te (by omega)]
   have hX2n:∀t,(X.set vid .dead++t)[2]?=X[2]?:=λt=>by rw[Tb (by simp;omega),Te (by omega)]
   simp-implicitDefEqProofs[hx2,hx3,hg,hv1,hv2, ↓hX3m, ↓hX2n,hwi]
   refine⟨⟨by omega,by omega⟩,⟨i+1,_⟩,⟨by simp only;omega,?_,?_,?_,.sl X.length 3 0 (vs.length+1),?_,vs++[(p,i)],?_,?_,by simp;omega,hrg2⟩,by simp only;omega,aw ?_ ?_⟩
   rotate_left 6
   ·exact TM _
   ·simp[below,hwi]
    omega
   ·simp;omega
   ·rw[Te (by omega),Tb (by simp;omega),Te (by omega)];exact hx1
   ·rw[Te (by omega),Tb (by simp;omega),Te (by omega)];exact hx2
   ·exact Tr (by simp;omega)
   ·have hlv:(vs++[(p,i)]).length=vs.length+1:=by simp
    exact hlv▸ .sl _ (vs.map rr++[rr (p,i)]) (vs++[(p,i)]) (by rw[Te (by omega),Tg (by simp)];simp[rr]) (by rw[Tl (by simp)];simp)
   ·intro j hj;rw[Ti.1 hj];exact hX4
 ·simp at hc
  have hie:i=f.params.length:=by omega
  subst hie
  rw[Tz] at hrg
  simp-implicitDefEqProofs[]
  refine(IS G hx3 ⟨v1,v2⟩).mono ?_
  rintro x X1 ⟨rfl,K1,I1,H1,hfr,hI1⟩
  have hl1:=hfr.1
  have va1:VAt X1 V vs:=hV.frame λi hi=>hfr.2 i (hV.lt i hi) (by have:=hVi i hi;simp;omega)
  have T1':=RS.of H1 va1 (λi hi=>by
   have h4:=hVi i hi
   have h5:=hV.lt i hi
   simp only[Tf,not_or]
   exact⟨by omega,λhm=>by have:=hI1 i hm;omega⟩)
  have T1:=T1'.add (j:=1) (by omega) (by
   simp only[Tf,not_or]
   exact⟨by omega,λhm=>by have:=hI1 1 hm;omega⟩) (λhm=>by have:=hVi 1 hm;omega)
  have b1:X1[1]?=some (.row 3 [[.p (.int .i64 0),.p (.int .i64 0),.nils]]):=(hfr.2 1 (by omega) (by simp)).trans hx1
  have b2:X1[2]?=some (.row 3 [[.p (.str f.name),.p (.lst 1 (f.params.map λw=>[.str w])),.p (smL f.body)]]):=(hfr.2 2 (by omega) (by simp)).trans hx2
  have ok1:(⟨n,[bk0],0⟩:Lw).Ok (f.sz+1):=⟨by show n<=_;omega,by show 1<=_;omega,λb hb=>by rw[Ti.1 hb];show 0<=_;omega,by show 0<1;omega⟩
  simp-implicitDefEqProofs[aa,b2]
  obtain⟨y,hy⟩:∃y,y=aO (faI l) (-1) f.body (psS f.params [] 0) [] f.params.length ⟨n,[bk0],0⟩:=⟨_,rfl⟩
  have h2:=vo G (JW G l hl f.params.length 3 4 f.body hf) T1 ok1 (by omega) (by omega) (by omega) hrg
  have ok2:=cU (faI l) (-1) f.body (psS f.params [] 0) [] f.params.length ⟨n,[bk0],0⟩ _ ok1
  rw[←hy] at h2 ok2
  refine h2.mono ?_
  rintro x X2 ⟨rfl,K2,V2,I2,T2,e2⟩
  obtain⟨ok2,_,_,_⟩:=ok2
  have b1:=(e2 1 (by simp)).trans b1
  simp-implicitDefEqProofs[aa]
  refine(Nb G T2 (by have:=ok2.regs;omega)).mono ?_
  rintro x X3 ⟨rfl,K3,I3,T3,e3⟩
  have b1:=(e3 1 (by simp)).trans b1
  have ok3:=ok2.reg
  simp-implicitDefEqProofs[aa]
  refine(Ot G T3 ok3 (by omega) 1 y.2.2.regs 0).mono ?_
  rintro x X4 ⟨rfl,K4,I4,T4,e4⟩
  have b1:=(e4 1 (by simp)).trans b1
  have ok4:=ok3.put ⟨1,y.2.2.regs,[],0⟩
  simp-implicitDefEqProofs[aa]
  refine(NE G T4 ok4 3 y.2.2.regs 0 rfl).mono ?_
  rintro x X5 ⟨rfl,K5,I5,T5,e5⟩
  have b1:=(e5 1 (by simp)).trans b1
  have l5:=T5.stb.ls.here
  simp only[lwR] at l5
  obtain⟨k1,k2⟩:=fI T5.stb.ls.own
  have hs1:∀o,(X5.set 1 o)[1]?=some o:=λo=>Tr (T5.at.1 1 (by simp)).1
  simp-implicitDefEqProofs[-AV.cells,-AV.isCell,aC,ab,af,aq,ah,aD,ae,au,aj,k1,k2,aa,l5,b1, ↓hs1]
  have hres:lwF l (-1) f=⟨f.params.length,((y.2.2.reg.put ⟨1,y.2.2.regs,[],0⟩).fin 3 y.2.2.regs 0 []).regs,((y.2.2.reg.put ⟨1,y.2.2.regs,[],0⟩).fin 3 y.2.2.regs 0 []).bs⟩:=by
   rw[lwF,←hn,←hy];rfl
  rw[hres]
  refine⟨_,I5,rfl,.p _ (λ_=>rfl) (.p _ (λ_=>rfl) (T5.stb.ls.own.frame λi hi=>Te λe=>(T5.at.1 1 (by simp)).2 (by rw[e];exact Tx _ hi))),(TC.1 T5.stb.ls.nd).2⟩
theorem NC(l:List Fd)(hl:l.length<=1073741824)(k:Nat)(f:Fd)(hk:l[k]?=some f)(hz:f.sz<=16777216)(hf:∀x∈f.body,aF 4 x=true):VF Tryz.prog G lh [.agg [.p (fdL l)],.p (.int .i64 k)] (.agg ((lwF l (-1) f).cs.map .p)):=
 AC.mkFreeze Hj (OC G l hl k f hk hz hf)
def unR(l:List Fd):List Cd:=l.map (lwF l (-1))
structure UnS where (i:Nat) (X:List AO)
theorem LK(l:List Fd)(hz:bQ l<=16777216)(hf:∀f∈l,∀x∈f.body,aF 4 x=true):VF Tryz.prog G ik [.agg [.p (fdL l)]] (.agg [.p (cdL (unR l))]):=by
 have hfl:fdL l= .lst 3 (l.map Fd.cs):=rfl
 have hll:l.length<=bQ l:=dc l
 have key:AC Tryz.prog G ik [.agg [.p (fdL l)]] [] λx h=>∃V,x= .ret (.agg [V])/\((V= .nils/\l=[])\/∃id,V= .sl id 3 0 l.length/\h[id]?=some (.row 3 (hZ (unR l)))):=by
  refine AC.go AD ?_
  simp-implicitDefEqProofs[pZ]
  refine aG (λa:UnS=>ay 22 [(1,.ptr 0 1 0 0),(2,.ptr 1 1 0 0),(3,.ptr 2 1 0 0),(4,.p (.int .i64 a.i))]) (λa=>a.X)
   (λa=>a.i<=l.length/\3<=a.X.length/\a.X[0]?=some (.row 1 [[.p (fdL l)]])/\a.X[1]?=some (.row 1 [[.nils]])/\∃V,a.X[2]?=some (.row 1 [[V]])/\((V= .nils/\a.i=0)\/∃id,V= .sl id 3 0 a.i/\3<=id/\a.X[id]?=some (.row 3 (hZ (unR l|>.take a.i))))) (λa=>l.length-a.i)
   ⟨0,[.row 1 [[.p (fdL l)]],.row 1 [[.nils]],.row 1 [[.nils]]]⟩ ⟨TM _,by simp,rfl,rfl,.nils,rfl,.inl ⟨rfl,rfl⟩⟩ ?_ ?_
  ·exact aw (by simp) (by simp[below])
  rintro⟨i,X⟩ ⟨hi,hX3,hx0,hx1,V,hx2,hV⟩
  simp only at hi hX3 hx0 hx1 hx2 hV
  simp-implicitDefEqProofs[hx0,hfl]
  refine aJ (λhc=>?_) (λhc=>?_)
  ·simp at hc
   have hg:=Tc hc
   have hm:=Tp hc
   have hfz:=dy hm
   have hcall:=NC G l (by omega) i l[i] hg (by omega) (hf _ hm)
   have htk:(unR l).take (i+1)=(unR l).take i++[lwF l (-1) l[i]]:=by
    rw[unR,←List.map_take,←List.map_take,an hc,List.map_append];rfl
   have hcs:=(lwF l (-1) l[i]).cs_eq'
   have hlt:((unR l).take i).length=i:=by simp[unR];omega
   have hwi:=w1 (i:=i) (by omega)
   generalize lwF l (-1) l[i]=c at hcall htk hcs
   rw[hcs] at hcall
   rw[hfl] at hcall
   have hX2:∀t,(X++t)[2]?=some (.row 1 [[V]]):=λt=>by rw[Tb (by omega)];exact hx2
   rcases hV with⟨rfl,rfl⟩|⟨id,rfl,hid,hxi⟩
   ·simp-implicitDefEqProofs[hx2,hx0,hfl]
    refine hcall.use ?_
    simp-implicitDefEqProofs[hx2,hX2]
    have hw11:IntKind.i64.wrap 1=1:=ag (by omega) (by omega)
    refine⟨⟨1,_⟩,⟨by simp only;omega,?_,?_,?_,.sl X.length 3 0 1,?_,.inr ⟨X.length,rfl,hX3,?_⟩⟩,by simp only;omega,aw ?_ ?_⟩
    rotate_left 5
    ·exact TM _
    ·simp[below,hw11];omega
    ·simp;omega
    ·rw[Te (by omega),Tb (by omega)];exact hx0
    ·rw[Te (by omega),Tb (by omega)];exact hx1
    ·exact Tr (by simp;omega)
    ·rw[htk,Te (by omega),Tg (Tk _)]
     simp[hZ,hcs]
   ·have hiX:=(Ta.1 hxi).1
    have hX2n:∀t,(X.set id .dead++t)[2]?=X[2]?:=λt=>by rw[Tb (by simp;omega),Te (by omega)]
    have htl:List.take i (hZ (List.take i (unR l)))=hZ (List.take i (unR l)):=Tl (by simp[hZ];omega)
    have hcl:(hZ (List.take i (unR l))).length=i:=by simp only[hZ,TB];exact hlt
    simp-implicitDefEqProofs[hx2,hx0,hfl]
    refine hcall.use ?_
    simp-implicitDefEqProofs[hx2,hxi, ↓hX2n,htl,hcl,hwi]
    refine⟨⟨by omega,by omega⟩,⟨i+1,_⟩,⟨by simp only;omega,?_,?_,?_,.sl X.length 3 0 (i+1),?_,.inr ⟨X.length,rfl,hX3,?_⟩⟩,by simp only;omega,aw ?_ ?_⟩
    rotate_left 5
    ·exact TM _
    ·simp[below,hwi];omega
    ·simp;omega
    ·rw[Te (by omega),Tb (by simp;omega),Te (by omega)];exact hx0
    ·rw[Te (by omega),Tb (by simp;omega),Te (by omega)];exact hx1
    ·exact Tr (by simp;omega)
    ·rw[htk,Te (by omega),Tg (by simp)]
     simp[hZ,hcs]
  ·simp at hc
   have hie:i=l.length:=by omega
   subst hie
   have hx1s:∀o,(X.set 1 o)[1]?=some o:=λo=>Tr (by omega)
   have hul:(unR l).take l.length=unR l:=Tl (by simp[unR])
   rw[hul] at hV
   rcases hV with⟨rfl,h0⟩|⟨id,rfl,hid,hxi⟩
   ·simp-implicitDefEqProofs[hx2,hx1, ↓hx1s]
    exact List.length_eq_zero_iff.1 h0
   ·simp-implicitDefEqProofs[hx2,hx1, ↓hx1s]
    rw[Te (by omega)]
    exact hxi
 refine key.freezeR (λt v h ⟨V,e,_⟩=>by cases e) ?_
 rintro v h ⟨V,e,hV⟩
 cases e
 refine .agg ?_ .nil
 rcases hV with⟨rfl,rfl⟩|⟨id,rfl,hid⟩
 ·exact .one (View.nils 3) .nil
 ·have hh:hZ (unR l)=((unR l).map Cd.cs).map (·.map .p):=by simp[hZ]
  rw[hh] at hid
  have:=fh (n:=l.length) hid (by simp[unR]) (λx hx=>by obtain⟨b,_,rfl⟩:=TE.1 hx;rfl)
  exact .one this .nil
end
section
mutual
theorem Gv(fa:List UInt8->Int){sc sc':List UInt8->Int}:∀(e:Ex) (w:Lw),(∀p∈e.pre,p.op=2->sc p.name=sc' p.name)->lwE fa sc e w=lwE fa sc' e w
 | .mk o n s ks,w,h=>by
   rw[Ex.pre] at h
   have h0:=h (.mk o n s ks) (by simp)
   have hk:∀p∈dF ks,p.op=2->sc p.name=sc' p.name:=λp hp=>h p (by simp[hp])
   rw[lwE,lwE]
   split
   ·rfl
   split
   ·rename_i h2
    have:=h0 h2
    simp only[Ex.name] at this
    rw[this]
   split
   ·exact Ra fa ks w hk
   ·rw[EW fa ks w hk]
theorem Ra(fa:List UInt8->Int){sc sc':List UInt8->Int}:∀(l:List Ex) (w:Lw),(∀p∈dF l,p.op=2->sc p.name=sc' p.name)->lwA fa sc l w=lwA fa sc' l w
 |[],w,_=>by rw[lwA,lwA]<;>intro a b h<;>cases h
 |[a],w,_=>by rw[lwA,lwA]<;>intro a b h<;>cases h
 |a::b::c::r,w,_=>by rw[lwA,lwA]<;>intro a b h<;>cases h
 |[a,b],w,h=>by
  have ha:=Gv fa a w (λp hp=>h p (by simp[dF,hp]))
  rw[lwA,lwA,ha]
  rw[Gv fa b _ (λp hp=>h p (by simp[dF,hp]))]
theorem EW(fa:List UInt8->Int){sc sc':List UInt8->Int}:∀(l:List Ex) (w:Lw),(∀p∈dF l,p.op=2->sc p.name=sc' p.name)->be fa sc l w=be fa sc' l w
 |[],w,_=>by rw[be,be]
 |e::r,w,h=>by
  rw[be,be,Gv fa e w (λp hp=>h p (by simp[dF,hp])),EW fa r _ (λp hp=>h p (by simp[dF,hp]))]
end
def KS:List Scp->List Scp->Prop
 |[],[]=>True
 |m::a,m0::b=>(∀t,(eU m t).isSome=(eU m0 t).isSome)/\KS a b
 |_,_=>False
theorem KS.fnd:∀{a b:List Scp},KS a b->∀t,(cE a t).isSome=(cE b t).isSome
 |[],[],_,t=>rfl
 |m::a,m0::b,h,t=>by
  have h1:=h.1 t
  have h2:=KS.fnd h.2 t
  rw[cE,cE]
  cases e1:eU m t with
  |some x=>
   rw[e1] at h1
   cases e2:eU m0 t with
   |some y=>rfl
   |none=>rw[e2] at h1;cases h1
  |none=>
   rw[e1] at h1
   cases e2:eU m0 t with
   |some y=>rw[e2] at h1;cases h1
   |none=>exact h2
 |[],_::_,h,_=>h.elim
 |_::_,[],h,_=>h.elim
theorem KS.set{a b:List Scp}{m m0:Scp}(h:KS (m::a) (m0::b))(s:List UInt8)(i j:Nat):KS (dW m s i::a) (dW m0 s j::b):=
 ⟨λt=>by
   rw[kC,kC]
   split
   ·rfl
   ·exact h.1 t,h.2⟩
theorem EB{fns:List Fd}{k:Nat}{ch:List Scp}:∀{l:List Ex} {c:Int},l.foldl (dY fns k ch) c=0->c=0/\∀e∈l,dY fns k ch 0 e=0
 |[],c,h=>⟨h,λe he=>by cases he⟩
 |e::r,c,h=>by
  have hc:c=0:=by
   by_cases hc:c=0
   ·exact hc
   ·rw[tv hc] at h;exact(hc h).elim
  subst hc
  rw[Ul] at h
  obtain⟨h1,h2⟩:=EB h
  refine⟨rfl,λx hx=>?_⟩
  rcases Tf.1 hx with rfl|hx
  ·exact h1
  ·exact h2 x hx
theorem Np{fns:List Fd}{k:Nat}{ch:List Scp}{e:Ex}(h:dY fns k ch 0 e=0)(h2:e.op=2):(cE ch e.name).isSome=true:=by
 rw[dY,if_pos h2] at h
 by_cases hs:(cE ch e.name).isSome=true
 ·exact hs
 ·rw[if_neg hs] at h;simp[fl] at h
theorem QN{ch ch0:List Scp}(hk:KS ch ch0){fns:List Fd}{k:Nat}{l:List Ex}{c:Int}(h:zZ fns k ch0 l c=0):∀p∈dF l,p.op=2->scF (-1) ch p.name=scF 0 ch p.name:=λp hp h2=>by
 have h1:=Np ((EB h).2 p hp) h2
 rw[←hk.fnd] at h1
 obtain⟨n,hn⟩:=Option.isSome_iff_exists.1 h1
 rw[scF,scF,hn]
theorem oV{fns:List Fd}{k:Nat}{l:List Sm}{m:Scp}{up:List Scp}{c:Int}(h:(dU fns k l m up c).2=0):c=0:=by
 by_cases hc:c=0
 ·exact hc
 ·rw[mf fns k hc] at h;exact h
mutual
theorem Ql(fa:List UInt8->Int)(fns:List Fd)(k:Nat):∀(s:Sm) (m m0:Scp) (up up0:List Scp) (nx:Nat) (w:Lw),KS (m::up) (m0::up0)->(icS fns k s m0 up0 0).2=0->
 lwS fa (-1) s m up nx w=lwS fa 0 s m up nx w/\KS ((lwS fa 0 s m up nx w).1::up) ((icS fns k s m0 up0 0).1::up0)
 | .mk o n a bd el,m,m0,up,up0,nx,w,hk,h=>by
   rw[icS] at h⊢
   simp only at h⊢
   obtain⟨c2,hc2⟩:∃c2,c2=opC o n m0 up0 (zZ fns k (m0::up0) a 0):=⟨_,rfl⟩
   rw[←hc2] at h
   have hbe:c2=0/\(o=5\/o=6->(dU fns k bd [] (opS o n m0 0::up0) 0).2=0/\(dU fns k el [] (opS o n m0 0::up0) 0).2=0):=by
    by_cases h56:o=5\/o=6
    ·rw[if_pos h56] at h
     have h1:=oV h
     rw[h1] at h
     have h2:=oV h1
     rw[h2] at h1
     exact⟨h2,λ_=>⟨h1,h⟩⟩
    ·rw[if_neg h56] at h
     exact⟨h,λh'=>(h56 h').elim⟩
   obtain⟨e2,hblk⟩:=hbe
   rw[e2] at hc2
   have hce:zZ fns k (m0::up0) a 0=0:=by
    by_cases hc:zZ fns k (m0::up0) a 0=0
    ·exact hc
    ·rw[Ey hc] at hc2;exact hc2.symm
   have hsc:=QN hk hce
   have hkm:∀x:Lw,True:=λ_=>trivial
   rw[lwS,lwS]
   by_cases o6:o=6
   ·have hop:opS o n m0 0=m0:=by rw[opS,if_neg (by omega)]
    obtain⟨hb,_⟩:=hblk (.inr o6)
    rw[hop] at hb
    simp only[if_pos o6]
    have hh:∀p∈(a.headD (.mk 0 0 [] [])).pre,p.op=2->scF (-1) (m::up) p.name=scF 0 (m::up) p.name:=by
     cases a with
     |nil=>
      intro p hp h2
      simp[Ex.pre,dF] at hp
      rw[hp] at h2
      simp[Ex.op] at h2
     |cons x r=>exact λp hp=>hsc p (by simp[dF];exact .inl hp)
    rw[Gv fa _ _ hh,(yK fa fns k bd [] [] (m::up) (m0::up0) nx _ ⟨λ_=>rfl,hk⟩ hb).1]
    refine⟨rfl,?_⟩
    rw[hop]
    exact hk
   ·simp only[if_neg o6]
    rw[EW fa a w hsc]
    by_cases o1:o=1
    ·simp only[if_pos o1]
     refine⟨trivial,?_⟩
     rw[opS,if_pos o1]
     exact hk.set n nx 0
    have hop:opS o n m0 0=m0:=by rw[opS,if_neg o1]
    rw[hop]
    simp only[if_neg o1]
    by_cases o2:o=2
    ·simp only[if_pos o2]
     have hf:(cE (m0::up0) n).isSome=true:=by
      rw[hce,opC,if_neg o1,if_pos o2] at hc2
      by_cases hs:(cE (m0::up0) n).isSome=true
      ·exact hs
      ·rw[if_neg hs] at hc2;simp[fl] at hc2
     rw[←hk.fnd] at hf
     obtain⟨q,hq⟩:=Option.isSome_iff_exists.1 hf
     rw[scF,scF,hq]
     exact⟨rfl,hk⟩
    simp only[if_neg o2]
    by_cases o3:o=3
    ·simp only[if_pos o3];exact⟨trivial,hk⟩
    simp only[if_neg o3]
    by_cases o4:o=4
    ·simp only[if_pos o4];exact⟨trivial,hk⟩
    simp only[if_neg o4]
    by_cases o5:o=5
    ·simp only[if_pos o5]
     obtain⟨hb,he⟩:=hblk (.inl o5)
     rw[hop] at hb he
     rw[(yK fa fns k bd [] [] (m::up) (m0::up0) nx _ ⟨λ_=>rfl,hk⟩ hb).1,(yK fa fns k el [] [] (m::up) (m0::up0) _ _ ⟨λ_=>rfl,hk⟩ he).1]
     exact⟨rfl,hk⟩
    simp only[if_neg o5]
    split
    ·exact⟨trivial,hk⟩
    ·exact⟨trivial,hk⟩
theorem yK(fa:List UInt8->Int)(fns:List Fd)(k:Nat):∀(l:List Sm) (m m0:Scp) (up up0:List Scp) (nx:Nat) (w:Lw),KS (m::up) (m0::up0)->(dU fns k l m0 up0 0).2=0->
 aO fa (-1) l m up nx w=aO fa 0 l m up nx w/\KS ((aO fa 0 l m up nx w).1::up) ((dU fns k l m0 up0 0).1::up0)
 |[],m,m0,up,up0,nx,w,hk,_=>by rw[aO,aO,dU];exact⟨rfl,hk⟩
 |s::r,m,m0,up,up0,nx,w,hk,h=>by
  rw[dU] at h⊢
  have h1:=oV h
  obtain⟨e1,k1⟩:=Ql fa fns k s m m0 up up0 nx w hk h1
  rw[h1] at h⊢
  rw[aO,aO,e1]
  exact yK fa fns k r _ _ up up0 _ _ k1 h
end
theorem Ld:∀(ps:List (List UInt8)) (m m0:Scp) (i:Nat) (c:Int),KS [m] [m0]->KS [psS ps m i] [(ka ps m0 c).1]
 |[],m,m0,i,c,h=>h
 |p::r,m,m0,i,c,h=>by
  rw[psS]
  have:=Ld r (dW m p i) (dW m0 p 0) (i+1) (if(eU m0 p).isSome then fl c 2 else c) (h.set p i 0)
  simpa[ka] using this
theorem QL(l:List Fd){fns:List Fd}{k:Nat}{f:Fd}{c:Int}(h:icF fns k f c=0):lwF l (-1) f=lwF l 0 f:=by
 rw[icF] at h
 have h0:=oV h
 rw[h0] at h
 have hk:=Ld f.params [] [] 0 (if(match cM fns f.name with|some j=>decide (j<k)|none=>true) then fl c 2 else c) ⟨λ_=>rfl,trivial⟩
 rw[lwF,lwF,(yK (faI l) fns k f.body _ _ [] [] f.params.length _ hk h).1]
theorem Bq{fns:List Fd}:∀{l:List Fd} {k:Nat} {c:Int},iM fns k l c=0->∀f∈l,∃k' c',icF fns k' f c'=0
 |[],k,c,h,f,hf=>by cases hf
 |g::r,k,c,h,f,hf=>by
  rw[iM] at h
  rcases Tf.1 hf with rfl|hf
  ·refine⟨k,c,?_⟩
   by_cases hc:icF fns k f c=0
   ·exact hc
   ·rw[rL fns hc] at h;exact h
  ·exact Bq h f hf
theorem Jf{l:List Fd}(h:cA l=0):∀f∈l,lwF l (-1) f=lwF l 0 f:=λf hf=>by
 rw[zd] at h
 split at h
 ·obtain⟨k,c,hi⟩:=Bq h f hf
  exact QL l hi
 ·cases h
end
section
def eA(l:List Fd):Bool:=decide (cA l=0)&&unB (unL l)
def lH(l:List Fd):List Cd:=if eA l then unL l else[]
theorem Pq{l:List Fd}(h:cA l=0):unR l=unL l:=TI (Jf h)
theorem Hb{l:List Fd}(h:cA l=0):Ja 1073741824 (unL l):=by
 have hp:=BF h
 have hs:=jx hp
 have hl:l.length<=4:=((mP l).1 hp).1.2
 exact Md l 0 (by omega) (by omega)
def Bp(l:List Fd):Vis Unit where
 I:=λ_=>[.row 1 [[.p (fdL l)]],.row 1 [[.nils]]]
 n:=2
 F:=cB
 caps:=[.ptr 0 1 0 0]
 len:=λ_=>rfl
 ok:=λ_=>by simp[okO,below]
 capsOk:=by simp[below]
variable (G:aH)
theorem Bv{f:Fd->Cd}:∀(l:List Fd) (st:Unit),dN (λ_ x=>(f x,())) st l=(l.map f,())
 |[],_=>rfl
 |x::r,st=>by rw[dN,Bv r];rfl
theorem tn(l:List Fd)(hl:l.length<=1073741824)(f:Fd)(hz:f.sz<=16777216)(hf:∀x∈f.body,aF 4 x=true):AC Tryz.prog G cB [.agg (f.cs.map .p),.ptr 0 1 0 0] ((Bp l).I ()) λx h=>x= .ret (.agg ((lwF l 0 f).cs.map .p))/\h=(Bp l).I ():=by
 have hfc:=f.cs_eq'
 have hL:=FA G l hl f hz hf
 have hcs:=(lwF l 0 f).cs_eq2
 generalize lwF l 0 f=c at hL hcs
 rw[hfc,hcs] at hL
 refine(Bp l).trim G (AC.go nA ?_) (by rw[hcs];simp[below])
 simp-implicitDefEqProofs[gD,Bp,hfc]
 refine hL.use ?_
 simp-implicitDefEqProofs[hcs]
theorem zx(hK:G ja=some gO)(hS:G dV=some [.tbl opK opV])(l:List Fd)(hz:bQ l<=1073741824):VF Tryz.prog G cV [.agg [.p (fdL l)]] (.tup [.agg [.p (cdL (lH l))],.p (.bool (eA l))]):=by
 have hfl:fdL l= .lst 3 (l.map Fd.cs):=rfl
 have key:AC Tryz.prog G cV [.agg [.p (fdL l)]] [] λx h=>∃V,x= .ret (.tup [.agg [V],.p (.bool (eA l))])/\(V= .p (cdL (lH l))\/(V= .nils/\lH l=[])):=by
  refine AC.go pD ?_
  simp-implicitDefEqProofs[jm]
  refine(Pb G hK hS l hz).use ?_
  by_cases h0:cA l=0
  case neg=>
   have hf:eA l=false:=by simp[eA,h0]
   have hu:lH l=[]:=by rw[lH,hf];rfl
   simp-implicitDefEqProofs[h0,hf,hu]
  have hp:=BF h0
  have hs:=jx hp
  have hfm:=ut hp
  have hl4:l.length<=4:=((mP l).1 hp).1.2
  have hM:=HP G (Bp l) (λ_ f=>(lwF l 0 f,())) (λ_ _=>True) l (by omega) (by show 0<2;omega) (λi st hi _=>⟨trivial,tn G l (by omega) l[i] (by have:=tI (Tp hi);omega) (hfm _ (Tp hi))⟩) () trivial
  rw[Bv] at hM
  have hU:=Dv G (unL l) (Hb h0)
  simp-implicitDefEqProofs[h0]
  refine hM.mono ?_
  rintro x h ⟨rfl,rfl⟩
  have hul:(l.map λf=>lwF l 0 f)=unL l:=rfl
  simp-implicitDefEqProofs[aa,Bp,hul]
  refine hU.use ?_
  cases hb:unB (unL l) with
  |false=>
   have hf:eA l=false:=by simp[eA,h0,hb]
   have hu:lH l=[]:=by rw[lH,hf];rfl
   simp-implicitDefEqProofs[hf,hu]
  |true=>
   have hf:eA l=true:=by simp[eA,h0,hb]
   have hu:lH l=unL l:=by rw[lH,hf,if_pos rfl]
   simp-implicitDefEqProofs[hf,hu]
 refine key.freezeR (λt v h ⟨V,e,_⟩=>by cases e) ?_
 rintro v h ⟨V,e,hV⟩
 cases e
 refine .tup (.agg ?_ (.one (.p _) .nil)) .nil
 rcases hV with rfl|⟨rfl,hu⟩
 ·exact .one (.p _) .nil
 ·rw[hu];exact .one (View.nils 3) .nil
theorem yH(l:List Fd)(hz:bQ l<=1073741824):VF Tryz.prog G cX [.agg [.p (fdL l)]] (.tup [.agg [.p (cdL (lH l))],.p (.bool (eA l))]):=by
 have hfl:fdL l= .lst 3 (l.map Fd.cs):=rfl
 have key:AC Tryz.prog G cX [.agg [.p (fdL l)]] [] λx h=>∃V,x= .ret (.tup [.agg [V],.p (.bool (eA l))])/\(V= .p (cdL (lH l))\/(V= .nils/\lH l=[])):=by
  refine AC.go pj ?_
  simp-implicitDefEqProofs[jp]
  refine(Kh G l hz).use ?_
  by_cases h0:cA l=0
  case neg=>
   have hf:eA l=false:=by simp[eA,h0]
   have hu:lH l=[]:=by rw[lH,hf];rfl
   simp-implicitDefEqProofs[h0,hf,hu]
  have hp:=BF h0
  have hs:=jx hp
  have hM:=LK G l (by omega) (ut hp)
  rw[Pq h0] at hM
  have hU:=CZ G (unL l) (Hb h0)
  simp-implicitDefEqProofs[h0]
  refine hM.use ?_
  simp-implicitDefEqProofs[]
  refine hU.use ?_
  cases hb:unB (unL l) with
  |false=>
   have hf:eA l=false:=by simp[eA,h0,hb]
   have hu:lH l=[]:=by rw[lH,hf];rfl
   simp-implicitDefEqProofs[hf,hu]
  |true=>
   have hf:eA l=true:=by simp[eA,h0,hb]
   have hu:lH l=unL l:=by rw[lH,hf,if_pos rfl]
   simp-implicitDefEqProofs[hf,hu]
 refine key.freezeR (λt v h ⟨V,e,_⟩=>by cases e) ?_
 rintro v h ⟨V,e,hV⟩
 cases e
 refine .tup (.agg ?_ (.one (.p _) .nil)) .nil
 rcases hV with rfl|⟨rfl,hu⟩
 ·exact .one (.p _) .nil
 ·rw[hu];exact .one (View.nils 3) .nil
theorem HI{l:List Fd}(h:eA l=true):cA l=0/\unB (unL l)=true:=by
 simpa[eA] using h
theorem My(l:List Fd):(unL l).length=l.length:=TB _
end
section
abbrev Wds:=List (List UInt8)
variable (G:aH)
theorem Aa{f:FuncId}{args:List AV}{l l':Wds}(H:AC Tryz.prog G f (args++[.sl 0 1 0 l.length]) [fp l] λx h=>x= .ret (.sl 1 1 0 l'.length)/\h=[.dead,fp l'])(ha:az 0 args){h:List AO}{id:Nat}(e:h[id]?=some (fp l)):
 AC Tryz.prog G f (args++[.sl id 1 0 l.length]) h λx h'=>x= .ret (.sl h.length 1 0 l'.length)/\h'=h.set id .dead++[fp l']:=by
 have hTW:TW [id] (args++[.sl id 1 0 l.length]) (args++[.sl 0 1 0 l.length]):=by
  clear H
  induction args with
  |nil=>simp[below,ren]
  |cons v r ih=>
   rw[TN,TN,vg]
   refine⟨.inr ⟨(aM (TM _) [v] ⟨ha.1,trivial⟩).1,?_⟩,ih ha.2⟩
   have:=gM [id] [v] ⟨ha.1,trivial⟩
   simpa[bN] using this
 refine(H.frame [id] (by simp) hTW (np e (λx hx=>jI l x hx) cI)).mono ?_
 rintro x h' ⟨x0,h0,⟨rfl,rfl⟩,_,rfl,rfl⟩
 refine⟨?_,?_⟩
 ·simp[HU,ren]
 ·have hp:∀σ,mJ σ (fp l')=fp l':=λσ=>by simp[fp,mJ,bN,ren]
  simp only[Tu,TO,List.take_succ_cons,List.take_zero,TA,TU,List.drop_succ_cons,List.drop_zero,hp,mrg]
  rfl
end
section
structure HV (σ:Type) where
 F:FuncId
 caps:List AV
 n:Nat
 Inv:σ->Nat->List AO->Prop
 capsOk:az n caps
 len:∀{st id h},Inv st id h->n<=h.length/\id<h.length
 frame:∀{st id h h'},Inv st id h->(∀i,i<h.length->i<n\/i=id->h'[i]?=h[i]?)->Inv st id h'
def HV.Left{σ:Type}(V:HV σ)(id:Nat)(h:List AO)(st':σ)(h':List AO):Prop:=
 ∃id',V.Inv st' id' h'/\h.length<=h'.length/\(∀i,i<h.length->V.n<=i->i≠id->h'[i]?=h[i]?)/\(id'=id\/h.length<=id')
structure HS where (i id:Nat) (h:List AO)
theorem HV.more{σ:Type}(V:HV σ){st:σ}{id:Nat}{h:List AO}(H:V.Inv st id h)(os:List AO):V.Inv st id (h++os):=
 V.frame H λi hi _=>Tb hi
theorem HV.Left.trans{σ:Type}{V:HV σ}{id id1:Nat}{h h1 h2:List AO}{st2:σ}(hl:h.length<=h1.length)(hk:∀i,i<h.length->V.n<=i->i≠id->h1[i]?=h[i]?)(hi:id1=id\/h.length<=id1)(L:V.Left id1 h1 st2 h2):V.Left id h st2 h2:=by
 obtain⟨id2,a1,a2,a3,a4⟩:=L
 refine⟨id2,a1,by omega,λi h1 h2 h3=>?_,?_⟩
 ·rw[a3 i (by omega) h2 (by rcases hi with e|e<;>omega),hk i h1 h2 h3]
 ·rcases a4 with e|e
  ·rw[e];exact hi
  ·right;omega
variable (G:aH)
def Sm.own(s:Sm):Nat:=1+s.name.length+aL s.args
theorem Sm.own_sz(s:Sm):s.sz=s.own+aA s.body+aA s.els:=by rw[s.sz_eq,Sm.own]
mutual
theorem OL{σ:Type}{step:σ->Sm × Nat->σ}{inv:σ->Nat->Prop}(hs:∀st (s:Sm) d k,inv st (k+s.own)->inv (step st (s,d)) k):∀(s:Sm) (d:Nat) (st:σ) (k:Nat),inv st (k+s.sz)->inv ((s.pre d).foldl step st) k
 | .mk o n a b e,d,st,k,h=>by
   rw[Sm.own_sz] at h
   rw[Sm.pre_eq,Ul,Uc]
   refine sA hs e _ _ k (sA hs b _ _ _ (hs _ _ _ _ ?_))
   rw[show k+aA e+aA b+(Sm.mk o n a b e).own=k+((Sm.mk o n a b e).own+aA b+aA e) by omega]
   exact h
theorem sA{σ:Type}{step:σ->Sm × Nat->σ}{inv:σ->Nat->Prop}(hs:∀st (s:Sm) d k,inv st (k+s.own)->inv (step st (s,d)) k):∀(l:List Sm) (d:Nat) (st:σ) (k:Nat),inv st (k+aA l)->inv ((aS d l).foldl step st) k
 |[],d,st,k,h=>by simpa[aS,aA] using h
 |s::r,d,st,k,h=>by
  rw[aA,show k+(s.sz+aA r)=k+aA r+s.sz by omega] at h
  rw[aS,Uc]
  exact sA hs r d _ k (OL hs s d st _ h)
end
theorem KC{σ:Type}(V:HV σ)(step:σ->Sm × Nat->σ)(inv:σ->Nat->Prop)(B:Nat)(hB:B<=1073741824)(hs:∀st (s:Sm) d k,inv st (k+s.own)->inv (step st (s,d)) k)
 (hv:∀st (s:Sm) d k id h,inv st (k+s.own)->s.sz<=B->V.Inv st id h->AC Tryz.prog G V.F (.agg (s.cs.map .p):: .p (.int .i64 (d:Nat))::V.caps) h λx h'=>x= .ret (.tup [])/\V.Left id h (step st (s,d)) h'):
 ∀(N:Nat) (l:List Sm),aA l<N->aA l<=B->∀(d:Nat),d+aA l<=1099511627776->∀st k id h,inv st (k+aA l)->V.Inv st id h->AC Tryz.prog G cK [.p (smL l),.p (.int .i64 d),.fn (.func V.F) V.caps] h λx h'=>x= .ret (.tup [])/\V.Left id h ((aS d l).foldl step st) h':=by
 intro N
 induction N with
 |zero=>intro l h;omega
 |succ N ih=>
  intro l hl hz d hd st k id h hi hI
  have hll:=bf l
  have hsl:∀l,smL l= .lst 5 (l.map Sm.cs):=λ_=>rfl
  have hcb:=V.capsOk
  obtain⟨hn,hid⟩:=V.len hI
  refine AC.go sI ?_
  simp-implicitDefEqProofs[mD,hsl]
  refine aG (λa:HS=>ay 31 [(1,.p (.int .i64 d)),(2,.fn (.func V.F) V.caps),(8,.p (smL l)),(9,.p (.int .i64 l.length)),(10,.p (.int .i64 a.i))])
   (λa=>a.h) (λa=>a.i<=l.length/\V.Inv ((aS d (l.take a.i)).foldl step st) a.id a.h/\h.length<=a.h.length/\(∀i,i<h.length->V.n<=i->i≠id->a.h[i]?=h[i]?)/\(a.id=id\/h.length<=a.id)) (λa=>l.length-a.i) ⟨0,id,h⟩ ⟨TM _,hI,Tk _,λi _ _ _=>rfl,.inl rfl⟩ ?_ ?_
  ·exact aw (Tk _) (by simp[below,hsl];exact aM (by omega) _ hcb)
  rintro⟨i,idc,hc⟩ ⟨hil,hIc,hlc,hkc,hic⟩
  simp only at hil hIc hlc hkc hic
  simp-implicitDefEqProofs[hsl]
  refine aJ (λhcc=>?_) (λhcc=>?_)
  ·simp at hcc
   have hg:=Tc hcc
   have hks:=bp (Tp hcc)
   have hse:=l[i].cs_eq
   have hsz:=l[i].own_sz
   have hown:1<=l[i].own:=by unfold Sm.own;omega
   have hT:l.take (i+1)=l.take i++[l[i]]:=an hcc
   have hsum:aA l=aA (l.take i)+(l[i].sz+aA (l.drop (i+1))):=by
    have e1:aA l=aA (l.take i)+aA (l.drop i):=by rw[←cN,TL]
    have e2:aA (l.drop i)=l[i].sz+aA (l.drop (i+1)):=by rw[List.drop_eq_getElem_cons hcc,aA]
    omega
   have i0:inv ((aS d (l.take i)).foldl step st) (k+aA (l.drop (i+1))+aA l[i].els+aA l[i].body+l[i].own):=
    sA hs _ _ _ _ (by rw[show k+aA (l.drop (i+1))+aA l[i].els+aA l[i].body+l[i].own+aA (l.take i)=k+aA l by omega];exact hi)
   have i1:=hs _ l[i] d _ i0
   have i2:=sA hs l[i].body (d+1) _ _ i1
   have hf:(aS d (l.take (i+1))).foldl step st=(l[i].pre d).foldl step ((aS d (l.take i)).foldl step st):=by
    rw[hT,mS,Uc,aS,aS,Tt]
   rw[Sm.pre_eq,Ul,Uc] at hf
   have hwd:IntKind.i64.wrap ((d:Int)+1)=((d+1:Nat):Int):=by rw[ag (by omega) (by omega)];omega
   have h1:=λos=>hv _ l[i] d _ idc (hc++os) i0 (by omega) (V.more hIc os)
   have h2:=λst2 id2 hh=>ih l[i].body (by omega) (by omega) (d+1) (by omega) st2 (k+aA (l.drop (i+1))+aA l[i].els) id2 hh
   have h3:=λst2 id2 hh=>ih l[i].els (by omega) (by omega) (d+1) (by omega) st2 (k+aA (l.drop (i+1))) id2 hh
   rw[hse] at h1
   simp-implicitDefEqProofs[hg,hse]
   refine(h1 _).mono ?_
   rintro r g1 ⟨rfl,id3,M1,M2,M3,M4⟩
   rw[Tw] at M2 M3 M4
   simp only[Tu,TO] at M2 M3 M4
   have hbox:g1[hc.length]?=some (.row 5 [[.p (.int .i64 l[i].op),.p (.str l[i].name),.p (exL l[i].args),.p (smL l[i].body),.p (smL l[i].els)]]):=by
    rw[M3 _ (by omega) (by have:=(V.len hIc).1;omega) (by have:=(V.len hIc).2;omega)];simp
   simp-implicitDefEqProofs[aa,hbox,hwd]
   refine(h2 _ id3 g1 i1 M1).mono ?_
   rintro r g2 ⟨rfl,id4,P1,P2,P3,P4⟩
   have hbox2:g2[hc.length]?=some (.row 5 [[.p (.int .i64 l[i].op),.p (.str l[i].name),.p (exL l[i].args),.p (smL l[i].body),.p (smL l[i].els)]]):=by
    rw[P3 _ (by omega) (by have:=(V.len hIc).1;omega) (by have:=(V.len hIc).2;omega),hbox]
   simp-implicitDefEqProofs[aa,hbox2,hwd]
   refine(h3 _ id4 g2 i2 P1).mono ?_
   rintro r g3 ⟨rfl,id5,Q1,Q2,Q3,Q4⟩
   simp-implicitDefEqProofs[aa]
   refine⟨⟨i+1,id5,g3⟩,⟨hcc,by rw[hf];exact Q1,by show h.length<=g3.length;omega,λj a1 a2 a3=>?_,?_⟩,by show l.length-(i+1)<l.length-i;omega,aw (by show h.length<=g3.length;omega) ?_⟩
   ·show g3[j]?=h[j]?
    rw[Q3 j (by omega) a2 (by omega),P3 j (by omega) a2 (by omega),M3 j (by omega) a2 (by omega),Tb (by omega),hkc j a1 a2 a3]
   ·show id5=id\/h.length<=id5
    omega
   ·simp[below,hsl,w1 (i:=i) (by omega)]
    exact aM (by omega) _ hcb
  ·simp at hcc
   have hie:i=l.length:=by omega
   subst hie
   rw[Tz] at hIc
   simp-implicitDefEqProofs[]
   exact⟨idc,hIc,hlc,hkc,hic⟩
end
section
mutual
def nmS:Sm->Wds
 | .mk o s _ bd el=>(if o=1 then[s] else[])++(iV bd++iV el)
def iV:List Sm->Wds
 |[]=>[]
 |s::r=>nmS s++iV r
end
theorem Ov(s:Sm):nmS s=(if s.op=1 then[s.name] else[])++(iV s.body++iV s.els):=by cases s;rw[nmS];rfl
theorem DK:∀a b:List Sm,iV (a++b)=iV a++iV b
 |[],b=>by simp[iV]
 |s::r,b=>by rw[TN,iV,iV,DK r b,Ud]
theorem HE{l:List Sm}{i:Nat}(h:i<l.length):iV (l.take (i+1))=iV (l.take i)++nmS l[i]:=by rw[an h,DK,iV,iV,Tt]
mutual
theorem Na:∀s:Sm,(nmS s).length=rB s
 | .mk o s a bd el=>by
   rw[nmS,rB,Tw,Tw,sE bd,sE el]
   split
   ·simp only[List.length_singleton];omega
   ·simp only[TO];omega
theorem sE:∀l:List Sm,(iV l).length=aN l
 |[]=>by rw[iV,aN];rfl
 |s::r=>by rw[iV,aN,Tw,Na s,sE r]
end
theorem GW(l:List Sm):(iV l).length<=aA l:=by
 rw[sE];exact TP (fe l) (fu l)
def sw(out:Wds)(x:Sm × Nat):Wds:=if x.1.op=1 then out++[x.1.name] else out
mutual
theorem Nr:∀(s:Sm) (d:Nat) (st:Wds),(s.pre d).foldl sw st=st++nmS s
 | .mk o n a bd el,d,st=>by
   rw[Sm.pre,Ul,Uc,vc bd,vc el,nmS,sw]
   by_cases ho:o=1
   ·simp[Sm.op,Sm.name,ho]
   ·simp[Sm.op,ho]
theorem vc:∀(l:List Sm) (d:Nat) (st:Wds),(aS d l).foldl sw st=st++iV l
 |[],d,st=>by simp[aS,iV]
 |s::r,d,st=>by rw[aS,Uc,Nr s,vc r,iV,Ud]
end
def vrN(f:Fd):Wds:=f.params++iV f.body
def vrR(l:List Fd)(k:Int)(s:List UInt8):Int:=if eA l=true/\inR k 0 ((l.length:Int)-1)=true then(match l[k.toNat]? with|some f=>idxS (vrN f) s|none=> -1) else-1
variable (G:aH)
def nmW(out:Wds)(l:List Sm):Wds:=out++iV l
theorem GY(out:Wds):nmW out []=out:=by simp[nmW,iV]
theorem KE(out:Wds){l:List Sm}{i:Nat}(h:i<l.length):nmW out (l.take (i+1))=nmW (nmW (if l[i].op=1 then nmW out (l.take i)++[l[i].name] else nmW out (l.take i)) l[i].body) l[i].els:=by
 rw[nmW,HE h,Ov]
 simp only[nmW]
 split<;>simp
theorem vl(out:Wds)(l:List Sm):(nmW out l).length<=out.length+aA l:=by
 have:=GW l
 rw[nmW,Tw];omega
theorem If:∀(N:Nat) (l:List Sm),aA l<N->∀out:Wds,out.length+aA l<=1099511627776->
 AC Tryz.prog G ec [.p (smL l),.sl 0 1 0 out.length] [fp out] λx h=>x= .ret (.sl 1 1 0 (nmW out l).length)/\h=[.dead,fp (nmW out l)]:=by
 intro N
 induction N with
 |zero=>intro l hl;omega
 |succ N ih=>
  intro l hl out hb
  have hll:=bf l
  have hsl:∀l,smL l= .lst 5 (l.map Sm.cs):=λ_=>rfl
  have hL:∀w:Wds,fp w= .row 1 (w.map λn=>[AV.p (.str n)]):=λ_=>rfl
  refine AC.go yW ?_
  simp-implicitDefEqProofs[oC]
  refine aG (λi:Nat=>ay 40 [(0,.p (smL l)),(1,.sl 1 1 0 (nmW out (l.take i)).length),(5,.p (.int .i64 i))]) (λi=>[.dead,fp (nmW out (l.take i))]) (λi=>i<=l.length) (λi=>l.length-i) 0 (by simp) ?_ ?_
  ·exact Cl [0,0] (by simp) (by simp) (by simp[iJ,fp]) (ew (by simp) (np (by simp[GY]) (λx hx=>jI _ x hx) cI)) (by simp[below,ren,GY,hsl])
  ·intro i hi
   have hl2:=vl out (l.take i)
   simp-implicitDefEqProofs[hsl]
   refine aJ (λh=>?_) (λh=>?_)
   ·simp at h
    have hg:=Tc h
    have hT:=KE out h
    have hse:=l[i].cs_eq
    have hsz:=l[i].sz_eq
    have hzz:=GV h
    generalize nmW out (l.take i)=cur at hl2 hT⊢
    generalize l[i]=s at hg hT hse hsz hzz
    by_cases ho:s.op=1
    ·rw[if_pos ho] at hT
     have hb1:=vl (cur++[s.name]) s.body
     rw[Tw,List.length_singleton] at hb1
     have hbc:=ih s.body (by omega) (cur++[s.name]) (by rw[Tw,List.length_singleton];omega)
     have hec:=ih s.els (by omega) (nmW (cur++[s.name]) s.body) (by omega)
     have htl:List.take cur.length (cur.map λn=>[AV.p (.str n)])=cur.map λn=>[AV.p (.str n)]:=Tl (by simp)
     have hlc:(cur++[s.name]).length=cur.length+1:=by simp
     have hrow:AO.row 1 ((cur.map λn=>[AV.p (.str n)])++[[.p (.str s.name)]])=fp (cur++[s.name]):=by simp[fp]
     simp-implicitDefEqProofs[hg,hse,ho,hL,htl]
     refine⟨⟨by omega,by omega⟩,?_⟩
     rw[hrow,←hlc]
     refine(Aa G (args:=[.p (smL s.body)]) hbc (by simp[below]) (id:=3) rfl).mono ?_
     rintro r h' ⟨rfl,rfl⟩
     simp-implicitDefEqProofs[aa,hg,hse]
     refine(Aa G (args:=[.p (smL s.els)]) hec (by simp[below]) (id:=4) rfl).mono ?_
     rintro r h' ⟨rfl,rfl⟩
     simp-implicitDefEqProofs[aa]
     refine⟨i+1,h,by omega,?_⟩
     rw[hT]
     exact kN [0,5] (by simp) (by decide) (by decide) (ew (by simp) (np rfl (λx hx=>jI _ x hx) cI)) (by simp[below,ren,hsl,w1 (i:=i) (by omega)])
    ·rw[if_neg ho] at hT
     have hb1:=vl cur s.body
     have hbc:=ih s.body (by omega) cur (by omega)
     have hec:=ih s.els (by omega) (nmW cur s.body) (by omega)
     simp-implicitDefEqProofs[hg,hse,ho]
     refine(Aa G (args:=[.p (smL s.body)]) hbc (by simp[below]) (id:=1) rfl).mono ?_
     rintro r h' ⟨rfl,rfl⟩
     simp-implicitDefEqProofs[aa,hg,hse]
     refine(Aa G (args:=[.p (smL s.els)]) hec (by simp[below]) (id:=2) rfl).mono ?_
     rintro r h' ⟨rfl,rfl⟩
     simp-implicitDefEqProofs[aa]
     refine⟨i+1,h,by omega,?_⟩
     rw[hT]
     exact kN [0,3] (by simp) (by decide) (by decide) (ew (by simp) (np rfl (λx hx=>jI _ x hx) cI)) (by simp[below,ren,hsl,w1 (i:=i) (by omega)])
   ·simp at h
    have hie:i=l.length:=by omega
    subst hie
    rw[Tz]
    simp-implicitDefEqProofs[]
theorem zm{l:Wds}{s:List UInt8}{i:Nat}(hi:i<l.length)(hp:∀x∈l.take i,¬x=s)(he:l[i]=s):idxS l s=i:=by
 have:l.findIdx? (λw=>w==s)=some i:=by
  rw[Tv]
  exact⟨hi,by simpa using he,λj hj=>by have:=hp l[j] (TV.2 ⟨j,by omega,rfl⟩);simpa using this⟩
 rw[idxS,this]
theorem Iu{l:Wds}{s:List UInt8}(hp:∀x∈l,¬x=s):idxS l s= -1:=by
 have:l.findIdx? (λw=>w==s)=none:=by
  rw[TF]
  intro x hx
  simpa using hp x hx
 rw[idxS,this]
theorem JJ(l:List Fd)(hz:bQ l<=1073741824)(k:Int)(s:List UInt8):VF Tryz.prog G lu [.agg [.p (fdL l)],.p (.int .i64 k),.p (.str s)] (.p (.int .i64 (vrR l k s))):=by
 have hfl:fdL l= .lst 3 (l.map Fd.cs):=rfl
 have hll:=dc l
 refine AC.go Aq ?_
 simp-implicitDefEqProofs[pY]
 refine(yH G l hz).use ?_
 cases hb:eA l with
 |false=>simp-implicitDefEqProofs[vrR,hb]
 |true=>
  have hw:IntKind.i64.wrap ((l.length:Int)-1)=(l.length:Int)-1:=ag (by omega) (by omega)
  simp-implicitDefEqProofs[hfl,hw]
  refine(cG G k 0 ((l.length:Int)-1)).use ?_
  cases hk:inR k 0 ((l.length:Int)-1) with
  |false=>simp-implicitDefEqProofs[vrR,hk]
  |true=>
   have hk2:=hk
   simp only[inR,Tm,decide_eq_true_eq] at hk2
   obtain⟨m,rfl⟩:∃m:Nat,k=m:=⟨k.toNat,by omega⟩
   have hlt:m<l.length:=by omega
   obtain⟨f,hf⟩:∃f,l[m]?=some f:=⟨_,Tc hlt⟩
   have hfc:=f.cs_eq'
   have hfz:=dy (Tn hf)
   have hfz2:f.sz=1+f.name.length+(f.params.length+(f.params.map List.length).sum)+aA f.body:=rfl
   have hst:aR f.params= .lst 1 (f.params.map λw=>[.str w]):=rfl
   clear hlt
   have hvr:vrR l m s=idxS (vrN f) s:=by
    rw[vrR,if_pos ⟨hb,hk⟩]
    simp only[Int.toNat_natCast,hf]
   rw[hvr]
   have hnm:=If G (aA f.body+1) f.body (by omega) f.params (by omega)
   have hvl:=vl f.params f.body
   have hvn:nmW f.params f.body=vrN f:=rfl
   rw[hvn] at hnm hvl
   simp-implicitDefEqProofs[hf,hfc,hst]
   refine⟨⟨by omega,by omega⟩,?_⟩
   have hrow:AO.row 1 (List.map ((λx=>List.map AV.p x)∘λw=>[PV.str w]) f.params)=fp f.params:=by simp[fp]
   rw[hrow]
   refine(Aa G (args:=[.p (smL f.body)]) hnm (by simp[below]) (id:=3) rfl).mono ?_
   rintro r h' ⟨rfl,rfl⟩
   obtain⟨ns,hns⟩:∃ns,ns=vrN f:=⟨_,rfl⟩
   rw[←hns] at hvl⊢
   have hL:fp ns= .row 1 (ns.map λn=>[AV.p (.str n)]):=rfl
   simp-implicitDefEqProofs[aa]
   refine aG (λi:Nat=>ay 55 [(10,.p (.int .i64 i)),(9,.sl 4 1 0 ns.length),(2,.p (.str s))]) (λ_=>[AO.row 1 [[AV.p (PV.lst 3 (List.map Fd.cs l))]],AO.row 1 [[AV.p (cdL (lH l))]],AO.dead,AO.dead,fp ns]) (λi=>i<=ns.length/\∀x∈ns.take i,¬x=s) (λi=>ns.length-i) 0 (by simp) (aw (by simp) (by simp[below])) ?_
   rintro i ⟨hi,hp⟩
   simp-implicitDefEqProofs[hL]
   refine aJ (λhc=>?_) (λhc=>?_)
   ·simp at hc
    have hg:=Tc hc
    have htk:=an hc
    have hfi:=zm hc hp
    generalize ns[i]=x at hg htk hfi
    simp-implicitDefEqProofs[hg]
    refine⟨hc,aJ (λhe=>?_) (λhe=>?_)⟩
    ·have he:x=s:=by simpa using he
     rw[hfi he]
     simp-implicitDefEqProofs[]
    ·have he:¬x=s:=by simpa using he
     simp-implicitDefEqProofs[]
     refine⟨i+1,⟨by omega,λy hy=>?_⟩,by omega,aw (by simp) (by simp[below,w1 (i:=i) (by omega)])⟩
     rw[htk] at hy
     rcases Th.1 hy with hy|hy
     ·exact hp y hy
     ·rw[Ti.1 hy];exact he
   ·simp at hc
    rw[Tl hc] at hp
    rw[Iu hp]
    simp-implicitDefEqProofs[]
def NZ(A B:AO)(b:Nat)(st:Wds)(id:Nat)(h:List AO):Prop:=
 b<h.length/\2<=b/\h[0]?=some A/\h[1]?=some B/\((st=[]/\id=0/\h[b]?=some (.row 1 [[.nils]]))\/(2<=id/\id≠b/\h[b]?=some (.row 1 [[.sl id 1 0 st.length]])/\h[id]?=some (fp st)))
def vHV(A B:AO)(b:Nat):HV Wds where
 F:=iW
 caps:=[.ptr b 1 0 0]
 n:=b+1
 Inv:=NZ A B b
 capsOk:=by simp[below]
 len:=λ{out id h} H=>by
  obtain⟨h1,h2,_,_,⟨_,rfl,_⟩|⟨_,_,_,h3⟩⟩:=H
  ·exact⟨h1,by omega⟩
  ·exact⟨h1,(Ta.1 h3).1⟩
 frame:=λ{out id h h'} H K=>by
  obtain⟨h1,h2,ha,hb,H⟩:=H
  have kb:=K b h1 (.inl (by omega))
  have hl:b<h'.length:=by
   rcases H with⟨_,_,e⟩|⟨_,_,e,_⟩
   ·rw[e] at kb;exact(Ta.1 kb).1
   ·rw[e] at kb;exact(Ta.1 kb).1
  refine⟨hl,h2,by rw[K 0 (by omega) (.inl (by omega))];exact ha,by rw[K 1 (by omega) (.inl (by omega))];exact hb,?_⟩
  rcases H with⟨a,c,e⟩|⟨a,c,e,f⟩
  ·exact .inl ⟨a,c,by rw[kb];exact e⟩
  ·exact .inr ⟨a,c,by rw[kb];exact e,by rw[K id (Ta.1 f).1 (.inr rfl)];exact f⟩
def Fo(out:Wds)(k:Nat):Prop:=out.length+k<=1099511627776
theorem Ie:∀(st:Wds) (s:Sm) (d k:Nat),Fo st (k+s.own)->Fo (sw st (s,d)) k:=by
 intro st s d k h
 unfold Fo sw at*
 have:1<=s.own:=by rw[Sm.own];omega
 split
 ·simp;omega
 ·omega
theorem Fy(A B:AO)(b:Nat):∀(st:Wds) (s:Sm) (d k id:Nat) (h:List AO),Fo st (k+s.own)->s.sz<=1073741824->(vHV A B b).Inv st id h->AC Tryz.prog G (vHV A B b).F (.agg (s.cs.map .p):: .p (.int .i64 (d:Nat))::(vHV A B b).caps) h λx h'=>x= .ret (.tup [])/\(vHV A B b).Left id h (sw st (s,d)) h':=by
 intro st s d k id h hk hz hI
 have hcs:=s.cs_eq
 have hm:NZ A B b st id h:=hI
 obtain⟨h1,h2,ha,hb,H⟩:=hI
 refine AC.go uX ?_
 show AKW _ _ _ _ (ay 13 (zh 0 [.agg (s.cs.map .p),.p (.int .i64 (d:Nat)),.ptr b 1 0 0])) h _
 have hbm:∀t,(h++t)[b]?=h[b]?:=λt=>Tb h1
 have hown:1<=s.own:=by rw[Sm.own];omega
 have hk2:st.length+1<=1099511627776:=by unfold Fo at hk;omega
 by_cases ho:s.op=1
 case neg=>
  have hp:sw st (s,d)=st:=if_neg ho
  rw[hp]
  simp-implicitDefEqProofs[fy,hcs,ho]
  exact⟨id,(vHV A B b).more hm _,by simp,λi hi _ _=>Tb hi,.inl rfl⟩
 have hp:sw st (s,d)=st++[s.name]:=if_pos ho
 rw[hp]
 have hbs:∀t o,((h++t).set b o)[b]?=some o:=λt o=>Tr (by simp;omega)
 rcases H with⟨rfl,rfl,hbb⟩|⟨hid,hib,hbb,hr⟩
 ·simp-implicitDefEqProofs[fy,hcs,ho,hbm,hbb]
  refine⟨h.length+2,⟨by simp;omega,h2,?_,?_,.inr ⟨by omega,by omega,?_,?_⟩⟩,by simp,λi hi hin _=>?_,.inr (by simp)⟩
  ·rw[Te (by omega),Tb (by omega)];exact ha
  ·rw[Te (by omega),Tb (by omega)];exact hb
  ·exact hbs _ _
  ·rw[Te (by omega),Tg (by omega)];simp[fp]
  ·have:b+1<=i:=hin
   rw[Te (by omega),Tb hi]
 ·have hil:=(Ta.1 hr).1
  have hrm:∀t,(h++t)[id]?=some (.row 1 (st.map λn=>[AV.p (.str n)])):=λt=>by rw[Tb hil];exact hr
  have htl:List.take st.length (st.map λn=>[AV.p (.str n)])=st.map λn=>[AV.p (.str n)]:=Tl (by simp)
  have hbd:∀t u,((h++t).set id .dead++u)[b]?=h[b]?:=λt u=>by rw[Tb (by simp;omega),Te hib,hbm]
  simp-implicitDefEqProofs[fy,hcs,ho,hbm,hbb,hrm,htl, ↓hbd]
  refine⟨⟨by omega,by omega⟩,h.length+2,⟨by simp;omega,h2,?_,?_,.inr ⟨by omega,by omega,?_,?_⟩⟩,by simp;omega,λi hi hin hne=>?_,.inr (by simp)⟩
  ·rw[Te (by omega),Tb (by simp),Te (by omega),Tb (by omega)];exact ha
  ·rw[Te (by omega),Tb (by simp),Te (by omega),Tb (by omega)];exact hb
  ·rw[Tw,List.length_singleton]
   exact Tr (by simp;omega)
  ·rw[Te (by omega),Tg (by simp)];simp[fp]
  ·have:b+1<=i:=hin
   rw[Te (by omega),Tb (by simp;omega),Te (Ne.symm hne),Tb hi]
def QT:AV->Nat
 | .sl id _ _ _=>id
 |_=>0
theorem Fa(l:Wds)(hl:l.length<=1073741824)(h:List AO):AC Tryz.prog G dH [.p (aR l)] h λx h'=>∃V os,x= .ret V/\h'=h++os/\((V= .nils/\l=[])\/∃id,V= .sl id 1 0 l.length/\h.length<=id/\h'[id]?=some (fp l)):=by
 have hsl:aR l= .lst 1 (l.map λw=>[.str w]):=rfl
 refine AC.go nC ?_
 simp-implicitDefEqProofs[gE,hsl]
 cases l with
 |nil=>
  simp[FI]
  rfl
 |cons w r=>
  simp only[Tu] at hl
  simp[FI]
  refine⟨⟨by omega,by omega⟩,?_⟩
  simp[fp]
variable (hK:G ja=some gO) (hS:G dV=some [.tbl opK opV])
include hK hS
theorem Jp(l:List Fd)(hz:bQ l<=1073741824)(k:Int)(s:List UInt8):VF Tryz.prog G lJ [.agg [.p (fdL l)],.p (.int .i64 k),.p (.str s)] (.p (.int .i64 (vrR l k s))):=by
 have hfl:fdL l= .lst 3 (l.map Fd.cs):=rfl
 have hll:=dc l
 refine AC.go Ad ?_
 simp-implicitDefEqProofs[re]
 refine(zx G hK hS l hz).use ?_
 cases hb:eA l with
 |false=>simp-implicitDefEqProofs[vrR,hb]
 |true=>
  obtain⟨h0,hu⟩:=HI hb
  have hlu:lH l=unL l:=by rw[lH,hb,if_pos rfl]
  have hul:cdL (unL l)= .lst 3 ((unL l).map Cd.cs):=rfl
  have hlen:=My l
  have hw:IntKind.i64.wrap ((l.length:Int)-1)=(l.length:Int)-1:=ag (by omega) (by omega)
  simp-implicitDefEqProofs[hlu,hul,hlen,hw]
  refine(bU G k 0 ((l.length:Int)-1)).use ?_
  cases hk:inR k 0 ((l.length:Int)-1) with
  |false=>simp-implicitDefEqProofs[vrR,hk]
  |true=>
   have hk2:=hk
   simp only[inR,Tm,decide_eq_true_eq] at hk2
   obtain⟨m,rfl⟩:∃m:Nat,k=m:=⟨k.toNat,by omega⟩
   have hlt:m<l.length:=by omega
   obtain⟨f,hf⟩:∃f,l[m]?=some f:=⟨_,Tc hlt⟩
   have hfc:=f.cs_eq'
   have hfm:=Tn hf
   have hs:=jx (BF h0)
   have hfz:=dy hfm
   have hfz2:f.sz=1+f.name.length+(f.params.length+(f.params.map List.length).sum)+aA f.body:=rfl
   clear hlt
   have hvr:vrR l m s=idxS (vrN f) s:=by
    rw[vrR,if_pos ⟨hb,hk⟩]
    simp only[Int.toNat_natCast,hf]
   rw[hvr]
   have hnz:=GW f.body
   have hvl:(vrN f).length<=1048576:=by rw[vrN,Tw];omega
   simp-implicitDefEqProofs[hfl,hf,hfc]
   refine(Fa G f.params (by omega) _).mono ?_
   rintro x X ⟨V,os,rfl,rfl,hV⟩
   have hVc:V.isCell=true/\V.cells=[V]:=by
    rcases hV with⟨rfl,_⟩|⟨id,rfl,_⟩<;>exact⟨rfl,rfl⟩
   obtain⟨b,hbx⟩:∃b,b=os.length+2:=⟨_,rfl⟩
   obtain⟨A,hA⟩:∃A,A=AO.row 1 [[AV.p (PV.lst 3 (List.map Fd.cs l))]]:=⟨_,rfl⟩
   obtain⟨B,hB⟩:∃B,B=AO.row 1 [[AV.p (PV.lst 3 (List.map Cd.cs (unL l)))]]:=⟨_,rfl⟩
   obtain⟨X2,hX2⟩:∃X2,X2=A::B::(os++[AO.row 1 [[V]]]):=⟨_,rfl⟩
   have hI:NZ A B b f.params (QT V) X2:=by
    refine⟨by rw[hX2];simp;omega,by omega,by rw[hX2];rfl,by rw[hX2];rfl,?_⟩
    have hbb:X2[b]?=some (.row 1 [[V]]):=by rw[hX2,hbx];simp
    rcases hV with⟨rfl,e⟩|⟨id,rfl,hid,hidr⟩
    ·exact .inl ⟨e,rfl,hbb⟩
    ·have hil:=(Ta.1 hidr).1
     simp at hil hid
     refine .inr ⟨hid,by show id≠b;omega,hbb,?_⟩
     rw[hX2]
     obtain⟨j,rfl⟩:∃j,id=j+2:=⟨id-2,by omega⟩
     have:(A::B::os)[j+2]?=some (fp f.params):=by
      have h3:=hidr
      simp at h3
      simpa using h3
     show(A::B::(os++[AO.row 1 [[AV.sl (j+2) 1 0 f.params.length]]]))[j+2]?=_
     simp only[List.getElem?_cons_succ] at this⊢
     rw[Tb (by omega)]
     exact this
   have hst:=KC G (vHV A B b) sw Fo 1073741824 (by omega) Ie (Fy G A B b) (aA f.body+1) f.body (by omega) (by omega) 1 (by omega) f.params 0 _ X2 (by unfold Fo;omega) hI
   rw[vc] at hst
   simp-implicitDefEqProofs[-AV.cells,-AV.isCell,aC,ab,af,aq,aD,ae,au,hVc,aa,hf,hfc]
   have eb:os.length+1+1=b:=by omega
   rw[eb,←hA,←hB,←hX2]
   refine hst.mono ?_
   rintro r X3 ⟨rfl,id3,hI3,hl3,_,_⟩
   obtain⟨_,_,_,_,hI3⟩:=hI3
   have hvn:f.params++iV f.body=vrN f:=rfl
   rw[hvn] at hI3
   have hidx:=Hh G (vrN f) s hvl
   rcases hI3 with⟨he,_,hbb⟩|⟨_,_,hbb,hr3⟩
   ·simp-implicitDefEqProofs[aa,hbb]
    rw[he] at hidx⊢
    refine(hidx.lend (.one (View.nils 1) (.one (.p _) .nil)) rfl).mono ?_
    rintro r h ⟨rfl,rfl⟩
    simp-implicitDefEqProofs[aa]
   ·simp-implicitDefEqProofs[aa,hbb]
    refine(hidx.lend (.one (tE hr3) (.one (.p _) .nil)) rfl).mono ?_
    rintro r h ⟨rfl,rfl⟩
    simp-implicitDefEqProofs[aa]
end
section
variable (G:aH) (hK:G ja=some gO) (hS:G dV=some [.tbl opK opV])
include hK hS
theorem uR(l:List Fd)(hf:Pk l)(k:Int)(s:List UInt8):VF Tryz.prog G iQ [.agg [.p (fdL l)],.p (.int .i64 k),.p (.str s)] (.p (.bool true)):=by
 refine AC.go oz ?_
 have hsz':VF Tryz.prog G ep [.agg [.p (fdL l)],.p (.int .i64 1048576)] (.p (.int .i64 (bC 1048576 (bQ l)))):=DE G l hf 1048576 (Tk _)
 simp-implicitDefEqProofs[iR]
 refine aJ (λ_=>?_) (λ_=>?_)
 ·simp-implicitDefEqProofs[]
 simp-implicitDefEqProofs[]
 refine hsz'.use ?_
 by_cases hz:bQ l<=1048576
 case neg=>
  rw[bz hz]
  simp-implicitDefEqProofs[]
 have hto:=CU G l hz
 have hnn:¬((1048576-bQ l:Nat):Int)<0:=by omega
 rw[dD hz]
 simp-implicitDefEqProofs[hnn]
 refine hto.use ?_
 simp-implicitDefEqProofs[]
 refine(JJ G l (by omega) k s).use ?_
 simp-implicitDefEqProofs[]
 refine hto.use ?_
 simp-implicitDefEqProofs[]
 refine(Jp G hK hS l (by omega) k s).use ?_
 simp-implicitDefEqProofs[]
 refine hto.use ?_
 simp-implicitDefEqProofs[]
 refine(Dq G l hz).use ?_
 simp-implicitDefEqProofs[]
end
end Go.Proofs.YtghpabfdmbdpfaaGreatDoor
namespace Go.Proofs.YtghpabfdmbdpfaaGreatDoor
open Go Go.Aw Go.ChangeShapes Go.WideShapes Go.ChangeAt Go.RowKit
set_option maxRecDepth 100000
abbrev Lz:TypeId:=37
abbrev NM:TypeId:=35
abbrev Mw:TypeId:=91
abbrev Fh:TypeId:=30
abbrev AW:TypeId:=9
abbrev sU:TypeId:=89
abbrev ku:TypeId:=177
abbrev vt:TypeId:=175
abbrev nQ:TypeId:=221
abbrev Ea:TypeId:=3
abbrev OA:TypeId:=4
abbrev EU:TypeId:=205
abbrev KF:TypeId:=236
abbrev Mn:TypeId:=237
theorem QC:Kids Tryz.prog (· <Tryz.prog.types.size):=kids_rows (by kernel_rfl) (by kernel_rfl)
theorem QF:∀t e,t<Tryz.prog.types.size->Tryz.prog.underlying t=some (.slice e)->0<Tryz.prog.cellsOf e:=slices_full_of Tryz.prog (by kernel_rfl)
def Ly:List TypeId:=[Lz,NM,Mw,Fh,AW,sU,ku,vt,nQ,Ea,OA,EU,KF]
theorem FX:Plain Tryz.prog Ly=true:=by kernel_rfl
theorem RZ:ownKnob Tryz.prog.godebug=none:=by kernel_rfl
theorem yx{H:Type}:∀l:List (DataW H),Rows.uptoBulkAll l=(l.map Rows.uptoBulk).sum
 |[]=>by simp[Rows.uptoBulkAll]
 |d::r=>by simp[Rows.uptoBulkAll,yx r]
theorem Nj{H:Type}:BulkOk (Rows.uptoBulk (H:=H)) where
 lit:=λl=>by cases l<;>simp[Rows.uptoBulk]
 str:=λs=>by simp[Rows.uptoBulk]
 nil:=by simp[Rows.uptoBulk]
 slice:=λes sp=>by simp only[Rows.uptoBulk,yx];omega
 agg:=λps=>by simp only[Rows.uptoBulk,yx];omega
theorem kx{t e:TypeId}{vs:List PV}(h:Conf Tryz.prog t vs)(hu:Tryz.prog.underlying t=some (.slice e)):∃es,vs=[.lst (Tryz.prog.cellsOf e) es]/\es.length<=9223372036854775807/\∀x∈es,Conf Tryz.prog e x:=by
 cases h with
 |sl es e' hl hs=>rw[hu] at e';cases e';exact⟨es,rfl,hl,hs⟩
 |bool b e=>rw[e] at hu;cases hu
 |int n e=>rw[e] at hu;cases hu
 |str s e=>rw[e] at hu;cases hu
 |st vs e=>rw[e] at hu;cases hu
 |arr vs e=>rw[e] at hu;cases hu
theorem Hx{vs:List PV}(h:Conf Tryz.prog Fh vs):∃l:List (List UInt8),vs=[aR l]/\l.length<=9223372036854775807/\∀x∈l,x.length<=9223372036854775807:=by
 obtain⟨es,rfl,hl,h4⟩:=kx h (e:=AW) (by kernel_rfl)
 have hk:∀x∈es,∃s:List UInt8,x=[PV.str s]/\s.length<=maxLen:=λx hx=>nW (h4 x hx) (by kernel_rfl)
 obtain⟨l,rfl⟩:=Gu (λs:List UInt8=>[PV.str s]) (λx hx=>by obtain⟨n,e,_⟩:=hk x hx;exact⟨n,e⟩)
 rw[show Tryz.prog.cellsOf AW=1 by kernel_rfl]
 refine⟨l,rfl,by rwa[TB] at hl,λs hs=>?_⟩
 obtain⟨m,e,hw⟩:=hk [PV.str s] (TE.2 ⟨s,hs,rfl⟩)
 cases e
 exact hw
theorem kz{α β:Type}(g:β->α)(p:β->Prop):∀{es:List α},(∀x∈es,∃m,x=g m/\p m)->∃ms:List β,es=ms.map g/\∀m∈ms,p m
 |[],_=>⟨[],rfl,λm hm=>by cases hm⟩
 |e::r,h=>by
  obtain⟨m,hm,hp⟩:=h e (by simp)
  obtain⟨ms,hms,hps⟩:=kz g p (es:=r) λx hx=>h x (by simp[hx])
  exact⟨m::ms,by simp[hm,hms],λx hx=>by
   rcases Tf.1 hx with rfl|hx
   ·exact hp
   ·exact hps x hx⟩
theorem tq:∀{l:List Ex},(∀e∈l,e.fit)->mL l
 |[],_=>trivial
 |e::r,h=>⟨h e (by simp),tq λx hx=>h x (by simp[hx])⟩
theorem oT:∀{l:List Sm},(∀e∈l,e.fit)->kh l
 |[],_=>trivial
 |e::r,h=>⟨h e (by simp),oT λx hx=>h x (by simp[hx])⟩
theorem vD{x:List PV}{es:List (List PV)}(h:x∈es)(sz:Nat):SizeOf.sizeOf x<SizeOf.sizeOf [PV.lst sz es]:=by
 have:=List.sizeOf_lt_of_mem h
 simp
 omega
theorem NL:∀(n:Nat) (vs:List PV),SizeOf.sizeOf vs<n->Conf Tryz.prog nQ vs->∃e:Ex,vs=e.cs/\e.fit:=by
 intro n
 induction n with
 |zero=>intro vs h;omega
 |succ n ih=>
  intro vs hn h
  have h:=vj (ts:=[Ea,Ea,AW,vt]) h (by kernel_rfl)
  obtain⟨a,r,rfl,h1,h⟩:=bE h
  obtain⟨b,r,rfl,h2,h⟩:=bE h
  obtain⟨c,r,rfl,h3,h⟩:=bE h
  obtain⟨d,r,rfl,h4,h⟩:=bE h
  cases oY h
  obtain⟨n1,rfl,_⟩:=sv h1 (k:= .i64) (by kernel_rfl)
  obtain⟨n2,rfl,_⟩:=sv h2 (k:= .i64) (by kernel_rfl)
  obtain⟨s,rfl,l3⟩:=nW h3 (by kernel_rfl)
  obtain⟨es,rfl,l4,h5⟩:=kx h4 (e:=nQ) (by kernel_rfl)
  have hs1:SizeOf.sizeOf [PV.lst (Tryz.prog.cellsOf nQ) es]<n+1:=by simp at hn⊢;omega
  obtain⟨l,rfl,hl⟩:=kz Ex.cs Ex.fit (λx hx=>ih x (by have:=vD hx (Tryz.prog.cellsOf nQ);omega) (h5 x hx))
  refine⟨⟨n1,n2,s,l⟩,?_,?_⟩
  ·rw[show Tryz.prog.cellsOf nQ=4 by kernel_rfl,Ex.cs_eq];rfl
  ·exact⟨l3,by rwa[TB] at l4,tq hl⟩
theorem Jz{vs:List PV}(h:Conf Tryz.prog vt vs):∃l:List Ex,vs=[exL l]/\l.length<=BL/\mL l:=by
 obtain⟨es,rfl,l4,h5⟩:=kx h (e:=nQ) (by kernel_rfl)
 obtain⟨l,rfl,hl⟩:=kz Ex.cs Ex.fit (λx hx=>NL _ x (Nat.lt_succ_self _) (h5 x hx))
 rw[show Tryz.prog.cellsOf nQ=4 by kernel_rfl]
 exact⟨l,rfl,by rwa[TB] at l4,tq hl⟩
theorem Nh:∀(n:Nat) (vs:List PV),SizeOf.sizeOf vs<n->Conf Tryz.prog ku vs->∃e:Sm,vs=e.cs/\e.fit:=by
 intro n
 induction n with
 |zero=>intro vs h;omega
 |succ n ih=>
  intro vs hn h
  have h:=vj (ts:=[Ea,AW,vt,sU,sU]) h (by kernel_rfl)
  obtain⟨a,r,rfl,h1,h⟩:=bE h
  obtain⟨b,r,rfl,h2,h⟩:=bE h
  obtain⟨c,r,rfl,h3,h⟩:=bE h
  obtain⟨d,r,rfl,h4,h⟩:=bE h
  obtain⟨d',r,rfl,h4',h⟩:=bE h
  cases oY h
  obtain⟨n1,rfl,_⟩:=sv h1 (k:= .i64) (by kernel_rfl)
  obtain⟨s,rfl,l3⟩:=nW h2 (by kernel_rfl)
  obtain⟨ar,rfl,la,fa⟩:=Jz h3
  obtain⟨es,rfl,l4,h5⟩:=kx h4 (e:=ku) (by kernel_rfl)
  obtain⟨es',rfl,l4',h5'⟩:=kx h4' (e:=ku) (by kernel_rfl)
  have hs1:SizeOf.sizeOf [PV.lst (Tryz.prog.cellsOf ku) es]<n+1:=by simp at hn⊢;omega
  have hs2:SizeOf.sizeOf [PV.lst (Tryz.prog.cellsOf ku) es']<n+1:=by simp at hn⊢;omega
  obtain⟨l,rfl,hl⟩:=kz Sm.cs Sm.fit (λx hx=>ih x (by have:=vD hx (Tryz.prog.cellsOf ku);omega) (h5 x hx))
  obtain⟨l',rfl,hl'⟩:=kz Sm.cs Sm.fit (λx hx=>ih x (by have:=vD hx (Tryz.prog.cellsOf ku);omega) (h5' x hx))
  refine⟨⟨n1,s,ar,l,l'⟩,?_,?_⟩
  ·rw[show Tryz.prog.cellsOf ku=5 by kernel_rfl,Sm.cs_eq];rfl
  ·exact⟨l3,⟨la,fa⟩,⟨by rwa[TB] at l4,oT hl⟩,⟨by rwa[TB] at l4',oT hl'⟩⟩
theorem Jx{vs:List PV}(h:Conf Tryz.prog sU vs):∃l:List Sm,vs=[smL l]/\l.length<=BL/\kh l:=by
 obtain⟨es,rfl,l4,h5⟩:=kx h (e:=ku) (by kernel_rfl)
 obtain⟨l,rfl,hl⟩:=kz Sm.cs Sm.fit (λx hx=>Nh _ x (Nat.lt_succ_self _) (h5 x hx))
 rw[show Tryz.prog.cellsOf ku=5 by kernel_rfl]
 exact⟨l,rfl,by rwa[TB] at l4,oT hl⟩
theorem Nn{vs:List PV}(h:Conf Tryz.prog Mw vs):∃f:Fd,vs=f.cs/\f.fit:=by
 have h:=vj (ts:=[AW,Fh,sU]) h (by kernel_rfl)
 obtain⟨a,r,rfl,h1,h⟩:=bE h
 obtain⟨b,r,rfl,h2,h⟩:=bE h
 obtain⟨c,r,rfl,h3,h⟩:=bE h
 cases oY h
 obtain⟨s,rfl,l1⟩:=nW h1 (by kernel_rfl)
 obtain⟨ws,rfl,l2,w2⟩:=Hx h2
 obtain⟨bd,rfl,l3,f3⟩:=Jx h3
 exact⟨⟨s,ws,bd⟩,rfl,l1,⟨l2,w2⟩,l3,f3⟩
theorem Ix{vs:List PV}(h:Conf Tryz.prog Lz vs):∃l:List Fd,vs=[fdL l]/\Pk l:=by
 have h:=vj (ts:=[NM]) h (by kernel_rfl)
 obtain⟨a,r,rfl,h1,h⟩:=bE h
 cases oY h
 obtain⟨es,rfl,l4,h5⟩:=kx h1 (e:=Mw) (by kernel_rfl)
 obtain⟨l,rfl,hl⟩:=kz Fd.cs Fd.fit (λx hx=>Nn (h5 x hx))
 rw[show Tryz.prog.cellsOf Mw=3 by kernel_rfl]
 exact⟨l,rfl,by rwa[TB] at l4,hl⟩
def G0:aH:=λg=>if g=ja then some gO else if g=dV then some [.tbl opK opV] else none
theorem Pe:∀k,gW Tryz.prog (k+10) EU (Rows.laid_loop_example_wholeway_impl_keys (H:=Unit))=gO:=λk=>by kernel_rfl
theorem Ss{W:World}{laid:List (String × DataW Unit)}(hL:laidMet Tryz.prog laid W)(h1:("loop.example/wholeway/impl.keys",Rows.laid_loop_example_wholeway_impl_keys)∈laid)(h2:("loop.example/wholeway/impl.opSign",Rows.laid_loop_example_wholeway_impl_opSign)∈laid):
 ∀g cs,G0 g=some cs->g<W.heap.size/\∀(j:Nat) (c:PV),cs[j]?=some c->∃v,W.cell? ⟨g,j,none⟩=some v/\PRel W (· <W.heap.size) c v:=by
 intro g cs h
 unfold G0 at h
 split at h
 ·rename_i e;subst e;cases h
  exact IQ FX hL (n:= "loop.example/wholeway/impl.keys") (d:=Rows.laid_loop_example_wholeway_impl_keys) (t:=EU) h1 (by kernel_rfl) (by kernel_rfl) (by decide) Pe
 ·split at h
  ·rename_i e;subst e;cases h
   exact LM FX hL (n:= "loop.example/wholeway/impl.opSign") h2 (t:=Mn) (k:=Ea) (e:=KF) (by kernel_rfl) (by kernel_rfl) (by kernel_rfl) (.inl ⟨.i64,by kernel_rfl⟩) (by decide) (by kernel_rfl) (by kernel_rfl) (λm=>by kernel_rfl)
  ·cases h
end Go.Proofs.YtghpabfdmbdpfaaGreatDoor
