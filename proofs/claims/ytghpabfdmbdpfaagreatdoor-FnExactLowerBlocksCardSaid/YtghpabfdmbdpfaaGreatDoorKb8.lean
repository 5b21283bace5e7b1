/-
  Contracts and lemmas that the card needs, part 8.
-/
import Derived.Test.YtghpabfdmbdpfaaGreatDoorKb7
namespace Go.Proofs.YtghpabfdmbdpfaaGreatDoor
open Go Go.Aw
set_option maxRecDepth 100000
set_option maxHeartbeats 4000000
section
theorem pk:AK.whole eG=FK.ak eF:=rfl
theorem Bd(fns:List Fd):∀(a b:List Fd) (k:Nat) (c:Int),iK fns k (a++b) c=iK fns (k+a.length) b (iK fns k a c)
 |[],b,k,c=>rfl
 |f::r,b,k,c=>by rw[List.cons_append,iK,iK,Bd fns r];congr 1;simp only[List.length_cons];omega
theorem Fy{fns l:List Fd}{i:Nat}{c:Int}(h:i<l.length):iK fns 0 (l.take (i+1)) c=icF fns i l[i] (iK fns 0 (l.take i) c):=by
 rw[an h,Bd,List.length_take,Nat.min_eq_left (Nat.le_of_lt h),Nat.zero_add];rfl
theorem Lc(a b:List (List UInt8))(m:Scp)(c:Int):kA (a++b) m c=kA b (kA a m c).1 (kA a m c).2:=by simp[kA]
theorem Is{l:List (List UInt8)}{i:Nat}{m:Scp}{c:Int}(h:i<l.length):kA (l.take (i+1)) m c=(dV (kA (l.take i) m c).1 l[i] 0,if(eC (kA (l.take i) m c).1 l[i]).isSome then fl (kA (l.take i) m c).2 2 else(kA (l.take i) m c).2):=by
 rw[an h,Lc];rfl
variable (G:aH) (hK:G gR=some gf) (hS:G dw=some [.tbl opK opV])
include hK hS
theorem zj(l:List Fd)(hl:bF l<=1073741824):VF Tryz.prog G eB [.agg [.p (fdL l)]] (.p (.int .i64 (cB l))):=by
 have hll:=dS l
 have hfl:∀l,fdL l= .lst 3 (l.map Fd.cs):=λ_=>rfl
 rw[zt]
 refine AC.goK pF pk ?_
 simp-implicitDefEqProofs[eG,eF]
 refine(vX G hK hS l hl).use ?_
 by_cases hv:bL l=true
 case neg=>
  have hv':bL l=false:=by simpa using hv
  simp-implicitDefEqProofs[hv']
 rw[if_pos hv]
 simp-implicitDefEqProofs[hv,hfl]
 refine aF (λi:Nat=>ay 73 [(1,.ptr 0 1 0 0),(3,.ptr 1 3 0 0),(18,.p (fdL l)),(19,.p (.int .i64 l.length)),(20,.p (.int .i64 i))])
  (λi=>[.row 1 [[.p (fdL l)]],cO l (i-1) (iK l 0 (l.take i) 0)]) (λi=>i<=l.length) (λi=>l.length-i) 0 (by simp) ?_ ?_
 ·refine am (h:=[.row 1 [[.p (fdL l)]],cO l 0 0]) (by simp) (by simp[okO,below,cO]) (by simp[below,hfl])
 intro i hi
 have hbo:okO 0 (.row 1 [[.p (fdL l)]]):=by simp[okO]
 simp-implicitDefEqProofs[hfl]
 refine aJ (λh=>?_) (λh=>?_)
 ·simp at h
  have hg:=List.getElem?_eq_getElem h
  have hks:=eZ (List.getElem_mem h)
  have eT:=Fy (fns:=l) (c:=0) h
  obtain⟨j,ej,ejl⟩:=Bv hg
  generalize l[i]=f at*
  have hcs:f.cs=[.str f.name,aP f.params,smL f.body]:=rfl
  have hfz:f.sz=1+f.name.length+(f.params.length+(f.params.map List.length).sum)+aG f.body:=rfl
  have hst:aP f.params= .lst 1 (f.params.map λw=>[.str w]):=rfl
  generalize iK l 0 (l.take i) 0=c0 at eT⊢
  simp-implicitDefEqProofs[hg,hcs,cO]
  have hic:icF l i f c0=(dX l i f.body (kA f.params [] (if j<i then fl c0 2 else c0)).1 [] (kA f.params [] (if j<i then fl c0 2 else c0)).2).2:=by
   rw[icF,ej];simp
  rw[hic] at eT
  clear hic
  refine po (ay 73 [(1,.ptr 0 1 0 0),(3,.ptr 1 3 0 0),(4,.p (.int .i64 i)),(5,.ptr 2 3 0 0),(18,.p (fdL l)),(19,.p (.int .i64 l.length)),(20,.p (.int .i64 i))])
   [.row 1 [[.p (fdL l)]],cO l i (if j<i then fl c0 2 else c0),.row 3 [[.p (.str f.name),.p (aP f.params),.p (smL f.body)]]] ?_ ?_
  ·simp-implicitDefEqProofs[]
   refine(FX G l f.name (by omega)).use ?_
   rw[ej]
   by_cases hj:j<i
   ·have hj':(j:Int)<(i:Int):=by omega
    rw[if_pos hj]
    simp-implicitDefEqProofs[ixI,hj']
    refine(BN G (.row 1 [[.p (fdL l)]]) l i c0 2 [.row 3 [[.p (.str f.name),.p (aP f.params),.p (smL f.body)]]]).mono ?_
    rintro r h ⟨rfl,rfl⟩
    simp-implicitDefEqProofs[aa]
    exact am (by simp) (by simp[okO,below,cO]) (by simp[below,hfl])
   ·have hj':¬(j:Int)<(i:Int):=by omega
    rw[if_neg hj]
    simp-implicitDefEqProofs[ixI,hj']
    exact am (h:=[.row 1 [[.p (fdL l)]],cO l i c0,.row 3 [[.p (.str f.name),.p (aP f.params),.p (smL f.body)]]]) (by simp) (by simp[okO,below,cO]) (by simp[below,hfl])
  generalize (if j<i then fl c0 2 else c0)=c1 at eT⊢
  have hCH:∀(c:Int) (m:Scp),CH (.row 1 [[.p (fdL l)]]) l i c [⟨[.row 3 [[.p (.str f.name),.p (aP f.params),.p (smL f.body)]]],m⟩]=[.row 1 [[.p (fdL l)]],cO l i c,.row 3 [[.p (.str f.name),.p (aP f.params),.p (smL f.body)]],.mp (mpE m),.row 2 [[.mp 3,.nilp]]]:=λ_ _=>rfl
  simp-implicitDefEqProofs[]
  refine(mV G .nilp (.inl rfl) _).mono ?_
  rintro r h ⟨rfl,rfl⟩
  simp-implicitDefEqProofs[aa,hst]
  refine aF (λq:Nat=>ay 73 [(1,.ptr 0 1 0 0),(3,.ptr 1 3 0 0),(4,.p (.int .i64 i)),(5,.ptr 2 3 0 0),(6,.ptr 4 2 0 0),(18,.p (fdL l)),(19,.p (.int .i64 l.length)),(20,.p (.int .i64 i)),(39,.p (aP f.params)),(40,.p (.int .i64 f.params.length)),(41,.p (.int .i64 q))])
   (λq=>[.row 1 [[.p (fdL l)]],cO l i (kA (f.params.take q) [] c1).2,.row 3 [[.p (.str f.name),.p (aP f.params),.p (smL f.body)]],.mp (mpE (kA (f.params.take q) [] c1).1),.row 2 [[.mp 3,.nilp]]])
   (λq=>q<=f.params.length) (λq=>f.params.length-q) 0 (by simp) ?_ ?_
  ·exact am (h:=[.row 1 [[.p (fdL l)]],cO l i c1,.row 3 [[.p (.str f.name),.p (aP f.params),.p (smL f.body)]],.mp [],.row 2 [[.mp 3,.nilp]]]) (by simp) (by simp[okO,below,cO]) (by simp[below,hfl,hst])
  intro q hq
  have eP:=λh=>Is (l:=f.params) (i:=q) (m:=[]) (c:=c1) h
  generalize hP:kA (f.params.take q) [] c1=st at eP⊢
  obtain⟨mq,cq⟩:=st
  simp only at eP⊢
  simp-implicitDefEqProofs[hst]
  refine aJ (λhc=>?_) (λhc=>?_)
  ·simp at hc
   have hga:=List.getElem?_eq_getElem hc
   have eP:=eP hc
   generalize f.params[q]=nme at hga eP
   have hmg:=lI nme mq
   have hms:jY (.str nme) (.p (.int .i64 0)) (mpE mq)=some (mpE (dV mq nme 0)):=by simpa using oB nme 0 mq
   have fin:∀(r1:List (Nat × AV)) (c2:Int),Aw.look r1 1= .ptr 0 1 0 0->Aw.look r1 3= .ptr 1 3 0 0->Aw.look r1 4= .p (.int .i64 i)->Aw.look r1 5= .ptr 2 3 0 0->Aw.look r1 6= .ptr 4 2 0 0->Aw.look r1 18= .p (fdL l)->Aw.look r1 19= .p (.int .i64 l.length)->Aw.look r1 20= .p (.int .i64 i)->Aw.look r1 39= .p (aP f.params)->Aw.look r1 40= .p (.int .i64 f.params.length)->Aw.look r1 41= .p (.int .i64 ((q:Int)+1))->
    Wk 0 (ay 73 r1) [.row 1 [[.p (fdL l)]],cO l i c2,.row 3 [[.p (.str f.name),.p (aP f.params),.p (smL f.body)]],.mp (mpE (dV mq nme 0)),.row 2 [[.mp 3,.nilp]]]
     (ay 73 [(1,.ptr 0 1 0 0),(3,.ptr 1 3 0 0),(4,.p (.int .i64 i)),(5,.ptr 2 3 0 0),(6,.ptr 4 2 0 0),(18,.p (fdL l)),(19,.p (.int .i64 l.length)),(20,.p (.int .i64 i)),(39,.p (aP f.params)),(40,.p (.int .i64 f.params.length)),(41,.p (.int .i64 ((q:Int)+1)))])
     [.row 1 [[.p (fdL l)]],cO l i c2,.row 3 [[.p (.str f.name),.p (aP f.params),.p (smL f.body)]],.mp (mpE (dV mq nme 0)),.row 2 [[.mp 3,.nilp]]]:=by
    intro r1 c2 e1 e3 e4 e5 e6 e18 e19 e20 e39 e40 e41
    refine am (by simp) (aD (by simp[okO]) (aD (by simp[okO,cO]) (aD (by simp[okO]) (aD (Du _ _) (aD (by simp[okO,below]) jt))))) ?_
    simp[below,e1,e3,e4,e5,e6,e18,e19,e20,e39,e40,e41]
   cases hh:eC mq nme with
   |none=>
    rw[hh] at hmg eP
    simp-implicitDefEqProofs[hga,hmg,hms]
    refine⟨q+1,by omega,by omega,?_⟩
    rw[eP]
    exact fin _ _ (by simp) (by simp) (by simp) (by simp) (by simp) (by simp[hfl]) (by simp) (by simp) (by simp[hst]) (by simp) (by simp[w1 (i:=q) (by omega)])
   |some n=>
    rw[hh] at hmg eP
    simp-implicitDefEqProofs[hga,hmg,hms]
    refine(BN G (.row 1 [[.p (fdL l)]]) l i cq 2 _).mono ?_
    rintro r h ⟨rfl,rfl⟩
    simp-implicitDefEqProofs[aa,hms]
    refine⟨q+1,by omega,by omega,?_⟩
    rw[eP]
    exact fin _ _ (by simp) (by simp) (by simp) (by simp) (by simp) (by simp[hfl]) (by simp) (by simp) (by simp[hst]) (by simp) (by simp[w1 (i:=q) (by omega)])
  ·simp at hc
   have hqe:q=f.params.length:=by omega
   subst hqe
   rw[List.take_length] at hP
   rw[hP] at eT
   simp only at eT
   have hB:=Nd G (.row 1 [[.p (fdL l)]]) (fns:=l) (k:=i) (by omega) (by omega) hbo (aG f.body+1) f.body (by omega) (by omega) [.row 3 [[.p (.str f.name),.p (aP f.params),.p (smL f.body)]]] mq [] cq ⟨by simp[okO],trivial⟩
   rw[hCH] at hB
   simp-implicitDefEqProofs[]
   refine hB.mono ?_
   rintro r h ⟨rfl,rfl⟩
   simp-implicitDefEqProofs[aa]
   refine⟨i+1,by omega,by omega,?_⟩
   rw[eT]
   refine dF (m:=2) (by omega) (bV rfl rfl (by simp[okO,below,cO])) (by simp[below,hfl,w1 (i:=i) (by omega)])
 ·simp at h
  have hie:i=l.length:=by omega
  subst hie
  rw[List.take_length]
  simp-implicitDefEqProofs[cO]
end
section
abbrev BL:Nat:=9223372036854775807
mutual
def Ex.fit:Ex->Prop
 | .mk _ _ s k=>s.length<=BL/\k.length<=BL/\mC k
def mC:List Ex->Prop
 |[]=>True
 |e::r=>e.fit/\mC r
end
mutual
def Sm.fit:Sm->Prop
 | .mk _ s a b e=>s.length<=BL/\(a.length<=BL/\mC a)/\(b.length<=BL/\jK b)/\(e.length<=BL/\jK e)
def jK:List Sm->Prop
 |[]=>True
 |s::r=>s.fit/\jK r
end
def Fd.fit(f:Fd):Prop:=f.name.length<=BL/\(f.params.length<=BL/\∀x∈f.params,x.length<=BL)/\(f.body.length<=BL/\jK f.body)
theorem rI:∀{l:List Ex} {e:Ex},mC l->e∈l->e.fit
 |x::r,e,h,hm=>by
  rcases List.mem_cons.1 hm with rfl|hm
  ·exact h.1
  ·exact rI h.2 hm
theorem rA:∀{l:List Sm} {e:Sm},jK l->e∈l->e.fit
 |x::r,e,h,hm=>by
  rcases List.mem_cons.1 hm with rfl|hm
  ·exact h.1
  ·exact rA h.2 hm
theorem Ex.fit_eq(e:Ex):e.fit=(e.name.length<=BL/\e.kids.length<=BL/\mC e.kids):=by cases e;rfl
theorem Sm.fit_eq(s:Sm):s.fit=(s.name.length<=BL/\(s.args.length<=BL/\mC s.args)/\(s.body.length<=BL/\jK s.body)/\(s.els.length<=BL/\jK s.els)):=by cases s;rfl
theorem Fd.cs_eq'(f:Fd):f.cs=[.str f.name,aP f.params,smL f.body]:=rfl
def de(ss:List Nat)(i:Nat):Nat:=ss.length+((ss.take i).map (· -1)).sum
theorem tt(ss:List Nat):de ss 0=ss.length:=by simp[de]
theorem tE{ss:List Nat}{i v:Nat}(h:ss[i]?=some v):de ss (i+1)=de ss i+(v-1):=by
 rw[de,de,List.take_add_one,h,List.map_append,List.sum_append];simp;omega
theorem BG:∀{ss:List Nat},(∀v∈ss,1<=v)->ss.length+(ss.map (· -1)).sum=ss.sum
 |[],_=>rfl
 |v::r,h=>by
  have:=BG (ss:=r) λx hx=>h x (by simp[hx])
  have h1:=h v (by simp)
  simp only[List.length_cons,List.map_cons,List.sum_cons];omega
theorem Aa{ss:List Nat}(h:∀v∈ss,1<=v){i:Nat}(hi:ss.length<=i):de ss i=ss.sum:=by
 rw[de,List.take_of_length_le hi,BG h]
theorem Ct{ss:List Nat}(h:∀v∈ss,1<=v)(i:Nat):de ss i<=ss.sum:=by
 rw[←BG h,de]
 have:(ss.map (· -1)).sum=((ss.take i).map (· -1)).sum+((ss.drop i).map (· -1)).sum:=by
  conv=>lhs;rw[←List.take_append_drop i ss,List.map_append,List.sum_append]
 omega
theorem CW:∀l:List Ex,aL l=(l.map Ex.sz).sum
 |[]=>rfl
 |e::r=>by simp only[aL,List.map_cons,List.sum_cons,CW r]
theorem Ek:∀l:List Sm,aG l=(l.map Sm.sz).sum
 |[]=>rfl
 |e::r=>by simp only[aG,List.map_cons,List.sum_cons,Ek r]
theorem KY(l:List Fd):bF l=(l.map Fd.sz).sum:=rfl
theorem Ex.sz_pos(e:Ex):1<=e.sz:=by rw[e.sz_eq];omega
theorem Sm.sz_pos(e:Sm):1<=e.sz:=by rw[e.sz_eq];omega
theorem Fd.sz_pos(f:Fd):1<=f.sz:=by unfold Fd.sz;omega
def bB(left z:Nat):Int:=if z<=left then((left-z:Nat):Int) else-1
variable (G:aH)
theorem Bt(l:List Ex)(left:Nat)(hl:left<=1048576)(hb:l.length<=BL)(H:∀e∈l,∀left:Nat,left<=1048576->VF Tryz.prog G ig [.agg (e.cs.map .p),.p (.int .i64 left)] (.p (.int .i64 (bB left (e.sz-1))))):
 VF Tryz.prog G dU [.p (exL l),.p (.int .i64 left)] (.p (.int .i64 (bB left (aL l)))):=by
 refine AC.go yF ?_
 have hpos:∀v∈l.map Ex.sz,1<=v:=λv hv=>by obtain⟨e,_,rfl⟩:=List.mem_map.1 hv;exact e.sz_pos
 have hz:=CW l
 have hal:=λi (hi:l.length<=i)=>Aa hpos (i:=i) (by rw[List.length_map];exact hi)
 have hle:=Ct hpos
 have h00:de (l.map Ex.sz) 0=l.length:=by rw[tt,List.length_map]
 rw[←hz] at hal hle
 have hsl:∀l,exL l= .lst 4 (l.map Ex.cs):=λ_=>rfl
 have hw:IntKind.i64.wrap ((left:Int)-l.length)=(left:Int)-l.length:=af (by simp only[BL] at hb;omega) (by omega)
 by_cases h:l.length<=left
 case neg=>
  have h1:(left:Int)-l.length<0:=by omega
  have:=hle 0
  have h2:bB left (aL l)= -1:=if_neg (by omega)
  simp-implicitDefEqProofs[kx,hsl,hw,h1,h2]
 have h1:¬(left:Int)-l.length<0:=by omega
 simp-implicitDefEqProofs[kx,hsl,hw,h1]
 refine aF (λi:Nat=>ay 27 [(0,.p (exL l)),(1,.p (.int .i64 ((left-de (l.map Ex.sz) i:Nat):Int))),(5,.p (.int .i64 i))]) (λ_=>[]) (λi=>i<=l.length/\de (l.map Ex.sz) i<=left) (λi=>l.length-i) 0 ⟨by omega,by rw[h00];exact h⟩ ?_ ?_
 ·refine aN rfl ?_
  simp only[h00]
  simp[below,hsl]
  omega
 ·intro i ⟨hi,hx⟩
  simp-implicitDefEqProofs[hsl]
  refine aJ (λh1=>?_) (λh1=>?_)
  ·simp at h1
   have hg:=List.getElem?_eq_getElem h1
   have hsu:=tE (ss:=l.map Ex.sz) (i:=i) (v:=l[i].sz) (by rw[List.getElem?_map,hg];rfl)
   have hH:=H l[i] (List.getElem_mem h1) (left-de (l.map Ex.sz) i) (by omega)
   have hcs:l[i].cs.length=4:=by simp
   have hle1:=hle (i+1)
   generalize l[i]=e at hg hsu hH hcs
   simp-implicitDefEqProofs[hg,hcs]
   refine hH.use ?_
   by_cases h2:e.sz-1<=left-de (l.map Ex.sz) i
   ·have e2:bB (left-de (l.map Ex.sz) i) (e.sz-1)=((left-de (l.map Ex.sz) (i+1):Nat):Int):=by rw[bB,if_pos h2];omega
    have h3:¬((left-de (l.map Ex.sz) (i+1):Nat):Int)<0:=by omega
    rw[e2]
    simp-implicitDefEqProofs[h3]
    refine⟨i+1,⟨h1,by omega⟩,by omega,aN rfl (by simp[below,hsl,w1 (i:=i) (by simp only[BL] at hb;omega)])⟩
   ·have e2:bB (left-de (l.map Ex.sz) i) (e.sz-1)= -1:=if_neg h2
    have e3:bB left (aL l)= -1:=if_neg (by omega)
    rw[e2,e3]
    simp-implicitDefEqProofs[]
  ·simp at h1
   have hta:=hal i h1
   have h5:bB left (aL l)=((left-de (l.map Ex.sz) i:Nat):Int):=by rw[hta,bB,if_pos (by omega)]
   simp-implicitDefEqProofs[h5]
theorem BD(l:List Ex)(hb:l.length<=1048576)(H:∀e∈l,VF Tryz.prog G io [.agg (e.cs.map .p)] (.agg (e.cs.map .p))):VF Tryz.prog G da [.p (exL l)] (.p (exL l)):=by
 have hsl:∀l,exL l= .lst 4 (l.map Ex.cs):=λ_=>rfl
 have key:AC Tryz.prog G da [.p (exL l)] [] λx h=>x= .ret (.sl 0 4 0 l.length)/\h=[.row 4 (l.map λe=>e.cs.map .p)]:=by
  refine AC.go zZ ?_
  have hn:(l.map λe=>e.cs.map AV.p).length=l.length:=by simp
  simp-implicitDefEqProofs[oo,hsl]
  refine⟨by omega,?_⟩
  refine aF (λi:Nat=>ay 23 [(0,.p (exL l)),(3,.sl 0 4 0 l.length),(4,.p (.int .i64 i))]) (λi=>[.row 4 ((l.map λe=>e.cs.map AV.p).take i++List.replicate (l.length-i) [.p (.int .i64 0),.p (.int .i64 0),.p (.str []),.nils])]) (λi=>i<=l.length) (λi=>l.length-i) 0 (by simp) ?_ ?_
  ·refine gr [0] rfl (by simp) (bS (by simp) (by simp[below]) dC) ?_
   simp[below,ren,hsl]
  ·intro i hi
   simp-implicitDefEqProofs[hsl]
   refine aJ (λh1=>?_) (λh1=>?_)
   ·simp at h1
    have hg:=List.getElem?_eq_getElem h1
    have hg2:=zs (z:=([.p (.int .i64 0),.p (.int .i64 0),.p (.str []),.nils]:List AV)) hn h1
    have hset:=sE (z:=([.p (.int .i64 0),.p (.int .i64 0),.p (.str []),.nils]:List AV)) (v:=l[i].cs.map AV.p) hn h1 (by rw[List.getElem?_map,hg];rfl)
    have hH:=H l[i] (List.getElem_mem h1)
    have hcs:=l[i].cs_eq
    have htl:(List.take i (l.map λ(e:Ex)=>e.cs.map AV.p)++List.replicate (l.length-i) ([.p (.int .i64 0),.p (.int .i64 0),.p (.str []),.nils]:List AV)).length=l.length:=by simp;omega
    generalize l[i]=e at hg hset hH hcs
    generalize hRow:(List.take i (l.map λ(e:Ex)=>e.cs.map AV.p)++List.replicate (l.length-i) ([.p (.int .i64 0),.p (.int .i64 0),.p (.str []),.nils]:List AV))=Rw at hg2 hset htl⊢
    rw[hcs] at hH hset
    simp-implicitDefEqProofs[hg,hcs]
    refine hH.use ?_
    simp-implicitDefEqProofs[hg2,h1,fR]
    simp only[List.map_cons,List.map_nil] at hset
    rw[hset]
    refine⟨i+1,h1,by omega,gr [0] rfl (by simp) (bS rfl ?_ dC) ?_⟩
    ·intro x hx
     rcases List.mem_append.1 hx with hx|hx
     ·obtain⟨y,_,rfl⟩:=List.mem_map.1 (List.mem_of_mem_take hx);simp
     ·rw[(List.mem_replicate.1 hx).2];simp[below]
    ·simp[below,ren,hsl,w1 (i:=i) (by omega)]
   ·simp at h1
    have hie:i=l.length:=by omega
    subst hie
    rw[Nat.sub_self,List.replicate_zero,List.append_nil,List.take_of_length_le (by rw[hn];exact Nat.le_refl _)]
    simp-implicitDefEqProofs[]
 refine AC.freeze key (.one ?_ .nil)
 have:=fk (h:=[.row 4 (l.map λe=>e.cs.map .p)]) (id:=0) (sz:=4) (n:=l.length) (ls:=l.map Ex.cs) (by simp) (by simp) (λx hx=>by obtain⟨b,_,rfl⟩:=List.mem_map.1 hx;simp)
 exact this
theorem Be(l:List Ex)(hb:l.length<=1048576)(H:∀e∈l,VF Tryz.prog G ir [.agg (e.cs.map .p),.agg (e.cs.map .p)] (.p (.bool true))):VF Tryz.prog G dN [.p (exL l),.p (exL l)] (.p (.bool true)):=by
 refine AC.go vO ?_
 have hsl:∀l,exL l= .lst 4 (l.map Ex.cs):=λ_=>rfl
 simp-implicitDefEqProofs[ny,hsl]
 refine aF (λi:Nat=>ay 27 [(0,.p (exL l)),(1,.p (exL l)),(5,.p (.int .i64 i))]) (λ_=>[]) (λi=>i<=l.length) (λi=>l.length-i) 0 (by simp) ?_ ?_
 ·exact aN rfl (by simp[below,hsl])
 intro i hi
 simp-implicitDefEqProofs[hsl]
 refine aJ (λh1=>?_) (λh1=>?_)
 ·simp at h1
  have hg:=List.getElem?_eq_getElem h1
  have hH:=H l[i] (List.getElem_mem h1)
  have hcs:l[i].cs.length=4:=by simp
  generalize l[i]=e at hg hH hcs
  simp-implicitDefEqProofs[hg,hcs]
  refine hH.use ?_
  simp-implicitDefEqProofs[]
  exact⟨i+1,h1,by omega,aN rfl (by simp[below,hsl,w1 (i:=i) (by omega)])⟩
 ·simp at h1
  simp-implicitDefEqProofs[]
theorem Bz(l:List Sm)(left:Nat)(hl:left<=1048576)(hb:l.length<=BL)(H:∀e∈l,∀left:Nat,left<=1048576->VF Tryz.prog G ij [.agg (e.cs.map .p),.p (.int .i64 left)] (.p (.int .i64 (bB left (e.sz-1))))):
 VF Tryz.prog G cz [.p (smL l),.p (.int .i64 left)] (.p (.int .i64 (bB left (aG l)))):=by
 refine AC.go za ?_
 have hpos:∀v∈l.map Sm.sz,1<=v:=λv hv=>by obtain⟨e,_,rfl⟩:=List.mem_map.1 hv;exact e.sz_pos
 have hz:=Ek l
 have hal:=λi (hi:l.length<=i)=>Aa hpos (i:=i) (by rw[List.length_map];exact hi)
 have hle:=Ct hpos
 have h00:de (l.map Sm.sz) 0=l.length:=by rw[tt,List.length_map]
 rw[←hz] at hal hle
 have hsl:∀l,smL l= .lst 5 (l.map Sm.cs):=λ_=>rfl
 have hw:IntKind.i64.wrap ((left:Int)-l.length)=(left:Int)-l.length:=af (by simp only[BL] at hb;omega) (by omega)
 by_cases h:l.length<=left
 case neg=>
  have h1:(left:Int)-l.length<0:=by omega
  have:=hle 0
  have h2:bB left (aG l)= -1:=if_neg (by omega)
  simp-implicitDefEqProofs[ku,hsl,hw,h1,h2]
 have h1:¬(left:Int)-l.length<0:=by omega
 simp-implicitDefEqProofs[ku,hsl,hw,h1]
 refine aF (λi:Nat=>ay 27 [(0,.p (smL l)),(1,.p (.int .i64 ((left-de (l.map Sm.sz) i:Nat):Int))),(5,.p (.int .i64 i))]) (λ_=>[]) (λi=>i<=l.length/\de (l.map Sm.sz) i<=left) (λi=>l.length-i) 0 ⟨by omega,by rw[h00];exact h⟩ ?_ ?_
 ·refine aN rfl ?_
  simp only[h00]
  simp[below,hsl]
  omega
 ·intro i ⟨hi,hx⟩
  simp-implicitDefEqProofs[hsl]
  refine aJ (λh1=>?_) (λh1=>?_)
  ·simp at h1
   have hg:=List.getElem?_eq_getElem h1
   have hsu:=tE (ss:=l.map Sm.sz) (i:=i) (v:=l[i].sz) (by rw[List.getElem?_map,hg];rfl)
   have hH:=H l[i] (List.getElem_mem h1) (left-de (l.map Sm.sz) i) (by omega)
   have hcs:l[i].cs.length=5:=by simp
   have hle1:=hle (i+1)
   generalize l[i]=e at hg hsu hH hcs
   simp-implicitDefEqProofs[hg,hcs]
   refine hH.use ?_
   by_cases h2:e.sz-1<=left-de (l.map Sm.sz) i
   ·have e2:bB (left-de (l.map Sm.sz) i) (e.sz-1)=((left-de (l.map Sm.sz) (i+1):Nat):Int):=by rw[bB,if_pos h2];omega
    have h3:¬((left-de (l.map Sm.sz) (i+1):Nat):Int)<0:=by omega
    rw[e2]
    simp-implicitDefEqProofs[h3]
    refine⟨i+1,⟨h1,by omega⟩,by omega,aN rfl (by simp[below,hsl,w1 (i:=i) (by simp only[BL] at hb;omega)])⟩
   ·have e2:bB (left-de (l.map Sm.sz) i) (e.sz-1)= -1:=if_neg h2
    have e3:bB left (aG l)= -1:=if_neg (by omega)
    rw[e2,e3]
    simp-implicitDefEqProofs[]
  ·simp at h1
   have hta:=hal i h1
   have h5:bB left (aG l)=((left-de (l.map Sm.sz) i:Nat):Int):=by rw[hta,bB,if_pos (by omega)]
   simp-implicitDefEqProofs[h5]
theorem tv(l:List Sm)(hb:l.length<=1048576)(H:∀e∈l,VF Tryz.prog G ik [.agg (e.cs.map .p)] (.agg (e.cs.map .p))):VF Tryz.prog G cy [.p (smL l)] (.p (smL l)):=by
 have hsl:∀l,smL l= .lst 5 (l.map Sm.cs):=λ_=>rfl
 have key:AC Tryz.prog G cy [.p (smL l)] [] λx h=>x= .ret (.sl 0 5 0 l.length)/\h=[.row 5 (l.map λe=>e.cs.map .p)]:=by
  refine AC.go vK ?_
  have hn:(l.map λe=>e.cs.map AV.p).length=l.length:=by simp
  simp-implicitDefEqProofs[nC,hsl]
  refine⟨by omega,?_⟩
  refine aF (λi:Nat=>ay 23 [(0,.p (smL l)),(3,.sl 0 5 0 l.length),(4,.p (.int .i64 i))]) (λi=>[.row 5 ((l.map λe=>e.cs.map AV.p).take i++List.replicate (l.length-i) [.p (.int .i64 0),.p (.str []),.nils,.nils,.nils])]) (λi=>i<=l.length) (λi=>l.length-i) 0 (by simp) ?_ ?_
  ·refine gr [0] rfl (by simp) (bS (by simp) (by simp[below]) dC) ?_
   simp[below,ren,hsl]
  ·intro i hi
   simp-implicitDefEqProofs[hsl]
   refine aJ (λh1=>?_) (λh1=>?_)
   ·simp at h1
    have hg:=List.getElem?_eq_getElem h1
    have hg2:=zs (z:=([.p (.int .i64 0),.p (.str []),.nils,.nils,.nils]:List AV)) hn h1
    have hset:=sE (z:=([.p (.int .i64 0),.p (.str []),.nils,.nils,.nils]:List AV)) (v:=l[i].cs.map AV.p) hn h1 (by rw[List.getElem?_map,hg];rfl)
    have hH:=H l[i] (List.getElem_mem h1)
    have hcs:=l[i].cs_eq
    have htl:(List.take i (l.map λ(e:Sm)=>e.cs.map AV.p)++List.replicate (l.length-i) ([.p (.int .i64 0),.p (.str []),.nils,.nils,.nils]:List AV)).length=l.length:=by simp;omega
    generalize l[i]=e at hg hset hH hcs
    generalize hRow:(List.take i (l.map λ(e:Sm)=>e.cs.map AV.p)++List.replicate (l.length-i) ([.p (.int .i64 0),.p (.str []),.nils,.nils,.nils]:List AV))=Rw at hg2 hset htl⊢
    rw[hcs] at hH hset
    simp-implicitDefEqProofs[hg,hcs]
    refine hH.use ?_
    simp-implicitDefEqProofs[hg2,h1,fR]
    simp only[List.map_cons,List.map_nil] at hset
    rw[hset]
    refine⟨i+1,h1,by omega,gr [0] rfl (by simp) (bS rfl ?_ dC) ?_⟩
    ·intro x hx
     rcases List.mem_append.1 hx with hx|hx
     ·obtain⟨y,_,rfl⟩:=List.mem_map.1 (List.mem_of_mem_take hx);simp
     ·rw[(List.mem_replicate.1 hx).2];simp[below]
    ·simp[below,ren,hsl,w1 (i:=i) (by omega)]
   ·simp at h1
    have hie:i=l.length:=by omega
    subst hie
    rw[Nat.sub_self,List.replicate_zero,List.append_nil,List.take_of_length_le (by rw[hn];exact Nat.le_refl _)]
    simp-implicitDefEqProofs[]
 refine AC.freeze key (.one ?_ .nil)
 have:=fk (h:=[.row 5 (l.map λe=>e.cs.map .p)]) (id:=0) (sz:=5) (n:=l.length) (ls:=l.map Sm.cs) (by simp) (by simp) (λx hx=>by obtain⟨b,_,rfl⟩:=List.mem_map.1 hx;simp)
 exact this
theorem tw(l:List Sm)(hb:l.length<=1048576)(H:∀e∈l,VF Tryz.prog G iv [.agg (e.cs.map .p),.agg (e.cs.map .p)] (.p (.bool true))):VF Tryz.prog G dd [.p (smL l),.p (smL l)] (.p (.bool true)):=by
 refine AC.go ze ?_
 have hsl:∀l,smL l= .lst 5 (l.map Sm.cs):=λ_=>rfl
 simp-implicitDefEqProofs[og,hsl]
 refine aF (λi:Nat=>ay 27 [(0,.p (smL l)),(1,.p (smL l)),(5,.p (.int .i64 i))]) (λ_=>[]) (λi=>i<=l.length) (λi=>l.length-i) 0 (by simp) ?_ ?_
 ·exact aN rfl (by simp[below,hsl])
 intro i hi
 simp-implicitDefEqProofs[hsl]
 refine aJ (λh1=>?_) (λh1=>?_)
 ·simp at h1
  have hg:=List.getElem?_eq_getElem h1
  have hH:=H l[i] (List.getElem_mem h1)
  have hcs:l[i].cs.length=5:=by simp
  generalize l[i]=e at hg hH hcs
  simp-implicitDefEqProofs[hg,hcs]
  refine hH.use ?_
  simp-implicitDefEqProofs[]
  exact⟨i+1,h1,by omega,aN rfl (by simp[below,hsl,w1 (i:=i) (by omega)])⟩
 ·simp at h1
  simp-implicitDefEqProofs[]
theorem MN(l:List Fd)(left:Nat)(hl:left<=1048576)(hb:l.length<=BL)(H:∀e∈l,∀left:Nat,left<=1048576->VF Tryz.prog G kZ [.agg (e.cs.map .p),.p (.int .i64 left)] (.p (.int .i64 (bB left (e.sz-1))))):
 VF Tryz.prog G mN [.p (fdL l),.p (.int .i64 left)] (.p (.int .i64 (bB left (bF l)))):=by
 refine AC.go Cv ?_
 have hpos:∀v∈l.map Fd.sz,1<=v:=λv hv=>by obtain⟨e,_,rfl⟩:=List.mem_map.1 hv;exact e.sz_pos
 have hz:=KY l
 have hal:=λi (hi:l.length<=i)=>Aa hpos (i:=i) (by rw[List.length_map];exact hi)
 have hle:=Ct hpos
 have h00:de (l.map Fd.sz) 0=l.length:=by rw[tt,List.length_map]
 rw[←hz] at hal hle
 have hsl:∀l,fdL l= .lst 3 (l.map Fd.cs):=λ_=>rfl
 have hw:IntKind.i64.wrap ((left:Int)-l.length)=(left:Int)-l.length:=af (by simp only[BL] at hb;omega) (by omega)
 by_cases h:l.length<=left
 case neg=>
  have h1:(left:Int)-l.length<0:=by omega
  have:=hle 0
  have h2:bB left (bF l)= -1:=if_neg (by omega)
  simp-implicitDefEqProofs[mR,hsl,hw,h1,h2]
 have h1:¬(left:Int)-l.length<0:=by omega
 simp-implicitDefEqProofs[mR,hsl,hw,h1]
 refine aF (λi:Nat=>ay 27 [(0,.p (fdL l)),(1,.p (.int .i64 ((left-de (l.map Fd.sz) i:Nat):Int))),(5,.p (.int .i64 i))]) (λ_=>[]) (λi=>i<=l.length/\de (l.map Fd.sz) i<=left) (λi=>l.length-i) 0 ⟨by omega,by rw[h00];exact h⟩ ?_ ?_
 ·refine aN rfl ?_
  simp only[h00]
  simp[below,hsl]
  omega
 ·intro i ⟨hi,hx⟩
  simp-implicitDefEqProofs[hsl]
  refine aJ (λh1=>?_) (λh1=>?_)
  ·simp at h1
   have hg:=List.getElem?_eq_getElem h1
   have hsu:=tE (ss:=l.map Fd.sz) (i:=i) (v:=l[i].sz) (by rw[List.getElem?_map,hg];rfl)
   have hH:=H l[i] (List.getElem_mem h1) (left-de (l.map Fd.sz) i) (by omega)
   have hcs:l[i].cs.length=3:=by simp
   have hle1:=hle (i+1)
   generalize l[i]=e at hg hsu hH hcs
   simp-implicitDefEqProofs[hg,hcs]
   refine hH.use ?_
   by_cases h2:e.sz-1<=left-de (l.map Fd.sz) i
   ·have e2:bB (left-de (l.map Fd.sz) i) (e.sz-1)=((left-de (l.map Fd.sz) (i+1):Nat):Int):=by rw[bB,if_pos h2];omega
    have h3:¬((left-de (l.map Fd.sz) (i+1):Nat):Int)<0:=by omega
    rw[e2]
    simp-implicitDefEqProofs[h3]
    refine⟨i+1,⟨h1,by omega⟩,by omega,aN rfl (by simp[below,hsl,w1 (i:=i) (by simp only[BL] at hb;omega)])⟩
   ·have e2:bB (left-de (l.map Fd.sz) i) (e.sz-1)= -1:=if_neg h2
    have e3:bB left (bF l)= -1:=if_neg (by omega)
    rw[e2,e3]
    simp-implicitDefEqProofs[]
  ·simp at h1
   have hta:=hal i h1
   have h5:bB left (bF l)=((left-de (l.map Fd.sz) i:Nat):Int):=by rw[hta,bB,if_pos (by omega)]
   simp-implicitDefEqProofs[h5]
theorem MO(l:List Fd)(hb:l.length<=1048576)(H:∀e∈l,VF Tryz.prog G kX [.agg (e.cs.map .p)] (.agg (e.cs.map .p))):VF Tryz.prog G jv [.p (fdL l)] (.p (fdL l)):=by
 have hsl:∀l,fdL l= .lst 3 (l.map Fd.cs):=λ_=>rfl
 have key:AC Tryz.prog G jv [.p (fdL l)] [] λx h=>x= .ret (.sl 0 3 0 l.length)/\h=[.row 3 (l.map λe=>e.cs.map .p)]:=by
  refine AC.go Ca ?_
  have hn:(l.map λe=>e.cs.map AV.p).length=l.length:=by simp
  simp-implicitDefEqProofs[sQ,hsl]
  refine⟨by omega,?_⟩
  refine aF (λi:Nat=>ay 23 [(0,.p (fdL l)),(3,.sl 0 3 0 l.length),(4,.p (.int .i64 i))]) (λi=>[.row 3 ((l.map λe=>e.cs.map AV.p).take i++List.replicate (l.length-i) [.p (.str []),.nils,.nils])]) (λi=>i<=l.length) (λi=>l.length-i) 0 (by simp) ?_ ?_
  ·refine gr [0] rfl (by simp) (bS (by simp) (by simp[below]) dC) ?_
   simp[below,ren,hsl]
  ·intro i hi
   simp-implicitDefEqProofs[hsl]
   refine aJ (λh1=>?_) (λh1=>?_)
   ·simp at h1
    have hg:=List.getElem?_eq_getElem h1
    have hg2:=zs (z:=([.p (.str []),.nils,.nils]:List AV)) hn h1
    have hset:=sE (z:=([.p (.str []),.nils,.nils]:List AV)) (v:=l[i].cs.map AV.p) hn h1 (by rw[List.getElem?_map,hg];rfl)
    have hH:=H l[i] (List.getElem_mem h1)
    have hcs:=l[i].cs_eq'
    have htl:(List.take i (l.map λ(e:Fd)=>e.cs.map AV.p)++List.replicate (l.length-i) ([.p (.str []),.nils,.nils]:List AV)).length=l.length:=by simp;omega
    generalize l[i]=e at hg hset hH hcs
    generalize hRow:(List.take i (l.map λ(e:Fd)=>e.cs.map AV.p)++List.replicate (l.length-i) ([.p (.str []),.nils,.nils]:List AV))=Rw at hg2 hset htl⊢
    rw[hcs] at hH hset
    simp-implicitDefEqProofs[hg,hcs]
    refine hH.use ?_
    simp-implicitDefEqProofs[hg2,h1,fR]
    simp only[List.map_cons,List.map_nil] at hset
    rw[hset]
    refine⟨i+1,h1,by omega,gr [0] rfl (by simp) (bS rfl ?_ dC) ?_⟩
    ·intro x hx
     rcases List.mem_append.1 hx with hx|hx
     ·obtain⟨y,_,rfl⟩:=List.mem_map.1 (List.mem_of_mem_take hx);simp
     ·rw[(List.mem_replicate.1 hx).2];simp[below]
    ·simp[below,ren,hsl,w1 (i:=i) (by omega)]
   ·simp at h1
    have hie:i=l.length:=by omega
    subst hie
    rw[Nat.sub_self,List.replicate_zero,List.append_nil,List.take_of_length_le (by rw[hn];exact Nat.le_refl _)]
    simp-implicitDefEqProofs[]
 refine AC.freeze key (.one ?_ .nil)
 have:=fk (h:=[.row 3 (l.map λe=>e.cs.map .p)]) (id:=0) (sz:=3) (n:=l.length) (ls:=l.map Fd.cs) (by simp) (by simp) (λx hx=>by obtain⟨b,_,rfl⟩:=List.mem_map.1 hx;simp)
 exact this
theorem MQ(l:List Fd)(hb:l.length<=1048576)(H:∀e∈l,VF Tryz.prog G kJ [.agg (e.cs.map .p),.agg (e.cs.map .p)] (.p (.bool true))):VF Tryz.prog G mL [.p (fdL l),.p (fdL l)] (.p (.bool true)):=by
 refine AC.go Ce ?_
 have hsl:∀l,fdL l= .lst 3 (l.map Fd.cs):=λ_=>rfl
 simp-implicitDefEqProofs[sD,hsl]
 refine aF (λi:Nat=>ay 27 [(0,.p (fdL l)),(1,.p (fdL l)),(5,.p (.int .i64 i))]) (λ_=>[]) (λi=>i<=l.length) (λi=>l.length-i) 0 (by simp) ?_ ?_
 ·exact aN rfl (by simp[below,hsl])
 intro i hi
 simp-implicitDefEqProofs[hsl]
 refine aJ (λh1=>?_) (λh1=>?_)
 ·simp at h1
  have hg:=List.getElem?_eq_getElem h1
  have hH:=H l[i] (List.getElem_mem h1)
  have hcs:l[i].cs.length=3:=by simp
  generalize l[i]=e at hg hH hcs
  simp-implicitDefEqProofs[hg,hcs]
  refine hH.use ?_
  simp-implicitDefEqProofs[]
  exact⟨i+1,h1,by omega,aN rfl (by simp[below,hsl,w1 (i:=i) (by omega)])⟩
 ·simp at h1
  simp-implicitDefEqProofs[]
end
section
variable (G:aH)
theorem bq{left z:Nat}(h:¬z<=left):bB left z= -1:=if_neg h
theorem cX{left z:Nat}(h:z<=left):bB left z=((left-z:Nat):Int):=if_pos h
theorem IS:∀(N:Nat) (e:Ex),e.sz<=N->e.fit->∀left:Nat,left<=1048576->VF Tryz.prog G ig [.agg (e.cs.map .p),.p (.int .i64 left)] (.p (.int .i64 (bB left (e.sz-1)))):=by
 intro N
 induction N with
 |zero=>intro e he;have:=e.sz_pos;omega
 |succ N ih=>
  intro e he hf left hl
  have hec:=e.cs_eq
  have hsz:=e.sz_eq
  rw[e.fit_eq] at hf
  obtain⟨f1,f2,f3⟩:=hf
  refine AC.go AJ ?_
  have hw:IntKind.i64.wrap ((left:Int)-e.name.length)=(left:Int)-e.name.length:=af (by simp only[BL] at f1;omega) (by omega)
  by_cases h1:e.name.length<=left
  case neg=>
   have h2:(left:Int)-e.name.length<0:=by omega
   rw[bq (by omega)]
   simp-implicitDefEqProofs[lB,hec,hw,h2]
  have h2:¬(left:Int)-e.name.length<0:=by omega
  have e2:(left:Int)-e.name.length=((left-e.name.length:Nat):Int):=by omega
  have hS:=Bt G e.kids (left-e.name.length) (by omega) f2 (λx hx l hl=>ih x (by have:=bw hx;omega) (rI f3 hx) l hl)
  rw[e2] at h2
  replace hw:=hw.trans e2
  simp-implicitDefEqProofs[lB,hec,hw,h2]
  refine hS.use ?_
  by_cases h3:aL e.kids<=left-e.name.length
  ·have n3:¬((left-e.name.length-aL e.kids:Nat):Int)<0:=by omega
   rw[cX h3,cX (by omega)]
   simp-implicitDefEqProofs[n3]
   omega
  ·rw[bq h3,bq (by omega)]
   simp-implicitDefEqProofs[]
theorem Iy(l:List Ex)(hf:mC l)(hb:l.length<=BL)(left:Nat)(hl:left<=1048576):VF Tryz.prog G dU [.p (exL l),.p (.int .i64 left)] (.p (.int .i64 (bB left (aL l)))):=
 Bt G l left hl hb (λe he l hl=>IS G e.sz e (Nat.le_refl _) (rI hf he) l hl)
theorem IQ:∀(N:Nat) (s:Sm),s.sz<=N->s.fit->∀left:Nat,left<=1048576->VF Tryz.prog G ij [.agg (s.cs.map .p),.p (.int .i64 left)] (.p (.int .i64 (bB left (s.sz-1)))):=by
 intro N
 induction N with
 |zero=>intro e he;have:=e.sz_pos;omega
 |succ N ih=>
  intro e he hf left hl
  have hec:=e.cs_eq
  have hsz:=e.sz_eq
  rw[e.fit_eq] at hf
  obtain⟨f1,⟨f2,f3⟩,⟨f4,f5⟩,f6,f7⟩:=hf
  have sub:∀l:List Sm,aG l<=N->jK l->l.length<=BL->∀left:Nat,left<=1048576->VF Tryz.prog G cz [.p (smL l),.p (.int .i64 left)] (.p (.int .i64 (bB left (aG l)))):=λl hz hf hb left hl=>
   Bz G l left hl hb (λx hx l hl=>ih x (by have:=bA hx;omega) (rA hf hx) l hl)
  refine AC.go AE ?_
  have hw:IntKind.i64.wrap ((left:Int)-e.name.length)=(left:Int)-e.name.length:=af (by simp only[BL] at f1;omega) (by omega)
  by_cases h1:e.name.length<=left
  case neg=>
   have h2:(left:Int)-e.name.length<0:=by omega
   rw[bq (by omega)]
   simp-implicitDefEqProofs[lu,hec,hw,h2]
  have h2:¬(left:Int)-e.name.length<0:=by omega
  have e2:(left:Int)-e.name.length=((left-e.name.length:Nat):Int):=by omega
  rw[e2] at h2
  replace hw:=hw.trans e2
  simp-implicitDefEqProofs[lu,hec,hw,h2]
  refine(Iy G e.args f3 f2 (left-e.name.length) (by omega)).use ?_
  by_cases h3:aL e.args<=left-e.name.length
  case neg=>
   rw[bq h3,bq (by omega)]
   simp-implicitDefEqProofs[]
  have n3:¬((left-e.name.length-aL e.args:Nat):Int)<0:=by omega
  rw[cX h3]
  simp-implicitDefEqProofs[n3]
  refine(sub e.body (by omega) f5 f4 (left-e.name.length-aL e.args) (by omega)).use ?_
  by_cases h4:aG e.body<=left-e.name.length-aL e.args
  case neg=>
   rw[bq h4,bq (by omega)]
   simp-implicitDefEqProofs[]
  have n4:¬((left-e.name.length-aL e.args-aG e.body:Nat):Int)<0:=by omega
  rw[cX h4]
  simp-implicitDefEqProofs[n4]
  refine(sub e.els (by omega) f7 f6 (left-e.name.length-aL e.args-aG e.body) (by omega)).use ?_
  by_cases h5:aG e.els<=left-e.name.length-aL e.args-aG e.body
  case neg=>
   rw[bq h5,bq (by omega)]
   simp-implicitDefEqProofs[]
  have n5:¬((left-e.name.length-aL e.args-aG e.body-aG e.els:Nat):Int)<0:=by omega
  rw[cX h5,cX (by omega)]
  simp-implicitDefEqProofs[n5]
  omega
theorem Hx(l:List Sm)(hf:jK l)(hb:l.length<=BL)(left:Nat)(hl:left<=1048576):VF Tryz.prog G cz [.p (smL l),.p (.int .i64 left)] (.p (.int .i64 (bB left (aG l)))):=
 Bz G l left hl hb (λe he l hl=>IQ G e.sz e (Nat.le_refl _) (rA hf he) l hl)
def no(xs:List (List UInt8))(i:Nat):Nat:=((xs.take i).map List.length).sum
theorem Hz{xs:List (List UInt8)}{i:Nat}(h:i<xs.length):no xs (i+1)=no xs i+xs[i].length:=by
 show((xs.take (i+1)).map List.length).sum=((xs.take i).map List.length).sum+xs[i].length
 rw[an h,List.map_append,List.sum_append]
 rfl
theorem JV{xs:List (List UInt8)}{i:Nat}(h:xs.length<=i):no xs i=(xs.map List.length).sum:=by rw[no,List.take_of_length_le h]
theorem Nf{xs:List (List UInt8)}{i:Nat}:no xs i<=(xs.map List.length).sum:=by
 conv=>rhs;rw[←List.take_append_drop i xs,List.map_append,List.sum_append]
 simp[no]
def szW(xs:List (List UInt8)):Nat:=xs.length+(xs.map List.length).sum
theorem Er(xs:List (List UInt8))(left:Nat)(hl:left<=1048576)(hb:xs.length<=9223372036854775807)(hs:∀x∈xs,x.length<=9223372036854775807):VF Tryz.prog G gN [.p (aP xs),.p (.int .i64 left)] (.p (.int .i64 (if szW xs<=left then((left-szW xs:Nat):Int) else-1))):=by
 refine AC.go tj ?_
 have hw:IntKind.i64.wrap ((left:Int)-xs.length)=(left:Int)-xs.length:=af (by omega) (by omega)
 have hsz:szW xs=xs.length+(xs.map List.length).sum:=rfl
 by_cases h:xs.length<=left
 case neg=>
  have h1:(left:Int)-xs.length<0:=by omega
  have h2:¬szW xs<=left:=by omega
  simp-implicitDefEqProofs[gY,aP,hw,h1,h2]
 have h1:¬(left:Int)-xs.length<0:=by omega
 simp-implicitDefEqProofs[gY,aP,hw,h1]
 refine aF (λi:Nat=>ay 28 [(0,.p (aP xs)),(1,.p (.int .i64 ((left-xs.length-no xs i:Nat):Int))),(5,.p (.int .i64 i))]) (λ_=>[]) (λi=>i<=xs.length/\xs.length+no xs i<=left) (λi=>xs.length-i) 0 (by simp[no];omega) ?_ ?_
 ·refine aN rfl ?_
  simp[below,aP,no]
  omega
 ·intro i ⟨hi,hx⟩
  simp-implicitDefEqProofs[aP]
  refine aJ (λh1=>?_) (λh1=>?_)
  ·simp at h1
   have hg:=List.getElem?_eq_getElem h1
   have hle:=hs _ (List.getElem_mem h1)
   have hsu:=Hz h1
   have hsl:=Nf (xs:=xs) (i:=i+1)
   have hw2:IntKind.i64.wrap (((left-xs.length-no xs i:Nat):Int)-(xs[i].length:Int))=((left-xs.length-no xs i:Nat):Int)-(xs[i].length:Int):=af (by omega) (by omega)
   by_cases h2:xs.length+no xs (i+1)<=left
   ·have h3:¬((left-xs.length-no xs i:Nat):Int)-(xs[i].length:Int)<0:=by omega
    have h4:((left-xs.length-no xs i:Nat):Int)-(xs[i].length:Int)=((left-xs.length-no xs (i+1):Nat):Int):=by omega
    rw[h4] at h3
    replace hw2:=hw2.trans h4
    clear hle hsu hsl
    simp-implicitDefEqProofs[hg,hw2,h3]
    refine⟨i+1,⟨h1,h2⟩,by omega,aN rfl (by simp[below,aP,w1 (i:=i) (by omega)])⟩
   ·have h3:((left-xs.length-no xs i:Nat):Int)-(xs[i].length:Int)<0:=by omega
    have h5:¬szW xs<=left:=by omega
    clear hle hsu hsl
    simp-implicitDefEqProofs[hg,hw2,h3,h5]
  ·simp at h1
   have hta:=JV (xs:=xs) h1
   have h5:szW xs<=left:=by omega
   have h6:((left-xs.length-no xs i:Nat):Int)=((left-szW xs:Nat):Int):=by omega
   simp-implicitDefEqProofs[h5,h6]
theorem Oo(f:Fd)(hf:f.fit)(left:Nat)(hl:left<=1048576):VF Tryz.prog G kZ [.agg (f.cs.map .p),.p (.int .i64 left)] (.p (.int .i64 (bB left (f.sz-1)))):=by
 obtain⟨f1,⟨f2,f3⟩,f4,f5⟩:=hf
 have hec:=f.cs_eq'
 have hsz:f.sz=1+f.name.length+szW f.params+aG f.body:=rfl
 refine AC.go EC ?_
 have hw:IntKind.i64.wrap ((left:Int)-f.name.length)=(left:Int)-f.name.length:=af (by simp only[BL] at f1;omega) (by omega)
 by_cases h1:f.name.length<=left
 case neg=>
  have h2:(left:Int)-f.name.length<0:=by omega
  rw[bq (by omega)]
  simp-implicitDefEqProofs[oJ,hec,hw,h2]
 have h2:¬(left:Int)-f.name.length<0:=by omega
 have e2:(left:Int)-f.name.length=((left-f.name.length:Nat):Int):=by omega
 rw[e2] at h2
 replace hw:=hw.trans e2
 simp-implicitDefEqProofs[oJ,hec,hw,h2]
 refine(Er G f.params (left-f.name.length) (by omega) f2 f3).use ?_
 by_cases h3:szW f.params<=left-f.name.length
 case neg=>
  rw[if_neg h3,bq (by omega)]
  simp-implicitDefEqProofs[]
 have n3:¬((left-f.name.length-szW f.params:Nat):Int)<0:=by omega
 rw[if_pos h3]
 simp-implicitDefEqProofs[n3]
 refine(Hx G f.body f5 f4 (left-f.name.length-szW f.params) (by omega)).use ?_
 by_cases h4:aG f.body<=left-f.name.length-szW f.params
 case neg=>
  rw[bq h4,bq (by omega)]
  simp-implicitDefEqProofs[]
 have n4:¬((left-f.name.length-szW f.params-aG f.body:Nat):Int)<0:=by omega
 rw[cX h4,cX (by omega)]
 simp-implicitDefEqProofs[n4]
 omega
def LW(l:List Fd):Prop:=l.length<=BL/\∀f∈l,f.fit
theorem uq(l:List Fd)(hf:LW l)(left:Nat)(hl:left<=1048576):VF Tryz.prog G ck [.agg [.p (fdL l)],.p (.int .i64 left)] (.p (.int .i64 (bB left (bF l)))):=by
 have hS:=MN G l left hl hf.1 (λf hm left hl=>Oo G f (hf.2 f hm) left hl)
 refine AC.go tW ?_
 simp-implicitDefEqProofs[mj]
 refine hS.use ?_
 by_cases h:bF l<=left
 ·have n:¬((left-bF l:Nat):Int)<0:=by omega
  rw[cX h]
  simp-implicitDefEqProofs[n]
 ·rw[bq h]
  simp-implicitDefEqProofs[]
theorem Kg:∀(N:Nat) (e:Ex),e.sz<=N->e.sz<=1048576->VF Tryz.prog G io [.agg (e.cs.map .p)] (.agg (e.cs.map .p)):=by
 intro N
 induction N with
 |zero=>intro e he;have:=e.sz_pos;omega
 |succ N ih=>
  intro e he hb
  have hec:=e.cs_eq
  have hsz:=e.sz_eq
  have hkl:=bh e.kids
  have hS:=BD G e.kids (by omega) (λx hx=>ih x (by have:=bw hx;omega) (by have:=bw hx;omega))
  refine AC.go At ?_
  simp-implicitDefEqProofs[pI,hec]
  refine hS.use ?_
  simp-implicitDefEqProofs[]
theorem HE(l:List Ex)(hb:aL l<=1048576):VF Tryz.prog G da [.p (exL l)] (.p (exL l)):=
 BD G l (by have:=bh l;omega) (λe he=>Kg G e.sz e (Nat.le_refl _) (by have:=bw he;omega))
theorem KF:∀(N:Nat) (e:Sm),e.sz<=N->e.sz<=1048576->VF Tryz.prog G ik [.agg (e.cs.map .p)] (.agg (e.cs.map .p)):=by
 intro N
 induction N with
 |zero=>intro e he;have:=e.sz_pos;omega
 |succ N ih=>
  intro e he hb
  have hec:=e.cs_eq
  have hsz:=e.sz_eq
  have h1:=bn e.body
  have h2:=bn e.els
  have hB:=tv G e.body (by omega) (λx hx=>ih x (by have:=bA hx;omega) (by have:=bA hx;omega))
  have hE:=tv G e.els (by omega) (λx hx=>ih x (by have:=bA hx;omega) (by have:=bA hx;omega))
  refine AC.go Ah ?_
  simp-implicitDefEqProofs[pV,hec]
  refine(HE G e.args (by omega)).use ?_
  simp-implicitDefEqProofs[]
  refine hB.use ?_
  simp-implicitDefEqProofs[]
  refine hE.use ?_
  simp-implicitDefEqProofs[]
theorem Ie(l:List Sm)(hb:aG l<=1048576):VF Tryz.prog G cy [.p (smL l)] (.p (smL l)):=
 tv G l (by have:=bn l;omega) (λe he=>KF G e.sz e (Nat.le_refl _) (by have:=bA he;omega))
def lP(l:List (List UInt8))(i:Nat):List (List UInt8):=l.take i++List.replicate (l.length-i) []
theorem IF{l:List (List UInt8)}{i:Nat}(h:i<l.length):(lP l i).set i l[i]=lP l (i+1):=by
 have hl:(l.take i).length=i:=by simp;omega
 have e:l.length-i=(l.length-(i+1))+1:=by omega
 show(l.take i++List.replicate (l.length-i) []).set i l[i]=l.take (i+1)++List.replicate (l.length-(i+1)) []
 rw[List.set_append_right _ _ (by omega),hl,Nat.sub_self,e,List.replicate_succ,List.set_cons_zero,an h,List.append_assoc]
 rfl
theorem Hp{l:List (List UInt8)}{i:Nat}(h:i<l.length):(lP l i)[i]?=some []:=by
 have hl:(l.take i).length=i:=by simp;omega
 rw[lP,List.getElem?_append_right (by omega),hl,Nat.sub_self,List.getElem?_replicate,if_pos (by omega)]
theorem HG{l:List (List UInt8)}{i:Nat}(h:i<=l.length):(lP l i).length=l.length:=by simp[lP];omega
theorem Eu(l:List (List UInt8))(hb:l.length<=1048576):AC Tryz.prog G ep [.p (aP l)] [] λx h=>x= .ret (.sl 0 1 0 l.length)/\h=[DD l]:=by
 refine AC.go tU ?_
 have hbl:aP l= .lst 1 (l.map λn=>[.str n]):=rfl
 simp-implicitDefEqProofs[lX,hbl]
 refine⟨by omega,?_⟩
 refine aF (λi:Nat=>ay 22 [(0,.p (aP l)),(3,.sl 0 1 0 l.length),(4,.p (.int .i64 i))]) (λi=>[DD (lP l i)]) (λi=>i<=l.length) (λi=>l.length-i) 0 (by simp) ?_ ?_
 ·refine gr [0] rfl (by simp) (bS (by simp[lP]) (by simp) dC) ?_
  simp[below,ren,aP]
 ·intro i hi
  have hlen:=HG hi
  simp-implicitDefEqProofs[hbl]
  refine aJ (λh1=>?_) (λh1=>?_)
  ·simp at h1
   have hg:=List.getElem?_eq_getElem h1
   have hg2:=Hp h1
   have hset:((lP l i).map λn=>[AV.p (.str n)]).set i [.p (.str l[i])]=(lP l (i+1)).map λn=>[AV.p (.str n)]:=by rw[←IF h1,List.map_set]
   have hbo:DD (lP l i)= .row 1 ((lP l i).map λn=>[.p (.str n)]):=rfl
   clear hlen
   simp-implicitDefEqProofs[hg,hbo,hg2,h1,hset]
   refine⟨i+1,h1,by omega,gr [0] rfl (by simp) (bS rfl (by simp) dC) ?_⟩
   simp[below,ren,aP,w1 (i:=i) (by omega)]
  ·simp at h1
   have:i=l.length:=by omega
   subst this
   simp-implicitDefEqProofs[lP]
theorem CQ(l:List (List UInt8))(hb:l.length<=1048576):VF Tryz.prog G ep [.p (aP l)] (.p (aP l)):=AC.freeze (Eu G l hb) (.one (Bn rfl) .nil)
theorem On(f:Fd)(hb:f.sz<=1048576):VF Tryz.prog G kX [.agg (f.cs.map .p)] (.agg (f.cs.map .p)):=by
 have hec:=f.cs_eq'
 have hsz:f.sz=1+f.name.length+szW f.params+aG f.body:=rfl
 have hw:szW f.params=f.params.length+(f.params.map List.length).sum:=rfl
 refine AC.go CP ?_
 simp-implicitDefEqProofs[us,hec]
 refine(CQ G f.params (by omega)).use ?_
 simp-implicitDefEqProofs[]
 refine(Ie G f.body (by omega)).use ?_
 simp-implicitDefEqProofs[]
theorem ut(l:List Fd)(hb:bF l<=1048576):VF Tryz.prog G bp [.agg [.p (fdL l)]] (.agg [.p (fdL l)]):=by
 have hS:=MO G l (by have:=dS l;omega) (λf hm=>On G f (by have:=eZ hm;omega))
 refine AC.go tA ?_
 simp-implicitDefEqProofs[lW]
 refine hS.use ?_
 simp-implicitDefEqProofs[]
theorem IW:∀(N:Nat) (e:Ex),e.sz<=N->e.sz<=1048576->VF Tryz.prog G ir [.agg (e.cs.map .p),.agg (e.cs.map .p)] (.p (.bool true)):=by
 intro N
 induction N with
 |zero=>intro e he;have:=e.sz_pos;omega
 |succ N ih=>
  intro e he hb
  have hec:=e.cs_eq
  have hsz:=e.sz_eq
  have hkl:=bh e.kids
  have hS:=Be G e.kids (by omega) (λx hx=>ih x (by have:=bw hx;omega) (by have:=bw hx;omega))
  refine AC.go Au ?_
  simp-implicitDefEqProofs[pQ,hec]
  refine hS.use ?_
  simp-implicitDefEqProofs[]
theorem In(l:List Ex)(hb:aL l<=1048576):VF Tryz.prog G dN [.p (exL l),.p (exL l)] (.p (.bool true)):=
 Be G l (by have:=bh l;omega) (λe he=>IW G e.sz e (Nat.le_refl _) (by have:=bw he;omega))
theorem KC:∀(N:Nat) (e:Sm),e.sz<=N->e.sz<=1048576->VF Tryz.prog G iv [.agg (e.cs.map .p),.agg (e.cs.map .p)] (.p (.bool true)):=by
 intro N
 induction N with
 |zero=>intro e he;have:=e.sz_pos;omega
 |succ N ih=>
  intro e he hb
  have hec:=e.cs_eq
  have hsz:=e.sz_eq
  have h1:=bn e.body
  have h2:=bn e.els
  have hB:=tw G e.body (by omega) (λx hx=>ih x (by have:=bA hx;omega) (by have:=bA hx;omega))
  have hE:=tw G e.els (by omega) (λx hx=>ih x (by have:=bA hx;omega) (by have:=bA hx;omega))
  refine AC.go AL ?_
  simp-implicitDefEqProofs[pR,hec]
  refine(In G e.args (by omega)).use ?_
  simp-implicitDefEqProofs[]
  refine hB.use ?_
  simp-implicitDefEqProofs[]
  refine hE.use ?_
  simp-implicitDefEqProofs[]
theorem II(l:List Sm)(hb:aG l<=1048576):VF Tryz.prog G dd [.p (smL l),.p (smL l)] (.p (.bool true)):=
 tw G l (by have:=bn l;omega) (λe he=>KC G e.sz e (Nat.le_refl _) (by have:=bA he;omega))
theorem CZ(xs:List (List UInt8))(hb:xs.length<=1048576):VF Tryz.prog G gX [.p (aP xs),.p (aP xs)] (.p (.bool true)):=by
 refine AC.go tV ?_
 have hsl:aP xs= .lst 1 (xs.map λw=>[.str w]):=rfl
 simp-implicitDefEqProofs[mw,hsl]
 refine aF (λi:Nat=>ay 26 [(0,.p (aP xs)),(1,.p (aP xs)),(5,.p (.int .i64 i))]) (λ_=>[]) (λi=>i<=xs.length) (λi=>xs.length-i) 0 (by simp) (aN rfl (by simp[below,hsl])) ?_
 intro i hi
 simp-implicitDefEqProofs[hsl]
 refine aJ (λh1=>?_) (λh1=>?_)
 ·simp at h1
  have hx:=List.getElem?_eq_getElem h1
  generalize xs[i]=v at hx
  simp-implicitDefEqProofs[hx]
  exact⟨i+1,h1,by omega,aN rfl (by simp[below,hsl,w1 (i:=i) (by omega)])⟩
 ·simp at h1
  simp-implicitDefEqProofs[]
theorem OB(f:Fd)(hb:f.sz<=1048576):VF Tryz.prog G kJ [.agg (f.cs.map .p),.agg (f.cs.map .p)] (.p (.bool true)):=by
 have hec:=f.cs_eq'
 have hsz:f.sz=1+f.name.length+szW f.params+aG f.body:=rfl
 have hw:szW f.params=f.params.length+(f.params.map List.length).sum:=rfl
 refine AC.go CT ?_
 simp-implicitDefEqProofs[uI,hec]
 refine(CZ G f.params (by omega)).use ?_
 simp-implicitDefEqProofs[]
 refine(II G f.body (by omega)).use ?_
 simp-implicitDefEqProofs[]
theorem uG(l:List Fd)(hb:bF l<=1048576):VF Tryz.prog G eq [.agg [.p (fdL l)],.agg [.p (fdL l)]] (.p (.bool true)):=by
 have hS:=MQ G l (by have:=dS l;omega) (λf hm=>OB G f (by have:=eZ hm;omega))
 refine AC.go tQ ?_
 simp-implicitDefEqProofs[lN]
 refine hS.use ?_
 simp-implicitDefEqProofs[]
end
section
def HA(f:Fd):Nat:=f.params.length+aO f.body
def uH(st:Int)(x:Sm × Nat):Int:=if x.1.op=1 then IntKind.i64.wrap (st+1) else st
mutual
theorem MU:∀(s:Sm) (d:Nat) (st:Int),0<=st->st+tY s<=1099511627776->(s.pre d).foldl uH st=st+tY s
 | .mk o n a bd el,d,st,h0,h=>by
   rw[tY] at h
   have h1:=vr bd (d+1)
   have h2:=vr el (d+1)
   rw[Sm.pre,List.foldl_cons,List.foldl_append,tY]
   by_cases ho:o=1
   ·have e:uH st (⟨o,n,a,bd,el⟩,d)=st+1:=by show(if o=1 then _ else _)=_;rw[if_pos ho,af (by omega) (by rw[if_pos ho] at h;omega)]
    rw[if_pos ho] at h⊢
    rw[e,h1 _ (by omega) (by omega),h2 _ (by omega) (by omega)]
    omega
   ·have e:uH st (⟨o,n,a,bd,el⟩,d)=st:=by show(if o=1 then _ else _)=_;rw[if_neg ho]
    rw[if_neg ho] at h⊢
    rw[e,h1 _ (by omega) (by omega),h2 _ (by omega) (by omega)]
    omega
theorem vr:∀(l:List Sm) (d:Nat) (st:Int),0<=st->st+aO l<=1099511627776->(bu d l).foldl uH st=st+aO l
 |[],d,st,_,_=>by simp[bu,aO]
 |s::r,d,st,h0,h=>by
  rw[aO] at h
  rw[bu,List.foldl_append,MU s d st h0 (by omega),vr r d _ (by omega) (by omega),aO]
  omega
end
def Gb(f:Fd):Vis Int where
 I:=λst=>[.row 3 [[.p (.str f.name),.p (aP f.params),.p (smL f.body)]],.row 1 [[.p (.int .i64 st)]]]
 n:=2
 F:=dE
 caps:=[.ptr 1 1 0 0]
 len:=λ_=>rfl
 ok:=λst=>by simp[okO,below]
 capsOk:=by simp[below]
variable (G:aH)
theorem Ck(f:Fd)(st:Int)(s:Sm)(d:Nat):AC Tryz.prog G dE [.agg (s.cs.map .p),.p (.int .i64 d),.ptr 1 1 0 0] ((Gb f).I st) λx h=>x= .ret (.tup [])/\h=(Gb f).I (uH st (s,d)):=by
 refine(Gb f).trim G (AC.go sj ?_) (by simp[below])
 have hse:=s.cs_eq
 by_cases ho:s.op=1
 ·simp-implicitDefEqProofs[fU,hse,Gb,uH,ho]
 ·simp-implicitDefEqProofs[fU,hse,Gb,uH,ho]
theorem FS(f:Fd)(hb:f.sz<=1073741824):VF Tryz.prog G je [.agg (f.cs.map .p)] (.p (.int .i64 (HA f))):=by
 have hcs:=f.cs_eq'
 have hfz:f.sz=1+f.name.length+(f.params.length+(f.params.map List.length).sum)+aG f.body:=rfl
 have hl:=fV f.body
 have hl2:=ga f.body
 have hst:aP f.params= .lst 1 (f.params.map λw=>[.str w]):=rfl
 have hI:=(GV G (Gb f) uH (λ_=>True) 1073741824 (by omega) (λst s d _ _=>⟨trivial,Ck G f st s d⟩) (aG f.body+1) f.body (by omega) (by omega) 1 (by omega) (f.params.length:Int) trivial).2
 rw[vr f.body 1 f.params.length (by omega) (by omega)] at hI
 refine AC.go ve ?_
 simp-implicitDefEqProofs[mX,hcs,hst]
 refine hI.mono ?_
 rintro r h ⟨rfl,rfl⟩
 simp-implicitDefEqProofs[aa,Gb,HA]
theorem JR(l:List Fd)(hz:bF l<=1073741824):VF Tryz.prog G ll [.agg [.p (fdL l)]] (.p (.bool (decide (cB l=0)))):=by
 refine AC.go Aq ?_
 simp-implicitDefEqProofs[ra]
 refine(yS G l hz).use ?_
 simp-implicitDefEqProofs[]
variable (hK:G gR=some gf) (hS:G dw=some [.tbl opK opV])
include hK hS
theorem OH(l:List Fd)(hz:bF l<=1073741824):VF Tryz.prog G nE [.agg [.p (fdL l)]] (.p (.bool (decide (cB l=0)))):=by
 refine AC.go CX ?_
 simp-implicitDefEqProofs[ul]
 refine(zj G hK hS l hz).use ?_
 simp-implicitDefEqProofs[]
end
section
theorem GT:∀(a b:List (List UInt8)) (m:Scp) (i:Nat),psS (a++b) m i=psS b (psS a m i) (i+a.length)
 |[],b,m,i=>by simp[psS]
 |p::r,b,m,i=>by rw[List.cons_append,psS,psS,GT r];simp;congr 1;omega
theorem CG{l:List (List UInt8)}{i:Nat}(h:i<l.length)(m:Scp):psS (l.take (i+1)) m 0=dV (psS (l.take i) m 0) l[i] i:=by
 rw[an h,GT,psS,psS,List.length_take,Nat.min_eq_left (by omega),Nat.zero_add]
variable (G:aH)
theorem Lr{l:List Fd}{pr:Int}{L n:Nat}{h:List AO}(hg:h[L]?=some (.row 5 [[.p (fdL l),.p (.int .i64 pr),.p (.int .i64 n),.nils,.p (.int .i64 0)]])):
 AC Tryz.prog G aQ [.ptr L 5 0 0,.p (.int .i64 1)] h λr h'=>r= .ret (.p (.int .i64 0))/\h'=(h++[AO.row 5 [[.nils,.nils,.p (.int .i64 0),.p (.int .i64 0),.nils]]]).set L (lwO l pr ⟨n,[bk0],0⟩ (.sl h.length 5 0 1)):=by
 have hLl:=(List.getElem?_eq_some_iff.1 hg).1
 have hgt:∀t,(h++t)[L]?=some (.row 5 [[.p (fdL l),.p (.int .i64 pr),.p (.int .i64 n),.nils,.p (.int .i64 0)]]):=λt=>by rw[List.getElem?_append_left hLl];exact hg
 refine AC.go iR ?_
 simp-implicitDefEqProofs[dW,hg,hgt,lwO]
theorem Ib(l:List Fd)(hl:l.length<=1073741824)(f:Fd)(hz:f.sz<=16777216)(hf:∀x∈f.body,aE 4 x=true):AC Tryz.prog G gm [.agg [.p (fdL l)],.agg (f.cs.map .p)] [] (MkW .agg false (lwF l 0 f).cs):=by
 have hfc:=f.cs_eq'
 have hfz:f.sz=1+f.name.length+(f.params.length+(f.params.map List.length).sum)+aG f.body:=rfl
 have hst:aP f.params= .lst 1 (f.params.map λw=>[.str w]):=rfl
 have hvn:HA f=f.params.length+aO f.body:=rfl
 have hlet:=Nat.le_trans (fV f.body) (ga f.body)
 have hvI:(HA f:Int)=((f.params.length+aO f.body:Nat):Int):=rfl
 refine AC.go zO ?_
 simp-implicitDefEqProofs[nP,hfc,hst]
 have hvc:=FS G f (by omega)
 rw[hfc,hst] at hvc
 refine hvc.use ?_
 simp-implicitDefEqProofs[]
 refine(mV G .nilp (.inl rfl) _).mono ?_
 rintro r h ⟨rfl,rfl⟩
 simp-implicitDefEqProofs[aa]
 refine aF (λi:Nat=>ay 65 [(3,.ptr 1 3 0 0),(4,.ptr 2 3 0 0),(5,.ptr 3 5 0 0),(6,.ptr 5 2 0 0),(27,.p (aP f.params)),(28,.p (.int .i64 f.params.length)),(29,.p (.int .i64 i))])
  (λi=>[.row 1 [[.p (fdL l)]],.row 3 [[.p (.str f.name),.p (aP f.params),.p (smL f.body)]],.row 3 [[.p (.int .i64 0),.p (.int .i64 0),.nils]],.row 5 [[.p (fdL l),.p (.int .i64 f.params.length),.p (.int .i64 (HA f)),.nils,.p (.int .i64 0)]],.mp (mpE (psS (f.params.take i) [] 0)),.row 2 [[.mp 4,.nilp]]]) (λi=>i<=f.params.length) (λi=>f.params.length-i) 0 (by simp) ?_ ?_
 ·have e0:mpE (psS (f.params.take 0) [] 0)=[]:=rfl
  rw[e0,hst]
  exact aw (by simp) (by simp[below])
 intro i hi
 simp-implicitDefEqProofs[hst]
 refine aJ (λhc=>?_) (λhc=>?_)
 ·simp at hc
  have hg:=List.getElem?_eq_getElem hc
  have hps:=CG hc []
  have hms:=oB f.params[i] i (psS (f.params.take i) [] 0)
  simp-implicitDefEqProofs[hg,hms]
  refine⟨i+1,by omega,by omega,?_⟩
  rw[hps]
  exact aw (by simp) (by simp[below,hst,w1 (i:=i) (by omega)])
 ·simp at hc
  have hie:i=f.params.length:=by omega
  subst hie
  rw[List.take_length]
  obtain⟨m,hm⟩:∃m,m=psS f.params [] 0:=⟨_,rfl⟩
  rw[←hm]
  simp-implicitDefEqProofs[]
  have hn0:=Lr G (l:=l) (pr:=f.params.length) (L:=3) (n:=f.params.length+aO f.body) (h:=[.row 1 [[.p (fdL l)]],.row 3 [[.p (.str f.name),.p (aP f.params),.p (smL f.body)]],.row 3 [[.p (.int .i64 0),.p (.int .i64 0),.nils]],.row 5 [[.p (fdL l),.p (.int .i64 f.params.length),.p (.int .i64 (HA f)),.nils,.p (.int .i64 0)]],.mp (mpE m),.row 2 [[.mp 4,.nilp]]]) rfl
  rw[hst] at hn0
  refine hn0.mono ?_
  rintro x X1 ⟨rfl,rfl⟩
  obtain⟨w0,hw0⟩:∃w0:Lw,w0=⟨f.params.length+aO f.body,[bk0],0⟩:=⟨_,rfl⟩
  rw[←hw0]
  simp-implicitDefEqProofs[aa,lwO]
  obtain⟨H0,hH0⟩:∃H0,H0=[AO.row 1 [[.p (fdL l)]],.row 3 [[.p (.str f.name),.p (.lst 1 (f.params.map λw=>[.str w])),.p (smL f.body)]],.row 3 [[.p (.int .i64 0),.p (.int .i64 0),.nils]],.row 5 [[.p (fdL l),.p (.int .i64 f.params.length),.p (.int .i64 w0.regs),.sl 6 5 0 1,.p (.int .i64 w0.pos)]],.mp (mpE m),.row 2 [[.mp 4,.nilp]],.row 5 [[.nils,.nils,.p (.int .i64 0),.p (.int .i64 0),.nils]],.row 1 [[.p (.int .i64 f.params.length)]]]:=⟨_,rfl⟩
  rw[←hH0]
  have hls:LS (lwO l f.params.length) 3 w0 H0 (.sl 6 5 0 1) [6]:=by
   have hr:RowOwn false H0 6 5 [[.nils,.nils,.p (.int .i64 0),.p (.int .i64 0),.nils]] [bk0.cs] []:=⟨by rw[hH0];rfl,rfl,by simp,by simp[Bk.cs],.nils 2 (.nils 4 (.p _ (λ_=>rfl) (.p _ (λ_=>rfl) (.nils 1 .nil)))),by simp⟩
   refine⟨by rw[hH0];rfl,?_,by simp,λq e=>(by cases e),λkid n rows eK hg r hr'=>?_⟩
   ·rw[hw0];exact hr.tree rfl
   ·cases eK
    rw[hr.here] at hg
    cases hg
    rw[List.mem_singleton.1 hr']
    intro q;simp
  have hok:w0.Ok (f.sz+1):=by
   rw[hw0]
   exact⟨by show f.params.length+aO f.body<=_;omega,by show 1<=_;omega,λb hb=>by rw[List.mem_singleton.1 hb];show 0<=_;omega,by show 0<1;omega⟩
  have hblk:=KL G l hl f.params.length 3 4 f.body hf w0 H0 (.sl 6 5 0 1) [6] (f.sz+1) [] 5 4 m [] 7 f.params.length hls hok (by omega) (by omega) (.cons _ _ _ _ _ _ (by rw[hH0];rfl) (by rw[hH0];rfl) .nil) (by simp) (by rw[hH0];rfl) (by simp) (by simp)
  have okb:=cV (faI l) 0 f.body m [] f.params.length w0 _ hok
  obtain⟨y,hy⟩:∃y,y=aM (faI l) 0 f.body m [] f.params.length w0:=⟨_,rfl⟩
  rw[←hy] at hblk okb
  refine hblk.mono ?_
  rintro x X2 ⟨rfl,K2,I2,a1,a2,a3,_,_⟩
  have hH8:H0.length=8:=by rw[hH0];rfl
  have T2:Stb (lwO l f.params.length) 3 [3,7,4,6] [6] [2] H0 y.2.2 X2 K2 I2:=⟨a1,a2,by simp,by simp,a3,λi hi=>by
   rw[List.mem_singleton.1 hi]
   have h1:=a2.1
   refine⟨by omega,?_⟩
   simp only[List.mem_cons,not_or]
   refine⟨by omega,λhm=>?_⟩
   rcases a3 2 hm with h|h
   ·simp at h
   ·omega⟩
  have b2:X2[2]?=some (.row 3 [[.p (.int .i64 0),.p (.int .i64 0),.nils]]):=by rw[a2.2 2 (by omega) (by simp),hH0];rfl
  have l2:=T2.ls.here
  simp only[lwO] at l2
  simp-implicitDefEqProofs[aa,l2]
  refine(sX G T2.ls okb.1 (by omega) 1 0 [] (A:= .nils) (J:=[]) (.nils 1 .nil) List.nodup_nil (λj hj=>by cases hj)).mono ?_
  rintro x X3 ⟨rfl,hlr⟩
  obtain⟨K3,I3,T3,e3⟩:=T2.step (J:=[]) (λj hj=>by cases hj) hlr
  have ok3:=okb.1.mk' 1 0 []
  have b3:=(e3 2 (by simp)).trans b2
  have l3:=T3.ls.here
  simp only[lwO] at l3
  have hp3:(y.2.2.mk' 1 0 []).pos=y.2.2.pos:=rfl
  simp-implicitDefEqProofs[aa,l3,hp3]
  refine(lv G T3.ls ok3 3 y.2.2.regs y.2.2.pos [] (V:= .nils) (J:=[]) (.nils 1 .nil) List.nodup_nil (λj hj=>by cases hj)).mono ?_
  rintro x X4 ⟨rfl,hlr⟩
  obtain⟨K4,I4,T4,e4⟩:=T3.step (J:=[]) (λj hj=>by cases hj) hlr
  have b4:=(e4 2 (by simp)).trans b3
  have l4:=T4.ls.here
  simp only[lwO] at l4
  obtain⟨k1,k2⟩:=fy T4.ls.own
  have hs2:∀o,(X4.set 2 o)[2]?=some o:=λo=>List.getElem?_set_self (T4.ap 2 (by simp)).1
  simp-implicitDefEqProofs[-AV.cells,-AV.isCell,aC,ae,ag,aq,ah,aB,ab,au,aj,k1,k2,aa,l4,b4, ↓hs2]
  have hres:lwF l 0 f=⟨f.params.length,(y.2.2.mk' 1 0 []).regs,((y.2.2.mk' 1 0 []).fin 3 y.2.2.regs y.2.2.pos []).bs⟩:=by
   rw[lwF,←hm,←hw0,←hy];rfl
  rw[hres]
  refine⟨_,I4,rfl,.p _ (λ_=>rfl) (.p _ (λ_=>rfl) (T4.ls.own.frame λi hi=>List.getElem?_set_ne λe=>(T4.ap 2 (by simp)).2 (by rw[e];exact List.mem_cons_of_mem _ hi))),(List.nodup_cons.1 T4.ls.nd).2⟩
end
section
def dK{σ α β:Type}(g:σ->α->β × σ):σ->List α->List β × σ
 |st,[]=>([],st)
 |st,x::r=>((g st x).1::(dK g (g st x).2 r).1,(dK g (g st x).2 r).2)
theorem Ei{σ α β:Type}(g:σ->α->β × σ):∀(a b:List α) (st:σ),dK g st (a++b)=((dK g st a).1++(dK g (dK g st a).2 b).1,(dK g (dK g st a).2 b).2)
 |[],b,st=>rfl
 |x::r,b,st=>by rw[List.cons_append,dK,Ei g r];rfl
theorem Hw{σ α β:Type}{g:σ->α->β × σ}{l:List α}{st:σ}{i:Nat}(h:i<l.length):dK g st (l.take (i+1))=((dK g st (l.take i)).1++[(g (dK g st (l.take i)).2 l[i]).1],(g (dK g st (l.take i)).2 l[i]).2):=by
 rw[an h,Ei];rfl
theorem Da{σ α β:Type}(g:σ->α->β × σ):∀(l:List α) (st:σ),(dK g st l).1.length=l.length
 |[],st=>rfl
 |x::r,st=>by rw[dK,List.length_cons,List.length_cons,Da g r]
theorem Di{σ α β:Type}{g:σ->α->β × σ}{inv:Nat->σ->Prop}:∀{l:List α} {st:σ} {k:Nat},inv k st->(∀(i:Nat) st (h:i<l.length),inv (k+i) st->inv (k+i+1) (g st l[i]).2)->∀i,i<=l.length->inv (k+i) (dK g st (l.take i)).2
 |[],st,k,h0,_,i,hi=>by
  have:i=0:=by simpa using hi
  subst this;exact h0
 |x::r,st,k,h0,hs,0,_=>h0
 |x::r,st,k,h0,hs,i+1,hi=>by
  have h1:=hs 0 st (by simp) h0
  have:=Di (g:=g) (l:=r) (st:=(g st x).2) (k:=k+1) h1 (λj st hj hv=>by
   have:=hs (j+1) st (by simp;omega) (by rw[show k+(j+1)=k+1+j by omega];exact hv)
   rw[show k+(j+1)+1=k+1+j+1 by omega] at this
   exact this) i (by simpa using hi)
  rw[List.take_succ_cons,dK,show k+(i+1)=k+1+i by omega]
  exact this
theorem NS{n k:Nat}{A:List AO}{π:List Nat}{h r1:List AO}(hl:A.length=n)(ha:∀o∈A,okO n o)(hh:∀i,i<n->h[i]?=A[i]?)(ρ:List Nat)(hρ:∀i,i<n->ρ.getD i 0=i)(hρn:n<=ρ.length)(hk:k=n)(hr:HW ρ h π r1):HW ρ h (List.range' 0 k++π) (A++r1):=by
 subst hk
 have key:∀(B:List AO) (s:Nat),(∀i:Nat,B[i]?=h[s+i]?\/B.length<=i)->s+B.length=k->(∀o∈B,okO k o)->HW ρ h (List.range' s B.length++π) (B++r1):=by
  intro B
  induction B with
  |nil=>intro s _ _ _;exact hr
  |cons o r ih=>
   intro s hb hs ho
   rw[List.length_cons,List.range'_succ]
   have h0:h[s]?=some o:=by
    rcases hb 0 with h0|h0
    ·simpa using h0.symm
    ·simp at h0
   have hok:=ho o (by simp)
   have ih:=ih (s+1) (λi=>by
    rcases hb (i+1) with h1|h1
    ·rw[List.getElem?_cons_succ] at h1;left;rw[h1];congr 1;omega
    ·right;simpa using h1) (by simp at hs;omega) (λo ho'=>ho o (by simp[ho']))
   have hsl:=(List.getElem?_eq_some_iff.1 h0).1
   cases o with
   |dead=>exact iC hsl ih
   |row sz es=>
    refine vA (λx hx=>aR hρn _ (hok x hx)) ?_ ih
    rw[h0,List.map_congr_left (g:=id) λx hx=>oc hρ x (hok x hx)];simp
   |mp es=>exact⟨hsl,⟨λx hx=>by exact(aR hρn [x.2] ⟨hok x hx,trivial⟩).1,by rw[h0,List.map_congr_left (g:=id) λx hx=>by rw[jA hρ x.2 (hok x hx)];rfl];simp⟩,ih⟩
   |sit s p=>exact⟨hsl,h0,ih⟩
 have:=key A 0 (λi=>by
  rcases Nat.lt_or_ge i A.length with hi|hi
  ·left;rw[Nat.zero_add];exact(hh i (by omega)).symm
  ·right;exact hi) (by omega) ha
 rwa[hl] at this
theorem Oc{kk q n m d sz c:Nat}{A mid s:List AO}{es:List (List AV)}{l l1:List (Nat × AV)}(hl:A.length=n)(hm:mid.length=m)(hk:kk<=n)(ha:∀o∈A,okO n o)(he:∀x∈es,az 0 x)(H:FgA n l l1)(hd:Aw.look l d= .sl (n+m) sz 0 c):
 Wk kk (ay q l) (A++(mid++ .row sz es::s)) (ay q ((d,.sl n sz 0 c)::l1)) (A++[.row sz es]):=by
 have hρ:∀i,i<n->(List.range' 0 n++[n+m]).getD i 0=i:=λi hi=>by
  rw[List.getD_eq_getElem?_getD,List.getElem?_append_left (by simp;exact hi)];simp[hi]
 have hρn:(List.range' 0 n++[n+m]).getD n 0=n+m:=by
  rw[List.getD_eq_getElem?_getD,List.getElem?_append_right (by simp)];simp
 refine oV (List.range' 0 n++[n+m]) (by simp;omega) (λi hi=>hρ i (by omega)) ?_ ?_ ?_
 ·refine List.nodup_append.2 ⟨List.nodup_range',by simp,λa ha b hb e=>?_⟩
  rw[List.mem_singleton] at hb
  have:=(List.mem_range'_1.1 ha).2
  omega
 ·refine NS hl ha (λi hi=>by rw[List.getElem?_append_left (by omega)]) _ hρ (by simp) rfl ?_
  refine bS ?_ he dC
  rw[List.getElem?_append_right (by omega),hl,Nat.add_sub_cancel_left,List.getElem?_append_right (by omega),hm,Nat.sub_self];rfl
 ·refine⟨⟨by simp only[below];simp,by simp only[ren,hρn];exact hd.symm⟩,?_⟩
  clear hd
  induction l1 with
  |nil=>trivial
  |cons x r ih=>
   obtain⟨⟨a,c⟩,e⟩:=H
   exact⟨⟨(aR (by simp) [x.2] ⟨a,trivial⟩).1,by rw[jA hρ _ a,c]⟩,ih e⟩
theorem Gg{hF:List AO}{n:Nat}:∀{A r:List AO},(∀o∈A,okO n o)->FzO hF n (A++r) A
 |[],r,_=> .nil r
 |o::a,r,h=> .same (h o (by simp)) (Gg λo ho=>h o (by simp[ho]))
theorem Mb{n:Nat}{A r:List AO}{o:AO}(hl:A.length=n):(nr n (A++o::r))[n]?=some o:=by
 unfold nr
 rw[List.getElem?_append_right (by simp),List.length_replicate,Nat.sub_self,←hl,List.drop_left']
 ·rfl
 ·rfl
variable (G:aH)
end
section
def gT(l:List Cd):List (List AV):=l.map λc=>c.cs.map .p
theorem Ik(l:List Cd):∀x∈gT l,az 0 x:=λx hx=>by
 obtain⟨c,_,rfl⟩:=List.mem_map.1 hx
 simp[Cd.cs,az,below]
theorem Cd.cs_eq'(c:Cd):c.cs=[.int .i64 c.params,.int .i64 c.regs,bkL c.blocks]:=rfl
variable (G:aH)
theorem HM{σ:Type}(V:Vis σ)(g:σ->Fd->Cd × σ)(inv:Nat->σ->Prop)(l:List Fd)(hb:l.length<=1073741824)(hn:0<V.n)
 (hv:∀(i:Nat) st (h:i<l.length),inv i st->inv (i+1) (g st l[i]).2/\AC Tryz.prog G V.F (.agg (l[i].cs.map .p)::V.caps) (V.I st) λx h'=>x= .ret (.agg ((g st l[i]).1.cs.map .p))/\h'=V.I (g st l[i]).2)(st:σ)(h0:inv 0 st):
 AC Tryz.prog G bP [.p (fdL l),.fn (.func V.F) V.caps] (V.I st) λx h=>x= .ret (.p (cdL (dK g st l).1))/\h=V.I (dK g st l).2:=by
 have hxl:∀l,fdL l= .lst 3 (l.map Fd.cs):=λ_=>rfl
 have hlen:=V.len
 have hcb:=V.capsOk
 have hinv:∀i,i<=l.length->inv i (dK g st (l.take i)).2:=λi hi=>by
  have:=Di (g:=g) (inv:=inv) (l:=l) (st:=st) (k:=0) h0 (λi st h hi=>by
   rw[Nat.zero_add] at hi⊢;exact(hv i st h hi).1) i hi
  rwa[Nat.zero_add] at this
 have hRp:∀l:List Cd,∀x∈gT l,az 0 x:=Ik
 have hRl:∀l:List Cd,(gT l).length=l.length:=λl=>by simp[gT]
 have hRa:∀(l:List Cd) (y:Cd),gT (l++[y])=gT l++[y.cs.map .p]:=λl y=>by simp[gT]
 have key:AC Tryz.prog G bP [.p (fdL l),.fn (.func V.F) V.caps] (V.I st) λx h=>x= .ret (slE V.n 3 (gT (dK g st l).1))/\h=V.I (dK g st l).2++[yP 3 (gT (dK g st l).1)]:=by
  refine AC.go mf ?_
  simp-implicitDefEqProofs[fL,hxl]
  refine aF (λi:Nat=>ay 22 [(5,slE V.n 3 (gT (dK g st (l.take i)).1)),(0,.p (fdL l)),(1,.fn (.func V.F) V.caps),(8,.p (fdL l)),(9,.p (.int .i64 l.length)),(10,.p (.int .i64 i))])
   (λi=>V.I (dK g st (l.take i)).2++[yP 3 (gT (dK g st (l.take i)).1)]) (λi=>i<=l.length) (λi=>l.length-i) 0 (by simp) ?_ ?_
  ·have e:yP 3 (gT (dK g st (l.take 0)).1)= .dead:=rfl
   rw[e]
   exact vP (by rw[hlen];exact Nat.le_refl _) (by rw[hlen];exact hn) (by rw[hlen];exact V.ok st) (by simp[below,hxl,hcb,hlen,dK,gT,Hi])
  intro i hi
  have hT:=λh=>Hw (g:=g) (l:=l) (st:=st) (i:=i) h
  have hi2:=hinv i hi
  have hml:=Da g (l.take i) st
  rw[List.length_take,Nat.min_eq_left hi] at hml
  generalize hcur:dK g st (l.take i)=cur at hT hi2 hml⊢
  obtain⟨out,s⟩:=cur
  simp only at hT hi2 hml⊢
  simp-implicitDefEqProofs[hxl]
  refine aJ (λhc=>?_) (λhc=>?_)
  ·simp at hc
   have hg:=List.getElem?_eq_getElem hc
   have hT:=hT hc
   obtain⟨_,hA⟩:=hv i s hc hi2
   generalize l[i]=x at hg hT hA
   have hkc:=x.cs_eq'
   have hyc:=(g s x).1.cs_eq'
   rw[hkc] at hA
   simp-implicitDefEqProofs[hg,hkc,hlen]
   refine(V.pre G hA _ ⟨by simp[below],hcb⟩).mono ?_
   rintro r h ⟨rfl,rfl⟩
   rw[hyc]
   simp-implicitDefEqProofs[aa,hlen]
   have hol:=hRl out
   refine⟨⟨by omega,by omega⟩,i+1,hc,by omega,?_⟩
   rw[hT]
   simp only[hRa]
   rw[MX _ (by simp),JZ _ (by simp),hyc]
   refine Oc (mid:=[_,_,_]) (s:=[]) (hlen _) rfl (Nat.le_refl _) (V.ok _) ?_ ?_ ?_
   ·intro x hx
    rcases List.mem_append.1 hx with h|h
    ·exact hRp _ x h
    ·rw[List.mem_singleton.1 h];simp
   ·simp[below,hxl,hcb,w1 (i:=i) (by omega)]
   ·simp
  ·simp at hc
   have hie:i=l.length:=by omega
   subst hie
   rw[List.take_length] at hcur
   rw[hcur]
   simp-implicitDefEqProofs[]
 refine key.frz V.n (by rw[hlen];exact Nat.le_refl _) (λt v h ⟨e,_⟩=>by cases e) ?_
 rintro v h ⟨e,rfl⟩
 cases e
 refine⟨_,V.I (dK g st l).2,by rw[List.length_append,hlen];omega,hlen _,.one ?_ .nil,Gg (V.ok _),rfl,rfl⟩
 have ht:=Mb (r:=[]) (o:=yP 3 (gT (dK g st l).1)) (hlen (dK g st l).2)
 have hh:gT (dK g st l).1=((dK g st l).1.map Cd.cs).map (·.map .p):=by simp[gT]
 rw[hh] at ht⊢
 exact Oz ht (λx hx=>by obtain⟨b,_,rfl⟩:=List.mem_map.1 hx;rfl)
def unL(l:List Fd):List Cd:=l.map (lwF l 0)
theorem FO(l:List Fd)(hl:l.length<=1073741824)(f:Fd)(hz:f.sz<=16777216)(hf:∀x∈f.body,aE 4 x=true):VF Tryz.prog G gm [.agg [.p (fdL l)],.agg (f.cs.map .p)] (.agg ((lwF l 0 f).cs.map .p)):=
 AC.mkFreeze Hb (Ib G l hl f hz hf)
end
section
variable (G:aH)
theorem Bf(b:Bool):VF Tryz.prog G jV [.p (.bool b)] (.p (.int .i64 (if b then 1 else 0))):=by
 refine AC.go zq ?_
 cases b<;>simp-implicitDefEqProofs[oz]
end
section
theorem tR:∀a b:List Sm,aO (a++b)=aO a+aO b
 |[],b=>by simp[aO]
 |s::r,b=>by rw[List.cons_append,aO,aO,tR r b,Nat.add_assoc]
theorem FJ{l:List Sm}{i:Nat}(h:i<l.length):aO (l.take (i+1))=aO (l.take i)+tY l[i]:=by rw[an h,tR,aO,aO];rfl
theorem DN(l:List Sm)(i:Nat):aO (l.take i)<=aO l:=by
 have:=tR (l.take i) (l.drop i)
 rw[List.take_append_drop] at this
 omega
variable (G:aH)
theorem KN:∀(k:Nat) (l:List Sm),aG l<=k->k<=1099511627776->VF Tryz.prog G fg [.p (smL l)] (.p (.int .i64 (aO l))):=by
 intro k
 induction k with
 |zero=>
  intro l hl _
  have:l=[]:=by
   cases l with
   |nil=>rfl
   |cons s r=>have:=s.sz_eq;simp only[aG] at hl;omega
  subst this
  refine AC.go pP ?_
  have hsl:smL []= .lst 5 []:=rfl
  simp-implicitDefEqProofs[lg,hsl]
  refine aF (λ_:Unit=>ay 35 [(0,.p (.lst 5 [])),(3,.p (.int .i64 0)),(4,.p (.int .i64 0))]) (λ_=>[]) (λ_=>True) (λ_=>0) () trivial (aN rfl (by simp[below])) ?_
  intro _ _
  simp-implicitDefEqProofs[aO]
 |succ k ih=>
  intro l hl hk
  have hll:=bn l
  have hnz:=Nat.le_trans (fV l) (ga l)
  refine AC.go pP ?_
  have hsl:∀l,smL l= .lst 5 (l.map Sm.cs):=λ_=>rfl
  simp-implicitDefEqProofs[lg,hsl]
  refine aF (λi:Nat=>ay 35 [(0,.p (smL l)),(3,.p (.int .i64 (aO (l.take i)))),(4,.p (.int .i64 i))]) (λ_=>[]) (λi=>i<=l.length) (λi=>l.length-i) 0 (by simp) (aN rfl (by simp[below,hsl,aO])) ?_
  intro i hi
  have k2:=DN l i
  simp-implicitDefEqProofs[hsl]
  refine aJ (λh=>?_) (λh=>?_)
  ·simp at h
   have hg:=List.getElem?_eq_getElem h
   have hks:=bA (List.getElem_mem h)
   have hse:=l[i].sz_eq
   have hce:=l[i].cs_eq
   have k1:=FJ h
   have k4:=DN l (i+1)
   have k5:=LU l[i]
   have hb:=ih l[i].body (by omega) (by omega)
   have he:=ih l[i].els (by omega) (by omega)
   generalize l[i]=s at*
   generalize aO (l.take i)=n at*
   obtain⟨n2,hn2⟩:∃n2,n2=aO (l.take (i+1)):=⟨_,rfl⟩
   rw[←hn2] at k1 k4
   by_cases ho:s.op=1
   ·rw[if_pos ho] at k5
    simp-implicitDefEqProofs[hg,hce,ho]
    refine(Bf G true).use ?_
    have w0':IntKind.i64.wrap ((n:Int)+1)=(n:Int)+1:=af (by omega) (by omega)
    simp-implicitDefEqProofs[hg,hce,w0']
    refine hb.use ?_
    have w1':IntKind.i64.wrap ((n:Int)+1+(aO s.body:Int))=(n:Int)+1+(aO s.body:Int):=af (by omega) (by omega)
    simp-implicitDefEqProofs[hg,hce,w1']
    refine he.use ?_
    have w2':IntKind.i64.wrap ((n:Int)+1+(aO s.body:Int)+(aO s.els:Int))=(n2:Int):=by rw[af (by omega) (by omega)];omega
    simp-implicitDefEqProofs[w2']
    exact⟨i+1,h,by omega,aN rfl (by simp[below,hsl,←hn2,w1 (i:=i) (by omega)])⟩
   ·rw[if_neg ho] at k5
    simp-implicitDefEqProofs[hg,hce,ho]
    refine(Bf G false).use ?_
    have w0':IntKind.i64.wrap (n:Int)=(n:Int):=af (by omega) (by omega)
    simp-implicitDefEqProofs[hg,hce,w0']
    refine hb.use ?_
    have w1':IntKind.i64.wrap ((n:Int)+(aO s.body:Int))=(n:Int)+(aO s.body:Int):=af (by omega) (by omega)
    simp-implicitDefEqProofs[hg,hce,w1']
    refine he.use ?_
    have w2':IntKind.i64.wrap ((n:Int)+(aO s.body:Int)+(aO s.els:Int))=(n2:Int):=by rw[af (by omega) (by omega)];omega
    simp-implicitDefEqProofs[w2']
    exact⟨i+1,h,by omega,aN rfl (by simp[below,hsl,←hn2,w1 (i:=i) (by omega)])⟩
  ·simp at h
   rw[List.take_of_length_le h]
   simp-implicitDefEqProofs[]
section
variable {l:List Fd} {pr:Int} {L:Nat} {S I0 E:List Nat} {h:List AO} {w:Lw} {nx:Nat} {vs:Vs} {X:List AO} {K V:AV} {I:List Nat}
theorem LN(T:RS l pr L S I0 E h w nx vs X K V I)(hw:w.regs<=1073741824):
 AC Tryz.prog G bI [.ptr L 8 0 0] X λx h'=>x= .ret (.p (.int .i64 w.regs))/\∃K' I',RS l pr L S I0 E h w.reg nx vs h' K' V I'/\∀i∈E,h'[i]?=X[i]?:=
 (mh G T.stb.ls hw).mono λx h' ⟨a,b⟩=>⟨a,T.step (J:=[]) (λj hj=>by cases hj) (by rw[List.append_nil];exact b)⟩
theorem OP(T:RS l pr L S I0 E h w nx vs X K V I){B:Nat}(hok:w.Ok B)(hB:B<=1073741824)(op to n:Int):
 AC Tryz.prog G cg [.ptr L 8 0 0,.p (.int .i64 op),.p (.int .i64 to),.p (.int .i64 n),.sl X.length 1 0 0] (X++[.row 1 []]) λr h'=>r= .ret (.p (.int .i64 to))/\∃K' I',RS l pr L S I0 E h (w.put ⟨op,to,[],n⟩) nx vs h' K' V I'/\∀i∈E,h'[i]?=X[i]?:=by
 obtain⟨f1,f2⟩:=T.fresh
 refine(rH G (T.stb.ls.more [.row 1 []]) hok hB ⟨op,to,[],n⟩ (cC X ([]:List Int) rfl) (by simp) f2).mono λr h' ⟨e,b⟩=>⟨e,?_⟩
 obtain⟨K2,I2,a1,a2⟩:=(T.more [_]).step f1 b
 exact⟨K2,I2,a1,λi hi=>(a2 i hi).trans (List.getElem?_append_left (T.at.1 i hi).1)⟩
theorem Nc(T:RS l pr L S I0 E h w nx vs X K V I){B:Nat}(hok:w.Ok B)(j o:Int)(g:Nat){gI:Int}(hg:gI=(g:Int)):
 AC Tryz.prog G bz [.ptr L 8 0 0,.p (.int .i64 j),.p (.int .i64 o),.sl X.length 1 0 0,.p (.int .i64 gI)] (X++[.row 1 []]) λr h'=>r= .ret (.tup [])/\∃K' I',RS l pr L S I0 E h (w.fin j o g []) nx vs h' K' V I'/\∀i∈E,h'[i]?=X[i]?:=by
 obtain⟨f1,f2⟩:=T.fresh
 rw[hg]
 refine(oT G (T.stb.ls.more [.row 1 []]) hok j o g [] (cC X ([]:List Int) rfl) (by simp) f2).mono λr h' ⟨e,b⟩=>⟨e,?_⟩
 obtain⟨K2,I2,a1,a2⟩:=(T.more [_]).step f1 b
 exact⟨K2,I2,a1,λi hi=>(a2 i hi).trans (List.getElem?_append_left (T.at.1 i hi).1)⟩
theorem HQ{n:Nat}(hg:X[L]?=some (.row 8 [[.p (fdL l),.p (.int .i64 pr),.p (.int .i64 n),.nils,.p (.int .i64 0),V,.p (.int .i64 nx),.nils]]))(hV:V.cells=[V]/\V.isCell=true):
 AC Tryz.prog G cr [.ptr L 8 0 0] X λr h'=>r= .ret (.p (.int .i64 0))/\∃K I,LS (lwR l pr V nx) L ⟨n,[bk0],0⟩ h' K I/\Frm [L] X h'/\∀j∈I,X.length<=j:=by
 have hLl:=(List.getElem?_eq_some_iff.1 hg).1
 obtain⟨v1,v2⟩:=hV
 have hgt:∀t,(X++t)[L]?=some (.row 8 [[.p (fdL l),.p (.int .i64 pr),.p (.int .i64 n),.nils,.p (.int .i64 0),V,.p (.int .i64 nx),.nils]]):=λt=>by rw[List.getElem?_append_left hLl];exact hg
 have hs3:∀t o,((X++t).set L o)[L]?=some o:=λt o=>List.getElem?_set_self (by simp;omega)
 refine AC.go kg ?_
 simp-implicitDefEqProofs[-AV.cells,-AV.isCell,aC,ae,ag,aq,ah,aB,ab,au,aj,v1,v2,fz,hg,hgt, ↓hs3]
 have key:∀o1:AO,∃K I,LS (lwR l pr V nx) L ⟨n,[bk0],0⟩ ((X++[.row 2 [],.row 4 [],.row 1 [],o1,.row 5 [[.sl X.length 2 0 0,.sl (X.length+1) 4 0 0,.p (.int .i64 0),.p (.int .i64 0),.sl (X.length+2) 1 0 0]]]).set L (lwR l pr V nx ⟨n,[bk0],0⟩ (.sl (X.length+4) 5 0 1))) K I/\Frm [L] X ((X++[.row 2 [],.row 4 [],.row 1 [],o1,.row 5 [[.sl X.length 2 0 0,.sl (X.length+1) 4 0 0,.p (.int .i64 0),.p (.int .i64 0),.sl (X.length+2) 1 0 0]]]).set L (lwR l pr V nx ⟨n,[bk0],0⟩ (.sl (X.length+4) 5 0 1)))/\∀j∈I,X.length<=j:=λo1=>by
  obtain⟨H,hH⟩:∃H,H=((X++[.row 2 [],.row 4 [],.row 1 [],o1,.row 5 [[.sl X.length 2 0 0,.sl (X.length+1) 4 0 0,.p (.int .i64 0),.p (.int .i64 0),.sl (X.length+2) 1 0 0]]]).set L (lwR l pr V nx ⟨n,[bk0],0⟩ (.sl (X.length+4) 5 0 1))):=⟨_,rfl⟩
  have g:∀k,H[X.length+k]?=[AO.row 2 [],.row 4 [],.row 1 [],o1,.row 5 [[.sl X.length 2 0 0,.sl (X.length+1) 4 0 0,.p (.int .i64 0),.p (.int .i64 0),.sl (X.length+2) 1 0 0]]][k]?:=λk=>by
   rw[hH,List.getElem?_set_ne (by omega),List.getElem?_append_right (by omega)]
   rw[Nat.add_sub_cancel_left]
  rw[←hH]
  have hr:RowOwn false H (X.length+4) 5 [[.sl X.length 2 0 0,.sl (X.length+1) 4 0 0,.p (.int .i64 0),.p (.int .i64 0),.sl (X.length+2) 1 0 0]] [bk0.cs] [X.length,X.length+1,X.length+2]:=
   ⟨g 4,rfl,by simp,by simp[bk0,Bk.cs],by rw[List.flatten_singleton,List.flatten_singleton];exact GY (g 0) (g 1) (g 2),by simp⟩
  refine⟨_,_,⟨by rw[hH];exact List.getElem?_set_self (by simp;omega),hr.tree rfl,by simp;omega,λq e=>(by cases e),λkid n2 rows2 eK hg2 r hr2=>?_⟩,⟨by rw[hH];simp,λi hi hn=>?_⟩,λj hj=>?_⟩
  ·cases eK
   rw[hr.here] at hg2
   cases hg2
   rw[List.mem_singleton.1 hr2]
   intro q;simp
  ·rw[hH,List.getElem?_set_ne (λe=>hn (by simp[e])),List.getElem?_append_left hi]
  ·simp only[List.mem_cons,List.not_mem_nil,or_false] at hj
   omega
 have e:=key (.row 5 [[.sl X.length 2 0 0,.sl (X.length+1) 4 0 0,.p (.int .i64 0),.p (.int .i64 0),.sl (X.length+2) 1 0 0]])
 exact⟨af (by omega) (by omega),e⟩
end
structure PvS where (i:Nat) (X:List AO)
theorem MM{vs:Vs}{ps:List (List UInt8)}{i:Nat}(hi:i<ps.length)(hl:vs.length=i)(h:rgV vs=scF (-1) [psS (ps.take i) [] 0]):rgV (vs++[(ps[i],i)])=scF (-1) [psS (ps.take (i+1)) [] 0]:=by
 funext t
 simp only[vH,h,CG hi,scF,cJ,jZ]
 by_cases hst:ps[i]=t
 ·simp[hst]
 ·simp[hst]
theorem NU(l:List Fd)(hl:l.length<=1073741824)(k:Nat)(f:Fd)(hk:l[k]?=some f)(hz:f.sz<=16777216)(hf:∀x∈f.body,aE 4 x=true):AC Tryz.prog G kO [.agg [.p (fdL l)],.p (.int .i64 k)] [] (MkW .agg false (lwF l (-1) f).cs):=by
 have hfc:=f.cs_eq'
 have hfl:fdL l= .lst 3 (l.map Fd.cs):=rfl
 have hlk:=(List.getElem?_eq_some_iff.1 hk).1
 have hfz:f.sz=1+f.name.length+(f.params.length+(f.params.map List.length).sum)+aG f.body:=rfl
 have hst:aP f.params= .lst 1 (f.params.map λw=>[.str w]):=rfl
 have hlet:=Nat.le_trans (fV f.body) (ga f.body)
 refine AC.go Dn ?_
 simp-implicitDefEqProofs[ug,hfl,hk,hfc,hst]
 rw[←hfl]
 refine(KN G _ f.body (Nat.le_refl _) (by omega)).use ?_
 have hwl:IntKind.i64.wrap ((f.params.length:Int)+(aO f.body:Int))=((f.params.length+aO f.body:Nat):Int):=by rw[af (by omega) (by omega)];omega
 simp-implicitDefEqProofs[hst,hwl]
 obtain⟨n,hn⟩:∃n:Nat,n=f.params.length+aO f.body:=⟨_,rfl⟩
 have hnI:(f.params.length:Int)+(aO f.body:Int)=n:=by omega
 rw[hnI]
 refine aF (λa:PvS=>ay 80 [(4,.ptr 1 3 0 0),(5,.ptr 2 3 0 0),(6,.ptr 3 8 0 0),(7,.p (.int .i64 a.i))]) (λa=>a.X)
  (λa=>a.i<=f.params.length/\4<=a.X.length/\a.X[1]?=some (.row 3 [[.p (.int .i64 0),.p (.int .i64 0),.nils]])/\a.X[2]?=some (.row 3 [[.p (.str f.name),.p (.lst 1 (f.params.map λw=>[.str w])),.p (smL f.body)]])/\∃V vs,a.X[3]?=some (.row 8 [[.p (fdL l),.p (.int .i64 f.params.length),.p (.int .i64 n),.nils,.p (.int .i64 0),V,.p (.int .i64 f.params.length),.nils]])/\VAt a.X V vs/\(∀i∈vi V,4<=i)/\vs.length=a.i/\rgV vs=scF (-1) [psS (f.params.take a.i) [] 0]) (λa=>f.params.length-a.i)
  ⟨0,[.row 1 [[.p (fdL l)]],.row 3 [[.p (.int .i64 0),.p (.int .i64 0),.nils]],.row 3 [[.p (.str f.name),.p (.lst 1 (f.params.map λw=>[.str w])),.p (smL f.body)]],.row 8 [[.p (fdL l),.p (.int .i64 f.params.length),.p (.int .i64 n),.nils,.p (.int .i64 0),.nils,.p (.int .i64 f.params.length),.nils]]]⟩ ⟨Nat.zero_le _,by simp,rfl,rfl,.nils,[],rfl,.nil,(λi hi=>by cases hi),rfl,rfl⟩ ?_ ?_
 ·exact aw (by simp) (by simp[below])
 rintro⟨i,X⟩ ⟨hi,hX4,hx1,hx2,V,vs,hx3,hV,hVi,hvl,hrg⟩
 simp only at hi hX4 hx1 hx2 hx3 hV hvl hrg
 obtain⟨v1,v2,v3⟩:=hV.is
 simp-implicitDefEqProofs[hx2]
 refine aJ (λhc=>?_) (λhc=>?_)
 ·simp at hc
  have hg:=List.getElem?_eq_getElem hc
  have hrg2:=MM hc hvl hrg
  generalize f.params[i]=p at hg hrg2
  have hwi:=w1 (i:=i) (by omega)
  have hX2m:∀t,(X++t)[2]?=some (.row 3 [[.p (.str f.name),.p (.lst 1 (f.params.map λw=>[.str w])),.p (smL f.body)]]):=λt=>by rw[List.getElem?_append_left (by omega)];exact hx2
  cases hV with
  |nil=>
   have hvi:i=0:=hvl.symm
   subst hvi
   have hX3m:∀t,(X++t)[3]?=some (.row 8 [[.p (fdL l),.p (.int .i64 f.params.length),.p (.int .i64 n),.nils,.p (.int .i64 0),.nils,.p (.int .i64 f.params.length),.nils]]):=λt=>by rw[List.getElem?_append_left (by omega)];exact hx3
   simp-implicitDefEqProofs[hx2,hx3,hg,hX3m,hX2m]
   have hw11:IntKind.i64.wrap 1=1:=af (by omega) (by omega)
   refine⟨⟨1,_⟩,⟨by simp only;omega,?_,?_,?_,.sl X.length 3 0 1,?_,[(p,0)],?_,?_,rfl,by simpa using hrg2⟩,by simp only;omega,aw ?_ ?_⟩
   rotate_left 6
   ·exact Nat.zero_le _
   ·simp[below,hw11]
    omega
   ·simp;omega
   ·rw[List.getElem?_set_ne (by omega),List.getElem?_append_left (by omega)];exact hx1
   ·rw[List.getElem?_set_ne (by omega),List.getElem?_append_left (by omega)];exact hx2
   ·exact List.getElem?_set_self (by simp;omega)
   ·exact .sl _ [rr (p,0)] [(p,0)] (by rw[List.getElem?_set_ne (by omega),List.getElem?_append_right (Nat.le_refl _)];simp[rr]) rfl
   ·intro j hj;rw[List.mem_singleton.1 hj];exact hX4
  |sl vid rows _ hv1 hv2=>
   have hvX:=(List.getElem?_eq_some_iff.1 hv1).1
   have hv4:=hVi vid (by simp[vi])
   have hvk:vs.length<=rows.length:=by
    have:=congrArg List.length hv2
    rw[List.length_take,List.length_map] at this
    omega
   have hX3m:∀t,(X.set vid .dead++t)[3]?=X[3]?:=λt=>by rw[List.getElem?_append_left (by simp;omega),List.getElem?_set_ne (by omega)]
   have hX2n:∀t,(X.set vid .dead++t)[2]?=X[2]?:=λt=>by rw[List.getElem?_append_left (by simp;omega),List.getElem?_set_ne (by omega)]
   simp-implicitDefEqProofs[hx2,hx3,hg,hv1,hv2, ↓hX3m, ↓hX2n,hwi]
   refine⟨⟨by omega,by omega⟩,⟨i+1,_⟩,⟨by simp only;omega,?_,?_,?_,.sl X.length 3 0 (vs.length+1),?_,vs++[(p,i)],?_,?_,by simp;omega,hrg2⟩,by simp only;omega,aw ?_ ?_⟩
   rotate_left 6
   ·exact Nat.zero_le _
   ·simp[below,hwi]
    omega
   ·simp;omega
   ·rw[List.getElem?_set_ne (by omega),List.getElem?_append_left (by simp;omega),List.getElem?_set_ne (by omega)];exact hx1
   ·rw[List.getElem?_set_ne (by omega),List.getElem?_append_left (by simp;omega),List.getElem?_set_ne (by omega)];exact hx2
   ·exact List.getElem?_set_self (by simp;omega)
   ·have hlv:(vs++[(p,i)]).length=vs.length+1:=by simp
    exact hlv▸ .sl _ (vs.map rr++[rr (p,i)]) (vs++[(p,i)]) (by rw[List.getElem?_set_ne (by omega),List.getElem?_append_right (by simp)];simp[rr]) (by rw[List.take_of_length_le (by simp)];simp)
   ·intro j hj;rw[List.mem_singleton.1 hj];exact hX4
 ·simp at hc
  have hie:i=f.params.length:=by omega
  subst hie
  rw[List.take_length] at hrg
  simp-implicitDefEqProofs[]
  refine(HQ G hx3 ⟨v1,v2⟩).mono ?_
  rintro x X1 ⟨rfl,K1,I1,H1,hfr,hI1⟩
  have hl1:=hfr.1
  have va1:VAt X1 V vs:=hV.frame λi hi=>hfr.2 i (hV.lt i hi) (by have:=hVi i hi;simp;omega)
  have T1':=RS.of H1 va1 (λi hi=>by
   have h4:=hVi i hi
   have h5:=hV.lt i hi
   simp only[List.mem_cons,not_or]
   exact⟨by omega,λhm=>by have:=hI1 i hm;omega⟩)
  have T1:=T1'.add (j:=1) (by omega) (by
   simp only[List.mem_cons,not_or]
   exact⟨by omega,λhm=>by have:=hI1 1 hm;omega⟩) (λhm=>by have:=hVi 1 hm;omega)
  have b1:X1[1]?=some (.row 3 [[.p (.int .i64 0),.p (.int .i64 0),.nils]]):=(hfr.2 1 (by omega) (by simp)).trans hx1
  have b2:X1[2]?=some (.row 3 [[.p (.str f.name),.p (.lst 1 (f.params.map λw=>[.str w])),.p (smL f.body)]]):=(hfr.2 2 (by omega) (by simp)).trans hx2
  have ok1:(⟨n,[bk0],0⟩:Lw).Ok (f.sz+1):=⟨by show n<=_;omega,by show 1<=_;omega,λb hb=>by rw[List.mem_singleton.1 hb];show 0<=_;omega,by show 0<1;omega⟩
  simp-implicitDefEqProofs[aa,b2]
  obtain⟨y,hy⟩:∃y,y=aM (faI l) (-1) f.body (psS f.params [] 0) [] f.params.length ⟨n,[bk0],0⟩:=⟨_,rfl⟩
  have h2:=vq G (Kf G l hl f.params.length 3 4 f.body hf) T1 ok1 (by omega) (by omega) (by omega) hrg
  have ok2:=cV (faI l) (-1) f.body (psS f.params [] 0) [] f.params.length ⟨n,[bk0],0⟩ _ ok1
  rw[←hy] at h2 ok2
  refine h2.mono ?_
  rintro x X2 ⟨rfl,K2,V2,I2,T2,e2⟩
  obtain⟨ok2,_,_,_⟩:=ok2
  have b1:=(e2 1 (by simp)).trans b1
  simp-implicitDefEqProofs[aa]
  refine(LN G T2 (by have:=ok2.regs;omega)).mono ?_
  rintro x X3 ⟨rfl,K3,I3,T3,e3⟩
  have b1:=(e3 1 (by simp)).trans b1
  have ok3:=ok2.reg
  simp-implicitDefEqProofs[aa]
  refine(OP G T3 ok3 (by omega) 1 y.2.2.regs 0).mono ?_
  rintro x X4 ⟨rfl,K4,I4,T4,e4⟩
  have b1:=(e4 1 (by simp)).trans b1
  have ok4:=ok3.put ⟨1,y.2.2.regs,[],0⟩
  simp-implicitDefEqProofs[aa]
  refine(Nc G T4 ok4 3 y.2.2.regs 0 rfl).mono ?_
  rintro x X5 ⟨rfl,K5,I5,T5,e5⟩
  have b1:=(e5 1 (by simp)).trans b1
  have l5:=T5.stb.ls.here
  simp only[lwR] at l5
  obtain⟨k1,k2⟩:=fy T5.stb.ls.own
  have hs1:∀o,(X5.set 1 o)[1]?=some o:=λo=>List.getElem?_set_self (T5.at.1 1 (by simp)).1
  simp-implicitDefEqProofs[-AV.cells,-AV.isCell,aC,ae,ag,aq,ah,aB,ab,au,aj,k1,k2,aa,l5,b1, ↓hs1]
  have hres:lwF l (-1) f=⟨f.params.length,((y.2.2.reg.put ⟨1,y.2.2.regs,[],0⟩).fin 3 y.2.2.regs 0 []).regs,((y.2.2.reg.put ⟨1,y.2.2.regs,[],0⟩).fin 3 y.2.2.regs 0 []).bs⟩:=by
   rw[lwF,←hn,←hy];rfl
  rw[hres]
  refine⟨_,I5,rfl,.p _ (λ_=>rfl) (.p _ (λ_=>rfl) (T5.stb.ls.own.frame λi hi=>List.getElem?_set_ne λe=>(T5.at.1 1 (by simp)).2 (by rw[e];exact List.mem_cons_of_mem _ hi))),(List.nodup_cons.1 T5.stb.ls.nd).2⟩
theorem Mf(l:List Fd)(hl:l.length<=1073741824)(k:Nat)(f:Fd)(hk:l[k]?=some f)(hz:f.sz<=16777216)(hf:∀x∈f.body,aE 4 x=true):VF Tryz.prog G kO [.agg [.p (fdL l)],.p (.int .i64 k)] (.agg ((lwF l (-1) f).cs.map .p)):=
 AC.mkFreeze Hb (NU G l hl k f hk hz hf)
def unR(l:List Fd):List Cd:=l.map (lwF l (-1))
structure UnS where (i:Nat) (X:List AO)
theorem JM(l:List Fd)(hz:bF l<=16777216)(hf:∀f∈l,∀x∈f.body,aE 4 x=true):VF Tryz.prog G iD [.agg [.p (fdL l)]] (.agg [.p (cdL (unR l))]):=by
 have hfl:fdL l= .lst 3 (l.map Fd.cs):=rfl
 have hll:l.length<=bF l:=dS l
 have key:AC Tryz.prog G iD [.agg [.p (fdL l)]] [] λx h=>∃V,x= .ret (.agg [V])/\((V= .nils/\l=[])\/∃id,V= .sl id 3 0 l.length/\h[id]?=some (.row 3 (gT (unR l)))):=by
  refine AC.go Ao ?_
  simp-implicitDefEqProofs[pU]
  refine aF (λa:UnS=>ay 22 [(1,.ptr 0 1 0 0),(2,.ptr 1 1 0 0),(3,.ptr 2 1 0 0),(4,.p (.int .i64 a.i))]) (λa=>a.X)
   (λa=>a.i<=l.length/\3<=a.X.length/\a.X[0]?=some (.row 1 [[.p (fdL l)]])/\a.X[1]?=some (.row 1 [[.nils]])/\∃V,a.X[2]?=some (.row 1 [[V]])/\((V= .nils/\a.i=0)\/∃id,V= .sl id 3 0 a.i/\3<=id/\a.X[id]?=some (.row 3 (gT (unR l|>.take a.i))))) (λa=>l.length-a.i)
   ⟨0,[.row 1 [[.p (fdL l)]],.row 1 [[.nils]],.row 1 [[.nils]]]⟩ ⟨Nat.zero_le _,by simp,rfl,rfl,.nils,rfl,.inl ⟨rfl,rfl⟩⟩ ?_ ?_
  ·exact aw (by simp) (by simp[below])
  rintro⟨i,X⟩ ⟨hi,hX3,hx0,hx1,V,hx2,hV⟩
  simp only at hi hX3 hx0 hx1 hx2 hV
  simp-implicitDefEqProofs[hx0,hfl]
  refine aJ (λhc=>?_) (λhc=>?_)
  ·simp at hc
   have hg:=List.getElem?_eq_getElem hc
   have hm:=List.getElem_mem hc
   have hfz:=eZ hm
   have hcall:=Mf G l (by omega) i l[i] hg (by omega) (hf _ hm)
   have htk:(unR l).take (i+1)=(unR l).take i++[lwF l (-1) l[i]]:=by
    rw[unR,←List.map_take,←List.map_take,an hc,List.map_append];rfl
   have hcs:=(lwF l (-1) l[i]).cs_eq'
   have hlt:((unR l).take i).length=i:=by simp[unR];omega
   have hwi:=w1 (i:=i) (by omega)
   generalize lwF l (-1) l[i]=c at hcall htk hcs
   rw[hcs] at hcall
   rw[hfl] at hcall
   have hX2:∀t,(X++t)[2]?=some (.row 1 [[V]]):=λt=>by rw[List.getElem?_append_left (by omega)];exact hx2
   rcases hV with⟨rfl,rfl⟩|⟨id,rfl,hid,hxi⟩
   ·simp-implicitDefEqProofs[hx2,hx0,hfl]
    refine hcall.use ?_
    simp-implicitDefEqProofs[hx2,hX2]
    have hw11:IntKind.i64.wrap 1=1:=af (by omega) (by omega)
    refine⟨⟨1,_⟩,⟨by simp only;omega,?_,?_,?_,.sl X.length 3 0 1,?_,.inr ⟨X.length,rfl,hX3,?_⟩⟩,by simp only;omega,aw ?_ ?_⟩
    rotate_left 5
    ·exact Nat.zero_le _
    ·simp[below,hw11];omega
    ·simp;omega
    ·rw[List.getElem?_set_ne (by omega),List.getElem?_append_left (by omega)];exact hx0
    ·rw[List.getElem?_set_ne (by omega),List.getElem?_append_left (by omega)];exact hx1
    ·exact List.getElem?_set_self (by simp;omega)
    ·rw[htk,List.getElem?_set_ne (by omega),List.getElem?_append_right (Nat.le_refl _)]
     simp[gT,hcs]
   ·have hiX:=(List.getElem?_eq_some_iff.1 hxi).1
    have hX2n:∀t,(X.set id .dead++t)[2]?=X[2]?:=λt=>by rw[List.getElem?_append_left (by simp;omega),List.getElem?_set_ne (by omega)]
    have htl:List.take i (gT (List.take i (unR l)))=gT (List.take i (unR l)):=List.take_of_length_le (by simp[gT];omega)
    have hcl:(gT (List.take i (unR l))).length=i:=by simp only[gT,List.length_map];exact hlt
    simp-implicitDefEqProofs[hx2,hx0,hfl]
    refine hcall.use ?_
    simp-implicitDefEqProofs[hx2,hxi, ↓hX2n,htl,hcl,hwi]
    refine⟨⟨by omega,by omega⟩,⟨i+1,_⟩,⟨by simp only;omega,?_,?_,?_,.sl X.length 3 0 (i+1),?_,.inr ⟨X.length,rfl,hX3,?_⟩⟩,by simp only;omega,aw ?_ ?_⟩
    rotate_left 5
    ·exact Nat.zero_le _
    ·simp[below,hwi];omega
    ·simp;omega
    ·rw[List.getElem?_set_ne (by omega),List.getElem?_append_left (by simp;omega),List.getElem?_set_ne (by omega)];exact hx0
    ·rw[List.getElem?_set_ne (by omega),List.getElem?_append_left (by simp;omega),List.getElem?_set_ne (by omega)];exact hx1
    ·exact List.getElem?_set_self (by simp;omega)
    ·rw[htk,List.getElem?_set_ne (by omega),List.getElem?_append_right (by simp)]
     simp[gT,hcs]
  ·simp at hc
   have hie:i=l.length:=by omega
   subst hie
   have hx1s:∀o,(X.set 1 o)[1]?=some o:=λo=>List.getElem?_set_self (by omega)
   have hul:(unR l).take l.length=unR l:=List.take_of_length_le (by simp[unR])
   rw[hul] at hV
   rcases hV with⟨rfl,h0⟩|⟨id,rfl,hid,hxi⟩
   ·simp-implicitDefEqProofs[hx2,hx1, ↓hx1s]
    exact List.length_eq_zero_iff.1 h0
   ·simp-implicitDefEqProofs[hx2,hx1, ↓hx1s]
    rw[List.getElem?_set_ne (by omega)]
    exact hxi
 refine key.freezeR (λt v h ⟨V,e,_⟩=>by cases e) ?_
 rintro v h ⟨V,e,hV⟩
 cases e
 refine .agg ?_ .nil
 rcases hV with⟨rfl,rfl⟩|⟨id,rfl,hid⟩
 ·exact .one (View.nils 3) .nil
 ·have hh:gT (unR l)=((unR l).map Cd.cs).map (·.map .p):=by simp[gT]
  rw[hh] at hid
  have:=fk (n:=l.length) hid (by simp[unR]) (λx hx=>by obtain⟨b,_,rfl⟩:=List.mem_map.1 hx;rfl)
  exact .one this .nil
end
section
mutual
theorem GL(fa:List UInt8->Int){sc sc':List UInt8->Int}:∀(e:Ex) (w:Lw),(∀p∈e.pre,p.op=2->sc p.name=sc' p.name)->lwE fa sc e w=lwE fa sc' e w
 | .mk o n s ks,w,h=>by
   rw[Ex.pre] at h
   have h0:=h (.mk o n s ks) (by simp)
   have hk:∀p∈dB ks,p.op=2->sc p.name=sc' p.name:=λp hp=>h p (by simp[hp])
   rw[lwE,lwE]
   split
   ·rfl
   split
   ·rename_i h2
    have:=h0 h2
    simp only[Ex.name] at this
    rw[this]
   split
   ·exact PQ fa ks w hk
   ·rw[Fp fa ks w hk]
theorem PQ(fa:List UInt8->Int){sc sc':List UInt8->Int}:∀(l:List Ex) (w:Lw),(∀p∈dB l,p.op=2->sc p.name=sc' p.name)->lwA fa sc l w=lwA fa sc' l w
 |[],w,_=>by rw[lwA,lwA]<;>intro a b h<;>cases h
 |[a],w,_=>by rw[lwA,lwA]<;>intro a b h<;>cases h
 |a::b::c::r,w,_=>by rw[lwA,lwA]<;>intro a b h<;>cases h
 |[a,b],w,h=>by
  have ha:=GL fa a w (λp hp=>h p (by simp[dB,hp]))
  rw[lwA,lwA,ha]
  rw[GL fa b _ (λp hp=>h p (by simp[dB,hp]))]
theorem Fp(fa:List UInt8->Int){sc sc':List UInt8->Int}:∀(l:List Ex) (w:Lw),(∀p∈dB l,p.op=2->sc p.name=sc' p.name)->aY fa sc l w=aY fa sc' l w
 |[],w,_=>by rw[aY,aY]
 |e::r,w,h=>by
  rw[aY,aY,GL fa e w (λp hp=>h p (by simp[dB,hp])),Fp fa r _ (λp hp=>h p (by simp[dB,hp]))]
end
def KS:List Scp->List Scp->Prop
 |[],[]=>True
 |m::a,m0::b=>(∀t,(eC m t).isSome=(eC m0 t).isSome)/\KS a b
 |_,_=>False
theorem KS.fnd:∀{a b:List Scp},KS a b->∀t,(cJ a t).isSome=(cJ b t).isSome
 |[],[],_,t=>rfl
 |m::a,m0::b,h,t=>by
  have h1:=h.1 t
  have h2:=KS.fnd h.2 t
  rw[cJ,cJ]
  cases e1:eC m t with
  |some x=>
   rw[e1] at h1
   cases e2:eC m0 t with
   |some y=>rfl
   |none=>rw[e2] at h1;cases h1
  |none=>
   rw[e1] at h1
   cases e2:eC m0 t with
   |some y=>rw[e2] at h1;cases h1
   |none=>exact h2
 |[],_::_,h,_=>h.elim
 |_::_,[],h,_=>h.elim
theorem KS.set{a b:List Scp}{m m0:Scp}(h:KS (m::a) (m0::b))(s:List UInt8)(i j:Nat):KS (dV m s i::a) (dV m0 s j::b):=
 ⟨λt=>by
   rw[jZ,jZ]
   split
   ·rfl
   ·exact h.1 t,h.2⟩
theorem Ec{fns:List Fd}{k:Nat}{ch:List Scp}:∀{l:List Ex} {c:Int},l.foldl (dO fns k ch) c=0->c=0/\∀e∈l,dO fns k ch 0 e=0
 |[],c,h=>⟨h,λe he=>by cases he⟩
 |e::r,c,h=>by
  have hc:c=0:=by
   by_cases hc:c=0
   ·exact hc
   ·rw[tS hc] at h;exact(hc h).elim
  subst hc
  rw[List.foldl_cons] at h
  obtain⟨h1,h2⟩:=Ec h
  refine⟨rfl,λx hx=>?_⟩
  rcases List.mem_cons.1 hx with rfl|hx
  ·exact h1
  ·exact h2 x hx
theorem LY{fns:List Fd}{k:Nat}{ch:List Scp}{e:Ex}(h:dO fns k ch 0 e=0)(h2:e.op=2):(cJ ch e.name).isSome=true:=by
 rw[dO,if_pos h2] at h
 by_cases hs:(cJ ch e.name).isSome=true
 ·exact hs
 ·rw[if_neg hs] at h;simp[fl] at h
theorem Qt{ch ch0:List Scp}(hk:KS ch ch0){fns:List Fd}{k:Nat}{l:List Ex}{c:Int}(h:vU fns k ch0 l c=0):∀p∈dB l,p.op=2->scF (-1) ch p.name=scF 0 ch p.name:=λp hp h2=>by
 have h1:=LY ((Ec h).2 p hp) h2
 rw[←hk.fnd] at h1
 obtain⟨n,hn⟩:=Option.isSome_iff_exists.1 h1
 rw[scF,scF,hn]
theorem oP{fns:List Fd}{k:Nat}{l:List Sm}{m:Scp}{up:List Scp}{c:Int}(h:(dX fns k l m up c).2=0):c=0:=by
 by_cases hc:c=0
 ·exact hc
 ·rw[lK fns k hc] at h;exact h
mutual
theorem Qx(fa:List UInt8->Int)(fns:List Fd)(k:Nat):∀(s:Sm) (m m0:Scp) (up up0:List Scp) (nx:Nat) (w:Lw),KS (m::up) (m0::up0)->(icS fns k s m0 up0 0).2=0->
 lwS fa (-1) s m up nx w=lwS fa 0 s m up nx w/\KS ((lwS fa 0 s m up nx w).1::up) ((icS fns k s m0 up0 0).1::up0)
 | .mk o n a bd el,m,m0,up,up0,nx,w,hk,h=>by
   rw[icS] at h⊢
   simp only at h⊢
   obtain⟨c2,hc2⟩:∃c2,c2=opC o n m0 up0 (vU fns k (m0::up0) a 0):=⟨_,rfl⟩
   rw[←hc2] at h
   have hbe:c2=0/\(o=5\/o=6->(dX fns k bd [] (opS o n m0 0::up0) 0).2=0/\(dX fns k el [] (opS o n m0 0::up0) 0).2=0):=by
    by_cases h56:o=5\/o=6
    ·rw[if_pos h56] at h
     have h1:=oP h
     rw[h1] at h
     have h2:=oP h1
     rw[h2] at h1
     exact⟨h2,λ_=>⟨h1,h⟩⟩
    ·rw[if_neg h56] at h
     exact⟨h,λh'=>(h56 h').elim⟩
   obtain⟨e2,hblk⟩:=hbe
   rw[e2] at hc2
   have hce:vU fns k (m0::up0) a 0=0:=by
    by_cases hc:vU fns k (m0::up0) a 0=0
    ·exact hc
    ·rw[Dq hc] at hc2;exact hc2.symm
   have hsc:=Qt hk hce
   have hkm:∀x:Lw,True:=λ_=>trivial
   rw[lwS,lwS]
   by_cases o6:o=6
   ·have hop:opS o n m0 0=m0:=by rw[opS,if_neg (by omega)]
    obtain⟨hb,_⟩:=hblk (.inr o6)
    rw[hop] at hb
    simp only[if_pos o6]
    have hh:∀p∈(a.headD (.mk 0 0 [] [])).pre,p.op=2->scF (-1) (m::up) p.name=scF 0 (m::up) p.name:=by
     cases a with
     |nil=>
      intro p hp h2
      simp[Ex.pre,dB] at hp
      rw[hp] at h2
      simp[Ex.op] at h2
     |cons x r=>exact λp hp=>hsc p (by simp[dB];exact .inl hp)
    rw[GL fa _ _ hh,(yX fa fns k bd [] [] (m::up) (m0::up0) nx _ ⟨λ_=>rfl,hk⟩ hb).1]
    refine⟨rfl,?_⟩
    rw[hop]
    exact hk
   ·simp only[if_neg o6]
    rw[Fp fa a w hsc]
    by_cases o1:o=1
    ·simp only[if_pos o1]
     refine⟨trivial,?_⟩
     rw[opS,if_pos o1]
     exact hk.set n nx 0
    have hop:opS o n m0 0=m0:=by rw[opS,if_neg o1]
    rw[hop]
    simp only[if_neg o1]
    by_cases o2:o=2
    ·simp only[if_pos o2]
     have hf:(cJ (m0::up0) n).isSome=true:=by
      rw[hce,opC,if_neg o1,if_pos o2] at hc2
      by_cases hs:(cJ (m0::up0) n).isSome=true
      ·exact hs
      ·rw[if_neg hs] at hc2;simp[fl] at hc2
     rw[←hk.fnd] at hf
     obtain⟨q,hq⟩:=Option.isSome_iff_exists.1 hf
     rw[scF,scF,hq]
     exact⟨rfl,hk⟩
    simp only[if_neg o2]
    by_cases o3:o=3
    ·simp only[if_pos o3];exact⟨trivial,hk⟩
    simp only[if_neg o3]
    by_cases o4:o=4
    ·simp only[if_pos o4];exact⟨trivial,hk⟩
    simp only[if_neg o4]
    by_cases o5:o=5
    ·simp only[if_pos o5]
     obtain⟨hb,he⟩:=hblk (.inl o5)
     rw[hop] at hb he
     rw[(yX fa fns k bd [] [] (m::up) (m0::up0) nx _ ⟨λ_=>rfl,hk⟩ hb).1,(yX fa fns k el [] [] (m::up) (m0::up0) _ _ ⟨λ_=>rfl,hk⟩ he).1]
     exact⟨rfl,hk⟩
    simp only[if_neg o5]
    split
    ·exact⟨trivial,hk⟩
    ·exact⟨trivial,hk⟩
theorem yX(fa:List UInt8->Int)(fns:List Fd)(k:Nat):∀(l:List Sm) (m m0:Scp) (up up0:List Scp) (nx:Nat) (w:Lw),KS (m::up) (m0::up0)->(dX fns k l m0 up0 0).2=0->
 aM fa (-1) l m up nx w=aM fa 0 l m up nx w/\KS ((aM fa 0 l m up nx w).1::up) ((dX fns k l m0 up0 0).1::up0)
 |[],m,m0,up,up0,nx,w,hk,_=>by rw[aM,aM,dX];exact⟨rfl,hk⟩
 |s::r,m,m0,up,up0,nx,w,hk,h=>by
  rw[dX] at h⊢
  have h1:=oP h
  obtain⟨e1,k1⟩:=Qx fa fns k s m m0 up up0 nx w hk h1
  rw[h1] at h⊢
  rw[aM,aM,e1]
  exact yX fa fns k r _ _ up up0 _ _ k1 h
end
theorem Jk:∀(ps:List (List UInt8)) (m m0:Scp) (i:Nat) (c:Int),KS [m] [m0]->KS [psS ps m i] [(kA ps m0 c).1]
 |[],m,m0,i,c,h=>h
 |p::r,m,m0,i,c,h=>by
  rw[psS]
  have:=Jk r (dV m p i) (dV m0 p 0) (i+1) (if(eC m0 p).isSome then fl c 2 else c) (h.set p i 0)
  simpa[kA] using this
theorem QI(l:List Fd){fns:List Fd}{k:Nat}{f:Fd}{c:Int}(h:icF fns k f c=0):lwF l (-1) f=lwF l 0 f:=by
 rw[icF] at h
 have h0:=oP h
 rw[h0] at h
 have hk:=Jk f.params [] [] 0 (if(match cM fns f.name with|some j=>decide (j<k)|none=>true) then fl c 2 else c) ⟨λ_=>rfl,trivial⟩
 rw[lwF,lwF,(yX (faI l) fns k f.body _ _ [] [] f.params.length _ hk h).1]
theorem BB{fns:List Fd}:∀{l:List Fd} {k:Nat} {c:Int},iK fns k l c=0->∀f∈l,∃k' c',icF fns k' f c'=0
 |[],k,c,h,f,hf=>by cases hf
 |g::r,k,c,h,f,hf=>by
  rw[iK] at h
  rcases List.mem_cons.1 hf with rfl|hf
  ·refine⟨k,c,?_⟩
   by_cases hc:icF fns k f c=0
   ·exact hc
   ·rw[rm fns hc] at h;exact h
  ·exact BB h f hf
theorem Jj{l:List Fd}(h:cB l=0):∀f∈l,lwF l (-1) f=lwF l 0 f:=λf hf=>by
 rw[zt] at h
 split at h
 ·obtain⟨k,c,hi⟩:=BB h f hf
  exact QI l hi
 ·cases h
end
section
def dx(l:List Fd):Bool:=decide (cB l=0)&&unB (unL l)
def iH(l:List Fd):List Cd:=if dx l then unL l else[]
theorem NW{l:List Fd}(h:cB l=0):unR l=unL l:=List.map_congr_left (Jj h)
theorem vn{l:List Fd}(h:cB l=0):Dc 1073741824 (unL l):=by
 have hp:=zu h
 have hs:=mU hp
 have hl:l.length<=4:=((gW l).1 hp).1.2
 exact LX l 0 (by omega) (by omega)
def AT(l:List Fd):Vis Unit where
 I:=λ_=>[.row 1 [[.p (fdL l)]],.row 1 [[.nils]]]
 n:=2
 F:=cD
 caps:=[.ptr 0 1 0 0]
 len:=λ_=>rfl
 ok:=λ_=>by simp[okO,below]
 capsOk:=by simp[below]
variable (G:aH)
theorem Bo{f:Fd->Cd}:∀(l:List Fd) (st:Unit),dK (λ_ x=>(f x,())) st l=(l.map f,())
 |[],_=>rfl
 |x::r,st=>by rw[dK,Bo r];rfl
theorem tz(l:List Fd)(hl:l.length<=1073741824)(f:Fd)(hz:f.sz<=16777216)(hf:∀x∈f.body,aE 4 x=true):AC Tryz.prog G cD [.agg (f.cs.map .p),.ptr 0 1 0 0] ((AT l).I ()) λx h=>x= .ret (.agg ((lwF l 0 f).cs.map .p))/\h=(AT l).I ():=by
 have hfc:=f.cs_eq'
 have hL:=FO G l hl f hz hf
 have hcs:=(lwF l 0 f).cs_eq2
 generalize lwF l 0 f=c at hL hcs
 rw[hfc,hcs] at hL
 refine(AT l).trim G (AC.go nq ?_) (by rw[hcs];simp[below])
 simp-implicitDefEqProofs[gC,AT,hfc]
 refine hL.use ?_
 simp-implicitDefEqProofs[hcs]
theorem nT(hK:G gR=some gf)(hS:G dw=some [.tbl opK opV])(l:List Fd)(hz:bF l<=1073741824):VF Tryz.prog G bX [.agg [.p (fdL l)]] (.tup [.agg [.p (cdL (iH l))],.p (.bool (dx l))]):=by
 have hfl:fdL l= .lst 3 (l.map Fd.cs):=rfl
 have key:AC Tryz.prog G bX [.agg [.p (fdL l)]] [] λx h=>∃V,x= .ret (.tup [.agg [V],.p (.bool (dx l))])/\(V= .p (cdL (iH l))\/(V= .nils/\iH l=[])):=by
  refine AC.go pj ?_
  simp-implicitDefEqProofs[jh]
  refine(OH G hK hS l hz).use ?_
  by_cases h0:cB l=0
  case neg=>
   have hf:dx l=false:=by simp[dx,h0]
   have hu:iH l=[]:=by rw[iH,hf];rfl
   simp-implicitDefEqProofs[h0,hf,hu]
  have hp:=zu h0
  have hs:=mU hp
  have hfm:=uw hp
  have hl4:l.length<=4:=((gW l).1 hp).1.2
  have hM:=HM G (AT l) (λ_ f=>(lwF l 0 f,())) (λ_ _=>True) l (by omega) (by show 0<2;omega) (λi st hi _=>⟨trivial,tz G l (by omega) l[i] (by have:=tX (List.getElem_mem hi);omega) (hfm _ (List.getElem_mem hi))⟩) () trivial
  rw[Bo] at hM
  have hU:=uJ G (unL l) (vn h0)
  simp-implicitDefEqProofs[h0]
  refine hM.mono ?_
  rintro x h ⟨rfl,rfl⟩
  have hul:(l.map λf=>lwF l 0 f)=unL l:=rfl
  simp-implicitDefEqProofs[aa,AT,hul]
  refine hU.use ?_
  cases hb:unB (unL l) with
  |false=>
   have hf:dx l=false:=by simp[dx,h0,hb]
   have hu:iH l=[]:=by rw[iH,hf];rfl
   simp-implicitDefEqProofs[hf,hu]
  |true=>
   have hf:dx l=true:=by simp[dx,h0,hb]
   have hu:iH l=unL l:=by rw[iH,hf,if_pos rfl]
   simp-implicitDefEqProofs[hf,hu]
 refine key.freezeR (λt v h ⟨V,e,_⟩=>by cases e) ?_
 rintro v h ⟨V,e,hV⟩
 cases e
 refine .tup (.agg ?_ (.one (.p _) .nil)) .nil
 rcases hV with rfl|⟨rfl,hu⟩
 ·exact .one (.p _) .nil
 ·rw[hu];exact .one (View.nils 3) .nil
theorem nO(l:List Fd)(hz:bF l<=1073741824):VF Tryz.prog G ca [.agg [.p (fdL l)]] (.tup [.agg [.p (cdL (iH l))],.p (.bool (dx l))]):=by
 have hfl:fdL l= .lst 3 (l.map Fd.cs):=rfl
 have key:AC Tryz.prog G ca [.agg [.p (fdL l)]] [] λx h=>∃V,x= .ret (.tup [.agg [V],.p (.bool (dx l))])/\(V= .p (cdL (iH l))\/(V= .nils/\iH l=[])):=by
  refine AC.go pn ?_
  simp-implicitDefEqProofs[jl]
  refine(JR G l hz).use ?_
  by_cases h0:cB l=0
  case neg=>
   have hf:dx l=false:=by simp[dx,h0]
   have hu:iH l=[]:=by rw[iH,hf];rfl
   simp-implicitDefEqProofs[h0,hf,hu]
  have hp:=zu h0
  have hs:=mU hp
  have hM:=JM G l (by omega) (uw hp)
  rw[NW h0] at hM
  have hU:=ua G (unL l) (vn h0)
  simp-implicitDefEqProofs[h0]
  refine hM.use ?_
  simp-implicitDefEqProofs[]
  refine hU.use ?_
  cases hb:unB (unL l) with
  |false=>
   have hf:dx l=false:=by simp[dx,h0,hb]
   have hu:iH l=[]:=by rw[iH,hf];rfl
   simp-implicitDefEqProofs[hf,hu]
  |true=>
   have hf:dx l=true:=by simp[dx,h0,hb]
   have hu:iH l=unL l:=by rw[iH,hf,if_pos rfl]
   simp-implicitDefEqProofs[hf,hu]
 refine key.freezeR (λt v h ⟨V,e,_⟩=>by cases e) ?_
 rintro v h ⟨V,e,hV⟩
 cases e
 refine .tup (.agg ?_ (.one (.p _) .nil)) .nil
 rcases hV with rfl|⟨rfl,hu⟩
 ·exact .one (.p _) .nil
 ·rw[hu];exact .one (View.nils 3) .nil
def HD(l:List Fd):Int:=if dx l=true then(unN (unL l):Int) else-1
def Dm(l:List Fd)(k:Int):Int:=if dx l=true/\inR k 0 ((l.length:Int)-1)=true then(match(unL l)[k.toNat]? with|some c=>(c.blocks.length:Int)|none=> -1) else-1
theorem oQ{l:List Fd}(h:dx l=true):cB l=0/\unB (unL l)=true:=by
 simpa[dx] using h
theorem CL(hK:G gR=some gf)(hS:G dw=some [.tbl opK opV])(l:List Fd)(hz:bF l<=1073741824):VF Tryz.prog G ie [.agg [.p (fdL l)]] (.p (.int .i64 (HD l))):=by
 refine AC.go tC ?_
 simp-implicitDefEqProofs[mo]
 refine(nT G hK hS l hz).use ?_
 cases hb:dx l with
 |false=>simp-implicitDefEqProofs[HD,hb]
 |true=>
  obtain⟨h0,hu⟩:=oQ hb
  have hI:=EK G (unL l) (vn h0)
  have hlu:iH l=unL l:=by rw[iH,hb,if_pos rfl]
  simp-implicitDefEqProofs[hlu]
  refine hI.use ?_
  simp-implicitDefEqProofs[HD,hb,icU,hu]
theorem DJ(l:List Fd)(hz:bF l<=1073741824):VF Tryz.prog G gL [.agg [.p (fdL l)]] (.p (.int .i64 (HD l))):=by
 refine AC.go th ?_
 simp-implicitDefEqProofs[lH]
 refine(nO G l hz).use ?_
 cases hb:dx l with
 |false=>simp-implicitDefEqProofs[HD,hb]
 |true=>
  obtain⟨h0,hu⟩:=oQ hb
  have hI:=FD G (unL l) (vn h0)
  have hlu:iH l=unL l:=by rw[iH,hb,if_pos rfl]
  simp-implicitDefEqProofs[hlu]
  refine hI.use ?_
  simp-implicitDefEqProofs[HD,hb,icU,hu]
theorem GH(l:List Fd):(unL l).length=l.length:=List.length_map _
theorem AH(hK:G gR=some gf)(hS:G dw=some [.tbl opK opV])(l:List Fd)(hz:bF l<=1073741824)(k:Int):VF Tryz.prog G fG [.agg [.p (fdL l)],.p (.int .i64 k)] (.p (.int .i64 (Dm l k))):=by
 refine AC.go rD ?_
 simp-implicitDefEqProofs[kz]
 refine(nT G hK hS l hz).use ?_
 cases hb:dx l with
 |false=>simp-implicitDefEqProofs[Dm,hb]
 |true=>
  obtain⟨h0,hu⟩:=oQ hb
  have hlu:iH l=unL l:=by rw[iH,hb,if_pos rfl]
  have hl4:l.length<=4:=((gW l).1 (zu h0)).1.2
  have hul:cdL (unL l)= .lst 3 ((unL l).map Cd.cs):=rfl
  have hlen:=GH l
  have hw:IntKind.i64.wrap ((l.length:Int)-1)=(l.length:Int)-1:=af (by omega) (by omega)
  simp-implicitDefEqProofs[hlu,hul,hlen,hw]
  refine(bY G k 0 ((l.length:Int)-1)).use ?_
  cases hk:inR k 0 ((l.length:Int)-1) with
  |false=>simp-implicitDefEqProofs[Dm,hk]
  |true=>
   have hk2:=hk
   simp only[inR,Bool.and_eq_true,decide_eq_true_eq] at hk2
   obtain⟨m,rfl⟩:∃m:Nat,k=m:=⟨k.toNat,by omega⟩
   have hlt:m<(unL l).length:=by omega
   obtain⟨c,hc⟩:∃c,(unL l)[m]?=some c:=⟨_,List.getElem?_eq_getElem hlt⟩
   have hcs:=c.cs_eq2
   have hbl:bkL c.blocks= .lst 5 (c.blocks.map Bk.cs):=rfl
   clear hlt
   simp-implicitDefEqProofs[Dm,hb,hk,hc,hcs,hbl]
theorem Ax(l:List Fd)(hz:bF l<=1073741824)(k:Int):VF Tryz.prog G fA [.agg [.p (fdL l)],.p (.int .i64 k)] (.p (.int .i64 (Dm l k))):=by
 refine AC.go ru ?_
 simp-implicitDefEqProofs[jH]
 refine(nO G l hz).use ?_
 cases hb:dx l with
 |false=>simp-implicitDefEqProofs[Dm,hb]
 |true=>
  obtain⟨h0,hu⟩:=oQ hb
  have hlu:iH l=unL l:=by rw[iH,hb,if_pos rfl]
  have hl4:l.length<=4:=((gW l).1 (zu h0)).1.2
  have hul:cdL (unL l)= .lst 3 ((unL l).map Cd.cs):=rfl
  have hlen:=GH l
  have hw:IntKind.i64.wrap ((l.length:Int)-1)=(l.length:Int)-1:=af (by omega) (by omega)
  simp-implicitDefEqProofs[hlu,hul,hlen,hw]
  refine(cI G k 0 ((l.length:Int)-1)).use ?_
  cases hk:inR k 0 ((l.length:Int)-1) with
  |false=>simp-implicitDefEqProofs[Dm,hk]
  |true=>
   have hk2:=hk
   simp only[inR,Bool.and_eq_true,decide_eq_true_eq] at hk2
   obtain⟨m,rfl⟩:∃m:Nat,k=m:=⟨k.toNat,by omega⟩
   have hlt:m<(unL l).length:=by omega
   obtain⟨c,hc⟩:∃c,(unL l)[m]?=some c:=⟨_,List.getElem?_eq_getElem hlt⟩
   have hcs:=c.cs_eq2
   have hbl:bkL c.blocks= .lst 5 (c.blocks.map Bk.cs):=rfl
   clear hlt
   simp-implicitDefEqProofs[Dm,hb,hk,hc,hcs,hbl]
end
section
variable (G:aH) (hK:G gR=some gf) (hS:G dw=some [.tbl opK opV])
include hK hS
theorem FP(l:List Fd)(hf:LW l):VF Tryz.prog G fI [.agg [.p (fdL l)]] (.p (.bool true)):=by
 refine AC.go ma ?_
 have hsz':VF Tryz.prog G ck [.agg [.p (fdL l)],.p (.int .i64 1048576)] (.p (.int .i64 (bB 1048576 (bF l)))):=uq G l hf 1048576 (Nat.le_refl _)
 simp-implicitDefEqProofs[fJ]
 refine hsz'.use ?_
 by_cases hz:bF l<=1048576
 case neg=>
  rw[bq hz]
  simp-implicitDefEqProofs[]
 have hto:=ut G l hz
 have hnn:¬((1048576-bF l:Nat):Int)<0:=by omega
 rw[cX hz]
 simp-implicitDefEqProofs[hnn]
 refine hto.use ?_
 simp-implicitDefEqProofs[]
 refine(DJ G l (by omega)).use ?_
 simp-implicitDefEqProofs[]
 refine hto.use ?_
 simp-implicitDefEqProofs[]
 refine(CL G hK hS l (by omega)).use ?_
 simp-implicitDefEqProofs[]
 refine hto.use ?_
 simp-implicitDefEqProofs[]
 refine(uG G l hz).use ?_
 simp-implicitDefEqProofs[]
theorem nM(l:List Fd)(hf:LW l)(k:Int):VF Tryz.prog G ew [.agg [.p (fdL l)],.p (.int .i64 k)] (.p (.bool true)):=by
 refine AC.go kF ?_
 have hsz':VF Tryz.prog G ck [.agg [.p (fdL l)],.p (.int .i64 1048576)] (.p (.int .i64 (bB 1048576 (bF l)))):=uq G l hf 1048576 (Nat.le_refl _)
 simp-implicitDefEqProofs[ex]
 refine hsz'.use ?_
 by_cases hz:bF l<=1048576
 case neg=>
  rw[bq hz]
  simp-implicitDefEqProofs[]
 have hto:=ut G l hz
 have hnn:¬((1048576-bF l:Nat):Int)<0:=by omega
 rw[cX hz]
 simp-implicitDefEqProofs[hnn]
 refine hto.use ?_
 simp-implicitDefEqProofs[]
 refine(Ax G l (by omega) k).use ?_
 simp-implicitDefEqProofs[]
 refine hto.use ?_
 simp-implicitDefEqProofs[]
 refine(AH G hK hS l (by omega) k).use ?_
 simp-implicitDefEqProofs[]
 refine hto.use ?_
 simp-implicitDefEqProofs[]
 refine(uG G l hz).use ?_
 simp-implicitDefEqProofs[]
end
end Go.Proofs.YtghpabfdmbdpfaaGreatDoor
namespace Go.Proofs.YtghpabfdmbdpfaaGreatDoor
open Go Go.Aw Go.ChangeShapes Go.WideShapes Go.ChangeAt Go.RowKit
set_option maxRecDepth 100000
abbrev Li:TypeId:=37
abbrev Ny:TypeId:=35
abbrev MW:TypeId:=91
abbrev Fw:TypeId:=30
abbrev BA:TypeId:=9
abbrev rU:TypeId:=89
abbrev ke:TypeId:=177
abbrev vC:TypeId:=175
abbrev nL:TypeId:=221
abbrev De:TypeId:=3
abbrev NL:TypeId:=4
abbrev Fm:TypeId:=205
abbrev Ks:TypeId:=236
abbrev Nr:TypeId:=237
theorem QJ:Kids Tryz.prog (· <Tryz.prog.types.size):=kids_rows (by kernel_rfl) (by kernel_rfl)
theorem QA:∀t e,t<Tryz.prog.types.size->Tryz.prog.underlying t=some (.slice e)->0<Tryz.prog.cellsOf e:=slices_full_of Tryz.prog (by kernel_rfl)
def JK:List TypeId:=[Li,Ny,MW,Fw,BA,rU,ke,vC,nL,De,NL,Fm,Ks]
theorem Fg:Plain Tryz.prog JK=true:=by kernel_rfl
theorem Sc:ownKnob Tryz.prog.godebug=none:=by kernel_rfl
theorem yG{H:Type}:∀l:List (DataW H),Rows.uptoBulkAll l=(l.map Rows.uptoBulk).sum
 |[]=>by simp[Rows.uptoBulkAll]
 |d::r=>by simp[Rows.uptoBulkAll,yG r]
theorem LP{H:Type}:BulkOk (Rows.uptoBulk (H:=H)) where
 lit:=λl=>by cases l<;>simp[Rows.uptoBulk]
 str:=λs=>by simp[Rows.uptoBulk]
 nil:=by simp[Rows.uptoBulk]
 slice:=λes sp=>by simp only[Rows.uptoBulk,yG];omega
 agg:=λps=>by simp only[Rows.uptoBulk,yG];omega
theorem jG{t e:TypeId}{vs:List PV}(h:Conf Tryz.prog t vs)(hu:Tryz.prog.underlying t=some (.slice e)):∃es,vs=[.lst (Tryz.prog.cellsOf e) es]/\es.length<=9223372036854775807/\∀x∈es,Conf Tryz.prog e x:=by
 cases h with
 |sl es e' hl hs=>rw[hu] at e';cases e';exact⟨es,rfl,hl,hs⟩
 |bool b e=>rw[e] at hu;cases hu
 |int n e=>rw[e] at hu;cases hu
 |str s e=>rw[e] at hu;cases hu
 |st vs e=>rw[e] at hu;cases hu
 |arr vs e=>rw[e] at hu;cases hu
theorem HI{vs:List PV}(h:Conf Tryz.prog Fw vs):∃l:List (List UInt8),vs=[aP l]/\l.length<=9223372036854775807/\∀x∈l,x.length<=9223372036854775807:=by
 obtain⟨es,rfl,hl,h4⟩:=jG h (e:=BA) (by kernel_rfl)
 have hk:∀x∈es,∃s:List UInt8,x=[PV.str s]/\s.length<=maxLen:=λx hx=>sN (h4 x hx) (by kernel_rfl)
 obtain⟨l,rfl⟩:=Gk (λs:List UInt8=>[PV.str s]) (λx hx=>by obtain⟨n,e,_⟩:=hk x hx;exact⟨n,e⟩)
 rw[show Tryz.prog.cellsOf BA=1 by kernel_rfl]
 refine⟨l,rfl,by rwa[List.length_map] at hl,λs hs=>?_⟩
 obtain⟨m,e,hw⟩:=hk [PV.str s] (List.mem_map.2 ⟨s,hs,rfl⟩)
 cases e
 exact hw
theorem jM{α β:Type}(g:β->α)(p:β->Prop):∀{es:List α},(∀x∈es,∃m,x=g m/\p m)->∃ms:List β,es=ms.map g/\∀m∈ms,p m
 |[],_=>⟨[],rfl,λm hm=>by cases hm⟩
 |e::r,h=>by
  obtain⟨m,hm,hp⟩:=h e (by simp)
  obtain⟨ms,hms,hps⟩:=jM g p (es:=r) λx hx=>h x (by simp[hx])
  exact⟨m::ms,by simp[hm,hms],λx hx=>by
   rcases List.mem_cons.1 hx with rfl|hx
   ·exact hp
   ·exact hps x hx⟩
theorem te:∀{l:List Ex},(∀e∈l,e.fit)->mC l
 |[],_=>trivial
 |e::r,h=>⟨h e (by simp),te λx hx=>h x (by simp[hx])⟩
theorem oY:∀{l:List Sm},(∀e∈l,e.fit)->jK l
 |[],_=>trivial
 |e::r,h=>⟨h e (by simp),oY λx hx=>h x (by simp[hx])⟩
theorem yv{x:List PV}{es:List (List PV)}(h:x∈es)(sz:Nat):SizeOf.sizeOf x<SizeOf.sizeOf [PV.lst sz es]:=by
 have:=List.sizeOf_lt_of_mem h
 simp
 omega
theorem Mx:∀(n:Nat) (vs:List PV),SizeOf.sizeOf vs<n->Conf Tryz.prog nL vs->∃e:Ex,vs=e.cs/\e.fit:=by
 intro n
 induction n with
 |zero=>intro vs h;omega
 |succ n ih=>
  intro vs hn h
  have h:=vv (ts:=[De,De,BA,vC]) h (by kernel_rfl)
  obtain⟨a,r,rfl,h1,h⟩:=bG h
  obtain⟨b,r,rfl,h2,h⟩:=bG h
  obtain⟨c,r,rfl,h3,h⟩:=bG h
  obtain⟨d,r,rfl,h4,h⟩:=bG h
  cases pf h
  obtain⟨n1,rfl,_⟩:=sJ h1 (k:= .i64) (by kernel_rfl)
  obtain⟨n2,rfl,_⟩:=sJ h2 (k:= .i64) (by kernel_rfl)
  obtain⟨s,rfl,l3⟩:=sN h3 (by kernel_rfl)
  obtain⟨es,rfl,l4,h5⟩:=jG h4 (e:=nL) (by kernel_rfl)
  have hs1:SizeOf.sizeOf [PV.lst (Tryz.prog.cellsOf nL) es]<n+1:=by simp at hn⊢;omega
  obtain⟨l,rfl,hl⟩:=jM Ex.cs Ex.fit (λx hx=>ih x (by have:=yv hx (Tryz.prog.cellsOf nL);omega) (h5 x hx))
  refine⟨⟨n1,n2,s,l⟩,?_,?_⟩
  ·rw[show Tryz.prog.cellsOf nL=4 by kernel_rfl,Ex.cs_eq];rfl
  ·exact⟨l3,by rwa[List.length_map] at l4,te hl⟩
theorem Jc{vs:List PV}(h:Conf Tryz.prog vC vs):∃l:List Ex,vs=[exL l]/\l.length<=BL/\mC l:=by
 obtain⟨es,rfl,l4,h5⟩:=jG h (e:=nL) (by kernel_rfl)
 obtain⟨l,rfl,hl⟩:=jM Ex.cs Ex.fit (λx hx=>Mx _ x (Nat.lt_succ_self _) (h5 x hx))
 rw[show Tryz.prog.cellsOf nL=4 by kernel_rfl]
 exact⟨l,rfl,by rwa[List.length_map] at l4,te hl⟩
theorem Mj:∀(n:Nat) (vs:List PV),SizeOf.sizeOf vs<n->Conf Tryz.prog ke vs->∃e:Sm,vs=e.cs/\e.fit:=by
 intro n
 induction n with
 |zero=>intro vs h;omega
 |succ n ih=>
  intro vs hn h
  have h:=vv (ts:=[De,BA,vC,rU,rU]) h (by kernel_rfl)
  obtain⟨a,r,rfl,h1,h⟩:=bG h
  obtain⟨b,r,rfl,h2,h⟩:=bG h
  obtain⟨c,r,rfl,h3,h⟩:=bG h
  obtain⟨d,r,rfl,h4,h⟩:=bG h
  obtain⟨d',r,rfl,h4',h⟩:=bG h
  cases pf h
  obtain⟨n1,rfl,_⟩:=sJ h1 (k:= .i64) (by kernel_rfl)
  obtain⟨s,rfl,l3⟩:=sN h2 (by kernel_rfl)
  obtain⟨ar,rfl,la,fa⟩:=Jc h3
  obtain⟨es,rfl,l4,h5⟩:=jG h4 (e:=ke) (by kernel_rfl)
  obtain⟨es',rfl,l4',h5'⟩:=jG h4' (e:=ke) (by kernel_rfl)
  have hs1:SizeOf.sizeOf [PV.lst (Tryz.prog.cellsOf ke) es]<n+1:=by simp at hn⊢;omega
  have hs2:SizeOf.sizeOf [PV.lst (Tryz.prog.cellsOf ke) es']<n+1:=by simp at hn⊢;omega
  obtain⟨l,rfl,hl⟩:=jM Sm.cs Sm.fit (λx hx=>ih x (by have:=yv hx (Tryz.prog.cellsOf ke);omega) (h5 x hx))
  obtain⟨l',rfl,hl'⟩:=jM Sm.cs Sm.fit (λx hx=>ih x (by have:=yv hx (Tryz.prog.cellsOf ke);omega) (h5' x hx))
  refine⟨⟨n1,s,ar,l,l'⟩,?_,?_⟩
  ·rw[show Tryz.prog.cellsOf ke=5 by kernel_rfl,Sm.cs_eq];rfl
  ·exact⟨l3,⟨la,fa⟩,⟨by rwa[List.length_map] at l4,oY hl⟩,⟨by rwa[List.length_map] at l4',oY hl'⟩⟩
theorem KP{vs:List PV}(h:Conf Tryz.prog rU vs):∃l:List Sm,vs=[smL l]/\l.length<=BL/\jK l:=by
 obtain⟨es,rfl,l4,h5⟩:=jG h (e:=ke) (by kernel_rfl)
 obtain⟨l,rfl,hl⟩:=jM Sm.cs Sm.fit (λx hx=>Mj _ x (Nat.lt_succ_self _) (h5 x hx))
 rw[show Tryz.prog.cellsOf ke=5 by kernel_rfl]
 exact⟨l,rfl,by rwa[List.length_map] at l4,oY hl⟩
theorem MG{vs:List PV}(h:Conf Tryz.prog MW vs):∃f:Fd,vs=f.cs/\f.fit:=by
 have h:=vv (ts:=[BA,Fw,rU]) h (by kernel_rfl)
 obtain⟨a,r,rfl,h1,h⟩:=bG h
 obtain⟨b,r,rfl,h2,h⟩:=bG h
 obtain⟨c,r,rfl,h3,h⟩:=bG h
 cases pf h
 obtain⟨s,rfl,l1⟩:=sN h1 (by kernel_rfl)
 obtain⟨ws,rfl,l2,w2⟩:=HI h2
 obtain⟨bd,rfl,l3,f3⟩:=KP h3
 exact⟨⟨s,ws,bd⟩,rfl,l1,⟨l2,w2⟩,l3,f3⟩
theorem IA{vs:List PV}(h:Conf Tryz.prog Li vs):∃l:List Fd,vs=[fdL l]/\LW l:=by
 have h:=vv (ts:=[Ny]) h (by kernel_rfl)
 obtain⟨a,r,rfl,h1,h⟩:=bG h
 cases pf h
 obtain⟨es,rfl,l4,h5⟩:=jG h1 (e:=MW) (by kernel_rfl)
 obtain⟨l,rfl,hl⟩:=jM Fd.cs Fd.fit (λx hx=>MG (h5 x hx))
 rw[show Tryz.prog.cellsOf MW=3 by kernel_rfl]
 exact⟨l,rfl,by rwa[List.length_map] at l4,hl⟩
def G0:aH:=λg=>if g=gR then some gf else if g=dw then some [.tbl opK opV] else none
theorem Oy:∀k,gO Tryz.prog (k+10) Fm (Rows.laid_loop_example_wholeway_impl_keys (H:=Unit))=gf:=λk=>by kernel_rfl
theorem RK{W:World}{laid:List (String × DataW Unit)}(hL:laidMet Tryz.prog laid W)(h1:("loop.example/wholeway/impl.keys",Rows.laid_loop_example_wholeway_impl_keys)∈laid)(h2:("loop.example/wholeway/impl.opSign",Rows.laid_loop_example_wholeway_impl_opSign)∈laid):
 ∀g cs,G0 g=some cs->g<W.heap.size/\∀(j:Nat) (c:PV),cs[j]?=some c->∃v,W.cell? ⟨g,j,none⟩=some v/\PRel W (· <W.heap.size) c v:=by
 intro g cs h
 unfold G0 at h
 split at h
 ·rename_i e;subst e;cases h
  exact HO Fg hL (n:= "loop.example/wholeway/impl.keys") (d:=Rows.laid_loop_example_wholeway_impl_keys) (t:=Fm) h1 (by kernel_rfl) (by kernel_rfl) (by decide) Oy
 ·split at h
  ·rename_i e;subst e;cases h
   exact IV Fg hL (n:= "loop.example/wholeway/impl.opSign") h2 (t:=Nr) (k:=De) (e:=Ks) (by kernel_rfl) (by kernel_rfl) (by kernel_rfl) (.inl ⟨.i64,by kernel_rfl⟩) (by decide) (by kernel_rfl) (by kernel_rfl) (λm=>by kernel_rfl)
  ·cases h
end Go.Proofs.YtghpabfdmbdpfaaGreatDoor
