/-
  Contracts and lemmas that the card needs, part 8.
-/
import Derived.Test.YtghpabfdmbdpfaaGreatDoorKc7
namespace Go.Proofs.YtghpabfdmbdpfaaGreatDoor
open Go Go.Aw
set_option maxRecDepth 100000
set_option maxHeartbeats 4000000
section
theorem ss:AK.whole fW=FK.ak fZ:=rfl
theorem Ec(fns:List Fd):∀(a b:List Fd) (k:Nat) (c:Int),jX fns k (a++b) c=jX fns (k+a.length) b (jX fns k a c)
 |[],b,k,c=>rfl
 |f::r,b,k,c=>by rw[Xu,jX,jX,Ec fns r];congr 1;simp only[Xb];omega
theorem IC{fns l:List Fd}{i:Nat}{c:Int}(h:i<l.length):jX fns 0 (l.take (i+1)) c=icF fns i l[i] (jX fns 0 (l.take i) c):=by
 rw[an h,Ec,Xi,Nat.min_eq_left (Nat.le_of_lt h),XD];rfl
theorem OX(a b:List (List UInt8))(m:Scp)(c:Int):lL (a++b) m c=lL b (lL a m c).1 (lL a m c).2:=by simp[lL]
theorem Lz{l:List (List UInt8)}{i:Nat}{m:Scp}{c:Int}(h:i<l.length):lL (l.take (i+1)) m c=(fu (lL (l.take i) m c).1 l[i] 0,if(fU (lL (l.take i) m c).1 l[i]).isSome then fl (lL (l.take i) m c).2 2 else(lL (l.take i) m c).2):=by
 rw[an h,OX];rfl
variable (G:aL) (hK:G iQ=some gV) (hS:G dJ=some [.tbl opK opV])
include hK hS
theorem CE(l:List Fd)(hl:aY l<=1073741824):VF Tryz.prog G gf [.agg [.p (fdL l)]] (.p (.int .i64 (cm l))):=by
 have hll:=dQ l
 have hfl:∀l,fdL l= .lst 3 (l.map Fd.cs):=λ_=>rfl
 rw[AH]
 refine AC.goK sb ss ?_
 simp-implicitDefEqProofs[fW,fZ]
 refine(Cj G hK hS l hl).use ?_
 by_cases hv:bu l=true
 case neg=>
  have hv':bu l=false:=by simpa using hv
  simp-implicitDefEqProofs[hv']
 rw[if_pos hv]
 simp-implicitDefEqProofs[hv,hfl]
 refine aM (λi:Nat=>aC 73 [(1,.ptr 0 1 0 0),(3,.ptr 1 3 0 0),(18,.p (fdL l)),(19,.p (.int .i64 l.length)),(20,.p (.int .i64 i))])
  (λi=>[.row 1 [[.p (fdL l)]],cO l (i-1) (jX l 0 (l.take i) 0)]) (λi=>i<=l.length) (λi=>l.length-i) 0 (by simp) ?_ ?_
 ·refine al (h:=[.row 1 [[.p (fdL l)]],cO l 0 0]) (by simp) (by simp[okO,below,cO]) (by simp[below,hfl])
 intro i hi
 have hbo:okO 0 (.row 1 [[.p (fdL l)]]):=by simp[okO]
 simp-implicitDefEqProofs[hfl]
 refine aO (λh=>?_) (λh=>?_)
 ·simp at h
  have hg:=WK h
  have hks:=ff (WY h)
  have eT:=IC (fns:=l) (c:=0) h
  obtain⟨j,ej,ejl⟩:=DE hg
  generalize l[i]=f at*
  have hcs:f.cs=[.str f.name,aN f.params,smL f.body]:=rfl
  have hfz:f.sz=1+f.name.length+(f.params.length+(f.params.map List.length).sum)+aD f.body:=rfl
  have hst:aN f.params= .lst 1 (f.params.map λw=>[.str w]):=rfl
  generalize jX l 0 (l.take i) 0=c0 at eT⊢
  simp-implicitDefEqProofs[hg,hcs,cO]
  have hic:icF l i f c0=(fp l i f.body (lL f.params [] (if j<i then fl c0 2 else c0)).1 [] (lL f.params [] (if j<i then fl c0 2 else c0)).2).2:=by
   rw[icF,ej];simp
  rw[hic] at eT
  clear hic
  refine oe (aC 73 [(1,.ptr 0 1 0 0),(3,.ptr 1 3 0 0),(4,.p (.int .i64 i)),(5,.ptr 2 3 0 0),(18,.p (fdL l)),(19,.p (.int .i64 l.length)),(20,.p (.int .i64 i))])
   [.row 1 [[.p (fdL l)]],cO l i (if j<i then fl c0 2 else c0),.row 3 [[.p (.str f.name),.p (aN f.params),.p (smL f.body)]]] ?_ ?_
  ·simp-implicitDefEqProofs[]
   refine(IJ G l f.name (by omega)).use ?_
   rw[ej]
   by_cases hj:j<i
   ·have hj':(j:Int)<(i:Int):=by omega
    rw[if_pos hj]
    simp-implicitDefEqProofs[ixI,hj']
    refine(Fj G (.row 1 [[.p (fdL l)]]) l i c0 2 [.row 3 [[.p (.str f.name),.p (aN f.params),.p (smL f.body)]]]).mono ?_
    rintro r h ⟨rfl,rfl⟩
    simp-implicitDefEqProofs[aa]
    exact al (by simp) (by simp[okO,below,cO]) (by simp[below,hfl])
   ·have hj':¬(j:Int)<(i:Int):=by omega
    rw[if_neg hj]
    simp-implicitDefEqProofs[ixI,hj']
    exact al (h:=[.row 1 [[.p (fdL l)]],cO l i c0,.row 3 [[.p (.str f.name),.p (aN f.params),.p (smL f.body)]]]) (by simp) (by simp[okO,below,cO]) (by simp[below,hfl])
  generalize (if j<i then fl c0 2 else c0)=c1 at eT⊢
  have hCH:∀(c:Int) (m:Scp),CH (.row 1 [[.p (fdL l)]]) l i c [⟨[.row 3 [[.p (.str f.name),.p (aN f.params),.p (smL f.body)]]],m⟩]=[.row 1 [[.p (fdL l)]],cO l i c,.row 3 [[.p (.str f.name),.p (aN f.params),.p (smL f.body)]],.mp (mpE m),.row 2 [[.mp 3,.nilp]]]:=λ_ _=>rfl
  simp-implicitDefEqProofs[]
  refine(ow G .nilp (.inl rfl) _).mono ?_
  rintro r h ⟨rfl,rfl⟩
  simp-implicitDefEqProofs[aa,hst]
  refine aM (λq:Nat=>aC 73 [(1,.ptr 0 1 0 0),(3,.ptr 1 3 0 0),(4,.p (.int .i64 i)),(5,.ptr 2 3 0 0),(6,.ptr 4 2 0 0),(18,.p (fdL l)),(19,.p (.int .i64 l.length)),(20,.p (.int .i64 i)),(39,.p (aN f.params)),(40,.p (.int .i64 f.params.length)),(41,.p (.int .i64 q))])
   (λq=>[.row 1 [[.p (fdL l)]],cO l i (lL (f.params.take q) [] c1).2,.row 3 [[.p (.str f.name),.p (aN f.params),.p (smL f.body)]],.mp (mpE (lL (f.params.take q) [] c1).1),.row 2 [[.mp 3,.nilp]]])
   (λq=>q<=f.params.length) (λq=>f.params.length-q) 0 (by simp) ?_ ?_
  ·exact al (h:=[.row 1 [[.p (fdL l)]],cO l i c1,.row 3 [[.p (.str f.name),.p (aN f.params),.p (smL f.body)]],.mp [],.row 2 [[.mp 3,.nilp]]]) (by simp) (by simp[okO,below,cO]) (by simp[below,hfl,hst])
  intro q hq
  have eP:=λh=>Lz (l:=f.params) (i:=q) (m:=[]) (c:=c1) h
  generalize hP:lL (f.params.take q) [] c1=st at eP⊢
  obtain⟨mq,cq⟩:=st
  simp only at eP⊢
  simp-implicitDefEqProofs[hst]
  refine aO (λhc=>?_) (λhc=>?_)
  ·simp at hc
   have hga:=WK hc
   have eP:=eP hc
   generalize f.params[q]=nme at hga eP
   have hmg:=nJ nme mq
   have hms:lz (.str nme) (.p (.int .i64 0)) (mpE mq)=some (mpE (fu mq nme 0)):=by simpa using rh nme 0 mq
   have fin:∀(r1:List (Nat × AV)) (c2:Int),Aw.look r1 1= .ptr 0 1 0 0->Aw.look r1 3= .ptr 1 3 0 0->Aw.look r1 4= .p (.int .i64 i)->Aw.look r1 5= .ptr 2 3 0 0->Aw.look r1 6= .ptr 4 2 0 0->Aw.look r1 18= .p (fdL l)->Aw.look r1 19= .p (.int .i64 l.length)->Aw.look r1 20= .p (.int .i64 i)->Aw.look r1 39= .p (aN f.params)->Aw.look r1 40= .p (.int .i64 f.params.length)->Aw.look r1 41= .p (.int .i64 ((q:Int)+1))->
    Wk 0 (aC 73 r1) [.row 1 [[.p (fdL l)]],cO l i c2,.row 3 [[.p (.str f.name),.p (aN f.params),.p (smL f.body)]],.mp (mpE (fu mq nme 0)),.row 2 [[.mp 3,.nilp]]]
     (aC 73 [(1,.ptr 0 1 0 0),(3,.ptr 1 3 0 0),(4,.p (.int .i64 i)),(5,.ptr 2 3 0 0),(6,.ptr 4 2 0 0),(18,.p (fdL l)),(19,.p (.int .i64 l.length)),(20,.p (.int .i64 i)),(39,.p (aN f.params)),(40,.p (.int .i64 f.params.length)),(41,.p (.int .i64 ((q:Int)+1)))])
     [.row 1 [[.p (fdL l)]],cO l i c2,.row 3 [[.p (.str f.name),.p (aN f.params),.p (smL f.body)]],.mp (mpE (fu mq nme 0)),.row 2 [[.mp 3,.nilp]]]:=by
    intro r1 c2 e1 e3 e4 e5 e6 e18 e19 e20 e39 e40 e41
    refine al (by simp) (au (by simp[okO]) (au (by simp[okO,cO]) (au (by simp[okO]) (au (FH _ _) (au (by simp[okO,below]) dq))))) ?_
    simp[below,e1,e3,e4,e5,e6,e18,e19,e20,e39,e40,e41]
   cases hh:fU mq nme with
   |none=>
    rw[hh] at hmg eP
    simp-implicitDefEqProofs[hga,hmg,hms]
    refine⟨q+1,by omega,by omega,?_⟩
    rw[eP]
    exact fin _ _ (by simp) (by simp) (by simp) (by simp) (by simp) (by simp[hfl]) (by simp) (by simp) (by simp[hst]) (by simp) (by simp[w1 (i:=q) (by omega)])
   |some n=>
    rw[hh] at hmg eP
    simp-implicitDefEqProofs[hga,hmg,hms]
    refine(Fj G (.row 1 [[.p (fdL l)]]) l i cq 2 _).mono ?_
    rintro r h ⟨rfl,rfl⟩
    simp-implicitDefEqProofs[aa,hms]
    refine⟨q+1,by omega,by omega,?_⟩
    rw[eP]
    exact fin _ _ (by simp) (by simp) (by simp) (by simp) (by simp) (by simp[hfl]) (by simp) (by simp) (by simp[hst]) (by simp) (by simp[w1 (i:=q) (by omega)])
  ·simp at hc
   have hqe:q=f.params.length:=by omega
   subst hqe
   rw[Xk] at hP
   rw[hP] at eT
   simp only at eT
   have hB:=PP G (.row 1 [[.p (fdL l)]]) (fns:=l) (k:=i) (by omega) (by omega) hbo (aD f.body+1) f.body (by omega) (by omega) [.row 3 [[.p (.str f.name),.p (aN f.params),.p (smL f.body)]]] mq [] cq ⟨by simp[okO],trivial⟩
   rw[hCH] at hB
   simp-implicitDefEqProofs[]
   refine hB.mono ?_
   rintro r h ⟨rfl,rfl⟩
   simp-implicitDefEqProofs[aa]
   refine⟨i+1,by omega,by omega,?_⟩
   rw[eT]
   refine dv (m:=2) (by omega) (bT rfl rfl (by simp[okO,below,cO])) (by simp[below,hfl,w1 (i:=i) (by omega)])
 ·simp at h
  have hie:i=l.length:=by omega
  subst hie
  rw[Xk]
  simp-implicitDefEqProofs[cO]
end
section
theorem Fd.cs_eq'(f:Fd):f.cs=[.str f.name,aN f.params,smL f.body]:=rfl
variable (G:aL)
end
section
def LG(f:Fd):Nat:=f.params.length+aX f.body
def zh(st:Int)(x:Sm × Nat):Int:=if x.1.op=1 then IntKind.i64.wrap (st+1) else st
mutual
theorem Pf:∀(s:Sm) (d:Nat) (st:Int),0<=st->st+vS s<=1099511627776->(s.pre d).foldl zh st=st+vS s
 | .mk o n a bd el,d,st,h0,h=>by
   rw[vS] at h
   have h1:=An bd (d+1)
   have h2:=An el (d+1)
   rw[Sm.pre,List.foldl_cons,List.foldl_append,vS]
   by_cases ho:o=1
   ·have e:zh st (⟨o,n,a,bd,el⟩,d)=st+1:=by show(if o=1 then _ else _)=_;rw[if_pos ho,ab (by omega) (by rw[if_pos ho] at h;omega)]
    rw[if_pos ho] at h⊢
    rw[e,h1 _ (by omega) (by omega),h2 _ (by omega) (by omega)]
    omega
   ·have e:zh st (⟨o,n,a,bd,el⟩,d)=st:=by show(if o=1 then _ else _)=_;rw[if_neg ho]
    rw[if_neg ho] at h⊢
    rw[e,h1 _ (by omega) (by omega),h2 _ (by omega) (by omega)]
    omega
theorem An:∀(l:List Sm) (d:Nat) (st:Int),0<=st->st+aX l<=1099511627776->(bS d l).foldl zh st=st+aX l
 |[],d,st,_,_=>by simp[bS,aX]
 |s::r,d,st,h0,h=>by
  rw[aX] at h
  rw[bS,List.foldl_append,Pf s d st h0 (by omega),An r d _ (by omega) (by omega),aX]
  omega
end
def Jc(f:Fd):Vis Int where
 I:=λst=>[.row 3 [[.p (.str f.name),.p (aN f.params),.p (smL f.body)]],.row 1 [[.p (.int .i64 st)]]]
 n:=2
 F:=eQ
 caps:=[.ptr 1 1 0 0]
 len:=λ_=>rfl
 ok:=λst=>by simp[okO,below]
 capsOk:=by simp[below]
variable (G:aL)
theorem EP(f:Fd)(st:Int)(s:Sm)(d:Nat):AC Tryz.prog G eQ [.agg (s.cs.map .p),.p (.int .i64 d),.ptr 1 1 0 0] ((Jc f).I st) λx h=>x= .ret (.tup [])/\h=(Jc f).I (zh st (s,d)):=by
 refine(Jc f).trim G (AC.go uT ?_) (by simp[below])
 have hse:=s.cs_eq
 by_cases ho:s.op=1
 ·simp-implicitDefEqProofs[iE,hse,Jc,zh,ho]
 ·simp-implicitDefEqProofs[iE,hse,Jc,zh,ho]
theorem Jj(f:Fd)(hb:f.sz<=1073741824):VF Tryz.prog G ky [.agg (f.cs.map .p)] (.p (.int .i64 (LG f))):=by
 have hcs:=f.cs_eq'
 have hfz:f.sz=1+f.name.length+(f.params.length+(f.params.map List.length).sum)+aD f.body:=rfl
 have hl:=im f.body
 have hl2:=ir f.body
 have hst:aN f.params= .lst 1 (f.params.map λw=>[.str w]):=rfl
 have hI:=(Kb G (Jc f) zh (λ_=>True) 1073741824 (by omega) (λst s d _ _=>⟨trivial,EP G f st s d⟩) (aD f.body+1) f.body (by omega) (by omega) 1 (by omega) (f.params.length:Int) trivial).2
 rw[An f.body 1 f.params.length (by omega) (by omega)] at hI
 refine AC.go zN ?_
 simp-implicitDefEqProofs[pg,hcs,hst]
 refine hI.mono ?_
 rintro r h ⟨rfl,rfl⟩
 simp-implicitDefEqProofs[aa,Jc,LG]
theorem Bi(l:List Fd)(hz:aY l<=1073741824):VF Tryz.prog G jD [.agg [.p (fdL l)]] (.p (.bool (decide (cm l=0)))):=by
 refine AC.go CV ?_
 simp-implicitDefEqProofs[sw]
 refine(CB G l hz).use ?_
 simp-implicitDefEqProofs[]
variable (hK:G iQ=some gV) (hS:G dJ=some [.tbl opK opV])
include hK hS
theorem RX(l:List Fd)(hz:aY l<=1073741824):VF Tryz.prog G re [.agg [.p (fdL l)]] (.p (.bool (decide (cm l=0)))):=by
 refine AC.go Fu ?_
 simp-implicitDefEqProofs[zz]
 refine(CE G hK hS l hz).use ?_
 simp-implicitDefEqProofs[]
end
section
theorem Jp:∀(a b:List (List UInt8)) (m:Scp) (i:Nat),psS (a++b) m i=psS b (psS a m i) (i+a.length)
 |[],b,m,i=>by simp[psS]
 |p::r,b,m,i=>by rw[Xu,psS,psS,Jp r];simp;congr 1;omega
theorem GR{l:List (List UInt8)}{i:Nat}(h:i<l.length)(m:Scp):psS (l.take (i+1)) m 0=fu (psS (l.take i) m 0) l[i] i:=by
 rw[an h,Jp,psS,psS,Xi,Nat.min_eq_left (by omega),XD]
variable (G:aL)
theorem Pc{l:List Fd}{pr:Int}{L n:Nat}{h:List AO}(hg:h[L]?=some (.row 5 [[.p (fdL l),.p (.int .i64 pr),.p (.int .i64 n),.nils,.p (.int .i64 0)]])):
 AC Tryz.prog G be [.ptr L 5 0 0,.p (.int .i64 1)] h λr h'=>r= .ret (.p (.int .i64 0))/\h'=(h++[AO.row 5 [[.nils,.nils,.p (.int .i64 0),.p (.int .i64 0),.nils]]]).set L (lwO l pr ⟨n,[bk0],0⟩ (.sl h.length 5 0 1)):=by
 have hLl:=(WJ.1 hg).1
 have hgt:∀t,(h++t)[L]?=some (.row 5 [[.p (fdL l),.p (.int .i64 pr),.p (.int .i64 n),.nils,.p (.int .i64 0)]]):=λt=>by rw[WI hLl];exact hg
 refine AC.go ki ?_
 simp-implicitDefEqProofs[fb,hg,hgt,lwO]
theorem LD(l:List Fd)(hl:l.length<=1073741824)(f:Fd)(hz:f.sz<=16777216)(hf:∀x∈f.body,aK 4 x=true):AC Tryz.prog G iO [.agg [.p (fdL l)],.agg (f.cs.map .p)] [] (MkW .agg false (lwF l 0 f).cs):=by
 have hfc:=f.cs_eq'
 have hfz:f.sz=1+f.name.length+(f.params.length+(f.params.map List.length).sum)+aD f.body:=rfl
 have hst:aN f.params= .lst 1 (f.params.map λw=>[.str w]):=rfl
 have hvn:LG f=f.params.length+aX f.body:=rfl
 have hlet:=XF (im f.body) (ir f.body)
 have hvI:(LG f:Int)=((f.params.length+aX f.body:Nat):Int):=rfl
 refine AC.go Bq ?_
 simp-implicitDefEqProofs[pO,hfc,hst]
 have hvc:=Jj G f (by omega)
 rw[hfc,hst] at hvc
 refine hvc.use ?_
 simp-implicitDefEqProofs[]
 refine(ow G .nilp (.inl rfl) _).mono ?_
 rintro r h ⟨rfl,rfl⟩
 simp-implicitDefEqProofs[aa]
 refine aM (λi:Nat=>aC 65 [(3,.ptr 1 3 0 0),(4,.ptr 2 3 0 0),(5,.ptr 3 5 0 0),(6,.ptr 5 2 0 0),(27,.p (aN f.params)),(28,.p (.int .i64 f.params.length)),(29,.p (.int .i64 i))])
  (λi=>[.row 1 [[.p (fdL l)]],.row 3 [[.p (.str f.name),.p (aN f.params),.p (smL f.body)]],.row 3 [[.p (.int .i64 0),.p (.int .i64 0),.nils]],.row 5 [[.p (fdL l),.p (.int .i64 f.params.length),.p (.int .i64 (LG f)),.nils,.p (.int .i64 0)]],.mp (mpE (psS (f.params.take i) [] 0)),.row 2 [[.mp 4,.nilp]]]) (λi=>i<=f.params.length) (λi=>f.params.length-i) 0 (by simp) ?_ ?_
 ·have e0:mpE (psS (f.params.take 0) [] 0)=[]:=rfl
  rw[e0,hst]
  exact aq (by simp) (by simp[below])
 intro i hi
 simp-implicitDefEqProofs[hst]
 refine aO (λhc=>?_) (λhc=>?_)
 ·simp at hc
  have hg:=WK hc
  have hps:=GR hc []
  have hms:=rh f.params[i] i (psS (f.params.take i) [] 0)
  simp-implicitDefEqProofs[hg,hms]
  refine⟨i+1,by omega,by omega,?_⟩
  rw[hps]
  exact aq (by simp) (by simp[below,hst,w1 (i:=i) (by omega)])
 ·simp at hc
  have hie:i=f.params.length:=by omega
  subst hie
  rw[Xk]
  obtain⟨m,hm⟩:∃m,m=psS f.params [] 0:=⟨_,rfl⟩
  rw[←hm]
  simp-implicitDefEqProofs[]
  have hn0:=Pc G (l:=l) (pr:=f.params.length) (L:=3) (n:=f.params.length+aX f.body) (h:=[.row 1 [[.p (fdL l)]],.row 3 [[.p (.str f.name),.p (aN f.params),.p (smL f.body)]],.row 3 [[.p (.int .i64 0),.p (.int .i64 0),.nils]],.row 5 [[.p (fdL l),.p (.int .i64 f.params.length),.p (.int .i64 (LG f)),.nils,.p (.int .i64 0)]],.mp (mpE m),.row 2 [[.mp 4,.nilp]]]) rfl
  rw[hst] at hn0
  refine hn0.mono ?_
  rintro x X1 ⟨rfl,rfl⟩
  obtain⟨w0,hw0⟩:∃w0:Lw,w0=⟨f.params.length+aX f.body,[bk0],0⟩:=⟨_,rfl⟩
  rw[←hw0]
  simp-implicitDefEqProofs[aa,lwO]
  obtain⟨H0,hH0⟩:∃H0,H0=[AO.row 1 [[.p (fdL l)]],.row 3 [[.p (.str f.name),.p (.lst 1 (f.params.map λw=>[.str w])),.p (smL f.body)]],.row 3 [[.p (.int .i64 0),.p (.int .i64 0),.nils]],.row 5 [[.p (fdL l),.p (.int .i64 f.params.length),.p (.int .i64 w0.regs),.sl 6 5 0 1,.p (.int .i64 w0.pos)]],.mp (mpE m),.row 2 [[.mp 4,.nilp]],.row 5 [[.nils,.nils,.p (.int .i64 0),.p (.int .i64 0),.nils]],.row 1 [[.p (.int .i64 f.params.length)]]]:=⟨_,rfl⟩
  rw[←hH0]
  have hls:LS (lwO l f.params.length) 3 w0 H0 (.sl 6 5 0 1) [6]:=by
   have hr:RowOwn false H0 6 5 [[.nils,.nils,.p (.int .i64 0),.p (.int .i64 0),.nils]] [bk0.cs] []:=⟨by rw[hH0];rfl,rfl,by simp,by simp[Bk.cs],.nils 2 (.nils 4 (.p _ (λ_=>rfl) (.p _ (λ_=>rfl) (.nils 1 .nil)))),by simp⟩
   refine⟨by rw[hH0];rfl,?_,by simp,λq e=>(by cases e),λkid n rows eK hg r hr'=>?_⟩
   ·rw[hw0];exact hr.tree rfl
   ·cases eK
    rw[hr.here] at hg
    cases hg
    rw[WR.1 hr']
    intro q;simp
  have hok:w0.Ok (f.sz+1):=by
   rw[hw0]
   exact⟨by show f.params.length+aX f.body<=_;omega,by show 1<=_;omega,λb hb=>by rw[WR.1 hb];show 0<=_;omega,by show 0<1;omega⟩
  have hblk:=MA G l hl f.params.length 3 4 f.body hf w0 H0 (.sl 6 5 0 1) [6] (f.sz+1) [] 5 4 m [] 7 f.params.length hls hok (by omega) (by omega) (.cons _ _ _ _ _ _ (by rw[hH0];rfl) (by rw[hH0];rfl) .nil) (by simp) (by rw[hH0];rfl) (by simp) (by simp)
  have okb:=dD (faI l) 0 f.body m [] f.params.length w0 _ hok
  obtain⟨y,hy⟩:∃y,y=aU (faI l) 0 f.body m [] f.params.length w0:=⟨_,rfl⟩
  rw[←hy] at hblk okb
  refine hblk.mono ?_
  rintro x X2 ⟨rfl,K2,I2,a1,a2,a3,_,_⟩
  have hH8:H0.length=8:=by rw[hH0];rfl
  have T2:Stb (lwO l f.params.length) 3 [3,7,4,6] [6] [2] H0 y.2.2 X2 K2 I2:=⟨a1,a2,by simp,by simp,a3,λi hi=>by
   rw[WR.1 hi]
   have h1:=a2.1
   refine⟨by omega,?_⟩
   simp only[WN,not_or]
   refine⟨by omega,λhm=>?_⟩
   rcases a3 2 hm with h|h
   ·simp at h
   ·omega⟩
  have b2:X2[2]?=some (.row 3 [[.p (.int .i64 0),.p (.int .i64 0),.nils]]):=by rw[a2.2 2 (by omega) (by simp),hH0];rfl
  have l2:=T2.ls.here
  simp only[lwO] at l2
  simp-implicitDefEqProofs[aa,l2]
  refine(uK G T2.ls okb.1 (by omega) 1 0 [] (A:= .nils) (J:=[]) (.nils 1 .nil) List.nodup_nil (λj hj=>by cases hj)).mono ?_
  rintro x X3 ⟨rfl,hlr⟩
  obtain⟨K3,I3,T3,e3⟩:=T2.step (J:=[]) (λj hj=>by cases hj) hlr
  have ok3:=okb.1.mk' 1 0 []
  have b3:=(e3 2 (by simp)).trans b2
  have l3:=T3.ls.here
  simp only[lwO] at l3
  have hp3:(y.2.2.mk' 1 0 []).pos=y.2.2.pos:=rfl
  simp-implicitDefEqProofs[aa,l3,hp3]
  refine(nk G T3.ls ok3 3 y.2.2.regs y.2.2.pos [] (V:= .nils) (J:=[]) (.nils 1 .nil) List.nodup_nil (λj hj=>by cases hj)).mono ?_
  rintro x X4 ⟨rfl,hlr⟩
  obtain⟨K4,I4,T4,e4⟩:=T3.step (J:=[]) (λj hj=>by cases hj) hlr
  have b4:=(e4 2 (by simp)).trans b3
  have l4:=T4.ls.here
  simp only[lwO] at l4
  obtain⟨k1,k2⟩:=gO T4.ls.own
  have hs2:∀o,(X4.set 2 o)[2]?=some o:=λo=>WT (T4.ap 2 (by simp)).1
  simp-implicitDefEqProofs[-AV.cells,-AV.isCell,aH,ae,ag,aw,ah,aI,af,ay,aj,k1,k2,aa,l4,b4, ↓hs2]
  have hres:lwF l 0 f=⟨f.params.length,(y.2.2.mk' 1 0 []).regs,((y.2.2.mk' 1 0 []).fin 3 y.2.2.regs y.2.2.pos []).bs⟩:=by
   rw[lwF,←hm,←hw0,←hy];rfl
  rw[hres]
  refine⟨_,I4,rfl,.p _ (λ_=>rfl) (.p _ (λ_=>rfl) (T4.ls.own.frame λi hi=>WM λe=>(T4.ap 2 (by simp)).2 (by rw[e];exact Xg _ hi))),(Xh.1 T4.ls.nd).2⟩
end
section
def eX{σ α β:Type}(g:σ->α->β × σ):σ->List α->List β × σ
 |st,[]=>([],st)
 |st,x::r=>((g st x).1::(eX g (g st x).2 r).1,(eX g (g st x).2 r).2)
theorem GA{σ α β:Type}(g:σ->α->β × σ):∀(a b:List α) (st:σ),eX g st (a++b)=((eX g st a).1++(eX g (eX g st a).2 b).1,(eX g (eX g st a).2 b).2)
 |[],b,st=>rfl
 |x::r,b,st=>by rw[Xu,eX,GA g r];rfl
theorem Ly{σ α β:Type}{g:σ->α->β × σ}{l:List α}{st:σ}{i:Nat}(h:i<l.length):eX g st (l.take (i+1))=((eX g st (l.take i)).1++[(g (eX g st (l.take i)).2 l[i]).1],(g (eX g st (l.take i)).2 l[i]).2):=by
 rw[an h,GA];rfl
theorem FD{σ α β:Type}(g:σ->α->β × σ):∀(l:List α) (st:σ),(eX g st l).1.length=l.length
 |[],st=>rfl
 |x::r,st=>by rw[eX,Xb,Xb,FD g r]
theorem GQ{σ α β:Type}{g:σ->α->β × σ}{inv:Nat->σ->Prop}:∀{l:List α} {st:σ} {k:Nat},inv k st->(∀(i:Nat) st (h:i<l.length),inv (k+i) st->inv (k+i+1) (g st l[i]).2)->∀i,i<=l.length->inv (k+i) (eX g st (l.take i)).2
 |[],st,k,h0,_,i,hi=>by
  have:i=0:=by simpa using hi
  subst this;exact h0
 |x::r,st,k,h0,hs,0,_=>h0
 |x::r,st,k,h0,hs,i+1,hi=>by
  have h1:=hs 0 st (by simp) h0
  have:=GQ (g:=g) (l:=r) (st:=(g st x).2) (k:=k+1) h1 (λj st hj hv=>by
   have:=hs (j+1) st (by simp;omega) (by rw[show k+(j+1)=k+1+j by omega];exact hv)
   rw[show k+(j+1)+1=k+1+j+1 by omega] at this
   exact this) i (by simpa using hi)
  rw[List.take_succ_cons,eX,show k+(i+1)=k+1+i by omega]
  exact this
theorem SB{n k:Nat}{A:List AO}{π:List Nat}{h r1:List AO}(hl:A.length=n)(ha:∀o∈A,okO n o)(hh:∀i,i<n->h[i]?=A[i]?)(ρ:List Nat)(hρ:∀i,i<n->ρ.getD i 0=i)(hρn:n<=ρ.length)(hk:k=n)(hr:HW ρ h π r1):HW ρ h (List.range' 0 k++π) (A++r1):=by
 subst hk
 have key:∀(B:List AO) (s:Nat),(∀i:Nat,B[i]?=h[s+i]?\/B.length<=i)->s+B.length=k->(∀o∈B,okO k o)->HW ρ h (List.range' s B.length++π) (B++r1):=by
  intro B
  induction B with
  |nil=>intro s _ _ _;exact hr
  |cons o r ih=>
   intro s hb hs ho
   rw[Xb,List.range'_succ]
   have h0:h[s]?=some o:=by
    rcases hb 0 with h0|h0
    ·simpa using h0.symm
    ·simp at h0
   have hok:=ho o (by simp)
   have ih:=ih (s+1) (λi=>by
    rcases hb (i+1) with h1|h1
    ·rw[Xc] at h1;left;rw[h1];congr 1;omega
    ·right;simpa using h1) (by simp at hs;omega) (λo ho'=>ho o (by simp[ho']))
   have hsl:=(WJ.1 h0).1
   cases o with
   |dead=>exact bX hsl ih
   |row sz es=>
    refine db (λx hx=>aT hρn _ (hok x hx)) ?_ ih
    rw[h0,Xn (g:=id) λx hx=>lv hρ x (hok x hx)];simp
   |mp es=>exact⟨hsl,⟨λx hx=>by exact(aT hρn [x.2] ⟨hok x hx,trivial⟩).1,by rw[h0,Xn (g:=id) λx hx=>by rw[lb hρ x.2 (hok x hx)];rfl];simp⟩,ih⟩
   |sit s p=>exact⟨hsl,h0,ih⟩
 have:=key A 0 (λi=>by
  rcases Xy i A.length with hi|hi
  ·left;rw[XD];exact(hh i (by omega)).symm
  ·right;exact hi) (by omega) ha
 rwa[hl] at this
theorem Sk{kk q n m d sz c:Nat}{A mid s:List AO}{es:List (List AV)}{l l1:List (Nat × AV)}(hl:A.length=n)(hm:mid.length=m)(hk:kk<=n)(ha:∀o∈A,okO n o)(he:∀x∈es,az 0 x)(H:FgA n l l1)(hd:Aw.look l d= .sl (n+m) sz 0 c):
 Wk kk (aC q l) (A++(mid++ .row sz es::s)) (aC q ((d,.sl n sz 0 c)::l1)) (A++[.row sz es]):=by
 have hρ:∀i,i<n->(List.range' 0 n++[n+m]).getD i 0=i:=λi hi=>by
  rw[WZ,WI (by simp;exact hi)];simp[hi]
 have hρn:(List.range' 0 n++[n+m]).getD n 0=n+m:=by
  rw[WZ,WP (by simp)];simp
 refine dp (List.range' 0 n++[n+m]) (by simp;omega) (λi hi=>hρ i (by omega)) ?_ ?_ ?_
 ·refine XI.2 ⟨List.nodup_range',by simp,λa ha b hb e=>?_⟩
  rw[WR] at hb
  have:=(List.mem_range'_1.1 ha).2
  omega
 ·refine SB hl ha (λi hi=>by rw[WI (by omega)]) _ hρ (by simp) rfl ?_
  refine bq ?_ he bJ
  rw[WP (by omega),hl,XL,WP (by omega),hm,Nat.sub_self];rfl
 ·refine⟨⟨by simp only[below];simp,by simp only[ren,hρn];exact hd.symm⟩,?_⟩
  clear hd
  induction l1 with
  |nil=>trivial
  |cons x r ih=>
   obtain⟨⟨a,c⟩,e⟩:=H
   exact⟨⟨(aT (by simp) [x.2] ⟨a,trivial⟩).1,by rw[lb hρ _ a,c]⟩,ih e⟩
theorem Kl{hF:List AO}{n:Nat}:∀{A r:List AO},(∀o∈A,okO n o)->FzO hF n (A++r) A
 |[],r,_=> .nil r
 |o::a,r,h=> .same (h o (by simp)) (Kl λo ho=>h o (by simp[ho]))
theorem Qz{n:Nat}{A r:List AO}{o:AO}(hl:A.length=n):(mW n (A++o::r))[n]?=some o:=by
 unfold mW
 rw[WP (by simp),List.length_replicate,Nat.sub_self,←hl,List.drop_left']
 ·rfl
 ·rfl
variable (G:aL)
end
section
def ji(l:List Cd):List (List AV):=l.map λc=>c.cs.map .p
theorem Lq(l:List Cd):∀x∈ji l,az 0 x:=λx hx=>by
 obtain⟨c,_,rfl⟩:=Xl.1 hx
 simp[Cd.cs,az,below]
theorem Cd.cs_eq'(c:Cd):c.cs=[.int .i64 c.params,.int .i64 c.regs,bkL c.blocks]:=rfl
variable (G:aL)
theorem Lg{σ:Type}(V:Vis σ)(g:σ->Fd->Cd × σ)(inv:Nat->σ->Prop)(l:List Fd)(hb:l.length<=1073741824)(hn:0<V.n)
 (hv:∀(i:Nat) st (h:i<l.length),inv i st->inv (i+1) (g st l[i]).2/\AC Tryz.prog G V.F (.agg (l[i].cs.map .p)::V.caps) (V.I st) λx h'=>x= .ret (.agg ((g st l[i]).1.cs.map .p))/\h'=V.I (g st l[i]).2)(st:σ)(h0:inv 0 st):
 AC Tryz.prog G cx [.p (fdL l),.fn (.func V.F) V.caps] (V.I st) λx h=>x= .ret (.p (cdL (eX g st l).1))/\h=V.I (eX g st l).2:=by
 have hxl:∀l,fdL l= .lst 3 (l.map Fd.cs):=λ_=>rfl
 have hlen:=V.len
 have hcb:=V.capsOk
 have hinv:∀i,i<=l.length->inv i (eX g st (l.take i)).2:=λi hi=>by
  have:=GQ (g:=g) (inv:=inv) (l:=l) (st:=st) (k:=0) h0 (λi st h hi=>by
   rw[XD] at hi⊢;exact(hv i st h hi).1) i hi
  rwa[XD] at this
 have hRp:∀l:List Cd,∀x∈ji l,az 0 x:=Lq
 have hRl:∀l:List Cd,(ji l).length=l.length:=λl=>by simp[ji]
 have hRa:∀(l:List Cd) (y:Cd),ji (l++[y])=ji l++[y.cs.map .p]:=λl y=>by simp[ji]
 have key:AC Tryz.prog G cx [.p (fdL l),.fn (.func V.F) V.caps] (V.I st) λx h=>x= .ret (slE V.n 3 (ji (eX g st l).1))/\h=V.I (eX g st l).2++[bY 3 (ji (eX g st l).1)]:=by
  refine AC.go og ?_
  simp-implicitDefEqProofs[gZ,hxl]
  refine aM (λi:Nat=>aC 22 [(5,slE V.n 3 (ji (eX g st (l.take i)).1)),(0,.p (fdL l)),(1,.fn (.func V.F) V.caps),(8,.p (fdL l)),(9,.p (.int .i64 l.length)),(10,.p (.int .i64 i))])
   (λi=>V.I (eX g st (l.take i)).2++[bY 3 (ji (eX g st (l.take i)).1)]) (λi=>i<=l.length) (λi=>l.length-i) 0 (by simp) ?_ ?_
  ·have e:bY 3 (ji (eX g st (l.take 0)).1)= .dead:=rfl
   rw[e]
   exact pV (by rw[hlen];exact WV _) (by rw[hlen];exact hn) (by rw[hlen];exact V.ok st) (by simp[below,hxl,hcb,hlen,eX,ji,Ae])
  intro i hi
  have hT:=λh=>Ly (g:=g) (l:=l) (st:=st) (i:=i) h
  have hi2:=hinv i hi
  have hml:=FD g (l.take i) st
  rw[Xi,Nat.min_eq_left hi] at hml
  generalize hcur:eX g st (l.take i)=cur at hT hi2 hml⊢
  obtain⟨out,s⟩:=cur
  simp only at hT hi2 hml⊢
  simp-implicitDefEqProofs[hxl]
  refine aO (λhc=>?_) (λhc=>?_)
  ·simp at hc
   have hg:=WK hc
   have hT:=hT hc
   obtain⟨_,hA⟩:=hv i s hc hi2
   generalize l[i]=x at hg hT hA
   have hkc:=x.cs_eq'
   have hyc:=(g s x).1.cs_eq'
   rw[hkc] at hA
   simp-implicitDefEqProofs[hg,hkc,hlen]
   refine(V.pre G hA _ ⟨by simp[below],hcb⟩).mono ?_
   rintro r h ⟨rfl,rfl⟩
   rw[hyc]
   simp-implicitDefEqProofs[aa,hlen]
   have hol:=hRl out
   refine⟨⟨by omega,by omega⟩,i+1,hc,by omega,?_⟩
   rw[hT]
   simp only[hRa]
   rw[ED _ (by simp),Cl _ (by simp),hyc]
   refine Sk (mid:=[_,_,_]) (s:=[]) (hlen _) rfl (WV _) (V.ok _) ?_ ?_ ?_
   ·intro x hx
    rcases WO.1 hx with h|h
    ·exact hRp _ x h
    ·rw[WR.1 h];simp
   ·simp[below,hxl,hcb,w1 (i:=i) (by omega)]
   ·simp
  ·simp at hc
   have hie:i=l.length:=by omega
   subst hie
   rw[Xk] at hcur
   rw[hcur]
   simp-implicitDefEqProofs[]
 refine key.frz V.n (by rw[hlen];exact WV _) (λt v h ⟨e,_⟩=>by cases e) ?_
 rintro v h ⟨e,rfl⟩
 cases e
 refine⟨_,V.I (eX g st l).2,by rw[Xa,hlen];omega,hlen _,.one ?_ .nil,Kl (V.ok _),rfl,rfl⟩
 have ht:=Qz (r:=[]) (o:=bY 3 (ji (eX g st l).1)) (hlen (eX g st l).2)
 have hh:ji (eX g st l).1=((eX g st l).1.map Cd.cs).map (·.map .p):=by simp[ji]
 rw[hh] at ht⊢
 exact Mi ht (λx hx=>by obtain⟨b,_,rfl⟩:=Xl.1 hx;rfl)
def unL(l:List Fd):List Cd:=l.map (lwF l 0)
theorem Ja(l:List Fd)(hl:l.length<=1073741824)(f:Fd)(hz:f.sz<=16777216)(hf:∀x∈f.body,aK 4 x=true):VF Tryz.prog G iO [.agg [.p (fdL l)],.agg (f.cs.map .p)] (.agg ((lwF l 0 f).cs.map .p)):=
 AC.mkFreeze uX (LD G l hl f hz hf)
end
section
variable (G:aL)
theorem DN(b:Bool):VF Tryz.prog G mh [.p (.bool b)] (.p (.int .i64 (if b then 1 else 0))):=by
 refine AC.go BD ?_
 cases b<;>simp-implicitDefEqProofs[rm]
end
section
theorem vI:∀a b:List Sm,aX (a++b)=aX a+aX b
 |[],b=>by simp[aX]
 |s::r,b=>by rw[Xu,aX,aX,vI r b,XR]
theorem IH{l:List Sm}{i:Nat}(h:i<l.length):aX (l.take (i+1))=aX (l.take i)+vS l[i]:=by rw[an h,vI,aX,aX];rfl
theorem Fw(l:List Sm)(i:Nat):aX (l.take i)<=aX l:=by
 have:=vI (l.take i) (l.drop i)
 rw[Xm] at this
 omega
variable (G:aL)
theorem Om:∀(k:Nat) (l:List Sm),aD l<=k->k<=1099511627776->VF Tryz.prog G gi [.p (smL l)] (.p (.int .i64 (aX l))):=by
 intro k
 induction k with
 |zero=>
  intro l hl _
  have:l=[]:=by
   cases l with
   |nil=>rfl
   |cons s r=>have:=s.sz_eq;simp only[aD] at hl;omega
  subst this
  refine AC.go sC ?_
  have hsl:smL []= .lst 5 []:=rfl
  simp-implicitDefEqProofs[nv,hsl]
  refine aM (λ_:Unit=>aC 35 [(0,.p (.lst 5 [])),(3,.p (.int .i64 0)),(4,.p (.int .i64 0))]) (λ_=>[]) (λ_=>True) (λ_=>0) () trivial (bg rfl (by simp[below])) ?_
  intro _ _
  simp-implicitDefEqProofs[aX]
 |succ k ih=>
  intro l hl hk
  have hll:=bI l
  have hnz:=XF (im l) (ir l)
  refine AC.go sC ?_
  have hsl:∀l,smL l= .lst 5 (l.map Sm.cs):=λ_=>rfl
  simp-implicitDefEqProofs[nv,hsl]
  refine aM (λi:Nat=>aC 35 [(0,.p (smL l)),(3,.p (.int .i64 (aX (l.take i)))),(4,.p (.int .i64 i))]) (λ_=>[]) (λi=>i<=l.length) (λi=>l.length-i) 0 (by simp) (bg rfl (by simp[below,hsl,aX])) ?_
  intro i hi
  have k2:=Fw l i
  simp-implicitDefEqProofs[hsl]
  refine aO (λh=>?_) (λh=>?_)
  ·simp at h
   have hg:=WK h
   have hks:=fm (WY h)
   have hse:=l[i].sz_eq
   have hce:=l[i].cs_eq
   have k1:=IH h
   have k4:=Fw l (i+1)
   have k5:=PX l[i]
   have hb:=ih l[i].body (by omega) (by omega)
   have he:=ih l[i].els (by omega) (by omega)
   generalize l[i]=s at*
   generalize aX (l.take i)=n at*
   obtain⟨n2,hn2⟩:∃n2,n2=aX (l.take (i+1)):=⟨_,rfl⟩
   rw[←hn2] at k1 k4
   by_cases ho:s.op=1
   ·rw[if_pos ho] at k5
    simp-implicitDefEqProofs[hg,hce,ho]
    refine(DN G true).use ?_
    have w0':IntKind.i64.wrap ((n:Int)+1)=(n:Int)+1:=ab (by omega) (by omega)
    simp-implicitDefEqProofs[hg,hce,w0']
    refine hb.use ?_
    have w1':IntKind.i64.wrap ((n:Int)+1+(aX s.body:Int))=(n:Int)+1+(aX s.body:Int):=ab (by omega) (by omega)
    simp-implicitDefEqProofs[hg,hce,w1']
    refine he.use ?_
    have w2':IntKind.i64.wrap ((n:Int)+1+(aX s.body:Int)+(aX s.els:Int))=(n2:Int):=by rw[ab (by omega) (by omega)];omega
    simp-implicitDefEqProofs[w2']
    exact⟨i+1,h,by omega,bg rfl (by simp[below,hsl,←hn2,w1 (i:=i) (by omega)])⟩
   ·rw[if_neg ho] at k5
    simp-implicitDefEqProofs[hg,hce,ho]
    refine(DN G false).use ?_
    have w0':IntKind.i64.wrap (n:Int)=(n:Int):=ab (by omega) (by omega)
    simp-implicitDefEqProofs[hg,hce,w0']
    refine hb.use ?_
    have w1':IntKind.i64.wrap ((n:Int)+(aX s.body:Int))=(n:Int)+(aX s.body:Int):=ab (by omega) (by omega)
    simp-implicitDefEqProofs[hg,hce,w1']
    refine he.use ?_
    have w2':IntKind.i64.wrap ((n:Int)+(aX s.body:Int)+(aX s.els:Int))=(n2:Int):=by rw[ab (by omega) (by omega)];omega
    simp-implicitDefEqProofs[w2']
    exact⟨i+1,h,by omega,bg rfl (by simp[below,hsl,←hn2,w1 (i:=i) (by omega)])⟩
  ·simp at h
   rw[WQ h]
   simp-implicitDefEqProofs[]
section
variable {l:List Fd} {pr:Int} {L:Nat} {S I0 E:List Nat} {h:List AO} {w:Lw} {nx:Nat} {vs:Vs} {X:List AO} {K V:AV} {I:List Nat}
theorem QG(T:RS l pr L S I0 E h w nx vs X K V I)(hw:w.regs<=1073741824):
 AC Tryz.prog G cg [.ptr L 8 0 0] X λx h'=>x= .ret (.p (.int .i64 w.regs))/\∃K' I',RS l pr L S I0 E h w.reg nx vs h' K' V I'/\∀i∈E,h'[i]?=X[i]?:=
 (nQ G T.stb.ls hw).mono λx h' ⟨a,b⟩=>⟨a,T.step (J:=[]) (λj hj=>by cases hj) (by rw[Xe];exact b)⟩
theorem Sb(T:RS l pr L S I0 E h w nx vs X K V I){B:Nat}(hok:w.Ok B)(hB:B<=1073741824)(op to n:Int):
 AC Tryz.prog G cQ [.ptr L 8 0 0,.p (.int .i64 op),.p (.int .i64 to),.p (.int .i64 n),.sl X.length 1 0 0] (X++[.row 1 []]) λr h'=>r= .ret (.p (.int .i64 to))/\∃K' I',RS l pr L S I0 E h (w.put ⟨op,to,[],n⟩) nx vs h' K' V I'/\∀i∈E,h'[i]?=X[i]?:=by
 obtain⟨f1,f2⟩:=T.fresh
 refine(tu G (T.stb.ls.more [.row 1 []]) hok hB ⟨op,to,[],n⟩ (cZ X ([]:List Int) rfl) (by simp) f2).mono λr h' ⟨e,b⟩=>⟨e,?_⟩
 obtain⟨K2,I2,a1,a2⟩:=(T.more [_]).step f1 b
 exact⟨K2,I2,a1,λi hi=>(a2 i hi).trans (WI (T.at.1 i hi).1)⟩
theorem QU(T:RS l pr L S I0 E h w nx vs X K V I){B:Nat}(hok:w.Ok B)(j o:Int)(g:Nat){gI:Int}(hg:gI=(g:Int)):
 AC Tryz.prog G bR [.ptr L 8 0 0,.p (.int .i64 j),.p (.int .i64 o),.sl X.length 1 0 0,.p (.int .i64 gI)] (X++[.row 1 []]) λr h'=>r= .ret (.tup [])/\∃K' I',RS l pr L S I0 E h (w.fin j o g []) nx vs h' K' V I'/\∀i∈E,h'[i]?=X[i]?:=by
 obtain⟨f1,f2⟩:=T.fresh
 rw[hg]
 refine(rN G (T.stb.ls.more [.row 1 []]) hok j o g [] (cZ X ([]:List Int) rfl) (by simp) f2).mono λr h' ⟨e,b⟩=>⟨e,?_⟩
 obtain⟨K2,I2,a1,a2⟩:=(T.more [_]).step f1 b
 exact⟨K2,I2,a1,λi hi=>(a2 i hi).trans (WI (T.at.1 i hi).1)⟩
theorem LF{n:Nat}(hg:X[L]?=some (.row 8 [[.p (fdL l),.p (.int .i64 pr),.p (.int .i64 n),.nils,.p (.int .i64 0),V,.p (.int .i64 nx),.nils]]))(hV:V.cells=[V]/\V.isCell=true):
 AC Tryz.prog G cW [.ptr L 8 0 0] X λr h'=>r= .ret (.p (.int .i64 0))/\∃K I,LS (lwR l pr V nx) L ⟨n,[bk0],0⟩ h' K I/\Frm [L] X h'/\∀j∈I,X.length<=j:=by
 have hLl:=(WJ.1 hg).1
 obtain⟨v1,v2⟩:=hV
 have hgt:∀t,(X++t)[L]?=some (.row 8 [[.p (fdL l),.p (.int .i64 pr),.p (.int .i64 n),.nils,.p (.int .i64 0),V,.p (.int .i64 nx),.nils]]):=λt=>by rw[WI hLl];exact hg
 have hs3:∀t o,((X++t).set L o)[L]?=some o:=λt o=>WT (by simp;omega)
 refine AC.go lJ ?_
 simp-implicitDefEqProofs[-AV.cells,-AV.isCell,aH,ae,ag,aw,ah,aI,af,ay,aj,v1,v2,gN,hg,hgt, ↓hs3]
 have key:∀o1:AO,∃K I,LS (lwR l pr V nx) L ⟨n,[bk0],0⟩ ((X++[.row 2 [],.row 4 [],.row 1 [],o1,.row 5 [[.sl X.length 2 0 0,.sl (X.length+1) 4 0 0,.p (.int .i64 0),.p (.int .i64 0),.sl (X.length+2) 1 0 0]]]).set L (lwR l pr V nx ⟨n,[bk0],0⟩ (.sl (X.length+4) 5 0 1))) K I/\Frm [L] X ((X++[.row 2 [],.row 4 [],.row 1 [],o1,.row 5 [[.sl X.length 2 0 0,.sl (X.length+1) 4 0 0,.p (.int .i64 0),.p (.int .i64 0),.sl (X.length+2) 1 0 0]]]).set L (lwR l pr V nx ⟨n,[bk0],0⟩ (.sl (X.length+4) 5 0 1)))/\∀j∈I,X.length<=j:=λo1=>by
  obtain⟨H,hH⟩:∃H,H=((X++[.row 2 [],.row 4 [],.row 1 [],o1,.row 5 [[.sl X.length 2 0 0,.sl (X.length+1) 4 0 0,.p (.int .i64 0),.p (.int .i64 0),.sl (X.length+2) 1 0 0]]]).set L (lwR l pr V nx ⟨n,[bk0],0⟩ (.sl (X.length+4) 5 0 1))):=⟨_,rfl⟩
  have g:∀k,H[X.length+k]?=[AO.row 2 [],.row 4 [],.row 1 [],o1,.row 5 [[.sl X.length 2 0 0,.sl (X.length+1) 4 0 0,.p (.int .i64 0),.p (.int .i64 0),.sl (X.length+2) 1 0 0]]][k]?:=λk=>by
   rw[hH,WM (by omega),WP (by omega)]
   rw[XL]
  rw[←hH]
  have hr:RowOwn false H (X.length+4) 5 [[.sl X.length 2 0 0,.sl (X.length+1) 4 0 0,.p (.int .i64 0),.p (.int .i64 0),.sl (X.length+2) 1 0 0]] [bk0.cs] [X.length,X.length+1,X.length+2]:=
   ⟨g 4,rfl,by simp,by simp[bk0,Bk.cs],by rw[List.flatten_singleton,List.flatten_singleton];exact Kp (g 0) (g 1) (g 2),by simp⟩
  refine⟨_,_,⟨by rw[hH];exact WT (by simp;omega),hr.tree rfl,by simp;omega,λq e=>(by cases e),λkid n2 rows2 eK hg2 r hr2=>?_⟩,⟨by rw[hH];simp,λi hi hn=>?_⟩,λj hj=>?_⟩
  ·cases eK
   rw[hr.here] at hg2
   cases hg2
   rw[WR.1 hr2]
   intro q;simp
  ·rw[hH,WM (λe=>hn (by simp[e])),WI hi]
  ·simp only[WN,XC,or_false] at hj
   omega
 have e:=key (.row 5 [[.sl X.length 2 0 0,.sl (X.length+1) 4 0 0,.p (.int .i64 0),.p (.int .i64 0),.sl (X.length+2) 1 0 0]])
 exact⟨ab (by omega) (by omega),e⟩
end
structure PvS where (i:Nat) (X:List AO)
theorem QI{vs:Vs}{ps:List (List UInt8)}{i:Nat}(hi:i<ps.length)(hl:vs.length=i)(h:rgV vs=scF (-1) [psS (ps.take i) [] 0]):rgV (vs++[(ps[i],i)])=scF (-1) [psS (ps.take (i+1)) [] 0]:=by
 funext t
 simp only[AG,h,GR hi,scF,di,lm]
 by_cases hst:ps[i]=t
 ·simp[hst]
 ·simp[hst]
theorem RC(l:List Fd)(hl:l.length<=1073741824)(k:Nat)(f:Fd)(hk:l[k]?=some f)(hz:f.sz<=16777216)(hf:∀x∈f.body,aK 4 x=true):AC Tryz.prog G mE [.agg [.p (fdL l)],.p (.int .i64 k)] [] (MkW .agg false (lwF l (-1) f).cs):=by
 have hfc:=f.cs_eq'
 have hfl:fdL l= .lst 3 (l.map Fd.cs):=rfl
 have hlk:=(WJ.1 hk).1
 have hfz:f.sz=1+f.name.length+(f.params.length+(f.params.map List.length).sum)+aD f.body:=rfl
 have hst:aN f.params= .lst 1 (f.params.map λw=>[.str w]):=rfl
 have hlet:=XF (im f.body) (ir f.body)
 refine AC.go GU ?_
 simp-implicitDefEqProofs[zq,hfl,hk,hfc,hst]
 rw[←hfl]
 refine(Om G _ f.body (WV _) (by omega)).use ?_
 have hwl:IntKind.i64.wrap ((f.params.length:Int)+(aX f.body:Int))=((f.params.length+aX f.body:Nat):Int):=by rw[ab (by omega) (by omega)];omega
 simp-implicitDefEqProofs[hst,hwl]
 obtain⟨n,hn⟩:∃n:Nat,n=f.params.length+aX f.body:=⟨_,rfl⟩
 have hnI:(f.params.length:Int)+(aX f.body:Int)=n:=by omega
 rw[hnI]
 refine aM (λa:PvS=>aC 80 [(4,.ptr 1 3 0 0),(5,.ptr 2 3 0 0),(6,.ptr 3 8 0 0),(7,.p (.int .i64 a.i))]) (λa=>a.X)
  (λa=>a.i<=f.params.length/\4<=a.X.length/\a.X[1]?=some (.row 3 [[.p (.int .i64 0),.p (.int .i64 0),.nils]])/\a.X[2]?=some (.row 3 [[.p (.str f.name),.p (.lst 1 (f.params.map λw=>[.str w])),.p (smL f.body)]])/\∃V vs,a.X[3]?=some (.row 8 [[.p (fdL l),.p (.int .i64 f.params.length),.p (.int .i64 n),.nils,.p (.int .i64 0),V,.p (.int .i64 f.params.length),.nils]])/\VAt a.X V vs/\(∀i∈vi V,4<=i)/\vs.length=a.i/\rgV vs=scF (-1) [psS (f.params.take a.i) [] 0]) (λa=>f.params.length-a.i)
  ⟨0,[.row 1 [[.p (fdL l)]],.row 3 [[.p (.int .i64 0),.p (.int .i64 0),.nils]],.row 3 [[.p (.str f.name),.p (.lst 1 (f.params.map λw=>[.str w])),.p (smL f.body)]],.row 8 [[.p (fdL l),.p (.int .i64 f.params.length),.p (.int .i64 n),.nils,.p (.int .i64 0),.nils,.p (.int .i64 f.params.length),.nils]]]⟩ ⟨Xr _,by simp,rfl,rfl,.nils,[],rfl,.nil,(λi hi=>by cases hi),rfl,rfl⟩ ?_ ?_
 ·exact aq (by simp) (by simp[below])
 rintro⟨i,X⟩ ⟨hi,hX4,hx1,hx2,V,vs,hx3,hV,hVi,hvl,hrg⟩
 simp only at hi hX4 hx1 hx2 hx3 hV hvl hrg
 obtain⟨v1,v2,v3⟩:=hV.is
 simp-implicitDefEqProofs[hx2]
 refine aO (λhc=>?_) (λhc=>?_)
 ·simp at hc
  have hg:=WK hc
  have hrg2:=QI hc hvl hrg
  generalize f.params[i]=p at hg hrg2
  have hwi:=w1 (i:=i) (by omega)
  have hX2m:∀t,(X++t)[2]?=some (.row 3 [[.p (.str f.name),.p (.lst 1 (f.params.map λw=>[.str w])),.p (smL f.body)]]):=λt=>by rw[WI (by omega)];exact hx2
  cases hV with
  |nil=>
   have hvi:i=0:=hvl.symm
   subst hvi
   have hX3m:∀t,(X++t)[3]?=some (.row 8 [[.p (fdL l),.p (.int .i64 f.params.length),.p (.int .i64 n),.nils,.p (.int .i64 0),.nils,.p (.int .i64 f.params.length),.nils]]):=λt=>by rw[WI (by omega)];exact hx3
   simp-implicitDefEqProofs[hx2,hx3,hg,hX3m,hX2m]
   have hw11:IntKind.i64.wrap 1=1:=ab (by omega) (by omega)
   refine⟨⟨1,_⟩,⟨by simp only;omega,?_,?_,?_,.sl X.length 3 0 1,?_,[(p,0)],?_,?_,rfl,by simpa using hrg2⟩,by simp only;omega,aq ?_ ?_⟩
   rotate_left 6
   ·exact Xr _
   ·simp[below,hw11]
    omega
   ·simp;omega
   ·rw[WM (by omega),WI (by omega)];exact hx1
   ·rw[WM (by omega),WI (by omega)];exact hx2
   ·exact WT (by simp;omega)
   ·exact .sl _ [tf (p,0)] [(p,0)] (by rw[WM (by omega),WP (WV _)];simp[tf]) rfl
   ·intro j hj;rw[WR.1 hj];exact hX4
  |sl vid rows _ hv1 hv2=>
   have hvX:=(WJ.1 hv1).1
   have hv4:=hVi vid (by simp[vi])
   have hvk:vs.length<=rows.length:=by
    have:=congrArg List.length hv2
    rw[Xi,Xp] at this
    omega
   have hX3m:∀t,(X.set vid .dead++t)[3]?=X[3]?:=λt=>by rw[WI (by simp;omega),WM (by omega)]
   have hX2n:∀t,(X.set vid .dead++t)[2]?=X[2]?:=λt=>by rw[WI (by simp;omega),WM (by omega)]
   simp-implicitDefEqProofs[hx2,hx3,hg,hv1,hv2, ↓hX3m, ↓hX2n,hwi]
   refine⟨⟨by omega,by omega⟩,⟨i+1,_⟩,⟨by simp only;omega,?_,?_,?_,.sl X.length 3 0 (vs.length+1),?_,vs++[(p,i)],?_,?_,by simp;omega,hrg2⟩,by simp only;omega,aq ?_ ?_⟩
   rotate_left 6
   ·exact Xr _
   ·simp[below,hwi]
    omega
   ·simp;omega
   ·rw[WM (by omega),WI (by simp;omega),WM (by omega)];exact hx1
   ·rw[WM (by omega),WI (by simp;omega),WM (by omega)];exact hx2
   ·exact WT (by simp;omega)
   ·have hlv:(vs++[(p,i)]).length=vs.length+1:=by simp
    exact hlv▸ .sl _ (vs.map tf++[tf (p,i)]) (vs++[(p,i)]) (by rw[WM (by omega),WP (by simp)];simp[tf]) (by rw[WQ (by simp)];simp)
   ·intro j hj;rw[WR.1 hj];exact hX4
 ·simp at hc
  have hie:i=f.params.length:=by omega
  subst hie
  rw[Xk] at hrg
  simp-implicitDefEqProofs[]
  refine(LF G hx3 ⟨v1,v2⟩).mono ?_
  rintro x X1 ⟨rfl,K1,I1,H1,hfr,hI1⟩
  have hl1:=hfr.1
  have va1:VAt X1 V vs:=hV.frame λi hi=>hfr.2 i (hV.lt i hi) (by have:=hVi i hi;simp;omega)
  have T1':=RS.of H1 va1 (λi hi=>by
   have h4:=hVi i hi
   have h5:=hV.lt i hi
   simp only[WN,not_or]
   exact⟨by omega,λhm=>by have:=hI1 i hm;omega⟩)
  have T1:=T1'.add (j:=1) (by omega) (by
   simp only[WN,not_or]
   exact⟨by omega,λhm=>by have:=hI1 1 hm;omega⟩) (λhm=>by have:=hVi 1 hm;omega)
  have b1:X1[1]?=some (.row 3 [[.p (.int .i64 0),.p (.int .i64 0),.nils]]):=(hfr.2 1 (by omega) (by simp)).trans hx1
  have b2:X1[2]?=some (.row 3 [[.p (.str f.name),.p (.lst 1 (f.params.map λw=>[.str w])),.p (smL f.body)]]):=(hfr.2 2 (by omega) (by simp)).trans hx2
  have ok1:(⟨n,[bk0],0⟩:Lw).Ok (f.sz+1):=⟨by show n<=_;omega,by show 1<=_;omega,λb hb=>by rw[WR.1 hb];show 0<=_;omega,by show 0<1;omega⟩
  simp-implicitDefEqProofs[aa,b2]
  obtain⟨y,hy⟩:∃y,y=aU (faI l) (-1) f.body (psS f.params [] 0) [] f.params.length ⟨n,[bk0],0⟩:=⟨_,rfl⟩
  have h2:=Al G (Me G l hl f.params.length 3 4 f.body hf) T1 ok1 (by omega) (by omega) (by omega) hrg
  have ok2:=dD (faI l) (-1) f.body (psS f.params [] 0) [] f.params.length ⟨n,[bk0],0⟩ _ ok1
  rw[←hy] at h2 ok2
  refine h2.mono ?_
  rintro x X2 ⟨rfl,K2,V2,I2,T2,e2⟩
  obtain⟨ok2,_,_,_⟩:=ok2
  have b1:=(e2 1 (by simp)).trans b1
  simp-implicitDefEqProofs[aa]
  refine(QG G T2 (by have:=ok2.regs;omega)).mono ?_
  rintro x X3 ⟨rfl,K3,I3,T3,e3⟩
  have b1:=(e3 1 (by simp)).trans b1
  have ok3:=ok2.reg
  simp-implicitDefEqProofs[aa]
  refine(Sb G T3 ok3 (by omega) 1 y.2.2.regs 0).mono ?_
  rintro x X4 ⟨rfl,K4,I4,T4,e4⟩
  have b1:=(e4 1 (by simp)).trans b1
  have ok4:=ok3.put ⟨1,y.2.2.regs,[],0⟩
  simp-implicitDefEqProofs[aa]
  refine(QU G T4 ok4 3 y.2.2.regs 0 rfl).mono ?_
  rintro x X5 ⟨rfl,K5,I5,T5,e5⟩
  have b1:=(e5 1 (by simp)).trans b1
  have l5:=T5.stb.ls.here
  simp only[lwR] at l5
  obtain⟨k1,k2⟩:=gO T5.stb.ls.own
  have hs1:∀o,(X5.set 1 o)[1]?=some o:=λo=>WT (T5.at.1 1 (by simp)).1
  simp-implicitDefEqProofs[-AV.cells,-AV.isCell,aH,ae,ag,aw,ah,aI,af,ay,aj,k1,k2,aa,l5,b1, ↓hs1]
  have hres:lwF l (-1) f=⟨f.params.length,((y.2.2.reg.put ⟨1,y.2.2.regs,[],0⟩).fin 3 y.2.2.regs 0 []).regs,((y.2.2.reg.put ⟨1,y.2.2.regs,[],0⟩).fin 3 y.2.2.regs 0 []).bs⟩:=by
   rw[lwF,←hn,←hy];rfl
  rw[hres]
  refine⟨_,I5,rfl,.p _ (λ_=>rfl) (.p _ (λ_=>rfl) (T5.stb.ls.own.frame λi hi=>WM λe=>(T5.at.1 1 (by simp)).2 (by rw[e];exact Xg _ hi))),(Xh.1 T5.stb.ls.nd).2⟩
theorem QR(l:List Fd)(hl:l.length<=1073741824)(k:Nat)(f:Fd)(hk:l[k]?=some f)(hz:f.sz<=16777216)(hf:∀x∈f.body,aK 4 x=true):VF Tryz.prog G mE [.agg [.p (fdL l)],.p (.int .i64 k)] (.agg ((lwF l (-1) f).cs.map .p)):=
 AC.mkFreeze uX (RC G l hl k f hk hz hf)
def unR(l:List Fd):List Cd:=l.map (lwF l (-1))
structure UnS where (i:Nat) (X:List AO)
theorem Oo(l:List Fd)(hz:aY l<=16777216)(hf:∀f∈l,∀x∈f.body,aK 4 x=true):VF Tryz.prog G jG [.agg [.p (fdL l)]] (.agg [.p (cdL (unR l))]):=by
 have hfl:fdL l= .lst 3 (l.map Fd.cs):=rfl
 have hll:l.length<=aY l:=dQ l
 have key:AC Tryz.prog G jG [.agg [.p (fdL l)]] [] λx h=>∃V,x= .ret (.agg [V])/\((V= .nils/\l=[])\/∃id,V= .sl id 3 0 l.length/\h[id]?=some (.row 3 (ji (unR l)))):=by
  refine AC.go De ?_
  simp-implicitDefEqProofs[sU]
  refine aM (λa:UnS=>aC 22 [(1,.ptr 0 1 0 0),(2,.ptr 1 1 0 0),(3,.ptr 2 1 0 0),(4,.p (.int .i64 a.i))]) (λa=>a.X)
   (λa=>a.i<=l.length/\3<=a.X.length/\a.X[0]?=some (.row 1 [[.p (fdL l)]])/\a.X[1]?=some (.row 1 [[.nils]])/\∃V,a.X[2]?=some (.row 1 [[V]])/\((V= .nils/\a.i=0)\/∃id,V= .sl id 3 0 a.i/\3<=id/\a.X[id]?=some (.row 3 (ji (unR l|>.take a.i))))) (λa=>l.length-a.i)
   ⟨0,[.row 1 [[.p (fdL l)]],.row 1 [[.nils]],.row 1 [[.nils]]]⟩ ⟨Xr _,by simp,rfl,rfl,.nils,rfl,.inl ⟨rfl,rfl⟩⟩ ?_ ?_
  ·exact aq (by simp) (by simp[below])
  rintro⟨i,X⟩ ⟨hi,hX3,hx0,hx1,V,hx2,hV⟩
  simp only at hi hX3 hx0 hx1 hx2 hV
  simp-implicitDefEqProofs[hx0,hfl]
  refine aO (λhc=>?_) (λhc=>?_)
  ·simp at hc
   have hg:=WK hc
   have hm:=WY hc
   have hfz:=ff hm
   have hcall:=QR G l (by omega) i l[i] hg (by omega) (hf _ hm)
   have htk:(unR l).take (i+1)=(unR l).take i++[lwF l (-1) l[i]]:=by
    rw[unR,←List.map_take,←List.map_take,an hc,List.map_append];rfl
   have hcs:=(lwF l (-1) l[i]).cs_eq'
   have hlt:((unR l).take i).length=i:=by simp[unR];omega
   have hwi:=w1 (i:=i) (by omega)
   generalize lwF l (-1) l[i]=c at hcall htk hcs
   rw[hcs] at hcall
   rw[hfl] at hcall
   have hX2:∀t,(X++t)[2]?=some (.row 1 [[V]]):=λt=>by rw[WI (by omega)];exact hx2
   rcases hV with⟨rfl,rfl⟩|⟨id,rfl,hid,hxi⟩
   ·simp-implicitDefEqProofs[hx2,hx0,hfl]
    refine hcall.use ?_
    simp-implicitDefEqProofs[hx2,hX2]
    have hw11:IntKind.i64.wrap 1=1:=ab (by omega) (by omega)
    refine⟨⟨1,_⟩,⟨by simp only;omega,?_,?_,?_,.sl X.length 3 0 1,?_,.inr ⟨X.length,rfl,hX3,?_⟩⟩,by simp only;omega,aq ?_ ?_⟩
    rotate_left 5
    ·exact Xr _
    ·simp[below,hw11];omega
    ·simp;omega
    ·rw[WM (by omega),WI (by omega)];exact hx0
    ·rw[WM (by omega),WI (by omega)];exact hx1
    ·exact WT (by simp;omega)
    ·rw[htk,WM (by omega),WP (WV _)]
     simp[ji,hcs]
   ·have hiX:=(WJ.1 hxi).1
    have hX2n:∀t,(X.set id .dead++t)[2]?=X[2]?:=λt=>by rw[WI (by simp;omega),WM (by omega)]
    have htl:List.take i (ji (List.take i (unR l)))=ji (List.take i (unR l)):=WQ (by simp[ji];omega)
    have hcl:(ji (List.take i (unR l))).length=i:=by simp only[ji,Xp];exact hlt
    simp-implicitDefEqProofs[hx2,hx0,hfl]
    refine hcall.use ?_
    simp-implicitDefEqProofs[hx2,hxi, ↓hX2n,htl,hcl,hwi]
    refine⟨⟨by omega,by omega⟩,⟨i+1,_⟩,⟨by simp only;omega,?_,?_,?_,.sl X.length 3 0 (i+1),?_,.inr ⟨X.length,rfl,hX3,?_⟩⟩,by simp only;omega,aq ?_ ?_⟩
    rotate_left 5
    ·exact Xr _
    ·simp[below,hwi];omega
    ·simp;omega
    ·rw[WM (by omega),WI (by simp;omega),WM (by omega)];exact hx0
    ·rw[WM (by omega),WI (by simp;omega),WM (by omega)];exact hx1
    ·exact WT (by simp;omega)
    ·rw[htk,WM (by omega),WP (by simp)]
     simp[ji,hcs]
  ·simp at hc
   have hie:i=l.length:=by omega
   subst hie
   have hx1s:∀o,(X.set 1 o)[1]?=some o:=λo=>WT (by omega)
   have hul:(unR l).take l.length=unR l:=WQ (by simp[unR])
   rw[hul] at hV
   rcases hV with⟨rfl,h0⟩|⟨id,rfl,hid,hxi⟩
   ·simp-implicitDefEqProofs[hx2,hx1, ↓hx1s]
    exact List.length_eq_zero_iff.1 h0
   ·simp-implicitDefEqProofs[hx2,hx1, ↓hx1s]
    rw[WM (by omega)]
    exact hxi
 refine key.freezeR (λt v h ⟨V,e,_⟩=>by cases e) ?_
 rintro v h ⟨V,e,hV⟩
 cases e
 refine .agg ?_ .nil
 rcases hV with⟨rfl,rfl⟩|⟨id,rfl,hid⟩
 ·exact .one (View.nils 3) .nil
 ·have hh:ji (unR l)=((unR l).map Cd.cs).map (·.map .p):=by simp[ji]
  rw[hh] at hid
  have:=gm (n:=l.length) hid (by simp[unR]) (λx hx=>by obtain⟨b,_,rfl⟩:=Xl.1 hx;rfl)
  exact .one this .nil
end
section
mutual
theorem JR(fa:List UInt8->Int){sc sc':List UInt8->Int}:∀(e:Ex) (w:Lw),(∀p∈e.pre,p.op=2->sc p.name=sc' p.name)->lwE fa sc e w=lwE fa sc' e w
 | .mk o n s ks,w,h=>by
   rw[Ex.pre] at h
   have h0:=h (.mk o n s ks) (by simp)
   have hk:∀p∈eF ks,p.op=2->sc p.name=sc' p.name:=λp hp=>h p (by simp[hp])
   rw[lwE,lwE]
   split
   ·rfl
   split
   ·rename_i h2
    have:=h0 h2
    simp only[Ex.name] at this
    rw[this]
   split
   ·exact Ue fa ks w hk
   ·rw[Io fa ks w hk]
theorem Ue(fa:List UInt8->Int){sc sc':List UInt8->Int}:∀(l:List Ex) (w:Lw),(∀p∈eF l,p.op=2->sc p.name=sc' p.name)->lwA fa sc l w=lwA fa sc' l w
 |[],w,_=>by rw[lwA,lwA]<;>intro a b h<;>cases h
 |[a],w,_=>by rw[lwA,lwA]<;>intro a b h<;>cases h
 |a::b::c::r,w,_=>by rw[lwA,lwA]<;>intro a b h<;>cases h
 |[a,b],w,h=>by
  have ha:=JR fa a w (λp hp=>h p (by simp[eF,hp]))
  rw[lwA,lwA,ha]
  rw[JR fa b _ (λp hp=>h p (by simp[eF,hp]))]
theorem Io(fa:List UInt8->Int){sc sc':List UInt8->Int}:∀(l:List Ex) (w:Lw),(∀p∈eF l,p.op=2->sc p.name=sc' p.name)->bj fa sc l w=bj fa sc' l w
 |[],w,_=>by rw[bj,bj]
 |e::r,w,h=>by
  rw[bj,bj,JR fa e w (λp hp=>h p (by simp[eF,hp])),Io fa r _ (λp hp=>h p (by simp[eF,hp]))]
end
def KS:List Scp->List Scp->Prop
 |[],[]=>True
 |m::a,m0::b=>(∀t,(fU m t).isSome=(fU m0 t).isSome)/\KS a b
 |_,_=>False
theorem KS.fnd:∀{a b:List Scp},KS a b->∀t,(di a t).isSome=(di b t).isSome
 |[],[],_,t=>rfl
 |m::a,m0::b,h,t=>by
  have h1:=h.1 t
  have h2:=KS.fnd h.2 t
  rw[di,di]
  cases e1:fU m t with
  |some x=>
   rw[e1] at h1
   cases e2:fU m0 t with
   |some y=>rfl
   |none=>rw[e2] at h1;cases h1
  |none=>
   rw[e1] at h1
   cases e2:fU m0 t with
   |some y=>rw[e2] at h1;cases h1
   |none=>exact h2
 |[],_::_,h,_=>h.elim
 |_::_,[],h,_=>h.elim
theorem KS.set{a b:List Scp}{m m0:Scp}(h:KS (m::a) (m0::b))(s:List UInt8)(i j:Nat):KS (fu m s i::a) (fu m0 s j::b):=
 ⟨λt=>by
   rw[lm,lm]
   split
   ·rfl
   ·exact h.1 t,h.2⟩
theorem Fy{fns:List Fd}{k:Nat}{ch:List Scp}:∀{l:List Ex} {c:Int},l.foldl (fj fns k ch) c=0->c=0/\∀e∈l,fj fns k ch 0 e=0
 |[],c,h=>⟨h,λe he=>by cases he⟩
 |e::r,c,h=>by
  have hc:c=0:=by
   by_cases hc:c=0
   ·exact hc
   ·rw[za hc] at h;exact(hc h).elim
  subst hc
  rw[List.foldl_cons] at h
  obtain⟨h1,h2⟩:=Fy h
  refine⟨rfl,λx hx=>?_⟩
  rcases WN.1 hx with rfl|hx
  ·exact h1
  ·exact h2 x hx
theorem QJ{fns:List Fd}{k:Nat}{ch:List Scp}{e:Ex}(h:fj fns k ch 0 e=0)(h2:e.op=2):(di ch e.name).isSome=true:=by
 rw[fj,if_pos h2] at h
 by_cases hs:(di ch e.name).isSome=true
 ·exact hs
 ·rw[if_neg hs] at h;simp[fl] at h
theorem TQ{ch ch0:List Scp}(hk:KS ch ch0){fns:List Fd}{k:Nat}{l:List Ex}{c:Int}(h:AA fns k ch0 l c=0):∀p∈eF l,p.op=2->scF (-1) ch p.name=scF 0 ch p.name:=λp hp h2=>by
 have h1:=QJ ((Fy h).2 p hp) h2
 rw[←hk.fnd] at h1
 obtain⟨n,hn⟩:=Option.isSome_iff_exists.1 h1
 rw[scF,scF,hn]
theorem rR{fns:List Fd}{k:Nat}{l:List Sm}{m:Scp}{up:List Scp}{c:Int}(h:(fp fns k l m up c).2=0):c=0:=by
 by_cases hc:c=0
 ·exact hc
 ·rw[nH fns k hc] at h;exact h
mutual
theorem UC(fa:List UInt8->Int)(fns:List Fd)(k:Nat):∀(s:Sm) (m m0:Scp) (up up0:List Scp) (nx:Nat) (w:Lw),KS (m::up) (m0::up0)->(icS fns k s m0 up0 0).2=0->
 lwS fa (-1) s m up nx w=lwS fa 0 s m up nx w/\KS ((lwS fa 0 s m up nx w).1::up) ((icS fns k s m0 up0 0).1::up0)
 | .mk o n a bd el,m,m0,up,up0,nx,w,hk,h=>by
   rw[icS] at h⊢
   simp only at h⊢
   obtain⟨c2,hc2⟩:∃c2,c2=opC o n m0 up0 (AA fns k (m0::up0) a 0):=⟨_,rfl⟩
   rw[←hc2] at h
   have hbe:c2=0/\(o=5\/o=6->(fp fns k bd [] (opS o n m0 0::up0) 0).2=0/\(fp fns k el [] (opS o n m0 0::up0) 0).2=0):=by
    by_cases h56:o=5\/o=6
    ·rw[if_pos h56] at h
     have h1:=rR h
     rw[h1] at h
     have h2:=rR h1
     rw[h2] at h1
     exact⟨h2,λ_=>⟨h1,h⟩⟩
    ·rw[if_neg h56] at h
     exact⟨h,λh'=>(h56 h').elim⟩
   obtain⟨e2,hblk⟩:=hbe
   rw[e2] at hc2
   have hce:AA fns k (m0::up0) a 0=0:=by
    by_cases hc:AA fns k (m0::up0) a 0=0
    ·exact hc
    ·rw[GD hc] at hc2;exact hc2.symm
   have hsc:=TQ hk hce
   have hkm:∀x:Lw,True:=λ_=>trivial
   rw[lwS,lwS]
   by_cases o6:o=6
   ·have hop:opS o n m0 0=m0:=by rw[opS,if_neg (by omega)]
    obtain⟨hb,_⟩:=hblk (.inr o6)
    rw[hop] at hb
    simp only[if_pos o6]
    have hh:∀p∈(a.headD (.mk 0 0 [] [])).pre,p.op=2->scF (-1) (m::up) p.name=scF 0 (m::up) p.name:=by
     cases a with
     |nil=>
      intro p hp h2
      simp[Ex.pre,eF] at hp
      rw[hp] at h2
      simp[Ex.op] at h2
     |cons x r=>exact λp hp=>hsc p (by simp[eF];exact .inl hp)
    rw[JR fa _ _ hh,(AB fa fns k bd [] [] (m::up) (m0::up0) nx _ ⟨λ_=>rfl,hk⟩ hb).1]
    refine⟨rfl,?_⟩
    rw[hop]
    exact hk
   ·simp only[if_neg o6]
    rw[Io fa a w hsc]
    by_cases o1:o=1
    ·simp only[if_pos o1]
     refine⟨trivial,?_⟩
     rw[opS,if_pos o1]
     exact hk.set n nx 0
    have hop:opS o n m0 0=m0:=by rw[opS,if_neg o1]
    rw[hop]
    simp only[if_neg o1]
    by_cases o2:o=2
    ·simp only[if_pos o2]
     have hf:(di (m0::up0) n).isSome=true:=by
      rw[hce,opC,if_neg o1,if_pos o2] at hc2
      by_cases hs:(di (m0::up0) n).isSome=true
      ·exact hs
      ·rw[if_neg hs] at hc2;simp[fl] at hc2
     rw[←hk.fnd] at hf
     obtain⟨q,hq⟩:=Option.isSome_iff_exists.1 hf
     rw[scF,scF,hq]
     exact⟨rfl,hk⟩
    simp only[if_neg o2]
    by_cases o3:o=3
    ·simp only[if_pos o3];exact⟨trivial,hk⟩
    simp only[if_neg o3]
    by_cases o4:o=4
    ·simp only[if_pos o4];exact⟨trivial,hk⟩
    simp only[if_neg o4]
    by_cases o5:o=5
    ·simp only[if_pos o5]
     obtain⟨hb,he⟩:=hblk (.inl o5)
     rw[hop] at hb he
     rw[(AB fa fns k bd [] [] (m::up) (m0::up0) nx _ ⟨λ_=>rfl,hk⟩ hb).1,(AB fa fns k el [] [] (m::up) (m0::up0) _ _ ⟨λ_=>rfl,hk⟩ he).1]
     exact⟨rfl,hk⟩
    simp only[if_neg o5]
    split
    ·exact⟨trivial,hk⟩
    ·exact⟨trivial,hk⟩
theorem AB(fa:List UInt8->Int)(fns:List Fd)(k:Nat):∀(l:List Sm) (m m0:Scp) (up up0:List Scp) (nx:Nat) (w:Lw),KS (m::up) (m0::up0)->(fp fns k l m0 up0 0).2=0->
 aU fa (-1) l m up nx w=aU fa 0 l m up nx w/\KS ((aU fa 0 l m up nx w).1::up) ((fp fns k l m0 up0 0).1::up0)
 |[],m,m0,up,up0,nx,w,hk,_=>by rw[aU,aU,fp];exact⟨rfl,hk⟩
 |s::r,m,m0,up,up0,nx,w,hk,h=>by
  rw[fp] at h⊢
  have h1:=rR h
  obtain⟨e1,k1⟩:=UC fa fns k s m m0 up up0 nx w hk h1
  rw[h1] at h⊢
  rw[aU,aU,e1]
  exact AB fa fns k r _ _ up up0 _ _ k1 h
end
theorem Nu:∀(ps:List (List UInt8)) (m m0:Scp) (i:Nat) (c:Int),KS [m] [m0]->KS [psS ps m i] [(lL ps m0 c).1]
 |[],m,m0,i,c,h=>h
 |p::r,m,m0,i,c,h=>by
  rw[psS]
  have:=Nu r (fu m p i) (fu m0 p 0) (i+1) (if(fU m0 p).isSome then fl c 2 else c) (h.set p i 0)
  simpa[lL] using this
theorem Uc(l:List Fd){fns:List Fd}{k:Nat}{f:Fd}{c:Int}(h:icF fns k f c=0):lwF l (-1) f=lwF l 0 f:=by
 rw[icF] at h
 have h0:=rR h
 rw[h0] at h
 have hk:=Nu f.params [] [] 0 (if(match dr fns f.name with|some j=>decide (j<k)|none=>true) then fl c 2 else c) ⟨λ_=>rfl,trivial⟩
 rw[lwF,lwF,(AB (faI l) fns k f.body _ _ [] [] f.params.length _ hk h).1]
theorem DO{fns:List Fd}:∀{l:List Fd} {k:Nat} {c:Int},jX fns k l c=0->∀f∈l,∃k' c',icF fns k' f c'=0
 |[],k,c,h,f,hf=>by cases hf
 |g::r,k,c,h,f,hf=>by
  rw[jX] at h
  rcases WN.1 hf with rfl|hf
  ·refine⟨k,c,?_⟩
   by_cases hc:icF fns k f c=0
   ·exact hc
   ·rw[td fns hc] at h;exact h
  ·exact DO h f hf
theorem Of{l:List Fd}(h:cm l=0):∀f∈l,lwF l (-1) f=lwF l 0 f:=λf hf=>by
 rw[AH] at h
 split at h
 ·obtain⟨k,c,hi⟩:=DO h f hf
  exact Uc l hi
 ·cases h
end
section
def eJ(l:List Fd):Bool:=decide (cm l=0)&&unB (unL l)
def mo(l:List Fd):List Cd:=if eJ l then unL l else[]
theorem SQ{l:List Fd}(h:cm l=0):unR l=unL l:=Xn (Of h)
theorem JU{l:List Fd}(h:cm l=0):LT 1073741824 (unL l):=by
 have hp:=vR h
 have hs:=kY hp
 have hl:l.length<=4:=((ec l).1 hp).1.2
 exact QL l 0 (by omega) (by omega)
def Ds(l:List Fd):Vis Unit where
 I:=λ_=>[.row 1 [[.p (fdL l)]],.row 1 [[.nils]]]
 n:=2
 F:=da
 caps:=[.ptr 0 1 0 0]
 len:=λ_=>rfl
 ok:=λ_=>by simp[okO,below]
 capsOk:=by simp[below]
variable (G:aL)
theorem Dx{f:Fd->Cd}:∀(l:List Fd) (st:Unit),eX (λ_ x=>(f x,())) st l=(l.map f,())
 |[],_=>rfl
 |x::r,st=>by rw[eX,Dx r];rfl
theorem vX(l:List Fd)(hl:l.length<=1073741824)(f:Fd)(hz:f.sz<=16777216)(hf:∀x∈f.body,aK 4 x=true):AC Tryz.prog G da [.agg (f.cs.map .p),.ptr 0 1 0 0] ((Ds l).I ()) λx h=>x= .ret (.agg ((lwF l 0 f).cs.map .p))/\h=(Ds l).I ():=by
 have hfc:=f.cs_eq'
 have hL:=Ja G l hl f hz hf
 have hcs:=(lwF l 0 f).cs_eq2
 generalize lwF l 0 f=c at hL hcs
 rw[hfc,hcs] at hL
 refine(Ds l).trim G (AC.go pw ?_) (by rw[hcs];simp[below])
 simp-implicitDefEqProofs[jd,Ds,hfc]
 refine hL.use ?_
 simp-implicitDefEqProofs[hcs]
theorem Bv(hK:G iQ=some gV)(hS:G dJ=some [.tbl opK opV])(l:List Fd)(hz:aY l<=1073741824):VF Tryz.prog G dH [.agg [.p (fdL l)]] (.tup [.agg [.p (cdL (mo l))],.p (.bool (eJ l))]):=by
 have hfl:fdL l= .lst 3 (l.map Fd.cs):=rfl
 have key:AC Tryz.prog G dH [.agg [.p (fdL l)]] [] λx h=>∃V,x= .ret (.tup [.agg [V],.p (.bool (eJ l))])/\(V= .p (cdL (mo l))\/(V= .nils/\mo l=[])):=by
  refine AC.go sn ?_
  simp-implicitDefEqProofs[kS]
  refine(RX G hK hS l hz).use ?_
  by_cases h0:cm l=0
  case neg=>
   have hf:eJ l=false:=by simp[eJ,h0]
   have hu:mo l=[]:=by rw[mo,hf];rfl
   simp-implicitDefEqProofs[h0,hf,hu]
  have hp:=vR h0
  have hs:=kY hp
  have hfm:=ri hp
  have hl4:l.length<=4:=((ec l).1 hp).1.2
  have hM:=Lg G (Ds l) (λ_ f=>(lwF l 0 f,())) (λ_ _=>True) l (by omega) (by show 0<2;omega) (λi st hi _=>⟨trivial,vX G l (by omega) l[i] (by have:=rG (WY hi);omega) (hfm _ (WY hi))⟩) () trivial
  rw[Dx] at hM
  have hU:=Gh G (unL l) (JU h0)
  simp-implicitDefEqProofs[h0]
  refine hM.mono ?_
  rintro x h ⟨rfl,rfl⟩
  have hul:(l.map λf=>lwF l 0 f)=unL l:=rfl
  simp-implicitDefEqProofs[aa,Ds,hul]
  refine hU.use ?_
  cases hb:unB (unL l) with
  |false=>
   have hf:eJ l=false:=by simp[eJ,h0,hb]
   have hu:mo l=[]:=by rw[mo,hf];rfl
   simp-implicitDefEqProofs[hf,hu]
  |true=>
   have hf:eJ l=true:=by simp[eJ,h0,hb]
   have hu:mo l=unL l:=by rw[mo,hf,if_pos rfl]
   simp-implicitDefEqProofs[hf,hu]
 refine key.freezeR (λt v h ⟨V,e,_⟩=>by cases e) ?_
 rintro v h ⟨V,e,hV⟩
 cases e
 refine .tup (.agg ?_ (.one (.p _) .nil)) .nil
 rcases hV with rfl|⟨rfl,hu⟩
 ·exact .one (.p _) .nil
 ·rw[hu];exact .one (View.nils 3) .nil
theorem BZ(l:List Fd)(hz:aY l<=1073741824):VF Tryz.prog G dE [.agg [.p (fdL l)]] (.tup [.agg [.p (cdL (mo l))],.p (.bool (eJ l))]):=by
 have hfl:fdL l= .lst 3 (l.map Fd.cs):=rfl
 have key:AC Tryz.prog G dE [.agg [.p (fdL l)]] [] λx h=>∃V,x= .ret (.tup [.agg [V],.p (.bool (eJ l))])/\(V= .p (cdL (mo l))\/(V= .nils/\mo l=[])):=by
  refine AC.go sh ?_
  simp-implicitDefEqProofs[kR]
  refine(Bi G l hz).use ?_
  by_cases h0:cm l=0
  case neg=>
   have hf:eJ l=false:=by simp[eJ,h0]
   have hu:mo l=[]:=by rw[mo,hf];rfl
   simp-implicitDefEqProofs[h0,hf,hu]
  have hp:=vR h0
  have hs:=kY hp
  have hM:=Oo G l (by omega) (ri hp)
  rw[SQ h0] at hM
  have hU:=Gb G (unL l) (JU h0)
  simp-implicitDefEqProofs[h0]
  refine hM.use ?_
  simp-implicitDefEqProofs[]
  refine hU.use ?_
  cases hb:unB (unL l) with
  |false=>
   have hf:eJ l=false:=by simp[eJ,h0,hb]
   have hu:mo l=[]:=by rw[mo,hf];rfl
   simp-implicitDefEqProofs[hf,hu]
  |true=>
   have hf:eJ l=true:=by simp[eJ,h0,hb]
   have hu:mo l=unL l:=by rw[mo,hf,if_pos rfl]
   simp-implicitDefEqProofs[hf,hu]
 refine key.freezeR (λt v h ⟨V,e,_⟩=>by cases e) ?_
 rintro v h ⟨V,e,hV⟩
 cases e
 refine .tup (.agg ?_ (.one (.p _) .nil)) .nil
 rcases hV with rfl|⟨rfl,hu⟩
 ·exact .one (.p _) .nil
 ·rw[hu];exact .one (View.nils 3) .nil
def tm(l:List Fd)(k:Int):Int:=if eJ l=true/\inR k 0 ((l.length:Int)-1)=true then(match(unL l)[k.toNat]? with|some c=>(c.blocks.length:Int)|none=> -1) else-1
theorem vp{l:List Fd}(h:eJ l=true):cm l=0/\unB (unL l)=true:=by
 simpa[eJ] using h
theorem JP(l:List Fd):(unL l).length=l.length:=Xp _
theorem CJ(hK:G iQ=some gV)(hS:G dJ=some [.tbl opK opV])(l:List Fd)(hz:aY l<=1073741824)(k:Int):VF Tryz.prog G gF [.agg [.p (fdL l)],.p (.int .i64 k)] (.p (.int .i64 (tm l k))):=by
 refine AC.go th ?_
 simp-implicitDefEqProofs[lu]
 refine(Bv G hK hS l hz).use ?_
 cases hb:eJ l with
 |false=>simp-implicitDefEqProofs[tm,hb]
 |true=>
  obtain⟨h0,hu⟩:=vp hb
  have hlu:mo l=unL l:=by rw[mo,hb,if_pos rfl]
  have hl4:l.length<=4:=((ec l).1 (vR h0)).1.2
  have hul:cdL (unL l)= .lst 3 ((unL l).map Cd.cs):=rfl
  have hlen:=JP l
  have hw:IntKind.i64.wrap ((l.length:Int)-1)=(l.length:Int)-1:=ab (by omega) (by omega)
  simp-implicitDefEqProofs[hlu,hul,hlen,hw]
  refine(cC G k 0 ((l.length:Int)-1)).use ?_
  cases hk:inR k 0 ((l.length:Int)-1) with
  |false=>simp-implicitDefEqProofs[tm,hk]
  |true=>
   have hk2:=hk
   simp only[inR,WX,decide_eq_true_eq] at hk2
   obtain⟨m,rfl⟩:∃m:Nat,k=m:=⟨k.toNat,by omega⟩
   have hlt:m<(unL l).length:=by omega
   obtain⟨c,hc⟩:∃c,(unL l)[m]?=some c:=⟨_,WK hlt⟩
   have hcs:=c.cs_eq2
   have hbl:bkL c.blocks= .lst 5 (c.blocks.map Bk.cs):=rfl
   clear hlt
   simp-implicitDefEqProofs[tm,hb,hk,hc,hcs,hbl]
theorem ta(l:List Fd)(hz:aY l<=1073741824)(k:Int):VF Tryz.prog G dX [.agg [.p (fdL l)],.p (.int .i64 k)] (.p (.int .i64 (tm l k))):=by
 refine AC.go tJ ?_
 simp-implicitDefEqProofs[mg]
 refine(BZ G l hz).use ?_
 cases hb:eJ l with
 |false=>simp-implicitDefEqProofs[tm,hb]
 |true=>
  obtain⟨h0,hu⟩:=vp hb
  have hlu:mo l=unL l:=by rw[mo,hb,if_pos rfl]
  have hl4:l.length<=4:=((ec l).1 (vR h0)).1.2
  have hul:cdL (unL l)= .lst 3 ((unL l).map Cd.cs):=rfl
  have hlen:=JP l
  have hw:IntKind.i64.wrap ((l.length:Int)-1)=(l.length:Int)-1:=ab (by omega) (by omega)
  simp-implicitDefEqProofs[hlu,hul,hlen,hw]
  refine(cI G k 0 ((l.length:Int)-1)).use ?_
  cases hk:inR k 0 ((l.length:Int)-1) with
  |false=>simp-implicitDefEqProofs[tm,hk]
  |true=>
   have hk2:=hk
   simp only[inR,WX,decide_eq_true_eq] at hk2
   obtain⟨m,rfl⟩:∃m:Nat,k=m:=⟨k.toNat,by omega⟩
   have hlt:m<(unL l).length:=by omega
   obtain⟨c,hc⟩:∃c,(unL l)[m]?=some c:=⟨_,WK hlt⟩
   have hcs:=c.cs_eq2
   have hbl:bkL c.blocks= .lst 5 (c.blocks.map Bk.cs):=rfl
   clear hlt
   simp-implicitDefEqProofs[tm,hb,hk,hc,hcs,hbl]
end
section
def Byt(l:List Int):Prop:=∀n∈l,0<=n/\n<=255
def rdO(b:List Int)(p:Nat):AO:= .row 2 [[.p (uh b),.p (.int .i64 p)]]
theorem Mb{a b:Int}(ha:0<=a)(ha2:a<4611686018427387904)(hb:0<=b)(hb2:b<4611686018427387904):∃n:Nat,IntKind.i64.wrap ((BitVec.ofInt IntKind.i64.bits a^^^BitVec.ofInt IntKind.i64.bits b).toNat:Int)=n:=by
 refine⟨(BitVec.ofInt IntKind.i64.bits a^^^BitVec.ofInt IntKind.i64.bits b).toNat,?_⟩
 obtain⟨x,rfl⟩:∃x:Nat,a=x:=⟨a.toNat,by omega⟩
 obtain⟨y,rfl⟩:∃y:Nat,b=y:=⟨b.toNat,by omega⟩
 have h1:(BitVec.ofInt 64 (x:Int)).toNat=x:=by simp;omega
 have h2:(BitVec.ofInt 64 (y:Int)).toNat=y:=by simp;omega
 have h3:(BitVec.ofInt 64 (x:Int)^^^BitVec.ofInt 64 (y:Int)).toNat<2^63:=by
  rw[BitVec.toNat_xor,h1,h2]
  exact Nat.xor_lt_two_pow (by omega) (by omega)
 have h4:(BitVec.ofInt IntKind.i64.bits (x:Int)^^^BitVec.ofInt IntKind.i64.bits (y:Int)).toNat<2^63:=h3
 exact ab (by omega) (by omega)
theorem Js{a:Nat}{n:Int}(hn:1<=n):∃k:Nat,((a:Int).tmod n)=k/\(k:Int)<n:=by
 obtain⟨m,rfl⟩:∃m:Nat,n=m:=⟨n.toNat,by omega⟩
 refine⟨a%m,?_,?_⟩
 ·rfl
 ·have:a%m<m:=Nat.mod_lt _ (by omega)
  omega
variable (G:aL)
theorem RQ(l:List Int):AC Tryz.prog G me [.p (uh l)] [] λx h=>x= .ret (.ptr 0 2 0 0)/\h=[rdO (l.take 2000) 0]:=by
 refine AC.go Cn ?_
 have hbl:uh l= .lst 1 (l.map λn=>[.int .u8 n]):=rfl
 simp-implicitDefEqProofs[rf,hbl]
 refine aO (λh=>?_) (λh=>?_)
 ·simp at h
  have:2000<=l.length:=by omega
  simp-implicitDefEqProofs[this,rdO,uh,List.map_take]
 ·simp at h
  have:l.take 2000=l:=WQ (by omega)
  simp-implicitDefEqProofs[rdO,this,uh]
theorem NK(b:List Int)(hb:Byt b)(hl:b.length<=2000)(p:Nat)(hp:p<=1099511627776)(n:Int):AC Tryz.prog G aP [.ptr 0 2 0 0,.p (.int .i64 n)] [rdO b p] λx h=>∃k:Nat,x= .ret (.p (.int .i64 k))/\h=[rdO b (p+1)]/\((k:Int)<n\/k=0):=by
 refine AC.go uq ?_
 have hbl:uh b= .lst 1 (b.map λn=>[.int .u8 n]):=rfl
 have hw:IntKind.i64.wrap ((p:Int)+1)=((p+1:Nat):Int):=w1 (by omega)
 by_cases hn:n<1
 ·simp-implicitDefEqProofs[eL,rdO,hbl,hw,hn]
  exact⟨0,rfl,.inr rfl⟩
 by_cases hbn:b=[]
 ·subst hbn
  have hb0:uh []= .lst 1 []:=rfl
  simp-implicitDefEqProofs[eL,rdO,hb0,hw,hn]
  exact⟨0,rfl,.inr rfl⟩
 have hpos:0<b.length:=XN.2 hbn
 have hlb:¬b.length=0:=by omega
 have hn0:¬n=0:=by omega
 have hw2:IntKind.i64.wrap (p:Int)=(p:Int):=ab (by omega) (by omega)
 have at_:∀q:Nat,∃c:Int,b[q%b.length]?=some c/\0<=c/\c<=255:=λq=>by
  have h:=Nat.mod_lt q hpos
  exact⟨_,WK h,hb _ (WY h)⟩
 simp-implicitDefEqProofs[eL,rdO,hbl,hw,hn,hbn,hw2]
 refine aO (λh1=>?_) (λh1=>?_)
 ·simp at h1
  obtain⟨c,e1,e2,e3⟩:=at_ p
  rw[Nat.mod_eq_of_lt h1] at e1
  obtain⟨d,rfl⟩:∃d:Nat,c=d:=⟨c.toNat,by omega⟩
  obtain⟨k,q1,q2⟩:=Js (a:=d) (n:=n) (by omega)
  have hw3:IntKind.i64.wrap (d:Int)=d:=ab (by omega) (by omega)
  simp-implicitDefEqProofs[e1,hw3,hn0,q1]
  exact⟨k,rfl,.inl q2⟩
 ·simp at h1
  obtain⟨c1,e1,e2,e3⟩:=at_ p
  obtain⟨c2,f1,f2,f3⟩:=at_ (p*7+3)
  have hq:p/b.length<=p:=Nat.div_le_self _ _
  have ht1:(p:Int).tmod (b.length:Int)=((p%b.length:Nat):Int):=rfl
  have ht2:((p:Int)*7+3).tmod (b.length:Int)=(((p*7+3)%b.length:Nat):Int):=rfl
  have ht3:(p:Int).tdiv (b.length:Int)=((p/b.length:Nat):Int):=rfl
  generalize p/b.length=q at hq ht3
  generalize p%b.length=r1 at e1 ht1
  generalize (p*7+3)%b.length=r2 at f1 ht2
  obtain⟨x1,rfl⟩:∃d:Nat,c1=d:=⟨c1.toNat,by omega⟩
  obtain⟨x2,rfl⟩:∃d:Nat,c2=d:=⟨c2.toNat,by omega⟩
  obtain⟨m,hx⟩:=Mb (a:=x1*131+x2*1117+p*29+q*53) (b:=(x1*131+x2*1117+p*29+q*53)/64) (by omega) (by omega) (by omega) (by omega)
  obtain⟨k,q1,q2⟩:=Js (a:=m) (n:=n) (by omega)
  have ht4:((x1:Int)*131+x2*1117+p*29+q*53).tdiv 64=((x1:Int)*131+x2*1117+p*29+q*53)/64:=Int.tdiv_eq_ediv_of_nonneg (by omega)
  have w1:IntKind.i64.wrap ((p:Int)*7)=(p:Int)*7:=ab (by omega) (by omega)
  have w2:IntKind.i64.wrap ((p:Int)*7+3)=(p:Int)*7+3:=ab (by omega) (by omega)
  have w3:IntKind.i64.wrap ((p:Int)*29)=(p:Int)*29:=ab (by omega) (by omega)
  have w4:IntKind.i64.wrap (x1:Int)=x1:=ab (by omega) (by omega)
  have w5:IntKind.i64.wrap (x2:Int)=x2:=ab (by omega) (by omega)
  have w6:IntKind.i64.wrap ((x1:Int)*131)=(x1:Int)*131:=ab (by omega) (by omega)
  have w7:IntKind.i64.wrap ((x2:Int)*1117)=(x2:Int)*1117:=ab (by omega) (by omega)
  have w8:IntKind.i64.wrap ((x1:Int)*131+x2*1117)=(x1:Int)*131+x2*1117:=ab (by omega) (by omega)
  have w9:IntKind.i64.wrap ((x1:Int)*131+x2*1117+p*29)=(x1:Int)*131+x2*1117+p*29:=ab (by omega) (by omega)
  have w10:IntKind.i64.wrap (q:Int)=q:=ab (by omega) (by omega)
  have w11:IntKind.i64.wrap ((q:Int)*53)=(q:Int)*53:=ab (by omega) (by omega)
  have w12:IntKind.i64.wrap ((x1:Int)*131+x2*1117+p*29+q*53)=(x1:Int)*131+x2*1117+p*29+q*53:=ab (by omega) (by omega)
  have w13:IntKind.i64.wrap (((x1:Int)*131+x2*1117+p*29+q*53)/64)=((x1:Int)*131+x2*1117+p*29+q*53)/64:=ab (by omega) (by omega)
  simp-implicitDefEqProofs[hlb,ht1,ht2,ht3,e1,f1,w1,w2,w3,w4,w5,w6,w7,w8,w9,w10,w11,w12,w13,ht4,hx,hn0,q1]
  simp-implicitDefEqProofs[] at hx
  rw[hx]
  exact⟨k,q1,.inl q2⟩
theorem bv(b:List Int)(p n:Nat):okO n (rdO b p):=by simp[okO,rdO]
theorem bf(b:List Int)(hb:Byt b)(hl:b.length<=2000)(p:Nat)(hp:p<=1099511627776)(n:Int)(rest:List AO):AC Tryz.prog G aP [.ptr 0 2 0 0,.p (.int .i64 n)] (rdO b p::rest) λx h=>∃k:Nat,x= .ret (.p (.int .i64 k))/\h=rdO b (p+1)::rest/\((k:Int)<n\/k=0):=by
 refine((NK G b hb hl p hp n).pre rest (by simp[below]) (λo ho=>by rw[WR.1 ho];exact bv _ _ _) ?_).mono ?_
 ·rintro x h ⟨k,_,rfl,_⟩;rfl
 ·rintro x h ⟨h1,⟨k,e1,rfl,e3⟩,rfl⟩
  exact⟨k,e1,rfl,e3⟩
theorem Rn{f:FuncId}{args:List AV}{b:List Int}{p:Nat}{o:AO}{R:AV->Nat->Prop}(H:AC Tryz.prog G f (.ptr 0 2 0 0::args) [rdO b p,o] λx h=>∃v q,x= .ret (.p v)/\h=[rdO b q,o]/\R (.p v) q)(ho:okO 0 o)
 {h:List AO}{k:Nat}{args':List AV}(hk:k≠0)(h0:h[0]?=some (rdO b p))(h1:h[k]?=some o)(hT:TW [0,k] args' args):AC Tryz.prog G f (.ptr 0 2 0 0::args') h λx h'=>∃v q,x= .ret (.p v)/\h'=h.set 0 (rdO b q)/\R (.p v) q:=by
 have nd:[0,k].Nodup:=by simp;omega
 refine(H.frame (args:= .ptr 0 2 0 0::args') [0,k] nd (by rw[uu];exact⟨.inr ⟨by simp[below],rfl⟩,hT⟩) (bQ h0 (bv _ _ _) (bQ h1 ho bJ))).mono ?_
 rintro x h' ⟨x0,h2,⟨v,q,rfl,rfl,r⟩,_,rfl,rfl⟩
 refine⟨v,q,by simp[Ce,ren],?_,r⟩
 have e1:∀σ,gU σ (rdO b q)=rdO b q:=λσ=>uU (n:=0) (λi hi=>by omega) _ (bv _ _ _)
 have e2:∀σ,gU σ o=o:=λσ=>uU (n:=0) (λi hi=>by omega) _ ho
 simp only[List.take,Xb,XA,Xj,XG,e1,e2,mrg,List.drop,Xe]
 refine List.ext_getElem? λi=>?_
 rw[List.getElem?_set]
 split
 ·rename_i e;subst e
  rw[WM (Ne.symm hk)]
  split
  ·exact h1.symm
  ·rename_i hl
   have:=(WJ.1 h1).1
   simp at hl;omega
 ·rfl
theorem Sl(b:List Int)(hb:Byt b)(hl:b.length<=2000)(p:Nat)(hp:p<=1099511627776)(l:List Int)(hne:l≠[])(hll:l.length<=1099511627776):AC Tryz.prog G cP [.ptr 0 2 0 0,.sl 1 1 0 l.length] [rdO b p,GY l] λx h=>∃v q,x= .ret (.p v)/\h=[rdO b q,GY l]/\(∃n,v= .int .i64 n/\n∈l)/\q=p+1:=by
 refine AC.go nF ?_
 have hpos:0<l.length:=XN.2 hne
 simp-implicitDefEqProofs[jw]
 refine(bf G b hb hl p hp l.length [GY l]).mono ?_
 rintro r h ⟨k,rfl,rfl,hk⟩
 have hkl:k<l.length:=by omega
 have hg:=WK hkl
 have hn:GY l= .row 1 (l.map λn=>[.p (.int .i64 n)]):=rfl
 simp-implicitDefEqProofs[aa,hkl,hn,hg]
theorem mO{b:List Int}(hb:Byt b)(hl:b.length<=2000){p:Nat}(hp:p<=1099511627776)(l:List Int){h:List AO}{k:Nat}(hne:l≠[])(hll:l.length<=1099511627776)(hk:k≠0)(h0:h[0]?=some (rdO b p))(h1:h[k]?=some (GY l)):
 AC Tryz.prog G cP [.ptr 0 2 0 0,.sl k 1 0 l.length] h λx h'=>∃n,n∈l/\x= .ret (.p (.int .i64 n))/\h'=h.set 0 (rdO b (p+1)):=by
 refine(Rn G (args:=[.sl 1 1 0 l.length]) (R:=λv q=>(∃n,v= .p (.int .i64 n)/\n∈l)/\q=p+1) ((Sl G b hb hl p hp l hne hll).mono ?_) (by simp[okO,GY]) (args':=[.sl k 1 0 l.length]) hk h0 h1 (by simp[below,ren])).mono ?_
 ·rintro x h ⟨v,q,e1,e2,⟨n,rfl,e3⟩,e4⟩
  exact⟨_,q,e1,e2,⟨n,rfl,e3⟩,e4⟩
 ·rintro x h' ⟨v,q,e1,e2,⟨n,e3,e4⟩,e5⟩
  cases e3;subst e5
  exact⟨n,e4,e1,e2⟩
theorem TI(b:List Int)(hb:Byt b)(hl:b.length<=2000)(p:Nat)(hp:p<=1099511627776)(l:List (List UInt8))(hne:l≠[])(hll:l.length<=1099511627776):AC Tryz.prog G dk [.ptr 0 2 0 0,.sl 1 1 0 l.length] [rdO b p,cb l] λx h=>∃v q,x= .ret (.p v)/\h=[rdO b q,cb l]/\(∃s,v= .str s/\s∈l)/\q=p+1:=by
 refine AC.go pm ?_
 have hpos:0<l.length:=XN.2 hne
 simp-implicitDefEqProofs[kr]
 refine(bf G b hb hl p hp l.length [cb l]).mono ?_
 rintro r h ⟨k,rfl,rfl,hk⟩
 have hkl:k<l.length:=by omega
 have hg:=WK hkl
 have hn:cb l= .row 1 (l.map λn=>[.p (.str n)]):=rfl
 simp-implicitDefEqProofs[aa,hkl,hn,hg]
theorem Ht{b:List Int}(hb:Byt b)(hl:b.length<=2000){p:Nat}(hp:p<=1099511627776)(l:List (List UInt8)){h:List AO}{k:Nat}(hne:l≠[])(hll:l.length<=1099511627776)(hk:k≠0)(h0:h[0]?=some (rdO b p))(h1:h[k]?=some (cb l)):
 AC Tryz.prog G dk [.ptr 0 2 0 0,.sl k 1 0 l.length] h λx h'=>∃s,s∈l/\x= .ret (.p (.str s))/\h'=h.set 0 (rdO b (p+1)):=by
 refine(Rn G (args:=[.sl 1 1 0 l.length]) (R:=λv q=>(∃n,v= .p (.str n)/\n∈l)/\q=p+1) ((TI G b hb hl p hp l hne hll).mono ?_) (by simp[okO,cb]) (args':=[.sl k 1 0 l.length]) hk h0 h1 (by simp[below,ren])).mono ?_
 ·rintro x h ⟨v,q,e1,e2,⟨n,rfl,e3⟩,e4⟩
  exact⟨_,q,e1,e2,⟨n,rfl,e3⟩,e4⟩
 ·rintro x h' ⟨v,q,e1,e2,⟨n,e3,e4⟩,e5⟩
  cases e3;subst e5
  exact⟨n,e4,e1,e2⟩
theorem Kq{b:List Int}(hb:Byt b)(hl:b.length<=2000){p:Nat}(hp:p<=1099511627776)(l:List (List UInt8))(hne:l≠[])(hll:l.length<=1099511627776)(rest:List AO):AC Tryz.prog G dk [.ptr 0 2 0 0,.p (aN l)] (rdO b p::rest) λx h=>∃s,s∈l/\x= .ret (.p (.str s))/\h=rdO b (p+1)::rest:=by
 have key:AC Tryz.prog G dk [.ptr 0 2 0 0,.p (aN l)] [rdO b p] λx h=>∃s,s∈l/\x= .ret (.p (.str s))/\h=[rdO b (p+1)]:=by
  refine AC.go pm ?_
  have hpos:0<l.length:=XN.2 hne
  have hsl:aN l= .lst 1 (l.map λw=>[.str w]):=rfl
  simp-implicitDefEqProofs[kr,hsl]
  refine(bf G b hb hl p hp l.length []).mono ?_
  rintro r h ⟨k,rfl,rfl,hk⟩
  have hkl:k<l.length:=by omega
  have hg:=WK hkl
  simp-implicitDefEqProofs[aa,hg]
 refine(key.pre rest (by simp[below]) (λo ho=>by rw[WR.1 ho];exact bv _ _ _) ?_).mono ?_
 ·rintro x h ⟨k,_,_,rfl⟩;rfl
 ·rintro x h ⟨h1,⟨s,e1,e2,rfl⟩,rfl⟩
  exact⟨s,e1,e2,rfl⟩
def DP(b:List Int)(Q:AV->Nat->Prop)(x:ARes)(h:List AO):Prop:=∃v rest q v1,x= .ret v/\h=rdO b q::rest/\Fzs (.dead::rest) 1 [v] [v1]/\Q v1 q
theorem oG{f:FuncId}{args:List AV}{b:List Int}{p:Nat}{Q:AV->Nat->Prop}(H:AC Tryz.prog G f args [rdO b p] (DP b Q)):AC Tryz.prog G f args [rdO b p] λx h=>∃v q,x= .ret v/\h=[rdO b q]/\Q v q:=by
 refine H.frz 1 (WV _) (λt v h ⟨_,_,_,_,e,_⟩=>by cases e) ?_
 rintro v h ⟨v0,rest,q,v1,e,rfl,hf,r⟩
 cases e
 exact⟨v1,[rdO b q],by simp,rfl,hf,.same (bv _ _ _) (.nil _),v1,q,rfl,rfl,r⟩
theorem ku{f:FuncId}{args:List AV}{b:List Int}{p:Nat}{Q:AV->Nat->Prop}(H:AC Tryz.prog G f args [rdO b p] λx h=>∃v q,x= .ret v/\h=[rdO b q]/\Q v q)(rest:List AO)(ha:az 1 args):AC Tryz.prog G f args (rdO b p::rest) λx h=>∃v q,x= .ret v/\h=rdO b q::rest/\Q v q:=by
 refine(H.pre rest ha (λo ho=>by rw[WR.1 ho];exact bv _ _ _) ?_).mono ?_
 ·rintro x h ⟨k,_,_,rfl,_⟩;rfl
 ·rintro x h ⟨h1,⟨s,q,e1,rfl,e2⟩,rfl⟩
  exact⟨s,q,e1,rfl,e2⟩
end
section
def vG(l:List (List UInt8)):Prop:=l.length<=1000000/\∀s∈l,s.length<=8
theorem ey{h:List AO}{id:Nat}{l:List Ex}(e:h[id]?=some (.row 4 (l.map λx=>x.cs.map .p))):View h (.sl id 4 0 l.length) (exL l):=by
 have:=gm (h:=h) (id:=id) (sz:=4) (n:=l.length) (ls:=l.map Ex.cs) (by rw[e];simp) (by simp) (λx hx=>by obtain⟨b,_,rfl⟩:=Xl.1 hx;exact b.cs_len)
 exact this
variable (G:aL)
def ExQ(p n m:Nat)(v:AV)(q:Nat):Prop:=(∃e:Ex,v= .agg (e.cs.map .p)/\e.sz<=n)/\p<=q/\q<=p+m
theorem Bh{b:List Int}(hb:Byt b)(hl:b.length<=2000){p:Nat}(hp:p<=1000000000000)(names:List (List UInt8))(hn:vG names):AC Tryz.prog G dy [.ptr 0 2 0 0,.p (aN names)] [rdO b p] λx h=>∃v q,x= .ret v/\h=[rdO b q]/\ExQ p 9 2 v q:=by
 refine oG G (AC.go sF ?_)
 have hsl:aN names= .lst 1 (names.map λw=>[.str w]):=rfl
 have fin1:∀(o n:Int) (s:List UInt8) (q:Nat) (rest:List AO),p<=q->q<=p+2->s.length<=8->DP b (ExQ p 9 2) (.ret (.agg [.p (.int .i64 o),.p (.int .i64 n),.p (.str s),.nils])) (rdO b q::rest):=λo n s q rest h1 h2 hs=>
  ⟨_,rest,q,.agg ((Ex.mk o n s []).cs.map .p),rfl,rfl,.agg (.keep (by simp) (.keep (by simp) (.keep (by simp) (.one (View.nils 4) .nil)))) .nil,⟨_,rfl,by simp[Ex.sz,aJ];omega⟩,h1,h2⟩
 have num:∀(q:Nat) (h:List AO),q<=1000000000001->h[0]?=some (rdO b q)->h[2]?=some (GY [0,1,2,3,5,7,15,16,100,255])->_:=λq h hq h0 h1=>mO G hb hl (p:=q) (by omega) [0,1,2,3,5,7,15,16,100,255] (h:=h) (k:=2) (by simp) (by simp) (by omega) h0 h1
 by_cases hne:names=[]
 ·subst hne
  have hs0:aN []= .lst 1 []:=rfl
  simp-implicitDefEqProofs[gt,hs0]
  refine(num p _ (by omega) rfl rfl).mono ?_
  rintro r h ⟨n,_,rfl,rfl⟩
  simp-implicitDefEqProofs[aa]
  exact fin1 _ _ _ _ _ (by omega) (by omega) (by simp)
 ·have hlen:¬names.length=0:=λh=>hne (XP h)
  simp-implicitDefEqProofs[gt,hsl,hne]
  refine(bf G b hb hl p (by omega) 3 _).mono ?_
  rintro r h ⟨k,rfl,rfl,_⟩
  simp-implicitDefEqProofs[aa]
  refine aO (λhc=>?_) (λhc=>?_)
  ·simp-implicitDefEqProofs[]
   refine(num (p+1) _ (by omega) rfl rfl).mono ?_
   rintro r h ⟨n,_,rfl,rfl⟩
   simp-implicitDefEqProofs[aa]
   exact fin1 _ _ _ _ _ (by omega) (by omega) (by simp)
  ·simp-implicitDefEqProofs[]
   rw[←hsl]
   refine(Kq G hb hl (by omega) names hne (by have:=hn.1;omega) _).mono ?_
   rintro r h ⟨s,hs,rfl,rfl⟩
   have:=hn.2 s hs
   simp-implicitDefEqProofs[aa]
   exact fin1 _ _ _ _ _ (by omega) (by omega) this
theorem Ci{b:List Int}(hb:Byt b)(hl:b.length<=2000)(names:List (List UInt8))(hn:vG names):∀(d:Nat),d<=20->∀{p:Nat},p+6*3^d<=1000000000000->AC Tryz.prog G bc [.ptr 0 2 0 0,.p (aN names),.p (.int .i64 d)] [rdO b p] λx h=>∃v q,x= .ret v/\h=[rdO b q]/\ExQ p (10*3^d) (6*3^d) v q:=by
 intro d
 induction d with
 |zero=>
  intro _ p hp
  refine oG G (AC.go no ?_)
  simp-implicitDefEqProofs[eB]
  refine(ku G (Bh G hb hl (by omega) names hn) _ (by simp[below])).mono ?_
  rintro r h ⟨v,q,rfl,rfl,⟨e,rfl,he⟩,h1,h2⟩
  have hec:=e.cs_eq
  simp-implicitDefEqProofs[aa,hec]
  exact⟨_,_,q,.agg (e.cs.map .p),rfl,rfl,.agg (by rw[hec];exact il (by simp)) .nil,⟨e,rfl,by omega⟩,h1,by omega⟩
 |succ d ih=>
  intro hd p hp
  have hpow:3^(d+1)=3*3^d:=by rw[Nat.pow_succ];omega
  have h1p:1<=3^d:=Nat.one_le_pow _ _ (by omega)
  have ih:=λ{p:Nat} (hp:p+6*3^d<=1000000000000)=>ih (by omega) (p:=p) hp
  rw[hpow] at hp⊢
  generalize 3^d=t at*
  have hw:IntKind.i64.wrap (d:Int)=(d:Int):=ab (by omega) (by omega)
  have leaf:∀(q:Nat) (rest:List AO),p<=q->q<=p+3->AC Tryz.prog G dy [.ptr 0 2 0 0,.p (aN names)] (rdO b q::rest) λx h=>∃v q',x= .ret v/\h=rdO b q'::rest/\ExQ q 9 2 v q':=λq rest _ _=>ku G (Bh G hb hl (by omega) names hn) rest (by simp[below])
  have sub:∀(q:Nat) (rest:List AO),p<=q->q<=p+6+6*t->AC Tryz.prog G bc [.ptr 0 2 0 0,.p (aN names),.p (.int .i64 d)] (rdO b q::rest) λx h=>∃v q',x= .ret v/\h=rdO b q'::rest/\ExQ q (10*t) (6*t) v q':=λq rest _ _=>ku G (ih (by omega)) rest (by simp[below])
  refine oG G (AC.go no ?_)
  have leafCase:∀(e:Ex) (q:Nat) (rest:List AO),e.sz<=9->p<=q->q<=p+5->DP b (ExQ p (10*(3*t)) (6*(3*t))) (.ret (.agg (e.cs.map .p))) (rdO b q::rest):=λe q rest h1 h2 h3=>
   ⟨_,_,q,.agg (e.cs.map .p),rfl,rfl,.agg (by rw[e.cs_eq];exact il (by simp)) .nil,⟨e,rfl,by omega⟩,h2,by omega⟩
  have bin:∀(o:Int) (e1 e2:Ex) (q:Nat) (rest:List AO) (k:Nat),(rdO b q::rest)[k+1]?=some (.row 4 [e1.cs.map .p,e2.cs.map .p])->e1.sz<=10*t->e2.sz<=10*t->p<=q->q<=p+6*(3*t)->DP b (ExQ p (10*(3*t)) (6*(3*t))) (.ret (.agg [.p (.int .i64 o),.p (.int .i64 0),.p (.str []),.sl (k+1) 4 0 2])) (rdO b q::rest):=λo e1 e2 q rest k hk h1 h2 h3 h4=>
   ⟨_,rest,q,.agg ((Ex.mk o 0 [] [e1,e2]).cs.map .p),rfl,rfl,.agg (.keep (by simp) (.keep (by simp) (.keep (by simp) (.one (ey (l:=[e1,e2]) (by simpa using hk)) .nil)))) .nil,⟨_,rfl,by simp[Ex.sz,aJ];omega⟩,h3,h4⟩
  have una:∀(o:Int) (e1:Ex) (q:Nat) (rest:List AO) (k:Nat),(rdO b q::rest)[k+1]?=some (.row 4 [e1.cs.map .p])->e1.sz<=10*t->p<=q->q<=p+6*(3*t)->DP b (ExQ p (10*(3*t)) (6*(3*t))) (.ret (.agg [.p (.int .i64 o),.p (.int .i64 0),.p (.str []),.sl (k+1) 4 0 1])) (rdO b q::rest):=λo e1 q rest k hk h1 h3 h4=>
   ⟨_,rest,q,.agg ((Ex.mk o 0 [] [e1]).cs.map .p),rfl,rfl,.agg (.keep (by simp) (.keep (by simp) (.keep (by simp) (.one (ey (l:=[e1]) (by simpa using hk)) .nil)))) .nil,⟨_,rfl,by simp[Ex.sz,aJ];omega⟩,h3,h4⟩
  by_cases hd0:d=0
  ·subst hd0
   simp-implicitDefEqProofs[eB]
   refine(leaf p _ (by omega) (by omega)).mono ?_
   rintro r h ⟨v,q,rfl,rfl,⟨e,rfl,he⟩,h1,h2⟩
   have hec:=e.cs_eq
   simp-implicitDefEqProofs[aa,hec]
   have:=leafCase e q [.row 4 [e.cs.map .p]] he h1 (by omega)
   rw[hec] at this
   exact this
  have hd2:¬(d:Int)+1<2:=by omega
  simp-implicitDefEqProofs[eB,hd2]
  refine(bf G b hb hl p (by omega) 4 _).mono ?_
  rintro r h ⟨k1,rfl,rfl,_⟩
  simp-implicitDefEqProofs[aa]
  refine aO (λhc=>?_) (λhc=>?_)
  ·simp-implicitDefEqProofs[]
   refine(leaf (p+1) _ (by omega) (by omega)).mono ?_
   rintro r h ⟨v,q,rfl,rfl,⟨e,rfl,he⟩,h1,h2⟩
   have hec:=e.cs_eq
   simp-implicitDefEqProofs[aa,hec]
   have:=leafCase e q [.row 4 [e.cs.map .p]] he (by omega) (by omega)
   rw[hec] at this
   exact this
  simp-implicitDefEqProofs[]
  refine(bf G b hb hl (p+1) (by omega) 7 _).mono ?_
  rintro r h ⟨k2,rfl,rfl,_⟩
  simp-implicitDefEqProofs[aa]
  refine aO (λhc=>?_) (λhc=>?_)
  ·simp-implicitDefEqProofs[]
   refine(mO G hb hl (p:=p+2) (by omega) [11,12,11] (k:=2) (by simp) (by simp) (by omega) rfl rfl).mono ?_
   rintro r h ⟨n,_,rfl,rfl⟩
   simp-implicitDefEqProofs[aa,hw]
   refine(sub (p+3) _ (by omega) (by omega)).mono ?_
   rintro r h ⟨v,q,rfl,rfl,⟨e,rfl,he⟩,h1,h2⟩
   have hec:=e.cs_eq
   simp-implicitDefEqProofs[aa,hec]
   exact una n e q _ 2 (by rw[hec];rfl) he (by omega) (by omega)
  ·simp-implicitDefEqProofs[]
   refine(mO G hb hl (p:=p+2) (by omega) [3,3,4,5,6,7,8,9,10] (k:=2) (by simp) (by simp) (by omega) rfl rfl).mono ?_
   rintro r h ⟨n,_,rfl,rfl⟩
   simp-implicitDefEqProofs[aa,hw]
   refine(sub (p+3) _ (by omega) (by omega)).mono ?_
   rintro r h ⟨v,q,rfl,rfl,⟨e,rfl,he⟩,h1,h2⟩
   have hec:=e.cs_eq
   simp-implicitDefEqProofs[aa,hec,hw]
   refine(sub q _ (by omega) (by omega)).mono ?_
   rintro r h ⟨v,q2,rfl,rfl,⟨e2,rfl,he2⟩,h3,h4⟩
   have hec2:=e2.cs_eq
   simp-implicitDefEqProofs[aa,hec2]
   exact bin n e e2 q2 _ 2 (by rw[hec,hec2];rfl) he he2 (by omega) (by omega)
end
section
def cF(fns:List Fd)(vs:List (List UInt8))(next left:Int):List AV:=[.ptr 0 2 0 0,slE 2 3 (bi fns),.p (aN vs),.p (.int .i64 next),.p (.int .i64 left)]
def HG(b:List Int)(p:Nat)(fns:List Fd)(vs:List (List UInt8))(next left:Int):List AO:=[rdO b p,.row 5 [cF fns vs next left],bY 3 (bi fns)]
def DG(b:List Int)(fns:List Fd)(Q:AV->Nat->List (List UInt8)->Int->Int->Prop)(x:ARes)(h:List AO):Prop:=
 ∃v rest q vc v1 vs next left,x= .ret v/\h=rdO b q:: .row 5 [[.ptr 0 2 0 0,slE 2 3 (bi fns),vc,.p (.int .i64 next),.p (.int .i64 left)]]::bY 3 (bi fns)::rest/\
  Fzs (.dead:: .dead:: .dead::rest) 3 [vc] [.p (aN vs)]/\Fzs (.dead:: .dead:: .dead::rest) 3 [v] [v1]/\Q v1 q vs next left
def PG(b:List Int)(fns:List Fd)(Q:AV->Nat->List (List UInt8)->Int->Int->Prop)(rest:List AO)(x:ARes)(h:List AO):Prop:=
 ∃v q vs next left,x= .ret v/\h=rdO b q:: .row 5 [cF fns vs next left]::bY 3 (bi fns)::rest/\Q v q vs next left
variable (G:aL)
theorem mK{f:FuncId}{args:List AV}{b:List Int}{p:Nat}{fns:List Fd}{vs:List (List UInt8)}{next left:Int}{Q:AV->Nat->List (List UInt8)->Int->Int->Prop}(H:AC Tryz.prog G f args (HG b p fns vs next left) (DG b fns Q)):
 AC Tryz.prog G f args (HG b p fns vs next left) (PG b fns Q []):=by
 refine H.frz 3 (by simp[HG]) (λt v h ⟨_,_,_,_,_,_,_,_,e,_⟩=>by cases e) ?_
 rintro v h ⟨v0,rest,q,vc,v1,vs',n',l',e,rfl,hc,hf,r⟩
 cases e
 refine⟨v1,HG b q fns vs' n' l',by simp,rfl,hf,.same (bv _ _ _) (.one ?_ (.same (mQ _ _) (.nil _))),v1,q,vs',n',l',rfl,rfl,r⟩
 exact .keep (by simp[below]) (.keep (rE (by omega)) (hc.append (.keep (by simp) (.keep (by simp) .nil))))
theorem NH(b:List Int)(p:Nat)(fns:List Fd)(vs:List (List UInt8))(next left:Int):∀o∈HG b p fns vs next left,okO 3 o:=by
 intro o ho
 simp only[HG,WN,XC,or_false] at ho
 rcases ho with rfl|rfl|rfl
 ·exact bv _ _ _
 ·intro e he
  rw[WR.1 he]
  exact⟨by simp[below],rE (by omega),by simp,by simp,by simp,trivial⟩
 ·exact mQ _ _
theorem dh{f:FuncId}{args:List AV}{b:List Int}{p:Nat}{fns:List Fd}{vs:List (List UInt8)}{next left:Int}{Q:AV->Nat->List (List UInt8)->Int->Int->Prop}(H:AC Tryz.prog G f args (HG b p fns vs next left) (PG b fns Q []))(rest:List AO)(ha:az 3 args):
 AC Tryz.prog G f args (rdO b p:: .row 5 [cF fns vs next left]::bY 3 (bi fns)::rest) (PG b fns Q rest):=by
 refine(AC.pre H rest ha (NH _ _ _ _ _ _) ?_).mono ?_
 ·rintro x h ⟨v,q,vs',n',l',_,rfl,_⟩;rfl
 ·rintro x h ⟨h1,⟨v,q,vs',n',l',e1,rfl,e2⟩,rfl⟩
  exact⟨v,q,vs',n',l',e1,rfl,e2⟩
def Ul(p:Nat)(vs:List (List UInt8))(next left:Int)(v:AV)(q:Nat)(vs':List (List UInt8))(next' left':Int):Prop:=(∃s:List UInt8,v= .p (.str s)/\s.length<=8)/\p<=q/\q<=p+2/\vs'=vs/\next'=next+1/\left'=left
theorem JQ{b:List Int}(hb:Byt b)(hl:b.length<=2000){p:Nat}(hp:p+2<=1000000000000)(fns:List Fd)(vs:List (List UInt8))(hv:vG vs){next:Int}(hn: -1<=next)(hn2:next<=1000000000000)(left:Int):
 AC Tryz.prog G gR [.ptr 1 5 0 0] (HG b p fns vs next left) (PG b fns (Ul p vs next left) []):=by
 refine mK G (AC.go tk ?_)
 have hw:IntKind.i64.wrap (next+1)=next+1:=ab (by omega) (by omega)
 have hsl:aN vs= .lst 1 (vs.map λw=>[.str w]):=rfl
 simp-implicitDefEqProofs[lX,HG,cF,hw]
 refine(bf G b hb hl p (by omega) 9 _).mono ?_
 rintro r h ⟨k,rfl,rfl,_⟩
 have fin:∀(s:List UInt8) (q:Nat),s.length<=8->p<=q->q<=p+2->DG b fns (Ul p vs next left) (.ret (.p (.str s))) [rdO b q,.row 5 [[.ptr 0 2 0 0,slE 2 3 (bi fns),.p (aN vs),.p (.int .i64 (next+1)),.p (.int .i64 left)]],bY 3 (bi fns)]:=λs q h1 h2 h3=>
  ⟨_,[],q,_,_,vs,next+1,left,rfl,rfl,.keep (by simp) .nil,.keep (by simp) .nil,⟨s,rfl,h1⟩,h2,h3,rfl,rfl,rfl⟩
 obtain⟨N,hN⟩:∃N:Nat,next+1=N:=⟨(next+1).toNat,by omega⟩
 have hm:N%24<24:=Nat.mod_lt _ (by omega)
 have ht:(N:Int).tmod 24=((N%24:Nat):Int):=rfl
 have hw2:IntKind.i64.wrap (((N%24:Nat):Int)+1)=((N%24+1:Nat):Int):=w1 (by omega)
 rw[hN] at fin⊢
 generalize N%24=m at hm ht hw2
 have hm1:m+1<=24:=by omega
 have h0m:(0:Int)<=(m:Int)+1:=by omega
 by_cases hc:k=0/\vs≠[]
 ·obtain⟨rfl,hne⟩:=hc
  have hpos:0<vs.length:=XN.2 hne
  simp-implicitDefEqProofs[aa,hsl,hpos]
  rw[←hsl]
  refine(Kq G hb hl (by omega) vs hne (by have:=hv.1;omega) _).mono ?_
  rintro r h ⟨s,hs,rfl,rfl⟩
  simp-implicitDefEqProofs[aa]
  exact fin s _ (hv.2 s hs) (by omega) (by omega)
 ·have hcc:(k=0/\0<vs.length)=False:=by
   simp only[eq_iff_iff,iff_false]
   exact λ⟨a,c⟩=>hc ⟨a,XN.1 c⟩
  by_cases hk:k=0
  ·have hv0:vs=[]:=by
    by_cases e:vs=[]
    ·exact e
    ·exact absurd ⟨hk,e⟩ hc
   subst hv0
   have hs0:aN []= .lst 1 []:=rfl
   simp-implicitDefEqProofs[aa,hs0,hk,ht,hw2,hm1,h0m]
   rw[←hs0]
   refine fin _ (p+1) ?_ (by omega) (by omega)
   simp
   omega
  ·simp-implicitDefEqProofs[aa,hk,ht,hw2,hm1,h0m]
   refine fin _ (p+1) ?_ (by omega) (by omega)
   simp
   omega
def BR(fns:List Fd):Prop:=fns.length<=1000/\∀f∈fns,f.name.length<=8/\f.params.length<=3
def UL(p:Nat)(vs:List (List UInt8))(next left:Int)(v:AV)(q:Nat)(vs':List (List UInt8))(next' left':Int):Prop:=(∃e:Ex,v= .agg (e.cs.map .p)/\e.sz<=400)/\p<=q/\q<=p+400/\vs'=vs/\next'=next/\left'=left
theorem Ep{b:List Int}(hb:Byt b)(hl:b.length<=2000){p:Nat}(hp:p<=1000000000000)(l:List Int)(hne:l≠[])(hll:l.length<=1000000000000)(rest:List AO):
 AC Tryz.prog G cP [.ptr 0 2 0 0,.p (bG l)] (rdO b p::rest) λx h=>∃n,n∈l/\x= .ret (.p (.int .i64 n))/\h=rdO b (p+1)::rest:=by
 have key:AC Tryz.prog G cP [.ptr 0 2 0 0,.p (bG l)] [rdO b p] λx h=>∃n,n∈l/\x= .ret (.p (.int .i64 n))/\h=[rdO b (p+1)]:=by
  refine AC.go nF ?_
  have hpos:0<l.length:=XN.2 hne
  have hnl:bG l= .lst 1 (l.map λn=>[.int .i64 n]):=rfl
  simp-implicitDefEqProofs[jw,hnl]
  refine(bf G b hb hl p (by omega) l.length []).mono ?_
  rintro r h ⟨m,rfl,rfl,hm⟩
  have hml:m<l.length:=by omega
  have hg:=WK hml
  simp-implicitDefEqProofs[aa,hg]
 refine(key.pre rest (by simp[below]) (λo ho=>by rw[WR.1 ho];exact bv _ _ _) ?_).mono ?_
 ·rintro x h ⟨n,_,_,rfl⟩;rfl
 ·rintro x h ⟨h1,⟨n,e1,e2,rfl⟩,rfl⟩
  exact⟨n,e1,e2,rfl⟩
structure ExS where (es:List Ex) (q:Nat)
theorem ny{b:List Int}(hb:Byt b)(hl:b.length<=2000){p:Nat}(hp:p+1000<=1000000000000)(fns:List Fd)(hf:BR fns)(vs:List (List UInt8))(hv:vG vs)(next left:Int){d:Nat}(hd:d<=3):
 AC Tryz.prog G ip [.ptr 1 5 0 0,.p (.int .i64 d)] (HG b p fns vs next left) (PG b fns (UL p vs next left) []):=by
 refine mK G (AC.go uw ?_)
 have hpow:3^d<=27:=by
  have:3^d<=3^3:=Nat.pow_le_pow_right (by omega) hd
  omega
 have sub:∀(k:Nat),k<=3->∀(q:Nat) (rest:List AO),p<=q->q<=p+700->AC Tryz.prog G bc [.ptr 0 2 0 0,.p (aN vs),.p (.int .i64 k)] (rdO b q::rest) λx h=>∃v q',x= .ret v/\h=rdO b q'::rest/\ExQ q (10*3^k) (6*3^k) v q':=λk hk q rest _ _=>by
  have:3^k<=3^3:=Nat.pow_le_pow_right (by omega) hk
  exact ku G (Ci G hb hl vs hv k (by omega) (by omega)) rest (by simp[below])
 simp-implicitDefEqProofs[mP,HG,cF]
 refine(sub d hd p _ (by omega) (by omega)).mono ?_
 rintro r h ⟨v,q0,rfl,rfl,⟨e0,rfl,he0⟩,hq1,hq2⟩
 have hec:=e0.cs_eq
 simp-implicitDefEqProofs[aa,hec]
 have finE:∀(e:Ex) (q:Nat) (rest:List AO) (v:AV),Fzs (.dead:: .dead:: .dead::rest) 3 [v] [.agg (e.cs.map .p)]->e.sz<=400->p<=q->q<=p+400->DG b fns (UL p vs next left) (.ret v) (rdO b q:: .row 5 [[.ptr 0 2 0 0,slE 2 3 (bi fns),.p (aN vs),.p (.int .i64 next),.p (.int .i64 left)]]::bY 3 (bi fns)::rest):=λe q rest v hz h1 h2 h3=>
  ⟨_,rest,q,_,_,vs,next,left,rfl,rfl,.keep (by simp) .nil,hz,⟨e,rfl,h1⟩,h2,h3,rfl,rfl,rfl⟩
 have fz0:∀rest,Fzs (.dead:: .dead:: .dead::rest) 3 [.agg [.p (.int .i64 e0.op),.p (.int .i64 e0.n),.p (.str e0.name),.p (exL e0.kids)]] [.agg (e0.cs.map .p)]:=λrest=> .agg (by rw[hec];exact il (by simp)) .nil
 by_cases hfe:fns=[]
 ·have h0:bi fns=[]:=by rw[hfe];rfl
  simp-implicitDefEqProofs[h0]
  rw[←h0]
  have:=finE e0 q0 [.row 4 [[.p (.int .i64 e0.op),.p (.int .i64 e0.n),.p (.str e0.name),.p (exL e0.kids)]],.row 4 [[.p (.int .i64 e0.op),.p (.int .i64 e0.n),.p (.str e0.name),.p (exL e0.kids)]]] _ (fz0 _) (by omega) (by omega) (by omega)
  rw[h0] at this⊢
  exact this
 have hfr:¬bi fns=[]:=λh=>hfe (List.map_eq_nil_iff.1 h)
 have hfl:(bi fns).length=fns.length:=by simp[bi]
 have hfp:0<fns.length:=XN.2 hfe
 simp only[fC hfr,dL hfr,hfl] at finE
 rw[show bY 3 (bi fns)= .row 3 (bi fns) from fC hfr,show slE 2 3 (bi fns)= .sl 2 3 0 (bi fns).length from dL hfr,hfl]
 generalize hR:bi fns=R at*
 simp-implicitDefEqProofs[hfr]
 refine(bf G b hb hl q0 (by omega) 4 _).mono ?_
 rintro r h ⟨k1,rfl,rfl,_⟩
 simp-implicitDefEqProofs[aa]
 refine aO (λhc=>?_) (λhc=>?_)
 ·simp-implicitDefEqProofs[]
  exact finE e0 _ _ _ (fz0 _) (by omega) (by omega) (by omega)
 simp-implicitDefEqProofs[hfl]
 refine(bf G b hb hl (q0+1) (by omega) fns.length _).mono ?_
 rintro r h ⟨k2,rfl,rfl,hk2⟩
 have hk:k2<fns.length:=by omega
 have hg:=WK hk
 have hgr:R[k2]?=some (fns[k2].cs.map .p):=by rw[←hR,bi,Xd,hg];rfl
 have hfo:=hf.2 _ (WY hk)
 generalize fns[k2]=fd at hg hgr hfo
 have hfc:fd.cs=[.str fd.name,aN fd.params,smL fd.body]:=rfl
 have hsp:aN fd.params= .lst 1 (fd.params.map λw=>[.str w]):=rfl
 clear hfl hg
 simp-implicitDefEqProofs[aa,hgr,hk,hfc]
 have hexn:∀(es:List Ex) (e:Ex),exR (es++[e])=exR es++[e.cs.map .p]:=λes e=>by simp[exR]
 have hRp:∀x∈R,az 0 x:=by rw[←hR];exact zf fns
 refine aM (λs:ExS=>aC 99 [(8,.p (.int .i64 s.es.length)),(7,.ptr 6 4 0 0),(6,.ptr 5 3 0 0),(4,.ptr 3 4 0 0),(0,.ptr 1 5 0 0)])
  (λs=>[rdO b s.q,.row 5 [[.ptr 0 2 0 0,.sl 2 3 0 fns.length,.p (aN vs),.p (.int .i64 next),.p (.int .i64 left)]],.row 3 R,.row 4 [[.p (.int .i64 0),.p (.int .i64 0),.p (.str []),.nils]],
    .row 4 [[.p (.int .i64 e0.op),.p (.int .i64 e0.n),.p (.str e0.name),.p (exL e0.kids)]],.row 3 [[.p (.str fd.name),.p (aN fd.params),.p (smL fd.body)]],.row 4 [[.p (.int .i64 13),.p (.int .i64 0),.p (.str fd.name),slE 7 4 (exR s.es)]],bY 4 (exR s.es)])
  (λs=>s.es.length<=fd.params.length/\aJ s.es<=90*s.es.length/\q0<=s.q/\s.q<=q0+2+54*s.es.length) (λs=>fd.params.length-s.es.length) ⟨[],q0+1+1⟩ ⟨by simp,by simp[aJ],by simp only;omega,by simp⟩
  (pV (by simp) (by simp) (by
    intro o h
    simp only[WN,XC,or_false] at h
    rcases h with rfl|rfl|rfl|rfl|rfl|rfl|rfl
    ·exact bv _ _ _
    ·simp[okO,below]
    ·exact cJ (λe he=>hRp e he)
    ·simp[okO,below]
    ·simp[okO,below]
    ·simp[okO,below]
    ·simp[okO,below]) (by simp[below])) ?_
 rintro⟨es,q⟩ ⟨h1,h2,h3,h4⟩
 simp only at h1 h2 h3 h4
 simp-implicitDefEqProofs[hsp]
 refine aO (λhc=>?_) (λhc=>?_)
 ·simp at hc
  have hp3:=hfo.2
  simp-implicitDefEqProofs[]
  refine(sub 2 (by omega) q _ (by omega) (by omega)).mono ?_
  rintro r h ⟨v,q2,rfl,rfl,⟨e,rfl,he⟩,hq3,hq4⟩
  have hec:=e.cs_eq
  simp-implicitDefEqProofs[aa,hec]
  have hxl:(exR es).length=es.length:=by simp[exR]
  refine⟨by rw[hxl];omega,⟨es++[e],q2⟩,⟨by simp;omega,by rw[aZ];simp[aJ];omega,by simp only;omega,by simp;omega⟩,by simp;omega,?_⟩
  rw[hexn,ED _ (by simp),Cl _ (by simp),hec]
  refine dp [0,1,2,3,4,5,6,8] (by simp) (by decide) (by decide) (bQ rfl (bv _ _ _) (db (by simp[below]) (by simp[ren,br]) (bq rfl hRp (bq rfl (by simp[below]) (bq rfl (by simp[below]) (bq rfl (by simp[below]) (db (by simp[below]) (by simp[ren,br]) (bq rfl (λx hx=>by
   rcases WO.1 hx with h|h
   ·exact eA _ x h
   ·rw[WR.1 h];simp) bJ)))))))) ?_
  simp[below,ren,w1 (i:=es.length) (by omega)]
 ·simp at hc
  have hp3:=hfo.2
  have hlen:es.length=fd.params.length:=by omega
  have hxl:(exR es).length=es.length:=by simp[exR]
  have hkids:∀(h:List AO),h[7]?=some (bY 4 (exR es))->View h (slE 7 4 (exR es)) (exL es):=λh hh=>iU hh
  simp-implicitDefEqProofs[]
  refine(bf G b hb hl q (by omega) 2 _).mono ?_
  rintro r h ⟨k3,rfl,rfl,_⟩
  simp-implicitDefEqProofs[aa]
  refine aO (λhc2=>?_) (λhc2=>?_)
  ·simp-implicitDefEqProofs[]
   have hcc:(Ex.mk 13 0 fd.name es).cs=[.int .i64 13,.int .i64 0,.str fd.name,exL es]:=Ex.cs_eq _
   exact finE ⟨13,0,fd.name,es⟩ (q+1) _ _ (.agg (by rw[hcc];exact .keep (by simp) (.keep (by simp) (.keep (by simp) (.one (hkids _ rfl) .nil)))) .nil) (by simp[Ex.sz];omega) (by omega) (by omega)
  ·simp-implicitDefEqProofs[]
   refine(Ep G hb hl (p:=q+1) (by omega) [3,4,8,10] (by simp) (by simp) _).mono ?_
   rintro r h ⟨n,_,rfl,rfl⟩
   simp-implicitDefEqProofs[aa]
   refine(sub 2 (by omega) (q+1+1) _ (by omega) (by omega)).mono ?_
   rintro r h ⟨v,q2,rfl,rfl,⟨e,rfl,he⟩,hq3,hq4⟩
   have hec:=e.cs_eq
   simp-implicitDefEqProofs[aa,hec]
   have hcc:(Ex.mk 13 0 fd.name es).cs=[.int .i64 13,.int .i64 0,.str fd.name,exL es]:=Ex.cs_eq _
   exact finE ⟨n,0,[],[⟨13,0,fd.name,es⟩,e]⟩ q2 _ _ (.agg (.keep (by simp) (.keep (by simp) (.keep (by simp) (.one (uR (p0:=(Ex.mk 13 0 fd.name es).cs) (p1:=e.cs) rfl (Ex.cs_len _) (Ex.cs_len _) (λj q a e1 e2=>by
    rw[hcc] at e1
    match j,e1,e2 with
    |0,e1,e2=>cases e1;cases e2;exact .p _
    |1,e1,e2=>cases e1;cases e2;exact .p _
    |2,e1,e2=>cases e1;cases e2;exact .p _
    |3,e1,e2=>cases e1;cases e2;exact hkids _ rfl
    |j+4,e1,e2=>simp at e1) (λj q a e1 e2=>by
    rw[hec] at e1
    match j,e1,e2 with
    |0,e1,e2=>cases e1;cases e2;exact .p _
    |1,e1,e2=>cases e1;cases e2;exact .p _
    |2,e1,e2=>cases e1;cases e2;exact .p _
    |3,e1,e2=>cases e1;cases e2;exact .p _
    |j+4,e1,e2=>simp at e1)) .nil)))) .nil) (by simp[Ex.sz,aJ];omega) (by omega) (by omega)
end
section
variable (G:aL)
def VV(p:Nat)(vs:List (List UInt8))(next left:Int)(v:AV)(q:Nat)(vs':List (List UInt8))(next' left':Int):Prop:=(∃e:Ex,v= .agg (e.cs.map .p)/\e.sz<=410)/\p<=q/\q<=p+401/\vs'=vs/\next'=next/\left'=left
theorem MN{b:List Int}(hb:Byt b)(hl:b.length<=2000){p:Nat}(hp:p+2000<=1000000000000)(fns:List Fd)(hf:BR fns)(vs:List (List UInt8))(hv:vG vs)(next left:Int):
 AC Tryz.prog G eM [.ptr 1 5 0 0] (HG b p fns vs next left) (PG b fns (VV p vs next left) []):=by
 refine mK G (AC.go uZ ?_)
 simp-implicitDefEqProofs[mN,HG,cF]
 refine(dh G (ny G hb hl (p:=p) (by omega) fns hf vs hv next left (d:=2) (by omega)) _ (by simp[below])).mono ?_
 rintro r h ⟨v,q,vs',n',l',rfl,rfl,⟨e,rfl,he⟩,h1,h2,rfl,rfl,rfl⟩
 have hec:=e.cs_eq
 simp-implicitDefEqProofs[aa,cF,hec]
 refine(Ep G hb hl (p:=q) (by omega) [16,16,16,8,17,0] (by simp) (by simp) _).mono ?_
 rintro r h ⟨n,_,rfl,rfl⟩
 simp-implicitDefEqProofs[aa]
 have hn:(Ex.mk 1 n [] []).cs=[.int .i64 1,.int .i64 n,.str [],.lst 4 []]:=Ex.cs_eq _
 refine⟨_,[_,_],q+1,_,.agg ((Ex.mk 7 0 [] [e,⟨1,n,[],[]⟩]).cs.map .p),vs',n',l',rfl,rfl,.keep (by simp) .nil,.agg (.keep (by simp) (.keep (by simp) (.keep (by simp) (.one (uR (p0:=e.cs) (p1:=(Ex.mk 1 n [] []).cs) rfl (Ex.cs_len _) (Ex.cs_len _) (λj q a e1 e2=>?_) (λj q a e1 e2=>?_)) .nil)))) .nil,⟨_,rfl,by simp[Ex.sz,aJ];omega⟩,by omega,by omega,rfl,rfl,rfl⟩
 ·rw[hec] at e1
  match j,e1,e2 with
  |0,e1,e2=>cases e1;cases e2;exact .p _
  |1,e1,e2=>cases e1;cases e2;exact .p _
  |2,e1,e2=>cases e1;cases e2;exact .p _
  |3,e1,e2=>cases e1;cases e2;exact .p _
  |j+4,e1,e2=>simp at e1
 ·rw[hn] at e1
  match j,e1,e2 with
  |0,e1,e2=>cases e1;cases e2;exact .p _
  |1,e1,e2=>cases e1;cases e2;exact .p _
  |2,e1,e2=>cases e1;cases e2;exact .p _
  |3,e1,e2=>cases e1;cases e2;exact View.nils 4
  |j+4,e1,e2=>simp at e1
def TS(p:Nat)(e:Ex)(vs:List (List UInt8))(next left:Int)(v:AV)(q:Nat)(vs':List (List UInt8))(next' left':Int):Prop:=
 ∃s:List UInt8,s.length<=8/\v= .agg ((Sm.mk 1 s [e] [] []).cs.map .p)/\p<=q/\q<=p+2/\vs'=vs++[s]/\next'=next+1/\left'=left
theorem Rp{b:List Int}(hb:Byt b)(hl:b.length<=2000){p:Nat}(hp:p+2<=1000000000000)(fns:List Fd)(vs:List (List UInt8))(hv:vG vs){next:Int}(hn: -1<=next)(hn2:next<=1000000000000)(left:Int)(e:Ex):
 AC Tryz.prog G dP [.ptr 1 5 0 0,.agg (e.cs.map .p)] (HG b p fns vs next left) (PG b fns (TS p e vs next left) []):=by
 refine mK G (AC.go nT ?_)
 have hec:=e.cs_eq
 simp-implicitDefEqProofs[jg,HG,cF,hec]
 refine(dh G (JQ G hb hl hp fns vs hv hn hn2 left) _ (by simp[below])).mono ?_
 rintro r h ⟨v,q,vs',n',l',rfl,rfl,⟨s,rfl,hs⟩,h1,h2,rfl,rfl,rfl⟩
 have hsl:aN vs'= .lst 1 (vs'.map λw=>[.str w]):=rfl
 simp-implicitDefEqProofs[aa,cF,hsl]
 have hv1:=hv.1
 have hrow:List.take vs'.length (List.map ((λx=>List.map AV.p x)∘λw=>[PV.str w]) vs')++[[AV.p (PV.str s)]]=(vs'++[s]).map λw=>[AV.p (.str w)]:=by
  rw[WQ (by simp)];simp[Function.comp_def]
 have hlen:vs'.length+1=(vs'++[s]).length:=by simp
 refine⟨by omega,by omega,?_⟩
 rw[hrow,hlen]
 have hsm:(Sm.mk 1 s [e] [] []).cs=[.int .i64 1,.str s,exL [e],smL [],smL []]:=Sm.cs_eq _
 refine⟨_,_,q,_,.agg ((Sm.mk 1 s [e] [] []).cs.map .p),vs'++[s],next+1,l',rfl,rfl,.one (eC rfl) .nil,.agg ?_ .nil,⟨s,hs,rfl,h1,h2,rfl,rfl,rfl⟩⟩
 rw[hsm]
 refine .keep (by simp) (.keep (by simp) (.one ?_ (.one (View.nils 5) (.one (View.nils 5) .nil))))
 exact ey (l:=[e]) (by rw[List.map_singleton,hec];rfl)
theorem Sc{b:List Int}(hb:Byt b)(hl:b.length<=2000){p:Nat}(hp:p+2<=1000000000000)(fns:List Fd)(vs:List (List UInt8))(hv:vG vs){next:Int}(hn: -1<=next)(hn2:next<=1000000000000)(left:Int)(N:Int):
 AC Tryz.prog G dP [.ptr 1 5 0 0,.agg [.p (.int .i64 1),.p (.int .i64 N),.p (.str []),.nils]] (HG b p fns vs next left) (PG b fns (TS p ⟨1,N,[],[]⟩ vs next left) []):=by
 refine mK G (AC.go nT ?_)
 simp-implicitDefEqProofs[jg,HG,cF]
 refine(dh G (JQ G hb hl hp fns vs hv hn hn2 left) _ (by simp[below])).mono ?_
 rintro r h ⟨v,q,vs',n',l',rfl,rfl,⟨s,rfl,hs⟩,h1,h2,rfl,rfl,rfl⟩
 have hsl:aN vs'= .lst 1 (vs'.map λw=>[.str w]):=rfl
 simp-implicitDefEqProofs[aa,cF,hsl]
 have hv1:=hv.1
 have hrow:List.take vs'.length (List.map ((λx=>List.map AV.p x)∘λw=>[PV.str w]) vs')++[[AV.p (PV.str s)]]=(vs'++[s]).map λw=>[AV.p (.str w)]:=by
  rw[WQ (by simp)];simp[Function.comp_def]
 have hlen:vs'.length+1=(vs'++[s]).length:=by simp
 refine⟨by omega,by omega,?_⟩
 rw[hrow,hlen]
 have hsm:(Sm.mk 1 s [⟨1,N,[],[]⟩] [] []).cs=[.int .i64 1,.str s,exL [⟨1,N,[],[]⟩],smL [],smL []]:=Sm.cs_eq _
 refine⟨_,_,q,_,.agg ((Sm.mk 1 s [⟨1,N,[],[]⟩] [] []).cs.map .p),vs'++[s],next+1,l',rfl,rfl,.one (eC rfl) .nil,.agg ?_ .nil,⟨s,hs,rfl,h1,h2,rfl,rfl,rfl⟩⟩
 rw[hsm]
 refine .keep (by simp) (.keep (by simp) (.one ?_ (.one (View.nils 5) (.one (View.nils 5) .nil))))
 refine View.sl _ _ _ _ [(Ex.mk 1 N [] []).cs] rfl (by simp) (by simp) λi j e q e' a a1 a2 a3 a4=>?_
 rw[XD] at a3
 match i,a1,a3 with
 |0,a1,a3=>
  cases a1;cases a3
  have hn:(Ex.mk 1 N [] []).cs=[.int .i64 1,.int .i64 N,.str [],.lst 4 []]:=Ex.cs_eq _
  rw[hn] at a2
  match j,a2,a4 with
  |0,e1,e2=>cases e1;cases e2;exact .p _
  |1,e1,e2=>cases e1;cases e2;exact .p _
  |2,e1,e2=>cases e1;cases e2;exact .p _
  |3,e1,e2=>cases e1;cases e2;exact View.nils 4
  |j+4,e1,e2=>simp at e1
 |i+1,a1,a3=>simp at a1
end
section
def Pd(d:Nat):Nat:=5000*20^d
structure Bd (n:Nat) (p:Nat) (vs:List (List UInt8)) (next left:Int):Prop where
 p:p+n<=100000000000
 v:vs.length+n/50<=900000
 w:∀s∈vs,s.length<=8
 n0: -1<=next
 n1:next+n<=100000000000
 l0: -100000000000<=left-n
 l1:left<=100000000000
theorem Bd.shrt{n p:Nat}{vs:List (List UInt8)}{next left:Int}(h:Bd n p vs next left):vG vs:=⟨by have:=h.v;omega,h.w⟩
def Mv(n p q:Nat)(next next' left left':Int):Prop:=p<=q/\q<=p+n/\next<=next'/\next'<=next+n/\left-n<=left'/\left'<=left
def QO(b:List Int)(fns:List Fd)(vs:List (List UInt8))(p n:Nat)(next left:Int)(rest:List AO)(x:ARes)(h:List AO):Prop:=
 ∃(out:List Sm) (q:Nat) (next' left':Int),x= .ret (.sl (3+rest.length) 5 0 out.length)/\h=rdO b q:: .row 5 [cF fns vs next' left']::bY 3 (bi fns)::rest++[.row 5 (smR out)]/\aD out<=n/\out.length<=100/\Mv n p q next next' left left'
def LK(G:aL)(b:List Int)(fns:List Fd)(d:Nat):Prop:=∀{p:Nat} {vs:List (List UInt8)} {next left:Int},Bd (Pd d) p vs next left->AC Tryz.prog G bh [.ptr 1 5 0 0,.p (.int .i64 d)] (HG b p fns vs next left) (QO b fns vs p (Pd d) next left [])
variable (G:aL)
theorem uD{b:List Int}{fns:List Fd}{d p:Nat}{vs:List (List UInt8)}{next left:Int}(H:AC Tryz.prog G bh [.ptr 1 5 0 0,.p (.int .i64 d)] (HG b p fns vs next left) (QO b fns vs p (Pd d) next left []))(rest:List AO):
 AC Tryz.prog G bh [.ptr 1 5 0 0,.p (.int .i64 d)] (rdO b p:: .row 5 [cF fns vs next left]::bY 3 (bi fns)::rest) (QO b fns vs p (Pd d) next left rest):=by
 have H2:AC Tryz.prog G bh [.ptr 1 5 0 0,.p (.int .i64 d)] (HG b p fns vs next left) λx h'=>∃h1 es,h'=h1++[.row 5 es]/\h1.length=(HG b p fns vs next left).length/\x= .ret (.sl (HG b p fns vs next left).length 5 0 es.length)/\(∀e∈es,az 0 e)/\
  (∃(out:List Sm) (q:Nat) (next' left':Int),es=smR out/\h1=HG b q fns vs next' left'/\aD out<=Pd d/\out.length<=100/\Mv (Pd d) p q next next' left left'):=by
  refine H.mono ?_
  rintro x h ⟨out,q,n',l',rfl,rfl,h1,h2,h3⟩
  exact⟨HG b q fns vs n' l',smR out,rfl,rfl,by simp[HG,gz],ep out,out,q,n',l',rfl,rfl,h1,h2,h3⟩
 refine(AC.pre1 (R:=λh1 es=>∃(out:List Sm) (q:Nat) (next' left':Int),es=smR out/\h1=HG b q fns vs next' left'/\aD out<=Pd d/\out.length<=100/\Mv (Pd d) p q next next' left left') H2 rest (by simp[below,HG]) (NH _ _ _ _ _ _) ?_).mono ?_
 ·rintro h1 es ⟨out,q,n',l',rfl,rfl,_⟩
  exact NH _ _ _ _ _ _
 ·rintro x h ⟨h1,es,rfl,_,rfl,_,out,q,n',l',rfl,rfl,r⟩
  exact⟨out,q,n',l',by simp[HG,gz],rfl,r⟩
theorem ug:AK.whole iP=FK.ak iS:=rfl
def VD(n p:Nat)(vs:List (List UInt8))(next left:Int)(v:AV)(q:Nat)(vs':List (List UInt8))(next' left':Int):Prop:=
 ∃(out:List Sm) (s:List UInt8),v= .p (smL out)/\aD out<=n/\1<=out.length/\out.length<=2/\s.length<=8/\vs'=vs++[s]/\Mv n p q next next' left left'
theorem OR{b:List Int}(hb:Byt b)(hl:b.length<=2000)(fns:List Fd){d:Nat}(hd:d<=10)(hblk:LK G b fns d){p:Nat}{vs:List (List UInt8)}{next left:Int}(hB:Bd (Pd d+60) p vs next left):
 AC Tryz.prog G iD [.ptr 1 5 0 0,.p (.int .i64 ((d:Int)+1))] (HG b p fns vs next left) (PG b fns (VD (Pd d+60) p vs next left) []):=by
 have hp:=hB.p
 have hv:=hB.v
 have hn0:=hB.n0
 have hn1:=hB.n1
 have hl0:=hB.l0
 have hl1:=hB.l1
 refine mK G (AC.goK uC ug ?_)
 simp-implicitDefEqProofs[iP,iS,HG,cF]
 refine(mO G hb hl (p:=p) (by omega) [2,3,1,0,5] (k:=3) (by simp) (by simp) (by omega) rfl rfl).mono ?_
 rintro r h ⟨N,hN,rfl,rfl⟩
 have hN5:0<=N/\N<=5:=by simp at hN;omega
 simp-implicitDefEqProofs[aa]
 refine(dh G (Sc G hb hl (p:=p+1) (by omega) fns vs hB.shrt hn0 (by omega) left N) _ (by simp[below])).mono ?_
 rintro r h ⟨v,q,vs',n',l',rfl,rfl,s,hs,rfl,h1,h2,rfl,rfl,rfl⟩
 have hsm:(Sm.mk 1 s [⟨1,N,[],[]⟩] [] []).cs=[.int .i64 1,.str s,exL [⟨1,N,[],[]⟩],smL [],smL []]:=Sm.cs_eq _
 have hwd:IntKind.i64.wrap ((d:Int)+1-1)=d:=by rw[ab (by omega) (by omega)];omega
 have hw2:IntKind.i64.wrap (d:Int)=d:=ab (by omega) (by omega)
 simp-implicitDefEqProofs[aa,cF,hsm,hw2]
 have hB2:Bd (Pd d) q (vs++[s]) (next+1) l':=⟨by omega,by simp;omega,λw hw=>by
  rcases WO.1 hw with h|h
  ·exact hB.w w h
  ·rw[WR.1 h];exact hs,by omega,by omega,by omega,by omega⟩
 refine(uD G (hblk hB2) _).mono ?_
 rintro r h ⟨out,q2,n2,l2,rfl,rfl,z1,z2,m1,m2,m3,m4,m5,m6⟩
 have hwl:IntKind.i64.wrap (l2-2)=l2-2:=ab (by omega) (by omega)
 simp-implicitDefEqProofs[aa,cF,hwl]
 have hHb:∀(l:Int),okO 7 (.row 5 [[.ptr 0 2 0 0,slE 2 3 (bi fns),.p (aN (vs++[s])),.p (.int .i64 n2),.p (.int .i64 l)]]):=λl e he=>by
  rw[WR.1 he];exact⟨by simp[below],rE (by omega),by simp,by simp,by simp,trivial⟩
 refine oe (aC 50 [(0,.ptr 1 5 0 0),(5,.ptr 3 5 0 0),(6,.ptr 4 4 0 0),(7,.sl 5 5 0 out.length),(8,.ptr 6 5 0 0)])
  [rdO b q2,.row 5 [[.ptr 0 2 0 0,slE 2 3 (bi fns),.p (aN (vs++[s])),.p (.int .i64 n2),.p (.int .i64 (l2-2))]],bY 3 (bi fns),
   .row 5 [[.p (.int .i64 1),.p (.str s),.p (exL [Ex.mk 1 N [] []]),.p (smL []),.p (smL [])]],.row 4 [[.p (.int .i64 2),.p (.int .i64 0),.p (.str s),.p (exL [])]],.row 5 (smR out),
   .row 5 [[.p (.int .i64 2),.p (.str s),.p (exL [Ex.mk 4 0 [] [⟨2,0,s,[]⟩,⟨1,1,[],[]⟩]]),.p (smL []),.p (smL [])]]] ?_ ?_
 ·simp-implicitDefEqProofs[hwl]
  refine Wk.trans (dp (l1:=[(0,.ptr 1 5 0 0),(5,.ptr 3 5 0 0),(6,.ptr 4 4 0 0),(7,.sl 5 5 0 out.length),(8,.ptr 6 5 0 0)])
   (h1:=[rdO b q2,.row 5 [[.ptr 0 2 0 0,slE 2 3 (bi fns),.p (aN (vs++[s])),.p (.int .i64 n2),.p (.int .i64 (l2-2))]],bY 3 (bi fns),
   .row 5 [[.p (.int .i64 1),.p (.str s),.p (exL [Ex.mk 1 N [] []]),.p (smL []),.p (smL [])]],.row 4 [[.p (.int .i64 2),.p (.int .i64 0),.p (.str s),.nils]],.row 5 (smR out),
   .row 5 [[.p (.int .i64 2),.p (.str s),.sl 8 4 0 1,.nils,.nils]],.row 4 [[.p (.int .i64 2),.p (.int .i64 0),.p (.str s),.nils],[.p (.int .i64 1),.p (.int .i64 1),.p (.str []),.nils]],.row 4 [[.p (.int .i64 4),.p (.int .i64 0),.p (.str []),.sl 7 4 0 2]]])
   [0,1,2,4,5,6,9,7,8] (by simp) (by decide) (by decide) (bQ rfl (bv _ _ _) (db (by simp[below]) (by simp[ren,br]) (bQ rfl (mQ _ _) (bq rfl (by simp[below]) (bq rfl (by simp[below]) (bq rfl (ep out) (db (by simp[below]) (by simp[ren,br]) (bq rfl (by simp[below]) (db (by simp[below]) (by simp[ren,br]) bJ))))))))) (by simp[below,ren]))
   (oI 7 (by omega) (by simp) rfl (.same (bv _ _ _) (.same (hHb _) (.same (mQ _ _) (.same (by simp[okO,below]) (.one (.keep (by simp) (.keep (by simp) (.keep (by simp) (.one (View.nils 4) .nil)))) (.same (cJ (ep out)) (.one (.keep (by simp) (.keep (by simp) (.one ?_ (.one (View.nils 5) (.one (View.nils 5) .nil))))) (.nil _)))))))) ?_)
  ·exact bH (p0:=(Ex.mk 4 0 [] [⟨2,0,s,[]⟩,⟨1,1,[],[]⟩]).cs) rfl (Ex.cs_len _) (iJ (uR (p0:=(Ex.mk 2 0 s []).cs) (p1:=(Ex.mk 1 1 [] []).cs) rfl (Ex.cs_len _) (Ex.cs_len _) (iJ (View.nils 4)) (iJ (View.nils 4))))
  ·exact⟨.keep (by simp[below]) .nil,.keep (by simp[below]) .nil,.keep (by simp[below]) .nil,.keep (by simp[below]) .nil,.keep (by simp[below]) .nil,trivial⟩
 ·simp-implicitDefEqProofs[]
  have hless:(Sm.mk 2 s [Ex.mk 4 0 [] [⟨2,0,s,[]⟩,⟨1,1,[],[]⟩]] [] []).cs=[.int .i64 2,.str s,exL [Ex.mk 4 0 [] [⟨2,0,s,[]⟩,⟨1,1,[],[]⟩]],smL [],smL []]:=Sm.cs_eq _
  have hrow:List.take out.length (smR out)++[[AV.p (.int .i64 2),.p (.str s),.p (exL [Ex.mk 4 0 [] [⟨2,0,s,[]⟩,⟨1,1,[],[]⟩]]),.p (smL []),.p (smL [])]]=smR (out++[Sm.mk 2 s [Ex.mk 4 0 [] [⟨2,0,s,[]⟩,⟨1,1,[],[]⟩]] [] []]):=by
   rw[WQ (by rw[gz];exact WV _),Em];exact congrArg (smR out++ ·) (by rw[smR,List.map_singleton,hless];rfl)
  have hlen:out.length+1=(out++[Sm.mk 2 s [Ex.mk 4 0 [] [⟨2,0,s,[]⟩,⟨1,1,[],[]⟩]] [] []]).length:=by simp
  refine⟨⟨by rw[gz];exact WV _,by omega,by omega⟩,?_⟩
  rw[hrow,hlen]
  refine⟨_,_,q2,_,.p (smL [Sm.mk 1 s [⟨1,N,[],[]⟩] [] [],Sm.mk 6 [] [⟨2,0,s,[]⟩] (out++[Sm.mk 2 s [Ex.mk 4 0 [] [⟨2,0,s,[]⟩,⟨1,1,[],[]⟩]] [] []]) []]),vs++[s],n2,l2-2,rfl,rfl,.keep (by simp) .nil,
   .one (uR (p0:=(Sm.mk 1 s [⟨1,N,[],[]⟩] [] []).cs) (p1:=(Sm.mk 6 [] [⟨2,0,s,[]⟩] (out++[Sm.mk 2 s [Ex.mk 4 0 [] [⟨2,0,s,[]⟩,⟨1,1,[],[]⟩]] [] []]) []).cs) rfl (Sm.cs_len _) (Sm.cs_len _)
    (cr (.p _) (.p _) (.p _)) (cr ?_ (lC rfl) (View.nils 5))) .nil,_,s,rfl,?_,by simp,by simp,hs,rfl,?_⟩
  ·have h2:(Ex.mk 2 0 s []).cs=[.int .i64 2,.int .i64 0,.str s,exL []]:=Ex.cs_eq _
   have he:exL [Ex.mk 2 0 s []]= .lst 4 [[.int .i64 2,.int .i64 0,.str s,exL []]]:=by rw[exL,List.map_singleton,h2]
   rw[he]
   exact .p _
  ·simp[aD,aW,Sm.sz,Ex.sz,aJ]
   omega
  ·exact⟨by omega,by omega,by omega,by omega,by omega,by omega⟩
end
section
variable (G:aL)
def TH(n p:Nat)(vs:List (List UInt8))(next left:Int)(v:AV)(q:Nat)(vs':List (List UInt8))(next' left':Int):Prop:=
 ∃out:List Sm,v= .p (smL out)/\aD out<=n/\1<=out.length/\out.length<=2/\(vs'=vs\/∃s:List UInt8,s.length<=8/\vs'=vs++[s])/\Mv n p q next next' left left'
theorem Sx{b:List Int}(hb:Byt b)(hl:b.length<=2000)(fns:List Fd)(hf:BR fns){d:Nat}(hd:d<=10)(hblk:1<=d->LK G b fns d){p:Nat}{vs:List (List UInt8)}{next left:Int}(hB:Bd (2*Pd d+3000) p vs next left):
 AC Tryz.prog G iT [.ptr 1 5 0 0,.p (.int .i64 ((d:Int)+1))] (HG b p fns vs next left) (PG b fns (TH (2*Pd d+3000) p vs next left) []):=by
 have hp:=hB.p
 have hv:=hB.v
 have hn0:=hB.n0
 have hn1:=hB.n1
 have hl0:=hB.l0
 have hl1:=hB.l1
 refine mK G (AC.go ua ?_)
 have hwl:IntKind.i64.wrap (left-1)=left-1:=ab (by omega) (by omega)
 have hsl:aN vs= .lst 1 (vs.map λw=>[.str w]):=rfl
 simp-implicitDefEqProofs[mR,HG,cF,hwl]
 refine(bf G b hb hl p (by omega) 13 _).mono ?_
 rintro r h ⟨k,rfl,rfl,hk⟩
 have dZ:∀(m:Sm) (q:Nat) (rest:List AO) (v:AV) (vc:AV) (vs':List (List UInt8)) (next' left':Int),Fzs (.dead:: .dead:: .dead::rest) 3 [vc] [.p (aN vs')]->Fzs (.dead:: .dead:: .dead::rest) 3 [v] [.p (smL [m])]->m.sz<=2*Pd d+3000->(vs'=vs\/∃s:List UInt8,s.length<=8/\vs'=vs++[s])->Mv (2*Pd d+3000) p q next next' left left'->
  DG b fns (TH (2*Pd d+3000) p vs next left) (.ret v) (rdO b q:: .row 5 [[.ptr 0 2 0 0,slE 2 3 (bi fns),vc,.p (.int .i64 next'),.p (.int .i64 left')]]::bY 3 (bi fns)::rest):=λm q rest v vc vs' next' left' h1 h2 h3 h4 h5=>
  ⟨_,rest,q,_,_,vs',next',left',rfl,rfl,h1,h2,[m],rfl,by simp[aD];omega,by simp,by simp,h4,h5⟩
 by_cases hc:k<3/\vs≠[]
 ·obtain⟨hc1,hne⟩:=hc
  have hpos:0<vs.length:=XN.2 hne
  have hc1':(k:Int)<3:=by omega
  have hv1:=hB.v
  simp-implicitDefEqProofs[aa,hsl,hc1,hc1',hpos]
  rw[←hsl]
  refine(Kq G hb hl (p:=p+1) (by omega) vs hne (by omega) _).mono ?_
  rintro r h ⟨w,hw,rfl,rfl⟩
  have hw8:=hB.w w hw
  simp-implicitDefEqProofs[aa]
  refine(dh G (ny G hb hl (p:=p+1+1) (by omega) fns hf vs hB.shrt next (left-1) (d:=3) (by omega)) _ (by simp[below])).mono ?_
  rintro r h ⟨v,q,vs',n',l',rfl,rfl,⟨e,rfl,he⟩,h1,h2,rfl,rfl,rfl⟩
  have hec:=e.cs_eq
  simp-implicitDefEqProofs[aa,cF,hec]
  exact dZ ⟨2,w,[e],[],[]⟩ q _ _ _ vs' n' (left-1) (.keep (by simp) .nil) (.one (bH (p0:=(Sm.mk 2 w [e] [] []).cs) rfl (Sm.cs_len _) (cr (ey (l:=[e]) (by rw[List.map_singleton,hec];rfl)) (View.nils 5) (View.nils 5))) .nil) (by simp[Sm.sz,aJ,aD];omega) (.inl rfl) ⟨by omega,by omega,by omega,by omega,by omega,by omega⟩
 have hcc:(k<3/\0<vs.length)=False:=by
  simp only[eq_iff_iff,iff_false]
  exact λ⟨a,c⟩=>hc ⟨a,XN.1 c⟩
 have hvz:(k:Int)<3->vs.length=0:=λh=>by
  by_cases e:vs=[]
  ·rw[e];rfl
  ·exact absurd ⟨by omega,e⟩ hc
 have hvx:=hB.shrt
 have hvv:=hB.v
 by_cases k5:(k:Int)<5
 ·by_cases k3:(k:Int)<3
  ·have hv0:=hvz k3
   simp-implicitDefEqProofs[aa,hsl,k3,hv0,k5]
   rw[←hsl]
   refine(dh G (ny G hb hl (p:=p+1) (by omega) fns hf vs hvx next (left-1) (d:=3) (by omega)) _ (by simp[below])).mono ?_
   rintro r h ⟨v,q,vs',n',l',rfl,rfl,⟨e,rfl,he⟩,h1,h2,rfl,rfl,rfl⟩
   have hec:=e.cs_eq
   have hL:=Rp G hb hl (p:=q) (by omega) fns vs' hvx hn0 (by omega) (left-1) e
   rw[hec] at hL
   simp-implicitDefEqProofs[aa,cF,hec]
   refine(dh G hL _ (by simp[below])).mono ?_
   rintro r h ⟨v,q2,vs2,n2,l2,rfl,rfl,s,hs,rfl,h3,h4,rfl,rfl,rfl⟩
   have hsm:(Sm.mk 1 s [e] [] []).cs=[.int .i64 1,.str s,exL [e],smL [],smL []]:=Sm.cs_eq _
   simp-implicitDefEqProofs[aa,cF,hsm]
   exact dZ ⟨1,s,[e],[],[]⟩ q2 _ _ _ (vs'++[s]) (n'+1) (left-1) (.keep (by simp) .nil) (.one (bH (p0:=(Sm.mk 1 s [e] [] []).cs) rfl (Sm.cs_len _) (cr (.p _) (.p _) (.p _))) .nil) (by simp[Sm.sz,aJ,aD];omega) (.inr ⟨s,hs,rfl⟩) ⟨by omega,by omega,by omega,by omega,by omega,by omega⟩
  ·simp-implicitDefEqProofs[aa,hsl,k3,k5]
   rw[←hsl]
   refine(dh G (ny G hb hl (p:=p+1) (by omega) fns hf vs hvx next (left-1) (d:=3) (by omega)) _ (by simp[below])).mono ?_
   rintro r h ⟨v,q,vs',n',l',rfl,rfl,⟨e,rfl,he⟩,h1,h2,rfl,rfl,rfl⟩
   have hec:=e.cs_eq
   have hL:=Rp G hb hl (p:=q) (by omega) fns vs' hvx hn0 (by omega) (left-1) e
   rw[hec] at hL
   simp-implicitDefEqProofs[aa,cF,hec]
   refine(dh G hL _ (by simp[below])).mono ?_
   rintro r h ⟨v,q2,vs2,n2,l2,rfl,rfl,s,hs,rfl,h3,h4,rfl,rfl,rfl⟩
   have hsm:(Sm.mk 1 s [e] [] []).cs=[.int .i64 1,.str s,exL [e],smL [],smL []]:=Sm.cs_eq _
   simp-implicitDefEqProofs[aa,cF,hsm]
   exact dZ ⟨1,s,[e],[],[]⟩ q2 _ _ _ (vs'++[s]) (n'+1) (left-1) (.keep (by simp) .nil) (.one (bH (p0:=(Sm.mk 1 s [e] [] []).cs) rfl (Sm.cs_len _) (cr (.p _) (.p _) (.p _))) .nil) (by simp[Sm.sz,aJ,aD];omega) (.inr ⟨s,hs,rfl⟩) ⟨by omega,by omega,by omega,by omega,by omega,by omega⟩
 have k3:¬(k:Int)<3:=by omega
 by_cases k7:(k:Int)<7\/d=0
 ·by_cases k7':(k:Int)<7
  ·simp-implicitDefEqProofs[aa,k3,k5,k7']
   refine(dh G (ny G hb hl (p:=p+1) (by omega) fns hf vs hvx next (left-1) (d:=3) (by omega)) _ (by simp[below])).mono ?_
   rintro r h ⟨v,q,vs',n',l',rfl,rfl,⟨e,rfl,he⟩,h1,h2,rfl,rfl,rfl⟩
   have hec:=e.cs_eq
   simp-implicitDefEqProofs[aa,cF,hec]
   exact dZ ⟨3,[],[e],[],[]⟩ q _ _ _ vs' n' (left-1) (.keep (by simp) .nil) (.one (bH (p0:=(Sm.mk 3 [] [e] [] []).cs) rfl (Sm.cs_len _) (cr (ey (l:=[e]) (by rw[List.map_singleton,hec];rfl)) (View.nils 5) (View.nils 5))) .nil) (by simp[Sm.sz,aJ,aD];omega) (.inl rfl) ⟨by omega,by omega,by omega,by omega,by omega,by omega⟩
  ·have hdl:(d:Int)+1<2:=by omega
   simp-implicitDefEqProofs[aa,k3,k5,k7',hdl]
   refine(dh G (ny G hb hl (p:=p+1) (by omega) fns hf vs hvx next (left-1) (d:=3) (by omega)) _ (by simp[below])).mono ?_
   rintro r h ⟨v,q,vs',n',l',rfl,rfl,⟨e,rfl,he⟩,h1,h2,rfl,rfl,rfl⟩
   have hec:=e.cs_eq
   simp-implicitDefEqProofs[aa,cF,hec]
   exact dZ ⟨3,[],[e],[],[]⟩ q _ _ _ vs' n' (left-1) (.keep (by simp) .nil) (.one (bH (p0:=(Sm.mk 3 [] [e] [] []).cs) rfl (Sm.cs_len _) (cr (ey (l:=[e]) (by rw[List.map_singleton,hec];rfl)) (View.nils 5) (View.nils 5))) .nil) (by simp[Sm.sz,aJ,aD];omega) (.inl rfl) ⟨by omega,by omega,by omega,by omega,by omega,by omega⟩
 have k7':¬(k:Int)<7:=λh=>k7 (.inl h)
 have hd1:1<=d:=by omega
 have hd2:¬((d:Int)+1)<2:=by omega
 have hblk2:LK G b fns d:= @hblk hd1
 by_cases e7:(k:Int)=7
 ·simp-implicitDefEqProofs[aa,k3,k5,k7',hd2,e7]
  refine(dh G (MN G hb hl (p:=p+1) (by omega) fns hf vs hvx next (left-1)) _ (by simp[below])).mono ?_
  rintro r h ⟨v,q,vs',n',l',rfl,rfl,⟨e,rfl,he⟩,h1,h2,rfl,rfl,rfl⟩
  have hec:=e.cs_eq
  simp-implicitDefEqProofs[aa,cF,hec]
  refine(dh G (ny G hb hl (p:=q) (by omega) fns hf vs' hvx n' (left-1) (d:=2) (by omega)) _ (by simp[below])).mono ?_
  rintro r h ⟨v,q2,vs2,n2,l2,rfl,rfl,⟨e2,rfl,he2⟩,h3,h4,rfl,rfl,rfl⟩
  have hec2:=e2.cs_eq
  simp-implicitDefEqProofs[aa,cF,hec2]
  exact dZ ⟨4,[],[e,e2],[],[]⟩ q2 _ _ _ vs2 n2 (left-1) (.keep (by simp) .nil) (.one (bH (p0:=(Sm.mk 4 [] [e,e2] [] []).cs) rfl (Sm.cs_len _) (cr (ey (l:=[e,e2]) (by rw[Xj,List.map_singleton,hec,hec2];rfl)) (View.nils 5) (View.nils 5))) .nil) (by simp[Sm.sz,aJ,aD];omega) (.inl rfl) ⟨by omega,by omega,by omega,by omega,by omega,by omega⟩
 by_cases e8:(k:Int)=8
 ·simp-implicitDefEqProofs[aa,k3,k5,k7',hd2,e7,e8]
  refine(dh G (MN G hb hl (p:=p+1) (by omega) fns hf vs hvx next (left-1)) _ (by simp[below])).mono ?_
  rintro r h ⟨v,q,vs',n',l',rfl,rfl,⟨e,rfl,he⟩,h1,h2,rfl,rfl,rfl⟩
  have hec:=e.cs_eq
  simp-implicitDefEqProofs[aa,cF,hec]
  exact dZ ⟨3,[],[⟨12,0,[],[e]⟩],[],[]⟩ q _ _ _ vs' n' (left-1) (.keep (by simp) .nil) (.one (bH (p0:=(Sm.mk 3 [] [⟨12,0,[],[e]⟩] [] []).cs) rfl (Sm.cs_len _) (cr (bH (p0:=(Ex.mk 12 0 [] [e]).cs) rfl (Ex.cs_len _) (iJ (ey (l:=[e]) (by rw[List.map_singleton,hec];rfl)))) (View.nils 5) (View.nils 5))) .nil) (by simp[Sm.sz,Ex.sz,aJ,aD];omega) (.inl rfl) ⟨by omega,by omega,by omega,by omega,by omega,by omega⟩
 have hwd:IntKind.i64.wrap ((d:Int)+1-1)=d:=by rw[ab (by omega) (by omega)];omega
 have hwd2:IntKind.i64.wrap (d:Int)=d:=ab (by omega) (by omega)
 by_cases k11:(k:Int)<11
 ·simp-implicitDefEqProofs[aa,k3,k5,k7',hd2,e7,e8,k11]
  refine(dh G (ny G hb hl (p:=p+1) (by omega) fns hf vs hvx next (left-1) (d:=3) (by omega)) _ (by simp[below])).mono ?_
  rintro r h ⟨v,q,vs',n',l',rfl,rfl,⟨e,rfl,he⟩,h1,h2,rfl,rfl,rfl⟩
  have hec:=e.cs_eq
  simp-implicitDefEqProofs[aa,cF,hec,hwd2]
  have hB2:Bd (Pd d) q vs' n' (left-1):=⟨by omega,by omega,hB.w,by omega,by omega,by omega,by omega⟩
  refine(uD G (hblk2 hB2) _).mono ?_
  rintro r h ⟨out,q2,n2,l2,rfl,rfl,z1,z2,m1,m2,m3,m4,m5,m6⟩
  simp-implicitDefEqProofs[aa,cF]
  refine(bf G b hb hl q2 (by omega) 2 _).mono ?_
  rintro r h ⟨k2,rfl,rfl,_⟩
  simp-implicitDefEqProofs[aa]
  refine aO (λhq=>?_) (λhq=>?_)
  ·simp-implicitDefEqProofs[hwd2]
   have hB3:Bd (Pd d) (q2+1) vs' n2 l2:=⟨by omega,by omega,hB.w,by omega,by omega,by omega,by omega⟩
   refine(uD G (hblk2 hB3) _).mono ?_
   rintro r h ⟨out2,q3,n3,l3,rfl,rfl,y1,y2,w1,w2,w3,w4,w5,w6⟩
   simp-implicitDefEqProofs[aa,cF]
   exact dZ ⟨5,[],[e],out,out2⟩ q3 _ _ _ vs' n3 l3 (.keep (by simp) .nil) (.one (bH (p0:=(Sm.mk 5 [] [e] out out2).cs) rfl (Sm.cs_len _) (cr (ey (l:=[e]) (by rw[List.map_singleton,hec];rfl)) (lC rfl) (lC rfl))) .nil) (by simp[Sm.sz,aJ];omega) (.inl rfl) ⟨by omega,by omega,by omega,by omega,by omega,by omega⟩
  ·simp-implicitDefEqProofs[]
   exact dZ ⟨5,[],[e],out,[]⟩ (q2+1) _ _ _ vs' n2 l2 (.keep (by simp) .nil) (.one (bH (p0:=(Sm.mk 5 [] [e] out []).cs) rfl (Sm.cs_len _) (cr (ey (l:=[e]) (by rw[List.map_singleton,hec];rfl)) (lC rfl) (View.nils 5))) .nil) (by simp[Sm.sz,aJ,aD];omega) (.inl rfl) ⟨by omega,by omega,by omega,by omega,by omega,by omega⟩
 by_cases e11:(k:Int)=11
 ·simp-implicitDefEqProofs[aa,k3,k5,k7',hd2,e7,e8,k11,e11]
  refine(bf G b hb hl (p+1) (by omega) 3 _).mono ?_
  rintro r h ⟨k2,rfl,rfl,_⟩
  simp-implicitDefEqProofs[aa]
  refine aO (λhq=>?_) (λhq=>?_)
  ·simp-implicitDefEqProofs[]
   refine(dh G (ny G hb hl (p:=p+1+1) (by omega) fns hf vs hvx next (left-1) (d:=2) (by omega)) _ (by simp[below])).mono ?_
   rintro r h ⟨v,q,vs',n',l',rfl,rfl,⟨e,rfl,he⟩,h1,h2,rfl,rfl,rfl⟩
   have hec:=e.cs_eq
   simp-implicitDefEqProofs[aa,cF,hec]
   exact dZ ⟨7,[],[e],[],[]⟩ q _ _ _ vs' n' (left-1) (.keep (by simp) .nil) (.one (bH (p0:=(Sm.mk 7 [] [e] [] []).cs) rfl (Sm.cs_len _) (cr (ey (l:=[e]) (by rw[List.map_singleton,hec];rfl)) (View.nils 5) (View.nils 5))) .nil) (by simp[Sm.sz,aJ,aD];omega) (.inl rfl) ⟨by omega,by omega,by omega,by omega,by omega,by omega⟩
  ·simp-implicitDefEqProofs[]
   have hBL:Bd (Pd d+60) (p+1+1) vs next (left-1):=⟨by omega,by omega,hB.w,hn0,by omega,by omega,by omega⟩
   refine(dh G (OR G hb hl fns hd hblk2 hBL) _ (by simp[below])).mono ?_
   rintro r h ⟨v,q,vs2,n2,l2,rfl,rfl,out,s,rfl,z1,z2,z3,hs,rfl,m1,m2,m3,m4,m5,m6⟩
   simp-implicitDefEqProofs[aa,cF]
   exact⟨_,_,q,_,_,vs++[s],n2,l2,rfl,rfl,.keep (by simp) .nil,.keep (by simp) .nil,out,rfl,by omega,z2,z3,.inr ⟨s,hs,rfl⟩,by omega,by omega,by omega,by omega,by omega,by omega⟩
 ·simp-implicitDefEqProofs[aa,k3,k5,k7',hd2,e7,e8,k11,e11]
  have hBL:Bd (Pd d+60) (p+1) vs next (left-1):=⟨by omega,by omega,hB.w,hn0,by omega,by omega,by omega⟩
  refine(dh G (OR G hb hl fns hd hblk2 hBL) _ (by simp[below])).mono ?_
  rintro r h ⟨v,q,vs2,n2,l2,rfl,rfl,out,s,rfl,z1,z2,z3,hs,rfl,m1,m2,m3,m4,m5,m6⟩
  simp-implicitDefEqProofs[aa,cF]
  exact⟨_,_,q,_,_,vs++[s],n2,l2,rfl,rfl,.keep (by simp) .nil,.keep (by simp) .nil,out,rfl,by omega,z2,z3,.inr ⟨s,hs,rfl⟩,by omega,by omega,by omega,by omega,by omega,by omega⟩
end
section
variable (G:aL)
structure BkS where (j m:Nat) (out:List Sm) (q:Nat) (vs:List (List UInt8)) (next left:Int)
theorem Uj(d:Nat):5000<=Pd d:=by
 have:1<=20^d:=Nat.one_le_pow _ _ (by omega)
 simp only[Pd];omega
theorem Pu(d:Nat):Pd (d+1)=20*Pd d:=by simp only[Pd,Nat.pow_succ];omega
theorem Ez{b:List Int}(hb:Byt b)(hl:b.length<=2000)(fns:List Fd)(hf:BR fns){d:Nat}(hd:d<=10)(hblk:1<=d->LK G b fns d):LK G b fns (d+1):=by
 intro p vs next left hB
 have hp:=hB.p
 have hv:=hB.v
 have hn0:=hB.n0
 have hn1:=hB.n1
 have hl0:=hB.l0
 have hl1:=hB.l1
 have hP:=Uj d
 have hPs:=Pu d
 generalize hN:Pd d=N at*
 rw[hPs] at hp hv hn1 hl0⊢
 have hGok:∀(vs:List (List UInt8)) (nx lf:Int),okO 4 (.row 5 [cF fns vs nx lf]):=λvs nx lf e he=>by
  rw[WR.1 he];exact⟨by simp[below],rE (by omega),by simp,by simp,by simp,trivial⟩
 refine AC.go tP ?_
 simp-implicitDefEqProofs[lO,HG,cF]
 refine(mO G hb hl (p:=p) (by omega) [2,3,1,4] (k:=4) (by simp) (by simp) (by omega) rfl rfl).mono ?_
 rintro r h ⟨I,hI,rfl,rfl⟩
 obtain⟨J,rfl,hJ⟩:∃J:Nat,I=J/\J<=4:=⟨I.toNat,by simp at hI;omega,by simp at hI;omega⟩
 simp-implicitDefEqProofs[aa]
 refine aM (λs:BkS=>aC 40 [(0,.ptr 1 5 0 0),(1,.p (.int .i64 ((d:Int)+1))),(5,.p (aN vs)),(6,.sl 3 5 0 s.out.length),(7,.p (.int .i64 s.j))])
  (λs=>[rdO b s.q,.row 5 [cF fns s.vs s.next s.left],bY 3 (bi fns),.row 5 (smR s.out)])
  (λs=>s.j+s.m<=4/\aD s.out<=s.m*(2*N+3000)/\s.out.length<=2*s.m/\p<=s.q/\s.q<=p+1+s.m*(2*N+3000)/\s.vs.length<=vs.length+s.m/\(∀w∈s.vs,w.length<=8)/\next<=s.next/\s.next<=next+((s.m*(2*N+3000):Nat):Int)/\left-((s.m*(2*N+3000):Nat):Int)<=s.left/\s.left<=left)
  (λs=>s.j) ⟨J,0,[],p+1,vs,next,left⟩ ⟨by simp only;omega,by simp[aD],by simp,by simp,by simp,by simp,hB.w,by simp,by simp,by simp,by simp⟩ ?_ ?_
 ·refine dv (m:=4) (by omega) (bT (h1:=[rdO b (p+1),.row 5 [cF fns vs next left],bY 3 (bi fns),.row 5 (smR [])]) rfl rfl (au (bv _ _ _) (au (hGok _ _ _) (au (mQ _ _) (au (cJ (ep [])) dq))))) (by simp[below])
 rintro⟨j,m,out,q,vs',nx,lf⟩ ⟨i1,i2,i3,i4,i5,i6,i7,i8,i9,i10,i11⟩
 simp only at i1 i2 i3 i4 i5 i6 i7 i8 i9 i10 i11
 simp-implicitDefEqProofs[cF]
 have hm4:m*(2*N+3000)<=4*(2*N+3000):=XJ _ (by omega)
 by_cases hc:0<j/\0<lf
 ·obtain⟨c1,c2⟩:=hc
  have hm3:m*(2*N+3000)<=3*(2*N+3000):=XJ _ (by omega)
  have hms:(m+1)*(2*N+3000)=m*(2*N+3000)+(2*N+3000):=by rw[XH,Nat.one_mul]
  have hmsI:((m+1:Nat):Int)*(2*(N:Int)+3000)=((m*(2*N+3000)+(2*N+3000):Nat):Int):=by rw[←hms];simp
  generalize m*(2*N+3000)=M at*
  have hB2:Bd (2*Pd d+3000) q vs' nx lf:=by
   rw[hN];exact⟨by omega,by omega,i7,by omega,by omega,by omega,by omega⟩
  have hS:=Sx G hb hl fns hf hd hblk hB2
  rw[hN] at hS
  simp-implicitDefEqProofs[c1,c2]
  refine(dh G hS _ (by simp[below])).mono ?_
  rintro r h ⟨v,q2,vs2,n2,l2,rfl,rfl,out2,rfl,z1,z2,z3,hvs,m1,m2,m3,m4,m5,m6⟩
  have hsl:smL out2= .lst 5 (out2.map Sm.cs):=rfl
  simp-implicitDefEqProofs[aa,cF,hsl]
  have hol:(smR out).length=out.length:=gz out
  have hwj:IntKind.i64.wrap ((j:Int)-1)=((j-1:Nat):Int):=by rw[ab (by omega) (by omega)];omega
  have hrow:List.take out.length (smR out)++List.map ((λx=>List.map AV.p x)∘Sm.cs) out2=smR (out++out2):=by
   rw[WQ (by omega),Em];rfl
  refine⟨⟨by omega,by omega,by omega⟩,⟨j-1,m+1,out++out2,q2,vs2,n2,l2⟩,⟨by simp only;omega,by simp only;rw[aW,hms];omega,by simp only;rw[Xa];omega,by simp only;omega,by simp only;rw[hms];omega,?_,?_,by simp only;omega,by simp only;rw[hmsI];omega,by simp only;rw[hmsI];omega,by simp only;omega⟩,by simp only;omega,?_⟩
  ·simp only
   rcases hvs with rfl|⟨s,_,rfl⟩
   ·omega
   ·rw[Xa,List.length_singleton];omega
  ·simp only
   rcases hvs with rfl|⟨s,hs,rfl⟩
   ·exact i7
   ·intro w hw
    rcases WO.1 hw with h|h
    ·exact i7 w h
    ·rw[WR.1 h];exact hs
  ·rw[hrow]
   refine dp [0,1,2,4] (by simp) (by decide) (by decide) (bQ rfl (bv _ _ _) (db ?_ ?_ (bQ rfl (mQ _ _) (bq rfl (ep _) bJ)))) (by simp[below,ren,hwj])
   ·intro x hx
    rw[WR.1 hx];exact⟨by simp[below],rE (by simp),by simp,by simp,by simp,trivial⟩
   ·simp[cF,ren,br]
 ·have hce:(decide (0<j)&&decide (0<lf))=false:=by
   by_cases h1:0<j
   ·have h2:¬0<lf:=λh=>hc ⟨h1,h⟩
    simp[h2]
   ·simp[h1]
  have fin:QO b fns vs p (20*N) next left [] (.ret (.sl 3 5 0 out.length)) [rdO b q,.row 5 [[.ptr 0 2 0 0,slE 2 3 (bi fns),.p (aN vs),.p (.int .i64 nx),.p (.int .i64 lf)]],bY 3 (bi fns),.row 5 (smR out)]:=
   ⟨out,q,nx,lf,rfl,rfl,by omega,by omega,by omega,by omega,by omega,by omega,by omega,by omega⟩
  by_cases h1:0<j
  ·have h2:¬0<lf:=λh=>hc ⟨h1,h⟩
   simp-implicitDefEqProofs[h1,h2]
   exact fin
  ·simp-implicitDefEqProofs[h1]
   exact fin
end
section
theorem zY:AK.whole kw=FK.ak kD:=rfl
theorem EX{h:List AO}{id:Nat}{out:List Sm}{m:Sm}{c:List AV}(e:h[id]?=some (.row 5 (smR out++[c])))(hc:∀(j:Nat) (q:PV) (a:AV),m.cs[j]?=some q->c[j]?=some a->View h a q):View h (.sl id 5 0 (out.length+1)) (smL (out++[m])):=by
 have hl:((out++[m]).map Sm.cs).length=out.length+1:=by simp
 have:=View.sl (h:=h) id 5 0 _ ((out++[m]).map Sm.cs) e (by rw[hl];simp[gz]) (λx hx=>by obtain⟨b,_,rfl⟩:=Xl.1 hx;exact b.cs_len) (λi j e q e' a a1 a2 a3 a4=>?_)
 ·rwa[hl] at this
 rw[XD] at a3
 rw[List.map_append] at a1
 rcases Xy i out.length with hi|hi
 ·rw[WI (by simpa using hi),Xd,WK hi] at a1
  rw[WI (by simpa[gz] using hi),smR,Xd,WK hi] at a3
  cases a1;cases a3
  rw[Xd,a2] at a4
  cases a4
  exact .p _
 ·rw[WP (by simpa using hi)] at a1
  rw[WP (by simpa[gz] using hi),gz] at a3
  rw[Xp] at a1
  cases hd:i-out.length with
  |zero=>
   rw[hd] at a1 a3
   cases a1;cases a3
   exact hc j q a a2 a4
  |succ n=>rw[hd] at a3;simp at a3
variable (G:aL)
theorem Mz{b:List Int}(hb:Byt b)(hl:b.length<=2000)(fns:List Fd)(hf:BR fns):LK G b fns 3:=
 Ez G hb hl fns hf (d:=2) (by omega) λ_=>Ez G hb hl fns hf (d:=1) (by omega) λ_=>Ez G hb hl fns hf (d:=0) (by omega) λh=>absurd h (by omega)
def abcW:List (List UInt8):=[[97],[98],[99]]
def fnQ(p:Nat)(name:List UInt8)(np:Nat)(left:Int)(v:AV)(q:Nat)(vs':List (List UInt8))(next' left':Int):Prop:=
 ∃f:Fd,v= .agg (f.cs.map .p)/\f.name=name/\f.params=abcW.take np/\aD f.body<=40000500/\p<=q/\q<=p+40000500/\left-40000500<=left'/\left'<=left
theorem Ua{b:List Int}(hb:Byt b)(hl:b.length<=2000){p:Nat}(hp:p<=90000000000)(fns:List Fd)(hf:BR fns)(vs:List (List UInt8))(next left:Int)(hl0: -1000000000<=left)(hl1:left<=1000000000)(name:List UInt8)(np:Nat)(hnp:np<=3):
 AC Tryz.prog G gE [.ptr 1 5 0 0,.p (.str name),.p (.int .i64 np)] (HG b p fns vs next left) (PG b fns (fnQ p name np left) []):=by
 refine mK G (AC.goK zG zY ?_)
 have hwn:IntKind.i64.wrap ((np:Int)-1)=(np:Int)-1:=ab (by omega) (by omega)
 have h3:(np:Int)<=3:=by omega
 simp-implicitDefEqProofs[kw,kD,HG,cF,hwn,h3,hnp]
 refine oe (aC 61 [(0,.ptr 1 5 0 0),(6,.ptr 3 3 0 0),(7,.ptr 4 3 0 0)]) [rdO b p,.row 5 [cF fns (abcW.take np) ((np:Int)-1) left],bY 3 (bi fns),.row 3 [[.p (.str []),.nils,.nils]],.row 3 [[.p (.str name),.p (aN (abcW.take np)),.nils]]] ?_ ?_
 ·have hlen:(abcW.take np).length=np:=by simp[abcW];omega
  simp-implicitDefEqProofs[hnp,hlen]
  refine⟨⟨by omega,by omega⟩,?_⟩
  have hcutR:cb (abcW.take np)= .row 1 (List.take np [[AV.p (PV.str [97])],[AV.p (PV.str [98])],[AV.p (PV.str [99])]]):=by
   simp only[cb,List.map_take];rfl
  rw[←hcutR]
  refine Wk.trans (Kg (h1:=[rdO b p,.row 5 [[.ptr 0 2 0 0,slE 2 3 (bi fns),.sl 4 1 0 np,.p (.int .i64 ((np:Int)-1)),.p (.int .i64 left)]],bY 3 (bi fns),.row 3 [[.p (.str []),.nils,.nils]],cb (abcW.take np),.dead,cb (abcW.take np),.row 3 [[.p (.str name),.sl 6 1 0 np,.nils]]])
   ⟨.inl rfl,.inl rfl,.inl rfl,.inl rfl,.inr ⟨1,_,np,rfl,hcutR⟩,.inl rfl,.inl rfl,.inl rfl,trivial⟩) ?_
  refine Wk.trans (dp (l1:=[(0,.ptr 1 5 0 0),(6,.ptr 3 3 0 0),(7,.ptr 4 3 0 0)])
   (h1:=[rdO b p,.row 5 [[.ptr 0 2 0 0,slE 2 3 (bi fns),.sl 5 1 0 np,.p (.int .i64 ((np:Int)-1)),.p (.int .i64 left)]],bY 3 (bi fns),.row 3 [[.p (.str []),.nils,.nils]],.row 3 [[.p (.str name),.sl 6 1 0 np,.nils]],cb (abcW.take np),cb (abcW.take np)])
   [0,1,2,3,7,4,6] (by simp) (by decide) (by decide) (bQ rfl (bv _ _ _) (db (by simp[below]) (by simp[ren,br]) (bQ rfl (mQ _ _) (bq rfl (by simp[below]) (db (by simp[below]) (by simp[ren,br]) (bQ rfl (bD _) (bQ rfl (bD _) bJ))))))) (by simp[below,ren]))
   (oI 5 (by omega) (by simp) rfl (.same (bv _ _ _) (.one (.keep (by simp[below]) (.keep (rE (by omega)) (.one ?_ (.keep (by simp) (.keep (by simp) .nil))))) (.same (mQ _ _) (.same (by simp[okO,below]) (.one (.keep (by simp) (.one ?_ (.keep (by simp[below]) .nil))) (.nil _)))))) ?_)
  ·have:=eC (l:=abcW.take np) (id:=5) (h:=mW 5 [rdO b p,.row 5 [[.ptr 0 2 0 0,slE 2 3 (bi fns),.sl 5 1 0 np,.p (.int .i64 ((np:Int)-1)),.p (.int .i64 left)]],bY 3 (bi fns),.row 3 [[.p (.str []),.nils,.nils]],.row 3 [[.p (.str name),.sl 6 1 0 np,.nils]],cb (abcW.take np),cb (abcW.take np)]) rfl
   rwa[hlen] at this
  ·have:=eC (l:=abcW.take np) (id:=6) (h:=mW 5 [rdO b p,.row 5 [[.ptr 0 2 0 0,slE 2 3 (bi fns),.sl 5 1 0 np,.p (.int .i64 ((np:Int)-1)),.p (.int .i64 left)]],bY 3 (bi fns),.row 3 [[.p (.str []),.nils,.nils]],.row 3 [[.p (.str name),.sl 6 1 0 np,.nils]],cb (abcW.take np),cb (abcW.take np)]) rfl
   rwa[hlen] at this
  ·exact⟨.keep (by simp[below]) .nil,.keep (by simp[below]) .nil,.keep (by simp[below]) .nil,trivial⟩
 have hlen:(abcW.take np).length<=3:=by simp[abcW];omega
 have hw8:∀s∈abcW.take np,s.length<=8:=by
  intro s hs
  have:=List.mem_of_mem_take hs
  simp only[abcW,WN,XC,or_false] at this
  rcases this with rfl|rfl|rfl<;>simp
 have hPd:Pd 3=40000000:=rfl
 have hB:Bd (Pd 3) p (abcW.take np) ((np:Int)-1) left:=by rw[hPd];exact⟨by omega,by omega,hw8,by omega,by omega,by omega,by omega⟩
 simp-implicitDefEqProofs[cF]
 refine(uD G (Mz G hb hl fns hf hB) _).mono ?_
 rintro r h ⟨out,q,n2,l2,rfl,rfl,z1,z2,m1,m2,m3,m4,m5,m6⟩
 rw[hPd] at z1 m2 m4 m5
 simp-implicitDefEqProofs[aa,cF]
 have fin:∀(out:List Sm) (q:Nat) (l2:Int) (rest:List AO) (v:AV) (vc:AV) (vs':List (List UInt8)) (n2:Int),Fzs (.dead:: .dead:: .dead::rest) 3 [vc] [.p (aN vs')]->Fzs (.dead:: .dead:: .dead::rest) 3 [v] [.agg ((Fd.mk name (abcW.take np) out).cs.map .p)]->aD out<=40000500->p<=q->q<=p+40000500->left-40000500<=l2->l2<=left->
  DG b fns (fnQ p name np left) (.ret v) (rdO b q:: .row 5 [[.ptr 0 2 0 0,slE 2 3 (bi fns),vc,.p (.int .i64 n2),.p (.int .i64 l2)]]::bY 3 (bi fns)::rest):=λout q l2 rest v vc vs' n2 h1 h2 h3 h4 h5 h6 h7=>
  ⟨_,rest,q,_,_,vs',n2,l2,rfl,rfl,h1,h2,⟨name,abcW.take np,out⟩,rfl,rfl,rfl,h3,h4,h5,h6,h7⟩
 by_cases hl2:0<l2
 ·simp-implicitDefEqProofs[hl2]
  refine(bf G b hb hl q (by omega) 4 _).mono ?_
  rintro r h ⟨k,rfl,rfl,_⟩
  simp-implicitDefEqProofs[aa]
  refine aO (λhc=>?_) (λhc=>?_)
  ·have hwl:IntKind.i64.wrap (l2-1)=l2-1:=ab (by omega) (by omega)
   simp-implicitDefEqProofs[hwl]
   have hShrt:vG (abcW.take np):=⟨by omega,hw8⟩
   refine(dh G (ny G hb hl (p:=q+1) (by omega) fns hf (abcW.take np) hShrt n2 (l2-1) (d:=2) (by omega)) _ (by simp[below])).mono ?_
   rintro r h ⟨v,q2,vs2,n3,l3,rfl,rfl,⟨e,rfl,he⟩,h1,h2,hvs,rfl,rfl⟩
   subst hvs
   have hec:=e.cs_eq
   have hol:(smR out).length=out.length:=gz out
   simp-implicitDefEqProofs[aa,cF,hec,hol]
   refine⟨⟨by omega,by omega⟩,?_⟩
   have htk:List.take out.length (smR out)=smR out:=WQ (by omega)
   rw[htk]
   have hm:(Sm.mk 7 [] [e] [] []).cs=[.int .i64 7,.str [],.lst 4 [[.int .i64 e.op,.int .i64 e.n,.str e.name,exL e.kids]],.lst 5 [],.lst 5 []]:=by
    rw[Sm.cs_eq,←hec];rfl
   refine fin (out++[⟨7,[],[e],[],[]⟩]) q2 (l2-1) _ _ _ (abcW.take np) n3 (.keep (by simp) .nil) (.agg (.keep (by simp) (.keep (by simp) (.one (EX rfl ?_) .nil))) .nil) (by simp[aW,aD,Sm.sz,aJ];omega) (by omega) (by omega) (by omega) (by omega)
   intro j q a a1 a2
   rw[hm] at a1
   match j,a1,a2 with
   |0,a1,a2=>cases a1;cases a2;exact .p _
   |1,a1,a2=>cases a1;cases a2;exact .p _
   |2,a1,a2=>cases a1;cases a2;exact .p _
   |3,a1,a2=>cases a1;cases a2;exact View.e 0 5
   |4,a1,a2=>cases a1;cases a2;exact View.e 0 5
   |j+5,a1,a2=>simp at a1
  ·simp-implicitDefEqProofs[]
   exact fin out (q+1) l2 _ _ _ (abcW.take np) n2 (.keep (by simp) .nil) (.agg (.keep (by simp) (.keep (by simp) (.one (lC rfl) .nil))) .nil) (by omega) (by omega) (by omega) (by omega) (by omega)
 ·simp-implicitDefEqProofs[hl2]
  exact fin out q l2 _ _ _ (abcW.take np) n2 (.keep (by simp) .nil) (.agg (.keep (by simp) (.keep (by simp) (.one (lC rfl) .nil))) .nil) (by omega) (by omega) (by omega) (by omega) (by omega)
end
section
theorem Bt{h:List AO}{s:List UInt8}{ps:List (List UInt8)}{bd:List Sm}{P B:AV}(hP:View h P (aN ps))(hB:View h B (smL bd)):∀(j:Nat) (q:PV) (x:AV),(Fd.mk s ps bd).cs[j]?=some q->[AV.p (.str s),P,B][j]?=some x->View h x q:=by
 intro j q x e1 e2
 match j,e1,e2 with
 |0,e1,e2=>cases e1;cases e2;exact .p _
 |1,e1,e2=>cases e1;cases e2;exact hP
 |2,e1,e2=>cases e1;cases e2;exact hB
 |j+3,e1,e2=>simp[Fd.cs] at e1
theorem vQ{h:List AO}{id:Nat}{l:List Fd}(e:h[id]?=some (.row 3 (bi l))):View h (.sl id 3 0 l.length) (fdL l):=by
 have:=gm (h:=h) (id:=id) (sz:=3) (n:=l.length) (ls:=l.map Fd.cs) (by rw[e,bi];simp) (by simp) (λx hx=>by obtain⟨b,_,rfl⟩:=Xl.1 hx;exact b.cs_len)
 exact this
theorem GO(a b:List Fd):bi (a++b)=bi a++bi b:=by simp[bi]
theorem Bb(a:List Fd):(bi a).length=a.length:=by simp[bi]
theorem nP(a b:List Fd):aY (a++b)=aY a+aY b:=by simp[aY]
def SH:List Fd:=[⟨[109],[],[⟨3,[],[⟨1,1,[],[]⟩],[],[]⟩]⟩]
theorem Jw:bu SH=true:=by decide
theorem Jt(k:Nat)(hk:k<=3):(abcW.take k).length+((abcW.take k).map List.length).sum<=6:=by
 have h:k=0\/k=1\/k=2\/k=3:=by omega
 rcases h with rfl|rfl|rfl|rfl<;>decide
variable (G:aL)
structure PgS where (j:Nat) (fns:List Fd) (q:Nat) (vs:List (List UInt8)) (next left:Int)
def Wl(b:List Int)(p n:Nat)(x:ARes)(h:List AO):Prop:=∃(l:List Fd) (q:Nat),x= .ret (.agg [.p (fdL l)])/\h=[rdO b q]/\bu l=true/\aY l<=200000000/\p<=q/\q<=p+n
def Wc(b:List Int)(p n:Nat)(x:ARes)(h:List AO):Prop:=∃(l:List Fd) (q:Nat) (v:AV) (rest:List AO),x= .ret (.agg [v])/\h=rdO b q::rest/\View (mW 1 h) v (fdL l)/\bu l=true/\aY l<=200000000/\p<=q/\q<=p+n
theorem Ia{b:List Int}(hb:Byt b)(hl:b.length<=2000){p:Nat}(hp:p<=10000000000):AC Tryz.prog G dw [.ptr 0 2 0 0] [rdO b p] (Wl b p 200000000):=by
 refine AC.frz (R:=Wc b p 200000000) ?_ 1 (by simp) (λt v h ⟨_,_,_,_,e,_⟩=>by cases e) ?_
 ·refine AC.go Do ?_
  simp-implicitDefEqProofs[sI]
  refine(mO G hb hl (p:=p) (by omega) [14,20,8,26] (k:=2) (by simp) (by simp) (by omega) rfl rfl).mono ?_
  rintro r h ⟨L0,hL0,rfl,rfl⟩
  have hL:0<=L0/\L0<=26:=by simp at hL0;omega
  simp-implicitDefEqProofs[aa]
  refine(mO G hb hl (p:=p+1) (by omega) [0,1,1,2] (k:=4) (by simp) (by simp) (by omega) rfl rfl).mono ?_
  rintro r h ⟨J0,hJ0,rfl,rfl⟩
  obtain⟨J,rfl,hJ⟩:∃J:Nat,J0=J/\J<=2:=⟨J0.toNat,by simp at hJ0;omega,by simp at hJ0;omega⟩
  simp-implicitDefEqProofs[aa]
  refine aM (λs:PgS=>aC 69 [(0,.ptr 0 2 0 0),(2,.ptr 3 1 0 0),(3,.ptr 1 5 0 0),(4,.p (.int .i64 s.j))])
   (λs=>[rdO b s.q,.row 5 [cF s.fns s.vs s.next s.left],bY 3 (bi s.fns),.row 1 [[.nils]]])
   (λs=>s.j+s.fns.length<=2/\BR s.fns/\aY s.fns<=s.fns.length*40000600/\p<=s.q/\s.q<=p+2+s.fns.length*40000600/\L0-s.fns.length*40000600<=s.left/\s.left<=L0)
   (λs=>s.j) ⟨J,[],p+1+1,[],0,L0⟩ ⟨by simp only[XA];omega,⟨by simp,by simp⟩,by simp[aY],by simp only;omega,by simp,by simp,by simp⟩ ?_ ?_
  ·refine Wk.trans (dp (l1:=[(0,.ptr 0 2 0 0),(2,.ptr 3 1 0 0),(3,.ptr 1 5 0 0),(4,.p (.int .i64 J))])
    (h1:=[rdO b (p+1+1),.row 5 [[.ptr 0 2 0 0,.nils,.nils,.p (.int .i64 0),.p (.int .i64 L0)]],.dead,.row 1 [[.nils]]])
    [0,3,2,1] (by simp) (by decide) (by decide) (bQ rfl (bv _ _ _) (db (by simp[below]) (by simp[ren,br]) (bX (by simp) (bq rfl (by simp[below]) bJ)))) (by simp[below,ren]))
    (oI 4 (by omega) (by simp) rfl (.same (bv _ _ _) (.one (.keep (by simp[below]) (.keep (by simp[below,bi,slE]) (.one (View.nils 1) (.keep (by simp) (.keep (by simp) .nil))))) (.dead (.same (by simp[okO,below]) (.nil _))))) ?_)
   exact⟨.keep (by simp[below]) .nil,.keep (by simp[below]) .nil,.keep (by simp[below]) .nil,.keep (by simp[below]) .nil,trivial⟩
  rintro⟨j,fns,q,vs,nx,lf⟩ ⟨i1,i2,i3,i4,i5,i6,i7⟩
  simp only at i1 i2 i3 i4 i5 i6 i7
  simp-implicitDefEqProofs[cF]
  by_cases hj:0<j
  ·have hfl:fns.length<3:=by omega
   have hcl:(bi fns).length=fns.length:=Bb fns
   obtain⟨nm,hget,hnm⟩:∃nm:List UInt8,([[PV.str [102]],[PV.str [103]],[PV.str [104]]]:List (List PV))[fns.length]?=some [.str nm]/\nm.length<=8:=by
    have h3:fns.length=0\/fns.length=1\/fns.length=2:=by omega
    rcases h3 with h|h|h<;>rw[h]
    ·exact⟨[102],rfl,by simp⟩
    ·exact⟨[103],rfl,by simp⟩
    ·exact⟨[104],rfl,by simp⟩
   simp-implicitDefEqProofs[hj,hcl,hget]
   refine(bf G b hb hl q (by omega) 3 _).mono ?_
   rintro r h ⟨k,rfl,rfl,hk⟩
   have hk3:k<=3:=by omega
   simp-implicitDefEqProofs[aa,hcl,hget]
   refine(dh G (Ua G hb hl (p:=q+1) (by omega) fns i2 vs nx lf (by omega) (by omega) nm k hk3) _ (by simp[below])).mono ?_
   rintro r h ⟨v,q2,vs2,n2,l2,rfl,rfl,f,rfl,hf1,hf2,z1,z2,z3,z4,z5⟩
   have hcs:=f.cs_len
   have hcf:f.cs=[.str f.name,aN f.params,smL f.body]:=rfl
   simp-implicitDefEqProofs[aa,cF,hcf]
   have hfs:f.sz<=40000600:=by
    have h1:f.sz=1+f.name.length+(f.params.length+(f.params.map List.length).sum)+aD f.body:=rfl
    have h2:=Jt k hk3
    rw[←hf2] at h2
    rw[hf1] at h1
    omega
   have hwj:IntKind.i64.wrap ((j:Int)-1)=((j-1:Nat):Int):=by rw[ab (by omega) (by omega)];omega
   have hfp:f.params.length<=3:=by rw[hf2];simp[abcW];omega
   have hrow:bi fns++[[AV.p (.str f.name),.p (aN f.params),.p (smL f.body)]]=bi (fns++[f]):=by rw[GO];rfl
   have hne:bi (fns++[f])≠[]:=by simp[bi]
   have hll:(bi fns).length+1=(bi (fns++[f])).length:=by simp[bi]
   rw[hrow,hll]
   refine⟨⟨by rw[←hll,hcl];omega,by omega⟩,⟨j-1,fns++[f],q2,vs2,n2,l2⟩,⟨by simp;omega,⟨by simp;omega,?_⟩,by simp only[nP,Xa];simp[aY] at*;omega,by simp only;omega,by simp;omega,by simp;omega,by simp only;omega⟩,by simp only;omega,?_⟩
   ·intro x hx
    rcases WO.1 hx with h|h
    ·exact i2.2 x h
    ·rw[WR.1 h,hf1];exact⟨hnm,hfp⟩
   ·rw[dL hne,fC hne]
    refine dp [0,1,5,3] (by simp) (by decide) (by decide) (bQ rfl (bv _ _ _) (db (by simp[below]) (by simp[ren,br]) (bq rfl (zf _) (bq rfl (by simp[below]) bJ)))) (by simp[below,ren,hwj])
  ·simp-implicitDefEqProofs[hj]
   refine(mO G hb hl (p:=q) (by omega) [0,1,2,1] (k:=4) (by simp) (by simp) (by omega) rfl rfl).mono ?_
   rintro r h ⟨N0,hN0,rfl,rfl⟩
   obtain⟨np,rfl,hnp⟩:∃J:Nat,N0=J/\J<=2:=⟨N0.toNat,by simp at hN0;omega,by simp at hN0;omega⟩
   simp-implicitDefEqProofs[aa]
   refine(dh G (Ua G hb hl (p:=q+1) (by omega) fns i2 vs nx lf (by omega) (by omega) [109] np (by omega)) _ (by simp[below])).mono ?_
   rintro r h ⟨v,q2,vs2,n2,l2,rfl,rfl,f,rfl,hf1,hf2,z1,z2,z3,z4,z5⟩
   have hcf:f.cs=[.str f.name,aN f.params,smL f.body]:=rfl
   have hcl:(bi fns).length=fns.length:=Bb fns
   have hfs:f.sz<=40000600:=by
    have h1:f.sz=1+f.name.length+(f.params.length+(f.params.map List.length).sum)+aD f.body:=rfl
    have h2:=Jt np (by omega)
    rw[←hf2] at h2
    rw[hf1] at h1
    simp at h1
    omega
   by_cases hfe:fns=[]
   ·subst hfe
    have h0:bi []=[]:=rfl
    rw[h0]
    simp-implicitDefEqProofs[aa,cF,hcf,h0,Ae,BK]
    have hrow:[[AV.p (.str f.name),.p (aN f.params),.p (smL f.body)]]=bi [f]:=rfl
    rw[hrow]
    have vw:∀h:List AO,h[8]?=some (.row 3 (bi [f]))->View h (.sl 8 3 0 1) (fdL [f]):=λh e=>vQ (l:=[f]) e
    refine((md G [f] (by simp only[aY,Xj,XG,List.sum_cons,List.sum_nil] at*;omega)).lend (.agg (.one (vw _ rfl) .nil) .nil) rfl).mono ?_
    rintro r h ⟨rfl,rfl⟩
    simp-implicitDefEqProofs[aa]
    by_cases hok:bu [f]=true
    ·simp-implicitDefEqProofs[hok]
     exact⟨[f],q2,_,_,rfl,rfl,vw _ rfl,hok,by simp only[aY,Xj,XG,List.sum_cons,List.sum_nil] at*;omega,by omega,by omega⟩
    ·have hok':bu [f]=false:=by simpa using hok
     simp-implicitDefEqProofs[hok']
     exact⟨SH,q2,_,_,rfl,rfl,bH (p0:=(Fd.mk [109] [] [⟨3,[],[⟨1,1,[],[]⟩],[],[]⟩]).cs) rfl rfl (Bt (View.nils 1) (bH (p0:=(Sm.mk 3 [] [⟨1,1,[],[]⟩] [] []).cs) rfl (Sm.cs_len _) (cr (bH (p0:=(Ex.mk 1 1 [] []).cs) rfl (Ex.cs_len _) (iJ (View.nils 4))) (View.nils 5) (View.nils 5)))),Jw,by decide,by omega,by omega⟩
   ·have h0:bi fns≠[]:=λh=>hfe (List.map_eq_nil_iff.1 h)
    simp only[cF,fC h0,dL h0]
    simp-implicitDefEqProofs[aa,hcf,hcl]
    refine⟨⟨by omega,by omega⟩,⟨by omega,by omega⟩,?_⟩
    have hrow:List.take fns.length (List.take fns.length (bi fns))++[[AV.p (.str f.name),.p (aN f.params),.p (smL f.body)]]=bi (fns++[f]):=by
     rw[WQ (by rw[Xi];omega),WQ (by omega),GO];rfl
    rw[hrow]
    have vw:∀h:List AO,h[8]?=some (.row 3 (bi (fns++[f])))->View h (.sl 8 3 0 (fns.length+1)) (fdL (fns++[f])):=λh e=>by
     have:=vQ e
     rwa[Xa,List.length_singleton] at this
    refine((md G (fns++[f]) (by rw[nP];simp only[aY,Xj,XG,List.sum_cons,List.sum_nil] at*;omega)).lend (.agg (.one (vw _ rfl) .nil) .nil) rfl).mono ?_
    rintro r h ⟨rfl,rfl⟩
    simp-implicitDefEqProofs[aa]
    by_cases hok:bu (fns++[f])=true
    ·simp-implicitDefEqProofs[hok]
     exact⟨fns++[f],q2,_,_,rfl,rfl,vw _ rfl,hok,by rw[nP];simp only[aY,Xj,XG,List.sum_cons,List.sum_nil] at*;omega,by omega,by omega⟩
    ·have hok':bu (fns++[f])=false:=by simpa using hok
     simp-implicitDefEqProofs[hok']
     exact⟨SH,q2,_,_,rfl,rfl,bH (p0:=(Fd.mk [109] [] [⟨3,[],[⟨1,1,[],[]⟩],[],[]⟩]).cs) rfl rfl (Bt (View.nils 1) (bH (p0:=(Sm.mk 3 [] [⟨1,1,[],[]⟩] [] []).cs) rfl (Sm.cs_len _) (cr (bH (p0:=(Ex.mk 1 1 [] []).cs) rfl (Ex.cs_len _) (iJ (View.nils 4))) (View.nils 5) (View.nils 5)))),Jw,by decide,by omega,by omega⟩
 ·rintro v h ⟨l,q,v0,rest,e,rfl,hv,h1,h2,h3,h4⟩
  cases e
  exact⟨_,[rdO b q],by simp,rfl,.agg (.one hv .nil) .nil,.same (bv _ _ _) (.nil _),l,q,rfl,rfl,h1,h2,h3,h4⟩
end
section
variable (G:aL)
theorem Dy{hF:List AO}{n:Nat}{o k:Int}{w:List UInt8}{ks:List Ex}{K:AV}(hk:View hF K (exL ks)):Fzs hF n [.agg [.p (.int .i64 o),.p (.int .i64 k),.p (.str w),K]] [.agg ((Ex.mk o k w ks).cs.map .p)]:=by
 rw[Ex.cs_eq]
 exact .agg (.keep (by simp) (.keep (by simp) (.keep (by simp) (.one hk .nil)))) .nil
def Qu(h:List AO)(kids:List Ex)(K:AV):Prop:=(K= .nils/\kids=[])\/∃id rows hX,K= .sl (id+1) 4 0 kids.length/\kids≠[]/\h[id+1]?=some (.row 4 rows)/\hX.length=h.length/\(∀(i:Nat) o,hX[i]?=some o->o.live->h[i]?=some o)/\¬Live hX 0/\¬Live hX (id+1)/\
 rows.length=kids.length/\∀(j:Nat) (e e1:List AV),rows[j]?=some e->(exR kids)[j]?=some e1->Fzs hX h.length e e1
def DT(b:List Int)(Q:Ex->Nat->Prop)(x:ARes)(h:List AO):Prop:=∃(e:Ex) (q:Nat) (rest:List AO) (K:AV),x= .ret (.agg [.p (.int .i64 e.op),.p (.int .i64 e.n),.p (.str e.name),K])/\h=rdO b q::rest/\Qu h e.kids K/\Q e q
def EN(b:List Int)(Q:Ex->Nat->Prop)(x:ARes)(h:List AO):Prop:=∃(e:Ex) (q:Nat),x= .ret (.agg [.p (.int .i64 e.op),.p (.int .i64 e.n),.p (.str e.name),slE 1 4 (exR e.kids)])/\h=[rdO b q,bY 4 (exR e.kids)]/\Q e q
def EoQ(p n m:Nat)(e:Ex)(q:Nat):Prop:=e.sz<=n/\p<=q/\q<=p+m
theorem Ft{hF:List AO}{n:Nat}:∀h:List AO,FzO hF n h (List.replicate h.length .dead)
 |[]=> .nil _
 |o::r=>by rw[Xb,List.replicate_succ];exact .dead (Ft r)
theorem Hm{hF:List AO}{n sz:Nat}{es es1:List (List AV)}(hl:es.length=es1.length)(hv:∀(j:Nat) (e e1:List AV),es[j]?=some e->es1[j]?=some e1->Fzs hF n e e1):∀(h:List AO) (id:Nat),h[id]?=some (.row sz es)->FzO hF n h ((List.replicate h.length .dead).set id (.row sz es1))
 |[],id,e=>by simp at e
 |o::r,0,e=>by
  cases e
  rw[Xb,List.replicate_succ,List.set_cons_zero]
  exact .rows hl hv (Ft r)
 |o::r,id+1,e=>by
  rw[Xb,List.replicate_succ,List.set_cons_succ]
  exact .dead (Hm hl hv r id (by simpa using e))
theorem Hd{f:FuncId}{args:List AV}{b:List Int}{p:Nat}{Q:Ex->Nat->Prop}(H:AC Tryz.prog G f args [rdO b p] (DT b Q)):AC Tryz.prog G f args [rdO b p] (EN b Q):=by
 refine H.wk (λt v h ⟨_,_,_,_,e,_⟩=>by cases e) ?_
 rintro v h ⟨e,q,rest,K,ev,rfl,hk,hq⟩
 cases ev
 rcases hk with⟨rfl,hk⟩|⟨id,rows,hX,rfl,hne,he,x1,x2,x3,x4,x5,x6⟩
 ·refine⟨_,_,?_,e,q,rfl,rfl,hq⟩
  have h0:exR e.kids=[]:=by rw[hk];rfl
  rw[h0,Ae,BK]
  exact Wk.ofL [0,0] (by simp) (by simp) (by simp[rdO,ib]) (by simp[below,az,ren,br]) (bQ rfl (bv _ _ _) (bX (by simp) bJ))
 ·have hr:exR e.kids≠[]:=λh=>hne (List.map_eq_nil_iff.1 h)
  have hrl:(exR e.kids).length=e.kids.length:=by simp[exR]
  rw[Xc] at he
  have hid:id<rest.length:=(WJ.1 he).1
  refine⟨.agg [.p (.int .i64 e.op),.p (.int .i64 e.n),.p (.str e.name),slE 1 4 (exR e.kids)],[rdO b q,bY 4 (exR e.kids)],?_,e,q,rfl,rfl,hq⟩
  rw[dL hr,fC hr,hrl]
  refine Wk.trans (ts1:=[.agg [.p (.int .i64 e.op),.p (.int .i64 e.n),.p (.str e.name),.sl (id+1) 4 0 e.kids.length]]) (h1:=rdO b q::(List.replicate rest.length .dead).set id (.row 4 (exR e.kids))) (JK (hX:=hX) (by simp) x1 x2 (λi ⟨o,e1,l1⟩ ⟨o2,e2,l2⟩=>?_) (by simp) rfl (λi u hi=>?_) (.same (bv _ _ _) (Hm (by rw[hrl];exact x5) x6 rest id he))) ?_
  ·cases i with
   |zero=>exact x3 ⟨o,e1,l1⟩
   |succ i=>
    by_cases hi:i=id
    ·subst hi;exact x4 ⟨o,e1,l1⟩
    ·rw[Xc,WM (Ne.symm hi),List.getElem?_replicate] at e2
     split at e2
     ·cases e2;exact l2
     ·cases e2
  ·cases i with
   |zero=>cases hi;exact .inr ⟨_,rfl,il (by simp[below,az];exact hid)⟩
   |succ i=>simp at hi
  ·refine Wk.of [0,id+1] (by simp) (by simp) (by simp) (by simp[below,az,ren,br]) (bQ rfl (bv _ _ _) (bq ?_ (eA _) bJ))
   rw[Xc,WT (by simpa using hid)]
theorem Aj{f:FuncId}{args:List AV}{b:List Int}{p:Nat}{Q:Ex->Nat->Prop}(H:AC Tryz.prog G f args [rdO b p] (EN b Q))(rest:List AO)(ha:az 1 args):
 AC Tryz.prog G f args (rdO b p::rest) λx h=>∃(e:Ex) (q:Nat),x= .ret (.agg [.p (.int .i64 e.op),.p (.int .i64 e.n),.p (.str e.name),slE (rest.length+1) 4 (exR e.kids)])/\h=rdO b q::(rest++[bY 4 (exR e.kids)])/\Q e q:=by
 refine(H.frame (h:=rdO b p::rest) [0] (by simp) (FA (n:=1) ha) (bQ rfl (bv _ _ _) bJ)).mono ?_
 rintro x h ⟨x0,h0,⟨e,q,rfl,rfl,hq⟩,hl,rfl,rfl⟩
 have hp:∀σ,gU σ (bY 4 (exR e.kids))=bY 4 (exR e.kids):=λσ=>by
  unfold bY
  split
  ·rfl
  ·simp only[gU]
   rw[Xn (g:=id) λx hx=>dN _ x (eA _ x hx)];simp
 have hp2:∀σ,gU σ (rdO b q)=rdO b q:=λσ=>by simp[rdO,gU,br,ren]
 refine⟨e,q,?_,?_,hq⟩
 ·simp[Ce,ren,br]
 ·have hl2:([rdO b q,bY 4 (exR e.kids)]:List AO).length-[rdO b p].length=1:=rfl
  rw[hl2]
  simp only[Xb,XA,XD,List.take_succ_cons,List.take_zero,Xj,XG,hp2,List.drop_succ_cons,List.drop_zero,mrg,List.set_cons_zero,Xu,hp]
def LfQ(p:Nat)(v:AV)(q:Nat):Prop:=(∃(o n:Int) (s:List UInt8),v= .agg [.p (.int .i64 o),.p (.int .i64 n),.p (.str s),.nils]/\s.length<=8)/\p<=q/\q<=p+2
theorem Lu{b:List Int}(hb:Byt b)(hl:b.length<=2000){p:Nat}(hp:p<=1000000000000)(names:List (List UInt8))(hn:vG names):AC Tryz.prog G dy [.ptr 0 2 0 0,.p (aN names)] [rdO b p] λx h=>∃v q,x= .ret v/\h=[rdO b q]/\LfQ p v q:=by
 refine oG G (AC.go sF ?_)
 have hsl:aN names= .lst 1 (names.map λw=>[.str w]):=rfl
 have fin1:∀(o n:Int) (s:List UInt8) (q:Nat) (rest:List AO),p<=q->q<=p+2->s.length<=8->DP b (LfQ p) (.ret (.agg [.p (.int .i64 o),.p (.int .i64 n),.p (.str s),.nils])) (rdO b q::rest):=λo n s q rest h1 h2 hs=>
  ⟨_,rest,q,_,rfl,rfl,il (by simp),⟨o,n,s,rfl,hs⟩,h1,h2⟩
 have num:∀(q:Nat) (h:List AO),q<=1000000000001->h[0]?=some (rdO b q)->h[2]?=some (GY [0,1,2,3,5,7,15,16,100,255])->_:=λq h hq h0 h1=>mO G hb hl (p:=q) (by omega) [0,1,2,3,5,7,15,16,100,255] (h:=h) (k:=2) (by simp) (by simp) (by omega) h0 h1
 by_cases hne:names=[]
 ·subst hne
  have hs0:aN []= .lst 1 []:=rfl
  simp-implicitDefEqProofs[gt,hs0]
  refine(num p _ (by omega) rfl rfl).mono ?_
  rintro r h ⟨n,_,rfl,rfl⟩
  simp-implicitDefEqProofs[aa]
  exact fin1 _ _ _ _ _ (by omega) (by omega) (by simp)
 ·have hlen:¬names.length=0:=λh=>hne (XP h)
  simp-implicitDefEqProofs[gt,hsl,hne]
  refine(bf G b hb hl p (by omega) 3 _).mono ?_
  rintro r h ⟨k,rfl,rfl,_⟩
  simp-implicitDefEqProofs[aa]
  refine aO (λhc=>?_) (λhc=>?_)
  ·simp-implicitDefEqProofs[]
   refine(num (p+1) _ (by omega) rfl rfl).mono ?_
   rintro r h ⟨n,_,rfl,rfl⟩
   simp-implicitDefEqProofs[aa]
   exact fin1 _ _ _ _ _ (by omega) (by omega) (by simp)
  ·simp-implicitDefEqProofs[]
   rw[←hsl]
   refine(Kq G hb hl (by omega) names hne (by have:=hn.1;omega) _).mono ?_
   rintro r h ⟨s,hs,rfl,rfl⟩
   have:=hn.2 s hs
   simp-implicitDefEqProofs[aa]
   exact fin1 _ _ _ _ _ (by omega) (by omega) this
theorem KL{b:List Int}(hb:Byt b)(hl:b.length<=2000)(names:List (List UInt8))(hn:vG names)(d:Nat)(hd:d+1<=20){p:Nat}(hp:p+6*3^(d+1)<=1000000000000):AC Tryz.prog G bc [.ptr 0 2 0 0,.p (aN names),.p (.int .i64 ((d+1:Nat):Int))] [rdO b p] (EN b (EoQ p (10*3^(d+1)) (6*3^(d+1)))):=by
 have hpow:3^(d+1)=3*3^d:=by rw[Nat.pow_succ];omega
 have h1p:1<=3^d:=Nat.one_le_pow _ _ (by omega)
 have ih:=λ{p:Nat} (hp:p+6*3^d<=1000000000000)=>Ci G hb hl names hn d (by omega) (p:=p) hp
 rw[hpow] at hp⊢
 generalize 3^d=t at*
 have hw:IntKind.i64.wrap (d:Int)=(d:Int):=ab (by omega) (by omega)
 have leaf:∀(q:Nat) (rest:List AO),p<=q->q<=p+3->AC Tryz.prog G dy [.ptr 0 2 0 0,.p (aN names)] (rdO b q::rest) λx h=>∃v q',x= .ret v/\h=rdO b q'::rest/\LfQ q v q':=λq rest _ _=>ku G (Lu G hb hl (by omega) names hn) rest (by simp[below])
 have sub:∀(q:Nat) (rest:List AO),p<=q->q<=p+6+6*t->AC Tryz.prog G bc [.ptr 0 2 0 0,.p (aN names),.p (.int .i64 d)] (rdO b q::rest) λx h=>∃v q',x= .ret v/\h=rdO b q'::rest/\ExQ q (10*t) (6*t) v q':=λq rest _ _=>ku G (ih (by omega)) rest (by simp[below])
 refine Hd G (AC.go no ?_)
 have leafCase:∀(o n:Int) (s:List UInt8) (q:Nat) (rest:List AO),s.length<=8->p<=q->q<=p+5->DT b (EoQ p (10*(3*t)) (6*(3*t))) (.ret (.agg [.p (.int .i64 o),.p (.int .i64 n),.p (.str s),.nils])) (rdO b q::rest):=λo n s q rest h1 h2 h3=>
  ⟨⟨o,n,s,[]⟩,q,rest,_,rfl,rfl,.inl ⟨rfl,rfl⟩,by simp[Ex.sz,aJ];omega,h2,by omega⟩
 have top:∀(kids:List Ex) (h:List AO) (k:Nat),h[k+1]?=some (.row 4 (exR kids))->kids≠[]->Qu h kids (.sl (k+1) 4 0 kids.length):=λkids h k hk hne=>
  .inr ⟨k,exR kids,List.replicate h.length .dead,rfl,hne,hk,by simp,λi o e l=>(by rw[List.getElem?_replicate] at e;split at e<;>cases e;exact l.elim),λ⟨o,e,l⟩=>(by rw[List.getElem?_replicate] at e;split at e<;>cases e;exact l.elim),λ⟨o,e,l⟩=>(by rw[List.getElem?_replicate] at e;split at e<;>cases e;exact l.elim),by simp[exR],λj e e1 h1 h2=>(by rw[h1] at h2;cases h2;exact il (aT (Xr _) _ (eA _ e (WW h1))))⟩
 have bin:∀(o:Int) (e1 e2:Ex) (q:Nat) (rest:List AO) (k:Nat),(rdO b q::rest)[k+1]?=some (.row 4 [e1.cs.map .p,e2.cs.map .p])->e1.sz<=10*t->e2.sz<=10*t->p<=q->q<=p+6*(3*t)->DT b (EoQ p (10*(3*t)) (6*(3*t))) (.ret (.agg [.p (.int .i64 o),.p (.int .i64 0),.p (.str []),.sl (k+1) 4 0 2])) (rdO b q::rest):=λo e1 e2 q rest k hk h1 h2 h3 h4=>
  ⟨⟨o,0,[],[e1,e2]⟩,q,rest,_,rfl,rfl,top [e1,e2] _ k hk (by simp),by simp[Ex.sz,aJ];omega,h3,h4⟩
 have una:∀(o:Int) (e1:Ex) (q:Nat) (rest:List AO) (k:Nat),(rdO b q::rest)[k+1]?=some (.row 4 [e1.cs.map .p])->e1.sz<=10*t->p<=q->q<=p+6*(3*t)->DT b (EoQ p (10*(3*t)) (6*(3*t))) (.ret (.agg [.p (.int .i64 o),.p (.int .i64 0),.p (.str []),.sl (k+1) 4 0 1])) (rdO b q::rest):=λo e1 q rest k hk h1 h3 h4=>
  ⟨⟨o,0,[],[e1]⟩,q,rest,_,rfl,rfl,top [e1] _ k hk (by simp),by simp[Ex.sz,aJ];omega,h3,h4⟩
 by_cases hd0:d=0
 ·subst hd0
  simp-implicitDefEqProofs[eB]
  refine(leaf p _ (by omega) (by omega)).mono ?_
  rintro r h ⟨v,q,rfl,rfl,⟨o,n,s,rfl,he⟩,h1,h2⟩
  simp-implicitDefEqProofs[aa]
  exact leafCase o n s q _ he (by omega) (by omega)
 have hd2:¬(d:Int)+1<2:=by omega
 simp-implicitDefEqProofs[eB,hd2]
 refine(bf G b hb hl p (by omega) 4 _).mono ?_
 rintro r h ⟨k1,rfl,rfl,_⟩
 simp-implicitDefEqProofs[aa]
 refine aO (λhc=>?_) (λhc=>?_)
 ·simp-implicitDefEqProofs[]
  refine(leaf (p+1) _ (by omega) (by omega)).mono ?_
  rintro r h ⟨v,q,rfl,rfl,⟨o,n,s,rfl,he⟩,h1,h2⟩
  simp-implicitDefEqProofs[aa]
  exact leafCase o n s q _ he (by omega) (by omega)
 simp-implicitDefEqProofs[]
 refine(bf G b hb hl (p+1) (by omega) 7 _).mono ?_
 rintro r h ⟨k2,rfl,rfl,_⟩
 simp-implicitDefEqProofs[aa]
 refine aO (λhc=>?_) (λhc=>?_)
 ·simp-implicitDefEqProofs[]
  refine(mO G hb hl (p:=p+2) (by omega) [11,12,11] (k:=2) (by simp) (by simp) (by omega) rfl rfl).mono ?_
  rintro r h ⟨n,_,rfl,rfl⟩
  simp-implicitDefEqProofs[aa,hw]
  refine(sub (p+3) _ (by omega) (by omega)).mono ?_
  rintro r h ⟨v,q,rfl,rfl,⟨e,rfl,he⟩,h1,h2⟩
  have hec:=e.cs_eq
  simp-implicitDefEqProofs[aa,hec]
  exact una n e q _ 2 (by rw[hec];rfl) he (by omega) (by omega)
 ·simp-implicitDefEqProofs[]
  refine(mO G hb hl (p:=p+2) (by omega) [3,3,4,5,6,7,8,9,10] (k:=2) (by simp) (by simp) (by omega) rfl rfl).mono ?_
  rintro r h ⟨n,_,rfl,rfl⟩
  simp-implicitDefEqProofs[aa,hw]
  refine(sub (p+3) _ (by omega) (by omega)).mono ?_
  rintro r h ⟨v,q,rfl,rfl,⟨e,rfl,he⟩,h1,h2⟩
  have hec:=e.cs_eq
  simp-implicitDefEqProofs[aa,hec,hw]
  refine(sub q _ (by omega) (by omega)).mono ?_
  rintro r h ⟨v,q2,rfl,rfl,⟨e2,rfl,he2⟩,h3,h4⟩
  have hec2:=e2.cs_eq
  simp-implicitDefEqProofs[aa,hec2]
  exact bin n e e2 q2 _ 2 (by rw[hec,hec2];rfl) he he2 (by omega) (by omega)
end
section
variable (G:aL)
theorem Uz{h:List AO}{kids:List Ex}{id:Nat}(he:h[id+1]?=some (bY 4 (exR kids))):Qu h kids (slE (id+1) 4 (exR kids)):=by
 by_cases hk:kids=[]
 ·subst hk;exact .inl ⟨rfl,rfl⟩
 ·have hr:exR kids≠[]:=λh=>hk (List.map_eq_nil_iff.1 h)
  rw[fC hr] at he
  rw[dL hr]
  have hrl:(exR kids).length=kids.length:=by simp[exR]
  rw[hrl]
  exact .inr ⟨id,exR kids,List.replicate h.length .dead,rfl,hk,he,by simp,λi o e l=>(by rw[List.getElem?_replicate] at e;split at e<;>cases e;exact l.elim),λ⟨o,e,l⟩=>(by rw[List.getElem?_replicate] at e;split at e<;>cases e;exact l.elim),λ⟨o,e,l⟩=>(by rw[List.getElem?_replicate] at e;split at e<;>cases e;exact l.elim),by simp[exR],λj e e1 h1 h2=>(by rw[h1] at h2;cases h2;exact il (aT (Xr _) _ (eA _ e (WW h1))))⟩
theorem SJ(l:List Ex)(n:Nat):okO n (bY 4 (exR l)):=cJ (Mx (eA l))
theorem NT{hF:List AO}{n id:Nat}{e:Ex}(he:hF[id]?=some (bY 4 (exR e.kids))):Fzs hF n [.p (.int .i64 e.op),.p (.int .i64 e.n),.p (.str e.name),slE id 4 (exR e.kids)] (e.cs.map .p):=by
 rw[e.cs_eq]
 exact .keep (by simp) (.keep (by simp) (.keep (by simp) (.one (iU he) .nil)))
structure KdS where (k:Nat) (es:List Ex) (q:Nat)
theorem Eu{b:List Int}(hb:Byt b)(hl:b.length<=2000){d:Nat}(hd:d+1<=7){p:Nat}(hp:p+20000<=1000000000000):AC Tryz.prog G iw [.ptr 0 2 0 0,.p (.int .i64 ((d+1:Nat):Int))] [rdO b p] (EN b (EoQ p 30000 20000)):=by
 refine Hd G (AC.go EL ?_)
 have h3:3^(d+1)<=2187:=by
  have:3^(d+1)<=3^7:=Nat.pow_le_pow_right (by omega) hd
  omega
 have fin:∀(e:Ex) (q:Nat) (rest:List AO) (K:AV),Qu (rdO b q::rest) e.kids K->e.sz<=30000->p<=q->q<=p+20000->DT b (EoQ p 30000 20000) (.ret (.agg [.p (.int .i64 e.op),.p (.int .i64 e.n),.p (.str e.name),K])) (rdO b q::rest):=λe q rest K hk h1 h2 h3=>
  ⟨e,q,rest,K,rfl,rfl,hk,h1,h2,h3⟩
 have hn4:vG [[97],[98],[120],[103,111]]:=⟨by simp,by simp⟩
 have hn2:vG [[97],[98]]:=⟨by simp,by simp⟩
 simp-implicitDefEqProofs[uy]
 refine(AC.give (hX:=[.dead,.dead,cb [[97],[98],[120],[103,111]]]) (hR:=[rdO b p,.row 4 [[.p (.int .i64 0),.p (.int .i64 0),.p (.str []),.nils]],.dead]) (pargs:=[.ptr 0 2 0 0,.p (aN [[97],[98],[120],[103,111]]),.p (.int .i64 ((d+1:Nat):Int))]) (.keep _ (.keep _ (.give _ .nil))) (.keep (by simp[below]) (.one (eC (l:=[[97],[98],[120],[103,111]]) rfl) (.keep (by simp) .nil))) (Aj G (KL G hb hl _ hn4 d (by omega) (by omega)) _ (by simp[below]))).mono ?_
 rintro r h ⟨e0,q,rfl,rfl,he0,h1,h2⟩
 simp-implicitDefEqProofs[aa]
 refine(bf G b hb hl q (by omega) 3 _).mono ?_
 rintro r h ⟨k1,rfl,rfl,_⟩
 simp-implicitDefEqProofs[aa]
 refine aO (λhc=>?_) (λhc=>?_)
 ·simp-implicitDefEqProofs[]
  exact fin e0 _ _ _ (Uz rfl) (by omega) (by omega) (by omega)
 simp-implicitDefEqProofs[]
 refine(Ht G hb hl (p:=q+1) (by omega) [[102],[103],[97]] (k:=5) (by simp) (by simp) (by omega) rfl rfl).mono ?_
 rintro r h ⟨s,hs,rfl,rfl⟩
 have hsl:s.length<=8:=by simp at hs;rcases hs with rfl|rfl|rfl<;>simp
 simp-implicitDefEqProofs[aa]
 refine(bf G b hb hl (q+1+1) (by omega) 4 _).mono ?_
 rintro r h ⟨k2,rfl,rfl,hk2⟩
 simp-implicitDefEqProofs[aa]
 have hexn:∀(es:List Ex) (e:Ex),exR (es++[e])=exR es++[e.cs.map .p]:=λes e=>by simp[exR]
 refine aM (λs:KdS=>aC 42 [(7,.p (.int .i64 s.k)),(6,.ptr 6 4 0 0),(5,.ptr 4 4 0 0),(4,.ptr 1 4 0 0),(0,.ptr 0 2 0 0)])
  (λa=>[rdO b a.q,.row 4 [[.p (.int .i64 0),.p (.int .i64 0),.p (.str []),.nils]],.dead,bY 4 (exR e0.kids),.row 4 [[.p (.int .i64 e0.op),.p (.int .i64 e0.n),.p (.str e0.name),slE 3 4 (exR e0.kids)]],.row 1 [[.p (.str [102])],[.p (.str [103])],[.p (.str [97])]],
    .row 4 [[.p (.int .i64 13),.p (.int .i64 0),.p (.str s),slE 7 4 (exR a.es)]],bY 4 (exR a.es)])
  (λa=>a.k+a.es.length<=3/\aJ a.es<=90*a.es.length/\q<=a.q/\a.q<=q+3+54*a.es.length) (λa=>a.k) ⟨k2,[],q+1+1+1⟩ ⟨by simp only[XA];omega,by simp[aJ],by simp only;omega,by simp⟩
  (pV (by simp) (by simp) (by
    intro o h
    simp only[WN,XC,or_false] at h
    rcases h with rfl|rfl|rfl|rfl|rfl|rfl|rfl
    ·exact bv _ _ _
    ·simp[okO,below]
    ·simp[okO]
    ·exact SJ _ _
    ·simp[okO,below]
    ·simp[okO,below]
    ·simp[okO,below]) (by simp[below])) ?_
 rintro⟨k,es,q1⟩ ⟨i1,i2,i3,i4⟩
 simp only at i1 i2 i3 i4
 have hxl:(exR es).length=es.length:=by simp[exR]
 simp-implicitDefEqProofs[]
 refine aO (λhc=>?_) (λhc=>?_)
 ·simp at hc
  simp-implicitDefEqProofs[]
  have hE:=ku G (Ci G hb hl _ hn2 2 (by omega) (p:=q1) (by omega)) ([.row 4 [[.p (.int .i64 0),.p (.int .i64 0),.p (.str []),.nils]],.dead,bY 4 (exR e0.kids),.row 4 [[.p (.int .i64 e0.op),.p (.int .i64 e0.n),.p (.str e0.name),slE 3 4 (exR e0.kids)]],.row 1 [[.p (.str [102])],[.p (.str [103])],[.p (.str [97])]],
   .row 4 [[.p (.int .i64 13),.p (.int .i64 0),.p (.str s),slE 7 4 (exR es)]],bY 4 (exR es)]) (by simp[below])
  refine hE.mono ?_
  rintro r h ⟨v,q2,rfl,rfl,⟨e,rfl,he⟩,hq1,hq2⟩
  have hec':=e.cs_eq
  simp-implicitDefEqProofs[aa,hec']
  refine⟨by rw[hxl];omega,⟨k-1,es++[e],q2⟩,⟨by simp;omega,by rw[aZ];simp[aJ];omega,by simp only;omega,by simp;omega⟩,by simp;omega,?_⟩
  have hwk:IntKind.i64.wrap ((k:Int)-1)=((k-1:Nat):Int):=by rw[ab (by omega) (by omega)];omega
  rw[hexn,ED _ (by simp),Cl _ (by simp),hec']
  refine dp [0,1,2,3,4,5,6,8] (by simp) (by decide) (by decide) (bQ rfl (bv _ _ _) (db (by simp[below]) (by simp[ren,br]) (bX (by simp) (Po rfl (eA _) (db (by simp[below]) (by simp[ren,br]) (bq rfl (by simp[below]) (db (by simp[below]) (by simp[ren,br]) (bq rfl (λx hx=>by
   rcases WO.1 hx with h|h
   ·exact eA _ x h
   ·rw[WR.1 h];simp) bJ)))))))) ?_
  simp[below,ren,hwk]
 ·simp at hc
  simp-implicitDefEqProofs[]
  refine(bf G b hb hl q1 (by omega) 2 _).mono ?_
  rintro r h ⟨k3,rfl,rfl,_⟩
  simp-implicitDefEqProofs[aa]
  refine aO (λhc2=>?_) (λhc2=>?_)
  ·simp-implicitDefEqProofs[]
   exact fin ⟨13,0,s,es⟩ (q1+1) _ _ (Uz rfl) (by simp[Ex.sz];omega) (by omega) (by omega)
  ·simp-implicitDefEqProofs[]
   have hv:∀hF:List AO,hF[3]?=some (bY 4 (exR e0.kids))->hF[7]?=some (bY 4 (exR es))->∀(n j:Nat) (x x1:List AV),[[AV.p (.int .i64 e0.op),.p (.int .i64 e0.n),.p (.str e0.name),slE 3 4 (exR e0.kids)],[.p (.int .i64 13),.p (.int .i64 0),.p (.str s),slE 7 4 (exR es)]][j]?=some x->(exR [e0,⟨13,0,s,es⟩])[j]?=some x1->Fzs hF n x x1:=by
    intro hF h3 h7 n j x x1 a1 a2
    match j,a1,a2 with
    |0,a1,a2=>cases a1;cases a2;exact NT h3
    |1,a1,a2=>cases a1;cases a2;exact NT (e:=⟨13,0,s,es⟩) h7
    |j+2,a1,a2=>simp at a1
   refine fin ⟨3,0,[],[e0,⟨13,0,s,es⟩]⟩ (q1+1) _ _ (.inr ⟨7,_,[.dead,.dead,.dead,bY 4 (exR e0.kids),.dead,.dead,.dead,bY 4 (exR es),.dead],rfl,by simp[Ex.kids],rfl,rfl,λi o e l=>?_,λ⟨o,e,l⟩=>?_,λ⟨o,e,l⟩=>?_,rfl,hv _ rfl rfl _⟩) (by simp[Ex.sz,aJ];omega) (by omega) (by omega)
   ·match i,e with
    |0,e=>cases e;exact l.elim
    |1,e=>cases e;exact l.elim
    |2,e=>cases e;exact l.elim
    |3,e=>exact e
    |4,e=>cases e;exact l.elim
    |5,e=>cases e;exact l.elim
    |6,e=>cases e;exact l.elim
    |7,e=>exact e
    |8,e=>cases e;exact l.elim
    |i+9,e=>simp at e
   ·cases e;exact l
   ·cases e;exact l
theorem Nx{b:List Int}(hb:Byt b)(hl:b.length<=2000){p:Nat}(hp:p+50000<=1000000000000):AC Tryz.prog G ng [.ptr 0 2 0 0] [rdO b p] λx h=>∃v q,x= .ret v/\h=[rdO b q]/\ExQ p 60000 50000 v q:=by
 refine oG G (AC.go CN ?_)
 have fin:∀(e:Ex) (q:Nat) (rest:List AO) (v:AV),Fzs (.dead::rest) 1 [v] [.agg (e.cs.map .p)]->e.sz<=60000->p<=q->q<=p+50000->DP b (ExQ p 60000 50000) (.ret v) (rdO b q::rest):=λe q rest v hz h1 h2 h3=>
  ⟨_,rest,q,.agg (e.cs.map .p),rfl,rfl,hz,⟨e,rfl,h1⟩,h2,h3⟩
 simp-implicitDefEqProofs[sx]
 refine(Aj G (Eu G hb hl (d:=3) (by omega) (by omega)) _ (by simp[below])).mono ?_
 rintro r h ⟨e0,q,rfl,rfl,he0,h1,h2⟩
 have hsz:=e0.sz_eq
 have hkl:=bm e0.kids
 have hrl:(exR e0.kids).length=e0.kids.length:=by simp[exR]
 simp-implicitDefEqProofs[aa]
 refine(bf G b hb hl q (by omega) 20 _).mono ?_
 rintro r h ⟨k1,rfl,rfl,_⟩
 by_cases k10:k1=0
 ·subst k10
  simp-implicitDefEqProofs[aa]
  refine(mO G hb hl (p:=q+1) (by omega) [-1,256,3] (k:=4) (by simp) (by simp) (by omega) rfl rfl).mono ?_
  rintro r h ⟨n,_,rfl,rfl⟩
  simp-implicitDefEqProofs[aa]
  exact fin ⟨e0.op,n,e0.name,e0.kids⟩ _ _ _ (Dy (iU rfl)) (by simp[Ex.sz];omega) (by omega) (by omega)
 by_cases k11:k1=1
 ·subst k11
  simp-implicitDefEqProofs[aa]
  refine(Ht G hb hl (p:=q+1) (by omega) [[],[100,111],[65],[97,98,99,100,101],[113]] (k:=4) (by simp) (by simp) (by omega) rfl rfl).mono ?_
  rintro r h ⟨s,hs,rfl,rfl⟩
  have hsl:s.length<=8:=by simp at hs;rcases hs with rfl|rfl|rfl|rfl|rfl<;>simp
  simp-implicitDefEqProofs[aa]
  exact fin ⟨e0.op,e0.n,s,e0.kids⟩ _ _ _ (Dy (iU rfl)) (by simp[Ex.sz];omega) (by omega) (by omega)
 by_cases k12:k1=2
 ·subst k12
  simp-implicitDefEqProofs[aa]
  refine(mO G hb hl (p:=q+1) (by omega) [0,14,-1,5,11] (k:=4) (by simp) (by simp) (by omega) rfl rfl).mono ?_
  rintro r h ⟨n,_,rfl,rfl⟩
  simp-implicitDefEqProofs[aa]
  exact fin ⟨n,e0.n,e0.name,e0.kids⟩ _ _ _ (Dy (iU rfl)) (by simp[Ex.sz];omega) (by omega) (by omega)
 by_cases k13:k1=3
 ·subst k13
  simp-implicitDefEqProofs[aa]
  refine(AC.give (pargs:=[.ptr 0 2 0 0,.p (aN [])]) (Spl.rest _) (.keep (by simp[below]) (.one (View.nils 1) .nil)) (ku G (Bh G hb hl (p:=q+1) (by omega) [] ⟨by simp,by simp⟩) _ (by simp[below]))).mono ?_
  rintro r h ⟨v,q2,rfl,rfl,⟨e1,rfl,he1⟩,h3,h4⟩
  have hec1:=e1.cs_eq
  have hx:exR (e0.kids++[e1])=exR e0.kids++[[.p (.int .i64 e1.op),.p (.int .i64 e1.n),.p (.str e1.name),.p (exL e1.kids)]]:=by simp[exR,hec1]
  have hne:exR (e0.kids++[e1])≠[]:=by simp[exR]
  simp-implicitDefEqProofs[aa,hec1]
  refine⟨by omega,?_⟩
  rw[←hx]
  have hl2:(exR e0.kids).length+1=(exR (e0.kids++[e1])).length:=by simp[exR]
  have hv:∀h:List AO,h[4]?=some (.row 4 (exR (e0.kids++[e1])))->View h (.sl 4 4 0 ((exR e0.kids).length+1)) (exL (e0.kids++[e1])):=λh e=>by
   have:=iU (h:=h) (id:=4) (l:=e0.kids++[e1]) (by rw[fC hne];exact e)
   rwa[dL hne,←hl2] at this
  exact fin ⟨e0.op,e0.n,e0.name,e0.kids++[e1]⟩ q2 _ _ (Dy (hv _ rfl)) (by simp[Ex.sz,aZ,aJ];omega) (by omega) (by omega)
 by_cases k14:k1=4
 ·subst k14
  simp-implicitDefEqProofs[aa]
  refine(Aj G (Eu G hb hl (d:=6) (by omega) (by omega)) _ (by simp[below])).mono ?_
  rintro r h ⟨e1,q2,rfl,rfl,he1,h3,h4⟩
  simp-implicitDefEqProofs[aa]
  have hs1:=e1.sz_eq
  exact fin ⟨e1.op,e1.n,e1.name,e1.kids⟩ _ _ _ (Dy (iU rfl)) (by simp[Ex.sz];omega) (by omega) (by omega)
 have c1:¬(k1:Int)=1:=by omega
 have c2:¬(k1:Int)=2:=by omega
 have c3:¬(k1:Int)=3:=by omega
 have c4:¬(k1:Int)=4:=by omega
 simp-implicitDefEqProofs[aa,k10,c1,c2,c3,c4]
 exact fin ⟨e0.op,e0.n,e0.name,e0.kids⟩ _ _ _ (Dy (iU rfl)) (by simp[Ex.sz];omega) (by omega) (by omega)
end
end Go.Proofs.YtghpabfdmbdpfaaGreatDoor
