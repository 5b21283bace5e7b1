/-
  Contracts and lemmas that the card needs, part 8.
-/
import Derived.Test.YtghpabfdmbdpfaaGreatDoorKf7
namespace Go.Proofs.YtghpabfdmbdpfaaGreatDoor
open Go Go.Aw
set_option maxRecDepth 100000
set_option maxHeartbeats 4000000
section
theorem rG:AK.whole fD=FK.ak fK:=rfl
theorem Dd(fns:List Fd):∀(a b:List Fd) (k:Nat) (c:Int),gX fns k (a++b) c=gX fns (k+a.length) b (gX fns k a c)
 |[],b,k,c=>rfl
 |f::r,b,k,c=>by rw[Xk,gX,gX,Dd fns r];congr 1;simp only[WP];omega
theorem Hs{fns l:List Fd}{i:Nat}{c:Int}(h:i<l.length):gX fns 0 (l.take (i+1)) c=icF fns i l[i] (gX fns 0 (l.take i) c):=by
 rw[aq h,Dd,WX,Nat.min_eq_left (Nat.le_of_lt h),Xt];rfl
theorem Mc(a b:List (List UInt8))(m:Scp)(c:Int):jQ (a++b) m c=jQ b (jQ a m c).1 (jQ a m c).2:=by simp[jQ]
theorem Lh{l:List (List UInt8)}{i:Nat}{m:Scp}{c:Int}(h:i<l.length):jQ (l.take (i+1)) m c=(eQ (jQ (l.take i) m c).1 l[i] 0,if(eD (jQ (l.take i) m c).1 l[i]).isSome then fl (jQ (l.take i) m c).2 2 else(jQ (l.take i) m c).2):=by
 rw[aq h,Mc];rfl
variable (G:aK) (hK:G jg=some iA) (hS:G dX=some [.tbl opK opV])
include hK hS
theorem BK(l:List Fd)(hl:aZ l<=1073741824):VF Tryz.prog G fx [.agg [.p (fdL l)]] (.p (.int .i64 (bZ l))):=by
 have hll:=dK l
 have hfl:∀l,fdL l= .lst 3 (l.map Fd.cs):=λ_=>rfl
 rw[sR]
 refine AC.goK rO rG ?_
 simp-implicitDefEqProofs[fD,fK]
 refine(BT G hK hS l hl).use ?_
 by_cases hv:bp l=true
 case neg=>
  have hv':bp l=false:=by simpa using hv
  simp-implicitDefEqProofs[hv']
 rw[if_pos hv]
 simp-implicitDefEqProofs[hv,hfl]
 refine aN (λi:Nat=>az 73 [(1,.ptr 0 1 0 0),(3,.ptr 1 3 0 0),(18,.p (fdL l)),(19,.p (.int .i64 l.length)),(20,.p (.int .i64 i))])
  (λi=>[.row 1 [[.p (fdL l)]],cO l (i-1) (gX l 0 (l.take i) 0)]) (λi=>i<=l.length) (λi=>l.length-i) 0 (by simp) ?_ ?_
 ·refine an (h:=[.row 1 [[.p (fdL l)]],cO l 0 0]) (by simp) (by simp[okO,below,cO]) (by simp[below,hfl])
 intro i hi
 have hbo:okO 0 (.row 1 [[.p (fdL l)]]):=by simp[okO]
 simp-implicitDefEqProofs[hfl]
 refine aO (λh=>?_) (λh=>?_)
 ·simp at h
  have hg:=Wz h
  have hks:=dp (WN h)
  have eT:=Hs (fns:=l) (c:=0) h
  obtain⟨j,ej,ejl⟩:=Dh hg
  generalize l[i]=f at*
  have hcs:f.cs=[.str f.name,aL f.params,smL f.body]:=rfl
  have hfz:f.sz=1+f.name.length+(f.params.length+(f.params.map List.length).sum)+aC f.body:=rfl
  have hst:aL f.params= .lst 1 (f.params.map λw=>[.str w]):=rfl
  generalize gX l 0 (l.take i) 0=c0 at eT⊢
  simp-implicitDefEqProofs[hg,hcs,cO]
  have hic:icF l i f c0=(eX l i f.body (jQ f.params [] (if j<i then fl c0 2 else c0)).1 [] (jQ f.params [] (if j<i then fl c0 2 else c0)).2).2:=by
   rw[icF,ej];simp
  rw[hic] at eT
  clear hic
  refine pg (az 73 [(1,.ptr 0 1 0 0),(3,.ptr 1 3 0 0),(4,.p (.int .i64 i)),(5,.ptr 2 3 0 0),(18,.p (fdL l)),(19,.p (.int .i64 l.length)),(20,.p (.int .i64 i))])
   [.row 1 [[.p (fdL l)]],cO l i (if j<i then fl c0 2 else c0),.row 3 [[.p (.str f.name),.p (aL f.params),.p (smL f.body)]]] ?_ ?_
  ·simp-implicitDefEqProofs[]
   refine(Ig G l f.name (by omega)).use ?_
   rw[ej]
   by_cases hj:j<i
   ·have hj':(j:Int)<(i:Int):=by omega
    rw[if_pos hj]
    simp-implicitDefEqProofs[ixI,hj']
    refine(DX G (.row 1 [[.p (fdL l)]]) l i c0 2 [.row 3 [[.p (.str f.name),.p (aL f.params),.p (smL f.body)]]]).mono ?_
    rintro r h ⟨rfl,rfl⟩
    simp-implicitDefEqProofs[aa]
    exact an (by simp) (by simp[okO,below,cO]) (by simp[below,hfl])
   ·have hj':¬(j:Int)<(i:Int):=by omega
    rw[if_neg hj]
    simp-implicitDefEqProofs[ixI,hj']
    exact an (h:=[.row 1 [[.p (fdL l)]],cO l i c0,.row 3 [[.p (.str f.name),.p (aL f.params),.p (smL f.body)]]]) (by simp) (by simp[okO,below,cO]) (by simp[below,hfl])
  generalize (if j<i then fl c0 2 else c0)=c1 at eT⊢
  have hCH:∀(c:Int) (m:Scp),CH (.row 1 [[.p (fdL l)]]) l i c [⟨[.row 3 [[.p (.str f.name),.p (aL f.params),.p (smL f.body)]]],m⟩]=[.row 1 [[.p (fdL l)]],cO l i c,.row 3 [[.p (.str f.name),.p (aL f.params),.p (smL f.body)]],.mp (mpE m),.row 2 [[.mp 3,.nilp]]]:=λ_ _=>rfl
  simp-implicitDefEqProofs[]
  refine(nS G .nilp (.inl rfl) _).mono ?_
  rintro r h ⟨rfl,rfl⟩
  simp-implicitDefEqProofs[aa,hst]
  refine aN (λq:Nat=>az 73 [(1,.ptr 0 1 0 0),(3,.ptr 1 3 0 0),(4,.p (.int .i64 i)),(5,.ptr 2 3 0 0),(6,.ptr 4 2 0 0),(18,.p (fdL l)),(19,.p (.int .i64 l.length)),(20,.p (.int .i64 i)),(39,.p (aL f.params)),(40,.p (.int .i64 f.params.length)),(41,.p (.int .i64 q))])
   (λq=>[.row 1 [[.p (fdL l)]],cO l i (jQ (f.params.take q) [] c1).2,.row 3 [[.p (.str f.name),.p (aL f.params),.p (smL f.body)]],.mp (mpE (jQ (f.params.take q) [] c1).1),.row 2 [[.mp 3,.nilp]]])
   (λq=>q<=f.params.length) (λq=>f.params.length-q) 0 (by simp) ?_ ?_
  ·exact an (h:=[.row 1 [[.p (fdL l)]],cO l i c1,.row 3 [[.p (.str f.name),.p (aL f.params),.p (smL f.body)]],.mp [],.row 2 [[.mp 3,.nilp]]]) (by simp) (by simp[okO,below,cO]) (by simp[below,hfl,hst])
  intro q hq
  have eP:=λh=>Lh (l:=f.params) (i:=q) (m:=[]) (c:=c1) h
  generalize hP:jQ (f.params.take q) [] c1=st at eP⊢
  obtain⟨mq,cq⟩:=st
  simp only at eP⊢
  simp-implicitDefEqProofs[hst]
  refine aO (λhc=>?_) (λhc=>?_)
  ·simp at hc
   have hga:=Wz hc
   have eP:=eP hc
   generalize f.params[q]=nme at hga eP
   have hmg:=nJ nme mq
   have hms:lB (.str nme) (.p (.int .i64 0)) (mpE mq)=some (mpE (eQ mq nme 0)):=by simpa using pD nme 0 mq
   have fin:∀(r1:List (Nat × AV)) (c2:Int),Aw.look r1 1= .ptr 0 1 0 0->Aw.look r1 3= .ptr 1 3 0 0->Aw.look r1 4= .p (.int .i64 i)->Aw.look r1 5= .ptr 2 3 0 0->Aw.look r1 6= .ptr 4 2 0 0->Aw.look r1 18= .p (fdL l)->Aw.look r1 19= .p (.int .i64 l.length)->Aw.look r1 20= .p (.int .i64 i)->Aw.look r1 39= .p (aL f.params)->Aw.look r1 40= .p (.int .i64 f.params.length)->Aw.look r1 41= .p (.int .i64 ((q:Int)+1))->
    Wk 0 (az 73 r1) [.row 1 [[.p (fdL l)]],cO l i c2,.row 3 [[.p (.str f.name),.p (aL f.params),.p (smL f.body)]],.mp (mpE (eQ mq nme 0)),.row 2 [[.mp 3,.nilp]]]
     (az 73 [(1,.ptr 0 1 0 0),(3,.ptr 1 3 0 0),(4,.p (.int .i64 i)),(5,.ptr 2 3 0 0),(6,.ptr 4 2 0 0),(18,.p (fdL l)),(19,.p (.int .i64 l.length)),(20,.p (.int .i64 i)),(39,.p (aL f.params)),(40,.p (.int .i64 f.params.length)),(41,.p (.int .i64 ((q:Int)+1)))])
     [.row 1 [[.p (fdL l)]],cO l i c2,.row 3 [[.p (.str f.name),.p (aL f.params),.p (smL f.body)]],.mp (mpE (eQ mq nme 0)),.row 2 [[.mp 3,.nilp]]]:=by
    intro r1 c2 e1 e3 e4 e5 e6 e18 e19 e20 e39 e40 e41
    refine an (by simp) (aD (by simp[okO]) (aD (by simp[okO,cO]) (aD (by simp[okO]) (aD (Gk _ _) (aD (by simp[okO,below]) gu))))) ?_
    simp[below,e1,e3,e4,e5,e6,e18,e19,e20,e39,e40,e41]
   cases hh:eD mq nme with
   |none=>
    rw[hh] at hmg eP
    simp-implicitDefEqProofs[hga,hmg,hms]
    refine⟨q+1,by omega,by omega,?_⟩
    rw[eP]
    exact fin _ _ (by simp) (by simp) (by simp) (by simp) (by simp) (by simp[hfl]) (by simp) (by simp) (by simp[hst]) (by simp) (by simp[w1 (i:=q) (by omega)])
   |some n=>
    rw[hh] at hmg eP
    simp-implicitDefEqProofs[hga,hmg,hms]
    refine(DX G (.row 1 [[.p (fdL l)]]) l i cq 2 _).mono ?_
    rintro r h ⟨rfl,rfl⟩
    simp-implicitDefEqProofs[aa,hms]
    refine⟨q+1,by omega,by omega,?_⟩
    rw[eP]
    exact fin _ _ (by simp) (by simp) (by simp) (by simp) (by simp) (by simp[hfl]) (by simp) (by simp) (by simp[hst]) (by simp) (by simp[w1 (i:=q) (by omega)])
  ·simp at hc
   have hqe:q=f.params.length:=by omega
   subst hqe
   rw[WZ] at hP
   rw[hP] at eT
   simp only at eT
   have hB:=PB G (.row 1 [[.p (fdL l)]]) (fns:=l) (k:=i) (by omega) (by omega) hbo (aC f.body+1) f.body (by omega) (by omega) [.row 3 [[.p (.str f.name),.p (aL f.params),.p (smL f.body)]]] mq [] cq ⟨by simp[okO],trivial⟩
   rw[hCH] at hB
   simp-implicitDefEqProofs[]
   refine hB.mono ?_
   rintro r h ⟨rfl,rfl⟩
   simp-implicitDefEqProofs[aa]
   refine⟨i+1,by omega,by omega,?_⟩
   rw[eT]
   refine dC (m:=2) (by omega) (bW rfl rfl (by simp[okO,below,cO])) (by simp[below,hfl,w1 (i:=i) (by omega)])
 ·simp at h
  have hie:i=l.length:=by omega
  subst hie
  rw[WZ]
  simp-implicitDefEqProofs[cO]
end
section
theorem Fd.cs_eq'(f:Fd):f.cs=[.str f.name,aL f.params,smL f.body]:=rfl
variable (G:aK)
end
section
def DR(f:Fd):Nat:=f.params.length+aS f.body
def Iv(l:List Fd)(k:Int):Int:=if bZ l=0/\inR k 0 ((l.length:Int)-1)=true then(match l[k.toNat]? with|some f=>(DR f:Int)|none=> -1) else-1
def yY(st:Int)(x:Sm × Nat):Int:=if x.1.op=1 then IntKind.i64.wrap (st+1) else st
mutual
theorem PP:∀(s:Sm) (d:Nat) (st:Int),0<=st->st+tr s<=1099511627776->(s.pre d).foldl yY st=st+tr s
 | .mk o n a bd el,d,st,h0,h=>by
   rw[tr] at h
   have h1:=zL bd (d+1)
   have h2:=zL el (d+1)
   rw[Sm.pre,List.foldl_cons,XG,tr]
   by_cases ho:o=1
   ·have e:yY st (⟨o,n,a,bd,el⟩,d)=st+1:=by show(if o=1 then _ else _)=_;rw[if_pos ho,ab (by omega) (by rw[if_pos ho] at h;omega)]
    rw[if_pos ho] at h⊢
    rw[e,h1 _ (by omega) (by omega),h2 _ (by omega) (by omega)]
    omega
   ·have e:yY st (⟨o,n,a,bd,el⟩,d)=st:=by show(if o=1 then _ else _)=_;rw[if_neg ho]
    rw[if_neg ho] at h⊢
    rw[e,h1 _ (by omega) (by omega),h2 _ (by omega) (by omega)]
    omega
theorem zL:∀(l:List Sm) (d:Nat) (st:Int),0<=st->st+aS l<=1099511627776->(aY d l).foldl yY st=st+aS l
 |[],d,st,_,_=>by simp[aY,aS]
 |s::r,d,st,h0,h=>by
  rw[aS] at h
  rw[aY,XG,PP s d st h0 (by omega),zL r d _ (by omega) (by omega),aS]
  omega
end
def IL(f:Fd):Vis Int where
 I:=λst=>[.row 3 [[.p (.str f.name),.p (aL f.params),.p (smL f.body)]],.row 1 [[.p (.int .i64 st)]]]
 n:=2
 F:=eG
 caps:=[.ptr 1 1 0 0]
 len:=λ_=>rfl
 ok:=λst=>by simp[okO,below]
 capsOk:=by simp[below]
variable (G:aK)
theorem DQ(f:Fd)(st:Int)(s:Sm)(d:Nat):AC Tryz.prog G eG [.agg (s.cs.map .p),.p (.int .i64 d),.ptr 1 1 0 0] ((IL f).I st) λx h=>x= .ret (.tup [])/\h=(IL f).I (yY st (s,d)):=by
 refine(IL f).trim G (AC.go ua ?_) (by simp[below])
 have hse:=s.cs_eq
 by_cases ho:s.op=1
 ·simp-implicitDefEqProofs[ir,hse,IL,yY,ho]
 ·simp-implicitDefEqProofs[ir,hse,IL,yY,ho]
theorem BA(f:Fd)(hb:f.sz<=1073741824):VF Tryz.prog G gt [.agg (f.cs.map .p)] (.p (.int .i64 (DR f))):=by
 have hcs:=f.cs_eq'
 have hfz:f.sz=1+f.name.length+(f.params.length+(f.params.map List.length).sum)+aC f.body:=rfl
 have hl:=fZ f.body
 have hl2:=gg f.body
 have hst:aL f.params= .lst 1 (f.params.map λw=>[.str w]):=rfl
 have hI:=(IZ G (IL f) yY (λ_=>True) 1073741824 (by omega) (λst s d _ _=>⟨trivial,DQ G f st s d⟩) (aC f.body+1) f.body (by omega) (by omega) 1 (by omega) (f.params.length:Int) trivial).2
 rw[zL f.body 1 f.params.length (by omega) (by omega)] at hI
 refine AC.go zx ?_
 simp-implicitDefEqProofs[oG,hcs,hst]
 refine hI.mono ?_
 rintro r h ⟨rfl,rfl⟩
 simp-implicitDefEqProofs[aa,IL,DR]
theorem NL(l:List Fd)(hz:aZ l<=1073741824):VF Tryz.prog G mJ [.agg [.p (fdL l)]] (.p (.bool (decide (bZ l=0)))):=by
 refine AC.go CG ?_
 simp-implicitDefEqProofs[sg]
 refine(BP G l hz).use ?_
 simp-implicitDefEqProofs[]
variable (hK:G jg=some iA) (hS:G dX=some [.tbl opK opV])
include hK hS
theorem NP(l:List Fd)(hz:aZ l<=1073741824):VF Tryz.prog G mu [.agg [.p (fdL l)]] (.p (.bool (decide (bZ l=0)))):=by
 refine AC.go FR ?_
 simp-implicitDefEqProofs[zg]
 refine(BK G hK hS l hz).use ?_
 simp-implicitDefEqProofs[]
theorem Gp(l:List Fd)(hz:aZ l<=1073741824)(k:Int):VF Tryz.prog G jm [.agg [.p (fdL l)],.p (.int .i64 k)] (.p (.int .i64 (Iv l k))):=by
 refine AC.go vo ?_
 have hll:=dK l
 have hfl:fdL l= .lst 3 (l.map Fd.cs):=rfl
 have hw:IntKind.i64.wrap ((l.length:Int)-1)=(l.length:Int)-1:=ab (by omega) (by omega)
 simp-implicitDefEqProofs[nn]
 refine(NP G hK hS l hz).use ?_
 by_cases h0:bZ l=0
 case neg=>
  have:Iv l k= -1:=if_neg (λh=>h0 h.1)
  simp-implicitDefEqProofs[h0,this]
 simp-implicitDefEqProofs[h0,hfl,hw]
 refine(cb G _ _ _).use ?_
 by_cases h1:inR k 0 ((l.length:Int)-1)=true
 case neg=>
  have h1':inR k 0 ((l.length:Int)-1)=false:=by simpa using h1
  have:Iv l k= -1:=if_neg (λh=>h1 h.2)
  rw[h1',this]
  simp-implicitDefEqProofs[]
 have hk:0<=k/\k<=(l.length:Int)-1:=by simpa[inR] using h1
 obtain⟨n,rfl⟩:∃n:Nat,k=n:=⟨k.toNat,by omega⟩
 have hn:n<l.length:=by omega
 have hg:=Wz hn
 have hc:Iv l n=(DR l[n]:Int):=by rw[Iv,if_pos ⟨h0,h1⟩];simp only[Int.toNat_natCast,hg]
 have hm:=dp (WN hn)
 have hV:=BA G l[n] (by omega)
 have hcs:=l[n].cs_eq'
 rw[h1,hc]
 generalize l[n]=f at*
 rw[hcs] at hV
 simp-implicitDefEqProofs[hg,hcs]
 refine hV.use ?_
 simp-implicitDefEqProofs[]
end
section
theorem Ke:∀(a b:List (List UInt8)) (m:Scp) (i:Nat),psS (a++b) m i=psS b (psS a m i) (i+a.length)
 |[],b,m,i=>by simp[psS]
 |p::r,b,m,i=>by rw[Xk,psS,psS,Ke r];simp;congr 1;omega
theorem Fl{l:List (List UInt8)}{i:Nat}(h:i<l.length)(m:Scp):psS (l.take (i+1)) m 0=eQ (psS (l.take i) m 0) l[i] i:=by
 rw[aq h,Ke,psS,psS,WX,Nat.min_eq_left (by omega),Xt]
variable (G:aK)
theorem Mh{l:List Fd}{pr:Int}{L n:Nat}{h:List AO}(hg:h[L]?=some (.row 5 [[.p (fdL l),.p (.int .i64 pr),.p (.int .i64 n),.nils,.p (.int .i64 0)]])):
 AC Tryz.prog G be [.ptr L 5 0 0,.p (.int .i64 1)] h λr h'=>r= .ret (.p (.int .i64 0))/\h'=(h++[AO.row 5 [[.nils,.nils,.p (.int .i64 0),.p (.int .i64 0),.nils]]]).set L (lwO l pr ⟨n,[bk0],0⟩ (.sl h.length 5 0 1)):=by
 have hLl:=(Wy.1 hg).1
 have hgt:∀t,(h++t)[L]?=some (.row 5 [[.p (fdL l),.p (.int .i64 pr),.p (.int .i64 n),.nils,.p (.int .i64 0)]]):=λt=>by rw[Wx hLl];exact hg
 refine AC.go jV ?_
 simp-implicitDefEqProofs[eS,hg,hgt,lwO]
theorem Lz(l:List Fd)(hl:l.length<=1073741824)(f:Fd)(hz:f.sz<=16777216)(hf:∀x∈f.body,aJ 4 x=true):AC Tryz.prog G gZ [.agg [.p (fdL l)],.agg (f.cs.map .p)] [] (MkW .agg false (lwF l 0 f).cs):=by
 have hfc:=f.cs_eq'
 have hfz:f.sz=1+f.name.length+(f.params.length+(f.params.map List.length).sum)+aC f.body:=rfl
 have hst:aL f.params= .lst 1 (f.params.map λw=>[.str w]):=rfl
 have hvn:DR f=f.params.length+aS f.body:=rfl
 have hlet:=Xs (fZ f.body) (gg f.body)
 have hvI:(DR f:Int)=((f.params.length+aS f.body:Nat):Int):=rfl
 refine AC.go BC ?_
 simp-implicitDefEqProofs[pk,hfc,hst]
 have hvc:=BA G f (by omega)
 rw[hfc,hst] at hvc
 refine hvc.use ?_
 simp-implicitDefEqProofs[]
 refine(nS G .nilp (.inl rfl) _).mono ?_
 rintro r h ⟨rfl,rfl⟩
 simp-implicitDefEqProofs[aa]
 refine aN (λi:Nat=>az 65 [(3,.ptr 1 3 0 0),(4,.ptr 2 3 0 0),(5,.ptr 3 5 0 0),(6,.ptr 5 2 0 0),(27,.p (aL f.params)),(28,.p (.int .i64 f.params.length)),(29,.p (.int .i64 i))])
  (λi=>[.row 1 [[.p (fdL l)]],.row 3 [[.p (.str f.name),.p (aL f.params),.p (smL f.body)]],.row 3 [[.p (.int .i64 0),.p (.int .i64 0),.nils]],.row 5 [[.p (fdL l),.p (.int .i64 f.params.length),.p (.int .i64 (DR f)),.nils,.p (.int .i64 0)]],.mp (mpE (psS (f.params.take i) [] 0)),.row 2 [[.mp 4,.nilp]]]) (λi=>i<=f.params.length) (λi=>f.params.length-i) 0 (by simp) ?_ ?_
 ·have e0:mpE (psS (f.params.take 0) [] 0)=[]:=rfl
  rw[e0,hst]
  exact am (by simp) (by simp[below])
 intro i hi
 simp-implicitDefEqProofs[hst]
 refine aO (λhc=>?_) (λhc=>?_)
 ·simp at hc
  have hg:=Wz hc
  have hps:=Fl hc []
  have hms:=pD f.params[i] i (psS (f.params.take i) [] 0)
  simp-implicitDefEqProofs[hg,hms]
  refine⟨i+1,by omega,by omega,?_⟩
  rw[hps]
  exact am (by simp) (by simp[below,hst,w1 (i:=i) (by omega)])
 ·simp at hc
  have hie:i=f.params.length:=by omega
  subst hie
  rw[WZ]
  obtain⟨m,hm⟩:∃m,m=psS f.params [] 0:=⟨_,rfl⟩
  rw[←hm]
  simp-implicitDefEqProofs[]
  have hn0:=Mh G (l:=l) (pr:=f.params.length) (L:=3) (n:=f.params.length+aS f.body) (h:=[.row 1 [[.p (fdL l)]],.row 3 [[.p (.str f.name),.p (aL f.params),.p (smL f.body)]],.row 3 [[.p (.int .i64 0),.p (.int .i64 0),.nils]],.row 5 [[.p (fdL l),.p (.int .i64 f.params.length),.p (.int .i64 (DR f)),.nils,.p (.int .i64 0)]],.mp (mpE m),.row 2 [[.mp 4,.nilp]]]) rfl
  rw[hst] at hn0
  refine hn0.mono ?_
  rintro x X1 ⟨rfl,rfl⟩
  obtain⟨w0,hw0⟩:∃w0:Lw,w0=⟨f.params.length+aS f.body,[bk0],0⟩:=⟨_,rfl⟩
  rw[←hw0]
  simp-implicitDefEqProofs[aa,lwO]
  obtain⟨H0,hH0⟩:∃H0,H0=[AO.row 1 [[.p (fdL l)]],.row 3 [[.p (.str f.name),.p (.lst 1 (f.params.map λw=>[.str w])),.p (smL f.body)]],.row 3 [[.p (.int .i64 0),.p (.int .i64 0),.nils]],.row 5 [[.p (fdL l),.p (.int .i64 f.params.length),.p (.int .i64 w0.regs),.sl 6 5 0 1,.p (.int .i64 w0.pos)]],.mp (mpE m),.row 2 [[.mp 4,.nilp]],.row 5 [[.nils,.nils,.p (.int .i64 0),.p (.int .i64 0),.nils]],.row 1 [[.p (.int .i64 f.params.length)]]]:=⟨_,rfl⟩
  rw[←hH0]
  have hls:LS (lwO l f.params.length) 3 w0 H0 (.sl 6 5 0 1) [6]:=by
   have hr:RowOwn false H0 6 5 [[.nils,.nils,.p (.int .i64 0),.p (.int .i64 0),.nils]] [bk0.cs] []:=⟨by rw[hH0];rfl,rfl,by simp,by simp[Bk.cs],.nils 2 (.nils 4 (.p _ (λ_=>rfl) (.p _ (λ_=>rfl) (.nils 1 .nil)))),by simp⟩
   refine⟨by rw[hH0];rfl,?_,by simp,λq e=>(by cases e),λkid n rows eK hg r hr'=>?_⟩
   ·rw[hw0];exact hr.tree rfl
   ·cases eK
    rw[hr.here] at hg
    cases hg
    rw[WG.1 hr']
    intro q;simp
  have hok:w0.Ok (f.sz+1):=by
   rw[hw0]
   exact⟨by show f.params.length+aS f.body<=_;omega,by show 1<=_;omega,λb hb=>by rw[WG.1 hb];show 0<=_;omega,by show 0<1;omega⟩
  have hblk:=Mz G l hl f.params.length 3 4 f.body hf w0 H0 (.sl 6 5 0 1) [6] (f.sz+1) [] 5 4 m [] 7 f.params.length hls hok (by omega) (by omega) (.cons _ _ _ _ _ _ (by rw[hH0];rfl) (by rw[hH0];rfl) .nil) (by simp) (by rw[hH0];rfl) (by simp) (by simp)
  have okb:=dx (faI l) 0 f.body m [] f.params.length w0 _ hok
  obtain⟨y,hy⟩:∃y,y=aW (faI l) 0 f.body m [] f.params.length w0:=⟨_,rfl⟩
  rw[←hy] at hblk okb
  refine hblk.mono ?_
  rintro x X2 ⟨rfl,K2,I2,a1,a2,a3,_,_⟩
  have hH8:H0.length=8:=by rw[hH0];rfl
  have T2:Stb (lwO l f.params.length) 3 [3,7,4,6] [6] [2] H0 y.2.2 X2 K2 I2:=⟨a1,a2,by simp,by simp,a3,λi hi=>by
   rw[WG.1 hi]
   have h1:=a2.1
   refine⟨by omega,?_⟩
   simp only[WC,not_or]
   refine⟨by omega,λhm=>?_⟩
   rcases a3 2 hm with h|h
   ·simp at h
   ·omega⟩
  have b2:X2[2]?=some (.row 3 [[.p (.int .i64 0),.p (.int .i64 0),.nils]]):=by rw[a2.2 2 (by omega) (by simp),hH0];rfl
  have l2:=T2.ls.here
  simp only[lwO] at l2
  simp-implicitDefEqProofs[aa,l2]
  refine(uE G T2.ls okb.1 (by omega) 1 0 [] (A:= .nils) (J:=[]) (.nils 1 .nil) List.nodup_nil (λj hj=>by cases hj)).mono ?_
  rintro x X3 ⟨rfl,hlr⟩
  obtain⟨K3,I3,T3,e3⟩:=T2.step (J:=[]) (λj hj=>by cases hj) hlr
  have ok3:=okb.1.mk' 1 0 []
  have b3:=(e3 2 (by simp)).trans b2
  have l3:=T3.ls.here
  simp only[lwO] at l3
  have hp3:(y.2.2.mk' 1 0 []).pos=y.2.2.pos:=rfl
  simp-implicitDefEqProofs[aa,l3,hp3]
  refine(mN G T3.ls ok3 3 y.2.2.regs y.2.2.pos [] (V:= .nils) (J:=[]) (.nils 1 .nil) List.nodup_nil (λj hj=>by cases hj)).mono ?_
  rintro x X4 ⟨rfl,hlr⟩
  obtain⟨K4,I4,T4,e4⟩:=T3.step (J:=[]) (λj hj=>by cases hj) hlr
  have b4:=(e4 2 (by simp)).trans b3
  have l4:=T4.ls.here
  simp only[lwO] at l4
  obtain⟨k1,k2⟩:=gC T4.ls.own
  have hs2:∀o,(X4.set 2 o)[2]?=some o:=λo=>WH (T4.ap 2 (by simp)).1
  simp-implicitDefEqProofs[-AV.cells,-AV.isCell,aI,af,ag,au,ah,aH,ae,aw,aj,k1,k2,aa,l4,b4, ↓hs2]
  have hres:lwF l 0 f=⟨f.params.length,(y.2.2.mk' 1 0 []).regs,((y.2.2.mk' 1 0 []).fin 3 y.2.2.regs y.2.2.pos []).bs⟩:=by
   rw[lwF,←hm,←hw0,←hy];rfl
  rw[hres]
  refine⟨_,I4,rfl,.p _ (λ_=>rfl) (.p _ (λ_=>rfl) (T4.ls.own.frame λi hi=>WB λe=>(T4.ap 2 (by simp)).2 (by rw[e];exact WV _ hi))),(WW.1 T4.ls.nd).2⟩
end
section
def eO{σ α β:Type}(g:σ->α->β × σ):σ->List α->List β × σ
 |st,[]=>([],st)
 |st,x::r=>((g st x).1::(eO g (g st x).2 r).1,(eO g (g st x).2 r).2)
theorem Fi{σ α β:Type}(g:σ->α->β × σ):∀(a b:List α) (st:σ),eO g st (a++b)=((eO g st a).1++(eO g (eO g st a).2 b).1,(eO g (eO g st a).2 b).2)
 |[],b,st=>rfl
 |x::r,b,st=>by rw[Xk,eO,Fi g r];rfl
theorem Lp{σ α β:Type}{g:σ->α->β × σ}{l:List α}{st:σ}{i:Nat}(h:i<l.length):eO g st (l.take (i+1))=((eO g st (l.take i)).1++[(g (eO g st (l.take i)).2 l[i]).1],(g (eO g st (l.take i)).2 l[i]).2):=by
 rw[aq h,Fi];rfl
theorem GD{σ α β:Type}(g:σ->α->β × σ):∀(l:List α) (st:σ),(eO g st l).1.length=l.length
 |[],st=>rfl
 |x::r,st=>by rw[eO,WP,WP,GD g r]
theorem Fh{σ α β:Type}{g:σ->α->β × σ}{inv:Nat->σ->Prop}:∀{l:List α} {st:σ} {k:Nat},inv k st->(∀(i:Nat) st (h:i<l.length),inv (k+i) st->inv (k+i+1) (g st l[i]).2)->∀i,i<=l.length->inv (k+i) (eO g st (l.take i)).2
 |[],st,k,h0,_,i,hi=>by
  have:i=0:=by simpa using hi
  subst this;exact h0
 |x::r,st,k,h0,hs,0,_=>h0
 |x::r,st,k,h0,hs,i+1,hi=>by
  have h1:=hs 0 st (by simp) h0
  have:=Fh (g:=g) (l:=r) (st:=(g st x).2) (k:=k+1) h1 (λj st hj hv=>by
   have:=hs (j+1) st (by simp;omega) (by rw[show k+(j+1)=k+1+j by omega];exact hv)
   rw[show k+(j+1)+1=k+1+j+1 by omega] at this
   exact this) i (by simpa using hi)
  rw[List.take_succ_cons,eO,show k+(i+1)=k+1+i by omega]
  exact this
theorem RA{n k:Nat}{A:List AO}{π:List Nat}{h r1:List AO}(hl:A.length=n)(ha:∀o∈A,okO n o)(hh:∀i,i<n->h[i]?=A[i]?)(ρ:List Nat)(hρ:∀i,i<n->ρ.getD i 0=i)(hρn:n<=ρ.length)(hk:k=n)(hr:HW ρ h π r1):HW ρ h (List.range' 0 k++π) (A++r1):=by
 subst hk
 have key:∀(B:List AO) (s:Nat),(∀i:Nat,B[i]?=h[s+i]?\/B.length<=i)->s+B.length=k->(∀o∈B,okO k o)->HW ρ h (List.range' s B.length++π) (B++r1):=by
  intro B
  induction B with
  |nil=>intro s _ _ _;exact hr
  |cons o r ih=>
   intro s hb hs ho
   rw[WP,List.range'_succ]
   have h0:h[s]?=some o:=by
    rcases hb 0 with h0|h0
    ·simpa using h0.symm
    ·simp at h0
   have hok:=ho o (by simp)
   have ih:=ih (s+1) (λi=>by
    rcases hb (i+1) with h1|h1
    ·rw[WQ] at h1;left;rw[h1];congr 1;omega
    ·right;simpa using h1) (by simp at hs;omega) (λo ho'=>ho o (by simp[ho']))
   have hsl:=(Wy.1 h0).1
   cases o with
   |dead=>exact dq hsl ih
   |row sz es=>
    refine cW (λx hx=>aR hρn _ (hok x hx)) ?_ ih
    rw[h0,Xa (g:=id) λx hx=>lD hρ x (hok x hx)];simp
   |mp es=>exact⟨hsl,⟨λx hx=>by exact(aR hρn [x.2] ⟨hok x hx,trivial⟩).1,by rw[h0,Xa (g:=id) λx hx=>by rw[kP hρ x.2 (hok x hx)];rfl];simp⟩,ih⟩
   |sit s p=>exact⟨hsl,h0,ih⟩
 have:=key A 0 (λi=>by
  rcases Xn i A.length with hi|hi
  ·left;rw[Xt];exact(hh i (by omega)).symm
  ·right;exact hi) (by omega) ha
 rwa[hl] at this
theorem Ry{kk q n m d sz c:Nat}{A mid s:List AO}{es:List (List AV)}{l l1:List (Nat × AV)}(hl:A.length=n)(hm:mid.length=m)(hk:kk<=n)(ha:∀o∈A,okO n o)(he:∀x∈es,ay 0 x)(H:FgA n l l1)(hd:Aw.look l d= .sl (n+m) sz 0 c):
 Wk kk (az q l) (A++(mid++ .row sz es::s)) (az q ((d,.sl n sz 0 c)::l1)) (A++[.row sz es]):=by
 have hρ:∀i,i<n->(List.range' 0 n++[n+m]).getD i 0=i:=λi hi=>by
  rw[WO,Wx (by simp;exact hi)];simp[hi]
 have hρn:(List.range' 0 n++[n+m]).getD n 0=n+m:=by
  rw[WO,WD (by simp)];simp
 refine dW (List.range' 0 n++[n+m]) (by simp;omega) (λi hi=>hρ i (by omega)) ?_ ?_ ?_
 ·refine Xx.2 ⟨List.nodup_range',by simp,λa ha b hb e=>?_⟩
  rw[WG] at hb
  have:=(List.mem_range'_1.1 ha).2
  omega
 ·refine RA hl ha (λi hi=>by rw[Wx (by omega)]) _ hρ (by simp) rfl ?_
  refine bv ?_ he cg
  rw[WD (by omega),hl,XB,WD (by omega),hm,Nat.sub_self];rfl
 ·refine⟨⟨by simp only[below];simp,by simp only[ren,hρn];exact hd.symm⟩,?_⟩
  clear hd
  induction l1 with
  |nil=>trivial
  |cons x r ih=>
   obtain⟨⟨a,c⟩,e⟩:=H
   exact⟨⟨(aR (by simp) [x.2] ⟨a,trivial⟩).1,by rw[kP hρ _ a,c]⟩,ih e⟩
theorem JK{hF:List AO}{n:Nat}:∀{A r:List AO},(∀o∈A,okO n o)->FzO hF n (A++r) A
 |[],r,_=> .nil r
 |o::a,r,h=> .same (h o (by simp)) (JK λo ho=>h o (by simp[ho]))
theorem PD{n:Nat}{A r:List AO}{o:AO}(hl:A.length=n):(mC n (A++o::r))[n]?=some o:=by
 unfold mC
 rw[WD (by simp),List.length_replicate,Nat.sub_self,←hl,List.drop_left']
 ·rfl
 ·rfl
variable (G:aK)
end
section
def jh(l:List Cd):List (List AV):=l.map λc=>c.cs.map .p
theorem Ks(l:List Cd):∀x∈jh l,ay 0 x:=λx hx=>by
 obtain⟨c,_,rfl⟩:=Xb.1 hx
 simp[Cd.cs,ay,below]
theorem Cd.cs_eq'(c:Cd):c.cs=[.int .i64 c.params,.int .i64 c.regs,bkL c.blocks]:=rfl
variable (G:aK)
theorem KG{σ:Type}(V:Vis σ)(g:σ->Fd->Cd × σ)(inv:Nat->σ->Prop)(l:List Fd)(hb:l.length<=1073741824)(hn:0<V.n)
 (hv:∀(i:Nat) st (h:i<l.length),inv i st->inv (i+1) (g st l[i]).2/\AC Tryz.prog G V.F (.agg (l[i].cs.map .p)::V.caps) (V.I st) λx h'=>x= .ret (.agg ((g st l[i]).1.cs.map .p))/\h'=V.I (g st l[i]).2)(st:σ)(h0:inv 0 st):
 AC Tryz.prog G cm [.p (fdL l),.fn (.func V.F) V.caps] (V.I st) λx h=>x= .ret (.p (cdL (eO g st l).1))/\h=V.I (eO g st l).2:=by
 have hxl:∀l,fdL l= .lst 3 (l.map Fd.cs):=λ_=>rfl
 have hlen:=V.len
 have hcb:=V.capsOk
 have hinv:∀i,i<=l.length->inv i (eO g st (l.take i)).2:=λi hi=>by
  have:=Fh (g:=g) (inv:=inv) (l:=l) (st:=st) (k:=0) h0 (λi st h hi=>by
   rw[Xt] at hi⊢;exact(hv i st h hi).1) i hi
  rwa[Xt] at this
 have hRp:∀l:List Cd,∀x∈jh l,ay 0 x:=Ks
 have hRl:∀l:List Cd,(jh l).length=l.length:=λl=>by simp[jh]
 have hRa:∀(l:List Cd) (y:Cd),jh (l++[y])=jh l++[y.cs.map .p]:=λl y=>by simp[jh]
 have key:AC Tryz.prog G cm [.p (fdL l),.fn (.func V.F) V.caps] (V.I st) λx h=>x= .ret (slE V.n 3 (jh (eO g st l).1))/\h=V.I (eO g st l).2++[bR 3 (jh (eO g st l).1)]:=by
  refine AC.go nk ?_
  simp-implicitDefEqProofs[gQ,hxl]
  refine aN (λi:Nat=>az 22 [(5,slE V.n 3 (jh (eO g st (l.take i)).1)),(0,.p (fdL l)),(1,.fn (.func V.F) V.caps),(8,.p (fdL l)),(9,.p (.int .i64 l.length)),(10,.p (.int .i64 i))])
   (λi=>V.I (eO g st (l.take i)).2++[bR 3 (jh (eO g st (l.take i)).1)]) (λi=>i<=l.length) (λi=>l.length-i) 0 (by simp) ?_ ?_
  ·have e:bR 3 (jh (eO g st (l.take 0)).1)= .dead:=rfl
   rw[e]
   exact pK (by rw[hlen];exact WK _) (by rw[hlen];exact hn) (by rw[hlen];exact V.ok st) (by simp[below,hxl,hcb,hlen,eO,jh,zJ])
  intro i hi
  have hT:=λh=>Lp (g:=g) (l:=l) (st:=st) (i:=i) h
  have hi2:=hinv i hi
  have hml:=GD g (l.take i) st
  rw[WX,Nat.min_eq_left hi] at hml
  generalize hcur:eO g st (l.take i)=cur at hT hi2 hml⊢
  obtain⟨out,s⟩:=cur
  simp only at hT hi2 hml⊢
  simp-implicitDefEqProofs[hxl]
  refine aO (λhc=>?_) (λhc=>?_)
  ·simp at hc
   have hg:=Wz hc
   have hT:=hT hc
   obtain⟨_,hA⟩:=hv i s hc hi2
   generalize l[i]=x at hg hT hA
   have hkc:=x.cs_eq'
   have hyc:=(g s x).1.cs_eq'
   rw[hkc] at hA
   simp-implicitDefEqProofs[hg,hkc,hlen]
   refine(V.pre G hA _ ⟨by simp[below],hcb⟩).mono ?_
   rintro r h ⟨rfl,rfl⟩
   rw[hyc]
   simp-implicitDefEqProofs[aa,hlen]
   have hol:=hRl out
   refine⟨⟨by omega,by omega⟩,i+1,hc,by omega,?_⟩
   rw[hT]
   simp only[hRa]
   rw[EA _ (by simp),AU _ (by simp),hyc]
   refine Ry (mid:=[_,_,_]) (s:=[]) (hlen _) rfl (WK _) (V.ok _) ?_ ?_ ?_
   ·intro x hx
    rcases WE.1 hx with h|h
    ·exact hRp _ x h
    ·rw[WG.1 h];simp
   ·simp[below,hxl,hcb,w1 (i:=i) (by omega)]
   ·simp
  ·simp at hc
   have hie:i=l.length:=by omega
   subst hie
   rw[WZ] at hcur
   rw[hcur]
   simp-implicitDefEqProofs[]
 refine key.frz V.n (by rw[hlen];exact WK _) (λt v h ⟨e,_⟩=>by cases e) ?_
 rintro v h ⟨e,rfl⟩
 cases e
 refine⟨_,V.I (eO g st l).2,by rw[WL,hlen];omega,hlen _,.one ?_ .nil,JK (V.ok _),rfl,rfl⟩
 have ht:=PD (r:=[]) (o:=bR 3 (jh (eO g st l).1)) (hlen (eO g st l).2)
 have hh:jh (eO g st l).1=((eO g st l).1.map Cd.cs).map (·.map .p):=by simp[jh]
 rw[hh] at ht⊢
 exact Oj ht (λx hx=>by obtain⟨b,_,rfl⟩:=Xb.1 hx;rfl)
def unL(l:List Fd):List Cd:=l.map (lwF l 0)
theorem Hv(l:List Fd)(hl:l.length<=1073741824)(f:Fd)(hz:f.sz<=16777216)(hf:∀x∈f.body,aJ 4 x=true):VF Tryz.prog G gZ [.agg [.p (fdL l)],.agg (f.cs.map .p)] (.agg ((lwF l 0 f).cs.map .p)):=
 AC.mkFreeze uF (Lz G l hl f hz hf)
end
section
variable (G:aK)
theorem Dm(b:Bool):VF Tryz.prog G le [.p (.bool b)] (.p (.int .i64 (if b then 1 else 0))):=by
 refine AC.go AW ?_
 cases b<;>simp-implicitDefEqProofs[pp]
end
section
theorem uY:∀a b:List Sm,aS (a++b)=aS a+aS b
 |[],b=>by simp[aS]
 |s::r,b=>by rw[Xk,aS,aS,uY r b,Nat.add_assoc]
theorem Ht{l:List Sm}{i:Nat}(h:i<l.length):aS (l.take (i+1))=aS (l.take i)+tr l[i]:=by rw[aq h,uY,aS,aS];rfl
theorem GA(l:List Sm)(i:Nat):aS (l.take i)<=aS l:=by
 have:=uY (l.take i) (l.drop i)
 rw[Xj] at this
 omega
variable (G:aK)
theorem LH:∀(k:Nat) (l:List Sm),aC l<=k->k<=1099511627776->VF Tryz.prog G fU [.p (smL l)] (.p (.int .i64 (aS l))):=by
 intro k
 induction k with
 |zero=>
  intro l hl _
  have:l=[]:=by
   cases l with
   |nil=>rfl
   |cons s r=>have:=s.sz_eq;simp only[aC] at hl;omega
  subst this
  refine AC.go sC ?_
  have hsl:smL []= .lst 5 []:=rfl
  simp-implicitDefEqProofs[mT,hsl]
  refine aN (λ_:Unit=>az 35 [(0,.p (.lst 5 [])),(3,.p (.int .i64 0)),(4,.p (.int .i64 0))]) (λ_=>[]) (λ_=>True) (λ_=>0) () trivial (cC rfl (by simp[below])) ?_
  intro _ _
  simp-implicitDefEqProofs[aS]
 |succ k ih=>
  intro l hl hk
  have hll:=bE l
  have hnz:=Xs (fZ l) (gg l)
  refine AC.go sC ?_
  have hsl:∀l,smL l= .lst 5 (l.map Sm.cs):=λ_=>rfl
  simp-implicitDefEqProofs[mT,hsl]
  refine aN (λi:Nat=>az 35 [(0,.p (smL l)),(3,.p (.int .i64 (aS (l.take i)))),(4,.p (.int .i64 i))]) (λ_=>[]) (λi=>i<=l.length) (λi=>l.length-i) 0 (by simp) (cC rfl (by simp[below,hsl,aS])) ?_
  intro i hi
  have k2:=GA l i
  simp-implicitDefEqProofs[hsl]
  refine aO (λh=>?_) (λh=>?_)
  ·simp at h
   have hg:=Wz h
   have hks:=fe (WN h)
   have hse:=l[i].sz_eq
   have hce:=l[i].cs_eq
   have k1:=Ht h
   have k4:=GA l (i+1)
   have k5:=Qv l[i]
   have hb:=ih l[i].body (by omega) (by omega)
   have he:=ih l[i].els (by omega) (by omega)
   generalize l[i]=s at*
   generalize aS (l.take i)=n at*
   obtain⟨n2,hn2⟩:∃n2,n2=aS (l.take (i+1)):=⟨_,rfl⟩
   rw[←hn2] at k1 k4
   by_cases ho:s.op=1
   ·rw[if_pos ho] at k5
    simp-implicitDefEqProofs[hg,hce,ho]
    refine(Dm G true).use ?_
    have w0':IntKind.i64.wrap ((n:Int)+1)=(n:Int)+1:=ab (by omega) (by omega)
    simp-implicitDefEqProofs[hg,hce,w0']
    refine hb.use ?_
    have w1':IntKind.i64.wrap ((n:Int)+1+(aS s.body:Int))=(n:Int)+1+(aS s.body:Int):=ab (by omega) (by omega)
    simp-implicitDefEqProofs[hg,hce,w1']
    refine he.use ?_
    have w2':IntKind.i64.wrap ((n:Int)+1+(aS s.body:Int)+(aS s.els:Int))=(n2:Int):=by rw[ab (by omega) (by omega)];omega
    simp-implicitDefEqProofs[w2']
    exact⟨i+1,h,by omega,cC rfl (by simp[below,hsl,←hn2,w1 (i:=i) (by omega)])⟩
   ·rw[if_neg ho] at k5
    simp-implicitDefEqProofs[hg,hce,ho]
    refine(Dm G false).use ?_
    have w0':IntKind.i64.wrap (n:Int)=(n:Int):=ab (by omega) (by omega)
    simp-implicitDefEqProofs[hg,hce,w0']
    refine hb.use ?_
    have w1':IntKind.i64.wrap ((n:Int)+(aS s.body:Int))=(n:Int)+(aS s.body:Int):=ab (by omega) (by omega)
    simp-implicitDefEqProofs[hg,hce,w1']
    refine he.use ?_
    have w2':IntKind.i64.wrap ((n:Int)+(aS s.body:Int)+(aS s.els:Int))=(n2:Int):=by rw[ab (by omega) (by omega)];omega
    simp-implicitDefEqProofs[w2']
    exact⟨i+1,h,by omega,cC rfl (by simp[below,hsl,←hn2,w1 (i:=i) (by omega)])⟩
  ·simp at h
   rw[WF h]
   simp-implicitDefEqProofs[]
section
variable {l:List Fd} {pr:Int} {L:Nat} {S I0 E:List Nat} {h:List AO} {w:Lw} {nx:Nat} {vs:Vs} {X:List AO} {K V:AV} {I:List Nat}
theorem Qn(T:RS l pr L S I0 E h w nx vs X K V I)(hw:w.regs<=1073741824):
 AC Tryz.prog G bY [.ptr L 8 0 0] X λx h'=>x= .ret (.p (.int .i64 w.regs))/\∃K' I',RS l pr L S I0 E h w.reg nx vs h' K' V I'/\∀i∈E,h'[i]?=X[i]?:=
 (nL G T.stb.ls hw).mono λx h' ⟨a,b⟩=>⟨a,T.step (J:=[]) (λj hj=>by cases hj) (by rw[WT];exact b)⟩
theorem Sb(T:RS l pr L S I0 E h w nx vs X K V I){B:Nat}(hok:w.Ok B)(hB:B<=1073741824)(op to n:Int):
 AC Tryz.prog G cI [.ptr L 8 0 0,.p (.int .i64 op),.p (.int .i64 to),.p (.int .i64 n),.sl X.length 1 0 0] (X++[.row 1 []]) λr h'=>r= .ret (.p (.int .i64 to))/\∃K' I',RS l pr L S I0 E h (w.put ⟨op,to,[],n⟩) nx vs h' K' V I'/\∀i∈E,h'[i]?=X[i]?:=by
 obtain⟨f1,f2⟩:=T.fresh
 refine(sW G (T.stb.ls.more [.row 1 []]) hok hB ⟨op,to,[],n⟩ (cX X ([]:List Int) rfl) (by simp) f2).mono λr h' ⟨e,b⟩=>⟨e,?_⟩
 obtain⟨K2,I2,a1,a2⟩:=(T.more [_]).step f1 b
 exact⟨K2,I2,a1,λi hi=>(a2 i hi).trans (Wx (T.at.1 i hi).1)⟩
theorem QH(T:RS l pr L S I0 E h w nx vs X K V I){B:Nat}(hok:w.Ok B)(j o:Int)(g:Nat){gI:Int}(hg:gI=(g:Int)):
 AC Tryz.prog G bQ [.ptr L 8 0 0,.p (.int .i64 j),.p (.int .i64 o),.sl X.length 1 0 0,.p (.int .i64 gI)] (X++[.row 1 []]) λr h'=>r= .ret (.tup [])/\∃K' I',RS l pr L S I0 E h (w.fin j o g []) nx vs h' K' V I'/\∀i∈E,h'[i]?=X[i]?:=by
 obtain⟨f1,f2⟩:=T.fresh
 rw[hg]
 refine(rt G (T.stb.ls.more [.row 1 []]) hok j o g [] (cX X ([]:List Int) rfl) (by simp) f2).mono λr h' ⟨e,b⟩=>⟨e,?_⟩
 obtain⟨K2,I2,a1,a2⟩:=(T.more [_]).step f1 b
 exact⟨K2,I2,a1,λi hi=>(a2 i hi).trans (Wx (T.at.1 i hi).1)⟩
theorem Kw{n:Nat}(hg:X[L]?=some (.row 8 [[.p (fdL l),.p (.int .i64 pr),.p (.int .i64 n),.nils,.p (.int .i64 0),V,.p (.int .i64 nx),.nils]]))(hV:V.cells=[V]/\V.isCell=true):
 AC Tryz.prog G cM [.ptr L 8 0 0] X λr h'=>r= .ret (.p (.int .i64 0))/\∃K I,LS (lwR l pr V nx) L ⟨n,[bk0],0⟩ h' K I/\Frm [L] X h'/\∀j∈I,X.length<=j:=by
 have hLl:=(Wy.1 hg).1
 obtain⟨v1,v2⟩:=hV
 have hgt:∀t,(X++t)[L]?=some (.row 8 [[.p (fdL l),.p (.int .i64 pr),.p (.int .i64 n),.nils,.p (.int .i64 0),V,.p (.int .i64 nx),.nils]]):=λt=>by rw[Wx hLl];exact hg
 have hs3:∀t o,((X++t).set L o)[L]?=some o:=λt o=>WH (by simp;omega)
 refine AC.go kY ?_
 simp-implicitDefEqProofs[-AV.cells,-AV.isCell,aI,af,ag,au,ah,aH,ae,aw,aj,v1,v2,gH,hg,hgt, ↓hs3]
 have key:∀o1:AO,∃K I,LS (lwR l pr V nx) L ⟨n,[bk0],0⟩ ((X++[.row 2 [],.row 4 [],.row 1 [],o1,.row 5 [[.sl X.length 2 0 0,.sl (X.length+1) 4 0 0,.p (.int .i64 0),.p (.int .i64 0),.sl (X.length+2) 1 0 0]]]).set L (lwR l pr V nx ⟨n,[bk0],0⟩ (.sl (X.length+4) 5 0 1))) K I/\Frm [L] X ((X++[.row 2 [],.row 4 [],.row 1 [],o1,.row 5 [[.sl X.length 2 0 0,.sl (X.length+1) 4 0 0,.p (.int .i64 0),.p (.int .i64 0),.sl (X.length+2) 1 0 0]]]).set L (lwR l pr V nx ⟨n,[bk0],0⟩ (.sl (X.length+4) 5 0 1)))/\∀j∈I,X.length<=j:=λo1=>by
  obtain⟨H,hH⟩:∃H,H=((X++[.row 2 [],.row 4 [],.row 1 [],o1,.row 5 [[.sl X.length 2 0 0,.sl (X.length+1) 4 0 0,.p (.int .i64 0),.p (.int .i64 0),.sl (X.length+2) 1 0 0]]]).set L (lwR l pr V nx ⟨n,[bk0],0⟩ (.sl (X.length+4) 5 0 1))):=⟨_,rfl⟩
  have g:∀k,H[X.length+k]?=[AO.row 2 [],.row 4 [],.row 1 [],o1,.row 5 [[.sl X.length 2 0 0,.sl (X.length+1) 4 0 0,.p (.int .i64 0),.p (.int .i64 0),.sl (X.length+2) 1 0 0]]][k]?:=λk=>by
   rw[hH,WB (by omega),WD (by omega)]
   rw[XB]
  rw[←hH]
  have hr:RowOwn false H (X.length+4) 5 [[.sl X.length 2 0 0,.sl (X.length+1) 4 0 0,.p (.int .i64 0),.p (.int .i64 0),.sl (X.length+2) 1 0 0]] [bk0.cs] [X.length,X.length+1,X.length+2]:=
   ⟨g 4,rfl,by simp,by simp[bk0,Bk.cs],by rw[List.flatten_singleton,List.flatten_singleton];exact Jz (g 0) (g 1) (g 2),by simp⟩
  refine⟨_,_,⟨by rw[hH];exact WH (by simp;omega),hr.tree rfl,by simp;omega,λq e=>(by cases e),λkid n2 rows2 eK hg2 r hr2=>?_⟩,⟨by rw[hH];simp,λi hi hn=>?_⟩,λj hj=>?_⟩
  ·cases eK
   rw[hr.here] at hg2
   cases hg2
   rw[WG.1 hr2]
   intro q;simp
  ·rw[hH,WB (λe=>hn (by simp[e])),Wx hi]
  ·simp only[WC,Xr,or_false] at hj
   omega
 have e:=key (.row 5 [[.sl X.length 2 0 0,.sl (X.length+1) 4 0 0,.p (.int .i64 0),.p (.int .i64 0),.sl (X.length+2) 1 0 0]])
 exact⟨ab (by omega) (by omega),e⟩
end
structure PvS where (i:Nat) (X:List AO)
theorem QC{vs:Vs}{ps:List (List UInt8)}{i:Nat}(hi:i<ps.length)(hl:vs.length=i)(h:rgV vs=scF (-1) [psS (ps.take i) [] 0]):rgV (vs++[(ps[i],i)])=scF (-1) [psS (ps.take (i+1)) [] 0]:=by
 funext t
 simp only[Bb,h,Fl hi,scF,cZ,ip]
 by_cases hst:ps[i]=t
 ·simp[hst]
 ·simp[hst]
theorem RR(l:List Fd)(hl:l.length<=1073741824)(k:Nat)(f:Fd)(hk:l[k]?=some f)(hz:f.sz<=16777216)(hf:∀x∈f.body,aJ 4 x=true):AC Tryz.prog G mb [.agg [.p (fdL l)],.p (.int .i64 k)] [] (MkW .agg false (lwF l (-1) f).cs):=by
 have hfc:=f.cs_eq'
 have hfl:fdL l= .lst 3 (l.map Fd.cs):=rfl
 have hlk:=(Wy.1 hk).1
 have hfz:f.sz=1+f.name.length+(f.params.length+(f.params.map List.length).sum)+aC f.body:=rfl
 have hst:aL f.params= .lst 1 (f.params.map λw=>[.str w]):=rfl
 have hlet:=Xs (fZ f.body) (gg f.body)
 refine AC.go Gh ?_
 simp-implicitDefEqProofs[zb,hfl,hk,hfc,hst]
 rw[←hfl]
 refine(LH G _ f.body (WK _) (by omega)).use ?_
 have hwl:IntKind.i64.wrap ((f.params.length:Int)+(aS f.body:Int))=((f.params.length+aS f.body:Nat):Int):=by rw[ab (by omega) (by omega)];omega
 simp-implicitDefEqProofs[hst,hwl]
 obtain⟨n,hn⟩:∃n:Nat,n=f.params.length+aS f.body:=⟨_,rfl⟩
 have hnI:(f.params.length:Int)+(aS f.body:Int)=n:=by omega
 rw[hnI]
 refine aN (λa:PvS=>az 80 [(4,.ptr 1 3 0 0),(5,.ptr 2 3 0 0),(6,.ptr 3 8 0 0),(7,.p (.int .i64 a.i))]) (λa=>a.X)
  (λa=>a.i<=f.params.length/\4<=a.X.length/\a.X[1]?=some (.row 3 [[.p (.int .i64 0),.p (.int .i64 0),.nils]])/\a.X[2]?=some (.row 3 [[.p (.str f.name),.p (.lst 1 (f.params.map λw=>[.str w])),.p (smL f.body)]])/\∃V vs,a.X[3]?=some (.row 8 [[.p (fdL l),.p (.int .i64 f.params.length),.p (.int .i64 n),.nils,.p (.int .i64 0),V,.p (.int .i64 f.params.length),.nils]])/\VAt a.X V vs/\(∀i∈vi V,4<=i)/\vs.length=a.i/\rgV vs=scF (-1) [psS (f.params.take a.i) [] 0]) (λa=>f.params.length-a.i)
  ⟨0,[.row 1 [[.p (fdL l)]],.row 3 [[.p (.int .i64 0),.p (.int .i64 0),.nils]],.row 3 [[.p (.str f.name),.p (.lst 1 (f.params.map λw=>[.str w])),.p (smL f.body)]],.row 8 [[.p (fdL l),.p (.int .i64 f.params.length),.p (.int .i64 n),.nils,.p (.int .i64 0),.nils,.p (.int .i64 f.params.length),.nils]]]⟩ ⟨Xg _,by simp,rfl,rfl,.nils,[],rfl,.nil,(λi hi=>by cases hi),rfl,rfl⟩ ?_ ?_
 ·exact am (by simp) (by simp[below])
 rintro⟨i,X⟩ ⟨hi,hX4,hx1,hx2,V,vs,hx3,hV,hVi,hvl,hrg⟩
 simp only at hi hX4 hx1 hx2 hx3 hV hvl hrg
 obtain⟨v1,v2,v3⟩:=hV.is
 simp-implicitDefEqProofs[hx2]
 refine aO (λhc=>?_) (λhc=>?_)
 ·simp at hc
  have hg:=Wz hc
  have hrg2:=QC hc hvl hrg
  generalize f.params[i]=p at hg hrg2
  have hwi:=w1 (i:=i) (by omega)
  have hX2m:∀t,(X++t)[2]?=some (.row 3 [[.p (.str f.name),.p (.lst 1 (f.params.map λw=>[.str w])),.p (smL f.body)]]):=λt=>by rw[Wx (by omega)];exact hx2
  cases hV with
  |nil=>
   have hvi:i=0:=hvl.symm
   subst hvi
   have hX3m:∀t,(X++t)[3]?=some (.row 8 [[.p (fdL l),.p (.int .i64 f.params.length),.p (.int .i64 n),.nils,.p (.int .i64 0),.nils,.p (.int .i64 f.params.length),.nils]]):=λt=>by rw[Wx (by omega)];exact hx3
   simp-implicitDefEqProofs[hx2,hx3,hg,hX3m,hX2m]
   have hw11:IntKind.i64.wrap 1=1:=ab (by omega) (by omega)
   refine⟨⟨1,_⟩,⟨by simp only;omega,?_,?_,?_,.sl X.length 3 0 1,?_,[(p,0)],?_,?_,rfl,by simpa using hrg2⟩,by simp only;omega,am ?_ ?_⟩
   rotate_left 6
   ·exact Xg _
   ·simp[below,hw11]
    omega
   ·simp;omega
   ·rw[WB (by omega),Wx (by omega)];exact hx1
   ·rw[WB (by omega),Wx (by omega)];exact hx2
   ·exact WH (by simp;omega)
   ·exact .sl _ [sM (p,0)] [(p,0)] (by rw[WB (by omega),WD (WK _)];simp[sM]) rfl
   ·intro j hj;rw[WG.1 hj];exact hX4
  |sl vid rows _ hv1 hv2=>
   have hvX:=(Wy.1 hv1).1
   have hv4:=hVi vid (by simp[vi])
   have hvk:vs.length<=rows.length:=by
    have:=congrArg List.length hv2
    rw[WX,Xc] at this
    omega
   have hX3m:∀t,(X.set vid .dead++t)[3]?=X[3]?:=λt=>by rw[Wx (by simp;omega),WB (by omega)]
   have hX2n:∀t,(X.set vid .dead++t)[2]?=X[2]?:=λt=>by rw[Wx (by simp;omega),WB (by omega)]
   simp-implicitDefEqProofs[hx2,hx3,hg,hv1,hv2, ↓hX3m, ↓hX2n,hwi]
   refine⟨⟨by omega,by omega⟩,⟨i+1,_⟩,⟨by simp only;omega,?_,?_,?_,.sl X.length 3 0 (vs.length+1),?_,vs++[(p,i)],?_,?_,by simp;omega,hrg2⟩,by simp only;omega,am ?_ ?_⟩
   rotate_left 6
   ·exact Xg _
   ·simp[below,hwi]
    omega
   ·simp;omega
   ·rw[WB (by omega),Wx (by simp;omega),WB (by omega)];exact hx1
   ·rw[WB (by omega),Wx (by simp;omega),WB (by omega)];exact hx2
   ·exact WH (by simp;omega)
   ·have hlv:(vs++[(p,i)]).length=vs.length+1:=by simp
    exact hlv▸ .sl _ (vs.map sM++[sM (p,i)]) (vs++[(p,i)]) (by rw[WB (by omega),WD (by simp)];simp[sM]) (by rw[WF (by simp)];simp)
   ·intro j hj;rw[WG.1 hj];exact hX4
 ·simp at hc
  have hie:i=f.params.length:=by omega
  subst hie
  rw[WZ] at hrg
  simp-implicitDefEqProofs[]
  refine(Kw G hx3 ⟨v1,v2⟩).mono ?_
  rintro x X1 ⟨rfl,K1,I1,H1,hfr,hI1⟩
  have hl1:=hfr.1
  have va1:VAt X1 V vs:=hV.frame λi hi=>hfr.2 i (hV.lt i hi) (by have:=hVi i hi;simp;omega)
  have T1':=RS.of H1 va1 (λi hi=>by
   have h4:=hVi i hi
   have h5:=hV.lt i hi
   simp only[WC,not_or]
   exact⟨by omega,λhm=>by have:=hI1 i hm;omega⟩)
  have T1:=T1'.add (j:=1) (by omega) (by
   simp only[WC,not_or]
   exact⟨by omega,λhm=>by have:=hI1 1 hm;omega⟩) (λhm=>by have:=hVi 1 hm;omega)
  have b1:X1[1]?=some (.row 3 [[.p (.int .i64 0),.p (.int .i64 0),.nils]]):=(hfr.2 1 (by omega) (by simp)).trans hx1
  have b2:X1[2]?=some (.row 3 [[.p (.str f.name),.p (.lst 1 (f.params.map λw=>[.str w])),.p (smL f.body)]]):=(hfr.2 2 (by omega) (by simp)).trans hx2
  have ok1:(⟨n,[bk0],0⟩:Lw).Ok (f.sz+1):=⟨by show n<=_;omega,by show 1<=_;omega,λb hb=>by rw[WG.1 hb];show 0<=_;omega,by show 0<1;omega⟩
  simp-implicitDefEqProofs[aa,b2]
  obtain⟨y,hy⟩:∃y,y=aW (faI l) (-1) f.body (psS f.params [] 0) [] f.params.length ⟨n,[bk0],0⟩:=⟨_,rfl⟩
  have h2:=zM G (Ox G l hl f.params.length 3 4 f.body hf) T1 ok1 (by omega) (by omega) (by omega) hrg
  have ok2:=dx (faI l) (-1) f.body (psS f.params [] 0) [] f.params.length ⟨n,[bk0],0⟩ _ ok1
  rw[←hy] at h2 ok2
  refine h2.mono ?_
  rintro x X2 ⟨rfl,K2,V2,I2,T2,e2⟩
  obtain⟨ok2,_,_,_⟩:=ok2
  have b1:=(e2 1 (by simp)).trans b1
  simp-implicitDefEqProofs[aa]
  refine(Qn G T2 (by have:=ok2.regs;omega)).mono ?_
  rintro x X3 ⟨rfl,K3,I3,T3,e3⟩
  have b1:=(e3 1 (by simp)).trans b1
  have ok3:=ok2.reg
  simp-implicitDefEqProofs[aa]
  refine(Sb G T3 ok3 (by omega) 1 y.2.2.regs 0).mono ?_
  rintro x X4 ⟨rfl,K4,I4,T4,e4⟩
  have b1:=(e4 1 (by simp)).trans b1
  have ok4:=ok3.put ⟨1,y.2.2.regs,[],0⟩
  simp-implicitDefEqProofs[aa]
  refine(QH G T4 ok4 3 y.2.2.regs 0 rfl).mono ?_
  rintro x X5 ⟨rfl,K5,I5,T5,e5⟩
  have b1:=(e5 1 (by simp)).trans b1
  have l5:=T5.stb.ls.here
  simp only[lwR] at l5
  obtain⟨k1,k2⟩:=gC T5.stb.ls.own
  have hs1:∀o,(X5.set 1 o)[1]?=some o:=λo=>WH (T5.at.1 1 (by simp)).1
  simp-implicitDefEqProofs[-AV.cells,-AV.isCell,aI,af,ag,au,ah,aH,ae,aw,aj,k1,k2,aa,l5,b1, ↓hs1]
  have hres:lwF l (-1) f=⟨f.params.length,((y.2.2.reg.put ⟨1,y.2.2.regs,[],0⟩).fin 3 y.2.2.regs 0 []).regs,((y.2.2.reg.put ⟨1,y.2.2.regs,[],0⟩).fin 3 y.2.2.regs 0 []).bs⟩:=by
   rw[lwF,←hn,←hy];rfl
  rw[hres]
  refine⟨_,I5,rfl,.p _ (λ_=>rfl) (.p _ (λ_=>rfl) (T5.stb.ls.own.frame λi hi=>WB λe=>(T5.at.1 1 (by simp)).2 (by rw[e];exact WV _ hi))),(WW.1 T5.stb.ls.nd).2⟩
theorem QL(l:List Fd)(hl:l.length<=1073741824)(k:Nat)(f:Fd)(hk:l[k]?=some f)(hz:f.sz<=16777216)(hf:∀x∈f.body,aJ 4 x=true):VF Tryz.prog G mb [.agg [.p (fdL l)],.p (.int .i64 k)] (.agg ((lwF l (-1) f).cs.map .p)):=
 AC.mkFreeze uF (RR G l hl k f hk hz hf)
def unR(l:List Fd):List Cd:=l.map (lwF l (-1))
structure UnS where (i:Nat) (X:List AO)
theorem MO(l:List Fd)(hz:aZ l<=16777216)(hf:∀f∈l,∀x∈f.body,aJ 4 x=true):VF Tryz.prog G jv [.agg [.p (fdL l)]] (.agg [.p (cdL (unR l))]):=by
 have hfl:fdL l= .lst 3 (l.map Fd.cs):=rfl
 have hll:l.length<=aZ l:=dK l
 have key:AC Tryz.prog G jv [.agg [.p (fdL l)]] [] λx h=>∃V,x= .ret (.agg [V])/\((V= .nils/\l=[])\/∃id,V= .sl id 3 0 l.length/\h[id]?=some (.row 3 (jh (unR l)))):=by
  refine AC.go CC ?_
  simp-implicitDefEqProofs[sH]
  refine aN (λa:UnS=>az 22 [(1,.ptr 0 1 0 0),(2,.ptr 1 1 0 0),(3,.ptr 2 1 0 0),(4,.p (.int .i64 a.i))]) (λa=>a.X)
   (λa=>a.i<=l.length/\3<=a.X.length/\a.X[0]?=some (.row 1 [[.p (fdL l)]])/\a.X[1]?=some (.row 1 [[.nils]])/\∃V,a.X[2]?=some (.row 1 [[V]])/\((V= .nils/\a.i=0)\/∃id,V= .sl id 3 0 a.i/\3<=id/\a.X[id]?=some (.row 3 (jh (unR l|>.take a.i))))) (λa=>l.length-a.i)
   ⟨0,[.row 1 [[.p (fdL l)]],.row 1 [[.nils]],.row 1 [[.nils]]]⟩ ⟨Xg _,by simp,rfl,rfl,.nils,rfl,.inl ⟨rfl,rfl⟩⟩ ?_ ?_
  ·exact am (by simp) (by simp[below])
  rintro⟨i,X⟩ ⟨hi,hX3,hx0,hx1,V,hx2,hV⟩
  simp only at hi hX3 hx0 hx1 hx2 hV
  simp-implicitDefEqProofs[hx0,hfl]
  refine aO (λhc=>?_) (λhc=>?_)
  ·simp at hc
   have hg:=Wz hc
   have hm:=WN hc
   have hfz:=dp hm
   have hcall:=QL G l (by omega) i l[i] hg (by omega) (hf _ hm)
   have htk:(unR l).take (i+1)=(unR l).take i++[lwF l (-1) l[i]]:=by
    rw[unR,←List.map_take,←List.map_take,aq hc,List.map_append];rfl
   have hcs:=(lwF l (-1) l[i]).cs_eq'
   have hlt:((unR l).take i).length=i:=by simp[unR];omega
   have hwi:=w1 (i:=i) (by omega)
   generalize lwF l (-1) l[i]=c at hcall htk hcs
   rw[hcs] at hcall
   rw[hfl] at hcall
   have hX2:∀t,(X++t)[2]?=some (.row 1 [[V]]):=λt=>by rw[Wx (by omega)];exact hx2
   rcases hV with⟨rfl,rfl⟩|⟨id,rfl,hid,hxi⟩
   ·simp-implicitDefEqProofs[hx2,hx0,hfl]
    refine hcall.use ?_
    simp-implicitDefEqProofs[hx2,hX2]
    have hw11:IntKind.i64.wrap 1=1:=ab (by omega) (by omega)
    refine⟨⟨1,_⟩,⟨by simp only;omega,?_,?_,?_,.sl X.length 3 0 1,?_,.inr ⟨X.length,rfl,hX3,?_⟩⟩,by simp only;omega,am ?_ ?_⟩
    rotate_left 5
    ·exact Xg _
    ·simp[below,hw11];omega
    ·simp;omega
    ·rw[WB (by omega),Wx (by omega)];exact hx0
    ·rw[WB (by omega),Wx (by omega)];exact hx1
    ·exact WH (by simp;omega)
    ·rw[htk,WB (by omega),WD (WK _)]
     simp[jh,hcs]
   ·have hiX:=(Wy.1 hxi).1
    have hX2n:∀t,(X.set id .dead++t)[2]?=X[2]?:=λt=>by rw[Wx (by simp;omega),WB (by omega)]
    have htl:List.take i (jh (List.take i (unR l)))=jh (List.take i (unR l)):=WF (by simp[jh];omega)
    have hcl:(jh (List.take i (unR l))).length=i:=by simp only[jh,Xc];exact hlt
    simp-implicitDefEqProofs[hx2,hx0,hfl]
    refine hcall.use ?_
    simp-implicitDefEqProofs[hx2,hxi, ↓hX2n,htl,hcl,hwi]
    refine⟨⟨by omega,by omega⟩,⟨i+1,_⟩,⟨by simp only;omega,?_,?_,?_,.sl X.length 3 0 (i+1),?_,.inr ⟨X.length,rfl,hX3,?_⟩⟩,by simp only;omega,am ?_ ?_⟩
    rotate_left 5
    ·exact Xg _
    ·simp[below,hwi];omega
    ·simp;omega
    ·rw[WB (by omega),Wx (by simp;omega),WB (by omega)];exact hx0
    ·rw[WB (by omega),Wx (by simp;omega),WB (by omega)];exact hx1
    ·exact WH (by simp;omega)
    ·rw[htk,WB (by omega),WD (by simp)]
     simp[jh,hcs]
  ·simp at hc
   have hie:i=l.length:=by omega
   subst hie
   have hx1s:∀o,(X.set 1 o)[1]?=some o:=λo=>WH (by omega)
   have hul:(unR l).take l.length=unR l:=WF (by simp[unR])
   rw[hul] at hV
   rcases hV with⟨rfl,h0⟩|⟨id,rfl,hid,hxi⟩
   ·simp-implicitDefEqProofs[hx2,hx1, ↓hx1s]
    exact List.length_eq_zero_iff.1 h0
   ·simp-implicitDefEqProofs[hx2,hx1, ↓hx1s]
    rw[WB (by omega)]
    exact hxi
 refine key.freezeR (λt v h ⟨V,e,_⟩=>by cases e) ?_
 rintro v h ⟨V,e,hV⟩
 cases e
 refine .agg ?_ .nil
 rcases hV with⟨rfl,rfl⟩|⟨id,rfl,hid⟩
 ·exact .one (View.nils 3) .nil
 ·have hh:jh (unR l)=((unR l).map Cd.cs).map (·.map .p):=by simp[jh]
  rw[hh] at hid
  have:=iD (n:=l.length) hid (by simp[unR]) (λx hx=>by obtain⟨b,_,rfl⟩:=Xb.1 hx;rfl)
  exact .one this .nil
end
section
mutual
theorem Jd(fa:List UInt8->Int){sc sc':List UInt8->Int}:∀(e:Ex) (w:Lw),(∀p∈e.pre,p.op=2->sc p.name=sc' p.name)->lwE fa sc e w=lwE fa sc' e w
 | .mk o n s ks,w,h=>by
   rw[Ex.pre] at h
   have h0:=h (.mk o n s ks) (by simp)
   have hk:∀p∈eB ks,p.op=2->sc p.name=sc' p.name:=λp hp=>h p (by simp[hp])
   rw[lwE,lwE]
   split
   ·rfl
   split
   ·rename_i h2
    have:=h0 h2
    simp only[Ex.name] at this
    rw[this]
   split
   ·exact Ty fa ks w hk
   ·rw[Il fa ks w hk]
theorem Ty(fa:List UInt8->Int){sc sc':List UInt8->Int}:∀(l:List Ex) (w:Lw),(∀p∈eB l,p.op=2->sc p.name=sc' p.name)->lwA fa sc l w=lwA fa sc' l w
 |[],w,_=>by rw[lwA,lwA]<;>intro a b h<;>cases h
 |[a],w,_=>by rw[lwA,lwA]<;>intro a b h<;>cases h
 |a::b::c::r,w,_=>by rw[lwA,lwA]<;>intro a b h<;>cases h
 |[a,b],w,h=>by
  have ha:=Jd fa a w (λp hp=>h p (by simp[eB,hp]))
  rw[lwA,lwA,ha]
  rw[Jd fa b _ (λp hp=>h p (by simp[eB,hp]))]
theorem Il(fa:List UInt8->Int){sc sc':List UInt8->Int}:∀(l:List Ex) (w:Lw),(∀p∈eB l,p.op=2->sc p.name=sc' p.name)->bj fa sc l w=bj fa sc' l w
 |[],w,_=>by rw[bj,bj]
 |e::r,w,h=>by
  rw[bj,bj,Jd fa e w (λp hp=>h p (by simp[eB,hp])),Il fa r _ (λp hp=>h p (by simp[eB,hp]))]
end
def KS:List Scp->List Scp->Prop
 |[],[]=>True
 |m::a,m0::b=>(∀t,(eD m t).isSome=(eD m0 t).isSome)/\KS a b
 |_,_=>False
theorem KS.fnd:∀{a b:List Scp},KS a b->∀t,(cZ a t).isSome=(cZ b t).isSome
 |[],[],_,t=>rfl
 |m::a,m0::b,h,t=>by
  have h1:=h.1 t
  have h2:=KS.fnd h.2 t
  rw[cZ,cZ]
  cases e1:eD m t with
  |some x=>
   rw[e1] at h1
   cases e2:eD m0 t with
   |some y=>rfl
   |none=>rw[e2] at h1;cases h1
  |none=>
   rw[e1] at h1
   cases e2:eD m0 t with
   |some y=>rw[e2] at h1;cases h1
   |none=>exact h2
 |[],_::_,h,_=>h.elim
 |_::_,[],h,_=>h.elim
theorem KS.set{a b:List Scp}{m m0:Scp}(h:KS (m::a) (m0::b))(s:List UInt8)(i j:Nat):KS (eQ m s i::a) (eQ m0 s j::b):=
 ⟨λt=>by
   rw[ip,ip]
   split
   ·rfl
   ·exact h.1 t,h.2⟩
theorem Fp{fns:List Fd}{k:Nat}{ch:List Scp}:∀{l:List Ex} {c:Int},l.foldl (ff fns k ch) c=0->c=0/\∀e∈l,ff fns k ch 0 e=0
 |[],c,h=>⟨h,λe he=>by cases he⟩
 |e::r,c,h=>by
  have hc:c=0:=by
   by_cases hc:c=0
   ·exact hc
   ·rw[uU hc] at h;exact(hc h).elim
  subst hc
  rw[List.foldl_cons] at h
  obtain⟨h1,h2⟩:=Fp h
  refine⟨rfl,λx hx=>?_⟩
  rcases WC.1 hx with rfl|hx
  ·exact h1
  ·exact h2 x hx
theorem Pq{fns:List Fd}{k:Nat}{ch:List Scp}{e:Ex}(h:ff fns k ch 0 e=0)(h2:e.op=2):(cZ ch e.name).isSome=true:=by
 rw[ff,if_pos h2] at h
 by_cases hs:(cZ ch e.name).isSome=true
 ·exact hs
 ·rw[if_neg hs] at h;simp[fl] at h
theorem UC{ch ch0:List Scp}(hk:KS ch ch0){fns:List Fd}{k:Nat}{l:List Ex}{c:Int}(h:zZ fns k ch0 l c=0):∀p∈eB l,p.op=2->scF (-1) ch p.name=scF 0 ch p.name:=λp hp h2=>by
 have h1:=Pq ((Fp h).2 p hp) h2
 rw[←hk.fnd] at h1
 obtain⟨n,hn⟩:=Option.isSome_iff_exists.1 h1
 rw[scF,scF,hn]
theorem nj{fns:List Fd}{k:Nat}{l:List Sm}{m:Scp}{up:List Scp}{c:Int}(h:(eX fns k l m up c).2=0):c=0:=by
 by_cases hc:c=0
 ·exact hc
 ·rw[ny fns k hc] at h;exact h
mutual
theorem TH(fa:List UInt8->Int)(fns:List Fd)(k:Nat):∀(s:Sm) (m m0:Scp) (up up0:List Scp) (nx:Nat) (w:Lw),KS (m::up) (m0::up0)->(icS fns k s m0 up0 0).2=0->
 lwS fa (-1) s m up nx w=lwS fa 0 s m up nx w/\KS ((lwS fa 0 s m up nx w).1::up) ((icS fns k s m0 up0 0).1::up0)
 | .mk o n a bd el,m,m0,up,up0,nx,w,hk,h=>by
   rw[icS] at h⊢
   simp only at h⊢
   obtain⟨c2,hc2⟩:∃c2,c2=opC o n m0 up0 (zZ fns k (m0::up0) a 0):=⟨_,rfl⟩
   rw[←hc2] at h
   have hbe:c2=0/\(o=5\/o=6->(eX fns k bd [] (opS o n m0 0::up0) 0).2=0/\(eX fns k el [] (opS o n m0 0::up0) 0).2=0):=by
    by_cases h56:o=5\/o=6
    ·rw[if_pos h56] at h
     have h1:=nj h
     rw[h1] at h
     have h2:=nj h1
     rw[h2] at h1
     exact⟨h2,λ_=>⟨h1,h⟩⟩
    ·rw[if_neg h56] at h
     exact⟨h,λh'=>(h56 h').elim⟩
   obtain⟨e2,hblk⟩:=hbe
   rw[e2] at hc2
   have hce:zZ fns k (m0::up0) a 0=0:=by
    by_cases hc:zZ fns k (m0::up0) a 0=0
    ·exact hc
    ·rw[Fm hc] at hc2;exact hc2.symm
   have hsc:=UC hk hce
   have hkm:∀x:Lw,True:=λ_=>trivial
   rw[lwS,lwS]
   by_cases o6:o=6
   ·have hop:opS o n m0 0=m0:=by rw[opS,if_neg (by omega)]
    obtain⟨hb,_⟩:=hblk (.inr o6)
    rw[hop] at hb
    simp only[if_pos o6]
    have hh:∀p∈(a.headD (.mk 0 0 [] [])).pre,p.op=2->scF (-1) (m::up) p.name=scF 0 (m::up) p.name:=by
     cases a with
     |nil=>
      intro p hp h2
      simp[Ex.pre,eB] at hp
      rw[hp] at h2
      simp[Ex.op] at h2
     |cons x r=>exact λp hp=>hsc p (by simp[eB];exact .inl hp)
    rw[Jd fa _ _ hh,(BB fa fns k bd [] [] (m::up) (m0::up0) nx _ ⟨λ_=>rfl,hk⟩ hb).1]
    refine⟨rfl,?_⟩
    rw[hop]
    exact hk
   ·simp only[if_neg o6]
    rw[Il fa a w hsc]
    by_cases o1:o=1
    ·simp only[if_pos o1]
     refine⟨trivial,?_⟩
     rw[opS,if_pos o1]
     exact hk.set n nx 0
    have hop:opS o n m0 0=m0:=by rw[opS,if_neg o1]
    rw[hop]
    simp only[if_neg o1]
    by_cases o2:o=2
    ·simp only[if_pos o2]
     have hf:(cZ (m0::up0) n).isSome=true:=by
      rw[hce,opC,if_neg o1,if_pos o2] at hc2
      by_cases hs:(cZ (m0::up0) n).isSome=true
      ·exact hs
      ·rw[if_neg hs] at hc2;simp[fl] at hc2
     rw[←hk.fnd] at hf
     obtain⟨q,hq⟩:=Option.isSome_iff_exists.1 hf
     rw[scF,scF,hq]
     exact⟨rfl,hk⟩
    simp only[if_neg o2]
    by_cases o3:o=3
    ·simp only[if_pos o3];exact⟨trivial,hk⟩
    simp only[if_neg o3]
    by_cases o4:o=4
    ·simp only[if_pos o4];exact⟨trivial,hk⟩
    simp only[if_neg o4]
    by_cases o5:o=5
    ·simp only[if_pos o5]
     obtain⟨hb,he⟩:=hblk (.inl o5)
     rw[hop] at hb he
     rw[(BB fa fns k bd [] [] (m::up) (m0::up0) nx _ ⟨λ_=>rfl,hk⟩ hb).1,(BB fa fns k el [] [] (m::up) (m0::up0) _ _ ⟨λ_=>rfl,hk⟩ he).1]
     exact⟨rfl,hk⟩
    simp only[if_neg o5]
    split
    ·exact⟨trivial,hk⟩
    ·exact⟨trivial,hk⟩
theorem BB(fa:List UInt8->Int)(fns:List Fd)(k:Nat):∀(l:List Sm) (m m0:Scp) (up up0:List Scp) (nx:Nat) (w:Lw),KS (m::up) (m0::up0)->(eX fns k l m0 up0 0).2=0->
 aW fa (-1) l m up nx w=aW fa 0 l m up nx w/\KS ((aW fa 0 l m up nx w).1::up) ((eX fns k l m0 up0 0).1::up0)
 |[],m,m0,up,up0,nx,w,hk,_=>by rw[aW,aW,eX];exact⟨rfl,hk⟩
 |s::r,m,m0,up,up0,nx,w,hk,h=>by
  rw[eX] at h⊢
  have h1:=nj h
  obtain⟨e1,k1⟩:=TH fa fns k s m m0 up up0 nx w hk h1
  rw[h1] at h⊢
  rw[aW,aW,e1]
  exact BB fa fns k r _ _ up up0 _ _ k1 h
end
theorem MX:∀(ps:List (List UInt8)) (m m0:Scp) (i:Nat) (c:Int),KS [m] [m0]->KS [psS ps m i] [(jQ ps m0 c).1]
 |[],m,m0,i,c,h=>h
 |p::r,m,m0,i,c,h=>by
  rw[psS]
  have:=MX r (eQ m p i) (eQ m0 p 0) (i+1) (if(eD m0 p).isSome then fl c 2 else c) (h.set p i 0)
  simpa[jQ] using this
theorem Uf(l:List Fd){fns:List Fd}{k:Nat}{f:Fd}{c:Int}(h:icF fns k f c=0):lwF l (-1) f=lwF l 0 f:=by
 rw[icF] at h
 have h0:=nj h
 rw[h0] at h
 have hk:=MX f.params [] [] 0 (if(match da fns f.name with|some j=>decide (j<k)|none=>true) then fl c 2 else c) ⟨λ_=>rfl,trivial⟩
 rw[lwF,lwF,(BB (faI l) fns k f.body _ _ [] [] f.params.length _ hk h).1]
theorem Dq{fns:List Fd}:∀{l:List Fd} {k:Nat} {c:Int},gX fns k l c=0->∀f∈l,∃k' c',icF fns k' f c'=0
 |[],k,c,h,f,hf=>by cases hf
 |g::r,k,c,h,f,hf=>by
  rw[gX] at h
  rcases WC.1 hf with rfl|hf
  ·refine⟨k,c,?_⟩
   by_cases hc:icF fns k f c=0
   ·exact hc
   ·rw[od fns hc] at h;exact h
  ·exact Dq h f hf
theorem My{l:List Fd}(h:bZ l=0):∀f∈l,lwF l (-1) f=lwF l 0 f:=λf hf=>by
 rw[sR] at h
 split at h
 ·obtain⟨k,c,hi⟩:=Dq h f hf
  exact Uf l hi
 ·cases h
end
section
def eL(l:List Fd):Bool:=decide (bZ l=0)&&unB (unL l)
def lv(l:List Fd):List Cd:=if eL l then unL l else[]
theorem RM{l:List Fd}(h:bZ l=0):unR l=unL l:=Xa (My h)
theorem JP{l:List Fd}(h:bZ l=0):KD 1073741824 (unL l):=by
 have hp:=Ck h
 have hs:=iu hp
 have hl:l.length<=4:=((gJ l).1 hp).1.2
 exact Qc l 0 (by omega) (by omega)
def CY(l:List Fd):Vis Unit where
 I:=λ_=>[.row 1 [[.p (fdL l)]],.row 1 [[.nils]]]
 n:=2
 F:=cU
 caps:=[.ptr 0 1 0 0]
 len:=λ_=>rfl
 ok:=λ_=>by simp[okO,below]
 capsOk:=by simp[below]
variable (G:aK)
theorem Dt{f:Fd->Cd}:∀(l:List Fd) (st:Unit),eO (λ_ x=>(f x,())) st l=(l.map f,())
 |[],_=>rfl
 |x::r,st=>by rw[eO,Dt r];rfl
theorem vu(l:List Fd)(hl:l.length<=1073741824)(f:Fd)(hz:f.sz<=16777216)(hf:∀x∈f.body,aJ 4 x=true):AC Tryz.prog G cU [.agg (f.cs.map .p),.ptr 0 1 0 0] ((CY l).I ()) λx h=>x= .ret (.agg ((lwF l 0 f).cs.map .p))/\h=(CY l).I ():=by
 have hfc:=f.cs_eq'
 have hL:=Hv G l hl f hz hf
 have hcs:=(lwF l 0 f).cs_eq2
 generalize lwF l 0 f=c at hL hcs
 rw[hfc,hcs] at hL
 refine(CY l).trim G (AC.go pf ?_) (by rw[hcs];simp[below])
 simp-implicitDefEqProofs[iQ,CY,hfc]
 refine hL.use ?_
 simp-implicitDefEqProofs[hcs]
theorem pW(hK:G jg=some iA)(hS:G dX=some [.tbl opK opV])(l:List Fd)(hz:aZ l<=1073741824):VF Tryz.prog G cx [.agg [.p (fdL l)]] (.tup [.agg [.p (cdL (lv l))],.p (.bool (eL l))]):=by
 have hfl:fdL l= .lst 3 (l.map Fd.cs):=rfl
 have key:AC Tryz.prog G cx [.agg [.p (fdL l)]] [] λx h=>∃V,x= .ret (.tup [.agg [V],.p (.bool (eL l))])/\(V= .p (cdL (lv l))\/(V= .nils/\lv l=[])):=by
  refine AC.go rS ?_
  simp-implicitDefEqProofs[kz]
  refine(NP G hK hS l hz).use ?_
  by_cases h0:bZ l=0
  case neg=>
   have hf:eL l=false:=by simp[eL,h0]
   have hu:lv l=[]:=by rw[lv,hf];rfl
   simp-implicitDefEqProofs[h0,hf,hu]
  have hp:=Ck h0
  have hs:=iu hp
  have hfm:=pT hp
  have hl4:l.length<=4:=((gJ l).1 hp).1.2
  have hM:=KG G (CY l) (λ_ f=>(lwF l 0 f,())) (λ_ _=>True) l (by omega) (by show 0<2;omega) (λi st hi _=>⟨trivial,vu G l (by omega) l[i] (by have:=vv (WN hi);omega) (hfm _ (WN hi))⟩) () trivial
  rw[Dt] at hM
  have hU:=FA G (unL l) (JP h0)
  simp-implicitDefEqProofs[h0]
  refine hM.mono ?_
  rintro x h ⟨rfl,rfl⟩
  have hul:(l.map λf=>lwF l 0 f)=unL l:=rfl
  simp-implicitDefEqProofs[aa,CY,hul]
  refine hU.use ?_
  cases hb:unB (unL l) with
  |false=>
   have hf:eL l=false:=by simp[eL,h0,hb]
   have hu:lv l=[]:=by rw[lv,hf];rfl
   simp-implicitDefEqProofs[hf,hu]
  |true=>
   have hf:eL l=true:=by simp[eL,h0,hb]
   have hu:lv l=unL l:=by rw[lv,hf,if_pos rfl]
   simp-implicitDefEqProofs[hf,hu]
 refine key.freezeR (λt v h ⟨V,e,_⟩=>by cases e) ?_
 rintro v h ⟨V,e,hV⟩
 cases e
 refine .tup (.agg ?_ (.one (.p _) .nil)) .nil
 rcases hV with rfl|⟨rfl,hu⟩
 ·exact .one (.p _) .nil
 ·rw[hu];exact .one (View.nils 3) .nil
theorem Ah(l:List Fd)(hz:aZ l<=1073741824):VF Tryz.prog G dA [.agg [.p (fdL l)]] (.tup [.agg [.p (cdL (lv l))],.p (.bool (eL l))]):=by
 have hfl:fdL l= .lst 3 (l.map Fd.cs):=rfl
 have key:AC Tryz.prog G dA [.agg [.p (fdL l)]] [] λx h=>∃V,x= .ret (.tup [.agg [V],.p (.bool (eL l))])/\(V= .p (cdL (lv l))\/(V= .nils/\lv l=[])):=by
  refine AC.go rA ?_
  simp-implicitDefEqProofs[kC]
  refine(NL G l hz).use ?_
  by_cases h0:bZ l=0
  case neg=>
   have hf:eL l=false:=by simp[eL,h0]
   have hu:lv l=[]:=by rw[lv,hf];rfl
   simp-implicitDefEqProofs[h0,hf,hu]
  have hp:=Ck h0
  have hs:=iu hp
  have hM:=MO G l (by omega) (pT hp)
  rw[RM h0] at hM
  have hU:=EL G (unL l) (JP h0)
  simp-implicitDefEqProofs[h0]
  refine hM.use ?_
  simp-implicitDefEqProofs[]
  refine hU.use ?_
  cases hb:unB (unL l) with
  |false=>
   have hf:eL l=false:=by simp[eL,h0,hb]
   have hu:lv l=[]:=by rw[lv,hf];rfl
   simp-implicitDefEqProofs[hf,hu]
  |true=>
   have hf:eL l=true:=by simp[eL,h0,hb]
   have hu:lv l=unL l:=by rw[lv,hf,if_pos rfl]
   simp-implicitDefEqProofs[hf,hu]
 refine key.freezeR (λt v h ⟨V,e,_⟩=>by cases e) ?_
 rintro v h ⟨V,e,hV⟩
 cases e
 refine .tup (.agg ?_ (.one (.p _) .nil)) .nil
 rcases hV with rfl|⟨rfl,hu⟩
 ·exact .one (.p _) .nil
 ·rw[hu];exact .one (View.nils 3) .nil
theorem CZ{l:List Fd}(h:eL l=true):bZ l=0/\unB (unL l)=true:=by
 simpa[eL] using h
theorem Pj(l:List Fd):(unL l).length=l.length:=Xc _
end
section
abbrev Wds:=List (List UInt8)
variable (G:aK)
theorem BV{f:FuncId}{args:List AV}{l l':Wds}(H:AC Tryz.prog G f (args++[.sl 0 1 0 l.length]) [bV l] λx h=>x= .ret (.sl 1 1 0 l'.length)/\h=[.dead,bV l'])(ha:ay 0 args){h:List AO}{id:Nat}(e:h[id]?=some (bV l)):
 AC Tryz.prog G f (args++[.sl id 1 0 l.length]) h λx h'=>x= .ret (.sl h.length 1 0 l'.length)/\h'=h.set id .dead++[bV l']:=by
 have hTW:TW [id] (args++[.sl id 1 0 l.length]) (args++[.sl 0 1 0 l.length]):=by
  clear H
  induction args with
  |nil=>simp[below,ren]
  |cons v r ih=>
   rw[Xk,Xk,tw]
   refine⟨.inr ⟨(aR (Xg _) [v] ⟨ha.1,trivial⟩).1,?_⟩,ih ha.2⟩
   have:=dF [id] [v] ⟨ha.1,trivial⟩
   simpa[bn] using this
 refine(H.frame [id] (by simp) hTW (cK e (λx hx=>gN l x hx) cg)).mono ?_
 rintro x h' ⟨x0,h0,⟨rfl,rfl⟩,_,rfl,rfl⟩
 refine⟨?_,?_⟩
 ·simp[BX,ren]
 ·have hp:∀σ,gy σ (bV l')=bV l':=λσ=>by simp[bV,gy,bn,ren]
  simp only[WP,Xm,List.take_succ_cons,List.take_zero,WY,Xv,List.drop_succ_cons,List.drop_zero,hp,mrg]
  rfl
end
section
structure HV (σ:Type) where
 F:FuncId
 caps:List AV
 n:Nat
 Inv:σ->Nat->List AO->Prop
 capsOk:ay n caps
 len:∀{st id h},Inv st id h->n<=h.length/\id<h.length
 frame:∀{st id h h'},Inv st id h->(∀i,i<h.length->i<n\/i=id->h'[i]?=h[i]?)->Inv st id h'
def HV.Left{σ:Type}(V:HV σ)(id:Nat)(h:List AO)(st':σ)(h':List AO):Prop:=
 ∃id',V.Inv st' id' h'/\h.length<=h'.length/\(∀i,i<h.length->V.n<=i->i≠id->h'[i]?=h[i]?)/\(id'=id\/h.length<=id')
structure HS where (i id:Nat) (h:List AO)
theorem HV.more{σ:Type}(V:HV σ){st:σ}{id:Nat}{h:List AO}(H:V.Inv st id h)(os:List AO):V.Inv st id (h++os):=
 V.frame H λi hi _=>Wx hi
theorem HV.Left.trans{σ:Type}{V:HV σ}{id id1:Nat}{h h1 h2:List AO}{st2:σ}(hl:h.length<=h1.length)(hk:∀i,i<h.length->V.n<=i->i≠id->h1[i]?=h[i]?)(hi:id1=id\/h.length<=id1)(L:V.Left id1 h1 st2 h2):V.Left id h st2 h2:=by
 obtain⟨id2,a1,a2,a3,a4⟩:=L
 refine⟨id2,a1,by omega,λi h1 h2 h3=>?_,?_⟩
 ·rw[a3 i (by omega) h2 (by rcases hi with e|e<;>omega),hk i h1 h2 h3]
 ·rcases a4 with e|e
  ·rw[e];exact hi
  ·right;omega
variable (G:aK)
def Sm.own(s:Sm):Nat:=1+s.name.length+aM s.args
theorem Sm.own_sz(s:Sm):s.sz=s.own+aC s.body+aC s.els:=by rw[s.sz_eq,Sm.own]
mutual
theorem Rn{σ:Type}{step:σ->Sm × Nat->σ}{inv:σ->Nat->Prop}(hs:∀st (s:Sm) d k,inv st (k+s.own)->inv (step st (s,d)) k):∀(s:Sm) (d:Nat) (st:σ) (k:Nat),inv st (k+s.sz)->inv ((s.pre d).foldl step st) k
 | .mk o n a b e,d,st,k,h=>by
   rw[Sm.own_sz] at h
   rw[Sm.pre_eq,List.foldl_cons,XG]
   refine uH hs e _ _ k (uH hs b _ _ _ (hs _ _ _ _ ?_))
   rw[show k+aC e+aC b+(Sm.mk o n a b e).own=k+((Sm.mk o n a b e).own+aC b+aC e) by omega]
   exact h
theorem uH{σ:Type}{step:σ->Sm × Nat->σ}{inv:σ->Nat->Prop}(hs:∀st (s:Sm) d k,inv st (k+s.own)->inv (step st (s,d)) k):∀(l:List Sm) (d:Nat) (st:σ) (k:Nat),inv st (k+aC l)->inv ((aY d l).foldl step st) k
 |[],d,st,k,h=>by simpa[aY,aC] using h
 |s::r,d,st,k,h=>by
  rw[aC,show k+(s.sz+aC r)=k+aC r+s.sz by omega] at h
  rw[aY,XG]
  exact uH hs r d _ k (Rn hs s d st _ h)
end
theorem Ny{σ:Type}(V:HV σ)(step:σ->Sm × Nat->σ)(inv:σ->Nat->Prop)(B:Nat)(hB:B<=1073741824)(hs:∀st (s:Sm) d k,inv st (k+s.own)->inv (step st (s,d)) k)
 (hv:∀st (s:Sm) d k id h,inv st (k+s.own)->s.sz<=B->V.Inv st id h->AC Tryz.prog G V.F (.agg (s.cs.map .p):: .p (.int .i64 (d:Nat))::V.caps) h λx h'=>x= .ret (.tup [])/\V.Left id h (step st (s,d)) h'):
 ∀(N:Nat) (l:List Sm),aC l<N->aC l<=B->∀(d:Nat),d+aC l<=1099511627776->∀st k id h,inv st (k+aC l)->V.Inv st id h->AC Tryz.prog G dm [.p (smL l),.p (.int .i64 d),.fn (.func V.F) V.caps] h λx h'=>x= .ret (.tup [])/\V.Left id h ((aY d l).foldl step st) h':=by
 intro N
 induction N with
 |zero=>intro l h;omega
 |succ N ih=>
  intro l hl hz d hd st k id h hi hI
  have hll:=bE l
  have hsl:∀l,smL l= .lst 5 (l.map Sm.cs):=λ_=>rfl
  have hcb:=V.capsOk
  obtain⟨hn,hid⟩:=V.len hI
  refine AC.go uc ?_
  simp-implicitDefEqProofs[nU,hsl]
  refine aN (λa:HS=>az 31 [(1,.p (.int .i64 d)),(2,.fn (.func V.F) V.caps),(8,.p (smL l)),(9,.p (.int .i64 l.length)),(10,.p (.int .i64 a.i))])
   (λa=>a.h) (λa=>a.i<=l.length/\V.Inv ((aY d (l.take a.i)).foldl step st) a.id a.h/\h.length<=a.h.length/\(∀i,i<h.length->V.n<=i->i≠id->a.h[i]?=h[i]?)/\(a.id=id\/h.length<=a.id)) (λa=>l.length-a.i) ⟨0,id,h⟩ ⟨Xg _,hI,WK _,λi _ _ _=>rfl,.inl rfl⟩ ?_ ?_
  ·exact am (WK _) (by simp[below,hsl];exact aR (by omega) _ hcb)
  rintro⟨i,idc,hc⟩ ⟨hil,hIc,hlc,hkc,hic⟩
  simp only at hil hIc hlc hkc hic
  simp-implicitDefEqProofs[hsl]
  refine aO (λhcc=>?_) (λhcc=>?_)
  ·simp at hcc
   have hg:=Wz hcc
   have hks:=fe (WN hcc)
   have hse:=l[i].cs_eq
   have hsz:=l[i].own_sz
   have hown:1<=l[i].own:=by unfold Sm.own;omega
   have hT:l.take (i+1)=l.take i++[l[i]]:=aq hcc
   have hsum:aC l=aC (l.take i)+(l[i].sz+aC (l.drop (i+1))):=by
    have e1:aC l=aC (l.take i)+aC (l.drop i):=by rw[←aX,Xj]
    have e2:aC (l.drop i)=l[i].sz+aC (l.drop (i+1)):=by rw[List.drop_eq_getElem_cons hcc,aC]
    omega
   have i0:inv ((aY d (l.take i)).foldl step st) (k+aC (l.drop (i+1))+aC l[i].els+aC l[i].body+l[i].own):=
    uH hs _ _ _ _ (by rw[show k+aC (l.drop (i+1))+aC l[i].els+aC l[i].body+l[i].own+aC (l.take i)=k+aC l by omega];exact hi)
   have i1:=hs _ l[i] d _ i0
   have i2:=uH hs l[i].body (d+1) _ _ i1
   have hf:(aY d (l.take (i+1))).foldl step st=(l[i].pre d).foldl step ((aY d (l.take i)).foldl step st):=by
    rw[hT,nW,XG,aY,aY,WT]
   rw[Sm.pre_eq,List.foldl_cons,XG] at hf
   have hwd:IntKind.i64.wrap ((d:Int)+1)=((d+1:Nat):Int):=by rw[ab (by omega) (by omega)];omega
   have h1:=λos=>hv _ l[i] d _ idc (hc++os) i0 (by omega) (V.more hIc os)
   have h2:=λst2 id2 hh=>ih l[i].body (by omega) (by omega) (d+1) (by omega) st2 (k+aC (l.drop (i+1))+aC l[i].els) id2 hh
   have h3:=λst2 id2 hh=>ih l[i].els (by omega) (by omega) (d+1) (by omega) st2 (k+aC (l.drop (i+1))) id2 hh
   rw[hse] at h1
   simp-implicitDefEqProofs[hg,hse]
   refine(h1 _).mono ?_
   rintro r g1 ⟨rfl,id3,M1,M2,M3,M4⟩
   rw[WL] at M2 M3 M4
   simp only[WP,Xm] at M2 M3 M4
   have hbox:g1[hc.length]?=some (.row 5 [[.p (.int .i64 l[i].op),.p (.str l[i].name),.p (exL l[i].args),.p (smL l[i].body),.p (smL l[i].els)]]):=by
    rw[M3 _ (by omega) (by have:=(V.len hIc).1;omega) (by have:=(V.len hIc).2;omega)];simp
   simp-implicitDefEqProofs[aa,hbox,hwd]
   refine(h2 _ id3 g1 i1 M1).mono ?_
   rintro r g2 ⟨rfl,id4,P1,P2,P3,P4⟩
   have hbox2:g2[hc.length]?=some (.row 5 [[.p (.int .i64 l[i].op),.p (.str l[i].name),.p (exL l[i].args),.p (smL l[i].body),.p (smL l[i].els)]]):=by
    rw[P3 _ (by omega) (by have:=(V.len hIc).1;omega) (by have:=(V.len hIc).2;omega),hbox]
   simp-implicitDefEqProofs[aa,hbox2,hwd]
   refine(h3 _ id4 g2 i2 P1).mono ?_
   rintro r g3 ⟨rfl,id5,Q1,Q2,Q3,Q4⟩
   simp-implicitDefEqProofs[aa]
   refine⟨⟨i+1,id5,g3⟩,⟨hcc,by rw[hf];exact Q1,by show h.length<=g3.length;omega,λj a1 a2 a3=>?_,?_⟩,by show l.length-(i+1)<l.length-i;omega,am (by show h.length<=g3.length;omega) ?_⟩
   ·show g3[j]?=h[j]?
    rw[Q3 j (by omega) a2 (by omega),P3 j (by omega) a2 (by omega),M3 j (by omega) a2 (by omega),Wx (by omega),hkc j a1 a2 a3]
   ·show id5=id\/h.length<=id5
    omega
   ·simp[below,hsl,w1 (i:=i) (by omega)]
    exact aR (by omega) _ hcb
  ·simp at hcc
   have hie:i=l.length:=by omega
   subst hie
   rw[WZ] at hIc
   simp-implicitDefEqProofs[]
   exact⟨idc,hIc,hlc,hkc,hic⟩
end
section
mutual
def nmS:Sm->Wds
 | .mk o s _ bd el=>(if o=1 then[s] else[])++(ji bd++ji el)
def ji:List Sm->Wds
 |[]=>[]
 |s::r=>nmS s++ji r
end
theorem RJ(s:Sm):nmS s=(if s.op=1 then[s.name] else[])++(ji s.body++ji s.els):=by cases s;rw[nmS];rfl
theorem FD:∀a b:List Sm,ji (a++b)=ji a++ji b
 |[],b=>by simp[ji]
 |s::r,b=>by rw[Xk,ji,ji,FD r b,Xi]
theorem LA{l:List Sm}{i:Nat}(h:i<l.length):ji (l.take (i+1))=ji (l.take i)++nmS l[i]:=by rw[aq h,FD,ji,ji,WT]
mutual
theorem Qb:∀s:Sm,(nmS s).length=tr s
 | .mk o s a bd el=>by
   rw[nmS,tr,WL,WL,pm bd,pm el]
   split
   ·simp only[List.length_singleton];omega
   ·simp only[Xm];omega
theorem pm:∀l:List Sm,(ji l).length=aS l
 |[]=>by rw[ji,aS];rfl
 |s::r=>by rw[ji,aS,WL,Qb s,pm r]
end
theorem Jx(l:List Sm):(ji l).length<=aC l:=by
 rw[pm];exact Xs (fZ l) (gg l)
def uu(out:Wds)(x:Sm × Nat):Wds:=if x.1.op=1 then out++[x.1.name] else out
mutual
theorem OS:∀(s:Sm) (d:Nat) (st:Wds),(s.pre d).foldl uu st=st++nmS s
 | .mk o n a bd el,d,st=>by
   rw[Sm.pre,List.foldl_cons,XG,zG bd,zG el,nmS,uu]
   by_cases ho:o=1
   ·simp[Sm.op,Sm.name,ho]
   ·simp[Sm.op,ho]
theorem zG:∀(l:List Sm) (d:Nat) (st:Wds),(aY d l).foldl uu st=st++ji l
 |[],d,st=>by simp[aY,ji]
 |s::r,d,st=>by rw[aY,XG,OS s,zG r,ji,Xi]
end
def vrN(f:Fd):Wds:=f.params++ji f.body
def vrR(l:List Fd)(k:Int)(s:List UInt8):Int:=if eL l=true/\inR k 0 ((l.length:Int)-1)=true then(match l[k.toNat]? with|some f=>idxS (vrN f) s|none=> -1) else-1
variable (G:aK)
def nmW(out:Wds)(l:List Sm):Wds:=out++ji l
theorem Jm(out:Wds):nmW out []=out:=by simp[nmW,ji]
theorem NM(out:Wds){l:List Sm}{i:Nat}(h:i<l.length):nmW out (l.take (i+1))=nmW (nmW (if l[i].op=1 then nmW out (l.take i)++[l[i].name] else nmW out (l.take i)) l[i].body) l[i].els:=by
 rw[nmW,LA h,RJ]
 simp only[nmW]
 split<;>simp
theorem zK(out:Wds)(l:List Sm):(nmW out l).length<=out.length+aC l:=by
 have:=Jx l
 rw[nmW,WL];omega
theorem KA:∀(N:Nat) (l:List Sm),aC l<N->∀out:Wds,out.length+aC l<=1099511627776->
 AC Tryz.prog G fg [.p (smL l),.sl 0 1 0 out.length] [bV out] λx h=>x= .ret (.sl 1 1 0 (nmW out l).length)/\h=[.dead,bV (nmW out l)]:=by
 intro N
 induction N with
 |zero=>intro l hl;omega
 |succ N ih=>
  intro l hl out hb
  have hll:=bE l
  have hsl:∀l,smL l= .lst 5 (l.map Sm.cs):=λ_=>rfl
  have hL:∀w:Wds,bV w= .row 1 (w.map λn=>[AV.p (.str n)]):=λ_=>rfl
  refine AC.go AM ?_
  simp-implicitDefEqProofs[pn]
  refine aN (λi:Nat=>az 40 [(0,.p (smL l)),(1,.sl 1 1 0 (nmW out (l.take i)).length),(5,.p (.int .i64 i))]) (λi=>[.dead,bV (nmW out (l.take i))]) (λi=>i<=l.length) (λi=>l.length-i) 0 (by simp) ?_ ?_
  ·exact ED [0,0] (by simp) (by simp) (by simp[iW,bV]) (dq (by simp) (cK (by simp[Jm]) (λx hx=>gN _ x hx) cg)) (by simp[below,ren,Jm,hsl])
  ·intro i hi
   have hl2:=zK out (l.take i)
   simp-implicitDefEqProofs[hsl]
   refine aO (λh=>?_) (λh=>?_)
   ·simp at h
    have hg:=Wz h
    have hT:=NM out h
    have hse:=l[i].cs_eq
    have hsz:=l[i].sz_eq
    have hzz:=IS h
    generalize nmW out (l.take i)=cur at hl2 hT⊢
    generalize l[i]=s at hg hT hse hsz hzz
    by_cases ho:s.op=1
    ·rw[if_pos ho] at hT
     have hb1:=zK (cur++[s.name]) s.body
     rw[WL,List.length_singleton] at hb1
     have hbc:=ih s.body (by omega) (cur++[s.name]) (by rw[WL,List.length_singleton];omega)
     have hec:=ih s.els (by omega) (nmW (cur++[s.name]) s.body) (by omega)
     have htl:List.take cur.length (cur.map λn=>[AV.p (.str n)])=cur.map λn=>[AV.p (.str n)]:=WF (by simp)
     have hlc:(cur++[s.name]).length=cur.length+1:=by simp
     have hrow:AO.row 1 ((cur.map λn=>[AV.p (.str n)])++[[.p (.str s.name)]])=bV (cur++[s.name]):=by simp[bV]
     simp-implicitDefEqProofs[hg,hse,ho,hL,htl]
     refine⟨⟨by omega,by omega⟩,?_⟩
     rw[hrow,←hlc]
     refine(BV G (args:=[.p (smL s.body)]) hbc (by simp[below]) (id:=3) rfl).mono ?_
     rintro r h' ⟨rfl,rfl⟩
     simp-implicitDefEqProofs[aa,hg,hse]
     refine(BV G (args:=[.p (smL s.els)]) hec (by simp[below]) (id:=4) rfl).mono ?_
     rintro r h' ⟨rfl,rfl⟩
     simp-implicitDefEqProofs[aa]
     refine⟨i+1,h,by omega,?_⟩
     rw[hT]
     exact dW [0,5] (by simp) (by decide) (by decide) (dq (by simp) (cK rfl (λx hx=>gN _ x hx) cg)) (by simp[below,ren,hsl,w1 (i:=i) (by omega)])
    ·rw[if_neg ho] at hT
     have hb1:=zK cur s.body
     have hbc:=ih s.body (by omega) cur (by omega)
     have hec:=ih s.els (by omega) (nmW cur s.body) (by omega)
     simp-implicitDefEqProofs[hg,hse,ho]
     refine(BV G (args:=[.p (smL s.body)]) hbc (by simp[below]) (id:=1) rfl).mono ?_
     rintro r h' ⟨rfl,rfl⟩
     simp-implicitDefEqProofs[aa,hg,hse]
     refine(BV G (args:=[.p (smL s.els)]) hec (by simp[below]) (id:=2) rfl).mono ?_
     rintro r h' ⟨rfl,rfl⟩
     simp-implicitDefEqProofs[aa]
     refine⟨i+1,h,by omega,?_⟩
     rw[hT]
     exact dW [0,3] (by simp) (by decide) (by decide) (dq (by simp) (cK rfl (λx hx=>gN _ x hx) cg)) (by simp[below,ren,hsl,w1 (i:=i) (by omega)])
   ·simp at h
    have hie:i=l.length:=by omega
    subst hie
    rw[WZ]
    simp-implicitDefEqProofs[]
theorem Az{l:Wds}{s:List UInt8}{i:Nat}(hi:i<l.length)(hp:∀x∈l.take i,¬x=s)(he:l[i]=s):idxS l s=i:=by
 have:l.findIdx? (λw=>w==s)=some i:=by
  rw[WU]
  exact⟨hi,by simpa using he,λj hj=>by have:=hp l[j] (XA.2 ⟨j,by omega,rfl⟩);simpa using this⟩
 rw[idxS,this]
theorem Kq{l:Wds}{s:List UInt8}(hp:∀x∈l,¬x=s):idxS l s= -1:=by
 have:l.findIdx? (λw=>w==s)=none:=by
  rw[Xd]
  intro x hx
  simpa using hp x hx
 rw[idxS,this]
theorem GP(l:List Fd)(hz:aZ l<=1073741824)(k:Int)(s:List UInt8):VF Tryz.prog G jE [.agg [.p (fdL l)],.p (.int .i64 k),.p (.str s)] (.p (.int .i64 (vrR l k s))):=by
 have hfl:fdL l= .lst 3 (l.map Fd.cs):=rfl
 have hll:=dK l
 refine AC.go CE ?_
 simp-implicitDefEqProofs[sy]
 refine(Ah G l hz).use ?_
 cases hb:eL l with
 |false=>simp-implicitDefEqProofs[vrR,hb]
 |true=>
  have hw:IntKind.i64.wrap ((l.length:Int)-1)=(l.length:Int)-1:=ab (by omega) (by omega)
  simp-implicitDefEqProofs[hfl,hw]
  refine(dh G k 0 ((l.length:Int)-1)).use ?_
  cases hk:inR k 0 ((l.length:Int)-1) with
  |false=>simp-implicitDefEqProofs[vrR,hk]
  |true=>
   have hk2:=hk
   simp only[inR,WM,decide_eq_true_eq] at hk2
   obtain⟨m,rfl⟩:∃m:Nat,k=m:=⟨k.toNat,by omega⟩
   have hlt:m<l.length:=by omega
   obtain⟨f,hf⟩:∃f,l[m]?=some f:=⟨_,Wz hlt⟩
   have hfc:=f.cs_eq'
   have hfz:=dp (WJ hf)
   have hfz2:f.sz=1+f.name.length+(f.params.length+(f.params.map List.length).sum)+aC f.body:=rfl
   have hst:aL f.params= .lst 1 (f.params.map λw=>[.str w]):=rfl
   clear hlt
   have hvr:vrR l m s=idxS (vrN f) s:=by
    rw[vrR,if_pos ⟨hb,hk⟩]
    simp only[Int.toNat_natCast,hf]
   rw[hvr]
   have hnm:=KA G (aC f.body+1) f.body (by omega) f.params (by omega)
   have hvl:=zK f.params f.body
   have hvn:nmW f.params f.body=vrN f:=rfl
   rw[hvn] at hnm hvl
   simp-implicitDefEqProofs[hf,hfc,hst]
   refine⟨⟨by omega,by omega⟩,?_⟩
   have hrow:AO.row 1 (List.map ((λx=>List.map AV.p x)∘λw=>[PV.str w]) f.params)=bV f.params:=by simp[bV]
   rw[hrow]
   refine(BV G (args:=[.p (smL f.body)]) hnm (by simp[below]) (id:=3) rfl).mono ?_
   rintro r h' ⟨rfl,rfl⟩
   obtain⟨ns,hns⟩:∃ns,ns=vrN f:=⟨_,rfl⟩
   rw[←hns] at hvl⊢
   have hL:bV ns= .row 1 (ns.map λn=>[AV.p (.str n)]):=rfl
   simp-implicitDefEqProofs[aa]
   refine aN (λi:Nat=>az 55 [(10,.p (.int .i64 i)),(9,.sl 4 1 0 ns.length),(2,.p (.str s))]) (λ_=>[AO.row 1 [[AV.p (PV.lst 3 (List.map Fd.cs l))]],AO.row 1 [[AV.p (cdL (lv l))]],AO.dead,AO.dead,bV ns]) (λi=>i<=ns.length/\∀x∈ns.take i,¬x=s) (λi=>ns.length-i) 0 (by simp) (am (by simp) (by simp[below])) ?_
   rintro i ⟨hi,hp⟩
   simp-implicitDefEqProofs[hL]
   refine aO (λhc=>?_) (λhc=>?_)
   ·simp at hc
    have hg:=Wz hc
    have htk:=aq hc
    have hfi:=Az hc hp
    generalize ns[i]=x at hg htk hfi
    simp-implicitDefEqProofs[hg]
    refine⟨hc,aO (λhe=>?_) (λhe=>?_)⟩
    ·have he:x=s:=by simpa using he
     rw[hfi he]
     simp-implicitDefEqProofs[]
    ·have he:¬x=s:=by simpa using he
     simp-implicitDefEqProofs[]
     refine⟨i+1,⟨by omega,λy hy=>?_⟩,by omega,am (by simp) (by simp[below,w1 (i:=i) (by omega)])⟩
     rw[htk] at hy
     rcases WE.1 hy with hy|hy
     ·exact hp y hy
     ·rw[WG.1 hy];exact he
   ·simp at hc
    rw[WF hc] at hp
    rw[Kq hp]
    simp-implicitDefEqProofs[]
def Sp(A B:AO)(b:Nat)(st:Wds)(id:Nat)(h:List AO):Prop:=
 b<h.length/\2<=b/\h[0]?=some A/\h[1]?=some B/\((st=[]/\id=0/\h[b]?=some (.row 1 [[.nils]]))\/(2<=id/\id≠b/\h[b]?=some (.row 1 [[.sl id 1 0 st.length]])/\h[id]?=some (bV st)))
def vHV(A B:AO)(b:Nat):HV Wds where
 F:=kw
 caps:=[.ptr b 1 0 0]
 n:=b+1
 Inv:=Sp A B b
 capsOk:=by simp[below]
 len:=λ{out id h} H=>by
  obtain⟨h1,h2,_,_,⟨_,rfl,_⟩|⟨_,_,_,h3⟩⟩:=H
  ·exact⟨h1,by omega⟩
  ·exact⟨h1,(Wy.1 h3).1⟩
 frame:=λ{out id h h'} H K=>by
  obtain⟨h1,h2,ha,hb,H⟩:=H
  have kb:=K b h1 (.inl (by omega))
  have hl:b<h'.length:=by
   rcases H with⟨_,_,e⟩|⟨_,_,e,_⟩
   ·rw[e] at kb;exact(Wy.1 kb).1
   ·rw[e] at kb;exact(Wy.1 kb).1
  refine⟨hl,h2,by rw[K 0 (by omega) (.inl (by omega))];exact ha,by rw[K 1 (by omega) (.inl (by omega))];exact hb,?_⟩
  rcases H with⟨a,c,e⟩|⟨a,c,e,f⟩
  ·exact .inl ⟨a,c,by rw[kb];exact e⟩
  ·exact .inr ⟨a,c,by rw[kb];exact e,by rw[K id (Wy.1 f).1 (.inr rfl)];exact f⟩
def HU(out:Wds)(k:Nat):Prop:=out.length+k<=1099511627776
theorem Lv:∀(st:Wds) (s:Sm) (d k:Nat),HU st (k+s.own)->HU (uu st (s,d)) k:=by
 intro st s d k h
 unfold HU uu at*
 have:1<=s.own:=by rw[Sm.own];omega
 split
 ·simp;omega
 ·omega
theorem Io(A B:AO)(b:Nat):∀(st:Wds) (s:Sm) (d k id:Nat) (h:List AO),HU st (k+s.own)->s.sz<=1073741824->(vHV A B b).Inv st id h->AC Tryz.prog G (vHV A B b).F (.agg (s.cs.map .p):: .p (.int .i64 (d:Nat))::(vHV A B b).caps) h λx h'=>x= .ret (.tup [])/\(vHV A B b).Left id h (uu st (s,d)) h':=by
 intro st s d k id h hk hz hI
 have hcs:=s.cs_eq
 have hm:Sp A B b st id h:=hI
 obtain⟨h1,h2,ha,hb,H⟩:=hI
 refine AC.go zA ?_
 show AKW _ _ _ _ (az 13 (zY 0 [.agg (s.cs.map .p),.p (.int .i64 (d:Nat)),.ptr b 1 0 0])) h _
 have hbm:∀t,(h++t)[b]?=h[b]?:=λt=>Wx h1
 have hown:1<=s.own:=by rw[Sm.own];omega
 have hk2:st.length+1<=1099511627776:=by unfold HU at hk;omega
 by_cases ho:s.op=1
 case neg=>
  have hp:uu st (s,d)=st:=if_neg ho
  rw[hp]
  simp-implicitDefEqProofs[gh,hcs,ho]
  exact⟨id,(vHV A B b).more hm _,by simp,λi hi _ _=>Wx hi,.inl rfl⟩
 have hp:uu st (s,d)=st++[s.name]:=if_pos ho
 rw[hp]
 have hbs:∀t o,((h++t).set b o)[b]?=some o:=λt o=>WH (by simp;omega)
 rcases H with⟨rfl,rfl,hbb⟩|⟨hid,hib,hbb,hr⟩
 ·simp-implicitDefEqProofs[gh,hcs,ho,hbm,hbb]
  refine⟨h.length+2,⟨by simp;omega,h2,?_,?_,.inr ⟨by omega,by omega,?_,?_⟩⟩,by simp,λi hi hin _=>?_,.inr (by simp)⟩
  ·rw[WB (by omega),Wx (by omega)];exact ha
  ·rw[WB (by omega),Wx (by omega)];exact hb
  ·exact hbs _ _
  ·rw[WB (by omega),WD (by omega)];simp[bV]
  ·have:b+1<=i:=hin
   rw[WB (by omega),Wx hi]
 ·have hil:=(Wy.1 hr).1
  have hrm:∀t,(h++t)[id]?=some (.row 1 (st.map λn=>[AV.p (.str n)])):=λt=>by rw[Wx hil];exact hr
  have htl:List.take st.length (st.map λn=>[AV.p (.str n)])=st.map λn=>[AV.p (.str n)]:=WF (by simp)
  have hbd:∀t u,((h++t).set id .dead++u)[b]?=h[b]?:=λt u=>by rw[Wx (by simp;omega),WB hib,hbm]
  simp-implicitDefEqProofs[gh,hcs,ho,hbm,hbb,hrm,htl, ↓hbd]
  refine⟨⟨by omega,by omega⟩,h.length+2,⟨by simp;omega,h2,?_,?_,.inr ⟨by omega,by omega,?_,?_⟩⟩,by simp;omega,λi hi hin hne=>?_,.inr (by simp)⟩
  ·rw[WB (by omega),Wx (by simp),WB (by omega),Wx (by omega)];exact ha
  ·rw[WB (by omega),Wx (by simp),WB (by omega),Wx (by omega)];exact hb
  ·rw[WL,List.length_singleton]
   exact WH (by simp;omega)
  ·rw[WB (by omega),WD (by simp)];simp[bV]
  ·have:b+1<=i:=hin
   rw[WB (by omega),Wx (by simp;omega),WB (Ne.symm hne),Wx hi]
def UA:AV->Nat
 | .sl id _ _ _=>id
 |_=>0
theorem It(l:Wds)(hl:l.length<=1073741824)(h:List AO):AC Tryz.prog G ey [.p (aL l)] h λx h'=>∃V os,x= .ret V/\h'=h++os/\((V= .nils/\l=[])\/∃id,V= .sl id 1 0 l.length/\h.length<=id/\h'[id]?=some (bV l)):=by
 have hsl:aL l= .lst 1 (l.map λw=>[.str w]):=rfl
 refine AC.go pc ?_
 simp-implicitDefEqProofs[iR,hsl]
 cases l with
 |nil=>
  simp[Hr]
  rfl
 |cons w r=>
  simp only[WP] at hl
  simp[Hr]
  refine⟨⟨by omega,by omega⟩,?_⟩
  simp[bV]
variable (hK:G jg=some iA) (hS:G dX=some [.tbl opK opV])
include hK hS
theorem Fe(l:List Fd)(hz:aZ l<=1073741824)(k:Int)(s:List UInt8):VF Tryz.prog G jG [.agg [.p (fdL l)],.p (.int .i64 k),.p (.str s)] (.p (.int .i64 (vrR l k s))):=by
 have hfl:fdL l= .lst 3 (l.map Fd.cs):=rfl
 have hll:=dK l
 refine AC.go Cq ?_
 simp-implicitDefEqProofs[sE]
 refine(pW G hK hS l hz).use ?_
 cases hb:eL l with
 |false=>simp-implicitDefEqProofs[vrR,hb]
 |true=>
  obtain⟨h0,hu⟩:=CZ hb
  have hlu:lv l=unL l:=by rw[lv,hb,if_pos rfl]
  have hul:cdL (unL l)= .lst 3 ((unL l).map Cd.cs):=rfl
  have hlen:=Pj l
  have hw:IntKind.i64.wrap ((l.length:Int)-1)=(l.length:Int)-1:=ab (by omega) (by omega)
  simp-implicitDefEqProofs[hlu,hul,hlen,hw]
  refine(cb G k 0 ((l.length:Int)-1)).use ?_
  cases hk:inR k 0 ((l.length:Int)-1) with
  |false=>simp-implicitDefEqProofs[vrR,hk]
  |true=>
   have hk2:=hk
   simp only[inR,WM,decide_eq_true_eq] at hk2
   obtain⟨m,rfl⟩:∃m:Nat,k=m:=⟨k.toNat,by omega⟩
   have hlt:m<l.length:=by omega
   obtain⟨f,hf⟩:∃f,l[m]?=some f:=⟨_,Wz hlt⟩
   have hfc:=f.cs_eq'
   have hfm:=WJ hf
   have hs:=iu (Ck h0)
   have hfz:=dp hfm
   have hfz2:f.sz=1+f.name.length+(f.params.length+(f.params.map List.length).sum)+aC f.body:=rfl
   clear hlt
   have hvr:vrR l m s=idxS (vrN f) s:=by
    rw[vrR,if_pos ⟨hb,hk⟩]
    simp only[Int.toNat_natCast,hf]
   rw[hvr]
   have hnz:=Jx f.body
   have hvl:(vrN f).length<=1048576:=by rw[vrN,WL];omega
   simp-implicitDefEqProofs[hfl,hf,hfc]
   refine(It G f.params (by omega) _).mono ?_
   rintro x X ⟨V,os,rfl,rfl,hV⟩
   have hVc:V.isCell=true/\V.cells=[V]:=by
    rcases hV with⟨rfl,_⟩|⟨id,rfl,_⟩<;>exact⟨rfl,rfl⟩
   obtain⟨b,hbx⟩:∃b,b=os.length+2:=⟨_,rfl⟩
   obtain⟨A,hA⟩:∃A,A=AO.row 1 [[AV.p (PV.lst 3 (List.map Fd.cs l))]]:=⟨_,rfl⟩
   obtain⟨B,hB⟩:∃B,B=AO.row 1 [[AV.p (PV.lst 3 (List.map Cd.cs (unL l)))]]:=⟨_,rfl⟩
   obtain⟨X2,hX2⟩:∃X2,X2=A::B::(os++[AO.row 1 [[V]]]):=⟨_,rfl⟩
   have hI:Sp A B b f.params (UA V) X2:=by
    refine⟨by rw[hX2];simp;omega,by omega,by rw[hX2];rfl,by rw[hX2];rfl,?_⟩
    have hbb:X2[b]?=some (.row 1 [[V]]):=by rw[hX2,hbx];simp
    rcases hV with⟨rfl,e⟩|⟨id,rfl,hid,hidr⟩
    ·exact .inl ⟨e,rfl,hbb⟩
    ·have hil:=(Wy.1 hidr).1
     simp at hil hid
     refine .inr ⟨hid,by show id≠b;omega,hbb,?_⟩
     rw[hX2]
     obtain⟨j,rfl⟩:∃j,id=j+2:=⟨id-2,by omega⟩
     have:(A::B::os)[j+2]?=some (bV f.params):=by
      have h3:=hidr
      simp at h3
      simpa using h3
     show(A::B::(os++[AO.row 1 [[AV.sl (j+2) 1 0 f.params.length]]]))[j+2]?=_
     simp only[WQ] at this⊢
     rw[Wx (by omega)]
     exact this
   have hst:=Ny G (vHV A B b) uu HU 1073741824 (by omega) Lv (Io G A B b) (aC f.body+1) f.body (by omega) (by omega) 1 (by omega) f.params 0 _ X2 (by unfold HU;omega) hI
   rw[zG] at hst
   simp-implicitDefEqProofs[-AV.cells,-AV.isCell,aI,af,ag,au,aH,ae,aw,hVc,aa,hf,hfc]
   have eb:os.length+1+1=b:=by omega
   rw[eb,←hA,←hB,←hX2]
   refine hst.mono ?_
   rintro r X3 ⟨rfl,id3,hI3,hl3,_,_⟩
   obtain⟨_,_,_,_,hI3⟩:=hI3
   have hvn:f.params++ji f.body=vrN f:=rfl
   rw[hvn] at hI3
   have hidx:=JT G (vrN f) s hvl
   rcases hI3 with⟨he,_,hbb⟩|⟨_,_,hbb,hr3⟩
   ·simp-implicitDefEqProofs[aa,hbb]
    rw[he] at hidx⊢
    refine(hidx.lend (.one (View.nils 1) (.one (.p _) .nil)) rfl).mono ?_
    rintro r h ⟨rfl,rfl⟩
    simp-implicitDefEqProofs[aa]
   ·simp-implicitDefEqProofs[aa,hbb]
    refine(hidx.lend (.one (gO hr3) (.one (.p _) .nil)) rfl).mono ?_
    rintro r h ⟨rfl,rfl⟩
    simp-implicitDefEqProofs[aa]
end
section
section
variable {fa fa':List UInt8->Int} {fns:List Fd} {k:Nat} (hfa:∀s j,da (fns.take k) s=some j->fa s=fa' s)
include hfa
end
theorem EJ{fns:List Fd}:∀{l:List Fd} {k:Nat} {c:Int},gX fns k l c=0->∀(i:Nat) (f:Fd),l[i]?=some f->∃c',icF fns (k+i) f c'=0
 |[],k,c,h,i,f,hf=>by cases hf
 |g::r,k,c,h,i,f,hf=>by
  rw[gX] at h
  cases i with
  |zero=>
   cases hf
   refine⟨c,?_⟩
   by_cases hc:icF fns k g c=0
   ·exact hc
   ·rw[od fns hc] at h;exact h
  |succ i=>
   obtain⟨c',hc'⟩:=EJ h i f (by simpa using hf)
   exact⟨c',by rwa[show k+1+i=k+(i+1) by omega] at hc'⟩
end
section
def Byt(l:List Int):Prop:=∀n∈l,0<=n/\n<=255
def rdO(b:List Int)(p:Nat):AO:= .row 2 [[.p (vH b),.p (.int .i64 p)]]
theorem Li{a b:Int}(ha:0<=a)(ha2:a<4611686018427387904)(hb:0<=b)(hb2:b<4611686018427387904):∃n:Nat,IntKind.i64.wrap ((BitVec.ofInt IntKind.i64.bits a^^^BitVec.ofInt IntKind.i64.bits b).toNat:Int)=n:=by
 refine⟨(BitVec.ofInt IntKind.i64.bits a^^^BitVec.ofInt IntKind.i64.bits b).toNat,?_⟩
 obtain⟨x,rfl⟩:∃x:Nat,a=x:=⟨a.toNat,by omega⟩
 obtain⟨y,rfl⟩:∃y:Nat,b=y:=⟨b.toNat,by omega⟩
 have h1:(BitVec.ofInt 64 (x:Int)).toNat=x:=by simp;omega
 have h2:(BitVec.ofInt 64 (y:Int)).toNat=y:=by simp;omega
 have h3:(BitVec.ofInt 64 (x:Int)^^^BitVec.ofInt 64 (y:Int)).toNat<2^63:=by
  rw[BitVec.toNat_xor,h1,h2]
  exact Nat.xor_lt_two_pow (by omega) (by omega)
 have h4:(BitVec.ofInt IntKind.i64.bits (x:Int)^^^BitVec.ofInt IntKind.i64.bits (y:Int)).toNat<2^63:=h3
 exact ab (by omega) (by omega)
theorem Jj{a:Nat}{n:Int}(hn:1<=n):∃k:Nat,((a:Int).tmod n)=k/\(k:Int)<n:=by
 obtain⟨m,rfl⟩:∃m:Nat,n=m:=⟨n.toNat,by omega⟩
 refine⟨a%m,?_,?_⟩
 ·rfl
 ·have:a%m<m:=Nat.mod_lt _ (by omega)
  omega
variable (G:aK)
theorem Sd(l:List Int):AC Tryz.prog G lq [.p (vH l)] [] λx h=>x= .ret (.ptr 0 2 0 0)/\h=[rdO (l.take 2000) 0]:=by
 refine AC.go AY ?_
 have hbl:vH l= .lst 1 (l.map λn=>[.int .u8 n]):=rfl
 simp-implicitDefEqProofs[pJ,hbl]
 refine aO (λh=>?_) (λh=>?_)
 ·simp at h
  have:2000<=l.length:=by omega
  simp-implicitDefEqProofs[this,rdO,vH,List.map_take]
 ·simp at h
  have:l.take 2000=l:=WF (by omega)
  simp-implicitDefEqProofs[rdO,this,vH]
theorem RH(b:List Int)(hb:Byt b)(hl:b.length<=2000)(p:Nat)(hp:p<=1099511627776)(n:Int):AC Tryz.prog G aQ [.ptr 0 2 0 0,.p (.int .i64 n)] [rdO b p] λx h=>∃k:Nat,x= .ret (.p (.int .i64 k))/\h=[rdO b (p+1)]/\((k:Int)<n\/k=0):=by
 refine AC.go tX ?_
 have hbl:vH b= .lst 1 (b.map λn=>[.int .u8 n]):=rfl
 have hw:IntKind.i64.wrap ((p:Int)+1)=((p+1:Nat):Int):=w1 (by omega)
 by_cases hn:n<1
 ·simp-implicitDefEqProofs[eN,rdO,hbl,hw,hn]
  exact⟨0,rfl,.inr rfl⟩
 by_cases hbn:b=[]
 ·subst hbn
  have hb0:vH []= .lst 1 []:=rfl
  simp-implicitDefEqProofs[eN,rdO,hb0,hw,hn]
  exact⟨0,rfl,.inr rfl⟩
 have hpos:0<b.length:=XD.2 hbn
 have hlb:¬b.length=0:=by omega
 have hn0:¬n=0:=by omega
 have hw2:IntKind.i64.wrap (p:Int)=(p:Int):=ab (by omega) (by omega)
 have at_:∀q:Nat,∃c:Int,b[q%b.length]?=some c/\0<=c/\c<=255:=λq=>by
  have h:=Nat.mod_lt q hpos
  exact⟨_,Wz h,hb _ (WN h)⟩
 simp-implicitDefEqProofs[eN,rdO,hbl,hw,hn,hbn,hw2]
 refine aO (λh1=>?_) (λh1=>?_)
 ·simp at h1
  obtain⟨c,e1,e2,e3⟩:=at_ p
  rw[Nat.mod_eq_of_lt h1] at e1
  obtain⟨d,rfl⟩:∃d:Nat,c=d:=⟨c.toNat,by omega⟩
  obtain⟨k,q1,q2⟩:=Jj (a:=d) (n:=n) (by omega)
  have hw3:IntKind.i64.wrap (d:Int)=d:=ab (by omega) (by omega)
  simp-implicitDefEqProofs[e1,hw3,hn0,q1]
  exact⟨k,rfl,.inl q2⟩
 ·simp at h1
  obtain⟨c1,e1,e2,e3⟩:=at_ p
  obtain⟨c2,f1,f2,f3⟩:=at_ (p*7+3)
  have hq:p/b.length<=p:=Nat.div_le_self _ _
  have ht1:(p:Int).tmod (b.length:Int)=((p%b.length:Nat):Int):=rfl
  have ht2:((p:Int)*7+3).tmod (b.length:Int)=(((p*7+3)%b.length:Nat):Int):=rfl
  have ht3:(p:Int).tdiv (b.length:Int)=((p/b.length:Nat):Int):=rfl
  generalize p/b.length=q at hq ht3
  generalize p%b.length=r1 at e1 ht1
  generalize (p*7+3)%b.length=r2 at f1 ht2
  obtain⟨x1,rfl⟩:∃d:Nat,c1=d:=⟨c1.toNat,by omega⟩
  obtain⟨x2,rfl⟩:∃d:Nat,c2=d:=⟨c2.toNat,by omega⟩
  obtain⟨m,hx⟩:=Li (a:=x1*131+x2*1117+p*29+q*53) (b:=(x1*131+x2*1117+p*29+q*53)/64) (by omega) (by omega) (by omega) (by omega)
  obtain⟨k,q1,q2⟩:=Jj (a:=m) (n:=n) (by omega)
  have ht4:((x1:Int)*131+x2*1117+p*29+q*53).tdiv 64=((x1:Int)*131+x2*1117+p*29+q*53)/64:=Int.tdiv_eq_ediv_of_nonneg (by omega)
  have w1:IntKind.i64.wrap ((p:Int)*7)=(p:Int)*7:=ab (by omega) (by omega)
  have w2:IntKind.i64.wrap ((p:Int)*7+3)=(p:Int)*7+3:=ab (by omega) (by omega)
  have w3:IntKind.i64.wrap ((p:Int)*29)=(p:Int)*29:=ab (by omega) (by omega)
  have w4:IntKind.i64.wrap (x1:Int)=x1:=ab (by omega) (by omega)
  have w5:IntKind.i64.wrap (x2:Int)=x2:=ab (by omega) (by omega)
  have w6:IntKind.i64.wrap ((x1:Int)*131)=(x1:Int)*131:=ab (by omega) (by omega)
  have w7:IntKind.i64.wrap ((x2:Int)*1117)=(x2:Int)*1117:=ab (by omega) (by omega)
  have w8:IntKind.i64.wrap ((x1:Int)*131+x2*1117)=(x1:Int)*131+x2*1117:=ab (by omega) (by omega)
  have w9:IntKind.i64.wrap ((x1:Int)*131+x2*1117+p*29)=(x1:Int)*131+x2*1117+p*29:=ab (by omega) (by omega)
  have w10:IntKind.i64.wrap (q:Int)=q:=ab (by omega) (by omega)
  have w11:IntKind.i64.wrap ((q:Int)*53)=(q:Int)*53:=ab (by omega) (by omega)
  have w12:IntKind.i64.wrap ((x1:Int)*131+x2*1117+p*29+q*53)=(x1:Int)*131+x2*1117+p*29+q*53:=ab (by omega) (by omega)
  have w13:IntKind.i64.wrap (((x1:Int)*131+x2*1117+p*29+q*53)/64)=((x1:Int)*131+x2*1117+p*29+q*53)/64:=ab (by omega) (by omega)
  simp-implicitDefEqProofs[hlb,ht1,ht2,ht3,e1,f1,w1,w2,w3,w4,w5,w6,w7,w8,w9,w10,w11,w12,w13,ht4,hx,hn0,q1]
  simp-implicitDefEqProofs[] at hx
  rw[hx]
  exact⟨k,q1,.inl q2⟩
theorem bw(b:List Int)(p n:Nat):okO n (rdO b p):=by simp[okO,rdO]
theorem bf(b:List Int)(hb:Byt b)(hl:b.length<=2000)(p:Nat)(hp:p<=1099511627776)(n:Int)(rest:List AO):AC Tryz.prog G aQ [.ptr 0 2 0 0,.p (.int .i64 n)] (rdO b p::rest) λx h=>∃k:Nat,x= .ret (.p (.int .i64 k))/\h=rdO b (p+1)::rest/\((k:Int)<n\/k=0):=by
 refine((RH G b hb hl p hp n).pre rest (by simp[below]) (λo ho=>by rw[WG.1 ho];exact bw _ _ _) ?_).mono ?_
 ·rintro x h ⟨k,_,rfl,_⟩;rfl
 ·rintro x h ⟨h1,⟨k,e1,rfl,e3⟩,rfl⟩
  exact⟨k,e1,rfl,e3⟩
theorem QS{f:FuncId}{args:List AV}{b:List Int}{p:Nat}{o:AO}{R:AV->Nat->Prop}(H:AC Tryz.prog G f (.ptr 0 2 0 0::args) [rdO b p,o] λx h=>∃v q,x= .ret (.p v)/\h=[rdO b q,o]/\R (.p v) q)(ho:okO 0 o)
 {h:List AO}{k:Nat}{args':List AV}(hk:k≠0)(h0:h[0]?=some (rdO b p))(h1:h[k]?=some o)(hT:TW [0,k] args' args):AC Tryz.prog G f (.ptr 0 2 0 0::args') h λx h'=>∃v q,x= .ret (.p v)/\h'=h.set 0 (rdO b q)/\R (.p v) q:=by
 have nd:[0,k].Nodup:=by simp;omega
 refine(H.frame (args:= .ptr 0 2 0 0::args') [0,k] nd (by rw[tw];exact⟨.inr ⟨by simp[below],rfl⟩,hT⟩) (cK h0 (bw _ _ _) (cK h1 ho cg))).mono ?_
 rintro x h' ⟨x0,h2,⟨v,q,rfl,rfl,r⟩,_,rfl,rfl⟩
 refine⟨v,q,by simp[BX,ren],?_,r⟩
 have e1:∀σ,gy σ (rdO b q)=rdO b q:=λσ=>um (n:=0) (λi hi=>by omega) _ (bw _ _ _)
 have e2:∀σ,gy σ o=o:=λσ=>um (n:=0) (λi hi=>by omega) _ ho
 simp only[List.take,WP,Xm,WY,Xv,e1,e2,mrg,List.drop,WT]
 refine List.ext_getElem? λi=>?_
 rw[List.getElem?_set]
 split
 ·rename_i e;subst e
  rw[WB (Ne.symm hk)]
  split
  ·exact h1.symm
  ·rename_i hl
   have:=(Wy.1 h1).1
   simp at hl;omega
 ·rfl
theorem RZ(b:List Int)(hb:Byt b)(hl:b.length<=2000)(p:Nat)(hp:p<=1099511627776)(l:List Int)(hne:l≠[])(hll:l.length<=1099511627776):AC Tryz.prog G cJ [.ptr 0 2 0 0,.sl 1 1 0 l.length] [rdO b p,Fg l] λx h=>∃v q,x= .ret (.p v)/\h=[rdO b q,Fg l]/\(∃n,v= .int .i64 n/\n∈l)/\q=p+1:=by
 refine AC.go nC ?_
 have hpos:0<l.length:=XD.2 hne
 simp-implicitDefEqProofs[jl]
 refine(bf G b hb hl p hp l.length [Fg l]).mono ?_
 rintro r h ⟨k,rfl,rfl,hk⟩
 have hkl:k<l.length:=by omega
 have hg:=Wz hkl
 have hn:Fg l= .row 1 (l.map λn=>[.p (.int .i64 n)]):=rfl
 simp-implicitDefEqProofs[aa,hkl,hn,hg]
theorem lY{b:List Int}(hb:Byt b)(hl:b.length<=2000){p:Nat}(hp:p<=1099511627776)(l:List Int){h:List AO}{k:Nat}(hne:l≠[])(hll:l.length<=1099511627776)(hk:k≠0)(h0:h[0]?=some (rdO b p))(h1:h[k]?=some (Fg l)):
 AC Tryz.prog G cJ [.ptr 0 2 0 0,.sl k 1 0 l.length] h λx h'=>∃n,n∈l/\x= .ret (.p (.int .i64 n))/\h'=h.set 0 (rdO b (p+1)):=by
 refine(QS G (args:=[.sl 1 1 0 l.length]) (R:=λv q=>(∃n,v= .p (.int .i64 n)/\n∈l)/\q=p+1) ((RZ G b hb hl p hp l hne hll).mono ?_) (by simp[okO,Fg]) (args':=[.sl k 1 0 l.length]) hk h0 h1 (by simp[below,ren])).mono ?_
 ·rintro x h ⟨v,q,e1,e2,⟨n,rfl,e3⟩,e4⟩
  exact⟨_,q,e1,e2,⟨n,rfl,e3⟩,e4⟩
 ·rintro x h' ⟨v,q,e1,e2,⟨n,e3,e4⟩,e5⟩
  cases e3;subst e5
  exact⟨n,e4,e1,e2⟩
theorem Uo(b:List Int)(hb:Byt b)(hl:b.length<=2000)(p:Nat)(hp:p<=1099511627776)(l:List (List UInt8))(hne:l≠[])(hll:l.length<=1099511627776):AC Tryz.prog G di [.ptr 0 2 0 0,.sl 1 1 0 l.length] [rdO b p,bV l] λx h=>∃v q,x= .ret (.p v)/\h=[rdO b q,bV l]/\(∃s,v= .str s/\s∈l)/\q=p+1:=by
 refine AC.go oO ?_
 have hpos:0<l.length:=XD.2 hne
 simp-implicitDefEqProofs[kf]
 refine(bf G b hb hl p hp l.length [bV l]).mono ?_
 rintro r h ⟨k,rfl,rfl,hk⟩
 have hkl:k<l.length:=by omega
 have hg:=Wz hkl
 have hn:bV l= .row 1 (l.map λn=>[.p (.str n)]):=rfl
 simp-implicitDefEqProofs[aa,hkl,hn,hg]
theorem GQ{b:List Int}(hb:Byt b)(hl:b.length<=2000){p:Nat}(hp:p<=1099511627776)(l:List (List UInt8)){h:List AO}{k:Nat}(hne:l≠[])(hll:l.length<=1099511627776)(hk:k≠0)(h0:h[0]?=some (rdO b p))(h1:h[k]?=some (bV l)):
 AC Tryz.prog G di [.ptr 0 2 0 0,.sl k 1 0 l.length] h λx h'=>∃s,s∈l/\x= .ret (.p (.str s))/\h'=h.set 0 (rdO b (p+1)):=by
 refine(QS G (args:=[.sl 1 1 0 l.length]) (R:=λv q=>(∃n,v= .p (.str n)/\n∈l)/\q=p+1) ((Uo G b hb hl p hp l hne hll).mono ?_) (by simp[okO,bV]) (args':=[.sl k 1 0 l.length]) hk h0 h1 (by simp[below,ren])).mono ?_
 ·rintro x h ⟨v,q,e1,e2,⟨n,rfl,e3⟩,e4⟩
  exact⟨_,q,e1,e2,⟨n,rfl,e3⟩,e4⟩
 ·rintro x h' ⟨v,q,e1,e2,⟨n,e3,e4⟩,e5⟩
  cases e3;subst e5
  exact⟨n,e4,e1,e2⟩
theorem EP{b:List Int}(hb:Byt b)(hl:b.length<=2000){p:Nat}(hp:p<=1099511627776)(l:List (List UInt8))(hne:l≠[])(hll:l.length<=1099511627776)(rest:List AO):AC Tryz.prog G di [.ptr 0 2 0 0,.p (aL l)] (rdO b p::rest) λx h=>∃s,s∈l/\x= .ret (.p (.str s))/\h=rdO b (p+1)::rest:=by
 have key:AC Tryz.prog G di [.ptr 0 2 0 0,.p (aL l)] [rdO b p] λx h=>∃s,s∈l/\x= .ret (.p (.str s))/\h=[rdO b (p+1)]:=by
  refine AC.go oO ?_
  have hpos:0<l.length:=XD.2 hne
  have hsl:aL l= .lst 1 (l.map λw=>[.str w]):=rfl
  simp-implicitDefEqProofs[kf,hsl]
  refine(bf G b hb hl p hp l.length []).mono ?_
  rintro r h ⟨k,rfl,rfl,hk⟩
  have hkl:k<l.length:=by omega
  have hg:=Wz hkl
  simp-implicitDefEqProofs[aa,hg]
 refine(key.pre rest (by simp[below]) (λo ho=>by rw[WG.1 ho];exact bw _ _ _) ?_).mono ?_
 ·rintro x h ⟨k,_,_,rfl⟩;rfl
 ·rintro x h ⟨h1,⟨s,e1,e2,rfl⟩,rfl⟩
  exact⟨s,e1,e2,rfl⟩
def DP(b:List Int)(Q:AV->Nat->Prop)(x:ARes)(h:List AO):Prop:=∃v rest q v1,x= .ret v/\h=rdO b q::rest/\Fzs (.dead::rest) 1 [v] [v1]/\Q v1 q
theorem oy{f:FuncId}{args:List AV}{b:List Int}{p:Nat}{Q:AV->Nat->Prop}(H:AC Tryz.prog G f args [rdO b p] (DP b Q)):AC Tryz.prog G f args [rdO b p] λx h=>∃v q,x= .ret v/\h=[rdO b q]/\Q v q:=by
 refine H.frz 1 (WK _) (λt v h ⟨_,_,_,_,e,_⟩=>by cases e) ?_
 rintro v h ⟨v0,rest,q,v1,e,rfl,hf,r⟩
 cases e
 exact⟨v1,[rdO b q],by simp,rfl,hf,.same (bw _ _ _) (.nil _),v1,q,rfl,rfl,r⟩
theorem ku{f:FuncId}{args:List AV}{b:List Int}{p:Nat}{Q:AV->Nat->Prop}(H:AC Tryz.prog G f args [rdO b p] λx h=>∃v q,x= .ret v/\h=[rdO b q]/\Q v q)(rest:List AO)(ha:ay 1 args):AC Tryz.prog G f args (rdO b p::rest) λx h=>∃v q,x= .ret v/\h=rdO b q::rest/\Q v q:=by
 refine(H.pre rest ha (λo ho=>by rw[WG.1 ho];exact bw _ _ _) ?_).mono ?_
 ·rintro x h ⟨k,_,_,rfl,_⟩;rfl
 ·rintro x h ⟨h1,⟨s,q,e1,rfl,e2⟩,rfl⟩
  exact⟨s,q,e1,rfl,e2⟩
end
section
def uL(l:List (List UInt8)):Prop:=l.length<=1000000/\∀s∈l,s.length<=8
theorem ep{h:List AO}{id:Nat}{l:List Ex}(e:h[id]?=some (.row 4 (l.map λx=>x.cs.map .p))):View h (.sl id 4 0 l.length) (exL l):=by
 have:=iD (h:=h) (id:=id) (sz:=4) (n:=l.length) (ls:=l.map Ex.cs) (by rw[e];simp) (by simp) (λx hx=>by obtain⟨b,_,rfl⟩:=Xb.1 hx;exact b.cs_len)
 exact this
variable (G:aK)
def ExQ(p n m:Nat)(v:AV)(q:Nat):Prop:=(∃e:Ex,v= .agg (e.cs.map .p)/\e.sz<=n)/\p<=q/\q<=p+m
theorem Be{b:List Int}(hb:Byt b)(hl:b.length<=2000){p:Nat}(hp:p<=1000000000000)(names:List (List UInt8))(hn:uL names):AC Tryz.prog G du [.ptr 0 2 0 0,.p (aL names)] [rdO b p] λx h=>∃v q,x= .ret v/\h=[rdO b q]/\ExQ p 9 2 v q:=by
 refine oy G (AC.go sj ?_)
 have hsl:aL names= .lst 1 (names.map λw=>[.str w]):=rfl
 have fin1:∀(o n:Int) (s:List UInt8) (q:Nat) (rest:List AO),p<=q->q<=p+2->s.length<=8->DP b (ExQ p 9 2) (.ret (.agg [.p (.int .i64 o),.p (.int .i64 n),.p (.str s),.nils])) (rdO b q::rest):=λo n s q rest h1 h2 hs=>
  ⟨_,rest,q,.agg ((Ex.mk o n s []).cs.map .p),rfl,rfl,.agg (.keep (by simp) (.keep (by simp) (.keep (by simp) (.one (View.nils 4) .nil)))) .nil,⟨_,rfl,by simp[Ex.sz,aM];omega⟩,h1,h2⟩
 have num:∀(q:Nat) (h:List AO),q<=1000000000001->h[0]?=some (rdO b q)->h[2]?=some (Fg [0,1,2,3,5,7,15,16,100,255])->_:=λq h hq h0 h1=>lY G hb hl (p:=q) (by omega) [0,1,2,3,5,7,15,16,100,255] (h:=h) (k:=2) (by simp) (by simp) (by omega) h0 h1
 by_cases hne:names=[]
 ·subst hne
  have hs0:aL []= .lst 1 []:=rfl
  simp-implicitDefEqProofs[fY,hs0]
  refine(num p _ (by omega) rfl rfl).mono ?_
  rintro r h ⟨n,_,rfl,rfl⟩
  simp-implicitDefEqProofs[aa]
  exact fin1 _ _ _ _ _ (by omega) (by omega) (by simp)
 ·have hlen:¬names.length=0:=λh=>hne (XF h)
  simp-implicitDefEqProofs[fY,hsl,hne]
  refine(bf G b hb hl p (by omega) 3 _).mono ?_
  rintro r h ⟨k,rfl,rfl,_⟩
  simp-implicitDefEqProofs[aa]
  refine aO (λhc=>?_) (λhc=>?_)
  ·simp-implicitDefEqProofs[]
   refine(num (p+1) _ (by omega) rfl rfl).mono ?_
   rintro r h ⟨n,_,rfl,rfl⟩
   simp-implicitDefEqProofs[aa]
   exact fin1 _ _ _ _ _ (by omega) (by omega) (by simp)
  ·simp-implicitDefEqProofs[]
   rw[←hsl]
   refine(EP G hb hl (by omega) names hne (by have:=hn.1;omega) _).mono ?_
   rintro r h ⟨s,hs,rfl,rfl⟩
   have:=hn.2 s hs
   simp-implicitDefEqProofs[aa]
   exact fin1 _ _ _ _ _ (by omega) (by omega) this
theorem Al{b:List Int}(hb:Byt b)(hl:b.length<=2000)(names:List (List UInt8))(hn:uL names):∀(d:Nat),d<=20->∀{p:Nat},p+6*3^d<=1000000000000->AC Tryz.prog G bc [.ptr 0 2 0 0,.p (aL names),.p (.int .i64 d)] [rdO b p] λx h=>∃v q,x= .ret v/\h=[rdO b q]/\ExQ p (10*3^d) (6*3^d) v q:=by
 intro d
 induction d with
 |zero=>
  intro _ p hp
  refine oy G (AC.go mS ?_)
  simp-implicitDefEqProofs[er]
  refine(ku G (Be G hb hl (by omega) names hn) _ (by simp[below])).mono ?_
  rintro r h ⟨v,q,rfl,rfl,⟨e,rfl,he⟩,h1,h2⟩
  have hec:=e.cs_eq
  simp-implicitDefEqProofs[aa,hec]
  exact⟨_,_,q,.agg (e.cs.map .p),rfl,rfl,.agg (by rw[hec];exact iv (by simp)) .nil,⟨e,rfl,by omega⟩,h1,by omega⟩
 |succ d ih=>
  intro hd p hp
  have hpow:3^(d+1)=3*3^d:=by rw[Nat.pow_succ];omega
  have h1p:1<=3^d:=Nat.one_le_pow _ _ (by omega)
  have ih:=λ{p:Nat} (hp:p+6*3^d<=1000000000000)=>ih (by omega) (p:=p) hp
  rw[hpow] at hp⊢
  generalize 3^d=t at*
  have hw:IntKind.i64.wrap (d:Int)=(d:Int):=ab (by omega) (by omega)
  have leaf:∀(q:Nat) (rest:List AO),p<=q->q<=p+3->AC Tryz.prog G du [.ptr 0 2 0 0,.p (aL names)] (rdO b q::rest) λx h=>∃v q',x= .ret v/\h=rdO b q'::rest/\ExQ q 9 2 v q':=λq rest _ _=>ku G (Be G hb hl (by omega) names hn) rest (by simp[below])
  have sub:∀(q:Nat) (rest:List AO),p<=q->q<=p+6+6*t->AC Tryz.prog G bc [.ptr 0 2 0 0,.p (aL names),.p (.int .i64 d)] (rdO b q::rest) λx h=>∃v q',x= .ret v/\h=rdO b q'::rest/\ExQ q (10*t) (6*t) v q':=λq rest _ _=>ku G (ih (by omega)) rest (by simp[below])
  refine oy G (AC.go mS ?_)
  have leafCase:∀(e:Ex) (q:Nat) (rest:List AO),e.sz<=9->p<=q->q<=p+5->DP b (ExQ p (10*(3*t)) (6*(3*t))) (.ret (.agg (e.cs.map .p))) (rdO b q::rest):=λe q rest h1 h2 h3=>
   ⟨_,_,q,.agg (e.cs.map .p),rfl,rfl,.agg (by rw[e.cs_eq];exact iv (by simp)) .nil,⟨e,rfl,by omega⟩,h2,by omega⟩
  have bin:∀(o:Int) (e1 e2:Ex) (q:Nat) (rest:List AO) (k:Nat),(rdO b q::rest)[k+1]?=some (.row 4 [e1.cs.map .p,e2.cs.map .p])->e1.sz<=10*t->e2.sz<=10*t->p<=q->q<=p+6*(3*t)->DP b (ExQ p (10*(3*t)) (6*(3*t))) (.ret (.agg [.p (.int .i64 o),.p (.int .i64 0),.p (.str []),.sl (k+1) 4 0 2])) (rdO b q::rest):=λo e1 e2 q rest k hk h1 h2 h3 h4=>
   ⟨_,rest,q,.agg ((Ex.mk o 0 [] [e1,e2]).cs.map .p),rfl,rfl,.agg (.keep (by simp) (.keep (by simp) (.keep (by simp) (.one (ep (l:=[e1,e2]) (by simpa using hk)) .nil)))) .nil,⟨_,rfl,by simp[Ex.sz,aM];omega⟩,h3,h4⟩
  have una:∀(o:Int) (e1:Ex) (q:Nat) (rest:List AO) (k:Nat),(rdO b q::rest)[k+1]?=some (.row 4 [e1.cs.map .p])->e1.sz<=10*t->p<=q->q<=p+6*(3*t)->DP b (ExQ p (10*(3*t)) (6*(3*t))) (.ret (.agg [.p (.int .i64 o),.p (.int .i64 0),.p (.str []),.sl (k+1) 4 0 1])) (rdO b q::rest):=λo e1 q rest k hk h1 h3 h4=>
   ⟨_,rest,q,.agg ((Ex.mk o 0 [] [e1]).cs.map .p),rfl,rfl,.agg (.keep (by simp) (.keep (by simp) (.keep (by simp) (.one (ep (l:=[e1]) (by simpa using hk)) .nil)))) .nil,⟨_,rfl,by simp[Ex.sz,aM];omega⟩,h3,h4⟩
  by_cases hd0:d=0
  ·subst hd0
   simp-implicitDefEqProofs[er]
   refine(leaf p _ (by omega) (by omega)).mono ?_
   rintro r h ⟨v,q,rfl,rfl,⟨e,rfl,he⟩,h1,h2⟩
   have hec:=e.cs_eq
   simp-implicitDefEqProofs[aa,hec]
   have:=leafCase e q [.row 4 [e.cs.map .p]] he h1 (by omega)
   rw[hec] at this
   exact this
  have hd2:¬(d:Int)+1<2:=by omega
  simp-implicitDefEqProofs[er,hd2]
  refine(bf G b hb hl p (by omega) 4 _).mono ?_
  rintro r h ⟨k1,rfl,rfl,_⟩
  simp-implicitDefEqProofs[aa]
  refine aO (λhc=>?_) (λhc=>?_)
  ·simp-implicitDefEqProofs[]
   refine(leaf (p+1) _ (by omega) (by omega)).mono ?_
   rintro r h ⟨v,q,rfl,rfl,⟨e,rfl,he⟩,h1,h2⟩
   have hec:=e.cs_eq
   simp-implicitDefEqProofs[aa,hec]
   have:=leafCase e q [.row 4 [e.cs.map .p]] he (by omega) (by omega)
   rw[hec] at this
   exact this
  simp-implicitDefEqProofs[]
  refine(bf G b hb hl (p+1) (by omega) 7 _).mono ?_
  rintro r h ⟨k2,rfl,rfl,_⟩
  simp-implicitDefEqProofs[aa]
  refine aO (λhc=>?_) (λhc=>?_)
  ·simp-implicitDefEqProofs[]
   refine(lY G hb hl (p:=p+2) (by omega) [11,12,11] (k:=2) (by simp) (by simp) (by omega) rfl rfl).mono ?_
   rintro r h ⟨n,_,rfl,rfl⟩
   simp-implicitDefEqProofs[aa,hw]
   refine(sub (p+3) _ (by omega) (by omega)).mono ?_
   rintro r h ⟨v,q,rfl,rfl,⟨e,rfl,he⟩,h1,h2⟩
   have hec:=e.cs_eq
   simp-implicitDefEqProofs[aa,hec]
   exact una n e q _ 2 (by rw[hec];rfl) he (by omega) (by omega)
  ·simp-implicitDefEqProofs[]
   refine(lY G hb hl (p:=p+2) (by omega) [3,3,4,5,6,7,8,9,10] (k:=2) (by simp) (by simp) (by omega) rfl rfl).mono ?_
   rintro r h ⟨n,_,rfl,rfl⟩
   simp-implicitDefEqProofs[aa,hw]
   refine(sub (p+3) _ (by omega) (by omega)).mono ?_
   rintro r h ⟨v,q,rfl,rfl,⟨e,rfl,he⟩,h1,h2⟩
   have hec:=e.cs_eq
   simp-implicitDefEqProofs[aa,hec,hw]
   refine(sub q _ (by omega) (by omega)).mono ?_
   rintro r h ⟨v,q2,rfl,rfl,⟨e2,rfl,he2⟩,h3,h4⟩
   have hec2:=e2.cs_eq
   simp-implicitDefEqProofs[aa,hec2]
   exact bin n e e2 q2 _ 2 (by rw[hec,hec2];rfl) he he2 (by omega) (by omega)
end
section
def cw(fns:List Fd)(vs:List (List UInt8))(next left:Int):List AV:=[.ptr 0 2 0 0,slE 2 3 (bh fns),.p (aL vs),.p (.int .i64 next),.p (.int .i64 left)]
def HG(b:List Int)(p:Nat)(fns:List Fd)(vs:List (List UInt8))(next left:Int):List AO:=[rdO b p,.row 5 [cw fns vs next left],bR 3 (bh fns)]
def DG(b:List Int)(fns:List Fd)(Q:AV->Nat->List (List UInt8)->Int->Int->Prop)(x:ARes)(h:List AO):Prop:=
 ∃v rest q vc v1 vs next left,x= .ret v/\h=rdO b q:: .row 5 [[.ptr 0 2 0 0,slE 2 3 (bh fns),vc,.p (.int .i64 next),.p (.int .i64 left)]]::bR 3 (bh fns)::rest/\
  Fzs (.dead:: .dead:: .dead::rest) 3 [vc] [.p (aL vs)]/\Fzs (.dead:: .dead:: .dead::rest) 3 [v] [v1]/\Q v1 q vs next left
def PG(b:List Int)(fns:List Fd)(Q:AV->Nat->List (List UInt8)->Int->Int->Prop)(rest:List AO)(x:ARes)(h:List AO):Prop:=
 ∃v q vs next left,x= .ret v/\h=rdO b q:: .row 5 [cw fns vs next left]::bR 3 (bh fns)::rest/\Q v q vs next left
variable (G:aK)
theorem mz{f:FuncId}{args:List AV}{b:List Int}{p:Nat}{fns:List Fd}{vs:List (List UInt8)}{next left:Int}{Q:AV->Nat->List (List UInt8)->Int->Int->Prop}(H:AC Tryz.prog G f args (HG b p fns vs next left) (DG b fns Q)):
 AC Tryz.prog G f args (HG b p fns vs next left) (PG b fns Q []):=by
 refine H.frz 3 (by simp[HG]) (λt v h ⟨_,_,_,_,_,_,_,_,e,_⟩=>by cases e) ?_
 rintro v h ⟨v0,rest,q,vc,v1,vs',n',l',e,rfl,hc,hf,r⟩
 cases e
 refine⟨v1,HG b q fns vs' n' l',by simp,rfl,hf,.same (bw _ _ _) (.one ?_ (.same (mo _ _) (.nil _))),v1,q,vs',n',l',rfl,rfl,r⟩
 exact .keep (by simp[below]) (.keep (rq (by omega)) (hc.append (.keep (by simp) (.keep (by simp) .nil))))
theorem Nt(b:List Int)(p:Nat)(fns:List Fd)(vs:List (List UInt8))(next left:Int):∀o∈HG b p fns vs next left,okO 3 o:=by
 intro o ho
 simp only[HG,WC,Xr,or_false] at ho
 rcases ho with rfl|rfl|rfl
 ·exact bw _ _ _
 ·intro e he
  rw[WG.1 he]
  exact⟨by simp[below],rq (by omega),by simp,by simp,by simp,trivial⟩
 ·exact mo _ _
theorem de{f:FuncId}{args:List AV}{b:List Int}{p:Nat}{fns:List Fd}{vs:List (List UInt8)}{next left:Int}{Q:AV->Nat->List (List UInt8)->Int->Int->Prop}(H:AC Tryz.prog G f args (HG b p fns vs next left) (PG b fns Q []))(rest:List AO)(ha:ay 3 args):
 AC Tryz.prog G f args (rdO b p:: .row 5 [cw fns vs next left]::bR 3 (bh fns)::rest) (PG b fns Q rest):=by
 refine(AC.pre H rest ha (Nt _ _ _ _ _ _) ?_).mono ?_
 ·rintro x h ⟨v,q,vs',n',l',_,rfl,_⟩;rfl
 ·rintro x h ⟨h1,⟨v,q,vs',n',l',e1,rfl,e2⟩,rfl⟩
  exact⟨v,q,vs',n',l',e1,rfl,e2⟩
def TX(p:Nat)(vs:List (List UInt8))(next left:Int)(v:AV)(q:Nat)(vs':List (List UInt8))(next' left':Int):Prop:=(∃s:List UInt8,v= .p (.str s)/\s.length<=8)/\p<=q/\q<=p+2/\vs'=vs/\next'=next+1/\left'=left
theorem JW{b:List Int}(hb:Byt b)(hl:b.length<=2000){p:Nat}(hp:p+2<=1000000000000)(fns:List Fd)(vs:List (List UInt8))(hv:uL vs){next:Int}(hn: -1<=next)(hn2:next<=1000000000000)(left:Int):
 AC Tryz.prog G gM [.ptr 1 5 0 0] (HG b p fns vs next left) (PG b fns (TX p vs next left) []):=by
 refine mz G (AC.go sV ?_)
 have hw:IntKind.i64.wrap (next+1)=next+1:=ab (by omega) (by omega)
 have hsl:aL vs= .lst 1 (vs.map λw=>[.str w]):=rfl
 simp-implicitDefEqProofs[lh,HG,cw,hw]
 refine(bf G b hb hl p (by omega) 9 _).mono ?_
 rintro r h ⟨k,rfl,rfl,_⟩
 have fin:∀(s:List UInt8) (q:Nat),s.length<=8->p<=q->q<=p+2->DG b fns (TX p vs next left) (.ret (.p (.str s))) [rdO b q,.row 5 [[.ptr 0 2 0 0,slE 2 3 (bh fns),.p (aL vs),.p (.int .i64 (next+1)),.p (.int .i64 left)]],bR 3 (bh fns)]:=λs q h1 h2 h3=>
  ⟨_,[],q,_,_,vs,next+1,left,rfl,rfl,.keep (by simp) .nil,.keep (by simp) .nil,⟨s,rfl,h1⟩,h2,h3,rfl,rfl,rfl⟩
 obtain⟨N,hN⟩:∃N:Nat,next+1=N:=⟨(next+1).toNat,by omega⟩
 have hm:N%24<24:=Nat.mod_lt _ (by omega)
 have ht:(N:Int).tmod 24=((N%24:Nat):Int):=rfl
 have hw2:IntKind.i64.wrap (((N%24:Nat):Int)+1)=((N%24+1:Nat):Int):=w1 (by omega)
 rw[hN] at fin⊢
 generalize N%24=m at hm ht hw2
 have hm1:m+1<=24:=by omega
 have h0m:(0:Int)<=(m:Int)+1:=by omega
 by_cases hc:k=0/\vs≠[]
 ·obtain⟨rfl,hne⟩:=hc
  have hpos:0<vs.length:=XD.2 hne
  simp-implicitDefEqProofs[aa,hsl,hpos]
  rw[←hsl]
  refine(EP G hb hl (by omega) vs hne (by have:=hv.1;omega) _).mono ?_
  rintro r h ⟨s,hs,rfl,rfl⟩
  simp-implicitDefEqProofs[aa]
  exact fin s _ (hv.2 s hs) (by omega) (by omega)
 ·have hcc:(k=0/\0<vs.length)=False:=by
   simp only[eq_iff_iff,iff_false]
   exact λ⟨a,c⟩=>hc ⟨a,XD.1 c⟩
  by_cases hk:k=0
  ·have hv0:vs=[]:=by
    by_cases e:vs=[]
    ·exact e
    ·exact absurd ⟨hk,e⟩ hc
   subst hv0
   have hs0:aL []= .lst 1 []:=rfl
   simp-implicitDefEqProofs[aa,hs0,hk,ht,hw2,hm1,h0m]
   rw[←hs0]
   refine fin _ (p+1) ?_ (by omega) (by omega)
   simp
   omega
  ·simp-implicitDefEqProofs[aa,hk,ht,hw2,hm1,h0m]
   refine fin _ (p+1) ?_ (by omega) (by omega)
   simp
   omega
def Br(fns:List Fd):Prop:=fns.length<=1000/\∀f∈fns,f.name.length<=8/\f.params.length<=3
def Uv(p:Nat)(vs:List (List UInt8))(next left:Int)(v:AV)(q:Nat)(vs':List (List UInt8))(next' left':Int):Prop:=(∃e:Ex,v= .agg (e.cs.map .p)/\e.sz<=400)/\p<=q/\q<=p+400/\vs'=vs/\next'=next/\left'=left
theorem DI{b:List Int}(hb:Byt b)(hl:b.length<=2000){p:Nat}(hp:p<=1000000000000)(l:List Int)(hne:l≠[])(hll:l.length<=1000000000000)(rest:List AO):
 AC Tryz.prog G cJ [.ptr 0 2 0 0,.p (bF l)] (rdO b p::rest) λx h=>∃n,n∈l/\x= .ret (.p (.int .i64 n))/\h=rdO b (p+1)::rest:=by
 have key:AC Tryz.prog G cJ [.ptr 0 2 0 0,.p (bF l)] [rdO b p] λx h=>∃n,n∈l/\x= .ret (.p (.int .i64 n))/\h=[rdO b (p+1)]:=by
  refine AC.go nC ?_
  have hpos:0<l.length:=XD.2 hne
  have hnl:bF l= .lst 1 (l.map λn=>[.int .i64 n]):=rfl
  simp-implicitDefEqProofs[jl,hnl]
  refine(bf G b hb hl p (by omega) l.length []).mono ?_
  rintro r h ⟨m,rfl,rfl,hm⟩
  have hml:m<l.length:=by omega
  have hg:=Wz hml
  simp-implicitDefEqProofs[aa,hg]
 refine(key.pre rest (by simp[below]) (λo ho=>by rw[WG.1 ho];exact bw _ _ _) ?_).mono ?_
 ·rintro x h ⟨n,_,_,rfl⟩;rfl
 ·rintro x h ⟨h1,⟨n,e1,e2,rfl⟩,rfl⟩
  exact⟨n,e1,e2,rfl⟩
structure ExS where (es:List Ex) (q:Nat)
theorem mF{b:List Int}(hb:Byt b)(hl:b.length<=2000){p:Nat}(hp:p+1000<=1000000000000)(fns:List Fd)(hf:Br fns)(vs:List (List UInt8))(hv:uL vs)(next left:Int){d:Nat}(hd:d<=3):
 AC Tryz.prog G iJ [.ptr 1 5 0 0,.p (.int .i64 d)] (HG b p fns vs next left) (PG b fns (Uv p vs next left) []):=by
 refine mz G (AC.go tQ ?_)
 have hpow:3^d<=27:=by
  have:3^d<=3^3:=Nat.pow_le_pow_right (by omega) hd
  omega
 have sub:∀(k:Nat),k<=3->∀(q:Nat) (rest:List AO),p<=q->q<=p+700->AC Tryz.prog G bc [.ptr 0 2 0 0,.p (aL vs),.p (.int .i64 k)] (rdO b q::rest) λx h=>∃v q',x= .ret v/\h=rdO b q'::rest/\ExQ q (10*3^k) (6*3^k) v q':=λk hk q rest _ _=>by
  have:3^k<=3^3:=Nat.pow_le_pow_right (by omega) hk
  exact ku G (Al G hb hl vs hv k (by omega) (by omega)) rest (by simp[below])
 simp-implicitDefEqProofs[lX,HG,cw]
 refine(sub d hd p _ (by omega) (by omega)).mono ?_
 rintro r h ⟨v,q0,rfl,rfl,⟨e0,rfl,he0⟩,hq1,hq2⟩
 have hec:=e0.cs_eq
 simp-implicitDefEqProofs[aa,hec]
 have finE:∀(e:Ex) (q:Nat) (rest:List AO) (v:AV),Fzs (.dead:: .dead:: .dead::rest) 3 [v] [.agg (e.cs.map .p)]->e.sz<=400->p<=q->q<=p+400->DG b fns (Uv p vs next left) (.ret v) (rdO b q:: .row 5 [[.ptr 0 2 0 0,slE 2 3 (bh fns),.p (aL vs),.p (.int .i64 next),.p (.int .i64 left)]]::bR 3 (bh fns)::rest):=λe q rest v hz h1 h2 h3=>
  ⟨_,rest,q,_,_,vs,next,left,rfl,rfl,.keep (by simp) .nil,hz,⟨e,rfl,h1⟩,h2,h3,rfl,rfl,rfl⟩
 have fz0:∀rest,Fzs (.dead:: .dead:: .dead::rest) 3 [.agg [.p (.int .i64 e0.op),.p (.int .i64 e0.n),.p (.str e0.name),.p (exL e0.kids)]] [.agg (e0.cs.map .p)]:=λrest=> .agg (by rw[hec];exact iv (by simp)) .nil
 by_cases hfe:fns=[]
 ·have h0:bh fns=[]:=by rw[hfe];rfl
  simp-implicitDefEqProofs[h0]
  rw[←h0]
  have:=finE e0 q0 [.row 4 [[.p (.int .i64 e0.op),.p (.int .i64 e0.n),.p (.str e0.name),.p (exL e0.kids)]],.row 4 [[.p (.int .i64 e0.op),.p (.int .i64 e0.n),.p (.str e0.name),.p (exL e0.kids)]]] _ (fz0 _) (by omega) (by omega) (by omega)
  rw[h0] at this⊢
  exact this
 have hfr:¬bh fns=[]:=λh=>hfe (List.map_eq_nil_iff.1 h)
 have hfl:(bh fns).length=fns.length:=by simp[bh]
 have hfp:0<fns.length:=XD.2 hfe
 simp only[fq hfr,dM hfr,hfl] at finE
 rw[show bR 3 (bh fns)= .row 3 (bh fns) from fq hfr,show slE 2 3 (bh fns)= .sl 2 3 0 (bh fns).length from dM hfr,hfl]
 generalize hR:bh fns=R at*
 simp-implicitDefEqProofs[hfr]
 refine(bf G b hb hl q0 (by omega) 4 _).mono ?_
 rintro r h ⟨k1,rfl,rfl,_⟩
 simp-implicitDefEqProofs[aa]
 refine aO (λhc=>?_) (λhc=>?_)
 ·simp-implicitDefEqProofs[]
  exact finE e0 _ _ _ (fz0 _) (by omega) (by omega) (by omega)
 simp-implicitDefEqProofs[hfl]
 refine(bf G b hb hl (q0+1) (by omega) fns.length _).mono ?_
 rintro r h ⟨k2,rfl,rfl,hk2⟩
 have hk:k2<fns.length:=by omega
 have hg:=Wz hk
 have hgr:R[k2]?=some (fns[k2].cs.map .p):=by rw[←hR,bh,WR,hg];rfl
 have hfo:=hf.2 _ (WN hk)
 generalize fns[k2]=fd at hg hgr hfo
 have hfc:fd.cs=[.str fd.name,aL fd.params,smL fd.body]:=rfl
 have hsp:aL fd.params= .lst 1 (fd.params.map λw=>[.str w]):=rfl
 clear hfl hg
 simp-implicitDefEqProofs[aa,hgr,hk,hfc]
 have hexn:∀(es:List Ex) (e:Ex),exR (es++[e])=exR es++[e.cs.map .p]:=λes e=>by simp[exR]
 have hRp:∀x∈R,ay 0 x:=by rw[←hR];exact vg fns
 refine aN (λs:ExS=>az 99 [(8,.p (.int .i64 s.es.length)),(7,.ptr 6 4 0 0),(6,.ptr 5 3 0 0),(4,.ptr 3 4 0 0),(0,.ptr 1 5 0 0)])
  (λs=>[rdO b s.q,.row 5 [[.ptr 0 2 0 0,.sl 2 3 0 fns.length,.p (aL vs),.p (.int .i64 next),.p (.int .i64 left)]],.row 3 R,.row 4 [[.p (.int .i64 0),.p (.int .i64 0),.p (.str []),.nils]],
    .row 4 [[.p (.int .i64 e0.op),.p (.int .i64 e0.n),.p (.str e0.name),.p (exL e0.kids)]],.row 3 [[.p (.str fd.name),.p (aL fd.params),.p (smL fd.body)]],.row 4 [[.p (.int .i64 13),.p (.int .i64 0),.p (.str fd.name),slE 7 4 (exR s.es)]],bR 4 (exR s.es)])
  (λs=>s.es.length<=fd.params.length/\aM s.es<=90*s.es.length/\q0<=s.q/\s.q<=q0+2+54*s.es.length) (λs=>fd.params.length-s.es.length) ⟨[],q0+1+1⟩ ⟨by simp,by simp[aM],by simp only;omega,by simp⟩
  (pK (by simp) (by simp) (by
    intro o h
    simp only[WC,Xr,or_false] at h
    rcases h with rfl|rfl|rfl|rfl|rfl|rfl|rfl
    ·exact bw _ _ _
    ·simp[okO,below]
    ·exact eA (λe he=>hRp e he)
    ·simp[okO,below]
    ·simp[okO,below]
    ·simp[okO,below]
    ·simp[okO,below]) (by simp[below])) ?_
 rintro⟨es,q⟩ ⟨h1,h2,h3,h4⟩
 simp only at h1 h2 h3 h4
 simp-implicitDefEqProofs[hsp]
 refine aO (λhc=>?_) (λhc=>?_)
 ·simp at hc
  have hp3:=hfo.2
  simp-implicitDefEqProofs[]
  refine(sub 2 (by omega) q _ (by omega) (by omega)).mono ?_
  rintro r h ⟨v,q2,rfl,rfl,⟨e,rfl,he⟩,hq3,hq4⟩
  have hec:=e.cs_eq
  simp-implicitDefEqProofs[aa,hec]
  have hxl:(exR es).length=es.length:=by simp[exR]
  refine⟨by rw[hxl];omega,⟨es++[e],q2⟩,⟨by simp;omega,by rw[bM];simp[aM];omega,by simp only;omega,by simp;omega⟩,by simp;omega,?_⟩
  rw[hexn,EA _ (by simp),AU _ (by simp),hec]
  refine dW [0,1,2,3,4,5,6,8] (by simp) (by decide) (by decide) (cK rfl (bw _ _ _) (cW (by simp[below]) (by simp[ren,bn]) (bv rfl hRp (bv rfl (by simp[below]) (bv rfl (by simp[below]) (bv rfl (by simp[below]) (cW (by simp[below]) (by simp[ren,bn]) (bv rfl (λx hx=>by
   rcases WE.1 hx with h|h
   ·exact ec _ x h
   ·rw[WG.1 h];simp) cg)))))))) ?_
  simp[below,ren,w1 (i:=es.length) (by omega)]
 ·simp at hc
  have hp3:=hfo.2
  have hlen:es.length=fd.params.length:=by omega
  have hxl:(exR es).length=es.length:=by simp[exR]
  have hkids:∀(h:List AO),h[7]?=some (bR 4 (exR es))->View h (slE 7 4 (exR es)) (exL es):=λh hh=>ib hh
  simp-implicitDefEqProofs[]
  refine(bf G b hb hl q (by omega) 2 _).mono ?_
  rintro r h ⟨k3,rfl,rfl,_⟩
  simp-implicitDefEqProofs[aa]
  refine aO (λhc2=>?_) (λhc2=>?_)
  ·simp-implicitDefEqProofs[]
   have hcc:(Ex.mk 13 0 fd.name es).cs=[.int .i64 13,.int .i64 0,.str fd.name,exL es]:=Ex.cs_eq _
   exact finE ⟨13,0,fd.name,es⟩ (q+1) _ _ (.agg (by rw[hcc];exact .keep (by simp) (.keep (by simp) (.keep (by simp) (.one (hkids _ rfl) .nil)))) .nil) (by simp[Ex.sz];omega) (by omega) (by omega)
  ·simp-implicitDefEqProofs[]
   refine(DI G hb hl (p:=q+1) (by omega) [3,4,8,10] (by simp) (by simp) _).mono ?_
   rintro r h ⟨n,_,rfl,rfl⟩
   simp-implicitDefEqProofs[aa]
   refine(sub 2 (by omega) (q+1+1) _ (by omega) (by omega)).mono ?_
   rintro r h ⟨v,q2,rfl,rfl,⟨e,rfl,he⟩,hq3,hq4⟩
   have hec:=e.cs_eq
   simp-implicitDefEqProofs[aa,hec]
   have hcc:(Ex.mk 13 0 fd.name es).cs=[.int .i64 13,.int .i64 0,.str fd.name,exL es]:=Ex.cs_eq _
   exact finE ⟨n,0,[],[⟨13,0,fd.name,es⟩,e]⟩ q2 _ _ (.agg (.keep (by simp) (.keep (by simp) (.keep (by simp) (.one (ul (p0:=(Ex.mk 13 0 fd.name es).cs) (p1:=e.cs) rfl (Ex.cs_len _) (Ex.cs_len _) (λj q a e1 e2=>by
    rw[hcc] at e1
    match j,e1,e2 with
    |0,e1,e2=>cases e1;cases e2;exact .p _
    |1,e1,e2=>cases e1;cases e2;exact .p _
    |2,e1,e2=>cases e1;cases e2;exact .p _
    |3,e1,e2=>cases e1;cases e2;exact hkids _ rfl
    |j+4,e1,e2=>simp at e1) (λj q a e1 e2=>by
    rw[hec] at e1
    match j,e1,e2 with
    |0,e1,e2=>cases e1;cases e2;exact .p _
    |1,e1,e2=>cases e1;cases e2;exact .p _
    |2,e1,e2=>cases e1;cases e2;exact .p _
    |3,e1,e2=>cases e1;cases e2;exact .p _
    |j+4,e1,e2=>simp at e1)) .nil)))) .nil) (by simp[Ex.sz,aM];omega) (by omega) (by omega)
end
section
variable (G:aK)
def Wa(p:Nat)(vs:List (List UInt8))(next left:Int)(v:AV)(q:Nat)(vs':List (List UInt8))(next' left':Int):Prop:=(∃e:Ex,v= .agg (e.cs.map .p)/\e.sz<=410)/\p<=q/\q<=p+401/\vs'=vs/\next'=next/\left'=left
theorem MQ{b:List Int}(hb:Byt b)(hl:b.length<=2000){p:Nat}(hp:p+2000<=1000000000000)(fns:List Fd)(hf:Br fns)(vs:List (List UInt8))(hv:uL vs)(next left:Int):
 AC Tryz.prog G eJ [.ptr 1 5 0 0] (HG b p fns vs next left) (PG b fns (Wa p vs next left) []):=by
 refine mz G (AC.go tI ?_)
 simp-implicitDefEqProofs[me,HG,cw]
 refine(de G (mF G hb hl (p:=p) (by omega) fns hf vs hv next left (d:=2) (by omega)) _ (by simp[below])).mono ?_
 rintro r h ⟨v,q,vs',n',l',rfl,rfl,⟨e,rfl,he⟩,h1,h2,rfl,rfl,rfl⟩
 have hec:=e.cs_eq
 simp-implicitDefEqProofs[aa,cw,hec]
 refine(DI G hb hl (p:=q) (by omega) [16,16,16,8,17,0] (by simp) (by simp) _).mono ?_
 rintro r h ⟨n,_,rfl,rfl⟩
 simp-implicitDefEqProofs[aa]
 have hn:(Ex.mk 1 n [] []).cs=[.int .i64 1,.int .i64 n,.str [],.lst 4 []]:=Ex.cs_eq _
 refine⟨_,[_,_],q+1,_,.agg ((Ex.mk 7 0 [] [e,⟨1,n,[],[]⟩]).cs.map .p),vs',n',l',rfl,rfl,.keep (by simp) .nil,.agg (.keep (by simp) (.keep (by simp) (.keep (by simp) (.one (ul (p0:=e.cs) (p1:=(Ex.mk 1 n [] []).cs) rfl (Ex.cs_len _) (Ex.cs_len _) (λj q a e1 e2=>?_) (λj q a e1 e2=>?_)) .nil)))) .nil,⟨_,rfl,by simp[Ex.sz,aM];omega⟩,by omega,by omega,rfl,rfl,rfl⟩
 ·rw[hec] at e1
  match j,e1,e2 with
  |0,e1,e2=>cases e1;cases e2;exact .p _
  |1,e1,e2=>cases e1;cases e2;exact .p _
  |2,e1,e2=>cases e1;cases e2;exact .p _
  |3,e1,e2=>cases e1;cases e2;exact .p _
  |j+4,e1,e2=>simp at e1
 ·rw[hn] at e1
  match j,e1,e2 with
  |0,e1,e2=>cases e1;cases e2;exact .p _
  |1,e1,e2=>cases e1;cases e2;exact .p _
  |2,e1,e2=>cases e1;cases e2;exact .p _
  |3,e1,e2=>cases e1;cases e2;exact View.nils 4
  |j+4,e1,e2=>simp at e1
def TO(p:Nat)(e:Ex)(vs:List (List UInt8))(next left:Int)(v:AV)(q:Nat)(vs':List (List UInt8))(next' left':Int):Prop:=
 ∃s:List UInt8,s.length<=8/\v= .agg ((Sm.mk 1 s [e] [] []).cs.map .p)/\p<=q/\q<=p+2/\vs'=vs++[s]/\next'=next+1/\left'=left
theorem QX{b:List Int}(hb:Byt b)(hl:b.length<=2000){p:Nat}(hp:p+2<=1000000000000)(fns:List Fd)(vs:List (List UInt8))(hv:uL vs){next:Int}(hn: -1<=next)(hn2:next<=1000000000000)(left:Int)(e:Ex):
 AC Tryz.prog G dE [.ptr 1 5 0 0,.agg (e.cs.map .p)] (HG b p fns vs next left) (PG b fns (TO p e vs next left) []):=by
 refine mz G (AC.go nH ?_)
 have hec:=e.cs_eq
 simp-implicitDefEqProofs[jc,HG,cw,hec]
 refine(de G (JW G hb hl hp fns vs hv hn hn2 left) _ (by simp[below])).mono ?_
 rintro r h ⟨v,q,vs',n',l',rfl,rfl,⟨s,rfl,hs⟩,h1,h2,rfl,rfl,rfl⟩
 have hsl:aL vs'= .lst 1 (vs'.map λw=>[.str w]):=rfl
 simp-implicitDefEqProofs[aa,cw,hsl]
 have hv1:=hv.1
 have hrow:List.take vs'.length (List.map ((λx=>List.map AV.p x)∘λw=>[PV.str w]) vs')++[[AV.p (PV.str s)]]=(vs'++[s]).map λw=>[AV.p (.str w)]:=by
  rw[WF (by simp)];simp[Function.comp_def]
 have hlen:vs'.length+1=(vs'++[s]).length:=by simp
 refine⟨by omega,by omega,?_⟩
 rw[hrow,hlen]
 have hsm:(Sm.mk 1 s [e] [] []).cs=[.int .i64 1,.str s,exL [e],smL [],smL []]:=Sm.cs_eq _
 refine⟨_,_,q,_,.agg ((Sm.mk 1 s [e] [] []).cs.map .p),vs'++[s],next+1,l',rfl,rfl,.one (gO rfl) .nil,.agg ?_ .nil,⟨s,hs,rfl,h1,h2,rfl,rfl,rfl⟩⟩
 rw[hsm]
 refine .keep (by simp) (.keep (by simp) (.one ?_ (.one (View.nils 5) (.one (View.nils 5) .nil))))
 exact ep (l:=[e]) (by rw[List.map_singleton,hec];rfl)
theorem Rw{b:List Int}(hb:Byt b)(hl:b.length<=2000){p:Nat}(hp:p+2<=1000000000000)(fns:List Fd)(vs:List (List UInt8))(hv:uL vs){next:Int}(hn: -1<=next)(hn2:next<=1000000000000)(left:Int)(N:Int):
 AC Tryz.prog G dE [.ptr 1 5 0 0,.agg [.p (.int .i64 1),.p (.int .i64 N),.p (.str []),.nils]] (HG b p fns vs next left) (PG b fns (TO p ⟨1,N,[],[]⟩ vs next left) []):=by
 refine mz G (AC.go nH ?_)
 simp-implicitDefEqProofs[jc,HG,cw]
 refine(de G (JW G hb hl hp fns vs hv hn hn2 left) _ (by simp[below])).mono ?_
 rintro r h ⟨v,q,vs',n',l',rfl,rfl,⟨s,rfl,hs⟩,h1,h2,rfl,rfl,rfl⟩
 have hsl:aL vs'= .lst 1 (vs'.map λw=>[.str w]):=rfl
 simp-implicitDefEqProofs[aa,cw,hsl]
 have hv1:=hv.1
 have hrow:List.take vs'.length (List.map ((λx=>List.map AV.p x)∘λw=>[PV.str w]) vs')++[[AV.p (PV.str s)]]=(vs'++[s]).map λw=>[AV.p (.str w)]:=by
  rw[WF (by simp)];simp[Function.comp_def]
 have hlen:vs'.length+1=(vs'++[s]).length:=by simp
 refine⟨by omega,by omega,?_⟩
 rw[hrow,hlen]
 have hsm:(Sm.mk 1 s [⟨1,N,[],[]⟩] [] []).cs=[.int .i64 1,.str s,exL [⟨1,N,[],[]⟩],smL [],smL []]:=Sm.cs_eq _
 refine⟨_,_,q,_,.agg ((Sm.mk 1 s [⟨1,N,[],[]⟩] [] []).cs.map .p),vs'++[s],next+1,l',rfl,rfl,.one (gO rfl) .nil,.agg ?_ .nil,⟨s,hs,rfl,h1,h2,rfl,rfl,rfl⟩⟩
 rw[hsm]
 refine .keep (by simp) (.keep (by simp) (.one ?_ (.one (View.nils 5) (.one (View.nils 5) .nil))))
 refine View.sl _ _ _ _ [(Ex.mk 1 N [] []).cs] rfl (by simp) (by simp) λi j e q e' a a1 a2 a3 a4=>?_
 rw[Xt] at a3
 match i,a1,a3 with
 |0,a1,a3=>
  cases a1;cases a3
  have hn:(Ex.mk 1 N [] []).cs=[.int .i64 1,.int .i64 N,.str [],.lst 4 []]:=Ex.cs_eq _
  rw[hn] at a2
  match j,a2,a4 with
  |0,e1,e2=>cases e1;cases e2;exact .p _
  |1,e1,e2=>cases e1;cases e2;exact .p _
  |2,e1,e2=>cases e1;cases e2;exact .p _
  |3,e1,e2=>cases e1;cases e2;exact View.nils 4
  |j+4,e1,e2=>simp at e1
 |i+1,a1,a3=>simp at a1
end
section
def Pd(d:Nat):Nat:=5000*20^d
structure Bd (n:Nat) (p:Nat) (vs:List (List UInt8)) (next left:Int):Prop where
 p:p+n<=100000000000
 v:vs.length+n/50<=900000
 w:∀s∈vs,s.length<=8
 n0: -1<=next
 n1:next+n<=100000000000
 l0: -100000000000<=left-n
 l1:left<=100000000000
theorem Bd.shrt{n p:Nat}{vs:List (List UInt8)}{next left:Int}(h:Bd n p vs next left):uL vs:=⟨by have:=h.v;omega,h.w⟩
def Mv(n p q:Nat)(next next' left left':Int):Prop:=p<=q/\q<=p+n/\next<=next'/\next'<=next+n/\left-n<=left'/\left'<=left
def PE(b:List Int)(fns:List Fd)(vs:List (List UInt8))(p n:Nat)(next left:Int)(rest:List AO)(x:ARes)(h:List AO):Prop:=
 ∃(out:List Sm) (q:Nat) (next' left':Int),x= .ret (.sl (3+rest.length) 5 0 out.length)/\h=rdO b q:: .row 5 [cw fns vs next' left']::bR 3 (bh fns)::rest++[.row 5 (smR out)]/\aC out<=n/\out.length<=100/\Mv n p q next next' left left'
def Lk(G:aK)(b:List Int)(fns:List Fd)(d:Nat):Prop:=∀{p:Nat} {vs:List (List UInt8)} {next left:Int},Bd (Pd d) p vs next left->AC Tryz.prog G bg [.ptr 1 5 0 0,.p (.int .i64 d)] (HG b p fns vs next left) (PE b fns vs p (Pd d) next left [])
variable (G:aK)
theorem tG{b:List Int}{fns:List Fd}{d p:Nat}{vs:List (List UInt8)}{next left:Int}(H:AC Tryz.prog G bg [.ptr 1 5 0 0,.p (.int .i64 d)] (HG b p fns vs next left) (PE b fns vs p (Pd d) next left []))(rest:List AO):
 AC Tryz.prog G bg [.ptr 1 5 0 0,.p (.int .i64 d)] (rdO b p:: .row 5 [cw fns vs next left]::bR 3 (bh fns)::rest) (PE b fns vs p (Pd d) next left rest):=by
 have H2:AC Tryz.prog G bg [.ptr 1 5 0 0,.p (.int .i64 d)] (HG b p fns vs next left) λx h'=>∃h1 es,h'=h1++[.row 5 es]/\h1.length=(HG b p fns vs next left).length/\x= .ret (.sl (HG b p fns vs next left).length 5 0 es.length)/\(∀e∈es,ay 0 e)/\
  (∃(out:List Sm) (q:Nat) (next' left':Int),es=smR out/\h1=HG b q fns vs next' left'/\aC out<=Pd d/\out.length<=100/\Mv (Pd d) p q next next' left left'):=by
  refine H.mono ?_
  rintro x h ⟨out,q,n',l',rfl,rfl,h1,h2,h3⟩
  exact⟨HG b q fns vs n' l',smR out,rfl,rfl,by simp[HG,gr],ee out,out,q,n',l',rfl,rfl,h1,h2,h3⟩
 refine(AC.pre1 (R:=λh1 es=>∃(out:List Sm) (q:Nat) (next' left':Int),es=smR out/\h1=HG b q fns vs next' left'/\aC out<=Pd d/\out.length<=100/\Mv (Pd d) p q next next' left left') H2 rest (by simp[below,HG]) (Nt _ _ _ _ _ _) ?_).mono ?_
 ·rintro h1 es ⟨out,q,n',l',rfl,rfl,_⟩
  exact Nt _ _ _ _ _ _
 ·rintro x h ⟨h1,es,rfl,_,rfl,_,out,q,n',l',rfl,rfl,r⟩
  exact⟨out,q,n',l',by simp[HG,gr],rfl,r⟩
theorem uy:AK.whole io=FK.ak il:=rfl
def VB(n p:Nat)(vs:List (List UInt8))(next left:Int)(v:AV)(q:Nat)(vs':List (List UInt8))(next' left':Int):Prop:=
 ∃(out:List Sm) (s:List UInt8),v= .p (smL out)/\aC out<=n/\1<=out.length/\out.length<=2/\s.length<=8/\vs'=vs++[s]/\Mv n p q next next' left left'
theorem MW{b:List Int}(hb:Byt b)(hl:b.length<=2000)(fns:List Fd){d:Nat}(hd:d<=10)(hblk:Lk G b fns d){p:Nat}{vs:List (List UInt8)}{next left:Int}(hB:Bd (Pd d+60) p vs next left):
 AC Tryz.prog G iw [.ptr 1 5 0 0,.p (.int .i64 ((d:Int)+1))] (HG b p fns vs next left) (PG b fns (VB (Pd d+60) p vs next left) []):=by
 have hp:=hB.p
 have hv:=hB.v
 have hn0:=hB.n0
 have hn1:=hB.n1
 have hl0:=hB.l0
 have hl1:=hB.l1
 refine mz G (AC.goK tV uy ?_)
 simp-implicitDefEqProofs[io,il,HG,cw]
 refine(lY G hb hl (p:=p) (by omega) [2,3,1,0,5] (k:=3) (by simp) (by simp) (by omega) rfl rfl).mono ?_
 rintro r h ⟨N,hN,rfl,rfl⟩
 have hN5:0<=N/\N<=5:=by simp at hN;omega
 simp-implicitDefEqProofs[aa]
 refine(de G (Rw G hb hl (p:=p+1) (by omega) fns vs hB.shrt hn0 (by omega) left N) _ (by simp[below])).mono ?_
 rintro r h ⟨v,q,vs',n',l',rfl,rfl,s,hs,rfl,h1,h2,rfl,rfl,rfl⟩
 have hsm:(Sm.mk 1 s [⟨1,N,[],[]⟩] [] []).cs=[.int .i64 1,.str s,exL [⟨1,N,[],[]⟩],smL [],smL []]:=Sm.cs_eq _
 have hwd:IntKind.i64.wrap ((d:Int)+1-1)=d:=by rw[ab (by omega) (by omega)];omega
 have hw2:IntKind.i64.wrap (d:Int)=d:=ab (by omega) (by omega)
 simp-implicitDefEqProofs[aa,cw,hsm,hw2]
 have hB2:Bd (Pd d) q (vs++[s]) (next+1) l':=⟨by omega,by simp;omega,λw hw=>by
  rcases WE.1 hw with h|h
  ·exact hB.w w h
  ·rw[WG.1 h];exact hs,by omega,by omega,by omega,by omega⟩
 refine(tG G (hblk hB2) _).mono ?_
 rintro r h ⟨out,q2,n2,l2,rfl,rfl,z1,z2,m1,m2,m3,m4,m5,m6⟩
 have hwl:IntKind.i64.wrap (l2-2)=l2-2:=ab (by omega) (by omega)
 simp-implicitDefEqProofs[aa,cw,hwl]
 have hHb:∀(l:Int),okO 7 (.row 5 [[.ptr 0 2 0 0,slE 2 3 (bh fns),.p (aL (vs++[s])),.p (.int .i64 n2),.p (.int .i64 l)]]):=λl e he=>by
  rw[WG.1 he];exact⟨by simp[below],rq (by omega),by simp,by simp,by simp,trivial⟩
 refine pg (az 50 [(0,.ptr 1 5 0 0),(5,.ptr 3 5 0 0),(6,.ptr 4 4 0 0),(7,.sl 5 5 0 out.length),(8,.ptr 6 5 0 0)])
  [rdO b q2,.row 5 [[.ptr 0 2 0 0,slE 2 3 (bh fns),.p (aL (vs++[s])),.p (.int .i64 n2),.p (.int .i64 (l2-2))]],bR 3 (bh fns),
   .row 5 [[.p (.int .i64 1),.p (.str s),.p (exL [Ex.mk 1 N [] []]),.p (smL []),.p (smL [])]],.row 4 [[.p (.int .i64 2),.p (.int .i64 0),.p (.str s),.p (exL [])]],.row 5 (smR out),
   .row 5 [[.p (.int .i64 2),.p (.str s),.p (exL [Ex.mk 4 0 [] [⟨2,0,s,[]⟩,⟨1,1,[],[]⟩]]),.p (smL []),.p (smL [])]]] ?_ ?_
 ·simp-implicitDefEqProofs[hwl]
  refine Wk.trans (dW (l1:=[(0,.ptr 1 5 0 0),(5,.ptr 3 5 0 0),(6,.ptr 4 4 0 0),(7,.sl 5 5 0 out.length),(8,.ptr 6 5 0 0)])
   (h1:=[rdO b q2,.row 5 [[.ptr 0 2 0 0,slE 2 3 (bh fns),.p (aL (vs++[s])),.p (.int .i64 n2),.p (.int .i64 (l2-2))]],bR 3 (bh fns),
   .row 5 [[.p (.int .i64 1),.p (.str s),.p (exL [Ex.mk 1 N [] []]),.p (smL []),.p (smL [])]],.row 4 [[.p (.int .i64 2),.p (.int .i64 0),.p (.str s),.nils]],.row 5 (smR out),
   .row 5 [[.p (.int .i64 2),.p (.str s),.sl 8 4 0 1,.nils,.nils]],.row 4 [[.p (.int .i64 2),.p (.int .i64 0),.p (.str s),.nils],[.p (.int .i64 1),.p (.int .i64 1),.p (.str []),.nils]],.row 4 [[.p (.int .i64 4),.p (.int .i64 0),.p (.str []),.sl 7 4 0 2]]])
   [0,1,2,4,5,6,9,7,8] (by simp) (by decide) (by decide) (cK rfl (bw _ _ _) (cW (by simp[below]) (by simp[ren,bn]) (cK rfl (mo _ _) (bv rfl (by simp[below]) (bv rfl (by simp[below]) (bv rfl (ee out) (cW (by simp[below]) (by simp[ren,bn]) (bv rfl (by simp[below]) (cW (by simp[below]) (by simp[ren,bn]) cg))))))))) (by simp[below,ren]))
   (nZ 7 (by omega) (by simp) rfl (.same (bw _ _ _) (.same (hHb _) (.same (mo _ _) (.same (by simp[okO,below]) (.one (.keep (by simp) (.keep (by simp) (.keep (by simp) (.one (View.nils 4) .nil)))) (.same (eA (ee out)) (.one (.keep (by simp) (.keep (by simp) (.one ?_ (.one (View.nils 5) (.one (View.nils 5) .nil))))) (.nil _)))))))) ?_)
  ·exact bD (p0:=(Ex.mk 4 0 [] [⟨2,0,s,[]⟩,⟨1,1,[],[]⟩]).cs) rfl (Ex.cs_len _) (gV (ul (p0:=(Ex.mk 2 0 s []).cs) (p1:=(Ex.mk 1 1 [] []).cs) rfl (Ex.cs_len _) (Ex.cs_len _) (gV (View.nils 4)) (gV (View.nils 4))))
  ·exact⟨.keep (by simp[below]) .nil,.keep (by simp[below]) .nil,.keep (by simp[below]) .nil,.keep (by simp[below]) .nil,.keep (by simp[below]) .nil,trivial⟩
 ·simp-implicitDefEqProofs[]
  have hless:(Sm.mk 2 s [Ex.mk 4 0 [] [⟨2,0,s,[]⟩,⟨1,1,[],[]⟩]] [] []).cs=[.int .i64 2,.str s,exL [Ex.mk 4 0 [] [⟨2,0,s,[]⟩,⟨1,1,[],[]⟩]],smL [],smL []]:=Sm.cs_eq _
  have hrow:List.take out.length (smR out)++[[AV.p (.int .i64 2),.p (.str s),.p (exL [Ex.mk 4 0 [] [⟨2,0,s,[]⟩,⟨1,1,[],[]⟩]]),.p (smL []),.p (smL [])]]=smR (out++[Sm.mk 2 s [Ex.mk 4 0 [] [⟨2,0,s,[]⟩,⟨1,1,[],[]⟩]] [] []]):=by
   rw[WF (by rw[gr];exact WK _),El];exact congrArg (smR out++ ·) (by rw[smR,List.map_singleton,hless];rfl)
  have hlen:out.length+1=(out++[Sm.mk 2 s [Ex.mk 4 0 [] [⟨2,0,s,[]⟩,⟨1,1,[],[]⟩]] [] []]).length:=by simp
  refine⟨⟨by rw[gr];exact WK _,by omega,by omega⟩,?_⟩
  rw[hrow,hlen]
  refine⟨_,_,q2,_,.p (smL [Sm.mk 1 s [⟨1,N,[],[]⟩] [] [],Sm.mk 6 [] [⟨2,0,s,[]⟩] (out++[Sm.mk 2 s [Ex.mk 4 0 [] [⟨2,0,s,[]⟩,⟨1,1,[],[]⟩]] [] []]) []]),vs++[s],n2,l2-2,rfl,rfl,.keep (by simp) .nil,
   .one (ul (p0:=(Sm.mk 1 s [⟨1,N,[],[]⟩] [] []).cs) (p1:=(Sm.mk 6 [] [⟨2,0,s,[]⟩] (out++[Sm.mk 2 s [Ex.mk 4 0 [] [⟨2,0,s,[]⟩,⟨1,1,[],[]⟩]] [] []]) []).cs) rfl (Sm.cs_len _) (Sm.cs_len _)
    (cd (.p _) (.p _) (.p _)) (cd ?_ (lE rfl) (View.nils 5))) .nil,_,s,rfl,?_,by simp,by simp,hs,rfl,?_⟩
  ·have h2:(Ex.mk 2 0 s []).cs=[.int .i64 2,.int .i64 0,.str s,exL []]:=Ex.cs_eq _
   have he:exL [Ex.mk 2 0 s []]= .lst 4 [[.int .i64 2,.int .i64 0,.str s,exL []]]:=by rw[exL,List.map_singleton,h2]
   rw[he]
   exact .p _
  ·simp[aC,aX,Sm.sz,Ex.sz,aM]
   omega
  ·exact⟨by omega,by omega,by omega,by omega,by omega,by omega⟩
end
section
variable (G:aK)
def TR(n p:Nat)(vs:List (List UInt8))(next left:Int)(v:AV)(q:Nat)(vs':List (List UInt8))(next' left':Int):Prop:=
 ∃out:List Sm,v= .p (smL out)/\aC out<=n/\1<=out.length/\out.length<=2/\(vs'=vs\/∃s:List UInt8,s.length<=8/\vs'=vs++[s])/\Mv n p q next next' left left'
theorem RB{b:List Int}(hb:Byt b)(hl:b.length<=2000)(fns:List Fd)(hf:Br fns){d:Nat}(hd:d<=10)(hblk:1<=d->Lk G b fns d){p:Nat}{vs:List (List UInt8)}{next left:Int}(hB:Bd (2*Pd d+3000) p vs next left):
 AC Tryz.prog G ik [.ptr 1 5 0 0,.p (.int .i64 ((d:Int)+1))] (HG b p fns vs next left) (PG b fns (TR (2*Pd d+3000) p vs next left) []):=by
 have hp:=hB.p
 have hv:=hB.v
 have hn0:=hB.n0
 have hn1:=hB.n1
 have hl0:=hB.l0
 have hl1:=hB.l1
 refine mz G (AC.go uz ?_)
 have hwl:IntKind.i64.wrap (left-1)=left-1:=ab (by omega) (by omega)
 have hsl:aL vs= .lst 1 (vs.map λw=>[.str w]):=rfl
 simp-implicitDefEqProofs[mA,HG,cw,hwl]
 refine(bf G b hb hl p (by omega) 13 _).mono ?_
 rintro r h ⟨k,rfl,rfl,hk⟩
 have dR:∀(m:Sm) (q:Nat) (rest:List AO) (v:AV) (vc:AV) (vs':List (List UInt8)) (next' left':Int),Fzs (.dead:: .dead:: .dead::rest) 3 [vc] [.p (aL vs')]->Fzs (.dead:: .dead:: .dead::rest) 3 [v] [.p (smL [m])]->m.sz<=2*Pd d+3000->(vs'=vs\/∃s:List UInt8,s.length<=8/\vs'=vs++[s])->Mv (2*Pd d+3000) p q next next' left left'->
  DG b fns (TR (2*Pd d+3000) p vs next left) (.ret v) (rdO b q:: .row 5 [[.ptr 0 2 0 0,slE 2 3 (bh fns),vc,.p (.int .i64 next'),.p (.int .i64 left')]]::bR 3 (bh fns)::rest):=λm q rest v vc vs' next' left' h1 h2 h3 h4 h5=>
  ⟨_,rest,q,_,_,vs',next',left',rfl,rfl,h1,h2,[m],rfl,by simp[aC];omega,by simp,by simp,h4,h5⟩
 by_cases hc:k<3/\vs≠[]
 ·obtain⟨hc1,hne⟩:=hc
  have hpos:0<vs.length:=XD.2 hne
  have hc1':(k:Int)<3:=by omega
  have hv1:=hB.v
  simp-implicitDefEqProofs[aa,hsl,hc1,hc1',hpos]
  rw[←hsl]
  refine(EP G hb hl (p:=p+1) (by omega) vs hne (by omega) _).mono ?_
  rintro r h ⟨w,hw,rfl,rfl⟩
  have hw8:=hB.w w hw
  simp-implicitDefEqProofs[aa]
  refine(de G (mF G hb hl (p:=p+1+1) (by omega) fns hf vs hB.shrt next (left-1) (d:=3) (by omega)) _ (by simp[below])).mono ?_
  rintro r h ⟨v,q,vs',n',l',rfl,rfl,⟨e,rfl,he⟩,h1,h2,rfl,rfl,rfl⟩
  have hec:=e.cs_eq
  simp-implicitDefEqProofs[aa,cw,hec]
  exact dR ⟨2,w,[e],[],[]⟩ q _ _ _ vs' n' (left-1) (.keep (by simp) .nil) (.one (bD (p0:=(Sm.mk 2 w [e] [] []).cs) rfl (Sm.cs_len _) (cd (ep (l:=[e]) (by rw[List.map_singleton,hec];rfl)) (View.nils 5) (View.nils 5))) .nil) (by simp[Sm.sz,aM,aC];omega) (.inl rfl) ⟨by omega,by omega,by omega,by omega,by omega,by omega⟩
 have hcc:(k<3/\0<vs.length)=False:=by
  simp only[eq_iff_iff,iff_false]
  exact λ⟨a,c⟩=>hc ⟨a,XD.1 c⟩
 have hvz:(k:Int)<3->vs.length=0:=λh=>by
  by_cases e:vs=[]
  ·rw[e];rfl
  ·exact absurd ⟨by omega,e⟩ hc
 have hvx:=hB.shrt
 have hvv:=hB.v
 by_cases k5:(k:Int)<5
 ·by_cases k3:(k:Int)<3
  ·have hv0:=hvz k3
   simp-implicitDefEqProofs[aa,hsl,k3,hv0,k5]
   rw[←hsl]
   refine(de G (mF G hb hl (p:=p+1) (by omega) fns hf vs hvx next (left-1) (d:=3) (by omega)) _ (by simp[below])).mono ?_
   rintro r h ⟨v,q,vs',n',l',rfl,rfl,⟨e,rfl,he⟩,h1,h2,rfl,rfl,rfl⟩
   have hec:=e.cs_eq
   have hL:=QX G hb hl (p:=q) (by omega) fns vs' hvx hn0 (by omega) (left-1) e
   rw[hec] at hL
   simp-implicitDefEqProofs[aa,cw,hec]
   refine(de G hL _ (by simp[below])).mono ?_
   rintro r h ⟨v,q2,vs2,n2,l2,rfl,rfl,s,hs,rfl,h3,h4,rfl,rfl,rfl⟩
   have hsm:(Sm.mk 1 s [e] [] []).cs=[.int .i64 1,.str s,exL [e],smL [],smL []]:=Sm.cs_eq _
   simp-implicitDefEqProofs[aa,cw,hsm]
   exact dR ⟨1,s,[e],[],[]⟩ q2 _ _ _ (vs'++[s]) (n'+1) (left-1) (.keep (by simp) .nil) (.one (bD (p0:=(Sm.mk 1 s [e] [] []).cs) rfl (Sm.cs_len _) (cd (.p _) (.p _) (.p _))) .nil) (by simp[Sm.sz,aM,aC];omega) (.inr ⟨s,hs,rfl⟩) ⟨by omega,by omega,by omega,by omega,by omega,by omega⟩
  ·simp-implicitDefEqProofs[aa,hsl,k3,k5]
   rw[←hsl]
   refine(de G (mF G hb hl (p:=p+1) (by omega) fns hf vs hvx next (left-1) (d:=3) (by omega)) _ (by simp[below])).mono ?_
   rintro r h ⟨v,q,vs',n',l',rfl,rfl,⟨e,rfl,he⟩,h1,h2,rfl,rfl,rfl⟩
   have hec:=e.cs_eq
   have hL:=QX G hb hl (p:=q) (by omega) fns vs' hvx hn0 (by omega) (left-1) e
   rw[hec] at hL
   simp-implicitDefEqProofs[aa,cw,hec]
   refine(de G hL _ (by simp[below])).mono ?_
   rintro r h ⟨v,q2,vs2,n2,l2,rfl,rfl,s,hs,rfl,h3,h4,rfl,rfl,rfl⟩
   have hsm:(Sm.mk 1 s [e] [] []).cs=[.int .i64 1,.str s,exL [e],smL [],smL []]:=Sm.cs_eq _
   simp-implicitDefEqProofs[aa,cw,hsm]
   exact dR ⟨1,s,[e],[],[]⟩ q2 _ _ _ (vs'++[s]) (n'+1) (left-1) (.keep (by simp) .nil) (.one (bD (p0:=(Sm.mk 1 s [e] [] []).cs) rfl (Sm.cs_len _) (cd (.p _) (.p _) (.p _))) .nil) (by simp[Sm.sz,aM,aC];omega) (.inr ⟨s,hs,rfl⟩) ⟨by omega,by omega,by omega,by omega,by omega,by omega⟩
 have k3:¬(k:Int)<3:=by omega
 by_cases k7:(k:Int)<7\/d=0
 ·by_cases k7':(k:Int)<7
  ·simp-implicitDefEqProofs[aa,k3,k5,k7']
   refine(de G (mF G hb hl (p:=p+1) (by omega) fns hf vs hvx next (left-1) (d:=3) (by omega)) _ (by simp[below])).mono ?_
   rintro r h ⟨v,q,vs',n',l',rfl,rfl,⟨e,rfl,he⟩,h1,h2,rfl,rfl,rfl⟩
   have hec:=e.cs_eq
   simp-implicitDefEqProofs[aa,cw,hec]
   exact dR ⟨3,[],[e],[],[]⟩ q _ _ _ vs' n' (left-1) (.keep (by simp) .nil) (.one (bD (p0:=(Sm.mk 3 [] [e] [] []).cs) rfl (Sm.cs_len _) (cd (ep (l:=[e]) (by rw[List.map_singleton,hec];rfl)) (View.nils 5) (View.nils 5))) .nil) (by simp[Sm.sz,aM,aC];omega) (.inl rfl) ⟨by omega,by omega,by omega,by omega,by omega,by omega⟩
  ·have hdl:(d:Int)+1<2:=by omega
   simp-implicitDefEqProofs[aa,k3,k5,k7',hdl]
   refine(de G (mF G hb hl (p:=p+1) (by omega) fns hf vs hvx next (left-1) (d:=3) (by omega)) _ (by simp[below])).mono ?_
   rintro r h ⟨v,q,vs',n',l',rfl,rfl,⟨e,rfl,he⟩,h1,h2,rfl,rfl,rfl⟩
   have hec:=e.cs_eq
   simp-implicitDefEqProofs[aa,cw,hec]
   exact dR ⟨3,[],[e],[],[]⟩ q _ _ _ vs' n' (left-1) (.keep (by simp) .nil) (.one (bD (p0:=(Sm.mk 3 [] [e] [] []).cs) rfl (Sm.cs_len _) (cd (ep (l:=[e]) (by rw[List.map_singleton,hec];rfl)) (View.nils 5) (View.nils 5))) .nil) (by simp[Sm.sz,aM,aC];omega) (.inl rfl) ⟨by omega,by omega,by omega,by omega,by omega,by omega⟩
 have k7':¬(k:Int)<7:=λh=>k7 (.inl h)
 have hd1:1<=d:=by omega
 have hd2:¬((d:Int)+1)<2:=by omega
 have hblk2:Lk G b fns d:= @hblk hd1
 by_cases e7:(k:Int)=7
 ·simp-implicitDefEqProofs[aa,k3,k5,k7',hd2,e7]
  refine(de G (MQ G hb hl (p:=p+1) (by omega) fns hf vs hvx next (left-1)) _ (by simp[below])).mono ?_
  rintro r h ⟨v,q,vs',n',l',rfl,rfl,⟨e,rfl,he⟩,h1,h2,rfl,rfl,rfl⟩
  have hec:=e.cs_eq
  simp-implicitDefEqProofs[aa,cw,hec]
  refine(de G (mF G hb hl (p:=q) (by omega) fns hf vs' hvx n' (left-1) (d:=2) (by omega)) _ (by simp[below])).mono ?_
  rintro r h ⟨v,q2,vs2,n2,l2,rfl,rfl,⟨e2,rfl,he2⟩,h3,h4,rfl,rfl,rfl⟩
  have hec2:=e2.cs_eq
  simp-implicitDefEqProofs[aa,cw,hec2]
  exact dR ⟨4,[],[e,e2],[],[]⟩ q2 _ _ _ vs2 n2 (left-1) (.keep (by simp) .nil) (.one (bD (p0:=(Sm.mk 4 [] [e,e2] [] []).cs) rfl (Sm.cs_len _) (cd (ep (l:=[e,e2]) (by rw[WY,List.map_singleton,hec,hec2];rfl)) (View.nils 5) (View.nils 5))) .nil) (by simp[Sm.sz,aM,aC];omega) (.inl rfl) ⟨by omega,by omega,by omega,by omega,by omega,by omega⟩
 by_cases e8:(k:Int)=8
 ·simp-implicitDefEqProofs[aa,k3,k5,k7',hd2,e7,e8]
  refine(de G (MQ G hb hl (p:=p+1) (by omega) fns hf vs hvx next (left-1)) _ (by simp[below])).mono ?_
  rintro r h ⟨v,q,vs',n',l',rfl,rfl,⟨e,rfl,he⟩,h1,h2,rfl,rfl,rfl⟩
  have hec:=e.cs_eq
  simp-implicitDefEqProofs[aa,cw,hec]
  exact dR ⟨3,[],[⟨12,0,[],[e]⟩],[],[]⟩ q _ _ _ vs' n' (left-1) (.keep (by simp) .nil) (.one (bD (p0:=(Sm.mk 3 [] [⟨12,0,[],[e]⟩] [] []).cs) rfl (Sm.cs_len _) (cd (bD (p0:=(Ex.mk 12 0 [] [e]).cs) rfl (Ex.cs_len _) (gV (ep (l:=[e]) (by rw[List.map_singleton,hec];rfl)))) (View.nils 5) (View.nils 5))) .nil) (by simp[Sm.sz,Ex.sz,aM,aC];omega) (.inl rfl) ⟨by omega,by omega,by omega,by omega,by omega,by omega⟩
 have hwd:IntKind.i64.wrap ((d:Int)+1-1)=d:=by rw[ab (by omega) (by omega)];omega
 have hwd2:IntKind.i64.wrap (d:Int)=d:=ab (by omega) (by omega)
 by_cases k11:(k:Int)<11
 ·simp-implicitDefEqProofs[aa,k3,k5,k7',hd2,e7,e8,k11]
  refine(de G (mF G hb hl (p:=p+1) (by omega) fns hf vs hvx next (left-1) (d:=3) (by omega)) _ (by simp[below])).mono ?_
  rintro r h ⟨v,q,vs',n',l',rfl,rfl,⟨e,rfl,he⟩,h1,h2,rfl,rfl,rfl⟩
  have hec:=e.cs_eq
  simp-implicitDefEqProofs[aa,cw,hec,hwd2]
  have hB2:Bd (Pd d) q vs' n' (left-1):=⟨by omega,by omega,hB.w,by omega,by omega,by omega,by omega⟩
  refine(tG G (hblk2 hB2) _).mono ?_
  rintro r h ⟨out,q2,n2,l2,rfl,rfl,z1,z2,m1,m2,m3,m4,m5,m6⟩
  simp-implicitDefEqProofs[aa,cw]
  refine(bf G b hb hl q2 (by omega) 2 _).mono ?_
  rintro r h ⟨k2,rfl,rfl,_⟩
  simp-implicitDefEqProofs[aa]
  refine aO (λhq=>?_) (λhq=>?_)
  ·simp-implicitDefEqProofs[hwd2]
   have hB3:Bd (Pd d) (q2+1) vs' n2 l2:=⟨by omega,by omega,hB.w,by omega,by omega,by omega,by omega⟩
   refine(tG G (hblk2 hB3) _).mono ?_
   rintro r h ⟨out2,q3,n3,l3,rfl,rfl,y1,y2,w1,w2,w3,w4,w5,w6⟩
   simp-implicitDefEqProofs[aa,cw]
   exact dR ⟨5,[],[e],out,out2⟩ q3 _ _ _ vs' n3 l3 (.keep (by simp) .nil) (.one (bD (p0:=(Sm.mk 5 [] [e] out out2).cs) rfl (Sm.cs_len _) (cd (ep (l:=[e]) (by rw[List.map_singleton,hec];rfl)) (lE rfl) (lE rfl))) .nil) (by simp[Sm.sz,aM];omega) (.inl rfl) ⟨by omega,by omega,by omega,by omega,by omega,by omega⟩
  ·simp-implicitDefEqProofs[]
   exact dR ⟨5,[],[e],out,[]⟩ (q2+1) _ _ _ vs' n2 l2 (.keep (by simp) .nil) (.one (bD (p0:=(Sm.mk 5 [] [e] out []).cs) rfl (Sm.cs_len _) (cd (ep (l:=[e]) (by rw[List.map_singleton,hec];rfl)) (lE rfl) (View.nils 5))) .nil) (by simp[Sm.sz,aM,aC];omega) (.inl rfl) ⟨by omega,by omega,by omega,by omega,by omega,by omega⟩
 by_cases e11:(k:Int)=11
 ·simp-implicitDefEqProofs[aa,k3,k5,k7',hd2,e7,e8,k11,e11]
  refine(bf G b hb hl (p+1) (by omega) 3 _).mono ?_
  rintro r h ⟨k2,rfl,rfl,_⟩
  simp-implicitDefEqProofs[aa]
  refine aO (λhq=>?_) (λhq=>?_)
  ·simp-implicitDefEqProofs[]
   refine(de G (mF G hb hl (p:=p+1+1) (by omega) fns hf vs hvx next (left-1) (d:=2) (by omega)) _ (by simp[below])).mono ?_
   rintro r h ⟨v,q,vs',n',l',rfl,rfl,⟨e,rfl,he⟩,h1,h2,rfl,rfl,rfl⟩
   have hec:=e.cs_eq
   simp-implicitDefEqProofs[aa,cw,hec]
   exact dR ⟨7,[],[e],[],[]⟩ q _ _ _ vs' n' (left-1) (.keep (by simp) .nil) (.one (bD (p0:=(Sm.mk 7 [] [e] [] []).cs) rfl (Sm.cs_len _) (cd (ep (l:=[e]) (by rw[List.map_singleton,hec];rfl)) (View.nils 5) (View.nils 5))) .nil) (by simp[Sm.sz,aM,aC];omega) (.inl rfl) ⟨by omega,by omega,by omega,by omega,by omega,by omega⟩
  ·simp-implicitDefEqProofs[]
   have hBL:Bd (Pd d+60) (p+1+1) vs next (left-1):=⟨by omega,by omega,hB.w,hn0,by omega,by omega,by omega⟩
   refine(de G (MW G hb hl fns hd hblk2 hBL) _ (by simp[below])).mono ?_
   rintro r h ⟨v,q,vs2,n2,l2,rfl,rfl,out,s,rfl,z1,z2,z3,hs,rfl,m1,m2,m3,m4,m5,m6⟩
   simp-implicitDefEqProofs[aa,cw]
   exact⟨_,_,q,_,_,vs++[s],n2,l2,rfl,rfl,.keep (by simp) .nil,.keep (by simp) .nil,out,rfl,by omega,z2,z3,.inr ⟨s,hs,rfl⟩,by omega,by omega,by omega,by omega,by omega,by omega⟩
 ·simp-implicitDefEqProofs[aa,k3,k5,k7',hd2,e7,e8,k11,e11]
  have hBL:Bd (Pd d+60) (p+1) vs next (left-1):=⟨by omega,by omega,hB.w,hn0,by omega,by omega,by omega⟩
  refine(de G (MW G hb hl fns hd hblk2 hBL) _ (by simp[below])).mono ?_
  rintro r h ⟨v,q,vs2,n2,l2,rfl,rfl,out,s,rfl,z1,z2,z3,hs,rfl,m1,m2,m3,m4,m5,m6⟩
  simp-implicitDefEqProofs[aa,cw]
  exact⟨_,_,q,_,_,vs++[s],n2,l2,rfl,rfl,.keep (by simp) .nil,.keep (by simp) .nil,out,rfl,by omega,z2,z3,.inr ⟨s,hs,rfl⟩,by omega,by omega,by omega,by omega,by omega,by omega⟩
end
section
variable (G:aK)
structure BkS where (j m:Nat) (out:List Sm) (q:Nat) (vs:List (List UInt8)) (next left:Int)
theorem Up(d:Nat):5000<=Pd d:=by
 have:1<=20^d:=Nat.one_le_pow _ _ (by omega)
 simp only[Pd];omega
theorem PN(d:Nat):Pd (d+1)=20*Pd d:=by simp only[Pd,Nat.pow_succ];omega
theorem Et{b:List Int}(hb:Byt b)(hl:b.length<=2000)(fns:List Fd)(hf:Br fns){d:Nat}(hd:d<=10)(hblk:1<=d->Lk G b fns d):Lk G b fns (d+1):=by
 intro p vs next left hB
 have hp:=hB.p
 have hv:=hB.v
 have hn0:=hB.n0
 have hn1:=hB.n1
 have hl0:=hB.l0
 have hl1:=hB.l1
 have hP:=Up d
 have hPs:=PN d
 generalize hN:Pd d=N at*
 rw[hPs] at hp hv hn1 hl0⊢
 have hGok:∀(vs:List (List UInt8)) (nx lf:Int),okO 4 (.row 5 [cw fns vs nx lf]):=λvs nx lf e he=>by
  rw[WG.1 he];exact⟨by simp[below],rq (by omega),by simp,by simp,by simp,trivial⟩
 refine AC.go tj ?_
 simp-implicitDefEqProofs[lK,HG,cw]
 refine(lY G hb hl (p:=p) (by omega) [2,3,1,4] (k:=4) (by simp) (by simp) (by omega) rfl rfl).mono ?_
 rintro r h ⟨I,hI,rfl,rfl⟩
 obtain⟨J,rfl,hJ⟩:∃J:Nat,I=J/\J<=4:=⟨I.toNat,by simp at hI;omega,by simp at hI;omega⟩
 simp-implicitDefEqProofs[aa]
 refine aN (λs:BkS=>az 40 [(0,.ptr 1 5 0 0),(1,.p (.int .i64 ((d:Int)+1))),(5,.p (aL vs)),(6,.sl 3 5 0 s.out.length),(7,.p (.int .i64 s.j))])
  (λs=>[rdO b s.q,.row 5 [cw fns s.vs s.next s.left],bR 3 (bh fns),.row 5 (smR s.out)])
  (λs=>s.j+s.m<=4/\aC s.out<=s.m*(2*N+3000)/\s.out.length<=2*s.m/\p<=s.q/\s.q<=p+1+s.m*(2*N+3000)/\s.vs.length<=vs.length+s.m/\(∀w∈s.vs,w.length<=8)/\next<=s.next/\s.next<=next+((s.m*(2*N+3000):Nat):Int)/\left-((s.m*(2*N+3000):Nat):Int)<=s.left/\s.left<=left)
  (λs=>s.j) ⟨J,0,[],p+1,vs,next,left⟩ ⟨by simp only;omega,by simp[aC],by simp,by simp,by simp,by simp,hB.w,by simp,by simp,by simp,by simp⟩ ?_ ?_
 ·refine dC (m:=4) (by omega) (bW (h1:=[rdO b (p+1),.row 5 [cw fns vs next left],bR 3 (bh fns),.row 5 (smR [])]) rfl rfl (aD (bw _ _ _) (aD (hGok _ _ _) (aD (mo _ _) (aD (eA (ee [])) gu))))) (by simp[below])
 rintro⟨j,m,out,q,vs',nx,lf⟩ ⟨i1,i2,i3,i4,i5,i6,i7,i8,i9,i10,i11⟩
 simp only at i1 i2 i3 i4 i5 i6 i7 i8 i9 i10 i11
 simp-implicitDefEqProofs[cw]
 have hm4:m*(2*N+3000)<=4*(2*N+3000):=Xy _ (by omega)
 by_cases hc:0<j/\0<lf
 ·obtain⟨c1,c2⟩:=hc
  have hm3:m*(2*N+3000)<=3*(2*N+3000):=Xy _ (by omega)
  have hms:(m+1)*(2*N+3000)=m*(2*N+3000)+(2*N+3000):=by rw[Xw,Nat.one_mul]
  have hmsI:((m+1:Nat):Int)*(2*(N:Int)+3000)=((m*(2*N+3000)+(2*N+3000):Nat):Int):=by rw[←hms];simp
  generalize m*(2*N+3000)=M at*
  have hB2:Bd (2*Pd d+3000) q vs' nx lf:=by
   rw[hN];exact⟨by omega,by omega,i7,by omega,by omega,by omega,by omega⟩
  have hS:=RB G hb hl fns hf hd hblk hB2
  rw[hN] at hS
  simp-implicitDefEqProofs[c1,c2]
  refine(de G hS _ (by simp[below])).mono ?_
  rintro r h ⟨v,q2,vs2,n2,l2,rfl,rfl,out2,rfl,z1,z2,z3,hvs,m1,m2,m3,m4,m5,m6⟩
  have hsl:smL out2= .lst 5 (out2.map Sm.cs):=rfl
  simp-implicitDefEqProofs[aa,cw,hsl]
  have hol:(smR out).length=out.length:=gr out
  have hwj:IntKind.i64.wrap ((j:Int)-1)=((j-1:Nat):Int):=by rw[ab (by omega) (by omega)];omega
  have hrow:List.take out.length (smR out)++List.map ((λx=>List.map AV.p x)∘Sm.cs) out2=smR (out++out2):=by
   rw[WF (by omega),El];rfl
  refine⟨⟨by omega,by omega,by omega⟩,⟨j-1,m+1,out++out2,q2,vs2,n2,l2⟩,⟨by simp only;omega,by simp only;rw[aX,hms];omega,by simp only;rw[WL];omega,by simp only;omega,by simp only;rw[hms];omega,?_,?_,by simp only;omega,by simp only;rw[hmsI];omega,by simp only;rw[hmsI];omega,by simp only;omega⟩,by simp only;omega,?_⟩
  ·simp only
   rcases hvs with rfl|⟨s,_,rfl⟩
   ·omega
   ·rw[WL,List.length_singleton];omega
  ·simp only
   rcases hvs with rfl|⟨s,hs,rfl⟩
   ·exact i7
   ·intro w hw
    rcases WE.1 hw with h|h
    ·exact i7 w h
    ·rw[WG.1 h];exact hs
  ·rw[hrow]
   refine dW [0,1,2,4] (by simp) (by decide) (by decide) (cK rfl (bw _ _ _) (cW ?_ ?_ (cK rfl (mo _ _) (bv rfl (ee _) cg)))) (by simp[below,ren,hwj])
   ·intro x hx
    rw[WG.1 hx];exact⟨by simp[below],rq (by simp),by simp,by simp,by simp,trivial⟩
   ·simp[cw,ren,bn]
 ·have hce:(decide (0<j)&&decide (0<lf))=false:=by
   by_cases h1:0<j
   ·have h2:¬0<lf:=λh=>hc ⟨h1,h⟩
    simp[h2]
   ·simp[h1]
  have fin:PE b fns vs p (20*N) next left [] (.ret (.sl 3 5 0 out.length)) [rdO b q,.row 5 [[.ptr 0 2 0 0,slE 2 3 (bh fns),.p (aL vs),.p (.int .i64 nx),.p (.int .i64 lf)]],bR 3 (bh fns),.row 5 (smR out)]:=
   ⟨out,q,nx,lf,rfl,rfl,by omega,by omega,by omega,by omega,by omega,by omega,by omega,by omega⟩
  by_cases h1:0<j
  ·have h2:¬0<lf:=λh=>hc ⟨h1,h⟩
   simp-implicitDefEqProofs[h1,h2]
   exact fin
  ·simp-implicitDefEqProofs[h1]
   exact fin
end
section
theorem zs:AK.whole kh=FK.ak ka:=rfl
theorem Em{h:List AO}{id:Nat}{out:List Sm}{m:Sm}{c:List AV}(e:h[id]?=some (.row 5 (smR out++[c])))(hc:∀(j:Nat) (q:PV) (a:AV),m.cs[j]?=some q->c[j]?=some a->View h a q):View h (.sl id 5 0 (out.length+1)) (smL (out++[m])):=by
 have hl:((out++[m]).map Sm.cs).length=out.length+1:=by simp
 have:=View.sl (h:=h) id 5 0 _ ((out++[m]).map Sm.cs) e (by rw[hl];simp[gr]) (λx hx=>by obtain⟨b,_,rfl⟩:=Xb.1 hx;exact b.cs_len) (λi j e q e' a a1 a2 a3 a4=>?_)
 ·rwa[hl] at this
 rw[Xt] at a3
 rw[List.map_append] at a1
 rcases Xn i out.length with hi|hi
 ·rw[Wx (by simpa using hi),WR,Wz hi] at a1
  rw[Wx (by simpa[gr] using hi),smR,WR,Wz hi] at a3
  cases a1;cases a3
  rw[WR,a2] at a4
  cases a4
  exact .p _
 ·rw[WD (by simpa using hi)] at a1
  rw[WD (by simpa[gr] using hi),gr] at a3
  rw[Xc] at a1
  cases hd:i-out.length with
  |zero=>
   rw[hd] at a1 a3
   cases a1;cases a3
   exact hc j q a a2 a4
  |succ n=>rw[hd] at a3;simp at a3
variable (G:aK)
theorem ME{b:List Int}(hb:Byt b)(hl:b.length<=2000)(fns:List Fd)(hf:Br fns):Lk G b fns 3:=
 Et G hb hl fns hf (d:=2) (by omega) λ_=>Et G hb hl fns hf (d:=1) (by omega) λ_=>Et G hb hl fns hf (d:=0) (by omega) λh=>absurd h (by omega)
def abcW:List (List UInt8):=[[97],[98],[99]]
def fnQ(p:Nat)(name:List UInt8)(np:Nat)(left:Int)(v:AV)(q:Nat)(vs':List (List UInt8))(next' left':Int):Prop:=
 ∃f:Fd,v= .agg (f.cs.map .p)/\f.name=name/\f.params=abcW.take np/\aC f.body<=40000500/\p<=q/\q<=p+40000500/\left-40000500<=left'/\left'<=left
theorem TP{b:List Int}(hb:Byt b)(hl:b.length<=2000){p:Nat}(hp:p<=90000000000)(fns:List Fd)(hf:Br fns)(vs:List (List UInt8))(next left:Int)(hl0: -1000000000<=left)(hl1:left<=1000000000)(name:List UInt8)(np:Nat)(hnp:np<=3):
 AC Tryz.prog G gi [.ptr 1 5 0 0,.p (.str name),.p (.int .i64 np)] (HG b p fns vs next left) (PG b fns (fnQ p name np left) []):=by
 refine mz G (AC.goK zE zs ?_)
 have hwn:IntKind.i64.wrap ((np:Int)-1)=(np:Int)-1:=ab (by omega) (by omega)
 have h3:(np:Int)<=3:=by omega
 simp-implicitDefEqProofs[kh,ka,HG,cw,hwn,h3,hnp]
 refine pg (az 61 [(0,.ptr 1 5 0 0),(6,.ptr 3 3 0 0),(7,.ptr 4 3 0 0)]) [rdO b p,.row 5 [cw fns (abcW.take np) ((np:Int)-1) left],bR 3 (bh fns),.row 3 [[.p (.str []),.nils,.nils]],.row 3 [[.p (.str name),.p (aL (abcW.take np)),.nils]]] ?_ ?_
 ·have hlen:(abcW.take np).length=np:=by simp[abcW];omega
  simp-implicitDefEqProofs[hnp,hlen]
  refine⟨⟨by omega,by omega⟩,?_⟩
  have hcutR:bV (abcW.take np)= .row 1 (List.take np [[AV.p (PV.str [97])],[AV.p (PV.str [98])],[AV.p (PV.str [99])]]):=by
   simp only[bV,List.map_take];rfl
  rw[←hcutR]
  refine Wk.trans (Ju (h1:=[rdO b p,.row 5 [[.ptr 0 2 0 0,slE 2 3 (bh fns),.sl 4 1 0 np,.p (.int .i64 ((np:Int)-1)),.p (.int .i64 left)]],bR 3 (bh fns),.row 3 [[.p (.str []),.nils,.nils]],bV (abcW.take np),.dead,bV (abcW.take np),.row 3 [[.p (.str name),.sl 6 1 0 np,.nils]]])
   ⟨.inl rfl,.inl rfl,.inl rfl,.inl rfl,.inr ⟨1,_,np,rfl,hcutR⟩,.inl rfl,.inl rfl,.inl rfl,trivial⟩) ?_
  refine Wk.trans (dW (l1:=[(0,.ptr 1 5 0 0),(6,.ptr 3 3 0 0),(7,.ptr 4 3 0 0)])
   (h1:=[rdO b p,.row 5 [[.ptr 0 2 0 0,slE 2 3 (bh fns),.sl 5 1 0 np,.p (.int .i64 ((np:Int)-1)),.p (.int .i64 left)]],bR 3 (bh fns),.row 3 [[.p (.str []),.nils,.nils]],.row 3 [[.p (.str name),.sl 6 1 0 np,.nils]],bV (abcW.take np),bV (abcW.take np)])
   [0,1,2,3,7,4,6] (by simp) (by decide) (by decide) (cK rfl (bw _ _ _) (cW (by simp[below]) (by simp[ren,bn]) (cK rfl (mo _ _) (bv rfl (by simp[below]) (cW (by simp[below]) (by simp[ren,bn]) (cK rfl (gN _) (cK rfl (gN _) cg))))))) (by simp[below,ren]))
   (nZ 5 (by omega) (by simp) rfl (.same (bw _ _ _) (.one (.keep (by simp[below]) (.keep (rq (by omega)) (.one ?_ (.keep (by simp) (.keep (by simp) .nil))))) (.same (mo _ _) (.same (by simp[okO,below]) (.one (.keep (by simp) (.one ?_ (.keep (by simp[below]) .nil))) (.nil _)))))) ?_)
  ·have:=gO (l:=abcW.take np) (id:=5) (h:=mC 5 [rdO b p,.row 5 [[.ptr 0 2 0 0,slE 2 3 (bh fns),.sl 5 1 0 np,.p (.int .i64 ((np:Int)-1)),.p (.int .i64 left)]],bR 3 (bh fns),.row 3 [[.p (.str []),.nils,.nils]],.row 3 [[.p (.str name),.sl 6 1 0 np,.nils]],bV (abcW.take np),bV (abcW.take np)]) rfl
   rwa[hlen] at this
  ·have:=gO (l:=abcW.take np) (id:=6) (h:=mC 5 [rdO b p,.row 5 [[.ptr 0 2 0 0,slE 2 3 (bh fns),.sl 5 1 0 np,.p (.int .i64 ((np:Int)-1)),.p (.int .i64 left)]],bR 3 (bh fns),.row 3 [[.p (.str []),.nils,.nils]],.row 3 [[.p (.str name),.sl 6 1 0 np,.nils]],bV (abcW.take np),bV (abcW.take np)]) rfl
   rwa[hlen] at this
  ·exact⟨.keep (by simp[below]) .nil,.keep (by simp[below]) .nil,.keep (by simp[below]) .nil,trivial⟩
 have hlen:(abcW.take np).length<=3:=by simp[abcW];omega
 have hw8:∀s∈abcW.take np,s.length<=8:=by
  intro s hs
  have:=List.mem_of_mem_take hs
  simp only[abcW,WC,Xr,or_false] at this
  rcases this with rfl|rfl|rfl<;>simp
 have hPd:Pd 3=40000000:=rfl
 have hB:Bd (Pd 3) p (abcW.take np) ((np:Int)-1) left:=by rw[hPd];exact⟨by omega,by omega,hw8,by omega,by omega,by omega,by omega⟩
 simp-implicitDefEqProofs[cw]
 refine(tG G (ME G hb hl fns hf hB) _).mono ?_
 rintro r h ⟨out,q,n2,l2,rfl,rfl,z1,z2,m1,m2,m3,m4,m5,m6⟩
 rw[hPd] at z1 m2 m4 m5
 simp-implicitDefEqProofs[aa,cw]
 have fin:∀(out:List Sm) (q:Nat) (l2:Int) (rest:List AO) (v:AV) (vc:AV) (vs':List (List UInt8)) (n2:Int),Fzs (.dead:: .dead:: .dead::rest) 3 [vc] [.p (aL vs')]->Fzs (.dead:: .dead:: .dead::rest) 3 [v] [.agg ((Fd.mk name (abcW.take np) out).cs.map .p)]->aC out<=40000500->p<=q->q<=p+40000500->left-40000500<=l2->l2<=left->
  DG b fns (fnQ p name np left) (.ret v) (rdO b q:: .row 5 [[.ptr 0 2 0 0,slE 2 3 (bh fns),vc,.p (.int .i64 n2),.p (.int .i64 l2)]]::bR 3 (bh fns)::rest):=λout q l2 rest v vc vs' n2 h1 h2 h3 h4 h5 h6 h7=>
  ⟨_,rest,q,_,_,vs',n2,l2,rfl,rfl,h1,h2,⟨name,abcW.take np,out⟩,rfl,rfl,rfl,h3,h4,h5,h6,h7⟩
 by_cases hl2:0<l2
 ·simp-implicitDefEqProofs[hl2]
  refine(bf G b hb hl q (by omega) 4 _).mono ?_
  rintro r h ⟨k,rfl,rfl,_⟩
  simp-implicitDefEqProofs[aa]
  refine aO (λhc=>?_) (λhc=>?_)
  ·have hwl:IntKind.i64.wrap (l2-1)=l2-1:=ab (by omega) (by omega)
   simp-implicitDefEqProofs[hwl]
   have hShrt:uL (abcW.take np):=⟨by omega,hw8⟩
   refine(de G (mF G hb hl (p:=q+1) (by omega) fns hf (abcW.take np) hShrt n2 (l2-1) (d:=2) (by omega)) _ (by simp[below])).mono ?_
   rintro r h ⟨v,q2,vs2,n3,l3,rfl,rfl,⟨e,rfl,he⟩,h1,h2,hvs,rfl,rfl⟩
   subst hvs
   have hec:=e.cs_eq
   have hol:(smR out).length=out.length:=gr out
   simp-implicitDefEqProofs[aa,cw,hec,hol]
   refine⟨⟨by omega,by omega⟩,?_⟩
   have htk:List.take out.length (smR out)=smR out:=WF (by omega)
   rw[htk]
   have hm:(Sm.mk 7 [] [e] [] []).cs=[.int .i64 7,.str [],.lst 4 [[.int .i64 e.op,.int .i64 e.n,.str e.name,exL e.kids]],.lst 5 [],.lst 5 []]:=by
    rw[Sm.cs_eq,←hec];rfl
   refine fin (out++[⟨7,[],[e],[],[]⟩]) q2 (l2-1) _ _ _ (abcW.take np) n3 (.keep (by simp) .nil) (.agg (.keep (by simp) (.keep (by simp) (.one (Em rfl ?_) .nil))) .nil) (by simp[aX,aC,Sm.sz,aM];omega) (by omega) (by omega) (by omega) (by omega)
   intro j q a a1 a2
   rw[hm] at a1
   match j,a1,a2 with
   |0,a1,a2=>cases a1;cases a2;exact .p _
   |1,a1,a2=>cases a1;cases a2;exact .p _
   |2,a1,a2=>cases a1;cases a2;exact .p _
   |3,a1,a2=>cases a1;cases a2;exact View.e 0 5
   |4,a1,a2=>cases a1;cases a2;exact View.e 0 5
   |j+5,a1,a2=>simp at a1
  ·simp-implicitDefEqProofs[]
   exact fin out (q+1) l2 _ _ _ (abcW.take np) n2 (.keep (by simp) .nil) (.agg (.keep (by simp) (.keep (by simp) (.one (lE rfl) .nil))) .nil) (by omega) (by omega) (by omega) (by omega) (by omega)
 ·simp-implicitDefEqProofs[hl2]
  exact fin out q l2 _ _ _ (abcW.take np) n2 (.keep (by simp) .nil) (.agg (.keep (by simp) (.keep (by simp) (.one (lE rfl) .nil))) .nil) (by omega) (by omega) (by omega) (by omega) (by omega)
end
section
theorem AZ{h:List AO}{s:List UInt8}{ps:List (List UInt8)}{bd:List Sm}{P B:AV}(hP:View h P (aL ps))(hB:View h B (smL bd)):∀(j:Nat) (q:PV) (x:AV),(Fd.mk s ps bd).cs[j]?=some q->[AV.p (.str s),P,B][j]?=some x->View h x q:=by
 intro j q x e1 e2
 match j,e1,e2 with
 |0,e1,e2=>cases e1;cases e2;exact .p _
 |1,e1,e2=>cases e1;cases e2;exact hP
 |2,e1,e2=>cases e1;cases e2;exact hB
 |j+3,e1,e2=>simp[Fd.cs] at e1
theorem vC{h:List AO}{id:Nat}{l:List Fd}(e:h[id]?=some (.row 3 (bh l))):View h (.sl id 3 0 l.length) (fdL l):=by
 have:=iD (h:=h) (id:=id) (sz:=3) (n:=l.length) (ls:=l.map Fd.cs) (by rw[e,bh];simp) (by simp) (λx hx=>by obtain⟨b,_,rfl⟩:=Xb.1 hx;exact b.cs_len)
 exact this
theorem GL(a b:List Fd):bh (a++b)=bh a++bh b:=by simp[bh]
theorem Bc(a:List Fd):(bh a).length=a.length:=by simp[bh]
theorem nq(a b:List Fd):aZ (a++b)=aZ a+aZ b:=by simp[aZ]
def Sn:List Fd:=[⟨[109],[],[⟨3,[],[⟨1,1,[],[]⟩],[],[]⟩]⟩]
theorem Jy:bp Sn=true:=by decide
theorem Je(k:Nat)(hk:k<=3):(abcW.take k).length+((abcW.take k).map List.length).sum<=6:=by
 have h:k=0\/k=1\/k=2\/k=3:=by omega
 rcases h with rfl|rfl|rfl|rfl<;>decide
variable (G:aK)
structure PgS where (j:Nat) (fns:List Fd) (q:Nat) (vs:List (List UInt8)) (next left:Int)
def VC(b:List Int)(p n:Nat)(x:ARes)(h:List AO):Prop:=∃(l:List Fd) (q:Nat),x= .ret (.agg [.p (fdL l)])/\h=[rdO b q]/\bp l=true/\aZ l<=200000000/\p<=q/\q<=p+n
def VT(b:List Int)(p n:Nat)(x:ARes)(h:List AO):Prop:=∃(l:List Fd) (q:Nat) (v:AV) (rest:List AO),x= .ret (.agg [v])/\h=rdO b q::rest/\View (mC 1 h) v (fdL l)/\bp l=true/\aZ l<=200000000/\p<=q/\q<=p+n
theorem Mq{b:List Int}(hb:Byt b)(hl:b.length<=2000){p:Nat}(hp:p<=10000000000):AC Tryz.prog G eq [.ptr 0 2 0 0] [rdO b p] (VC b p 200000000):=by
 refine AC.frz (R:=VT b p 200000000) ?_ 1 (by simp) (λt v h ⟨_,_,_,_,e,_⟩=>by cases e) ?_
 ·refine AC.go Cw ?_
  simp-implicitDefEqProofs[sv]
  refine(lY G hb hl (p:=p) (by omega) [14,20,8,26] (k:=2) (by simp) (by simp) (by omega) rfl rfl).mono ?_
  rintro r h ⟨L0,hL0,rfl,rfl⟩
  have hL:0<=L0/\L0<=26:=by simp at hL0;omega
  simp-implicitDefEqProofs[aa]
  refine(lY G hb hl (p:=p+1) (by omega) [0,1,1,2] (k:=4) (by simp) (by simp) (by omega) rfl rfl).mono ?_
  rintro r h ⟨J0,hJ0,rfl,rfl⟩
  obtain⟨J,rfl,hJ⟩:∃J:Nat,J0=J/\J<=2:=⟨J0.toNat,by simp at hJ0;omega,by simp at hJ0;omega⟩
  simp-implicitDefEqProofs[aa]
  refine aN (λs:PgS=>az 69 [(0,.ptr 0 2 0 0),(2,.ptr 3 1 0 0),(3,.ptr 1 5 0 0),(4,.p (.int .i64 s.j))])
   (λs=>[rdO b s.q,.row 5 [cw s.fns s.vs s.next s.left],bR 3 (bh s.fns),.row 1 [[.nils]]])
   (λs=>s.j+s.fns.length<=2/\Br s.fns/\aZ s.fns<=s.fns.length*40000600/\p<=s.q/\s.q<=p+2+s.fns.length*40000600/\L0-s.fns.length*40000600<=s.left/\s.left<=L0)
   (λs=>s.j) ⟨J,[],p+1+1,[],0,L0⟩ ⟨by simp only[Xm];omega,⟨by simp,by simp⟩,by simp[aZ],by simp only;omega,by simp,by simp,by simp⟩ ?_ ?_
  ·refine Wk.trans (dW (l1:=[(0,.ptr 0 2 0 0),(2,.ptr 3 1 0 0),(3,.ptr 1 5 0 0),(4,.p (.int .i64 J))])
    (h1:=[rdO b (p+1+1),.row 5 [[.ptr 0 2 0 0,.nils,.nils,.p (.int .i64 0),.p (.int .i64 L0)]],.dead,.row 1 [[.nils]]])
    [0,3,2,1] (by simp) (by decide) (by decide) (cK rfl (bw _ _ _) (cW (by simp[below]) (by simp[ren,bn]) (dq (by simp) (bv rfl (by simp[below]) cg)))) (by simp[below,ren]))
    (nZ 4 (by omega) (by simp) rfl (.same (bw _ _ _) (.one (.keep (by simp[below]) (.keep (by simp[below,bh,slE]) (.one (View.nils 1) (.keep (by simp) (.keep (by simp) .nil))))) (.dead (.same (by simp[okO,below]) (.nil _))))) ?_)
   exact⟨.keep (by simp[below]) .nil,.keep (by simp[below]) .nil,.keep (by simp[below]) .nil,.keep (by simp[below]) .nil,trivial⟩
  rintro⟨j,fns,q,vs,nx,lf⟩ ⟨i1,i2,i3,i4,i5,i6,i7⟩
  simp only at i1 i2 i3 i4 i5 i6 i7
  simp-implicitDefEqProofs[cw]
  by_cases hj:0<j
  ·have hfl:fns.length<3:=by omega
   have hcl:(bh fns).length=fns.length:=Bc fns
   obtain⟨nm,hget,hnm⟩:∃nm:List UInt8,([[PV.str [102]],[PV.str [103]],[PV.str [104]]]:List (List PV))[fns.length]?=some [.str nm]/\nm.length<=8:=by
    have h3:fns.length=0\/fns.length=1\/fns.length=2:=by omega
    rcases h3 with h|h|h<;>rw[h]
    ·exact⟨[102],rfl,by simp⟩
    ·exact⟨[103],rfl,by simp⟩
    ·exact⟨[104],rfl,by simp⟩
   simp-implicitDefEqProofs[hj,hcl,hget]
   refine(bf G b hb hl q (by omega) 3 _).mono ?_
   rintro r h ⟨k,rfl,rfl,hk⟩
   have hk3:k<=3:=by omega
   simp-implicitDefEqProofs[aa,hcl,hget]
   refine(de G (TP G hb hl (p:=q+1) (by omega) fns i2 vs nx lf (by omega) (by omega) nm k hk3) _ (by simp[below])).mono ?_
   rintro r h ⟨v,q2,vs2,n2,l2,rfl,rfl,f,rfl,hf1,hf2,z1,z2,z3,z4,z5⟩
   have hcs:=f.cs_len
   have hcf:f.cs=[.str f.name,aL f.params,smL f.body]:=rfl
   simp-implicitDefEqProofs[aa,cw,hcf]
   have hfs:f.sz<=40000600:=by
    have h1:f.sz=1+f.name.length+(f.params.length+(f.params.map List.length).sum)+aC f.body:=rfl
    have h2:=Je k hk3
    rw[←hf2] at h2
    rw[hf1] at h1
    omega
   have hwj:IntKind.i64.wrap ((j:Int)-1)=((j-1:Nat):Int):=by rw[ab (by omega) (by omega)];omega
   have hfp:f.params.length<=3:=by rw[hf2];simp[abcW];omega
   have hrow:bh fns++[[AV.p (.str f.name),.p (aL f.params),.p (smL f.body)]]=bh (fns++[f]):=by rw[GL];rfl
   have hne:bh (fns++[f])≠[]:=by simp[bh]
   have hll:(bh fns).length+1=(bh (fns++[f])).length:=by simp[bh]
   rw[hrow,hll]
   refine⟨⟨by rw[←hll,hcl];omega,by omega⟩,⟨j-1,fns++[f],q2,vs2,n2,l2⟩,⟨by simp;omega,⟨by simp;omega,?_⟩,by simp only[nq,WL];simp[aZ] at*;omega,by simp only;omega,by simp;omega,by simp;omega,by simp only;omega⟩,by simp only;omega,?_⟩
   ·intro x hx
    rcases WE.1 hx with h|h
    ·exact i2.2 x h
    ·rw[WG.1 h,hf1];exact⟨hnm,hfp⟩
   ·rw[dM hne,fq hne]
    refine dW [0,1,5,3] (by simp) (by decide) (by decide) (cK rfl (bw _ _ _) (cW (by simp[below]) (by simp[ren,bn]) (bv rfl (vg _) (bv rfl (by simp[below]) cg)))) (by simp[below,ren,hwj])
  ·simp-implicitDefEqProofs[hj]
   refine(lY G hb hl (p:=q) (by omega) [0,1,2,1] (k:=4) (by simp) (by simp) (by omega) rfl rfl).mono ?_
   rintro r h ⟨N0,hN0,rfl,rfl⟩
   obtain⟨np,rfl,hnp⟩:∃J:Nat,N0=J/\J<=2:=⟨N0.toNat,by simp at hN0;omega,by simp at hN0;omega⟩
   simp-implicitDefEqProofs[aa]
   refine(de G (TP G hb hl (p:=q+1) (by omega) fns i2 vs nx lf (by omega) (by omega) [109] np (by omega)) _ (by simp[below])).mono ?_
   rintro r h ⟨v,q2,vs2,n2,l2,rfl,rfl,f,rfl,hf1,hf2,z1,z2,z3,z4,z5⟩
   have hcf:f.cs=[.str f.name,aL f.params,smL f.body]:=rfl
   have hcl:(bh fns).length=fns.length:=Bc fns
   have hfs:f.sz<=40000600:=by
    have h1:f.sz=1+f.name.length+(f.params.length+(f.params.map List.length).sum)+aC f.body:=rfl
    have h2:=Je np (by omega)
    rw[←hf2] at h2
    rw[hf1] at h1
    simp at h1
    omega
   by_cases hfe:fns=[]
   ·subst hfe
    have h0:bh []=[]:=rfl
    rw[h0]
    simp-implicitDefEqProofs[aa,cw,hcf,h0,zJ,AJ]
    have hrow:[[AV.p (.str f.name),.p (aL f.params),.p (smL f.body)]]=bh [f]:=rfl
    rw[hrow]
    have vw:∀h:List AO,h[8]?=some (.row 3 (bh [f]))->View h (.sl 8 3 0 1) (fdL [f]):=λh e=>vC (l:=[f]) e
    refine((lH G [f] (by simp only[aZ,WY,Xv,List.sum_cons,List.sum_nil] at*;omega)).lend (.agg (.one (vw _ rfl) .nil) .nil) rfl).mono ?_
    rintro r h ⟨rfl,rfl⟩
    simp-implicitDefEqProofs[aa]
    by_cases hok:bp [f]=true
    ·simp-implicitDefEqProofs[hok]
     exact⟨[f],q2,_,_,rfl,rfl,vw _ rfl,hok,by simp only[aZ,WY,Xv,List.sum_cons,List.sum_nil] at*;omega,by omega,by omega⟩
    ·have hok':bp [f]=false:=by simpa using hok
     simp-implicitDefEqProofs[hok']
     exact⟨Sn,q2,_,_,rfl,rfl,bD (p0:=(Fd.mk [109] [] [⟨3,[],[⟨1,1,[],[]⟩],[],[]⟩]).cs) rfl rfl (AZ (View.nils 1) (bD (p0:=(Sm.mk 3 [] [⟨1,1,[],[]⟩] [] []).cs) rfl (Sm.cs_len _) (cd (bD (p0:=(Ex.mk 1 1 [] []).cs) rfl (Ex.cs_len _) (gV (View.nils 4))) (View.nils 5) (View.nils 5)))),Jy,by decide,by omega,by omega⟩
   ·have h0:bh fns≠[]:=λh=>hfe (List.map_eq_nil_iff.1 h)
    simp only[cw,fq h0,dM h0]
    simp-implicitDefEqProofs[aa,hcf,hcl]
    refine⟨⟨by omega,by omega⟩,⟨by omega,by omega⟩,?_⟩
    have hrow:List.take fns.length (List.take fns.length (bh fns))++[[AV.p (.str f.name),.p (aL f.params),.p (smL f.body)]]=bh (fns++[f]):=by
     rw[WF (by rw[WX];omega),WF (by omega),GL];rfl
    rw[hrow]
    have vw:∀h:List AO,h[8]?=some (.row 3 (bh (fns++[f])))->View h (.sl 8 3 0 (fns.length+1)) (fdL (fns++[f])):=λh e=>by
     have:=vC e
     rwa[WL,List.length_singleton] at this
    refine((lH G (fns++[f]) (by rw[nq];simp only[aZ,WY,Xv,List.sum_cons,List.sum_nil] at*;omega)).lend (.agg (.one (vw _ rfl) .nil) .nil) rfl).mono ?_
    rintro r h ⟨rfl,rfl⟩
    simp-implicitDefEqProofs[aa]
    by_cases hok:bp (fns++[f])=true
    ·simp-implicitDefEqProofs[hok]
     exact⟨fns++[f],q2,_,_,rfl,rfl,vw _ rfl,hok,by rw[nq];simp only[aZ,WY,Xv,List.sum_cons,List.sum_nil] at*;omega,by omega,by omega⟩
    ·have hok':bp (fns++[f])=false:=by simpa using hok
     simp-implicitDefEqProofs[hok']
     exact⟨Sn,q2,_,_,rfl,rfl,bD (p0:=(Fd.mk [109] [] [⟨3,[],[⟨1,1,[],[]⟩],[],[]⟩]).cs) rfl rfl (AZ (View.nils 1) (bD (p0:=(Sm.mk 3 [] [⟨1,1,[],[]⟩] [] []).cs) rfl (Sm.cs_len _) (cd (bD (p0:=(Ex.mk 1 1 [] []).cs) rfl (Ex.cs_len _) (gV (View.nils 4))) (View.nils 5) (View.nils 5)))),Jy,by decide,by omega,by omega⟩
 ·rintro v h ⟨l,q,v0,rest,e,rfl,hv,h1,h2,h3,h4⟩
  cases e
  exact⟨_,[rdO b q],by simp,rfl,.agg (.one hv .nil) .nil,.same (bw _ _ _) (.nil _),l,q,rfl,rfl,h1,h2,h3,h4⟩
end
section
variable (G:aK)
theorem De{hF:List AO}{n:Nat}{o k:Int}{w:List UInt8}{ks:List Ex}{K:AV}(hk:View hF K (exL ks)):Fzs hF n [.agg [.p (.int .i64 o),.p (.int .i64 k),.p (.str w),K]] [.agg ((Ex.mk o k w ks).cs.map .p)]:=by
 rw[Ex.cs_eq]
 exact .agg (.keep (by simp) (.keep (by simp) (.keep (by simp) (.one hk .nil)))) .nil
def Qy(h:List AO)(kids:List Ex)(K:AV):Prop:=(K= .nils/\kids=[])\/∃id rows hX,K= .sl (id+1) 4 0 kids.length/\kids≠[]/\h[id+1]?=some (.row 4 rows)/\hX.length=h.length/\(∀(i:Nat) o,hX[i]?=some o->o.live->h[i]?=some o)/\¬Live hX 0/\¬Live hX (id+1)/\
 rows.length=kids.length/\∀(j:Nat) (e e1:List AV),rows[j]?=some e->(exR kids)[j]?=some e1->Fzs hX h.length e e1
def DT(b:List Int)(Q:Ex->Nat->Prop)(x:ARes)(h:List AO):Prop:=∃(e:Ex) (q:Nat) (rest:List AO) (K:AV),x= .ret (.agg [.p (.int .i64 e.op),.p (.int .i64 e.n),.p (.str e.name),K])/\h=rdO b q::rest/\Qy h e.kids K/\Q e q
def EN(b:List Int)(Q:Ex->Nat->Prop)(x:ARes)(h:List AO):Prop:=∃(e:Ex) (q:Nat),x= .ret (.agg [.p (.int .i64 e.op),.p (.int .i64 e.n),.p (.str e.name),slE 1 4 (exR e.kids)])/\h=[rdO b q,bR 4 (exR e.kids)]/\Q e q
def EoQ(p n m:Nat)(e:Ex)(q:Nat):Prop:=e.sz<=n/\p<=q/\q<=p+m
theorem Gt{hF:List AO}{n:Nat}:∀h:List AO,FzO hF n h (List.replicate h.length .dead)
 |[]=> .nil _
 |o::r=>by rw[WP,List.replicate_succ];exact .dead (Gt r)
theorem Gm{hF:List AO}{n sz:Nat}{es es1:List (List AV)}(hl:es.length=es1.length)(hv:∀(j:Nat) (e e1:List AV),es[j]?=some e->es1[j]?=some e1->Fzs hF n e e1):∀(h:List AO) (id:Nat),h[id]?=some (.row sz es)->FzO hF n h ((List.replicate h.length .dead).set id (.row sz es1))
 |[],id,e=>by simp at e
 |o::r,0,e=>by
  cases e
  rw[WP,List.replicate_succ,List.set_cons_zero]
  exact .rows hl hv (Gt r)
 |o::r,id+1,e=>by
  rw[WP,List.replicate_succ,List.set_cons_succ]
  exact .dead (Gm hl hv r id (by simpa using e))
theorem GR{f:FuncId}{args:List AV}{b:List Int}{p:Nat}{Q:Ex->Nat->Prop}(H:AC Tryz.prog G f args [rdO b p] (DT b Q)):AC Tryz.prog G f args [rdO b p] (EN b Q):=by
 refine H.wk (λt v h ⟨_,_,_,_,e,_⟩=>by cases e) ?_
 rintro v h ⟨e,q,rest,K,ev,rfl,hk,hq⟩
 cases ev
 rcases hk with⟨rfl,hk⟩|⟨id,rows,hX,rfl,hne,he,x1,x2,x3,x4,x5,x6⟩
 ·refine⟨_,_,?_,e,q,rfl,rfl,hq⟩
  have h0:exR e.kids=[]:=by rw[hk];rfl
  rw[h0,zJ,AJ]
  exact Wk.ofL [0,0] (by simp) (by simp) (by simp[rdO,iW]) (by simp[below,ay,ren,bn]) (cK rfl (bw _ _ _) (dq (by simp) cg))
 ·have hr:exR e.kids≠[]:=λh=>hne (List.map_eq_nil_iff.1 h)
  have hrl:(exR e.kids).length=e.kids.length:=by simp[exR]
  rw[WQ] at he
  have hid:id<rest.length:=(Wy.1 he).1
  refine⟨.agg [.p (.int .i64 e.op),.p (.int .i64 e.n),.p (.str e.name),slE 1 4 (exR e.kids)],[rdO b q,bR 4 (exR e.kids)],?_,e,q,rfl,rfl,hq⟩
  rw[dM hr,fq hr,hrl]
  refine Wk.trans (ts1:=[.agg [.p (.int .i64 e.op),.p (.int .i64 e.n),.p (.str e.name),.sl (id+1) 4 0 e.kids.length]]) (h1:=rdO b q::(List.replicate rest.length .dead).set id (.row 4 (exR e.kids))) (Ja (hX:=hX) (by simp) x1 x2 (λi ⟨o,e1,l1⟩ ⟨o2,e2,l2⟩=>?_) (by simp) rfl (λi u hi=>?_) (.same (bw _ _ _) (Gm (by rw[hrl];exact x5) x6 rest id he))) ?_
  ·cases i with
   |zero=>exact x3 ⟨o,e1,l1⟩
   |succ i=>
    by_cases hi:i=id
    ·subst hi;exact x4 ⟨o,e1,l1⟩
    ·rw[WQ,WB (Ne.symm hi),List.getElem?_replicate] at e2
     split at e2
     ·cases e2;exact l2
     ·cases e2
  ·cases i with
   |zero=>cases hi;exact .inr ⟨_,rfl,iv (by simp[below,ay];exact hid)⟩
   |succ i=>simp at hi
  ·refine Wk.of [0,id+1] (by simp) (by simp) (by simp) (by simp[below,ay,ren,bn]) (cK rfl (bw _ _ _) (bv ?_ (ec _) cg))
   rw[WQ,WH (by simpa using hid)]
theorem zV{f:FuncId}{args:List AV}{b:List Int}{p:Nat}{Q:Ex->Nat->Prop}(H:AC Tryz.prog G f args [rdO b p] (EN b Q))(rest:List AO)(ha:ay 1 args):
 AC Tryz.prog G f args (rdO b p::rest) λx h=>∃(e:Ex) (q:Nat),x= .ret (.agg [.p (.int .i64 e.op),.p (.int .i64 e.n),.p (.str e.name),slE (rest.length+1) 4 (exR e.kids)])/\h=rdO b q::(rest++[bR 4 (exR e.kids)])/\Q e q:=by
 refine(H.frame (h:=rdO b p::rest) [0] (by simp) (EW (n:=1) ha) (cK rfl (bw _ _ _) cg)).mono ?_
 rintro x h ⟨x0,h0,⟨e,q,rfl,rfl,hq⟩,hl,rfl,rfl⟩
 have hp:∀σ,gy σ (bR 4 (exR e.kids))=bR 4 (exR e.kids):=λσ=>by
  unfold bR
  split
  ·rfl
  ·simp only[gy]
   rw[Xa (g:=id) λx hx=>dF _ x (ec _ x hx)];simp
 have hp2:∀σ,gy σ (rdO b q)=rdO b q:=λσ=>by simp[rdO,gy,bn,ren]
 refine⟨e,q,?_,?_,hq⟩
 ·simp[BX,ren,bn]
 ·have hl2:([rdO b q,bR 4 (exR e.kids)]:List AO).length-[rdO b p].length=1:=rfl
  rw[hl2]
  simp only[WP,Xm,Xt,List.take_succ_cons,List.take_zero,WY,Xv,hp2,List.drop_succ_cons,List.drop_zero,mrg,List.set_cons_zero,Xk,hp]
def LfQ(p:Nat)(v:AV)(q:Nat):Prop:=(∃(o n:Int) (s:List UInt8),v= .agg [.p (.int .i64 o),.p (.int .i64 n),.p (.str s),.nils]/\s.length<=8)/\p<=q/\q<=p+2
theorem KR{b:List Int}(hb:Byt b)(hl:b.length<=2000){p:Nat}(hp:p<=1000000000000)(names:List (List UInt8))(hn:uL names):AC Tryz.prog G du [.ptr 0 2 0 0,.p (aL names)] [rdO b p] λx h=>∃v q,x= .ret v/\h=[rdO b q]/\LfQ p v q:=by
 refine oy G (AC.go sj ?_)
 have hsl:aL names= .lst 1 (names.map λw=>[.str w]):=rfl
 have fin1:∀(o n:Int) (s:List UInt8) (q:Nat) (rest:List AO),p<=q->q<=p+2->s.length<=8->DP b (LfQ p) (.ret (.agg [.p (.int .i64 o),.p (.int .i64 n),.p (.str s),.nils])) (rdO b q::rest):=λo n s q rest h1 h2 hs=>
  ⟨_,rest,q,_,rfl,rfl,iv (by simp),⟨o,n,s,rfl,hs⟩,h1,h2⟩
 have num:∀(q:Nat) (h:List AO),q<=1000000000001->h[0]?=some (rdO b q)->h[2]?=some (Fg [0,1,2,3,5,7,15,16,100,255])->_:=λq h hq h0 h1=>lY G hb hl (p:=q) (by omega) [0,1,2,3,5,7,15,16,100,255] (h:=h) (k:=2) (by simp) (by simp) (by omega) h0 h1
 by_cases hne:names=[]
 ·subst hne
  have hs0:aL []= .lst 1 []:=rfl
  simp-implicitDefEqProofs[fY,hs0]
  refine(num p _ (by omega) rfl rfl).mono ?_
  rintro r h ⟨n,_,rfl,rfl⟩
  simp-implicitDefEqProofs[aa]
  exact fin1 _ _ _ _ _ (by omega) (by omega) (by simp)
 ·have hlen:¬names.length=0:=λh=>hne (XF h)
  simp-implicitDefEqProofs[fY,hsl,hne]
  refine(bf G b hb hl p (by omega) 3 _).mono ?_
  rintro r h ⟨k,rfl,rfl,_⟩
  simp-implicitDefEqProofs[aa]
  refine aO (λhc=>?_) (λhc=>?_)
  ·simp-implicitDefEqProofs[]
   refine(num (p+1) _ (by omega) rfl rfl).mono ?_
   rintro r h ⟨n,_,rfl,rfl⟩
   simp-implicitDefEqProofs[aa]
   exact fin1 _ _ _ _ _ (by omega) (by omega) (by simp)
  ·simp-implicitDefEqProofs[]
   rw[←hsl]
   refine(EP G hb hl (by omega) names hne (by have:=hn.1;omega) _).mono ?_
   rintro r h ⟨s,hs,rfl,rfl⟩
   have:=hn.2 s hs
   simp-implicitDefEqProofs[aa]
   exact fin1 _ _ _ _ _ (by omega) (by omega) this
theorem KY{b:List Int}(hb:Byt b)(hl:b.length<=2000)(names:List (List UInt8))(hn:uL names)(d:Nat)(hd:d+1<=20){p:Nat}(hp:p+6*3^(d+1)<=1000000000000):AC Tryz.prog G bc [.ptr 0 2 0 0,.p (aL names),.p (.int .i64 ((d+1:Nat):Int))] [rdO b p] (EN b (EoQ p (10*3^(d+1)) (6*3^(d+1)))):=by
 have hpow:3^(d+1)=3*3^d:=by rw[Nat.pow_succ];omega
 have h1p:1<=3^d:=Nat.one_le_pow _ _ (by omega)
 have ih:=λ{p:Nat} (hp:p+6*3^d<=1000000000000)=>Al G hb hl names hn d (by omega) (p:=p) hp
 rw[hpow] at hp⊢
 generalize 3^d=t at*
 have hw:IntKind.i64.wrap (d:Int)=(d:Int):=ab (by omega) (by omega)
 have leaf:∀(q:Nat) (rest:List AO),p<=q->q<=p+3->AC Tryz.prog G du [.ptr 0 2 0 0,.p (aL names)] (rdO b q::rest) λx h=>∃v q',x= .ret v/\h=rdO b q'::rest/\LfQ q v q':=λq rest _ _=>ku G (KR G hb hl (by omega) names hn) rest (by simp[below])
 have sub:∀(q:Nat) (rest:List AO),p<=q->q<=p+6+6*t->AC Tryz.prog G bc [.ptr 0 2 0 0,.p (aL names),.p (.int .i64 d)] (rdO b q::rest) λx h=>∃v q',x= .ret v/\h=rdO b q'::rest/\ExQ q (10*t) (6*t) v q':=λq rest _ _=>ku G (ih (by omega)) rest (by simp[below])
 refine GR G (AC.go mS ?_)
 have leafCase:∀(o n:Int) (s:List UInt8) (q:Nat) (rest:List AO),s.length<=8->p<=q->q<=p+5->DT b (EoQ p (10*(3*t)) (6*(3*t))) (.ret (.agg [.p (.int .i64 o),.p (.int .i64 n),.p (.str s),.nils])) (rdO b q::rest):=λo n s q rest h1 h2 h3=>
  ⟨⟨o,n,s,[]⟩,q,rest,_,rfl,rfl,.inl ⟨rfl,rfl⟩,by simp[Ex.sz,aM];omega,h2,by omega⟩
 have top:∀(kids:List Ex) (h:List AO) (k:Nat),h[k+1]?=some (.row 4 (exR kids))->kids≠[]->Qy h kids (.sl (k+1) 4 0 kids.length):=λkids h k hk hne=>
  .inr ⟨k,exR kids,List.replicate h.length .dead,rfl,hne,hk,by simp,λi o e l=>(by rw[List.getElem?_replicate] at e;split at e<;>cases e;exact l.elim),λ⟨o,e,l⟩=>(by rw[List.getElem?_replicate] at e;split at e<;>cases e;exact l.elim),λ⟨o,e,l⟩=>(by rw[List.getElem?_replicate] at e;split at e<;>cases e;exact l.elim),by simp[exR],λj e e1 h1 h2=>(by rw[h1] at h2;cases h2;exact iv (aR (Xg _) _ (ec _ e (WJ h1))))⟩
 have bin:∀(o:Int) (e1 e2:Ex) (q:Nat) (rest:List AO) (k:Nat),(rdO b q::rest)[k+1]?=some (.row 4 [e1.cs.map .p,e2.cs.map .p])->e1.sz<=10*t->e2.sz<=10*t->p<=q->q<=p+6*(3*t)->DT b (EoQ p (10*(3*t)) (6*(3*t))) (.ret (.agg [.p (.int .i64 o),.p (.int .i64 0),.p (.str []),.sl (k+1) 4 0 2])) (rdO b q::rest):=λo e1 e2 q rest k hk h1 h2 h3 h4=>
  ⟨⟨o,0,[],[e1,e2]⟩,q,rest,_,rfl,rfl,top [e1,e2] _ k hk (by simp),by simp[Ex.sz,aM];omega,h3,h4⟩
 have una:∀(o:Int) (e1:Ex) (q:Nat) (rest:List AO) (k:Nat),(rdO b q::rest)[k+1]?=some (.row 4 [e1.cs.map .p])->e1.sz<=10*t->p<=q->q<=p+6*(3*t)->DT b (EoQ p (10*(3*t)) (6*(3*t))) (.ret (.agg [.p (.int .i64 o),.p (.int .i64 0),.p (.str []),.sl (k+1) 4 0 1])) (rdO b q::rest):=λo e1 q rest k hk h1 h3 h4=>
  ⟨⟨o,0,[],[e1]⟩,q,rest,_,rfl,rfl,top [e1] _ k hk (by simp),by simp[Ex.sz,aM];omega,h3,h4⟩
 by_cases hd0:d=0
 ·subst hd0
  simp-implicitDefEqProofs[er]
  refine(leaf p _ (by omega) (by omega)).mono ?_
  rintro r h ⟨v,q,rfl,rfl,⟨o,n,s,rfl,he⟩,h1,h2⟩
  simp-implicitDefEqProofs[aa]
  exact leafCase o n s q _ he (by omega) (by omega)
 have hd2:¬(d:Int)+1<2:=by omega
 simp-implicitDefEqProofs[er,hd2]
 refine(bf G b hb hl p (by omega) 4 _).mono ?_
 rintro r h ⟨k1,rfl,rfl,_⟩
 simp-implicitDefEqProofs[aa]
 refine aO (λhc=>?_) (λhc=>?_)
 ·simp-implicitDefEqProofs[]
  refine(leaf (p+1) _ (by omega) (by omega)).mono ?_
  rintro r h ⟨v,q,rfl,rfl,⟨o,n,s,rfl,he⟩,h1,h2⟩
  simp-implicitDefEqProofs[aa]
  exact leafCase o n s q _ he (by omega) (by omega)
 simp-implicitDefEqProofs[]
 refine(bf G b hb hl (p+1) (by omega) 7 _).mono ?_
 rintro r h ⟨k2,rfl,rfl,_⟩
 simp-implicitDefEqProofs[aa]
 refine aO (λhc=>?_) (λhc=>?_)
 ·simp-implicitDefEqProofs[]
  refine(lY G hb hl (p:=p+2) (by omega) [11,12,11] (k:=2) (by simp) (by simp) (by omega) rfl rfl).mono ?_
  rintro r h ⟨n,_,rfl,rfl⟩
  simp-implicitDefEqProofs[aa,hw]
  refine(sub (p+3) _ (by omega) (by omega)).mono ?_
  rintro r h ⟨v,q,rfl,rfl,⟨e,rfl,he⟩,h1,h2⟩
  have hec:=e.cs_eq
  simp-implicitDefEqProofs[aa,hec]
  exact una n e q _ 2 (by rw[hec];rfl) he (by omega) (by omega)
 ·simp-implicitDefEqProofs[]
  refine(lY G hb hl (p:=p+2) (by omega) [3,3,4,5,6,7,8,9,10] (k:=2) (by simp) (by simp) (by omega) rfl rfl).mono ?_
  rintro r h ⟨n,_,rfl,rfl⟩
  simp-implicitDefEqProofs[aa,hw]
  refine(sub (p+3) _ (by omega) (by omega)).mono ?_
  rintro r h ⟨v,q,rfl,rfl,⟨e,rfl,he⟩,h1,h2⟩
  have hec:=e.cs_eq
  simp-implicitDefEqProofs[aa,hec,hw]
  refine(sub q _ (by omega) (by omega)).mono ?_
  rintro r h ⟨v,q2,rfl,rfl,⟨e2,rfl,he2⟩,h3,h4⟩
  have hec2:=e2.cs_eq
  simp-implicitDefEqProofs[aa,hec2]
  exact bin n e e2 q2 _ 2 (by rw[hec,hec2];rfl) he he2 (by omega) (by omega)
end
end Go.Proofs.YtghpabfdmbdpfaaGreatDoor
