/-
  Contracts and lemmas that the card needs, part 6.
-/
import Derived.Test.YtghpabfdmbdpfaaGreatDoorKf5
namespace Go.Proofs.YtghpabfdmbdpfaaGreatDoor
open Go Go.Aw
set_option maxRecDepth 100000
set_option maxHeartbeats 4000000
section
def ixI:Option Nat->Int|none=> -1|some i=>i
def vaC(nf:Bool)(id n:Nat):AV:=if nf then .nils else .sl id 3 0 n
def lvC(v:LV):List AV:=[.p (.str v.name),.p (.int .i64 v.num),.p (.int .i64 v.block)]
def lvR(vs:List LV):List (List AV):=vs.reverse.map lvC
def roC(nf:Bool)(vs:List LV):AO:=if nf then .dead else .row 3 (lvR vs)
def wC(id:Nat)(nf:Bool)(fns:List Fd)(k:Nat)(w:WS):List AV:=[.p (fdL fns),.p (.int .i64 k),vaC nf id w.vs.length,.p (.int .i64 w.count),.p (.int .i64 w.code)]
def wO(id:Nat)(nf:Bool)(fns:List Fd)(k:Nat)(w:WS):AO:= .row 5 [wC id nf fns k w]
def HWk(nf:Bool)(fns:List Fd)(k:Nat)(w:WS):List AO:=[wO 1 nf fns k w,roC nf w.vs]
theorem zU(vs:List LV):(lvR vs).length=vs.length:=by simp[lvR]
theorem GG(vs:List LV):∀x∈lvR vs,ay 0 x:=by
 intro x hx;obtain⟨m,_,rfl⟩:=Xb.1 hx;simp[lvC,ay,below]
theorem gE(nf:Bool)(vs:List LV)(n:Nat):okO n (roC nf vs):=by
 cases nf
 ·exact eA (λe he=>GG vs e he)
 ·exact trivial
theorem Lo{nf:Bool}{id n m:Nat}(h:id<m):below m (vaC nf id n):=by cases nf<;>simp[vaC,below,h]
theorem Bf{id:Nat}{nf:Bool}{fns:List Fd}{k:Nat}{w:WS}{m:Nat}(h:id<m):ay m (wC id nf fns k w):=⟨by simp,by simp,Lo h,by simp,by simp,trivial⟩
theorem vR{id:Nat}{nf:Bool}{fns:List Fd}{k:Nat}{w:WS}{m:Nat}(h:id<m):okO m (wO id nf fns k w):=by
 intro e he;rw[WG.1 he];exact Bf h
theorem Pw(σ:List Nat)(nf:Bool)(id n:Nat):ren σ (vaC nf id n)=vaC nf (σ.getD id 0) n:=by cases nf<;>rfl
theorem Eg(σ:List Nat)(id:Nat)(nf:Bool)(fns:List Fd)(k:Nat)(w:WS):bn σ (wC id nf fns k w)=wC (σ.getD id 0) nf fns k w:=by
 simp only[wC,bn,Pw];rfl
theorem IM(σ:List Nat)(id:Nat)(nf:Bool)(fns:List Fd)(k:Nat)(w:WS):gy σ (wO id nf fns k w)=wO (σ.getD id 0) nf fns k w:=by
 simp only[wO,gy,WY,Xv,Eg]
theorem Fb(σ:List Nat)(nf:Bool)(vs:List LV):gy σ (roC nf vs)=roC nf vs:=by
 cases nf
 ·show AO.row 3 ((lvR vs).map (bn σ))= .row 3 (lvR vs)
  rw[Xa (g:=id) λx hx=>dF σ x (GG vs x hx)];simp
 ·rfl
theorem Ie(pre:List LV)(v:LV)(r:List LV):(lvR (pre++v::r))[r.length]?=some (lvC v):=by
 simp[lvR]
theorem Ms(v:LV)(r:List LV):lvR (v::r)=lvR r++[lvC v]:=by simp[lvR]
def vG:List LV->List UInt8->Int
 |[],_=> -1
 |v::r,s=>if v.name=s then r.length else vG r s
theorem vb:∀(vs:List LV) (s:List UInt8),(lkV vs s=none/\vG vs s= -1)\/∃pre v r,vs=pre++v::r/\lkV vs s=some v/\vG vs s=r.length
 |[],s=> .inl ⟨rfl,rfl⟩
 |v::r,s=>by
  by_cases h:v.name=s
  ·exact .inr ⟨[],v,r,rfl,by simp[lkV,h],by simp[vG,h]⟩
  ·have h1:lkV (v::r) s=lkV r s:=by simp[lkV,h]
   have h2:vG (v::r) s=vG r s:=by simp[vG,h]
   rw[h1,h2]
   rcases vb r s with h|⟨pre,u,q,e,h⟩
   ·exact .inl h
   ·exact .inr ⟨v::pre,u,q,by rw[e];rfl,h⟩
theorem ug:AK.whole iK=FK.ak iF:=rfl
variable (G:aK)
theorem Iz(l:List Fd)(s:List UInt8)(hl:l.length<=1099511627776):VF Tryz.prog G jT [.agg [.p (fdL l)],.p (.str s)] (.p (.int .i64 (ixI (da l s)))):=by
 refine AC.go Gz ?_
 have hfl:∀l,fdL l= .lst 3 (l.map Fd.cs):=λ_=>rfl
 simp-implicitDefEqProofs[vS,hfl]
 refine aN (λi:Nat=>az 22 [(1,.p (.str s)),(2,.ptr 0 1 0 0),(5,.p (.int .i64 i))]) (λ_=>[.row 1 [[.p (.lst 3 (l.map Fd.cs))]]]) (λi=>i<=l.length/\∀f∈l.take i,f.name≠s) (λi=>l.length-i) 0 (by simp) (an (by simp) (by simp[okO]) (by simp[below])) ?_
 intro i ⟨hi,hn⟩
 simp-implicitDefEqProofs[]
 refine aO (λh=>?_) (λh=>?_)
 ·simp at h
  have hg:=Wz h
  have hce:l[i].cs=[.str l[i].name,aL l[i].params,smL l[i].body]:=rfl
  by_cases he:l[i].name=s
  ·have hf:da l s=some i:=by
    rw[da,WU]
    exact⟨h,by simpa using he,λj hj=>by have:=hn l[j] (XA.2 ⟨j,by omega,rfl⟩);simpa using this⟩
   simp-implicitDefEqProofs[hg,hce,he,hf,ixI]
  ·simp-implicitDefEqProofs[hg,hce,he]
   refine⟨i+1,⟨h,λp hp=>?_⟩,by omega,an (by simp) (by simp[okO]) (by simp[below,w1 (i:=i) (by omega)])⟩
   rw[aq h] at hp
   rcases WE.1 hp with hp|hp
   ·exact hn p hp
   ·rw[WG.1 hp];exact he
 ·simp at h
  rw[WF h] at hn
  have hf:da l s=none:=by
   rw[da,Xd];intro x hx;simpa using hn x hx
  simp-implicitDefEqProofs[hf,ixI]
theorem SB:∀m:Nat,m<26->((([97,98,99,100,101,102,103,104,105,106,107,108,109,110,111,112,113,114,115,116,117,118,119,120,121,122]:List UInt8).take (m+1)).drop m)=[UInt8.ofNat (97+m)]:=by decide
theorem PT:∀m:Nat,m<26->List.drop m ((97:UInt8)::List.take m [98,99,100,101,102,103,104,105,106,107,108,109,110,111,112,113,114,115,116,117,118,119,120,121,122])=[97+UInt8.ofNat m]:=by decide
theorem Bm(n:Nat):VF Tryz.prog G jz [.p (.int .i64 n)] (.p (.str (vnm n))):=by
 refine AC.go CF ?_
 have hm:n%26<26:=Nat.mod_lt _ (by omega)
 have ht:(n:Int).tmod 26=((n%26:Nat):Int):=rfl
 have hw:IntKind.i64.wrap (((n%26:Nat):Int)+1)=((n%26+1:Nat):Int):=w1 (by omega)
 have habc:=SB _ hm
 rw[vnm]
 generalize n%26=m at hm ht hw habc
 have h0:(0:Int)<=(m:Int)+1:=by omega
 have h1:m+1<=26:=by omega
 simp-implicitDefEqProofs[rZ,ht,hw,h0,h1]
 exact⟨by omega,PT m hm⟩
theorem rn(nf:Bool)(fns:List Fd)(k:Nat)(w:WS)(c:Int):AC Tryz.prog G bI [.ptr 0 5 0 0,.p (.int .i64 c)] (HWk nf fns k w) λx h=>x= .ret (.tup [])/\h=HWk nf fns k ⟨w.vs,w.count,fl w.code c⟩:=by
 refine AC.go sX ?_
 by_cases h0:w.code=0
 ·simp-implicitDefEqProofs[gG,HWk,wO,wC,h0,fl]
 ·simp-implicitDefEqProofs[gG,HWk,wO,wC,h0,fl]
theorem BO(nf:Bool)(fns:List Fd)(k:Nat)(w:WS):∀o∈HWk nf fns k w,okO 2 o:=by
 intro o ho
 simp only[HWk,WC,Xr,or_false] at ho
 rcases ho with rfl|rfl
 ·exact vR (by omega)
 ·exact gE _ _ _
theorem JH(nf:Bool)(fns:List Fd)(k:Nat)(w:WS)(hn:nf=true->w.vs=[])(hl:w.vs.length<=1099511627776)(s:List UInt8):AC Tryz.prog G dQ [.ptr 0 5 0 0,.p (.str s)] (HWk nf fns k w) λx h=>x= .ret (.p (.int .i64 (vG w.vs s)))/\h=HWk nf fns k w:=by
 refine AC.go tm ?_
 have hok:=BO nf fns k w
 cases nf with
 |true=>
  have hv:=hn rfl
  rw[HWk] at hok⊢
  simp-implicitDefEqProofs[gB,wO,wC,vaC,hv]
  refine aN (λ_:Unit=>az 27 [(0,.ptr 0 5 0 0),(1,.p (.str s)),(5,.p (.int .i64 (-1)))]) (λ_=>[wO 1 true fns k w,roC true w.vs]) (λ_=>True) (λ_=>0) () trivial ?_ ?_
  ·have e:wO 1 true fns k w= .row 5 [[.p (fdL fns),.p (.int .i64 k),.nils,.p (.int .i64 w.count),.p (.int .i64 w.code)]]:=by simp[wO,wC,vaC]
   rw[←e,←hv]
   exact an (by simp) hok (by simp[below,ab (x:= -1) (by omega) (by omega)])
  ·intro _ _
   simp-implicitDefEqProofs[vG]
   simp[wO,wC,vaC,hv]
 |false=>
  rw[HWk] at hok⊢
  have e:∀r,roC false r= .row 3 (lvR r):=λ_=>rfl
  have hw0:IntKind.i64.wrap ((w.vs.length:Int)-1)=(w.vs.length:Int)-1:=ab (by omega) (by omega)
  simp-implicitDefEqProofs[gB,wO,wC,vaC,hw0]
  refine aN (λr:List LV=>az 27 [(0,.ptr 0 5 0 0),(1,.p (.str s)),(5,.p (.int .i64 ((r.length:Int)-1)))]) (λ_=>[wO 1 false fns k w,roC false w.vs]) (λr=>∃pre,w.vs=pre++r/\vG w.vs s=vG r s) (λr=>r.length) w.vs ⟨[],rfl,rfl⟩ ?_ ?_
  ·exact an (h:=[wO 1 false fns k w,roC false w.vs]) (by simp) hok (by simp[below])
  ·rintro r ⟨pre,e1,e2⟩
   cases r with
   |nil=>
    simp-implicitDefEqProofs[wO,wC,vaC]
    rw[e2];rfl
   |cons v r=>
    have hat:=Ie pre v r
    rw[←e1] at hat
    have hlen:r.length<w.vs.length:=by rw[e1];simp;omega
    have hll:=zU w.vs
    have c1:((r.length+1:Nat):Int)-1=(r.length:Int):=by omega
    have hw1:IntKind.i64.wrap ((r.length:Int)-1)=(r.length:Int)-1:=ab (by omega) (by omega)
    by_cases hs:v.name=s
    ·simp-implicitDefEqProofs[wO,wC,vaC,e,c1,hat,hlen,lvC,hs]
     rw[e2];simp[vG,hs]
    ·simp-implicitDefEqProofs[wO,wC,vaC,e,c1,hat,hlen,lvC,hs]
     refine⟨r,⟨⟨pre++[v],by rw[e1];simp⟩,by rw[e2];simp[vG,hs]⟩,by simp,?_⟩
     refine an (h:=[wO 1 false fns k w,roC false w.vs]) (by simp) hok ?_
     simp[below,hw1]
theorem Oc(nf:Bool)(fns:List Fd)(k:Nat)(w:WS)(hn:nf=true->w.vs=[])(hl:w.vs.length<=1099511627776)(s:List UInt8):AC Tryz.prog G eI [.ptr 0 5 0 0,.p (.str s)] (HWk nf fns k w) λx h=>x= .ret (.p (.str (Bl w.vs s)))/\h=HWk nf fns k ⟨w.vs,w.count,zi w.vs s w.code⟩:=by
 refine AC.go tH ?_
 simp-implicitDefEqProofs[mm]
 refine(JH G nf fns k w hn hl s).mono ?_
 rintro r h ⟨rfl,rfl⟩
 rcases vb w.vs s with⟨e1,e2⟩|⟨pre,v,q,e0,e1,e2⟩
 ·simp-implicitDefEqProofs[aa,e2]
  refine(rn G nf fns k w 3).mono ?_
  rintro r h ⟨rfl,rfl⟩
  simp-implicitDefEqProofs[aa,Bl,zi,e1]
 ·have hat:=Ie pre v q
  rw[←e0] at hat
  have hlen:q.length<w.vs.length:=by rw[e0];simp;omega
  have hnf:nf=false:=by
   cases nf with
   |false=>rfl
   |true=>rw[hn rfl] at e0;simp at e0
  subst hnf
  have e:∀r,roC false r= .row 3 (lvR r):=λ_=>rfl
  have hq:¬(q.length:Int)<0:=by omega
  simp-implicitDefEqProofs[aa,e2,hq,HWk,wO,wC,vaC,e,hat,hlen,lvC]
  refine(Bm G v.num).use ?_
  simp-implicitDefEqProofs[Bl,zi,e1]
theorem Oo(nf:Bool)(fns:List Fd)(k:Nat)(w:WS)(hn:nf=true->w.vs=[])(hl:w.vs.length<=1099511627776)(hc:w.count<=1099511627776)(s:List UInt8)(b:Nat):AC Tryz.prog G eM [.ptr 0 5 0 0,.p (.str s),.p (.int .i64 b)] (HWk nf fns k w) λx h=>x= .ret (.p (.str (vnm w.count)))/\h=[wO 2 false fns k (ni w s b),.dead,roC false (ni w s b).vs]:=by
 refine AC.goK tT ug ?_
 have hw1:IntKind.i64.wrap ((w.count:Int)+1)=(w.count:Int)+1:=ab (by omega) (by omega)
 have hw2:IntKind.i64.wrap ((w.count:Int)+1-1)=(w.count:Int):=by rw[ab (by omega) (by omega)];omega
 have hw3:IntKind.i64.wrap (w.count:Int)=(w.count:Int):=ab (by omega) (by omega)
 have hll:=zU w.vs
 simp-implicitDefEqProofs[iK,iF]
 refine(JH G nf fns k w hn hl s).mono ?_
 rintro r h ⟨rfl,rfl⟩
 simp-implicitDefEqProofs[aa]
 refine pg (az 57 [(0,.ptr 0 5 0 0),(1,.p (.str s)),(2,.p (.int .i64 b))]) (HWk nf fns k ⟨w.vs,w.count,Cy w.vs s b w.code⟩) ?_ ?_
 ·rcases vb w.vs s with⟨e1,e2⟩|⟨pre,v,q,e0,e1,e2⟩
  ·simp-implicitDefEqProofs[e2,Cy,e1]
   exact an (by simp[HWk]) (BO nf fns k w) (by simp[below,HWk])
  ·have hat:=Ie pre v q
   rw[←e0] at hat
   have hlen:q.length<w.vs.length:=by rw[e0];simp;omega
   have hnf:nf=false:=by
    cases nf with
    |false=>rfl
    |true=>rw[hn rfl] at e0;simp at e0
   subst hnf
   have e:∀r,roC false r= .row 3 (lvR r):=λ_=>rfl
   have hq:(0:Int)<=(q.length:Int):=by omega
   by_cases hb:v.block=b
   ·have:=rn G false fns k w 2
    simp only[HWk,wO,wC,vaC,e] at this
    simp-implicitDefEqProofs[e2,HWk,wO,wC,vaC,e,hat,hlen,lvC,hb]
    refine this.mono ?_
    rintro r h ⟨rfl,rfl⟩
    have hp:Cy w.vs s b w.code=fl w.code 2:=by simp[Cy,e1,hb]
    rw[hp]
    simp-implicitDefEqProofs[aa]
    refine an (h:=HWk false fns k ⟨w.vs,w.count,fl w.code 2⟩) ?_ (BO _ _ _ _) ?_
    ·simp[HWk]
    ·simp[below,HWk]
   ·have hp:Cy w.vs s b w.code=w.code:=by simp[Cy,e1,hb]
    have hbi:¬(v.block:Int)=(b:Int):=by omega
    rw[hp]
    simp-implicitDefEqProofs[e2,HWk,wO,wC,vaC,e,hat,hlen,lvC,hbi]
    refine an (h:=HWk false fns k w) ?_ (BO _ _ _ _) ?_
    ·simp[HWk]
    ·simp[below,HWk]
 ·cases nf with
  |true=>
   have hv:=hn rfl
   simp-implicitDefEqProofs[HWk,wO,wC,vaC,roC,hv,hw1,hw2,hw3]
   refine(Bm G w.count).use ?_
   simp-implicitDefEqProofs[ni,lvR,lvC,hv]
  |false=>
   have e:∀r,roC false r= .row 3 (lvR r):=λ_=>rfl
   simp-implicitDefEqProofs[HWk,wO,wC,vaC,e,hw1,hw2,hw3,hll]
   refine⟨by omega,?_⟩
   refine(Bm G w.count).use ?_
   simp-implicitDefEqProofs[ni,Ms,lvC]
   rw[WF (by omega)]
end
section
variable (G:aK)
theorem Ig(l:List Fd)(s:List UInt8)(hl:l.length<=1073741824):VF Tryz.prog G jN [.agg [.p (fdL l)],.p (.str s)] (.p (.int .i64 (ixI (da l s)))):=by
 have hfl:∀l,fdL l= .lst 3 (l.map Fd.cs):=λ_=>rfl
 have dR:∀f:Fd,AC Tryz.prog G fT [.agg (f.cs.map .p),.ptr 1 1 0 0] [.row 1 [[.p (fdL l)]],.row 1 [[.p (.str s)]]] λx h=>x= .ret (.p (.bool (decide (f.name=s))))/\h=[.row 1 [[.p (fdL l)]],.row 1 [[.p (.str s)]]]:=by
  intro f
  have hcs:f.cs=[.str f.name,aL f.params,smL f.body]:=rfl
  refine AC.trim (AC.go CR ?_) (by simp[below])
  simp-implicitDefEqProofs[sx,hcs]
 have idx:AC Tryz.prog G cT [.p (fdL l),.fn (.func fT) [.ptr 1 1 0 0]] [.row 1 [[.p (fdL l)]],.row 1 [[.p (.str s)]]] λx h=>x= .ret (.p (.int .i64 (ixI (da l s))))/\h=[.row 1 [[.p (fdL l)]],.row 1 [[.p (.str s)]]]:=by
  refine AC.go lb ?_
  simp-implicitDefEqProofs[eY,hfl]
  refine aN (λi:Nat=>az 19 [(0,.p (fdL l)),(1,.fn (.func fT) [.ptr 1 1 0 0]),(7,.p (.int .i64 l.length)),(8,.p (.int .i64 i))]) (λ_=>[.row 1 [[.p (fdL l)]],.row 1 [[.p (.str s)]]]) (λi=>i<=l.length/\∀f∈l.take i,f.name≠s) (λi=>l.length-i) 0 (by simp) ?_ ?_
  ·exact an (by simp) (by simp[okO,below]) (by simp[below,ay,hfl])
  ·intro i ⟨hi,hn⟩
   simp-implicitDefEqProofs[hfl]
   refine aO (λh1=>?_) (λh1=>?_)
   ·simp at h1
    have hg:=Wz h1
    simp-implicitDefEqProofs[hg]
    refine(dR l[i]).mono ?_
    rintro r h ⟨rfl,rfl⟩
    by_cases he:l[i].name=s
    ·have hf:da l s=some i:=by
      rw[da,WU]
      exact⟨h1,by simpa using he,λj hj=>by have:=hn l[j] (XA.2 ⟨j,by omega,rfl⟩);simpa using this⟩
     simp-implicitDefEqProofs[aa,he,hf,ixI]
     exact hfl l
    ·simp-implicitDefEqProofs[aa,he]
     refine⟨i+1,⟨h1,λp hp=>?_⟩,by omega,an (h:=[.row 1 [[.p (fdL l)]],.row 1 [[.p (.str s)]]]) (by simp) (by simp[okO,below]) (by simp[below,ay,hfl,w1 (i:=i) (by omega)])⟩
     rw[aq h1] at hp
     rcases WE.1 hp with hp|hp
     ·exact hn p hp
     ·rw[WG.1 hp];exact he
   ·simp at h1
    rw[WF h1] at hn
    have hf:da l s=none:=by
     rw[da,Xd];intro x hx;simpa using hn x hx
    simp-implicitDefEqProofs[hf,ixI]
 refine AC.go FX ?_
 simp-implicitDefEqProofs[vL]
 refine idx.mono ?_
 rintro r h ⟨rfl,rfl⟩
 simp-implicitDefEqProofs[aa]
structure GS where (gap:List AO) (m:Scp)
def mpE(m:Scp):List (PV × AV):=m.map λx=>(.str x.1,.p (.int .i64 x.2))
def scL:List GS->Nat
 |[]=>0
 |g::up=>scL up+g.gap.length+2
def upV:List GS->AV
 |[]=> .nilp
 |g::up=> .ptr (2+scL up+g.gap.length+1) 2 0 0
def scH:List GS->List AO
 |[]=>[]
 |g::up=>scH up++(g.gap++[.mp (mpE g.m),.row 2 [[.mp (2+scL up+g.gap.length),upV up]]])
theorem lZ:∀ch:List GS,(scH ch).length=scL ch
 |[]=>rfl
 |g::up=>by simp only[scH,scL,WL,lZ up,WP,Xm];omega
def cO(fns:List Fd)(k:Nat)(c:Int):AO:= .row 3 [[.p (fdL fns),.p (.int .i64 k),.p (.int .i64 c)]]
def CH(b0:AO)(fns:List Fd)(k:Nat)(c:Int)(ch:List GS):List AO:=b0::cO fns k c::scH ch
theorem jr(b0:AO)(fns:List Fd)(k:Nat)(c:Int)(ch:List GS):(CH b0 fns k c ch).length=2+scL ch:=by
 simp only[CH,WP,lZ];omega
def BL:List GS->Prop
 |[]=>True
 |g::up=>(∀o∈g.gap,okO (2+scL up+g.gap.length) o)/\BL up
theorem kS:∀(ch:List GS) {n:Nat},2+scL ch<=n->below n (upV ch)
 |[],_,_=>by simp[upV,below]
 |g::up,n,h=>by simp only[scL] at h;simp only[upV,below];omega
theorem Ij:∀(ch:List GS) {n:Nat},BL ch->2+scL ch<=n->∀o∈scH ch,okO n o
 |[],_,_,_,o,ho=>by cases ho
 |g::up,n,⟨h1,h2⟩,hn,o,ho=>by
  simp only[scL] at hn
  rw[scH] at ho
  rcases WE.1 ho with h|h
  ·exact Ij up h2 (by omega) o h
  ·rcases WE.1 h with h|h
   ·exact ty (by omega) (h1 o h)
   ·simp only[WC,Xr,or_false] at h
    rcases h with rfl|rfl
    ·intro e he
     obtain⟨x,_,rfl⟩:=Xb.1 he
     simp[below]
    ·intro e he
     rw[WG.1 he]
     exact⟨by simp only[below];omega,kS up (by omega),trivial⟩
theorem GU{b0:AO}{fns:List Fd}{k:Nat}{c:Int}{ch:List GS}(hb:okO 0 b0)(hs:BL ch){n:Nat}(hn:2+scL ch<=n):∀o∈CH b0 fns k c ch,okO n o:=
 aD (eA hb) (aD (by intro e he;rw[WG.1 he];simp[below]) (Ij ch hs hn))
theorem nJ(s:List UInt8):∀m:Scp,ie (.str s) (mpE m)=some ((eD m s).map λn=>AV.p (.int .i64 n))
 |[]=>rfl
 |x::r=>by
  have ih:=nJ s r
  by_cases h:x.1=s
  ·simp[mpE,ie,keq,h,eD]
  ·have h':¬s=x.1:=λe=>h e.symm
   simp only[mpE,WY,ie,keq,h',decide_false]
   simp only[mpE] at ih
   rw[ih];simp[eD,h]
theorem pD(s:List UInt8)(n:Nat):∀m:Scp,lB (.str s) (.p (.int .i64 n)) (mpE m)=some (mpE (eQ m s n))
 |[]=>rfl
 |x::r=>by
  have ih:=pD s n r
  by_cases h:x.1=s
  ·simp[mpE,lB,keq,h,eQ]
  ·have h':¬s=x.1:=λe=>h e.symm
   simp only[mpE,WY,lB,keq,h',decide_false]
   simp only[mpE] at ih
   rw[ih];simp[eQ,h]
abbrev sco(ch:List GS):List Scp:=ch.map GS.m
theorem Ol:∀(pre:List GS) (g:GS) (up:List GS),(scH (pre++g::up))[scL up+g.gap.length]?=some (.mp (mpE g.m))/\(scH (pre++g::up))[scL up+g.gap.length+1]?=some (.row 2 [[.mp (2+scL up+g.gap.length),upV up]])
 |[],g,up=>by
  have hl:(scH up++g.gap).length=scL up+g.gap.length:=by rw[WL,lZ]
  have e:scH (g::up)=(scH up++g.gap)++[.mp (mpE g.m),.row 2 [[.mp (2+scL up+g.gap.length),upV up]]]:=by rw[scH,Xi]
  rw[List.nil_append,e]
  exact⟨by rw[←hl,WD (WK _)];simp,by rw[←hl,WD (by omega)];simp⟩
 |p::pre,g,up=>by
  obtain⟨h1,h2⟩:=Ol pre g up
  have hm1:=(Wy.1 h1).1
  have hm2:=(Wy.1 h2).1
  rw[Xk,scH]
  exact⟨by rw[Wx hm1];exact h1,by rw[Wx hm2];exact h2⟩
theorem ID(ch:List GS):(upV ch).isCell=true:=by cases ch<;>rfl
theorem KC(ch:List GS):(upV ch).cells=[upV ch]:=by cases ch<;>rfl
attribute [simp ↓] ID KC
theorem DX(b0:AO)(fns:List Fd)(k:Nat)(c e:Int)(r:List AO):AC Tryz.prog G cy [.ptr 1 3 0 0,.p (.int .i64 e)] (b0::cO fns k c::r) λx h=>x= .ret (.tup [])/\h=b0::cO fns k (fl c e)::r:=by
 refine AC.go rC ?_
 by_cases h0:c=0
 ·simp-implicitDefEqProofs[fw,cO,h0,fl]
 ·simp-implicitDefEqProofs[fw,cO,h0,fl]
theorem nS(up:AV)(hu:up= .nilp\/∃i,up= .ptr i 2 0 0)(h:List AO):AC Tryz.prog G bl [up] h λx h'=>x= .ret (.ptr (h.length+1) 2 0 0)/\h'=h++[.mp [],.row 2 [[.mp h.length,up]]]:=by
 refine AC.go tL ?_
 rcases hu with rfl|⟨i,rfl⟩
 ·simp-implicitDefEqProofs[im]
 ·simp-implicitDefEqProofs[im]
theorem Nf(b0 c0:AO)(ch:List GS)(rest:List AO)(s:List UInt8):AC Tryz.prog G bm [upV ch,.p (.str s)] (b0::c0::(scH ch++rest)) λx h=>x= .ret (.tup [.p (.int .i64 (((cZ (sco ch) s).getD 0:Nat):Int)),.p (.bool (cZ (sco ch) s).isSome)])/\h=b0::c0::(scH ch++rest):=by
 refine AC.goB mj λhb=>?_
 simp-implicitDefEqProofs[iG]
 have hHl:(b0::c0::(scH ch++rest)).length=2+scL ch+rest.length:=by simp only[WP,WL,lZ];omega
 refine aN (λr:List GS=>az 25 [(0,upV r),(1,.p (.str s))]) (λ_=>b0::c0::(scH ch++rest)) (λr=>∃pre,ch=pre++r/\cZ (sco ch) s=cZ (sco r) s) (λr=>r.length) ch ⟨[],rfl,rfl⟩ ?_ ?_
 ·refine Aq (by simp) hb ?_
  rw[hHl]
  exact⟨⟨kS ch (by omega),by simp⟩,⟨by simp,by simp⟩,trivial⟩
 rintro r ⟨pre,e1,e2⟩
 cases r with
 |nil=>
  rw[e2]
  simp-implicitDefEqProofs[upV,cZ]
 |cons g up=>
  obtain⟨a1,a2⟩:=Ol pre g up
  rw[←e1] at a1 a2
  have b1:=(Wy.1 a1).1
  have b2:=(Wy.1 a2).1
  have l1:(b0::c0::(scH ch++rest))[2+scL up+g.gap.length]?=some (.mp (mpE g.m)):=by
   rw[show 2+scL up+g.gap.length=(scL up+g.gap.length)+1+1 by omega,WQ,WQ,Wx b1,a1]
  have l2:(b0::c0::(scH ch++rest))[2+scL up+g.gap.length+1]?=some (.row 2 [[.mp (2+scL up+g.gap.length),upV up]]):=by
   rw[show 2+scL up+g.gap.length+1=(scL up+g.gap.length+1)+1+1 by omega,WQ,WQ,Wx b2,a2]
  have hmg:=nJ s g.m
  have hle:=lZ ch
  rw[e2]
  generalize hH:b0::c0::(scH ch++rest)=H at*
  have hup:upV (g::up)= .ptr (2+scL up+g.gap.length+1) 2 0 0:=rfl
  cases hh:eD g.m s with
  |some n=>
   rw[hh] at hmg
   simp-implicitDefEqProofs[hup,l1,l2,hmg,cZ,hh]
  |none=>
   rw[hh] at hmg
   simp-implicitDefEqProofs[hup,l1,l2,hmg,cZ,hh]
   refine⟨up,⟨⟨pre++[g],by rw[e1];simp⟩,rfl⟩,by simp,?_⟩
   refine Aq ?_ hb ?_
   ·rw[hHl,lZ];omega
   ·refine⟨⟨kS up ?_,?_⟩,⟨by simp,by simp⟩,trivial⟩
    ·rw[hHl]
     have:=congrArg List.length e1
     have h3:=(Wy.1 l2).1
     rw[hHl] at h3
     omega
    ·simp
end
section
variable (G:aK)
theorem LS.reg{l:List Fd}{pr:Int}{L:Nat}{w:Lw}{h:List AO}{K:AV}{I:List Nat}(H:LS (lwO l pr) L w h K I):LS (lwO l pr) L w.reg (h.set L (lwO l pr w.reg K)) K I:=
 ⟨WH H.lt,H.own.frame λi hi=>WB λe=>(WW.1 H.nd).1 (by rw[e];exact hi),H.nd,H.noc.1,λkid n rows eK hg=>by
   have ho:=H.own
   rw[eK] at ho
   rw[WB λe=>(WW.1 H.nd).1 (by rw[e];exact zR ho)] at hg
   exact H.noc.2 kid n rows eK hg⟩
theorem Sg{l:List Fd}{pr:Int}{L:Nat}{w:Lw}{h:List AO}{K:AV}{I:List Nat}(H:LS (lwO l pr) L w h K I)(hw:w.regs<=1073741824):
 AC Tryz.prog G fJ [.ptr L 5 0 0] h λx h'=>x= .ret (.p (.int .i64 w.regs))/\h'=h.set L (lwO l pr w.reg K):=by
 have hg:=H.here
 have hw1:IntKind.i64.wrap ((w.regs:Int)+1)=((w.regs+1:Nat):Int):=by rw[ab (by omega) (by omega)];omega
 have hw2:IntKind.i64.wrap (((w.regs+1:Nat):Int)-1)=w.regs:=by rw[ab (by omega) (by omega)];omega
 simp only[lwO] at hg
 refine AC.go rN ?_
 have hgs:∀o,(h.set L o)[L]?=some o:=λo=>WH H.lt
 simp-implicitDefEqProofs[-AV.cells,-AV.isCell,aI,aH,kD,hg, ↓hgs]
 rw[hw1,hw2]
 exact⟨rfl,rfl⟩
theorem uK{l:List Fd}{pr:Int}{L:Nat}{w:Lw}{h:List AO}{K:AV}{I:List Nat}(H:LS (lwO l pr) L w h K I){B:Nat}(hok:w.Ok B)(hB:B<=1073741824)(x:Ii){A:AV}{J:List Nat}(hA:OwnL false h [A] [bF x.args] J)(ndJ:J.Nodup)(hJ:∀j∈J,j≠L/\j∉I):
 AC Tryz.prog G bk [.ptr L 5 0 0,.agg [.p (.int .i64 x.op),.p (.int .i64 x.to),A,.p (.int .i64 x.n)]] h λr h'=>r= .ret (.tup [])/\LR (lwO l pr) L (w.put x) (I++J) h h':=by
 have hg:=H.here
 obtain⟨kid,rows,b,P,N,X,rfl,hrow,hlen,hb,hcur,⟨p1,p2⟩,⟨n1,n2⟩,⟨x1,x2⟩,hkl,hN⟩:=H.putAt (Mf l pr) hok.pos x hA ndJ hJ
 obtain⟨a1,a2⟩:=gC hA
 have hins:b.ins.length<=B:=hok.ins _ (WJ hb)
 have hpos:=hok.pos
 have hrow0:h[kid]?=some (.row 5 rows):=by simpa using hrow []
 simp only[lwO] at hg
 refine AC.go rP ?_
 have hgm:∀t,(h++t)[L]?=some (.row 5 [[.p (fdL l),.p (.int .i64 pr),.p (.int .i64 w.regs),.sl kid 5 0 w.bs.length,.p (.int .i64 w.pos)]]):=λt=>by rw[Wx H.lt];exact hg
 rcases hN with⟨rfl,hi0,close⟩|⟨iid,rowsN,rfl,hir,hil,hiil,hik,close⟩
 ·simp-implicitDefEqProofs[-AV.cells,-AV.isCell,aI,af,ag,au,aH,ae,aw,a1,a2,p1,p2,x1,x2,fM,hg,hgm,hrow,hrow0,hcur,hlen]
  exact⟨hok.pos,close [_,_]⟩
 ·have htk:List.take b.ins.length rowsN=rowsN:=WF (by omega)
  have hk2:∀t u,((h++t).set iid .dead++u)[kid]?=some (.row 5 rows):=λt u=>by rw[Wx (by simp;omega),WB hik];exact hrow t
  simp-implicitDefEqProofs[-AV.cells,-AV.isCell,aI,af,ag,au,aH,ae,aw,a1,a2,p1,p2,x1,x2,fM,hg,hgm,hrow,hrow0,hcur,hlen,hir,htk, ↓hk2]
  exact⟨hok.pos,⟨by omega,by omega,by omega⟩,close [_,_]⟩
theorem mN{l:List Fd}{pr:Int}{L:Nat}{w:Lw}{h:List AO}{K:AV}{I:List Nat}(H:LS (lwO l pr) L w h K I){B:Nat}(hok:w.Ok B)(j o:Int)(g:Nat)(nx:List Int){V:AV}{J:List Nat}(hV:OwnL false h [V] [bF nx] J)(ndJ:J.Nodup)(hJ:∀j∈J,j≠L/\j∉I):
 AC Tryz.prog G fz [.ptr L 5 0 0,.p (.int .i64 j),.p (.int .i64 o),.p (.int .i64 g),V] h λr h'=>r= .ret (.tup [])/\LR (lwO l pr) L (w.fin j o g nx) (I++J) h h':=by
 have hg:=H.here
 obtain⟨kid,rows,b,P,N,X,rfl,hrow,hlen,hb,hcur,⟨p1,p2⟩,⟨n1,n2⟩,⟨x1,x2⟩,hkl,hkL,close⟩:=H.finAt (Mf l pr) hok.pos
 obtain⟨a1,a2⟩:=gC hV
 have hrow0:h[kid]?=some (.row 5 rows):=by simpa using hrow []
 have hcl:=close j o g nx V J hV ndJ hJ
 have hLl:=H.lt
 simp only[lwO] at hg
 have hs1:∀o,(h.set kid o)[kid]?=some o:=λo=>WH hkl
 have hs2:∀o,(h.set kid o)[L]?=h[L]?:=λo=>WB hkL
 have hrs:∀r,(rows.set w.pos r)[w.pos]?=some r:=λr=>WH (by rw[hlen];exact hok.pos)
 refine AC.go rQ ?_
 simp-implicitDefEqProofs[-AV.cells,-AV.isCell,aI,af,ag,au,aH,ae,aw,a1,a2,n1,n2,p1,p2,x1,x2,kH,hg,hrow,hrow0,hcur,hlen, ↓hs1, ↓hs2, ↓hrs]
 exact⟨hok.pos,hcl⟩
theorem zN{l:List Fd}{pr:Int}{L:Nat}{w:Lw}{h:List AO}{K:AV}{I:List Nat}(H:LS (lwO l pr) L w h K I){B:Nat}(hok:w.Ok B)(hB:B<=1073741824)(n:Nat)(h0:0<n)(hn:n<=3):
 AC Tryz.prog G be [.ptr L 5 0 0,.p (.int .i64 n)] h λr h'=>r= .ret (.p (.int .i64 w.bs.length))/\LR (lwO l pr) L (w.name n) I h h':=by
 have hg:=H.here
 have hp0:=hok.pos
 have hbl:=hok.bs
 obtain⟨kid,rows,rfl,hrow,hlen,hkl,hkL,close⟩:=H.nameAt (by omega) n []
 have hrow0:h[kid]?=some (.row 5 rows):=by simpa using hrow []
 simp only[lwO] at hg
 have htk:List.take w.bs.length rows=rows:=WF (by omega)
 have hs2:∀u,(h.set kid .dead++u)[L]?=h[L]?:=λu=>by rw[Wx (by simpa using H.lt)];exact WB hkL
 refine AC.go jV ?_
 simp-implicitDefEqProofs[-AV.cells,-AV.isCell,aI,af,ag,au,aH,ae,aw,eS,hg,hrow,hrow0,hlen,htk, ↓hs2]
 exact⟨⟨h0,by omega⟩,⟨by omega,by omega⟩,by simpa[lwO,Lw.name] using close⟩
theorem uE{l:List Fd}{pr:Int}{L:Nat}{w:Lw}{h:List AO}{K:AV}{I:List Nat}(H:LS (lwO l pr) L w h K I){B:Nat}(hok:w.Ok B)(hB:B<=1073741823)(op n:Int)(args:List Int){A:AV}{J:List Nat}(hA:OwnL false h [A] [bF args] J)(ndJ:J.Nodup)(hJ:∀j∈J,j≠L/\j∉I):
 AC Tryz.prog G fh [.ptr L 5 0 0,.p (.int .i64 op),.p (.int .i64 n),A] h λr h'=>r= .ret (.p (.int .i64 w.regs))/\LR (lwO l pr) L (w.mk' op n args) (I++J) h h':=by
 obtain⟨a1,a2⟩:=gC hA
 have hr:=Sg G H (by have:=hok.regs;omega)
 have hA':OwnL false (h.set L (lwO l pr w.reg K)) [A] [bF args] J:=hA.frame λi hi=>WB λe=>(hJ i hi).1 e.symm
 have hp:=uK G H.reg hok.reg (by omega) ⟨op,w.regs,args,n⟩ hA' ndJ hJ
 refine AC.go pF ?_
 simp-implicitDefEqProofs[-AV.cells,-AV.isCell,aI,af,ag,au,aH,ae,aw,a1,a2,jM]
 refine hr.mono ?_
 rintro x h1 ⟨rfl,rfl⟩
 simp-implicitDefEqProofs[-AV.cells,-AV.isCell,aI,af,ag,au,aH,ae,aw,a1,a2,aa]
 refine hp.mono ?_
 rintro x h1 ⟨rfl,hlr⟩
 simp-implicitDefEqProofs[aa]
 obtain⟨K2,I2,b1,b2,b3⟩:=hlr
 refine⟨K2,I2,b1,⟨by simpa using b2.1,λi hi hn=>?_⟩,λj hj=>by simpa using b3 j hj⟩
 rw[b2.2 i (by simpa using hi) hn]
 exact WB λe=>hn (by simp[e])
end
section
theorem Ga(a:List Ex):(a.headD (.mk 0 0 [] [])).sz<=aM a+1:=by
 cases a with
 |nil=>rw[Ex.sz_eq];simp[Ex.name,Ex.kids,aM]
 |cons x r=>simp only[List.headD_cons,aM];omega
theorem Qv(s:Sm):tr s=(if s.op=1 then 1 else 0)+aS s.body+aS s.els:=by
 obtain⟨o,n,a,b,e⟩:=s;rw[tr];rfl
mutual
theorem Rg(fa:List UInt8->Int)(d:Int):∀(s:Sm) (m:Scp) (up:List Scp) (nx:Nat) (w:Lw) (B:Nat),w.Ok B->(lwS fa d s m up nx w).2.2.Ok (B+20*s.sz)/\w.bs.length<=(lwS fa d s m up nx w).2.2.bs.length/\nx<=(lwS fa d s m up nx w).2.1/\(lwS fa d s m up nx w).2.1<=nx+s.sz
 | .mk o n a bd el,m,up,nx,w,B,H=>by
   have hz:(Sm.mk o n a bd el).sz=1+n.length+aM a+aC bd+aC el:=Sm.sz_eq _
   rw[hz,lwS]
   simp only
   split
   ·have h1:=(H.name 3).fin 1 0 (g:=w.bs.length) (by simp) [(w.bs.length:Int)]
    have hh:=Ga a
    obtain⟨h2,l2⟩:=mX fa (scF d (m::up)) (a.headD (.mk 0 0 [] [])) _ _ h1
    generalize lwE fa (scF d (m::up)) (a.headD (.mk 0 0 [] [])) _=x at*
    simp at l2
    have h3:=h2.fin 2 x.1 (g:=w.bs.length+1) (by omega) [(w.bs.length:Int)+1,(w.bs.length:Int)+2]
    obtain⟨h4,l4,l5,l6⟩:=dx fa d bd [] (m::up) nx _ _ h3
    generalize aW fa d bd [] (m::up) nx _=y at*
    simp at l4
    have h5:=h4.fin 1 0 (g:=w.bs.length+2) (by omega) [(w.bs.length:Int)]
    exact⟨h5.up (by omega),by simp;omega,l5,by show y.2.1<=_;omega⟩
   ·obtain⟨h1,l1⟩:=jL fa (scF d (m::up)) a _ _ H
    generalize bj fa (scF d (m::up)) a w=x at*
    split
    ·exact⟨(h1.put _).up (by omega),by simpa using l1,by show nx<=nx+1;omega,by show nx+1<=_;omega⟩
    split
    ·exact⟨(h1.put _).up (by omega),by simpa using l1,WK _,by show nx<=_;omega⟩
    split
    ·exact⟨(h1.put _).up (by omega),by simpa using l1,WK _,by show nx<=_;omega⟩
    split
    ·exact⟨(h1.put _).up (by omega),by simpa using l1,WK _,by show nx<=_;omega⟩
    split
    ·have h3:=(h1.name 3).fin 2 (x.1.headD 0) (g:=x.2.bs.length) (by simp) [(x.2.bs.length:Int),(x.2.bs.length:Int)+1]
     obtain⟨h4,l4,l5,l6⟩:=dx fa d bd [] (m::up) nx _ _ h3
     generalize aW fa d bd [] (m::up) nx _=y at*
     simp at l4
     have h5:=h4.fin 1 0 (g:=x.2.bs.length+1) (by omega) [(x.2.bs.length:Int)+2]
     obtain⟨h6,l7,l8,l9⟩:=dx fa d el [] (m::up) y.2.1 _ _ h5
     generalize aW fa d el [] (m::up) y.2.1 _=z at*
     simp at l7
     have h7:=h6.fin 1 0 (g:=x.2.bs.length+2) (by omega) [(x.2.bs.length:Int)+2]
     exact⟨h7.up (by omega),by simp;omega,by show nx<=z.2.1;omega,by show z.2.1<=_;omega⟩
    split
    ·have h3:=(h1.name 1).fin 3 (x.1.headD 0) (g:=x.2.bs.length) (by simp) []
     exact⟨h3.up (by omega),by simp;omega,WK _,by show nx<=_;omega⟩
    ·exact⟨h1.up (by omega),l1,WK _,by show nx<=_;omega⟩
theorem dx(fa:List UInt8->Int)(d:Int):∀(l:List Sm) (m:Scp) (up:List Scp) (nx:Nat) (w:Lw) (B:Nat),w.Ok B->(aW fa d l m up nx w).2.2.Ok (B+20*aC l)/\w.bs.length<=(aW fa d l m up nx w).2.2.bs.length/\nx<=(aW fa d l m up nx w).2.1/\(aW fa d l m up nx w).2.1<=nx+aC l
 |[],m,up,nx,w,B,H=>by rw[aW];exact⟨H.up (by omega),WK _,WK _,by show nx<=_;omega⟩
 |s::r,m,up,nx,w,B,H=>by
  obtain⟨h1,l1,l2,l3⟩:=Rg fa d s m up nx w B H
  have hz:aC (s::r)=s.sz+aC r:=by rw[aC]
  rw[aW,hz]
  obtain⟨h4,l4,l5,l6⟩:=dx fa d r (lwS fa d s m up nx w).1 up _ _ _ h1
  exact⟨h4.up (by omega),by omega,by omega,by omega⟩
end
theorem Fw(fa:List UInt8->Int)(d:Int):∀(a b:List Sm) (m:Scp) (up:List Scp) (nx:Nat) (w:Lw),aW fa d (a++b) m up nx w=aW fa d b (aW fa d a m up nx w).1 up (aW fa d a m up nx w).2.1 (aW fa d a m up nx w).2.2
 |[],b,m,up,nx,w=>by simp[aW]
 |s::r,b,m,up,nx,w=>by rw[Xk,aW,aW,Fw fa d r]
theorem vD{fa:List UInt8->Int}{d:Int}{l:List Sm}{i:Nat}(h:i<l.length)(m:Scp)(up:List Scp)(nx:Nat)(w:Lw):
 aW fa d (l.take (i+1)) m up nx w=lwS fa d l[i] (aW fa d (l.take i) m up nx w).1 up (aW fa d (l.take i) m up nx w).2.1 (aW fa d (l.take i) m up nx w).2.2:=by
 rw[aq h,Fw,aW,aW]
end
section
inductive ChN (h:List AO):AV->List Scp->List Nat->Prop where
 |nil:ChN h .nilp [] []
 |cons (e m:Nat) (c:Scp) (u:AV) (v:List Scp) (C:List Nat):h[e]?=some (.row 2 [[.mp m,u]])->h[m]?=some (.mp (mpE c))->ChN h u v C->ChN h (.ptr e 2 0 0) (c::v) (e::m::C)
section
variable {h h':List AO} {u:AV} {v:List Scp} {C:List Nat}
theorem ChN.frame(H:ChN h u v C)(e:∀i∈C,h'[i]?=h[i]?):ChN h' u v C:=by
 induction H with
 |nil=>exact .nil
 |cons a m c u v C h1 h2 _ ih=>exact .cons a m c u v C (by rw[e a (by simp)];exact h1) (by rw[e m (by simp)];exact h2) (ih λi hi=>e i (by simp[hi]))
theorem ChN.lt(H:ChN h u v C):∀i∈C,i<h.length:=by
 induction H with
 |nil=>intro i hi;cases hi
 |cons a m c u v C h1 h2 _ ih=>
  intro i hi
  simp only[WC] at hi
  rcases hi with rfl|rfl|hi
  ·exact(Wy.1 h1).1
  ·exact(Wy.1 h2).1
  ·exact ih i hi
theorem ChN.more(H:ChN h u v C)(os:List AO):ChN (h++os) u v C:=H.frame λi hi=>Wx (H.lt i hi)
theorem ChN.is(H:ChN h u v C):Aw.below h.length u/\u.isCell=true/\u.cells=[u]:=by
 cases H with
 |nil=>exact⟨trivial,rfl,rfl⟩
 |cons a m c u v C h1 h2 _=>exact⟨(Wy.1 h1).1,rfl,rfl⟩
end
variable (G:aK)
structure FdS where (u:AV) (v:List Scp) (C:List Nat)
theorem Jh{u:AV}{v:List Scp}{C:List Nat}{h:List AO}(H:ChN h u v C)(s:List UInt8):AC Tryz.prog G bm [u,.p (.str s)] h λx h'=>x= .ret (.tup [.p (.int .i64 (scF 0 v s)),.p (.bool (cZ v s).isSome)])/\h'=h:=by
 refine AC.go mj ?_
 simp-implicitDefEqProofs[iG]
 refine aN (λa:FdS=>az 25 [(0,a.u),(1,.p (.str s))]) (λ_=>h) (λa=>ChN h a.u a.v a.C/\cZ v s=cZ a.v s) (λa=>a.v.length) ⟨u,v,C⟩ ⟨H,rfl⟩ ?_ ?_
 ·refine am (WK _) ?_
  exact⟨⟨H.is.1,by simp⟩,⟨by simp,by simp⟩,trivial⟩
 rintro⟨u1,v1,C1⟩ ⟨H1,e⟩
 simp only at H1 e
 cases H1 with
 |nil=>
  have e0:scF 0 v s=0:=by simp[scF,e,cZ]
  rw[e,e0]
  simp-implicitDefEqProofs[cZ]
 |cons a m c u2 v2 C2 h1 h2 H2=>
  have hmg:=nJ s c
  have hb:=H2.is.1
  cases hs:eD c s with
  |some n=>
   rw[hs] at hmg
   have e1:cZ v s=some n:=by rw[e,cZ,hs]
   have e0:scF 0 v s=n:=by simp[scF,e1]
   rw[e1,e0]
   simp-implicitDefEqProofs[h1,h2,hmg]
  |none=>
   rw[hs] at hmg
   have e1:cZ v s=cZ v2 s:=by rw[e,cZ,hs]
   have hu2:u2= .nilp\/∃e,u2= .ptr e 2 0 0:=by
    cases H2 with
    |nil=>exact .inl rfl
    |cons k _ _ _ _ _ _ _ _=>exact .inr ⟨k,rfl⟩
   rcases hu2 with rfl|⟨e2,rfl⟩
   ·simp-implicitDefEqProofs[h1,h2,hmg]
    exact⟨⟨.nilp,v2,C2⟩,⟨H2,e1⟩,by simp,am (WK _) ⟨⟨hb,by simp⟩,⟨by simp,by simp⟩,trivial⟩⟩
   ·simp-implicitDefEqProofs[h1,h2,hmg]
    exact⟨⟨.ptr e2 2 0 0,v2,C2⟩,⟨H2,e1⟩,by simp,am (WK _) ⟨⟨hb,by simp⟩,⟨by simp,by simp⟩,trivial⟩⟩
structure MpS where (i:Nat) (X:List AO) (x:AV)
def og(l:List Int):AO:= .row 1 (l.map λn=>[AV.p (.int .i64 n)])
theorem EV{mk:Lw->AV->AO}{L:Nat}(fa sc:List UInt8->Int)(F:FuncId)(caps:List AV)(a:List Ex){w:Lw}{h:List AO}{K:AV}{I:List Nat}{B:Nat}(E:List Nat)(H:LS mk L w h K I)(hok:w.Ok B)(hB:B+8*aM a<=1073741823)(hE:∀i∈E,i<h.length/\i∉L::I)(hcb:ay h.length caps)
 (hF:∀e∈a,∀(w1:Lw) (h1:List AO) (K1:AV) (I1:List Nat) (B1:Nat),LS mk L w1 h1 K1 I1->w1.Ok B1->B1+8*e.sz<=1073741823->(∀i∈E,h1[i]?=h[i]?)->h.length<=h1.length->(∀i∈E,i∉L::I1)->
   AC Tryz.prog G F (.agg (e.cs.map .p)::caps) h1 λx h'=>x= .ret (.p (.int .i64 (lwE fa sc e w1).1))/\LR mk L (lwE fa sc e w1).2 I1 h1 h'):
 AC Tryz.prog G eE [.p (exL a),.fn (.func F) caps] h λx h'=>∃A J K' I',x= .ret A/\LS mk L (bj fa sc a w).2 h' K' I'/\Frm (L::I) h h'/\(∀j∈I',j∈I\/h.length<=j)/\OwnL false h' [A] [bF (bj fa sc a w).1] J/\J.Nodup/\(∀j∈J,h.length<=j/\j≠L/\j∉I')/\(a≠[]->∃oid,A= .sl oid 1 0 a.length/\h'[oid]?=some (og (bj fa sc a w).1)/\J=[oid]):=by
 have hal:=bL a
 have hxl:∀l,exL l= .lst 4 (l.map Ex.cs):=λ_=>rfl
 have hLl:=H.lt
 refine AC.go uG ?_
 simp-implicitDefEqProofs[ma,hxl]
 refine aN (λs:MpS=>az 22 [(5,s.x),(0,.p (exL a)),(1,.fn (.func F) caps),(8,.p (exL a)),(9,.p (.int .i64 a.length)),(10,.p (.int .i64 s.i))]) (λs=>s.X)
  (λs=>s.i<=a.length/\∃K1 I1,LS mk L (bj fa sc (a.take s.i) w).2 s.X K1 I1/\Frm (L::I) h s.X/\(∀j∈I1,j∈I\/h.length<=j)/\((s.i=0/\s.x= .nils)\/∃oid,s.x= .sl oid 1 0 s.i/\s.X[oid]?=some (og (bj fa sc (a.take s.i) w).1)/\h.length<=oid/\oid∉I1)) (λs=>a.length-s.i) ⟨0,h,.nils⟩ ⟨Xg _,K,I,by rw[List.take_zero,bj];exact H,Frm.refl _ _,λj hj=> .inl hj,.inl ⟨rfl,rfl⟩⟩ ?_ ?_
 ·exact am (WK _) (by simp[below,hxl,hcb])
 rintro⟨i,X,x⟩ ⟨hi,K1,I1,H1,hfr,hI1,hx⟩
 simp only at hi H1 hfr hI1 hx
 have hXl:=hfr.1
 have hlen:(bj fa sc (a.take i) w).1.length=i:=by rw[gd,WX];omega
 simp-implicitDefEqProofs[hxl]
 refine aO (λhc=>?_) (λhc=>?_)
 ·simp at hc
  have hg:=Wz hc
  have hm:=WN hc
  have htk:=vf (fa:=fa) (sc:=sc) hc w
  have hsz:=cQ hm
  have hok1:=(jL fa sc (a.take i) w B hok).1
  have hzt:aM (a.take i)+a[i].sz<=aM a:=by
   have h1:=Xj (i+1) a
   have h2:aM a=aM (a.take (i+1))+aM (a.drop (i+1)):=by
    conv=>lhs;rw[←h1]
    rw[bM]
   rw[aq hc,bM] at h2
   simp only[aM] at h2
   omega
  have hcall:=hF a[i] hm (bj fa sc (a.take i) w).2 (X++[.row 4 [a[i].cs.map .p]]) K1 I1 _ (H1.more _) hok1 (by omega) (λj hj=>by
   obtain⟨h1,h2⟩:=hE j hj
   rw[Wx (by omega)]
   exact hfr.2 j h1 h2) (by simp;omega) (λj hj hm=>by
   obtain⟨h1,h2⟩:=hE j hj
   rcases WC.1 hm with rfl|hm
   ·simp at h2
   ·rcases hI1 j hm with h|h
    ·exact h2 (by simp[h])
    ·omega)
  generalize a[i]=e at hg hm htk hcall
  have hkc:=e.cs_eq
  generalize bj fa sc (a.take i) w=cur at*
  obtain⟨out,w1⟩:=cur
  simp only at htk hcall hok1 H1 hx hlen
  rw[hkc] at hcall
  simp-implicitDefEqProofs[hg,hkc]
  refine hcall.mono ?_
  rintro r h2 ⟨rfl,K2,I2,H2,hfr2,hI2⟩
  have hl2:X.length+1<=h2.length:=by have:=hfr2.1;simpa using this
  have hI2':∀j∈I2,j∈I\/h.length<=j:=λj hj=>by
   rcases hI2 j hj with h|h
   ·exact hI1 j h
   ·simp at h;exact .inr (by omega)
  have hfr2':Frm (L::I) h h2:=hfr.trans (Frm.trans (S:=L::I1) (Frm.more _ X [.row 4 [e.cs.map .p]]) (by rw[hkc];exact hfr2) λj hj=> .inl hj) (λj hj=>by
   rcases WC.1 hj with rfl|hj
   ·exact .inl (by simp)
   ·rcases hI1 j hj with h|h
    ·exact .inl (by simp[h])
    ·exact .inr h)
  rcases hx with⟨rfl,rfl⟩|⟨oid,rfl,hxo,hol,hoI⟩
  ·have ho0:out=[]:=List.length_eq_zero_iff.1 hlen
   subst ho0
   simp-implicitDefEqProofs[aa]
   rw[Xt] at htk
   refine⟨⟨1,_,.sl (h2.length+1) 1 0 1⟩,⟨by simp only;omega,K2,I2,by rw[htk];exact H2.more _,hfr2'.trans (Frm.more (L::I) h2 _) (λj hj=> .inl hj),hI2',.inr ⟨_,rfl,?_,by omega,λhm=>by have:=H2.own.lt hm;omega⟩⟩,by simp only;omega,am (by simp;omega) ?_⟩
   ·rw[htk,WD (by omega)];simp[og]
   ·simp[below,hxl,show IntKind.i64.wrap 1=1 from ab (by omega) (by omega)]
    exact aR (by omega) _ hcb
  ·have hox:oid<X.length:=(Wy.1 hxo).1
   have hx2:h2[oid]?=some (og out):=by
    rw[hfr2.2 oid (by simp;omega) (by
     simp only[WC,not_or]
     exact⟨by omega,hoI⟩),Wx hox];exact hxo
   have hx2':∀t,(h2++t)[oid]?=some (.row 1 (out.map λn=>[AV.p (.int .i64 n)])):=λt=>by rw[Wx (by omega)];exact hx2
   have hot:List.take i (out.map λn=>[AV.p (.int .i64 n)])=out.map λn=>[AV.p (.int .i64 n)]:=WF (by simp;omega)
   simp-implicitDefEqProofs[aa,hx2',hlen,hot]
   have hoI2:oid∉L::I2:=by
    simp only[WC,not_or]
    refine⟨by omega,λhm=>?_⟩
    rcases hI2 oid hm with h|h
    ·exact hoI h
    ·simp at h;omega
   have hset:∀t u,∀j∈L::I2,((h2++t).set oid .dead++u)[j]?=h2[j]?:=λt u j hj=>by
    have hjl:j<h2.length:=by
     rcases WC.1 hj with rfl|hj
     ·exact H2.lt
     ·exact H2.own.lt hj
    rw[Wx (by simp;omega),WB (λe=>hoI2 (by rw[e];exact hj)),Wx hjl]
   refine⟨by omega,⟨i+1,_,.sl (h2.length+1) 1 0 (i+1)⟩,⟨by simp only;omega,K2,I2,by rw[htk];exact H2.frame (hset _ _),?_,hI2',.inr ⟨_,rfl,?_,by omega,λhm=>by have:=H2.own.lt hm;omega⟩⟩,by simp only;omega,am (by simp;omega) ?_⟩
   ·refine⟨by simp;omega,λj hj hn=>?_⟩
    rw[Wx (by simp;omega),WB (by omega),Wx (by omega)]
    exact hfr2'.2 j hj hn
   ·rw[htk,WD (by simp)];simp[og]
   ·simp[below,hxl,show IntKind.i64.wrap ((i:Int)+1)=(i:Int)+1 from ab (by omega) (by omega)]
    exact aR (by omega) _ hcb
 ·simp at hc
  have hie:i=a.length:=by omega
  subst hie
  rw[WZ] at H1 hx hlen
  simp-implicitDefEqProofs[]
  rcases hx with⟨h0,rfl⟩|⟨oid,rfl,hxo,hol,hoI⟩
  ·have ho0:(bj fa sc a w).1=[]:=List.length_eq_zero_iff.1 (by rw[hlen,h0])
   exact⟨[],K1,I1,H1,hfr,hI1,by rw[ho0];exact .nils 1 .nil,List.nodup_nil,λj hj=>(by cases hj),λhn=>(hn (List.length_eq_zero_iff.1 h0)).elim⟩
  ·exact⟨[oid],K1,I1,H1,hfr,hI1,uo hxo hlen.symm,by simp,λj hj=>by
    rw[WG.1 hj];exact⟨hol,by omega,hoI⟩,λ_=>⟨oid,rfl,hxo,rfl⟩⟩
end
section
variable (G:aK)
theorem Nn(l:List Fd)(s:List UInt8):faI l s=ixI (da l s):=by
 unfold faI;cases da l s<;>rfl
theorem jb{d:Nat}{e a:Ex}(h:bP (d+1) e=true)(ha:a∈e.kids):bP d a=true:=by
 rw[bP,WM] at h
 exact WI.1 h.2 a ha
theorem Dz{d:Nat}{e:Ex}(h:bP d e=true)(ho:e.op=10):∃a b,e.kids=[a,b]:=by
 cases d with
 |zero=>cases h
 |succ d=>
  rw[bP,WM] at h
  have h:=h.1
  simp only[lO,WM,inR,decide_eq_true_eq] at h
  obtain⟨⟨⟨⟨⟨_,h2⟩,_⟩,_⟩,_⟩,_⟩:=h
  rw[ho,show loK 10=2 from rfl,show hiK 10=2 from rfl] at h2
  match e.kids,h2 with
  |[a,b],_=>exact⟨a,b,rfl⟩
  |[],h=>simp at h
  |[_],h=>simp at h
  |_::_::_::r,h=>simp only[WP] at h;omega
structure Stg (mk:Lw->AV->AO) (L:Nat) (I0 E:List Nat) (h hB:List AO) (w:Lw) (X:List AO) (K:AV) (I:List Nat):Prop where
 ls:LS mk L w X K I
 fr:Frm (L::I0) h X
 sub:∀j∈I,j∈I0\/h.length<=j
 keep:∀i∈E,X[i]?=hB[i]?
 ap:∀i∈E,i<X.length/\i∉L::I
 ge:hB.length<=X.length
section
variable {mk:Lw->AV->AO} {L:Nat} {I0 E:List Nat} {h hB:List AO} {w w2:Lw} {X X2:List AO} {K:AV} {I:List Nat}
theorem Stg.more(S:Stg mk L I0 E h hB w X K I)(os:List AO):Stg mk L I0 E h hB w (X++os) K I:=
 ⟨S.ls.more os,S.fr.trans (Frm.more (L::I0) X os) λj hj=> .inl hj,S.sub,λi hi=>by rw[Wx (S.ap i hi).1];exact S.keep i hi,λi hi=>⟨by have:=(S.ap i hi).1;simp;omega,(S.ap i hi).2⟩,by have:=S.ge;simp;omega⟩
theorem Stg.step(S:Stg mk L I0 E h hB w X K I){J:List Nat}(hJ:∀j∈J,h.length<=j/\j∉E)(H:LR mk L w2 (I++J) X X2):∃K2 I2,Stg mk L I0 E h hB w2 X2 K2 I2:=by
 obtain⟨K2,I2,a1,a2,a3⟩:=H
 have hE:∀i∈E,i∉L::(I++J):=λi hi hm=>by
  have h1:=(S.ap i hi).2
  simp only[WC,WE,not_or] at hm h1
  rcases hm with hm|hm|hm
  ·exact h1.1 hm
  ·exact h1.2 hm
  ·exact(hJ i hm).2 hi
 have hX:=S.fr.1
 refine⟨K2,I2,a1,S.fr.trans a2 λj hj=>?_,λj hj=>?_,λi hi=>?_,λi hi=>⟨?_,λhm=>?_⟩,?_⟩
 ·simp only[WC,WE] at hj⊢
  rcases hj with rfl|hj|hj
  ·exact .inl (.inl rfl)
  ·rcases S.sub j hj with h|h
   ·exact .inl (.inr h)
   ·exact .inr h
  ·exact .inr (hJ j hj).1
 ·rcases a3 j hj with h|h
  ·rcases WE.1 h with h|h
   ·exact S.sub j h
   ·exact .inr (hJ j h).1
  ·exact .inr (by omega)
 ·rw[a2.2 i (S.ap i hi).1 (hE i hi)];exact S.keep i hi
 ·have:=(S.ap i hi).1;have:=a2.1;omega
 ·have h1:=hE i hi
  simp only[WC,not_or] at hm h1
  rcases hm with hm|hm
  ·exact h1.1 hm
  ·rcases a3 i hm with h|h
   ·exact h1.2 h
   ·have:=(S.ap i hi).1;omega
 ·have:=a2.1;have:=S.ge;omega
theorem Stg.lr(S:Stg mk L I0 E h hB w X K I):LR mk L w I0 h X:=⟨K,I,S.ls,S.fr,S.sub⟩
theorem Stg.of(H:LS mk L w h K I)(os:List AO)(hE:∀i∈E,i<(h++os).length/\i∉L::I):Stg mk L I E h (h++os) w (h++os) K I:=
 ⟨H.more os,Frm.more _ _ _,λj hj=> .inl hj,λ_ _=>rfl,hE,WK _⟩
end
theorem Stg.fresh{mk:Lw->AV->AO}{L:Nat}{I0 E:List Nat}{h hB:List AO}{w:Lw}{X:List AO}{K:AV}{I:List Nat}(S:Stg mk L I0 E h hB w X K I):(∀j∈[X.length],h.length<=j/\j∉E)/\(∀j∈[X.length],j≠L/\j∉I):=by
 refine⟨λj hj=>?_,λj hj=>?_⟩
 ·rw[WG.1 hj]
  exact⟨S.fr.1,λhm=>by have:=(S.ap _ hm).1;omega⟩
 ·rw[WG.1 hj]
  exact⟨λe=>by have:=S.ls.lt;omega,λhm=>by have:=S.ls.own.lt hm;omega⟩
theorem cX(X:List AO)(l:List Int){n:Nat}(hn:n=l.length):OwnL false (X++[.row 1 (l.map λn=>[AV.p (.int .i64 n)])]) [.sl X.length 1 0 n] [bF l] [X.length]:=
 uo (by rw[WD (WK _)];simp) hn
theorem Ka(l:List Fd)(hl:l.length<=1073741824)(pr:Int)(L:Nat):∀(d:Nat) (e:Ex),bP d e=true->∀(w:Lw) (h:List AO) (K:AV) (I:List Nat) (B:Nat) (C:List Nat) (u:AV) (ch:List Scp),LS (lwO l pr) L w h K I->w.Ok B->B+8*e.sz<=1073741823->ChN h u ch C->(∀i∈C,i∉L::I)->
 AC Tryz.prog G br [.ptr L 5 0 0,.agg (e.cs.map .p),u] h λx h'=>x= .ret (.p (.int .i64 (lwE (faI l) (scF 0 ch) e w).1))/\LR (lwO l pr) L (lwE (faI l) (scF 0 ch) e w).2 I h h':=by
 intro d
 induction d with
 |zero=>intro e h;cases h
 |succ d ih=>
 intro e hf w h K I B C u ch H hok hB hC hCd
 have hc:=e.cs_eq
 have hzz:=e.sz_eq
 have hLl:=H.lt
 obtain⟨hub,hu1,hu2⟩:=hC.is
 have hxl:∀l,exL l= .lst 4 (l.map Ex.cs):=λ_=>rfl
 obtain⟨bx,hbx⟩:∃bx,bx=[AO.row 1 [[.ptr L 5 0 0]],.row 4 [[.p (.int .i64 e.op),.p (.int .i64 e.n),.p (.str e.name),.p (exL e.kids)]],.row 1 [[u]]]:=⟨_,rfl⟩
 obtain⟨E,hE⟩:∃E,E=h.length::(h.length+1)::(h.length+2)::C:=⟨_,rfl⟩
 have hIlt:=λj (hj:j∈I)=>H.own.lt hj
 have hS0:Stg (lwO l pr) L I E h (h++bx) w (h++bx) K I:=Stg.of H bx (λi hi=>by
  rw[hE] at hi
  simp only[WC] at hi
  simp only[hbx,WL,WP,Xm,WC,not_or]
  rcases hi with rfl|rfl|rfl|hi
  ·exact⟨by omega,by omega,λhm=>by have:=hIlt _ hm;omega⟩
  ·exact⟨by omega,by omega,λhm=>by have:=hIlt _ hm;omega⟩
  ·exact⟨by omega,by omega,λhm=>by have:=hIlt _ hm;omega⟩
  ·have h1:=hC.lt i hi
   have h2:=hCd i hi
   simp only[WC,not_or] at h2
   exact⟨by omega,h2⟩)
 have kB:∀{w2:Lw} {X:List AO} {K2:AV} {I2:List Nat},Stg (lwO l pr) L I E h (h++bx) w2 X K2 I2->(∀t,(X++t)[h.length]?=some (.row 1 [[.ptr L 5 0 0]]))/\(∀t,(X++t)[h.length+1]?=some (.row 4 [[.p (.int .i64 e.op),.p (.int .i64 e.n),.p (.str e.name),.p (exL e.kids)]]))/\(∀t,(X++t)[h.length+2]?=some (.row 1 [[u]]))/\ChN X u ch C/\(∀i∈C,i∉L::I2):=λ{w2 X K2 I2} S=>by
  have hge:=S.ge
  simp only[hbx,WL,WP,Xm] at hge
  have k0:=S.keep h.length (by simp[hE])
  have k1:=S.keep (h.length+1) (by simp[hE])
  have k2:=S.keep (h.length+2) (by simp[hE])
  rw[WD (by omega)] at k0 k1 k2
  refine⟨λt=>?_,λt=>?_,λt=>?_,(hC.more bx).frame λi hi=>S.keep i (by simp[hE,hi]),λi hi=>(S.ap i (by simp[hE,hi])).2⟩
  ·rw[Wx (by omega),k0,hbx];simp
  ·rw[Wx (by omega),k1,hbx];simp
  ·rw[Wx (by omega),k2,hbx];simp
 have lp:∀{w2:Lw} {X:List AO} {K2:AV} {I2:List Nat},Stg (lwO l pr) L I E h (h++bx) w2 X K2 I2->∀t,(X++t)[L]?=some (lwO l pr w2 K2):=λS t=>by rw[Wx S.ls.lt];exact S.ls.here
 have hfE:=Ou (faI l) (scF 0 ch) e w
 refine AC.go rh ?_
 obtain⟨z0,z1,z2,zC,zD⟩:=kB hS0
 have z0':=z0 []
 have z1':=z1 []
 have z2':=z2 []
 rw[WT] at z0' z1' z2'
 by_cases o1:e.op=1
 ·rw[if_pos o1] at hfE
  have hmk:=uE G hS0.ls hok (by omega) 1 e.n [] (A:= .nils) (J:=[]) (.nils 1 .nil) List.nodup_nil (λj hj=>by cases hj)
  rw[o1] at hbx
  rw[hbx] at hmk
  rw[hfE]
  simp-implicitDefEqProofs[-AV.cells,-AV.isCell,aI,af,ag,au,ah,aH,ae,aw,aj,hu1,hu2,cf,hc,o1]
  refine hmk.mono ?_
  rintro x h1 ⟨rfl,hlr⟩
  simp-implicitDefEqProofs[aa]
  rw[←hbx] at hlr
  obtain⟨K2,I2,S2⟩:=hS0.step (J:=[]) (λj hj=>by cases hj) hlr
  exact S2.lr
 by_cases o2:e.op=2
 ·rw[if_neg o1,if_pos o2] at hfE
  have hfd:=Jh G zC e.name
  rw[o2] at hbx
  rw[hbx] at hfd
  rw[hfE]
  simp-implicitDefEqProofs[-AV.cells,-AV.isCell,aI,af,ag,au,ah,aH,ae,aw,aj,hu1,hu2,cf,hc,o1,o2]
  refine hfd.mono ?_
  rintro x h1 ⟨rfl,rfl⟩
  simp-implicitDefEqProofs[aa]
  rw[←hbx]
  exact hS0.lr
 by_cases o10:e.op=10
 ·rw[if_neg o1,if_neg o2,if_pos o10] at hfE
  obtain⟨a,b,hk⟩:=Dz hf o10
  have hac:=a.cs_eq
  have hbc:=b.cs_eq
  have hkz:aM e.kids=a.sz+b.sz:=by rw[hk];simp[aM]
  rw[hk,lwA] at hfE
  have h1c:=ih a (jb hf (by rw[hk];simp)) w (h++bx) K I B C u ch hS0.ls hok (by omega) zC zD
  obtain⟨ok1,len1⟩:=mX (faI l) (scF 0 ch) a w B hok
  generalize lwE (faI l) (scF 0 ch) a w=x1 at*
  obtain⟨t,ht⟩:∃t,t=x1.2.bs.length:=⟨_,rfl⟩
  simp only[Lw.mk'_len,←ht] at hfE
  rw[hfE]
  have hkx:exL e.kids= .lst 4 [[.int .i64 a.op,.int .i64 a.n,.str a.name,exL a.kids],[.int .i64 b.op,.int .i64 b.n,.str b.name,exL b.kids]]:=by rw[hk,hxl,WY,WY,hac,hbc];rfl
  rw[hac] at h1c
  rw[o10,hkx] at hbx
  rw[hbx] at h1c
  have hkB:= @kB
  rw[hkx] at hkB
  simp-implicitDefEqProofs[-AV.cells,-AV.isCell,aI,af,ag,au,ah,aH,ae,aw,aj,hu1,hu2,cf,hc,o1,o2,o10,hkx]
  refine h1c.mono ?_
  rintro x X1 ⟨rfl,hlr⟩
  rw[←hbx] at hlr
  obtain⟨K1,I1,S1⟩:=hS0.step (J:=[]) (λj hj=>by cases hj) (by rw[WT];exact hlr)
  obtain⟨y0,y1,y2,yC,yD⟩:=hkB S1
  have y0':=y0 []
  rw[WT] at y0'
  simp-implicitDefEqProofs[-AV.cells,-AV.isCell,aI,af,ag,au,ah,aH,ae,aw,aj,hu1,hu2,aa,y0']
  have hm1:=uE G S1.ls ok1 (by omega) 1 0 [] (A:= .nils) (J:=[]) (.nils 1 .nil) List.nodup_nil (λj hj=>by cases hj)
  refine hm1.mono ?_
  rintro x X2 ⟨rfl,hlr⟩
  obtain⟨K2,I2,S2⟩:=S1.step (J:=[]) (λj hj=>by cases hj) hlr
  clear y0 y1 y2 yC yD y0'
  obtain⟨y0,y1,y2,yC,yD⟩:=hkB S2
  have y0':=y0 []
  rw[WT] at y0'
  simp-implicitDefEqProofs[-AV.cells,-AV.isCell,aI,af,ag,au,ah,aH,ae,aw,aj,hu1,hu2,aa,y0']
  have ok2:=ok1.mk' 1 0 []
  have hm2:=zN G S2.ls ok2 (by omega) 2 (by omega) (by omega)
  refine hm2.mono ?_
  rintro x X3 ⟨rfl,hlr⟩
  obtain⟨K3,I3,S3⟩:=S2.step (J:=[]) (λj hj=>by cases hj) (by rw[WT];exact hlr)
  clear y0 y1 y2 yC yD y0'
  obtain⟨y0,y1,y2,yC,yD⟩:=hkB S3
  have y0':=y0 []
  rw[WT] at y0'
  simp-implicitDefEqProofs[-AV.cells,-AV.isCell,aI,af,ag,au,ah,aH,ae,aw,aj,hu1,hu2,aa,y0']
  have htb:t<=B+8*a.sz+2:=by have:=ok2.bs;simp only[Lw.mk'_len,←ht] at this;exact this
  have hwt:IntKind.i64.wrap ((t:Int)+1)=(t:Int)+1:=ab (by omega) (by omega)
  have ok3:=ok2.name 2
  have ok4:=ok3.fin 2 x1.1 (g:=t) (by simp only[Lw.name_len,Lw.mk'_len,←ht];omega) [(t:Int),(t:Int)+1]
  obtain⟨f1,f2⟩:=S3.fresh
  have hm3:=mN G (S3.ls.more [.row 1 ([(t:Int),(t:Int)+1].map λn=>[AV.p (.int .i64 n)])]) ok3 2 x1.1 t [(t:Int),(t:Int)+1] (cX X3 [(t:Int),(t:Int)+1] rfl) (by simp) f2
  simp only[WY,Xv,WP,Xm] at hm3
  simp-implicitDefEqProofs[-AV.cells,-AV.isCell,aI,af,ag,au,ah,aH,ae,aw,aj,hu1,hu2,←ht,hwt]
  refine hm3.mono ?_
  rintro x X4 ⟨rfl,hlr⟩
  obtain⟨K4,I4,S4⟩:=(S3.more _).step f1 hlr
  clear y0 y1 y2 yC yD y0'
  obtain⟨y0,y1,y2,yC,yD⟩:=hkB S4
  have y0':=y0 []
  rw[WT] at y0'
  have y1':=y1 []
  have y2':=y2 []
  rw[WT] at y1' y2'
  have h2c:=ih b (jb hf (by rw[hk];simp)) _ X4 K4 I4 _ C u ch S4.ls ok4 (by omega) yC yD
  obtain⟨ok5,len5⟩:=mX (faI l) (scF 0 ch) b _ _ ok4
  generalize lwE (faI l) (scF 0 ch) b (((x1.2.mk' 1 0 []).name 2).fin 2 x1.1 t [(t:Int),(t:Int)+1])=x2 at*
  rw[hbc] at h2c
  simp-implicitDefEqProofs[-AV.cells,-AV.isCell,aI,af,ag,au,ah,aH,ae,aw,aj,hu1,hu2,aa,y0',y1',y2']
  refine h2c.mono ?_
  rintro x X5 ⟨rfl,hlr⟩
  obtain⟨K5,I5,S5⟩:=S4.step (J:=[]) (λj hj=>by cases hj) (by rw[WT];exact hlr)
  clear y1' y2'
  clear y0 y1 y2 yC yD y0'
  obtain⟨y0,y1,y2,yC,yD⟩:=hkB S5
  have y0':=y0 []
  rw[WT] at y0'
  obtain⟨f1,f2⟩:=S5.fresh
  have hm4:=uE G (S5.ls.more [.row 1 ([x2.1].map λn=>[AV.p (.int .i64 n)])]) ok5 (by omega) 10 0 [x2.1] (cX X5 [x2.1] rfl) (by simp) f2
  simp only[WY,Xv,WP,Xm] at hm4
  simp-implicitDefEqProofs[-AV.cells,-AV.isCell,aI,af,ag,au,ah,aH,ae,aw,aj,hu1,hu2,aa,y0']
  refine hm4.mono ?_
  rintro x X6 ⟨rfl,hlr⟩
  obtain⟨K6,I6,S6⟩:=(S5.more _).step f1 hlr
  have ok6:=ok5.mk' 10 0 [x2.1]
  clear y0 y1 y2 yC yD y0'
  obtain⟨y0,y1,y2,yC,yD⟩:=hkB S6
  have y0':=y0 []
  rw[WT] at y0'
  obtain⟨f1,f2⟩:=S6.fresh
  have hm5:=uK G (S6.ls.more [.row 1 ([(x2.2.regs:Int)].map λn=>[AV.p (.int .i64 n)])]) ok6 (by omega) ⟨10,x1.2.regs,[(x2.2.regs:Int)],0⟩ (cX X6 [(x2.2.regs:Int)] rfl) (by simp) f2
  simp only[WY,Xv,WP,Xm] at hm5
  simp-implicitDefEqProofs[-AV.cells,-AV.isCell,aI,af,ag,au,ah,aH,ae,aw,aj,hu1,hu2,aa,y0']
  refine hm5.mono ?_
  rintro x X7 ⟨rfl,hlr⟩
  obtain⟨K7,I7,S7⟩:=(S6.more _).step f1 hlr
  have ok7:=ok6.put ⟨10,x1.2.regs,[(x2.2.regs:Int)],0⟩
  clear y0 y1 y2 yC yD y0'
  obtain⟨y0,y1,y2,yC,yD⟩:=hkB S7
  have y0':=y0 []
  rw[WT] at y0'
  obtain⟨f1,f2⟩:=S7.fresh
  have hm6:=mN G (S7.ls.more [.row 1 ([(t:Int)+1].map λn=>[AV.p (.int .i64 n)])]) ok7 1 0 (t+1) [(t:Int)+1] (cX X7 [(t:Int)+1] rfl) (by simp) f2
  simp only[WY,Xv,WP,Xm] at hm6
  simp-implicitDefEqProofs[-AV.cells,-AV.isCell,aI,af,ag,au,ah,aH,ae,aw,aj,hu1,hu2,aa,y0',hwt]
  rw[show((t+1:Nat):Int)=(t:Int)+1 by omega] at hm6
  refine hm6.mono ?_
  rintro x X8 ⟨rfl,hlr⟩
  obtain⟨K8,I8,S8⟩:=(S7.more _).step f1 hlr
  simp-implicitDefEqProofs[aa]
  exact S8.lr
 ·rw[if_neg o1,if_neg o2,if_neg o10] at hfE
  have hmap:=EV G (faI l) (scF 0 ch) dU [.ptr h.length 1 0 0,.ptr (h.length+2) 1 0 0] e.kids (h.length::(h.length+2)::C) hS0.ls hok (by omega) (λi hi=>hS0.ap i (by
   rw[hE];simp only[WC] at hi⊢
   rcases hi with rfl|rfl|hi
   ·exact .inl rfl
   ·exact .inr (.inr (.inl rfl))
   ·exact .inr (.inr (.inr hi)))) (by simp[below,hbx]) (λk hk w1 h1 K1 I1 B1 H1 hok1 hB1 hEq hle hap=>by
   have hkc:=k.cs_eq
   have g0:∀t,(h1++t)[h.length]?=some (.row 1 [[.ptr L 5 0 0]]):=λt=>by
    have:=hEq h.length (by simp)
    rw[Wx (by simp[hbx] at hle;omega),this];exact z0'
   have g2:∀t,(h1++t)[h.length+2]?=some (.row 1 [[u]]):=λt=>by
    have:=hEq (h.length+2) (by simp)
    rw[Wx (by simp[hbx] at hle;omega),this];exact z2'
   have hC1:ChN h1 u ch C:=zC.frame λi hi=>hEq i (by simp[hi])
   have hcall:=ih k (jb hf hk) w1 (h1++[.row 4 [k.cs.map .p]]) K1 I1 B1 C u ch (H1.more _) hok1 hB1 (hC1.more _) (λi hi=>hap i (by simp[hi]))
   refine AC.go ov ?_
   rw[hkc] at hcall⊢
   simp-implicitDefEqProofs[-AV.cells,-AV.isCell,aI,af,ag,au,ah,aH,ae,aw,aj,hu1,hu2,gW,g0,g2]
   refine hcall.mono ?_
   rintro x h2 ⟨rfl,hlr⟩
   simp-implicitDefEqProofs[aa]
   exact LR.seq (Frm.more _ h1 _) (λj hj=> .inl hj) hlr (λj hj=> .inl hj))
  obtain⟨okM,lenM⟩:=jL (faI l) (scF 0 ch) e.kids w B hok
  rw[hfE]
  generalize bj (faI l) (scF 0 ch) e.kids w=m at*
  rw[hbx] at hmap
  simp-implicitDefEqProofs[-AV.cells,-AV.isCell,aI,af,ag,au,ah,aH,ae,aw,aj,hu1,hu2,cf,hc,o1,o2,o10]
  refine hmap.mono ?_
  rintro x X1 ⟨A,J,K1,I1,rfl,H1,hfr,hI1,hA,ndJ,hJ,_⟩
  rw[←hbx] at hfr hI1 hJ
  obtain⟨a1,a2⟩:=gC hA
  have hbl:(h++bx).length=h.length+3:=by simp[hbx]
  have S1:Stg (lwO l pr) L I E h (h++bx) m.2 X1 K1 I1:=⟨H1,hS0.fr.trans hfr λj hj=> .inl hj,λj hj=>by
   rcases hI1 j hj with h|h
   ·exact .inl h
   ·exact .inr (by omega),λi hi=>hfr.2 i (hS0.ap i hi).1 (hS0.ap i hi).2,λi hi=>⟨by have:=(hS0.ap i hi).1;have:=hfr.1;omega,λhm=>by
    have h1:=(hS0.ap i hi).2
    have h2:=(hS0.ap i hi).1
    simp only[WC,not_or] at hm h1
    rcases hm with hm|hm
    ·exact h1.1 hm
    ·rcases hI1 i hm with h|h
     ·exact h1.2 h
     ·omega⟩,hfr.1⟩
  have hJE:∀j∈J,h.length<=j/\j∉E:=λj hj=>by
   have h1:=(hJ j hj).1
   exact⟨by omega,λhm=>by have:=(hS0.ap j hm).1;omega⟩
  obtain⟨y0,y1,y2,yC,yD⟩:=kB S1
  have y0':=y0 []
  have y1':=y1 []
  rw[WT] at y0' y1'
  have ylp:=lp S1 []
  rw[WT] at ylp
  simp only[lwO] at ylp
  have hFn:=λq=>uE G H1 okM (by omega) (iS e.op) q m.1 hA ndJ (λj hj=>(hJ j hj).2)
  have hdone:∀q X2,LR (lwO l pr) L (m.2.mk' (iS e.op) q m.1) (I1++J) X1 X2->LR (lwO l pr) L (m.2.mk' (iS e.op) q m.1) I h X2:=λq X2 hlr=>by
   obtain⟨K2,I2,S2⟩:=S1.step hJE hlr
   exact S2.lr
  simp-implicitDefEqProofs[-AV.cells,-AV.isCell,aI,af,ag,au,ah,aH,ae,aw,aj,hu1,hu2,a1,a2,aa,y0',y1',ylp]
  refine aO (λc11=>?_) (λc11=>?_)
  ·have c11:e.op=11:=by simpa using c11
   have hq:(if e.op=13 then faI l e.name else 0)=0:=if_neg (by omega)
   rw[hq]
   have hm:=hFn 0
   have hd:=hdone 0
   rw[show iS e.op=10 by rw[c11];rfl] at hm hd⊢
   simp-implicitDefEqProofs[-AV.cells,-AV.isCell,aI,af,ag,au,ah,aH,ae,aw,aj,hu1,hu2,a1,a2,aa,y0',y1',ylp]
   refine hm.mono ?_
   rintro x X2 ⟨rfl,hlr⟩
   simp-implicitDefEqProofs[aa]
   exact hd _ hlr
  have c11:¬e.op=11:=by simpa using c11
  simp-implicitDefEqProofs[-AV.cells,-AV.isCell,aI,af,ag,au,ah,aH,ae,aw,aj,hu1,hu2,a1,a2,aa,y0',y1',ylp]
  refine aO (λc12=>?_) (λc12=>?_)
  ·have c12:e.op=12:=by simpa using c12
   have hq:(if e.op=13 then faI l e.name else 0)=0:=if_neg (by omega)
   rw[hq]
   have hm:=hFn 0
   have hd:=hdone 0
   rw[show iS e.op=11 by rw[c12];rfl] at hm hd⊢
   simp-implicitDefEqProofs[-AV.cells,-AV.isCell,aI,af,ag,au,ah,aH,ae,aw,aj,hu1,hu2,a1,a2,aa,y0',y1',ylp]
   refine hm.mono ?_
   rintro x X2 ⟨rfl,hlr⟩
   simp-implicitDefEqProofs[aa]
   exact hd _ hlr
  have c12:¬e.op=12:=by simpa using c12
  simp-implicitDefEqProofs[-AV.cells,-AV.isCell,aI,af,ag,au,ah,aH,ae,aw,aj,hu1,hu2,a1,a2,aa,y0',y1',ylp]
  refine aO (λc13=>?_) (λc13=>?_)
  ·have c13:e.op=13:=by simpa using c13
   have hq:(if e.op=13 then faI l e.name else 0)=ixI (da l e.name):=by rw[if_pos c13,Nn]
   rw[hq]
   have hm:=hFn (ixI (da l e.name))
   have hd:=hdone (ixI (da l e.name))
   rw[show iS e.op=14 by rw[c13];rfl] at hm hd⊢
   simp-implicitDefEqProofs[-AV.cells,-AV.isCell,aI,af,ag,au,ah,aH,ae,aw,aj,hu1,hu2,a1,a2,aa,y0',y1',ylp]
   refine((Ig G l e.name hl).ac (by simp[below]) (by simp[below]) _).mono ?_
   rintro x X2 ⟨rfl,rfl⟩
   simp-implicitDefEqProofs[-AV.cells,-AV.isCell,aI,af,ag,au,ah,aH,ae,aw,aj,hu1,hu2,a1,a2,aa,y0',y1',ylp]
   refine hm.mono ?_
   rintro x X2 ⟨rfl,hlr⟩
   simp-implicitDefEqProofs[aa]
   exact hd _ hlr
  ·have c13:¬e.op=13:=by simpa using c13
   have hq:(if e.op=13 then faI l e.name else 0)=0:=if_neg c13
   rw[hq]
   have hm:=hFn 0
   have hd:=hdone 0
   rw[show iS e.op=e.op by rw[iS,if_neg c11,if_neg c12,if_neg c13]] at hm hd⊢
   simp-implicitDefEqProofs[-AV.cells,-AV.isCell,aI,af,ag,au,ah,aH,ae,aw,aj,hu1,hu2,a1,a2,aa,y0',y1',ylp]
   refine hm.mono ?_
   rintro x X2 ⟨rfl,hlr⟩
   simp-implicitDefEqProofs[aa]
   exact hd _ hlr
end
section
theorem FO{d:Nat}{e:Sm}(h:aJ d e=true):∃c,d=c+1:=by
 cases d with
 |zero=>cases h
 |succ d=>exact⟨d,rfl⟩
theorem GW{d:Nat}{x:Sm}(h:aJ d x=true):∀a∈x.args,bP 6 a=true:=by
 obtain⟨d,rfl⟩:=FO h
 rw[aJ,WM,WM] at h
 have h1:=h.1.1
 simp only[fV,WM,WI] at h1
 intro a ha
 have:=h1.1.1.1.2 a ha
 rw[lT,WM] at this
 exact this.1
theorem NA{d:Nat}{x:Sm}(h:aJ d x=true):x.args≠[]:=by
 obtain⟨d,rfl⟩:=FO h
 rw[aJ,WM,WM] at h
 have h1:=h.1.1
 simp only[fV,WM,decide_eq_true_eq] at h1
 have h2:=h1.1.1.1.1.1.1.2
 intro e
 rw[e] at h2
 simp only[Xm,jS] at h2
 split at h2<;>omega
theorem Gi{d:Nat}{x:Sm}(h:aJ (d+1) x=true):∀y∈x.body,aJ d y=true:=by
 rw[aJ,WM,WM] at h
 exact WI.1 h.1.2
theorem JY{d:Nat}{x:Sm}(h:aJ (d+1) x=true):∀y∈x.els,aJ d y=true:=by
 rw[aJ,WM,WM] at h
 exact WI.1 h.2
structure Stb (mk:Lw->AV->AO) (L:Nat) (S I0 E:List Nat) (h:List AO) (w:Lw) (X:List AO) (K:AV) (I:List Nat):Prop where
 ls:LS mk L w X K I
 fr:Frm S h X
 hL:L∈S
 hS:∀j∈I0,j∈S
 sub:∀j∈I,j∈I0\/h.length<=j
 ap:∀i∈E,i<X.length/\i∉L::I
section
variable {mk:Lw->AV->AO} {L:Nat} {S I0 E:List Nat} {h:List AO} {w w2:Lw} {X X2:List AO} {K:AV} {I:List Nat}
theorem Stb.more(T:Stb mk L S I0 E h w X K I)(os:List AO):Stb mk L S I0 E h w (X++os) K I:=
 ⟨T.ls.more os,T.fr.trans (Frm.more S X os) λj hj=> .inl hj,T.hL,T.hS,T.sub,λi hi=>⟨by have:=(T.ap i hi).1;simp;omega,(T.ap i hi).2⟩⟩
theorem Stb.fresh(T:Stb mk L S I0 E h w X K I):(∀j∈[X.length],h.length<=j/\j∉E)/\(∀j∈[X.length],j≠L/\j∉I):=by
 refine⟨λj hj=>?_,λj hj=>?_⟩
 ·rw[WG.1 hj]
  exact⟨T.fr.1,λhm=>by have:=(T.ap _ hm).1;omega⟩
 ·rw[WG.1 hj]
  exact⟨λe=>by have:=T.ls.lt;omega,λhm=>by have:=T.ls.own.lt hm;omega⟩
theorem Stb.stepG(T:Stb mk L S I0 E h w X K I){J V:List Nat}{K2:AV}{I2:List Nat}(hJ:∀j∈J,h.length<=j/\j∉E)(hV:∀j∈V,(j∈S\/h.length<=j))(a1:LS mk L w2 X2 K2 I2)(a2:Frm (L::(V++(I++J))) X X2)(a3:∀j∈I2,j∈I++J\/X.length<=j):
 Stb mk L S I0 E h w2 X2 K2 I2/\∀i∈E,i∉V->X2[i]?=X[i]?:=by
 have hX:=T.fr.1
 have hE:∀i∈E,i≠L/\i∉I/\i∉J:=λi hi=>by
  have h1:=(T.ap i hi).2
  simp only[WC,not_or] at h1
  exact⟨h1.1,h1.2,λhm=>(hJ i hm).2 hi⟩
 refine⟨⟨a1,T.fr.trans a2 λj hj=>?_,T.hL,T.hS,λj hj=>?_,λi hi=>⟨by have:=(T.ap i hi).1;have:=a2.1;omega,λhm=>?_⟩⟩,λi hi hv=>?_⟩
 ·simp only[WC,WE] at hj
  rcases hj with rfl|hj|hj|hj
  ·exact .inl T.hL
  ·exact hV j hj
  ·rcases T.sub j hj with h|h
   ·exact .inl (T.hS j h)
   ·exact .inr h
  ·exact .inr (hJ j hj).1
 ·rcases a3 j hj with h|h
  ·rcases WE.1 h with h|h
   ·exact T.sub j h
   ·exact .inr (hJ j h).1
  ·exact .inr (by omega)
 ·obtain⟨h1,h2,h3⟩:=hE i hi
  simp only[WC] at hm
  rcases hm with hm|hm
  ·exact h1 hm
  ·rcases a3 i hm with h|h
   ·rcases WE.1 h with h|h
    ·exact h2 h
    ·exact h3 h
   ·have:=(T.ap i hi).1;omega
 ·obtain⟨h1,h2,h3⟩:=hE i hi
  refine a2.2 i (T.ap i hi).1 ?_
  simp only[WC,WE,not_or]
  exact⟨h1,hv,h2,h3⟩
theorem Stb.step(T:Stb mk L S I0 E h w X K I){J:List Nat}(hJ:∀j∈J,h.length<=j/\j∉E)(H:LR mk L w2 (I++J) X X2):∃K2 I2,Stb mk L S I0 E h w2 X2 K2 I2/\∀i∈E,X2[i]?=X[i]?:=by
 obtain⟨K2,I2,a1,a2,a3⟩:=H
 obtain⟨b1,b2⟩:=T.stepG (V:=[]) hJ (λj hj=>by cases hj) a1 a2 a3
 exact⟨K2,I2,b1,λi hi=>b2 i hi (by simp)⟩
end
structure Bx (L Q b0 b1 se sm:Nat) (C:List Nat) (m:Scp) (up:List Scp) (nx:Nat) (X:List AO):Prop where
 box0:X[b0]?=some (.row 1 [[.ptr L 5 0 0]])
 box1:X[b1]?=some (.row 1 [[.ptr se 2 0 0]])
 ch:ChN X (.ptr se 2 0 0) (m::up) (se::sm::C)
 q:X[Q]?=some (.row 1 [[.p (.int .i64 nx)]])
theorem Bx.frame{L Q b0 b1 se sm:Nat}{C:List Nat}{m:Scp}{up:List Scp}{nx:Nat}{X X2:List AO}(H:Bx L Q b0 b1 se sm C m up nx X)(e:∀i∈b0::b1::Q::se::sm::C,X2[i]?=X[i]?):Bx L Q b0 b1 se sm C m up nx X2:=
 ⟨by rw[e b0 (by simp)];exact H.box0,by rw[e b1 (by simp)];exact H.box1,H.ch.frame λi hi=>e i (by simp only[WC] at hi⊢;rcases hi with rfl|rfl|hi<;>simp[*]),by rw[e Q (by simp)];exact H.q⟩
theorem Bx.more{L Q b0 b1 se sm:Nat}{C:List Nat}{m:Scp}{up:List Scp}{nx:Nat}{X:List AO}(H:Bx L Q b0 b1 se sm C m up nx X)(os:List AO):Bx L Q b0 b1 se sm C m up nx (X++os):=
 H.frame λi hi=>Wx (by
  have h0:=(Wy.1 H.box0).1
  have h1:=(Wy.1 H.box1).1
  have h3:=(Wy.1 H.q).1
  simp only[WC] at hi
  rcases hi with rfl|rfl|rfl|hi
  ·exact h0
  ·exact h1
  ·exact h3
  ·exact H.ch.lt i (by simpa using hi))
end
section
def lwR(l:List Fd)(pr:Int)(V:AV)(nx:Nat)(w:Lw)(K:AV):AO:= .row 8 [[.p (fdL l),.p (.int .i64 pr),.p (.int .i64 w.regs),K,.p (.int .i64 w.pos),V,.p (.int .i64 nx),.nils]]
theorem Oa(l:List Fd)(pr:Int)(V:AV)(nx:Nat):MkF (lwR l pr V nx):=λw w2 K h1 h2=>by simp[lwR,h1,h2]
theorem LS.swap{mk mk2:Lw->AV->AO}{L:Nat}{w w2:Lw}{h:List AO}{K:AV}{I:List Nat}(H:LS mk L w h K I)(hb:w2.bs=w.bs):LS mk2 L w2 (h.set L (mk2 w2 K)) K I:=
 ⟨WH H.lt,by rw[hb];exact H.own.frame λi hi=>WB λe=>(WW.1 H.nd).1 (by rw[e];exact hi),H.nd,H.noc.1,λkid n rows eK hg=>by
   have ho:=H.own
   rw[eK] at ho
   rw[WB λe=>(WW.1 H.nd).1 (by rw[e];exact zR ho)] at hg
   exact H.noc.2 kid n rows eK hg⟩
theorem Jz{h:List AO}{p q r:Nat}(h1:h[p]?=some (AO.row 2 []))(h2:h[q]?=some (AO.row 4 []))(h3:h[r]?=some (AO.row 1 [])):OwnL false h [.sl p 2 0 0,.sl q 4 0 0,.p (.int .i64 0),.p (.int .i64 0),.sl r 1 0 0] bk0.cs [p,q,r]:=by
 have e1:OwnL false h [.sl p 2 0 0] [phL []] [p]:=(⟨h1,rfl,by simp,by simp,.nil,by simp⟩:RowOwn false h p 2 [] [] []).tree rfl
 have e2:OwnL false h [.sl q 4 0 0] [inL []] [q]:=(⟨h2,rfl,by simp,by simp,.nil,by simp⟩:RowOwn false h q 4 [] [] []).tree rfl
 have e3:OwnL false h [.sl r 1 0 0] [bF []] [r]:=(⟨h3,rfl,by simp,by simp,.nil,by simp⟩:RowOwn false h r 1 [] [] []).tree rfl
 exact Hb (b:=bk0) e1 e2 e3
theorem LS.blockAt{mk:Lw->AV->AO}{L:Nat}{w:Lw}{h:List AO}{K:AV}{I:List Nat}(H:LS mk L w h K I)(hp:0<w.bs.length)(os:List AO){p q r:Nat}(hpq:p<q/\q<r/\h.length<=p)(h1:(h++os)[p]?=some (.row 2 []))(h2:(h++os)[q]?=some (.row 4 []))(h3:(h++os)[r]?=some (.row 1 [])):
 ∃kid rows,K= .sl kid 5 0 w.bs.length/\(∀t,(h++t)[kid]?=some (.row 5 rows))/\rows.length=w.bs.length/\kid<h.length/\kid≠L/\
  LR mk L (w.name 1) I h (((h++os).set kid AO.dead++[AO.row 5 (rows++[[.sl p 2 0 0,.sl q 4 0 0,.p (.int .i64 0),.p (.int .i64 0),.sl r 1 0 0]])]).set L (mk (w.name 1) (.sl (h.length+os.length) 5 0 (w.bs.length+1)))):=by
 obtain⟨kid,rows,J,rfl,rfl,hr⟩:=H.rows hp
 have hkl:=hr.lt
 have hLl:=H.lt
 have hlen:=hr.len
 rw[Xc] at hlen
 have hnd:=H.nd
 simp only[WW,WC,not_or] at hnd
 have hrl:r<(h++os).length:=(Wy.1 h3).1
 rw[WL] at hrl
 refine⟨kid,rows,rfl,λt=>by rw[Wx hkl];exact hr.here,hlen,hkl,λe=>hnd.1.1 e.symm,?_⟩
 have hJl:=λj (hj:j∈J)=>hr.own.lt hj
 have hra:=Hn hr (h2:=h++os) rfl (rs:=[[.sl p 2 0 0,.sl q 4 0 0,.p (.int .i64 0),.p (.int .i64 0),.sl r 1 0 0]]) (es:=[bk0.cs]) (I2:=[p,q,r]) (by
  rw[List.flatten_singleton,List.flatten_singleton];exact Jz h1 h2 h3) rfl (by simp) (by simp[bk0,Bk.cs]) (by simp;omega) (λj hj=>by
  simp only[WC,Xr,or_false] at hj
  rcases hj with rfl|rfl|rfl
  ·exact⟨by omega,λhm=>by have:=hJl _ hm;omega⟩
  ·exact⟨by omega,λhm=>by have:=hJl _ hm;omega⟩
  ·exact⟨by omega,λhm=>by have:=hJl _ hm;omega⟩)
 have hl0:(h++os).length=h.length+os.length:=by simp
 rw[hl0] at hra
 have hra2:=hra.frame (h':=(((h++os).set kid AO.dead++[AO.row 5 (rows++[[.sl p 2 0 0,.sl q 4 0 0,.p (.int .i64 0),.p (.int .i64 0),.sl r 1 0 0]])]).set L (mk (w.name 1) (.sl (h.length+os.length) 5 0 (w.bs.length+1))))) (λi hi=>WB λe=>by
  subst e
  simp only[WC,WE,Xr,or_false] at hi
  rcases hi with h|h|h|h|h
  ·omega
  ·exact hnd.1.2 h
  ·omega
  ·omega
  ·omega)
 refine⟨_,(h.length+os.length)::(J++[p,q,r]),⟨WH (by simp;omega),?_,?_,?_⟩,⟨by simp;omega,λi hi hn=>?_⟩,λj hj=>?_⟩
 ·rw[show bkL (w.name 1).bs= .lst 5 (w.bs.map Bk.cs++[bk0.cs]) by simp[bkL,Lw.name]]
  exact hra2.tree (by simp)
 ·simp only[WW,WC,WE,Xr,or_false,not_or]
  exact⟨⟨by omega,hnd.1.2,by omega,by omega,by omega⟩,by have:=hra.nd;simpa using this⟩
 ·refine⟨λq e=>(by cases e),?_⟩
  intro kid2 n2 rows2 eK hg2 r hr2
  cases eK
  rw[hra2.here] at hg2
  cases hg2
  rcases WE.1 hr2 with h1|h1
  ·exact H.noc.2 kid _ rows rfl hr.here r h1
  ·rw[WG.1 h1];simp
 ·simp only[WC,not_or] at hn
  rw[WB (Ne.symm hn.1),Wx (by simp;omega),WB (Ne.symm hn.2.1),Wx hi]
 ·simp only[WC,WE,Xr,or_false] at hj
  rcases hj with rfl|hj|rfl|rfl|rfl
  ·exact .inr (by omega)
  ·exact .inl (by simp[hj])
  ·exact .inr (by omega)
  ·exact .inr (by omega)
  ·exact .inr (by omega)
variable (G:aK)
section
variable {l:List Fd} {pr:Int} {V:AV} {nx:Nat} {L:Nat} {w:Lw} {h:List AO} {K:AV} {I:List Nat}
theorem NU(H:LS (lwR l pr V nx) L w h K I)(hw:w.regs<=1073741824):
 AC Tryz.prog G bY [.ptr L 8 0 0] h λx h'=>x= .ret (.p (.int .i64 w.regs))/\h'=h.set L (lwR l pr V nx w.reg K):=by
 have hg:=H.here
 have hw1:IntKind.i64.wrap ((w.regs:Int)+1)=((w.regs+1:Nat):Int):=by rw[ab (by omega) (by omega)];omega
 have hw2:IntKind.i64.wrap (((w.regs+1:Nat):Int)-1)=w.regs:=by rw[ab (by omega) (by omega)];omega
 simp only[lwR] at hg
 refine AC.go tt ?_
 have hgs:∀o,(h.set L o)[L]?=some o:=λo=>WH H.lt
 simp-implicitDefEqProofs[-AV.cells,-AV.isCell,aI,aH,lF,hg, ↓hgs]
 rw[hw1,hw2]
 exact⟨rfl,rfl⟩
theorem sW(H:LS (lwR l pr V nx) L w h K I){B:Nat}(hok:w.Ok B)(hB:B<=1073741824)(x:Ii){A:AV}{J:List Nat}(hA:OwnL false h [A] [bF x.args] J)(ndJ:J.Nodup)(hJ:∀j∈J,j≠L/\j∉I):
 AC Tryz.prog G cI [.ptr L 8 0 0,.p (.int .i64 x.op),.p (.int .i64 x.to),.p (.int .i64 x.n),A] h λr h'=>r= .ret (.p (.int .i64 x.to))/\LR (lwR l pr V nx) L (w.put x) (I++J) h h':=by
 have hg:=H.here
 obtain⟨kid,rows,b,P,N,X,rfl,hrow,hlen,hb,hcur,⟨p1,p2⟩,⟨n1,n2⟩,⟨x1,x2⟩,hkl,hN⟩:=H.putAt (Oa l pr V nx) hok.pos x hA ndJ hJ
 obtain⟨a1,a2⟩:=gC hA
 have hins:b.ins.length<=B:=hok.ins _ (WJ hb)
 have hpos:=hok.pos
 have hrow0:h[kid]?=some (.row 5 rows):=by simpa using hrow []
 simp only[lwR] at hg
 refine AC.go uR ?_
 have hgm:∀t,(h++t)[L]?=some (.row 8 [[.p (fdL l),.p (.int .i64 pr),.p (.int .i64 w.regs),.sl kid 5 0 w.bs.length,.p (.int .i64 w.pos),V,.p (.int .i64 nx),.nils]]):=λt=>by rw[Wx H.lt];exact hg
 rcases hN with⟨rfl,hi0,close⟩|⟨iid,rowsN,rfl,hir,hil,hiil,hik,close⟩
 ·simp-implicitDefEqProofs[-AV.cells,-AV.isCell,aI,af,ag,au,aH,ae,aw,a1,a2,p1,p2,x1,x2,jt,hg,hgm,hrow,hrow0,hcur,hlen]
  exact⟨hok.pos,close [_]⟩
 ·have htk:List.take b.ins.length rowsN=rowsN:=WF (by omega)
  have hk2:∀t u,((h++t).set iid .dead++u)[kid]?=some (.row 5 rows):=λt u=>by rw[Wx (by simp;omega),WB hik];exact hrow t
  simp-implicitDefEqProofs[-AV.cells,-AV.isCell,aI,af,ag,au,aH,ae,aw,a1,a2,p1,p2,x1,x2,jt,hg,hgm,hrow,hrow0,hcur,hlen,hir,htk, ↓hk2]
  exact⟨hok.pos,⟨by omega,by omega,by omega⟩,close [_]⟩
theorem rt(H:LS (lwR l pr V nx) L w h K I){B:Nat}(hok:w.Ok B)(j o:Int)(g:Nat)(ne:List Int){Y:AV}{J:List Nat}(hY:OwnL false h [Y] [bF ne] J)(ndJ:J.Nodup)(hJ:∀j∈J,j≠L/\j∉I):
 AC Tryz.prog G bQ [.ptr L 8 0 0,.p (.int .i64 j),.p (.int .i64 o),Y,.p (.int .i64 g)] h λr h'=>r= .ret (.tup [])/\LR (lwR l pr V nx) L (w.fin j o g ne) (I++J) h h':=by
 have hg:=H.here
 obtain⟨kid,rows,b,P,N,X,rfl,hrow,hlen,hb,hcur,⟨p1,p2⟩,⟨n1,n2⟩,⟨x1,x2⟩,hkl,hkL,close⟩:=H.finAt (Oa l pr V nx) hok.pos
 obtain⟨a1,a2⟩:=gC hY
 have hrow0:h[kid]?=some (.row 5 rows):=by simpa using hrow []
 have hcl:=close j o g ne Y J hY ndJ hJ
 have hLl:=H.lt
 simp only[lwR] at hg
 have hs1:∀o,(h.set kid o)[kid]?=some o:=λo=>WH hkl
 have hs2:∀o,(h.set kid o)[L]?=h[L]?:=λo=>WB hkL
 have hrs:∀r,(rows.set w.pos r)[w.pos]?=some r:=λr=>WH (by rw[hlen];exact hok.pos)
 refine AC.go uI ?_
 simp-implicitDefEqProofs[-AV.cells,-AV.isCell,aI,af,ag,au,aH,ae,aw,a1,a2,n1,n2,p1,p2,x1,x2,mg,hg,hrow,hrow0,hcur,hlen, ↓hs1, ↓hs2, ↓hrs]
 exact⟨hok.pos,hcl⟩
theorem Aa(H:LS (lwR l pr V nx) L w h K I){B:Nat}(hok:w.Ok B)(hB:B<=1073741824)(hV:V.cells=[V]/\V.isCell=true):
 AC Tryz.prog G cM [.ptr L 8 0 0] h λr h'=>r= .ret (.p (.int .i64 w.bs.length))/\LR (lwR l pr V nx) L (w.name 1) I h h':=by
 have hg:=H.here
 have hp0:=hok.pos
 have hbl:=hok.bs
 obtain⟨v1,v2⟩:=hV
 have hLl:=H.lt
 obtain⟨kid,rows,rfl,hrow,hlen,hkl,hkL,close⟩:=H.blockAt (by omega) [.row 2 [],.row 4 [],.row 1 [],.row 5 [[.sl h.length 2 0 0,.sl (h.length+1) 4 0 0,.p (.int .i64 0),.p (.int .i64 0),.sl (h.length+2) 1 0 0]]] (p:=h.length) (q:=h.length+1) (r:=h.length+2) ⟨by omega,by omega,by omega⟩ (by rw[WD (WK _)];simp) (by rw[WD (by omega)];simp) (by rw[WD (by omega)];simp)
 have hrow0:h[kid]?=some (.row 5 rows):=by simpa using hrow []
 simp only[lwR] at hg
 have htk:List.take w.bs.length rows=rows:=WF (by omega)
 have hgm:∀t,(h++t)[L]?=some (.row 8 [[.p (fdL l),.p (.int .i64 pr),.p (.int .i64 w.regs),.sl kid 5 0 w.bs.length,.p (.int .i64 w.pos),V,.p (.int .i64 nx),.nils]]):=λt=>by rw[Wx H.lt];exact hg
 have hs2:∀t u,((h++t).set kid .dead++u)[L]?=some (.row 8 [[.p (fdL l),.p (.int .i64 pr),.p (.int .i64 w.regs),.sl kid 5 0 w.bs.length,.p (.int .i64 w.pos),V,.p (.int .i64 nx),.nils]]):=λt u=>by rw[Wx (by simp;omega),WB hkL];exact hgm t
 have hs3:∀t u o,(((h++t).set kid .dead++u).set L o)[L]?=some o:=λt u o=>WH (by simp;omega)
 have hw1:IntKind.i64.wrap (((w.bs.length+1:Nat):Int)-1)=w.bs.length:=by rw[ab (by omega) (by omega)];omega
 refine AC.go kY ?_
 simp-implicitDefEqProofs[-AV.cells,-AV.isCell,aI,af,ag,au,aH,ae,aw,v1,v2,gH,hg,hgm,hrow,hrow0,hlen,htk, ↓hs2, ↓hs3]
 exact⟨⟨by omega,by omega⟩,ab (by omega) (by omega),close⟩
end
end
section
theorem Cf:AK.whole lP=FK.ak ln:=rfl
variable (G:aK)
theorem rv(o:Int):VF Tryz.prog G ic [.p (.int .i64 o)] (.p (.bool (fX o))):=by
 refine AC.go Cg ?_
 simp-implicitDefEqProofs[rg]
 refine(dh G o 1 14).use ?_
 cases hb:inR o 1 14 with
 |false=>simp-implicitDefEqProofs[fX,hb]
 |true=>
  by_cases h1:o=12
  ·simp-implicitDefEqProofs[fX,hb,h1]
  ·simp-implicitDefEqProofs[fX,hb,h1]
def l7N(o:Int):Int:=if o=1 then 0 else if o=2\/o=10\/o=11\/o=13 then 1 else if inR o 3 9=true\/o=12 then 2 else-1
theorem EZ(o:Int):VF Tryz.prog G mZ [.p (.int .i64 o)] (.p (.int .i64 (l7N o))):=by
 refine AC.go CL ?_
 by_cases h1:o=1
 ·simp-implicitDefEqProofs[dr,l7N,h1]
 by_cases h2:o=2
 ·simp-implicitDefEqProofs[dr,l7N,h2]
 by_cases h3:o=10
 ·simp-implicitDefEqProofs[dr,l7N,h3]
 by_cases h4:o=11
 ·simp-implicitDefEqProofs[dr,l7N,h4]
 by_cases h5:o=13
 ·simp-implicitDefEqProofs[dr,l7N,h5]
 simp-implicitDefEqProofs[dr,h1,h2,h3,h4,h5]
 refine(dh G o 3 9).use ?_
 cases hb:inR o 3 9 with
 |true=>simp-implicitDefEqProofs[l7N,hb,h1,h2,h3,h4,h5]
 |false=>
  by_cases h6:o=12
  ·simp-implicitDefEqProofs[l7N,h6,hb]
  ·simp-implicitDefEqProofs[l7N,hb,h1,h2,h3,h4,h5,h6]
theorem ER(c:Cd)(h0:0<=c.regs)(h1:c.regs<=300)(l:List Int)(hl:l.length<=1073741824):VF Tryz.prog G jH [.agg (c.cs.map .p),.p (bF l)] (.p (.bool (l.all (ef c.regs)))):=by
 have hcs:=c.cs_eq2
 have hnl:bF l= .lst 1 (l.map λn=>[.int .i64 n]):=rfl
 have hwr:IntKind.i64.wrap (c.regs-1)=c.regs-1:=ab (by omega) (by omega)
 refine AC.go Cp ?_
 simp-implicitDefEqProofs[sI,hcs,hnl]
 refine aN (λi:Nat=>az 21 [(1,.p (bF l)),(2,.ptr 0 3 0 0),(5,.p (.int .i64 i))]) (λ_=>[.row 3 [[.p (.int .i64 c.params),.p (.int .i64 c.regs),.p (bkL c.blocks)]]]) (λi=>i<=l.length/\∀r∈l.take i,ef c.regs r=true) (λi=>l.length-i) 0 (by simp) ?_ ?_
 ·exact am (by simp) (by simp[below,hnl])
 rintro i ⟨hi,hp⟩
 simp-implicitDefEqProofs[hnl]
 refine aO (λhc=>?_) (λhc=>?_)
 ·simp at hc
  have hg:=Wz hc
  have htk:=aq hc
  have hm:=WN hc
  generalize l[i]=r at hg htk hm
  simp-implicitDefEqProofs[hg,hwr]
  refine(dh G r 0 (c.regs-1)).use ?_
  cases hb:inR r 0 (c.regs-1) with
  |false=>simp-implicitDefEqProofs[nz hm (p:=ef c.regs) hb]
  |true=>
   simp-implicitDefEqProofs[]
   refine⟨i+1,⟨by omega,λx hx=>?_⟩,by omega,am (by simp) (by simp[below,hnl,w1 (i:=i) (by omega)])⟩
   rw[htk] at hx
   rcases WE.1 hx with hx|hx
   ·exact hp x hx
   ·rw[WG.1 hx];exact hb
 ·simp at hc
  rw[WF hc] at hp
  simp-implicitDefEqProofs[WI.2 hp]
theorem Qz(u:List Cd)(k:Nat)(c:Cd)(hk:u[k]?=some c)(h0:0<=c.regs)(h1:c.regs<=300)(hu:u.length<=1073741824)(x:Ii)(hl:x.args.length<=1073741824):VF Tryz.prog G oe [.agg [.p (cdL u)],.p (.int .i64 k),.agg (x.cs.map .p)] (.p (.bool (jW u k c.regs x))):=by
 have hcs:=c.cs_eq2
 have hxs:=x.cs_eq2
 have hul:cdL u= .lst 3 (u.map Cd.cs):=rfl
 have hnl:bF x.args= .lst 1 (x.args.map λn=>[.int .i64 n]):=rfl
 have hku:=(Wy.1 hk).1
 have hwr:IntKind.i64.wrap (c.regs-1)=c.regs-1:=ab (by omega) (by omega)
 have hwk:IntKind.i64.wrap ((k:Int)-1)=(k:Int)-1:=ab (by omega) (by omega)
 have hR:=ER G c h0 h1 x.args hl
 rw[hcs,hnl] at hR
 clear hku
 refine AC.go DY ?_
 simp-implicitDefEqProofs[uA,hxs,hul,hk,hcs,hnl]
 refine(dh G x.op 1 14).use ?_
 cases hb1:inR x.op 1 14 with
 |false=>simp-implicitDefEqProofs[jW,hb1]
 |true=>
 simp-implicitDefEqProofs[]
 refine hR.use ?_
 cases hb2:x.args.all (ef c.regs) with
 |false=>simp-implicitDefEqProofs[jW,hb2]
 |true=>
 simp-implicitDefEqProofs[]
 refine(rv G x.op).use ?_
 simp-implicitDefEqProofs[hwr]
 refine(dh G x.to 0 (c.regs-1)).use ?_
 have hlast:∀b:Bool,(if fX x.op then ef c.regs x.to else decide (x.to= -1))=true->jW u k c.regs x=(if x.op=14 then inR x.n 0 ((k:Int)-1)&&decide ((x.args.length:Int)=EY u x.n)
  else if x.op=1 then decide (x.args.length=0)&&inR x.n 0 255
  else decide (x.n=0)&&decide ((x.args.length:Int)=rf x.op)):=λ_ h=>by rw[jW,hb1,hb2,h];simp
 have hbad:(if fX x.op then ef c.regs x.to else decide (x.to= -1))=false->jW u k c.regs x=false:=λh=>by rw[jW,h];simp
 have hrb:ef c.regs x.to=inR x.to 0 (c.regs-1):=rfl
 have rest:∀Q:AKW Tryz.prog G 0 .skip [] [] (λ_ _ _=>True),True:=λ_=>trivial
 have hins:jW u k c.regs x=(if x.op=14 then inR x.n 0 ((k:Int)-1)&&decide ((x.args.length:Int)=EY u x.n) else decide ((x.args.length:Int)=l7N x.op)&&inR x.n 0 255&&(decide (x.n=0)||decide (x.op=1)))\/(if fX x.op then ef c.regs x.to else decide (x.to= -1))=false:=by
  cases hs:(if fX x.op then ef c.regs x.to else decide (x.to= -1)) with
  |false=>exact .inr rfl
  |true=>
   refine .inl ?_
   rw[hlast true hs]
   by_cases o14:x.op=14
   ·rw[if_pos o14,if_pos o14]
   ·rw[if_neg o14,if_neg o14]
    by_cases o1:x.op=1
    ·rw[if_pos o1,l7N,if_pos o1]
     simp[o1]
    ·rw[if_neg o1,l7N,if_neg o1,rf,if_neg o1]
     have hr39:¬(x.op=2\/x.op=10\/x.op=11\/x.op=13)->(inR x.op 3 9=true\/x.op=12):=λh=>by
      simp only[inR,WM,decide_eq_true_eq] at hb1⊢
      omega
     have h255:x.n=0->inR x.n 0 255=true:=λh=>by rw[h];rfl
     by_cases o2:x.op=2\/x.op=10\/x.op=11\/x.op=13
     ·rw[if_pos o2,if_pos o2,Bool.eq_iff_iff]
      simp[o1]
      constructor
      ·rintro⟨a,b⟩;exact⟨⟨b,h255 a⟩,a⟩
      ·rintro⟨⟨a,_⟩,b⟩;exact⟨b,a⟩
     ·rw[if_neg o2,if_neg o2,if_pos (hr39 o2),Bool.eq_iff_iff]
      simp[o1]
      constructor
      ·rintro⟨a,b⟩;exact⟨⟨b,h255 a⟩,a⟩
      ·rintro⟨⟨a,_⟩,b⟩;exact⟨b,a⟩
 have mC:(if fX x.op then ef c.regs x.to else decide (x.to= -1))=true->jW u k c.regs x=(if x.op=14 then inR x.n 0 ((k:Int)-1)&&decide ((x.args.length:Int)=EY u x.n) else decide ((x.args.length:Int)=l7N x.op)&&inR x.n 0 255&&(decide (x.n=0)||decide (x.op=1))):=λh=>by
  rcases hins with h1|h1
  ·exact h1
  ·rw[h] at h1;cases h1
 clear hins hlast rest
 have hgo:fX x.op=true/\inR x.to 0 (c.regs-1)=true\/(fX x.op=false/\inR x.to 0 (c.regs-1)=false/\x.to= -1)\/(if fX x.op then ef c.regs x.to else decide (x.to= -1))=false:=by
  cases hs:fX x.op with
  |true=>
   rw[hrb]
   cases inR x.to 0 (c.regs-1)<;>simp
  |false=>
   by_cases h:x.to= -1
   ·rw[h];refine .inr (.inl ⟨rfl,?_,rfl⟩);simp[inR]
   ·simp[h]
 rcases hgo with⟨hs,ht⟩|⟨hs,ht,hto⟩|hf
 ·have tl:=mC (by rw[hs,if_pos rfl,hrb];exact ht)
  rw[tl]
  simp-implicitDefEqProofs[hs,ht]
  refine(rv G x.op).use ?_
  simp-implicitDefEqProofs[hs]
  by_cases o14:x.op=14
  ·simp-implicitDefEqProofs[o14,hwk]
   refine(dh G x.n 0 ((k:Int)-1)).use ?_
   cases hn:inR x.n 0 ((k:Int)-1) with
   |false=>simp-implicitDefEqProofs[]
   |true=>
    simp only[inR,WM,decide_eq_true_eq] at hn
    have hlt:x.n.toNat<u.length:=by
     have:=(Wy.1 hk).1
     omega
    obtain⟨c2,hc2⟩:∃c2,u[x.n.toNat]?=some c2:=⟨_,Wz hlt⟩
    have hc2s:=c2.cs_eq2
    clear hlt
    obtain⟨m,hm⟩:∃m:Nat,x.n=m:=⟨x.n.toNat,by omega⟩
    rw[hm] at hc2⊢
    simp only[Int.toNat_natCast] at hc2
    simp-implicitDefEqProofs[hc2,hc2s,EY]
  ·simp-implicitDefEqProofs[o14]
   refine(EZ G x.op).use ?_
   by_cases hla:(x.args.length:Int)=l7N x.op
   ·simp-implicitDefEqProofs[hla]
    refine(dh G x.n 0 255).use ?_
    cases hn:inR x.n 0 255 with
    |false=>simp-implicitDefEqProofs[]
    |true=>
     by_cases hx0:x.n=0
     ·simp-implicitDefEqProofs[hx0]
     ·simp-implicitDefEqProofs[hx0]
   ·simp-implicitDefEqProofs[hla]
 ·have tl:=mC (by rw[hs];simp[hto])
  rw[tl]
  simp-implicitDefEqProofs[hs,ht]
  refine(rv G x.op).use ?_
  simp-implicitDefEqProofs[hs,hto]
  by_cases o14:x.op=14
  ·simp-implicitDefEqProofs[o14,hwk]
   refine(dh G x.n 0 ((k:Int)-1)).use ?_
   cases hn:inR x.n 0 ((k:Int)-1) with
   |false=>simp-implicitDefEqProofs[]
   |true=>
    simp only[inR,WM,decide_eq_true_eq] at hn
    have hlt:x.n.toNat<u.length:=by
     have:=(Wy.1 hk).1
     omega
    obtain⟨c2,hc2⟩:∃c2,u[x.n.toNat]?=some c2:=⟨_,Wz hlt⟩
    have hc2s:=c2.cs_eq2
    clear hlt
    obtain⟨m,hm⟩:∃m:Nat,x.n=m:=⟨x.n.toNat,by omega⟩
    rw[hm] at hc2⊢
    simp only[Int.toNat_natCast] at hc2
    simp-implicitDefEqProofs[hc2,hc2s,EY]
  ·simp-implicitDefEqProofs[o14]
   refine(EZ G x.op).use ?_
   by_cases hla:(x.args.length:Int)=l7N x.op
   ·simp-implicitDefEqProofs[hla]
    refine(dh G x.n 0 255).use ?_
    cases hn:inR x.n 0 255 with
    |false=>simp-implicitDefEqProofs[]
    |true=>
     by_cases hx0:x.n=0
     ·simp-implicitDefEqProofs[hx0]
     ·simp-implicitDefEqProofs[hx0]
   ·simp-implicitDefEqProofs[hla]
 ·rw[hbad hf]
  cases hs:fX x.op with
  |true=>
   rw[hs,if_pos rfl,hrb] at hf
   simp-implicitDefEqProofs[hf]
  |false=>
   rw[hs] at hf
   have hto:¬x.to= -1:=by simpa using hf
   cases ht:inR x.to 0 (c.regs-1) with
   |true=>simp-implicitDefEqProofs[]
   |false=>
    simp-implicitDefEqProofs[]
    refine(rv G x.op).use ?_
    simp-implicitDefEqProofs[hs,hto]
def fu(l:List Int):List (List AV):=l.map λn=>[AV.p (.int .i64 n)]
structure PrS where (i:Nat) (X:List AO) (o:Nat)
theorem Hw(c:Cd)(b:Int)(hl:c.blocks.length<=1073741824)(hn:∀x∈c.blocks,x.next.length<=1073741824):AC Tryz.prog G iC [.agg (c.cs.map .p),.p (.int .i64 b)] [] λx h=>∃id,x= .ret (.sl id 1 0 (dc c.blocks b).length)/\h[id]?=some (.row 1 (fu (dc c.blocks b))):=by
 have hcs:=c.cs_eq2
 have hbl:bkL c.blocks= .lst 5 (c.blocks.map Bk.cs):=rfl
 refine AC.go Ab ?_
 simp-implicitDefEqProofs[pA,hcs,hbl]
 obtain⟨bo,hbo⟩:∃bo,bo=AO.row 3 [[.p (.int .i64 c.params),.p (.int .i64 c.regs),.p (.lst 5 (c.blocks.map Bk.cs))]]:=⟨_,rfl⟩
 refine aN (λa:PrS=>az 43 [(1,.p (.int .i64 b)),(2,.ptr 0 3 0 0),(5,.sl a.o 1 0 (dc (c.blocks.take a.i) b).length),(6,.p (.int .i64 a.i))]) (λa=>a.X)
  (λa=>a.i<=c.blocks.length/\a.X[0]?=some (.row 3 [[.p (.int .i64 c.params),.p (.int .i64 c.regs),.p (.lst 5 (c.blocks.map Bk.cs))]])/\1<=a.o/\a.X[a.o]?=some (.row 1 (fu (dc (c.blocks.take a.i) b)))) (λa=>c.blocks.length-a.i) ⟨0,[.row 3 [[.p (.int .i64 c.params),.p (.int .i64 c.regs),.p (.lst 5 (c.blocks.map Bk.cs))]],.row 1 []],1⟩ ⟨Xg _,rfl,by simp,rfl⟩ ?_ ?_
 ·exact am (by simp) (by simp[below,dc])
 rintro⟨i,X,o⟩ ⟨hi,hx0,ho,hxo⟩
 simp only at hi hx0 ho hxo
 have hX0:=(Wy.1 hx0).1
 have hXo:=(Wy.1 hxo).1
 simp-implicitDefEqProofs[hx0]
 refine aO (λhc=>?_) (λhc=>?_)
 ·simp at hc
  have hg:=Wz hc
  have hm:=WN hc
  have hpt:=vX (b:=b) hg
  have hpl:=ow (c.blocks.take i) b
  rw[WX,Nat.min_eq_left (by omega)] at hpl
  have hnx:=hn _ hm
  generalize c.blocks[i]=x at hg hpt hnx
  generalize dc (c.blocks.take i) b=out at hxo hpt hpl
  have hxs:=x.cs_eq2
  have hnl:bF x.next= .lst 1 (x.next.map λn=>[.int .i64 n]):=rfl
  simp-implicitDefEqProofs[]
  have hw1:=w1 (i:=i) (by omega)
  refine aN (λj:Nat=>az 43 [(7,.p (.int .i64 j)),(1,.p (.int .i64 b)),(2,.ptr 0 3 0 0),(5,.sl o 1 0 out.length),(6,.p (.int .i64 i))]) (λ_=>X) (λj=>j<=x.next.length/\b∉x.next.take j) (λj=>x.next.length-j) 0 (by simp) ?_ ?_
  ·exact am (by simp) (by simp[below,hXo,hX0])
  rintro j ⟨hj,hnb⟩
  simp-implicitDefEqProofs[hx0,hg,hxs,hnl]
  refine aO (λhc2=>?_) (λhc2=>?_)
  ·simp at hc2
   have hg2:=Wz hc2
   have htk:=aq hc2
   have hm2:=WN hc2
   generalize x.next[j]=r at hg2 htk hm2
   simp-implicitDefEqProofs[hx0,hg,hxs,hnl,hg2]
   refine aO (λhe=>?_) (λhe=>?_)
   ·have he:r=b:=by simpa using he
    rw[if_pos (he▸hm2)] at hpt
    have hxm:∀t,(X++t)[o]?=some (.row 1 (fu out)):=λt=>by rw[Wx hXo];exact hxo
    have htl:List.take out.length (fu out)=fu out:=WF (by simp[fu])
    have hrl:(fu out).length=out.length:=by simp[fu]
    simp-implicitDefEqProofs[hxm,htl,hrl]
    refine⟨⟨by omega,by omega⟩,⟨i+1,_,X.length+1⟩,⟨by simp only;omega,?_,by simp only;omega,?_⟩,by simp only;omega,am (Xg _) ?_⟩
    ·rw[Wx (by simp),WB (by omega),Wx hX0];exact hx0
    ·rw[hpt,WD (by simp)];simp[fu]
    ·simp[below,hpt,hw1]
   ·have he:¬r=b:=by simpa using he
    simp-implicitDefEqProofs[]
    refine⟨j+1,⟨by omega,λhm=>?_⟩,by omega,am (by simp) (by simp[below,hXo,hX0,w1 (i:=j) (by omega)])⟩
    rw[htk] at hm
    rcases WE.1 hm with hm|hm
    ·exact hnb hm
    ·exact he (WG.1 hm).symm
  ·simp at hc2
   rw[WF hc2] at hnb
   rw[if_neg hnb,WT] at hpt
   simp-implicitDefEqProofs[]
   refine⟨⟨i+1,X,o⟩,⟨by simp only;omega,hx0,ho,by rw[hpt];exact hxo⟩,by simp only;omega,am (Xg _) ?_⟩
   simp[below,hpt,hw1,hXo,hX0]
 ·simp at hc
  have hie:i=c.blocks.length:=by omega
  subst hie
  rw[WZ] at hxo
  simp-implicitDefEqProofs[hxo]
theorem Du{h:List AO}{id:Nat}{l:List Int}(e:h[id]?=some (.row 1 (fu l))):View h (.sl id 1 0 l.length) (bF l):=by
 have hh:fu l=(l.map λn=>[PV.int .i64 n]).map (·.map .p):=by simp[fu]
 rw[hh] at e
 exact iD e (by simp) (λx hx=>by obtain⟨b,_,rfl⟩:=Xb.1 hx;rfl)
theorem Le(c:Cd)(b:Int)(hl:c.blocks.length<=1073741824)(hn:∀x∈c.blocks,x.next.length<=1073741824):VF Tryz.prog G iC [.agg (c.cs.map .p),.p (.int .i64 b)] (.p (bF (dc c.blocks b))):=
 (Hw G c b hl hn).freezeR (λt v h ⟨_,e,_⟩=>by cases e) λv h ⟨id,e1,e2⟩=>by
   cases e1
   exact .one (Du e2) .nil
theorem Lu(u:List Cd)(k b:Nat)(c:Cd)(x:Bk)(hk:u[k]?=some c)(hb:c.blocks[b]?=some x)(h0:0<=c.regs)(h1:c.regs<=300)(hu:KD 1073741824 u):VF Tryz.prog G lw [.agg [.p (cdL u)],.p (.int .i64 k),.p (.int .i64 b)] (.p (.bool (bkB u k c b x))):=by
 have hcf:=hu.2 c (WJ hk)
 have hxf:=hcf.2 x (WJ hb)
 have hcs:=c.cs_eq2
 have hxs:=x.cs_eq2
 have hul:cdL u= .lst 3 (u.map Cd.cs):=rfl
 have hbl:bkL c.blocks= .lst 5 (c.blocks.map Bk.cs):=rfl
 have hnl:bF x.next= .lst 1 (x.next.map λn=>[.int .i64 n]):=rfl
 have hil:inL x.ins= .lst 4 (x.ins.map Ii.cs):=rfl
 have hpl:phL x.phis= .lst 2 (x.phis.map Ph.cs):=rfl
 have hwr:IntKind.i64.wrap (c.regs-1)=c.regs-1:=ab (by omega) (by omega)
 have hcl:=hcf.1
 have hwb:IntKind.i64.wrap ((c.blocks.length:Int)-1)=(c.blocks.length:Int)-1:=ab (by omega) (by omega)
 refine AC.goK BG Cf ?_
 obtain⟨H0,hH0⟩:∃H0,H0=[AO.row 1 [[.p (.lst 3 (u.map Cd.cs))]],.row 3 [[.p (.int .i64 c.params),.p (.int .i64 c.regs),.p (.lst 5 (c.blocks.map Bk.cs))]],.row 5 [[.p (phL x.phis),.p (inL x.ins),.p (.int .i64 x.jump),.p (.int .i64 x.on),.p (bF x.next)]]]:=⟨_,rfl⟩
 have g0:H0[0]?=some (.row 1 [[.p (.lst 3 (u.map Cd.cs))]]):=by rw[hH0];rfl
 have g1:H0[1]?=some (.row 3 [[.p (.int .i64 c.params),.p (.int .i64 c.regs),.p (.lst 5 (c.blocks.map Bk.cs))]]):=by rw[hH0];rfl
 have g2:H0[2]?=some (.row 5 [[.p (phL x.phis),.p (inL x.ins),.p (.int .i64 x.jump),.p (.int .i64 x.on),.p (bF x.next)]]):=by rw[hH0];rfl
 have gl:H0.length=3:=by rw[hH0];rfl
 obtain⟨SL,hSL⟩:∃SL:List (Nat × AV),SL=[(8,.ptr 2 5 0 0),(7,.ptr 1 3 0 0),(3,.ptr 0 1 0 0),(1,.p (.int .i64 k)),(2,.p (.int .i64 b))]:=⟨_,rfl⟩
 simp-implicitDefEqProofs[lP,ln,hul,hk,hcs,hbl,hb,hxs]
 rw[←hH0]
 refine lV (λ_:Unit=>az 136 ((9,.p (.int .i64 (nxN x.jump)))::[(8,.ptr 2 5 0 0),(7,.ptr 1 3 0 0),(3,.ptr 0 1 0 0),(1,.p (.int .i64 k)),(2,.p (.int .i64 b))])) (λ_=>H0) (λ_=>(x.jump=1/\x.on=0)\/x.jump=2\/x.jump=3) ?_ ?_
 ·by_cases j1:x.jump=1
  ·by_cases jo:x.on=0
   ·simp-implicitDefEqProofs[g2,j1,jo]
    exact am (by simp) (by simp[below,gl,nxN])
   ·have hf:bkB u k c b x=false:=by simp[bkB,onU,j1,jo]
    simp-implicitDefEqProofs[g2,j1,jo,hf]
  ·by_cases j2:x.jump=2
   ·simp-implicitDefEqProofs[g2,j2]
    exact am (by simp) (by simp[below,gl,nxN])
   ·by_cases j3:x.jump=3
    ·simp-implicitDefEqProofs[g2,j3]
     exact am (by simp) (by simp[below,gl,nxN])
    ·have hnn:nxN x.jump= -1:=by simp[nxN,j1,j2,j3]
     have hf:bkB u k c b x=false:=by
      have:¬((x.next.length:Int)= -1):=by omega
      simp[bkB,hnn,this]
     simp-implicitDefEqProofs[g2,j1,j2,j3,hf]
 rintro⟨⟩ hj
 refine lV (λ_:Unit=>az 136 [(8,.ptr 2 5 0 0),(7,.ptr 1 3 0 0),(3,.ptr 0 1 0 0),(1,.p (.int .i64 k)),(2,.p (.int .i64 b))]) (λ_=>H0) (λ_=>(decide ((x.next.length:Int)=nxN x.jump)&&(if onU x.jump then ef c.regs x.on else decide (x.on=0)))=true) ?_ ?_
 ·by_cases hlen:(x.next.length:Int)=nxN x.jump
  ·by_cases j1:x.jump=1
   ·have jo:x.on=0:=by omega
    simp-implicitDefEqProofs[g2,hlen,hnl,j1,jo]
    refine⟨by simp[onU],am (by simp) (by simp[below,gl])⟩
   ·have hon:onU x.jump=true:=by
     simp only[onU,Bool.or_eq_true,decide_eq_true_eq];omega
    simp-implicitDefEqProofs[g2,g1,hlen,hnl,j1,hwr]
    refine(dh G x.on 0 (c.regs-1)).use ?_
    cases hr:inR x.on 0 (c.regs-1) with
    |false=>
     have hf:bkB u k c b x=false:=by simp[bkB,hon,ef,hr]
     simp-implicitDefEqProofs[hf]
    |true=>
     simp-implicitDefEqProofs[hon,ef,hr]
     exact am (by simp) (by simp[below,gl])
  ·have hf:bkB u k c b x=false:=by simp[bkB,hlen]
   simp-implicitDefEqProofs[g2,hlen,hnl,hf]
 rintro⟨⟩ hc1
 refine lV (λ_:Unit=>az 136 [(8,.ptr 2 5 0 0),(7,.ptr 1 3 0 0),(3,.ptr 0 1 0 0),(1,.p (.int .i64 k)),(2,.p (.int .i64 b))]) (λ_=>H0) (λ_=>x.next.all (λn=>inR n 1 ((c.blocks.length:Int)-1))=true) ?_ ?_
 ·simp-implicitDefEqProofs[]
  refine aN (λi:Nat=>az 136 [(10,.p (.int .i64 i)),(8,.ptr 2 5 0 0),(7,.ptr 1 3 0 0),(3,.ptr 0 1 0 0),(1,.p (.int .i64 k)),(2,.p (.int .i64 b))]) (λ_=>H0) (λi=>i<=x.next.length/\∀n∈x.next.take i,inR n 1 ((c.blocks.length:Int)-1)=true) (λi=>x.next.length-i) 0 (by simp) (am (by simp) (by simp[below,gl])) ?_
  rintro i ⟨hi,hp⟩
  simp-implicitDefEqProofs[g2,hnl]
  refine aO (λhc=>?_) (λhc=>?_)
  ·simp at hc
   have hg:=Wz hc
   have htk:=aq hc
   have hm:=WN hc
   have hxn:=hxf.next
   generalize x.next[i]=n at hg htk hm
   simp-implicitDefEqProofs[g2,g1,hnl,hg,hwb]
   refine(dh G n 1 ((c.blocks.length:Int)-1)).use ?_
   cases hr:inR n 1 ((c.blocks.length:Int)-1) with
   |false=>
    have hf:bkB u k c b x=false:=by
     rw[bkB,nz hm (p:=λn=>inR n 1 ((c.blocks.length:Int)-1)) hr];simp
    simp-implicitDefEqProofs[hf]
   |true=>
    simp-implicitDefEqProofs[]
    refine⟨i+1,⟨by omega,λy hy=>?_⟩,by omega,am (by simp) (by simp[below,gl,w1 (i:=i) (by omega)])⟩
    rw[htk] at hy
    rcases WE.1 hy with hy|hy
    ·exact hp y hy
    ·rw[WG.1 hy];exact hr
  ·simp at hc
   rw[WF hc] at hp
   simp-implicitDefEqProofs[]
   exact⟨hp,am (by simp) (by simp[below,gl])⟩
 rintro⟨⟩ hc2
 refine lV (λ_:Unit=>az 136 [(8,.ptr 2 5 0 0),(7,.ptr 1 3 0 0),(3,.ptr 0 1 0 0),(1,.p (.int .i64 k)),(2,.p (.int .i64 b))]) (λ_=>H0) (λ_=>x.ins.all (jW u k c.regs)=true) ?_ ?_
 ·simp-implicitDefEqProofs[]
  refine aN (λi:Nat=>az 136 [(11,.p (.int .i64 i)),(8,.ptr 2 5 0 0),(7,.ptr 1 3 0 0),(3,.ptr 0 1 0 0),(1,.p (.int .i64 k)),(2,.p (.int .i64 b))]) (λ_=>H0) (λi=>i<=x.ins.length/\∀n∈x.ins.take i,jW u k c.regs n=true) (λi=>x.ins.length-i) 0 (by simp) (am (by simp) (by simp[below,gl])) ?_
  rintro i ⟨hi,hp⟩
  simp-implicitDefEqProofs[g2,hil]
  refine aO (λhc=>?_) (λhc=>?_)
  ·simp at hc
   have hg:=Wz hc
   have htk:=aq hc
   have hm:=WN hc
   have hxn:=hxf.ins
   have hargs:=hxf.ia _ hm
   generalize x.ins[i]=n at hg htk hm hargs
   have hns:=n.cs_eq2
   have hI:=Qz G u k c hk h0 h1 hu.1 n hargs
   rw[hns,hul] at hI
   simp-implicitDefEqProofs[g2,g0,hil,hg,hns]
   refine hI.use ?_
   cases hr:jW u k c.regs n with
   |false=>
    have hf:bkB u k c b x=false:=by
     rw[bkB,nz hm (p:=jW u k c.regs) hr];simp
    simp-implicitDefEqProofs[hf]
   |true=>
    simp-implicitDefEqProofs[]
    refine⟨i+1,⟨by omega,λy hy=>?_⟩,by omega,am (by simp) (by simp[below,gl,w1 (i:=i) (by omega)])⟩
    rw[htk] at hy
    rcases WE.1 hy with hy|hy
    ·exact hp y hy
    ·rw[WG.1 hy];exact hr
  ·simp at hc
   rw[WF hc] at hp
   simp-implicitDefEqProofs[]
   exact⟨hp,am (by simp) (by simp[below,gl])⟩
 rintro⟨⟩ hc3
 have hP:=Le G c b hcl (λy hy=>(hcf.2 y hy).next)
 rw[hcs,hbl] at hP
 obtain⟨P,hPe⟩:∃P,P=dc c.blocks b:=⟨_,rfl⟩
 have hPl:P.length<=1073741824:=by rw[hPe];exact Xs (ow _ _) hcl
 rw[←hPe] at hP
 have hPL:bF P= .lst 1 (P.map λn=>[.int .i64 n]):=rfl
 rw[hPL] at hP
 simp-implicitDefEqProofs[g1]
 refine hP.use ?_
 simp-implicitDefEqProofs[]
 refine lV (λ_:Unit=>az 136 [(8,.ptr 2 5 0 0)]) (λ_=>H0) (λ_=>x.phis.all (phB c.regs b P.length)=true) ?_ ?_
 ·simp-implicitDefEqProofs[]
  refine aN (λi:Nat=>az 136 [(13,.p (.int .i64 i)),(12,.p (.lst 1 (P.map λn=>[.int .i64 n]))),(8,.ptr 2 5 0 0),(7,.ptr 1 3 0 0),(3,.ptr 0 1 0 0),(1,.p (.int .i64 k)),(2,.p (.int .i64 b))]) (λ_=>H0) (λi=>i<=x.phis.length/\∀n∈x.phis.take i,phB c.regs b P.length n=true) (λi=>x.phis.length-i) 0 (by simp) (am (by simp) (by simp[below,gl])) ?_
  rintro i ⟨hi,hp⟩
  simp-implicitDefEqProofs[g2,hpl]
  refine aO (λhc=>?_) (λhc=>?_)
  ·simp at hc
   have hg:=Wz hc
   have htk:=aq hc
   have hm:=WN hc
   have hxn:=hxf.phis
   have hargs:=hxf.pa _ hm
   generalize x.phis[i]=n at hg htk hm hargs
   have hns:=n.cs_eq2
   have hna:bF n.args= .lst 1 (n.args.map λn=>[.int .i64 n]):=rfl
   have hbad:phB c.regs b P.length n=false->bkB u k c b x=false:=λh=>by
    rw[bkB,←hPe,nz hm (p:=phB c.regs b P.length) h];simp
   have hR:=ER G c h0 h1 n.args hargs
   rw[hcs,hbl,hna] at hR
   by_cases hb0:b=0
   ·subst hb0
    have hf:=hbad (by simp[phB])
    simp-implicitDefEqProofs[hf]
   ·have hb0':¬(b:Int)=0:=by omega
    by_cases hl:n.args.length=P.length
    ·have hl':(n.args.length:Int)=(P.length:Int):=by omega
     simp-implicitDefEqProofs[hb0,hb0',g2,g1,hpl,hg,hns,hna,hl']
     refine hR.use ?_
     cases hr:n.args.all (ef c.regs) with
     |false=>
      have hf:=hbad (by simp[phB,hr])
      simp-implicitDefEqProofs[hf]
     |true=>
      simp-implicitDefEqProofs[g2,g1,hpl,hg,hns,hna,hwr]
      refine(dh G n.to 0 (c.regs-1)).use ?_
      cases ht:inR n.to 0 (c.regs-1) with
      |false=>
       have hf:=hbad (by simp[phB,ef,ht])
       simp-implicitDefEqProofs[hf]
      |true=>
       simp-implicitDefEqProofs[]
       refine⟨i+1,⟨by omega,λy hy=>?_⟩,by omega,am (by simp) (by simp[below,gl,w1 (i:=i) (by omega)])⟩
       rw[htk] at hy
       rcases WE.1 hy with hy|hy
       ·exact hp y hy
       ·rw[WG.1 hy]
        simp only[phB,hb0,hl,hr,ef,ht]
        rfl
    ·have hl':¬(n.args.length:Int)=(P.length:Int):=by omega
     have hf:=hbad (by simp[phB,hl])
     simp-implicitDefEqProofs[hb0,hb0',g2,g1,hpl,hg,hns,hna,hl',hf]
  ·simp at hc
   rw[WF hc] at hp
   simp-implicitDefEqProofs[]
   exact⟨hp,am (by simp) (by simp[below,gl])⟩
 rintro⟨⟩ hc4
 have ht:bkB u k c b x=true:=by
  rw[bkB,←hPe,hc1,hc2,hc3,hc4];rfl
 simp-implicitDefEqProofs[ht]
theorem Mg{u:List Cd}{k:Nat}{c:Cd}(h1:inR c.params 0 3=true)(h2:inR c.regs c.params 300=true)(h3:inR c.blocks.length 1 160=true)(h4:∀(j:Nat) (x:Bk),c.blocks[j]?=some x->bkB u k c j x=true):cdB u k c=true:=by
 rw[cdB,h1,h2,h3,allI_iff.2 h4];rfl
def bkS(N:Nat)(l:List Bk)(j:Nat):Nat:=N+((l.take j).map bkN).sum
theorem BD(N:Nat)(l:List Bk):bkS N l 0=N:=by simp[bkS]
theorem IU(N:Nat)(l:List Bk):bkS N l l.length=N+(l.map bkN).sum:=by rw[bkS,WZ]
theorem Fa(N:Nat){l:List Bk}{j:Nat}{x:Bk}(h:l[j]?=some x):bkS N l (j+1)=bkS N l j+x.ins.length+x.phis.length:=by rw[bkS,bkS,tZ bkN h,bkN];omega
theorem EL(u:List Cd)(hu:KD 1073741824 u):VF Tryz.prog G je [.agg [.p (cdL u)]] (.p (.bool (unB u))):=by
 have hul:cdL u= .lst 3 (u.map Cd.cs):=rfl
 have hu1:=hu.1
 refine AC.go uJ ?_
 simp-implicitDefEqProofs[nw,hul]
 refine(dh G u.length 1 4).use ?_
 cases hr:inR u.length 1 4 with
 |false=>
  have hf:unB u=false:=by simp[unB,hr]
  simp-implicitDefEqProofs[hf]
 |true=>
 simp-implicitDefEqProofs[]
 refine aN (λi:Nat=>az 76 [(4,.p (.int .i64 i)),(3,.p (.int .i64 (unN (u.take i)))),(1,.ptr 0 1 0 0)]) (λ_=>[.row 1 [[.p (.lst 3 (u.map Cd.cs))]]]) (λi=>i<=u.length/\(∀(j:Nat) (c:Cd),j<i->u[j]?=some c->cdB u j c=true)/\unN (u.take i)<=800) (λi=>u.length-i) 0 ⟨Xg _,λj c h=>(by omega),Xg _⟩ (am (by simp) (by simp[below,show unN ([]:List Cd)=0 from rfl])) ?_
 rintro i ⟨hi,hp,hn8⟩
 simp-implicitDefEqProofs[]
 refine aO (λhc=>?_) (λhc=>?_)
 ·simp at hc
  have hg:=Wz hc
  have htn:=tZ cdN hg
  have hle:=λj=>Fs u hg j
  have hcf:=hu.2 _ (WN hc)
  generalize u[i]=c at hg htn hle hcf
  have hcs:=c.cs_eq2
  have hbl:bkL c.blocks= .lst 5 (c.blocks.map Bk.cs):=rfl
  obtain⟨N,hN⟩:∃N,N=unN (u.take i):=⟨_,rfl⟩
  rw[←hN] at hn8⊢
  have hbad:cdB u i c=false->unB u=false:=λh=>by rw[unB,ou hg h];simp
  simp-implicitDefEqProofs[hg,hcs,hbl]
  refine(dh G c.params 0 3).use ?_
  cases h1:inR c.params 0 3 with
  |false=>
   have hf:=hbad (by simp[cdB,h1])
   simp-implicitDefEqProofs[hf]
  |true=>
  simp-implicitDefEqProofs[]
  refine(dh G c.regs c.params 300).use ?_
  cases h2:inR c.regs c.params 300 with
  |false=>
   have hf:=hbad (by simp[cdB,h2])
   simp-implicitDefEqProofs[hf]
  |true=>
  simp-implicitDefEqProofs[]
  refine(dh G c.blocks.length 1 160).use ?_
  cases h3:inR c.blocks.length 1 160 with
  |false=>
   have hf:=hbad (by simp[cdB,h3])
   simp-implicitDefEqProofs[hf]
  |true=>
  have hrg:0<=c.regs/\c.regs<=300:=by
   simp only[inR,WM,decide_eq_true_eq] at h1 h2
   omega
  have hcl:=hcf.1
  simp-implicitDefEqProofs[]
  refine aN (λj:Nat=>az 76 [(6,.p (.int .i64 j)),(3,.p (.int .i64 (bkS N c.blocks j))),(5,.ptr 1 3 0 0),(4,.p (.int .i64 i)),(1,.ptr 0 1 0 0)]) (λ_=>[.row 1 [[.p (.lst 3 (u.map Cd.cs))]],.row 3 [[.p (.int .i64 c.params),.p (.int .i64 c.regs),.p (.lst 5 (c.blocks.map Bk.cs))]]]) (λj=>j<=c.blocks.length/\(∀(q:Nat) (x:Bk),q<j->c.blocks[q]?=some x->bkB u i c q x=true)/\bkS N c.blocks j<=800) (λj=>c.blocks.length-j) 0 ⟨Xg _,λj c h=>(by omega),by rw[BD];exact hn8⟩ (am (by simp) (by simp[below,BD])) ?_
  rintro j ⟨hj,hq,hm8⟩
  simp-implicitDefEqProofs[]
  refine aO (λhc2=>?_) (λhc2=>?_)
  ·simp at hc2
   have hg2:=Wz hc2
   have hM2:=Fa N hg2
   have hxf:=hcf.2 _ (WN hc2)
   generalize c.blocks[j]=x at hg2 hM2 hxf
   have hxs:=x.cs_eq2
   have hxi:=hxf.ins
   have hxp:=hxf.phis
   have hil:inL x.ins= .lst 4 (x.ins.map Ii.cs):=rfl
   have hpl:phL x.phis= .lst 2 (x.phis.map Ph.cs):=rfl
   obtain⟨M,hM⟩:∃M,M=bkS N c.blocks j:=⟨_,rfl⟩
   rw[←hM] at hm8 hM2⊢
   have w1':IntKind.i64.wrap ((M:Int)+(x.ins.length:Int))=(M:Int)+(x.ins.length:Int):=ab (by omega) (by omega)
   have w2':IntKind.i64.wrap ((M:Int)+(x.ins.length:Int)+(x.phis.length:Int))=(M:Int)+(x.ins.length:Int)+(x.phis.length:Int):=ab (by omega) (by omega)
   have hwj:=w1 (i:=j) (by omega)
   by_cases h8:800<M+x.ins.length+x.phis.length
   ·have h8':(800:Int)<(M:Int)+(x.ins.length:Int)+(x.phis.length:Int):=by omega
    have hf:unB u=false:=by
     have:=hle (j+1)
     rw[←hN] at this
     have h3:N+((c.blocks.take (j+1)).map bkN).sum=bkS N c.blocks (j+1):=rfl
     rw[h3,hM2] at this
     have hd:decide (unN u<=800)=false:=by simp;omega
     rw[unB,hd];simp
    simp-implicitDefEqProofs[hg2,hxs,hil,hpl,w1',w2',h8',hf]
   ·have h8':¬(800:Int)<(M:Int)+(x.ins.length:Int)+(x.phis.length:Int):=by omega
    have hB:=Lu G u i j c x hg hg2 hrg.1 hrg.2 hu
    rw[hul] at hB
    simp-implicitDefEqProofs[hg2,hxs,hil,hpl,w1',w2',h8']
    refine hB.use ?_
    cases hbb:bkB u i c j x with
    |false=>
     have hf:=hbad (by rw[cdB,ou hg2 hbb];simp)
     simp-implicitDefEqProofs[hf]
    |true=>
     simp-implicitDefEqProofs[]
     refine⟨j+1,⟨by omega,λq y hqj hy=>?_,by omega⟩,by omega,am (by simp) ?_⟩
     ·rcases Xn q j with h|h
      ·exact hq q y h hy
      ·have:q=j:=by omega
       subst this
       rw[hg2] at hy
       cases hy
       exact hbb
     ·have hcast:(bkS N c.blocks (j+1):Int)=(M:Int)+(x.ins.length:Int)+(x.phis.length:Int):=by omega
      simp-implicitDefEqProofs only[hcast]
      simp[below,hwj]
  ·simp at hc2
   have hje:j=c.blocks.length:=by omega
   subst hje
   have hcd:=Mg h1 h2 h3 (λq x hx=>hq q x (Wy.1 hx).1 hx)
   have hcN:bkS N c.blocks c.blocks.length=N+cdN c:=IU N c.blocks
   rw[hcN] at hm8⊢
   have htn2:unN (u.take (i+1))=N+cdN c:=by rw[hN];exact htn
   simp-implicitDefEqProofs[]
   refine⟨i+1,⟨by omega,λq y hqj hy=>?_,by omega⟩,by omega,dC (m:=1) (by omega) (bW rfl rfl (by simp[okO,below])) ?_⟩
   ·rcases Xn q i with h|h
    ·exact hp q y h hy
    ·have:q=i:=by omega
     subst this
     rw[hg] at hy
     cases hy
     exact hcd
   ·have hcast:((unN (u.take (i+1)):Nat):Int)=(N:Int)+(cdN c:Int):=by omega
    simp-implicitDefEqProofs only[hcast]
    simp[below,w1 (i:=i) (by omega)]
 ·simp at hc
  have hie:i=u.length:=by omega
  subst hie
  rw[WZ] at hn8
  have ht:unB u=true:=by
   rw[unB,hr,allI_iff.2 (λq c hq=>hp q c (Wy.1 hq).1 hq)]
   simp[hn8]
  simp-implicitDefEqProofs[ht]
end
section
theorem Eh:AK.whole nQ=FK.ak oa:=rfl
variable (G:aK)
theorem Kb(o:Int):VF Tryz.prog G kM [.p (.int .i64 o)] (.p (.bool (inR o 1 14))):=by
 refine AC.go Er ?_
 simp-implicitDefEqProofs[uv]
 refine(cb G o 1 14).use ?_
 simp-implicitDefEqProofs[]
theorem EC(o:Int):VF Tryz.prog G mv [.p (.int .i64 o)] (.p (.bool (fX o))):=by
 refine AC.go FW ?_
 simp-implicitDefEqProofs[za]
 refine(Kb G o).use ?_
 cases hb:inR o 1 14 with
 |false=>simp-implicitDefEqProofs[fX,hb]
 |true=>
  by_cases h1:o=12
  ·simp-implicitDefEqProofs[fX,hb,h1]
  ·simp-implicitDefEqProofs[fX,hb,h1]
theorem KJ(o:Int):VF Tryz.prog G lc [.p (.int .i64 o)] (.p (.int .i64 (rf o))):=by
 refine AC.go At ?_
 by_cases h1:o=1
 ·simp-implicitDefEqProofs[cP,rf,h1]
 by_cases h2:o=2
 ·simp-implicitDefEqProofs[cP,rf,h2]
 by_cases h3:o=10
 ·simp-implicitDefEqProofs[cP,rf,h3]
 by_cases h4:o=11
 ·simp-implicitDefEqProofs[cP,rf,h4]
 by_cases h5:o=13
 ·simp-implicitDefEqProofs[cP,rf,h5]
 simp-implicitDefEqProofs[cP,rf,h1,h2,h3,h4,h5]
theorem EM(o:Int):VF Tryz.prog G iX [.p (.int .i64 o)] (.p (.int .i64 (nxN o))):=by
 refine AC.go ve ?_
 by_cases h1:o=1
 ·simp-implicitDefEqProofs[dO,nxN,h1]
 by_cases h2:o=2
 ·simp-implicitDefEqProofs[dO,nxN,h2]
 by_cases h3:o=3
 ·simp-implicitDefEqProofs[dO,nxN,h3]
 simp-implicitDefEqProofs[dO,nxN,h1,h2,h3]
theorem BY(o:Int):VF Tryz.prog G jB [.p (.int .i64 o)] (.p (.bool (onU o))):=by
 refine AC.go CP ?_
 by_cases h1:o=2
 ·simp-implicitDefEqProofs[mW,onU,h1]
 simp-implicitDefEqProofs[mW,onU,h1]
theorem Is(l:List Int)(v:Int)(hl:l.length<=1073741824):VF Tryz.prog G gF [.p (bF l),.p (.int .i64 v)] (.p (.int .i64 (ixI (l.findIdx? λx=>decide (v=x))))):=by
 have hnl:bF l= .lst 1 (l.map λn=>[.int .i64 n]):=rfl
 refine AC.go tn ?_
 simp-implicitDefEqProofs[lG,hnl]
 refine aN (λi:Nat=>az 19 [(8,.p (.int .i64 i)),(7,.p (.int .i64 l.length)),(0,.p (.lst 1 (l.map λn=>[.int .i64 n]))),(1,.p (.int .i64 v))]) (λ_=>[]) (λi=>i<=l.length/\∀x∈l.take i,¬v=x) (λi=>l.length-i) 0 (by simp) (cC rfl (by simp[below])) ?_
 rintro i ⟨hi,hp⟩
 simp-implicitDefEqProofs[]
 refine aO (λhc=>?_) (λhc=>?_)
 ·simp at hc
  have hg:=Wz hc
  have htk:=aq hc
  have hfi:v=l[i]->(l.findIdx? λx=>decide (v=x))=some i:=λe=>by
   rw[WU]
   exact⟨hc,by simpa using e,λj hj=>by have:=hp l[j] (XA.2 ⟨j,by omega,rfl⟩);simpa using this⟩
  generalize l[i]=x at hg htk hfi
  simp-implicitDefEqProofs[hg]
  refine aO (λhe=>?_) (λhe=>?_)
  ·have he:v=x:=by simpa using he
   rw[hfi he]
   simp-implicitDefEqProofs[ixI]
  ·have he:¬v=x:=by simpa using he
   simp-implicitDefEqProofs[]
   refine⟨i+1,⟨by omega,λy hy=>?_⟩,by omega,cC rfl (by simp[below,w1 (i:=i) (by omega)])⟩
   rw[htk] at hy
   rcases WE.1 hy with hy|hy
   ·exact hp y hy
   ·rw[WG.1 hy];exact he
 ·simp at hc
  rw[WF hc] at hp
  have hf:(l.findIdx? λx=>decide (v=x))=none:=by
   rw[Xd]
   intro x hx
   simpa using hp x hx
  rw[hf]
  simp-implicitDefEqProofs[ixI]
theorem Cm(l:List Int)(v:Int)(hl:l.length<=1073741824):VF Tryz.prog G eC [.p (bF l),.p (.int .i64 v)] (.p (.bool (decide (v∈l)))):=by
 refine AC.go oV ?_
 simp-implicitDefEqProofs[iP]
 refine(Is G l v hl).use ?_
 simp-implicitDefEqProofs[]
 cases hf:l.findIdx? λx=>decide (v=x) with
 |none=>
  rw[Xd] at hf
  have:¬v∈l:=λhm=>by have:=hf v hm;simp at this
  simp[ixI,this]
 |some i=>
  rw[WU] at hf
  obtain⟨h1,h2,_⟩:=hf
  have:v∈l:=by
   have h2:v=l[i]:=by simpa using h2
   rw[h2];exact WN h1
  simp[ixI,this]
theorem Jf{α:Type}(l:List α)(p:α->Bool):decide (0<=ixI (l.findIdx? p))=l.any p:=by
 cases hf:l.findIdx? p with
 |none=>
  rw[Xd] at hf
  have:l.any p=false:=by rw[List.any_eq_false];intro x hx;simp[hf x hx]
  simp[ixI,this]
 |some i=>
  rw[WU] at hf
  obtain⟨h1,h2,_⟩:=hf
  have:l.any p=true:=by rw[List.any_eq_true];exact⟨_,WN h1,h2⟩
  simp[ixI,this]
section
variable {h:List AO} {f:FuncId} {caps:List AV}
theorem Fu(xs:List Int)(p:Int->Bool)(hl:xs.length<=1073741824)(hcap:ay h.length caps)
 (hcall:∀x∈xs,AC Tryz.prog G f (.p (.int .i64 x)::caps) h λr h'=>r= .ret (.p (.bool (p x)))/\h'=h):
 AC Tryz.prog G dT [.p (bF xs),.fn (.func f) caps] h λr h'=>r= .ret (.p (.int .i64 (ixI (xs.findIdx? p))))/\h'=h:=by
 have hnl:bF xs= .lst 1 (xs.map λn=>[.int .i64 n]):=rfl
 refine AC.go nP ?_
 simp-implicitDefEqProofs[iE,hnl]
 refine aN (λi:Nat=>az 19 [(8,.p (.int .i64 i)),(7,.p (.int .i64 xs.length)),(0,.p (.lst 1 (xs.map λn=>[.int .i64 n]))),(1,.fn (.func f) caps)]) (λ_=>h) (λi=>i<=xs.length/\∀x∈xs.take i,p x=false) (λi=>xs.length-i) 0 (by simp) (am (WK _) (by simp[below,hcap])) ?_
 rintro i ⟨hi,hp⟩
 simp-implicitDefEqProofs[]
 refine aO (λhc=>?_) (λhc=>?_)
 ·simp at hc
  have hg:=Wz hc
  have htk:=aq hc
  have hfi:p xs[i]=true->xs.findIdx? p=some i:=λe=>by
   rw[WU]
   exact⟨hc,e,λj hj=>by have:=hp xs[j] (XA.2 ⟨j,by omega,rfl⟩);simp[this]⟩
  have hcl:=hcall _ (WN hc)
  generalize xs[i]=x at hg htk hfi hcl
  simp-implicitDefEqProofs[hg]
  refine hcl.mono ?_
  rintro r h' ⟨rfl,rfl⟩
  cases hpx:p x with
  |true=>
   rw[hfi hpx]
   simp-implicitDefEqProofs[aa,ixI]
  |false=>
   simp-implicitDefEqProofs[aa]
   refine⟨i+1,⟨by omega,λy hy=>?_⟩,by omega,am (WK _) (by simp[below,hcap,w1 (i:=i) (by omega)])⟩
   rw[htk] at hy
   rcases WE.1 hy with hy|hy
   ·exact hp y hy
   ·rw[WG.1 hy];exact hpx
 ·simp at hc
  rw[WF hc] at hp
  have hf:xs.findIdx? p=none:=by rw[Xd];exact hp
  rw[hf]
  simp-implicitDefEqProofs[ixI]
theorem sO(xs:List Int)(p:Int->Bool)(hl:xs.length<=1073741824)(hcap:ay h.length caps)
 (hcall:∀x∈xs,AC Tryz.prog G f (.p (.int .i64 x)::caps) h λr h'=>r= .ret (.p (.bool (p x)))/\h'=h):
 AC Tryz.prog G bz [.p (bF xs),.fn (.func f) caps] h λr h'=>r= .ret (.p (.bool (xs.any p)))/\h'=h:=by
 refine AC.go lR ?_
 simp-implicitDefEqProofs[fv]
 refine(Fu G xs p hl hcap hcall).mono ?_
 rintro r h' ⟨rfl,rfl⟩
 simp-implicitDefEqProofs[aa,Jf]
theorem FP(xs:List Ii)(p:Ii->Bool)(hl:xs.length<=1073741824)(hcap:ay h.length caps)
 (hcall:∀x∈xs,AC Tryz.prog G f (.agg (x.cs.map .p)::caps) h λr h'=>r= .ret (.p (.bool (p x)))/\h'=h):
 AC Tryz.prog G cD [.p (inL xs),.fn (.func f) caps] h λr h'=>r= .ret (.p (.int .i64 (ixI (xs.findIdx? p))))/\h'=h:=by
 have hnl:inL xs= .lst 4 (xs.map Ii.cs):=rfl
 refine AC.go kK ?_
 simp-implicitDefEqProofs[eF,hnl]
 refine aN (λi:Nat=>az 19 [(8,.p (.int .i64 i)),(7,.p (.int .i64 xs.length)),(0,.p (.lst 4 (xs.map Ii.cs))),(1,.fn (.func f) caps)]) (λ_=>h) (λi=>i<=xs.length/\∀x∈xs.take i,p x=false) (λi=>xs.length-i) 0 (by simp) (am (WK _) (by simp[below,hcap])) ?_
 rintro i ⟨hi,hp⟩
 simp-implicitDefEqProofs[]
 refine aO (λhc=>?_) (λhc=>?_)
 ·simp at hc
  have hg:=Wz hc
  have htk:=aq hc
  have hfi:p xs[i]=true->xs.findIdx? p=some i:=λe=>by
   rw[WU]
   exact⟨hc,e,λj hj=>by have:=hp xs[j] (XA.2 ⟨j,by omega,rfl⟩);simp[this]⟩
  have hcl:=hcall _ (WN hc)
  generalize xs[i]=x at hg htk hfi hcl
  have hxs:=x.cs_eq2
  rw[hxs] at hcl
  simp-implicitDefEqProofs[hg,hxs]
  refine hcl.mono ?_
  rintro r h' ⟨rfl,rfl⟩
  cases hpx:p x with
  |true=>
   rw[hfi hpx]
   simp-implicitDefEqProofs[aa,ixI]
  |false=>
   simp-implicitDefEqProofs[aa]
   refine⟨i+1,⟨by omega,λy hy=>?_⟩,by omega,am (WK _) (by simp[below,hcap,w1 (i:=i) (by omega)])⟩
   rw[htk] at hy
   rcases WE.1 hy with hy|hy
   ·exact hp y hy
   ·rw[WG.1 hy];exact hpx
 ·simp at hc
  rw[WF hc] at hp
  have hf:xs.findIdx? p=none:=by rw[Xd];exact hp
  rw[hf]
  simp-implicitDefEqProofs[ixI]
theorem Ha(xs:List Ii)(p:Ii->Bool)(hl:xs.length<=1073741824)(hcap:ay h.length caps)
 (hcall:∀x∈xs,AC Tryz.prog G f (.agg (x.cs.map .p)::caps) h λr h'=>r= .ret (.p (.bool (p x)))/\h'=h):
 AC Tryz.prog G bX [.p (inL xs),.fn (.func f) caps] h λr h'=>r= .ret (.p (.bool (xs.any p)))/\h'=h:=by
 refine AC.go jp ?_
 simp-implicitDefEqProofs[dI]
 refine(FP G xs p hl hcap hcall).mono ?_
 rintro r h' ⟨rfl,rfl⟩
 simp-implicitDefEqProofs[aa,Jf]
end
theorem Dx{h:List AO}{c:Cd}{q:Nat}(hq:h[q]?=some (.row 3 [[.p (.int .i64 c.params),.p (.int .i64 c.regs),.p (bkL c.blocks)]]))(h0:0<=c.regs)(h1:c.regs<=300)(r:Int):AC Tryz.prog G dH [.p (.int .i64 r),.ptr q 3 0 0] h λx h'=>x= .ret (.p (.bool (ef c.regs r)))/\h'=h:=by
 have hwr:IntKind.i64.wrap (c.regs-1)=c.regs-1:=ab (by omega) (by omega)
 refine AC.go BW ?_
 simp-implicitDefEqProofs[pi,hq,hwr]
 refine(cb G r 0 (c.regs-1)).use ?_
 simp-implicitDefEqProofs[ef]
theorem tf{h:List AO}{c:Cd}{q:Nat}(hq:h[q]?=some (.row 3 [[.p (.int .i64 c.params),.p (.int .i64 c.regs),.p (bkL c.blocks)]]))(h0:0<=c.regs)(h1:c.regs<=300)(r:Int):AC Tryz.prog G bS [.p (.int .i64 r),.ptr q 3 0 0] h λx h'=>x= .ret (.p (.bool (ef c.regs r)))/\h'=h:=by
 have hwr:IntKind.i64.wrap (c.regs-1)=c.regs-1:=ab (by omega) (by omega)
 refine AC.go zj ?_
 simp-implicitDefEqProofs[oM,hq,hwr]
 refine(cb G r 0 (c.regs-1)).use ?_
 simp-implicitDefEqProofs[ef]
theorem Kk{h:List AO}{c:Cd}{q p:Nat}(hq:h[q]?=some (.row 3 [[.p (.int .i64 c.params),.p (.int .i64 c.regs),.p (bkL c.blocks)]]))(hp:h[p]?=some (.row 1 [[.fn (.func dH) [.ptr q 3 0 0]]]))(h0:0<=c.regs)(h1:c.regs<=300)(r:Int):AC Tryz.prog G lL [.p (.int .i64 r),.ptr p 1 0 0] h λx h'=>x= .ret (.p (.bool (!ef c.regs r)))/\h'=h:=by
 refine AC.go AQ ?_
 simp-implicitDefEqProofs[pP,hp]
 refine(Dx G hq h0 h1 r).mono ?_
 rintro x h' ⟨rfl,rfl⟩
 simp-implicitDefEqProofs[aa]
theorem HP{h:List AO}{c:Cd}{q p:Nat}(hq:h[q]?=some (.row 3 [[.p (.int .i64 c.params),.p (.int .i64 c.regs),.p (bkL c.blocks)]]))(hp:h[p]?=some (.row 1 [[.fn (.func bS) [.ptr q 3 0 0]]]))(h0:0<=c.regs)(h1:c.regs<=300)(r:Int):AC Tryz.prog G kj [.p (.int .i64 r),.ptr p 1 0 0] h λx h'=>x= .ret (.p (.bool (!ef c.regs r)))/\h'=h:=by
 refine AC.go zr ?_
 simp-implicitDefEqProofs[oI,hp]
 refine(tf G hq h0 h1 r).mono ?_
 rintro x h' ⟨rfl,rfl⟩
 simp-implicitDefEqProofs[aa]
theorem Ho{h:List AO}{c:Cd}{q:Nat}(hq:h[q]?=some (.row 3 [[.p (.int .i64 c.params),.p (.int .i64 c.regs),.p (bkL c.blocks)]]))(hl:c.blocks.length<=1073741824)(r:Int):AC Tryz.prog G kx [.p (.int .i64 r),.ptr q 3 0 0] h λx h'=>x= .ret (.p (.bool (!inR r 1 ((c.blocks.length:Int)-1))))/\h'=h:=by
 have hbl:bkL c.blocks= .lst 5 (c.blocks.map Bk.cs):=rfl
 have hwb:IntKind.i64.wrap ((c.blocks.length:Int)-1)=(c.blocks.length:Int)-1:=ab (by omega) (by omega)
 refine AC.go zm ?_
 simp-implicitDefEqProofs[oJ,hq,hbl,hwb]
 refine(cb G r 1 ((c.blocks.length:Int)-1)).use ?_
 simp-implicitDefEqProofs[]
theorem zO{α:Type}(l:List α)(p:α->Bool):l.any (λx=> !p x)= !l.all p:=by
 rw[List.not_all_eq_any_not]
theorem PR(u:List Cd)(k:Nat)(c:Cd)(hk:u[k]?=some c)(h0:0<=c.regs)(h1:c.regs<=300)(hu:u.length<=1073741824)(x:Ii)(hl:x.args.length<=1073741824):VF Tryz.prog G oo [.agg [.p (cdL u)],.p (.int .i64 k),.agg (x.cs.map .p)] (.p (.bool (jW u k c.regs x))):=by
 have hcs:=c.cs_eq2
 have hxs:=x.cs_eq2
 have hul:cdL u= .lst 3 (u.map Cd.cs):=rfl
 have hnl:bF x.args= .lst 1 (x.args.map λn=>[.int .i64 n]):=rfl
 have hku:=(Wy.1 hk).1
 have hwk:IntKind.i64.wrap ((k:Int)-1)=(k:Int)-1:=ab (by omega) (by omega)
 obtain⟨H0,hH0⟩:∃H0,H0=[AO.row 1 [[.p (.lst 3 (u.map Cd.cs))]],.row 4 [[.p (.int .i64 x.op),.p (.int .i64 x.to),.p (.lst 1 (x.args.map λn=>[.int .i64 n])),.p (.int .i64 x.n)]],.row 3 [[.p (.int .i64 c.params),.p (.int .i64 c.regs),.p (bkL c.blocks)]],.row 1 [[.fn (.func dH) [.ptr 2 3 0 0]]]]:=⟨_,rfl⟩
 have g0:H0[0]?=some (.row 1 [[.p (.lst 3 (u.map Cd.cs))]]):=by rw[hH0];rfl
 have g1:H0[1]?=some (.row 4 [[.p (.int .i64 x.op),.p (.int .i64 x.to),.p (.lst 1 (x.args.map λn=>[.int .i64 n])),.p (.int .i64 x.n)]]):=by rw[hH0];rfl
 have g2:H0[2]?=some (.row 3 [[.p (.int .i64 c.params),.p (.int .i64 c.regs),.p (bkL c.blocks)]]):=by rw[hH0];rfl
 have g3:H0[3]?=some (.row 1 [[.fn (.func dH) [.ptr 2 3 0 0]]]):=by rw[hH0];rfl
 have gl:H0.length=4:=by rw[hH0];rfl
 refine AC.goK EB Eh ?_
 clear hku
 simp-implicitDefEqProofs[nQ,oa,hxs,hul,hk,hcs,hnl]
 rw[←hH0]
 refine lV (λ_:Unit=>az 91 [(8,.ptr 3 1 0 0),(7,.ptr 2 3 0 0),(5,.ptr 1 4 0 0),(3,.ptr 0 1 0 0),(1,.p (.int .i64 k))]) (λ_=>H0) (λ_=>inR x.op 1 14=true/\x.args.all (ef c.regs)=true) ?_ ?_
 ·simp-implicitDefEqProofs[g1]
  refine(Kb G x.op).use ?_
  cases hb1:inR x.op 1 14 with
  |false=>simp-implicitDefEqProofs[jW,hb1]
  |true=>
  simp-implicitDefEqProofs[g1]
  rw[←hnl]
  refine(sO G x.args (λr=> !ef c.regs r) hl (by simp[below,gl]) (λr _=>Kk G g2 g3 h0 h1 r)).mono ?_
  rintro y h' ⟨rfl,rfl⟩
  rw[zO]
  cases hb2:x.args.all (ef c.regs) with
  |false=>simp-implicitDefEqProofs[aa,jW,hb2]
  |true=>
   simp-implicitDefEqProofs[aa]
   exact⟨WI.1 hb2,am (by simp) (by simp[below,gl])⟩
 rintro⟨⟩ ⟨hb1,hb2⟩
 refine lV (λ_:Unit=>az 91 [(8,.ptr 3 1 0 0),(7,.ptr 2 3 0 0),(5,.ptr 1 4 0 0),(3,.ptr 0 1 0 0),(1,.p (.int .i64 k))]) (λ_=>H0) (λ_=>(if fX x.op then ef c.regs x.to else decide (x.to= -1))=true) ?_ ?_
 ·simp-implicitDefEqProofs[g1]
  refine(EC G x.op).use ?_
  cases hs:fX x.op with
  |true=>
   simp-implicitDefEqProofs[g1,g3]
   refine(Dx G g2 h0 h1 x.to).mono ?_
   rintro y h' ⟨rfl,rfl⟩
   cases hr:ef c.regs x.to with
   |false=>simp-implicitDefEqProofs[aa,jW,hs,hr]
   |true=>
    simp-implicitDefEqProofs[aa,g1]
    refine(EC G x.op).use ?_
    simp-implicitDefEqProofs[hs]
    exact am (by simp) (by simp[below,gl])
  |false=>
   simp-implicitDefEqProofs[g1]
   refine(EC G x.op).use ?_
   by_cases hto:x.to= -1
   ·simp-implicitDefEqProofs[hs,g1,hto]
    exact am (by simp) (by simp[below,gl])
   ·have hf:jW u k c.regs x=false:=by simp[jW,hs,hto]
    simp-implicitDefEqProofs[hs,g1,hto,hf]
 rintro⟨⟩ hb3
 have hI:jW u k c.regs x=(if x.op=14 then inR x.n 0 ((k:Int)-1)&&decide ((x.args.length:Int)=EY u x.n)
  else if x.op=1 then decide (x.args.length=0)&&inR x.n 0 255
  else decide (x.n=0)&&decide ((x.args.length:Int)=rf x.op)):=by rw[jW,hb1,hb2,hb3];simp
 rw[hI]
 by_cases o1:x.op=1
 ·by_cases hal:x.args.length=0
  ·have hal':(x.args.length:Int)=0:=by omega
   simp-implicitDefEqProofs[g1,o1,hal,hal']
   refine(FG G x.n).use ?_
   simp-implicitDefEqProofs[]
  ·have hal':¬(x.args.length:Int)=0:=by omega
   have hal2:¬x.args=[]:=λe=>hal (by rw[e];rfl)
   simp-implicitDefEqProofs[g1,o1,hal,hal',hal2]
 by_cases o14:x.op=14
 ·simp-implicitDefEqProofs[g1,o14,hwk]
  refine(cb G x.n 0 ((k:Int)-1)).use ?_
  cases hn:inR x.n 0 ((k:Int)-1) with
  |false=>simp-implicitDefEqProofs[]
  |true=>
   simp only[inR,WM,decide_eq_true_eq] at hn
   have hlt:x.n.toNat<u.length:=by
    have:=(Wy.1 hk).1
    omega
   obtain⟨c2,hc2⟩:∃c2,u[x.n.toNat]?=some c2:=⟨_,Wz hlt⟩
   have hc2s:=c2.cs_eq2
   clear hlt
   obtain⟨m,hm⟩:∃m:Nat,x.n=m:=⟨x.n.toNat,by omega⟩
   rw[hm] at hc2 g1⊢
   simp only[Int.toNat_natCast] at hc2
   simp-implicitDefEqProofs[g1,g0,hc2,hc2s,EY]
 by_cases hx0:x.n=0
 ·simp-implicitDefEqProofs[g1,o1,o14,hx0]
  refine(KJ G x.op).useQ ?_
  simp-implicitDefEqProofs[]
 ·simp-implicitDefEqProofs[g1,o1,o14,hx0]
def nX(c:Cd)(b:Int):List Int:=if inR b 0 ((c.blocks.length:Int)-1)=true then dc c.blocks b else[]
structure PsS where (i:Nat) (X:List AO) (V:AV)
theorem Ix(c:Cd)(b:Int)(hl:c.blocks.length<=1073741824)(hn:∀x∈c.blocks,x.next.length<=1073741824):AC Tryz.prog G gU [.agg (c.cs.map .p),.p (.int .i64 b)] [] λx h=>∃V,x= .ret V/\((V= .nils/\nX c b=[])\/∃id,V= .sl id 1 0 (nX c b).length/\h[id]?=some (.row 1 (fu (nX c b)))):=by
 have hcs:=c.cs_eq2
 have hbl:bkL c.blocks= .lst 5 (c.blocks.map Bk.cs):=rfl
 have hwb:IntKind.i64.wrap ((c.blocks.length:Int)-1)=(c.blocks.length:Int)-1:=ab (by omega) (by omega)
 refine AC.go Bi ?_
 simp-implicitDefEqProofs[pB,hcs,hbl,hwb]
 refine(cb G b 0 ((c.blocks.length:Int)-1)).use ?_
 cases hb:inR b 0 ((c.blocks.length:Int)-1) with
 |false=>simp-implicitDefEqProofs[nX,hb]
 |true=>
 have hpe:nX c b=dc c.blocks b:=by rw[nX,hb,if_pos rfl]
 rw[hpe]
 simp-implicitDefEqProofs[]
 refine aN (λa:PsS=>az 33 [(18,.p (.int .i64 a.i)),(17,.p (.int .i64 c.blocks.length)),(16,.p (.lst 5 (c.blocks.map Bk.cs))),(5,a.V),(1,.p (.int .i64 b))]) (λa=>a.X)
  (λa=>a.i<=c.blocks.length/\((a.V= .nils/\dc (c.blocks.take a.i) b=[])\/∃id,a.V= .sl id 1 0 (dc (c.blocks.take a.i) b).length/\a.X[id]?=some (.row 1 (fu (dc (c.blocks.take a.i) b))))) (λa=>c.blocks.length-a.i) ⟨0,[.row 3 [[.p (.int .i64 c.params),.p (.int .i64 c.regs),.p (.lst 5 (c.blocks.map Bk.cs))]]],.nils⟩ ⟨Xg _,.inl ⟨rfl,rfl⟩⟩ (am (by simp) (by simp[below])) ?_
 rintro⟨i,X,V⟩ ⟨hi,hV⟩
 simp only at hi hV
 simp-implicitDefEqProofs[]
 refine aO (λhc=>?_) (λhc=>?_)
 ·simp at hc
  have hg:=Wz hc
  have hm:=WN hc
  have hpt:=vX (b:=b) hg
  have hpl:=ow (c.blocks.take i) b
  rw[WX,Nat.min_eq_left (by omega)] at hpl
  have hnx:=hn _ hm
  generalize c.blocks[i]=x at hg hpt hnx
  generalize dc (c.blocks.take i) b=out at hV hpt hpl
  have hxs:=x.cs_eq2
  have hw1:=w1 (i:=i) (by omega)
  simp-implicitDefEqProofs[hg,hxs]
  refine(Cm G x.next b hnx).use ?_
  by_cases hbn:b∈x.next
  ·rw[if_pos hbn] at hpt
   have hd:decide (b∈x.next)=true:=by simpa using hbn
   rcases hV with⟨rfl,rfl⟩|⟨id,rfl,hid⟩
   ·simp-implicitDefEqProofs[hd,hbn]
    refine⟨⟨i+1,_,.sl (X.length+2) 1 0 1⟩,⟨by simp only;omega,.inr ⟨X.length+2,by rw[hpt];rfl,?_⟩⟩,by simp only;omega,am (Xg _) ?_⟩
    ·rw[hpt,WD (by omega)];simp[fu]
    ·simp[below,hw1]
   ·have hiX:=(Wy.1 hid).1
    have hxm:∀t,(X++t)[id]?=some (.row 1 (fu out)):=λt=>by rw[Wx hiX];exact hid
    have htl:List.take out.length (fu out)=fu out:=WF (by simp[fu])
    have hrl:(fu out).length=out.length:=by simp[fu]
    simp-implicitDefEqProofs[hd,hbn,hxm,htl,hrl]
    refine⟨⟨by omega,by omega⟩,⟨i+1,_,.sl (X.length+2) 1 0 (out.length+1)⟩,⟨by simp only;omega,.inr ⟨X.length+2,by rw[hpt];simp,?_⟩⟩,by simp only;omega,am (Xg _) ?_⟩
    ·rw[hpt,WD (by simp)];simp[fu]
    ·simp[below,hw1]
  ·rw[if_neg hbn,WT] at hpt
   have hd:decide (b∈x.next)=false:=by simpa using hbn
   simp-implicitDefEqProofs[hd,hbn]
   rcases hV with⟨rfl,rfl⟩|⟨id,rfl,hid⟩
   ·exact⟨⟨i+1,_,.nils⟩,⟨by simp only;omega,.inl ⟨rfl,hpt⟩⟩,by simp only;omega,am (Xg _) (by simp[below,hw1])⟩
   ·have hiX:=(Wy.1 hid).1
    refine⟨⟨i+1,_,.sl id 1 0 out.length⟩,⟨by simp only;omega,.inr ⟨id,by rw[hpt],?_⟩⟩,by simp only;omega,am (Xg _) (by simp[below,hw1];omega)⟩
    rw[hpt,Wx hiX];exact hid
 ·simp at hc
  have hie:i=c.blocks.length:=by omega
  subst hie
  rw[WZ] at hV
  simp-implicitDefEqProofs[]
  exact hV
theorem Lg(c:Cd)(b:Int)(hl:c.blocks.length<=1073741824)(hn:∀x∈c.blocks,x.next.length<=1073741824):VF Tryz.prog G gU [.agg (c.cs.map .p),.p (.int .i64 b)] (.p (bF (nX c b))):=
 (Ix G c b hl hn).freezeR (λt v h ⟨_,e,_⟩=>by cases e) λv h ⟨V,e1,e2⟩=>by
   cases e1
   rcases e2 with⟨rfl,e⟩|⟨id,rfl,e⟩
   ·rw[e];exact .one (View.nils 1) .nil
   ·exact .one (Du e) .nil
theorem GI(c:Cd)(M:Nat)(hM:M<=1073741824)(hf:JZ M c)(hl:cdN c<=1152921504606846976):VF Tryz.prog G js [.agg (c.cs.map .p)] (.p (.int .i64 (cdN c))):=by
 have hcs:=c.cs_eq2
 have hbl:bkL c.blocks= .lst 5 (c.blocks.map Bk.cs):=rfl
 have hcl:=hf.1
 refine AC.go uP ?_
 simp-implicitDefEqProofs[ng,hcs,hbl]
 refine aN (λj:Nat=>az 24 [(9,.p (.int .i64 j)),(3,.p (.int .i64 (bkS 0 c.blocks j))),(8,.p (.int .i64 c.blocks.length)),(7,.p (.lst 5 (c.blocks.map Bk.cs)))]) (λ_=>[.row 3 [[.p (.int .i64 c.params),.p (.int .i64 c.regs),.p (.lst 5 (c.blocks.map Bk.cs))]]]) (λj=>j<=c.blocks.length) (λj=>c.blocks.length-j) 0 (Xg _) (am (by simp) (by simp[below,BD])) ?_
 rintro j hj
 simp-implicitDefEqProofs[]
 refine aO (λhc2=>?_) (λhc2=>?_)
 ·simp at hc2
  have hg2:=Wz hc2
  have hM2:=Fa 0 hg2
  have hxf:=hf.2 _ (WN hc2)
  have hle:bkS 0 c.blocks (j+1)<=cdN c:=by
   have:=pz bkN c.blocks (j+1)
   simp only[bkS,cdN];omega
  generalize c.blocks[j]=x at hg2 hM2 hxf
  have hxs:=x.cs_eq2
  have hxi:=hxf.ins
  have hxp:=hxf.phis
  have hil:inL x.ins= .lst 4 (x.ins.map Ii.cs):=rfl
  have hpl:phL x.phis= .lst 2 (x.phis.map Ph.cs):=rfl
  obtain⟨N,hN⟩:∃N,N=bkS 0 c.blocks j:=⟨_,rfl⟩
  rw[←hN] at hM2⊢
  have w1':IntKind.i64.wrap ((x.phis.length:Int)+(x.ins.length:Int))=(x.phis.length:Int)+(x.ins.length:Int):=ab (by omega) (by omega)
  have w2':IntKind.i64.wrap ((N:Int)+((x.phis.length:Int)+(x.ins.length:Int)))=(bkS 0 c.blocks (j+1):Int):=by rw[ab (by omega) (by omega)];omega
  simp-implicitDefEqProofs[hg2,hxs,hil,hpl,w1',w2']
  exact⟨j+1,by omega,by omega,dC (m:=1) (by omega) (bW rfl rfl (by simp[okO,below])) (by simp[below,w1 (i:=j) (by omega)])⟩
 ·simp at hc2
  have hje:j=c.blocks.length:=by omega
  subst hje
  have:=IU 0 c.blocks
  rw[Xt] at this
  simp-implicitDefEqProofs[this,cdN]
end
section
theorem CT:AK.whole mK=FK.ak mY:=rfl
variable (G:aK)
theorem Hz{h:List AO}{u:List Cd}{k p0 p1:Nat}{c:Cd}(hp0:h[p0]?=some (.row 1 [[.p (cdL u)]]))(hp1:h[p1]?=some (.row 1 [[.p (.int .i64 k)]]))(hk:u[k]?=some c)(h0:0<=c.regs)(h1:c.regs<=300)(hu:u.length<=1073741824)(x:Ii)(hl:x.args.length<=1073741824):AC Tryz.prog G jZ [.agg (x.cs.map .p),.ptr p0 1 0 0,.ptr p1 1 0 0] h λr h'=>r= .ret (.p (.bool (!jW u k c.regs x)))/\h'=h:=by
 have hxs:=x.cs_eq2
 have hm0:∀t,(h++t)[p0]?=some (.row 1 [[.p (cdL u)]]):=λt=>by rw[Wx (Wy.1 hp0).1];exact hp0
 have hm1:∀t,(h++t)[p1]?=some (.row 1 [[.p (.int .i64 k)]]):=λt=>by rw[Wx (Wy.1 hp1).1];exact hp1
 refine AC.trim (AC.go zB ?_) (by simp[below])
 have hI:=PR G u k c hk h0 h1 hu x hl
 rw[hxs] at hI⊢
 simp-implicitDefEqProofs[oH,hm0,hm1]
 refine hI.use ?_
 simp-implicitDefEqProofs[]
theorem OG(u:List Cd)(k:Nat)(c:Cd)(hk:u[k]?=some c)(hu:KD 1073741824 u):VF Tryz.prog G mI [.agg [.p (cdL u)],.p (.int .i64 k)] (.p (.bool (cdB u k c))):=by
 have hcf:=hu.2 c (WJ hk)
 have hcs:=c.cs_eq2
 have hul:cdL u= .lst 3 (u.map Cd.cs):=rfl
 have hbl:bkL c.blocks= .lst 5 (c.blocks.map Bk.cs):=rfl
 have hcl:=hcf.1
 obtain⟨H0,hH0⟩:∃H0,H0=[AO.row 1 [[.p (.lst 3 (u.map Cd.cs))]],.row 1 [[.p (.int .i64 k)]],.row 3 [[.p (.int .i64 c.params),.p (.int .i64 c.regs),.p (.lst 5 (c.blocks.map Bk.cs))]]]:=⟨_,rfl⟩
 have g2':H0[2]?=some (.row 3 [[.p (.int .i64 c.params),.p (.int .i64 c.regs),.p (.lst 5 (c.blocks.map Bk.cs))]]):=by rw[hH0];rfl
 have gl':H0.length=3:=by rw[hH0];rfl
 refine AC.goK CU CT ?_
 simp-implicitDefEqProofs[mK,mY,hul,hk,hcs,hbl]
 rw[←hH0]
 refine lV (λ_:Unit=>az 121 [(5,.ptr 2 3 0 0),(3,.ptr 1 1 0 0),(2,.ptr 0 1 0 0)]) (λ_=>H0) (λ_=>inR c.params 0 3=true/\inR c.regs c.params 300=true/\inR c.blocks.length 1 160=true) ?_ ?_
 ·simp-implicitDefEqProofs[g2']
  refine(cb G c.regs 0 300).use ?_
  cases h1:inR c.regs 0 300 with
  |false=>
   have hf:cdB u k c=false:=by
    cases e1:inR c.params 0 3 with
    |false=>simp[cdB,e1]
    |true=>
     cases e2:inR c.regs c.params 300 with
     |false=>simp[cdB,e2]
     |true=>
      simp only[inR,WM,decide_eq_true_eq] at e1 e2
      simp only[inR,Bool.and_eq_false_iff,decide_eq_false_iff_not] at h1
      omega
   simp-implicitDefEqProofs[hf]
  |true=>
  have hmn:(if c.regs<3 then c.regs else 3)=min 3 c.regs:=by split<;>omega
  simp-implicitDefEqProofs[g2',hmn]
  refine(cb G c.params 0 (min 3 c.regs)).use ?_
  cases h2:inR c.params 0 (min 3 c.regs) with
  |false=>
   have hf:cdB u k c=false:=by
    cases e1:inR c.params 0 3 with
    |false=>simp[cdB,e1]
    |true=>
     cases e2:inR c.regs c.params 300 with
     |false=>simp[cdB,e2]
     |true=>
      simp only[inR,WM,decide_eq_true_eq] at e1 e2
      simp only[inR,Bool.and_eq_false_iff,decide_eq_false_iff_not] at h2
      omega
   simp-implicitDefEqProofs[hf]
  |true=>
  simp-implicitDefEqProofs[g2']
  refine(cb G c.blocks.length 1 160).use ?_
  cases h3:inR c.blocks.length 1 160 with
  |false=>
   have hf:cdB u k c=false:=by simp[cdB,h3]
   simp-implicitDefEqProofs[hf]
  |true=>
   simp only[inR,WM,decide_eq_true_eq] at h1 h2
   have e1:inR c.params 0 3=true:=by simp only[inR,WM,decide_eq_true_eq];omega
   have e2:inR c.regs c.params 300=true:=by simp only[inR,WM,decide_eq_true_eq];omega
   simp-implicitDefEqProofs[]
   exact⟨⟨e1,e2⟩,am (by simp) (by simp[below,gl'])⟩
 rintro⟨⟩ ⟨h1,h2,h3⟩
 have hrg:0<=c.regs/\c.regs<=300:=by
  simp only[inR,WM,decide_eq_true_eq] at h1 h2
  omega
 obtain⟨r0,r300⟩:=hrg
 subst hH0
 clear g2' gl'
 obtain⟨H0,hH0⟩:∃H0,H0=[AO.row 1 [[.p (.lst 3 (u.map Cd.cs))]],.row 1 [[.p (.int .i64 k)]],.row 3 [[.p (.int .i64 c.params),.p (.int .i64 c.regs),.p (.lst 5 (c.blocks.map Bk.cs))]],.row 1 [[.fn (.func bS) [.ptr 2 3 0 0]]]]:=⟨_,rfl⟩
 have gl:H0.length=4:=by rw[hH0];rfl
 have ghb:∀o∈H0,okO 4 o:=by rw[hH0];simp[okO,below]
 have g0:∀t,(H0++t)[0]?=some (.row 1 [[.p (.lst 3 (u.map Cd.cs))]]):=λt=>by rw[hH0];rfl
 have g1:∀t,(H0++t)[1]?=some (.row 1 [[.p (.int .i64 k)]]):=λt=>by rw[hH0];rfl
 have g2:∀t,(H0++t)[2]?=some (.row 3 [[.p (.int .i64 c.params),.p (.int .i64 c.regs),.p (.lst 5 (c.blocks.map Bk.cs))]]):=λt=>by rw[hH0];rfl
 have g3:∀t,(H0++t)[3]?=some (.row 1 [[.fn (.func bS) [.ptr 2 3 0 0]]]):=λt=>by rw[hH0];rfl
 have g2n:=g2 []
 have g3n:=g3 []
 rw[WT] at g2n g3n
 have hbad:∀(i:Nat) (x:Bk),c.blocks[i]?=some x->bkB u k c i x=false->cdB u k c=false:=λi x hx h=>by rw[cdB,ou hx h];simp
 simp-implicitDefEqProofs[]
 rw[←hH0]
 refine aN (λi:Nat=>az 121 [(41,.p (.int .i64 i)),(40,.p (.int .i64 c.blocks.length)),(39,.p (.lst 5 (c.blocks.map Bk.cs))),(6,.ptr 3 1 0 0),(5,.ptr 2 3 0 0),(3,.ptr 1 1 0 0),(2,.ptr 0 1 0 0)]) (λ_=>H0) (λi=>i<=c.blocks.length/\∀(q:Nat) (x:Bk),q<i->c.blocks[q]?=some x->bkB u k c q x=true) (λi=>c.blocks.length-i) 0 ⟨Xg _,λq x h=>(by omega)⟩ (am (by simp) (by simp[below,gl])) ?_
 rintro i ⟨hi,hp⟩
 simp-implicitDefEqProofs[]
 refine aO (λhc=>?_) (λhc=>?_)
 ·simp at hc
  have hg:=Wz hc
  have hxf:=hcf.2 _ (WN hc)
  generalize c.blocks[i]=x at hg hxf
  have hxs:=x.cs_eq2
  have hbd:=hbad i x hg
  have hnl:bF x.next= .lst 1 (x.next.map λn=>[.int .i64 n]):=rfl
  have hil:inL x.ins= .lst 4 (x.ins.map Ii.cs):=rfl
  have hpl:phL x.phis= .lst 2 (x.phis.map Ph.cs):=rfl
  obtain⟨H1,hH1⟩:∃H1,H1=H0++[AO.row 5 [[.p (phL x.phis),.p (inL x.ins),.p (.int .i64 x.jump),.p (.int .i64 x.on),.p (bF x.next)]]]:=⟨_,rfl⟩
  have k0:H1[0]?=some (.row 1 [[.p (.lst 3 (u.map Cd.cs))]]):=by rw[hH1];exact g0 _
  have k1:H1[1]?=some (.row 1 [[.p (.int .i64 k)]]):=by rw[hH1];exact g1 _
  have k2:H1[2]?=some (.row 3 [[.p (.int .i64 c.params),.p (.int .i64 c.regs),.p (.lst 5 (c.blocks.map Bk.cs))]]):=by rw[hH1];exact g2 _
  have k3:H1[3]?=some (.row 1 [[.fn (.func bS) [.ptr 2 3 0 0]]]):=by rw[hH1];exact g3 _
  have k4:H1[4]?=some (.row 5 [[.p (phL x.phis),.p (inL x.ins),.p (.int .i64 x.jump),.p (.int .i64 x.on),.p (bF x.next)]]):=by rw[hH1,WD (by omega),gl];rfl
  have kl:H1.length=5:=by rw[hH1];simp[gl]
  simp-implicitDefEqProofs[hg,hxs,gl]
  rw[←hH1]
  have k4':=k4
  rw[hnl] at k4'
  refine lV (λ_:Unit=>az 121 [(8,.ptr 4 5 0 0),(7,.p (.int .i64 i)),(41,.p (.int .i64 i)),(40,.p (.int .i64 c.blocks.length)),(39,.p (.lst 5 (c.blocks.map Bk.cs))),(6,.ptr 3 1 0 0),(5,.ptr 2 3 0 0),(3,.ptr 1 1 0 0),(2,.ptr 0 1 0 0)]) (λ_=>H1) (λ_=>(decide ((x.next.length:Int)=nxN x.jump)&&(if onU x.jump then ef c.regs x.on else decide (x.on=0)))=true) ?_ ?_
  ·simp-implicitDefEqProofs[k4']
   refine(EM G x.jump).use ?_
   by_cases hlen:(x.next.length:Int)=nxN x.jump
   ·simp-implicitDefEqProofs[hlen,k4']
    refine(BY G x.jump).use ?_
    cases hon:onU x.jump with
    |true=>
     simp-implicitDefEqProofs[k4',k3]
     refine(tf G k2 r0 r300 x.on).mono ?_
     rintro y h' ⟨rfl,rfl⟩
     cases hr:ef c.regs x.on with
     |false=>
      have hf:=hbd (by simp[bkB,hon,hr])
      simp-implicitDefEqProofs[aa,hf]
     |true=>
      simp-implicitDefEqProofs[aa,k4']
      refine(BY G x.jump).use ?_
      simp-implicitDefEqProofs[hon]
      exact am (by simp) (by simp[below,kl])
    |false=>
     simp-implicitDefEqProofs[k4']
     refine(BY G x.jump).use ?_
     by_cases ho:x.on=0
     ·simp-implicitDefEqProofs[hon,k4',ho]
      exact am (by simp) (by simp[below,kl])
     ·have hf:=hbd (by simp[bkB,hon,ho])
      simp-implicitDefEqProofs[hon,k4',ho,hf]
   ·have hf:=hbd (by simp[bkB,hlen])
    simp-implicitDefEqProofs[hlen,hf,k4']
  rintro⟨⟩ hc1
  refine lV (λ_:Unit=>az 121 [(8,.ptr 4 5 0 0),(7,.p (.int .i64 i)),(41,.p (.int .i64 i)),(40,.p (.int .i64 c.blocks.length)),(39,.p (.lst 5 (c.blocks.map Bk.cs))),(6,.ptr 3 1 0 0),(5,.ptr 2 3 0 0),(3,.ptr 1 1 0 0),(2,.ptr 0 1 0 0)]) (λ_=>H1) (λ_=>(x.next.all (λn=>inR n 1 ((c.blocks.length:Int)-1))&&x.ins.all (jW u k c.regs))=true) ?_ ?_
  ·simp-implicitDefEqProofs[k4]
   refine(sO G x.next (λn=> !inR n 1 ((c.blocks.length:Int)-1)) hxf.next (by simp[below,kl]) (λr _=>Ho G k2 hcl r)).mono ?_
   rintro y h' ⟨rfl,rfl⟩
   rw[zO]
   cases ha:x.next.all (λn=>inR n 1 ((c.blocks.length:Int)-1)) with
   |false=>
    have hf:=hbd (by rw[bkB,ha];simp)
    simp-implicitDefEqProofs[aa,hf]
   |true=>
    simp-implicitDefEqProofs[aa,k4]
    refine(Ha G x.ins (λy=> !jW u k c.regs y) hxf.ins (by simp[below,kl]) (λy hy=>Hz G k0 k1 hk r0 r300 hu.1 y (hxf.ia y hy))).mono ?_
    rintro y h' ⟨rfl,rfl⟩
    rw[zO]
    cases hb:x.ins.all (jW u k c.regs) with
    |false=>
     have hf:=hbd (by rw[bkB,hb];simp)
     simp-implicitDefEqProofs[aa,hf]
    |true=>
     simp-implicitDefEqProofs[aa]
     exact⟨⟨WI.1 ha,WI.1 hb⟩,am (by simp) (by simp[below,kl])⟩
  rintro⟨⟩ hc2
  have hP:=Lg G c i hcl (λy hy=>(hcf.2 y hy).next)
  have hpi:nX c i=dc c.blocks i:=by rw[nX,if_pos];simp only[inR,WM,decide_eq_true_eq];omega
  rw[hcs,hbl,hpi] at hP
  obtain⟨P,hPe⟩:∃P,P=dc c.blocks i:=⟨_,rfl⟩
  have hPl:P.length<=1073741824:=by rw[hPe];exact Xs (ow _ _) hcl
  rw[←hPe] at hP
  have hPL:bF P= .lst 1 (P.map λn=>[.int .i64 n]):=rfl
  rw[hPL] at hP
  refine lV (λ_:Unit=>az 121 [(9,.p (.int .i64 P.length)),(8,.ptr 4 5 0 0),(7,.p (.int .i64 i)),(41,.p (.int .i64 i)),(40,.p (.int .i64 c.blocks.length)),(39,.p (.lst 5 (c.blocks.map Bk.cs))),(6,.ptr 3 1 0 0),(5,.ptr 2 3 0 0),(3,.ptr 1 1 0 0),(2,.ptr 0 1 0 0)]) (λ_=>H1) (λ_=>True) ?_ ?_
  ·simp-implicitDefEqProofs[k2]
   refine hP.use ?_
   simp-implicitDefEqProofs[]
   exact am (by simp) (by simp[below,kl])
  rintro⟨⟩ _
  simp-implicitDefEqProofs[k4,hpl]
  refine aN (λj:Nat=>az 121 [(93,.p (.int .i64 j)),(92,.p (.int .i64 x.phis.length)),(91,.p (.lst 2 (x.phis.map Ph.cs))),(9,.p (.int .i64 P.length)),(7,.p (.int .i64 i)),(41,.p (.int .i64 i)),(40,.p (.int .i64 c.blocks.length)),(39,.p (.lst 5 (c.blocks.map Bk.cs))),(6,.ptr 3 1 0 0),(5,.ptr 2 3 0 0),(3,.ptr 1 1 0 0),(2,.ptr 0 1 0 0)]) (λ_=>H0) (λj=>j<=x.phis.length/\∀n∈x.phis.take j,phB c.regs i P.length n=true) (λj=>x.phis.length-j) 0 (by simp) ?_ ?_
  ·rw[hH1]
   exact dC (m:=4) (by omega) (bW (by rw[←gl,List.take_left'];rfl) gl ghb) (by simp[below])
  rintro j ⟨hj,hq⟩
  simp-implicitDefEqProofs[]
  refine aO (λhc3=>?_) (λhc3=>?_)
  ·simp at hc3
   have hg3:=Wz hc3
   have htk:=aq hc3
   have hm:=WN hc3
   have hxn:=hxf.phis
   have hargs:=hxf.pa _ hm
   generalize x.phis[j]=n at hg3 htk hm hargs
   have hns:=n.cs_eq2
   have hna:bF n.args= .lst 1 (n.args.map λn=>[.int .i64 n]):=rfl
   have hbp:phB c.regs i P.length n=false->cdB u k c=false:=λh=>hbd (by
    rw[bkB,←hPe,nz hm (p:=phB c.regs i P.length) h];simp)
   obtain⟨H2,hH2⟩:∃H2,H2=H0++[AO.row 2 [[.p (.int .i64 n.to),.p (bF n.args)]]]:=⟨_,rfl⟩
   have m2:H2[2]?=some (.row 3 [[.p (.int .i64 c.params),.p (.int .i64 c.regs),.p (.lst 5 (c.blocks.map Bk.cs))]]):=by rw[hH2];exact g2 _
   have m3:H2[3]?=some (.row 1 [[.fn (.func bS) [.ptr 2 3 0 0]]]):=by rw[hH2];exact g3 _
   have m4:H2[4]?=some (.row 2 [[.p (.int .i64 n.to),.p (bF n.args)]]):=by rw[hH2,WD (by omega),gl];rfl
   have ml:H2.length=5:=by rw[hH2];simp[gl]
   simp-implicitDefEqProofs[hg3,hns,gl]
   rw[←hH2]
   by_cases hb0:i=0
   ·subst hb0
    have hf:=hbp (by simp[phB])
    simp-implicitDefEqProofs[hf]
   ·simp-implicitDefEqProofs[hb0,m3,m4]
    refine(tf G m2 r0 r300 n.to).mono ?_
    rintro y h' ⟨rfl,rfl⟩
    cases hr:ef c.regs n.to with
    |false=>
     have hf:=hbp (by simp[phB,hr])
     simp-implicitDefEqProofs[aa,hf]
    |true=>
     by_cases hl:n.args.length=P.length
     ·have hl':(n.args.length:Int)=(P.length:Int):=by omega
      simp-implicitDefEqProofs[aa,m4,hna,hl']
      rw[←hna]
      refine(sO G n.args (λr=> !ef c.regs r) hargs (by simp[below,ml]) (λr _=>HP G m2 m3 r0 r300 r)).mono ?_
      rintro y h' ⟨rfl,rfl⟩
      rw[zO]
      cases ha:n.args.all (ef c.regs) with
      |false=>
       have hf:=hbp (by simp[phB,ha])
       simp-implicitDefEqProofs[aa,hf]
      |true=>
       simp-implicitDefEqProofs[aa]
       refine⟨j+1,⟨by omega,λy hy=>?_⟩,by omega,?_⟩
       ·rw[htk] at hy
        rcases WE.1 hy with hy|hy
        ·exact hq y hy
        ·rw[WG.1 hy]
         simp only[phB,hb0,hl,ha,hr]
         rfl
       ·rw[hH2]
        exact dC (m:=4) (by omega) (bW (by rw[←gl,List.take_left'];rfl) gl ghb) (by simp[below,w1 (i:=j) (by omega)])
     ·have hl':¬(n.args.length:Int)=(P.length:Int):=by omega
      have hf:=hbp (by simp[phB,hl])
      simp-implicitDefEqProofs[aa,m4,hna,hl',hl,hf]
  ·simp at hc3
   rw[WF hc3] at hq
   simp-implicitDefEqProofs[]
   refine⟨i+1,⟨by omega,λq y hqj hy=>?_⟩,by omega,am (by simp) (by simp[below,gl,w1 (i:=i) (by omega)])⟩
   rcases Xn q i with h|h
   ·exact hp q y h hy
   ·have:q=i:=by omega
    subst this
    rw[hg] at hy
    cases hy
    have hc2':=Bool.and_eq_true_iff.1 hc2
    rw[bkB,←hPe,hc1,hc2'.1,hc2'.2,WI.2 hq];rfl
 ·simp at hc
  have hie:i=c.blocks.length:=by omega
  subst hie
  have ht:=Mg h1 h2 h3 (λq x hx=>hp q x (Wy.1 hx).1 hx)
  simp-implicitDefEqProofs[ht]
theorem Sa{M:Nat}{c:Cd}(h:JZ M c):cdN c<=c.blocks.length*(2*M):=by
 have:∀l:List Bk,(∀b∈l,BkFit M b)->(l.map bkN).sum<=l.length*(2*M):=by
  intro l
  induction l with
  |nil=>intro _;simp
  |cons b r ih=>
   intro hb
   have h1:=ih λx hx=>hb x (by simp[hx])
   have h2:=hb b (by simp)
   have h3:=h2.phis
   have h4:=h2.ins
   rw[WY,List.sum_cons,WP,Nat.succ_mul,bkN]
   omega
 exact this c.blocks h.2
theorem FA(u:List Cd)(hu:KD 1073741824 u):VF Tryz.prog G ju [.agg [.p (cdL u)]] (.p (.bool (unB u))):=by
 have hul:cdL u= .lst 3 (u.map Cd.cs):=rfl
 have hu1:=hu.1
 refine AC.go uV ?_
 simp-implicitDefEqProofs[nM,hul]
 refine(cb G u.length 1 4).use ?_
 cases hr:inR u.length 1 4 with
 |false=>
  have hf:unB u=false:=by simp[unB,hr]
  simp-implicitDefEqProofs[hf]
 |true=>
 have hu4:u.length<=4:=by simp only[inR,WM,decide_eq_true_eq] at hr;omega
 simp-implicitDefEqProofs[]
 refine aN (λi:Nat=>az 30 [(14,.p (.int .i64 i)),(13,.p (.int .i64 u.length)),(12,.p (.lst 3 (u.map Cd.cs))),(3,.p (.int .i64 (unN (u.take i)))),(1,.ptr 0 1 0 0)]) (λ_=>[.row 1 [[.p (.lst 3 (u.map Cd.cs))]]]) (λi=>i<=u.length/\(∀(j:Nat) (c:Cd),j<i->u[j]?=some c->cdB u j c=true)/\unN (u.take i)<=i*(160*2147483648)) (λi=>u.length-i) 0 ⟨Xg _,λj c h=>(by omega),Xg _⟩ (am (by simp) (by simp[below,show unN ([]:List Cd)=0 from rfl])) ?_
 rintro i ⟨hi,hp,hn⟩
 simp-implicitDefEqProofs[]
 refine aO (λhc=>?_) (λhc=>?_)
 ·simp at hc
  have hg:=Wz hc
  have htn:=tZ cdN hg
  have hcf:=hu.2 _ (WN hc)
  generalize u[i]=c at hg htn hcf
  have hcs:=c.cs_eq2
  have hC:=OG G u i c hg hu
  rw[hul] at hC
  have hbad:cdB u i c=false->unB u=false:=λh=>by rw[unB,ou hg h];simp
  obtain⟨N,hN⟩:∃N,N=unN (u.take i):=⟨_,rfl⟩
  rw[←hN] at hn⊢
  simp-implicitDefEqProofs[hg,hcs]
  refine hC.use ?_
  cases hb:cdB u i c with
  |false=>
   have hf:=hbad hb
   simp-implicitDefEqProofs[hf]
  |true=>
   have hbl:c.blocks.length<=160:=by
    simp only[cdB,WM] at hb
    have:=hb.1.2
    simp only[inR,WM,decide_eq_true_eq] at this
    omega
   have hcl:cdN c<=160*2147483648:=Xs (Sa hcf) (Nat.mul_le_mul hbl (by omega))
   have hK:=GI G c 1073741824 (WK _) hcf (by omega)
   rw[hcs] at hK
   have htn2:unN (u.take (i+1))=N+cdN c:=by rw[hN];exact htn
   have hw2:IntKind.i64.wrap ((N:Int)+(cdN c:Int))=(unN (u.take (i+1)):Int):=by rw[ab (by omega) (by omega)];omega
   simp-implicitDefEqProofs[]
   refine hK.use ?_
   simp-implicitDefEqProofs[hw2]
   refine⟨i+1,⟨by omega,λq y hqj hy=>?_,by omega⟩,by omega,dC (m:=1) (by omega) (bW rfl rfl (by simp[okO,below])) (by simp[below,w1 (i:=i) (by omega)])⟩
   rcases Xn q i with h|h
   ·exact hp q y h hy
   ·have:q=i:=by omega
    subst this
    rw[hg] at hy
    cases hy
    exact hb
 ·simp at hc
  have hie:i=u.length:=by omega
  subst hie
  rw[WZ]
  have hal:=allI_iff.2 (λq c hq=>hp q c (Wy.1 hq).1 hq)
  have ht:unB u=decide (unN u<=800):=by rw[unB,hr,hal];rfl
  by_cases h8:unN u<=800
  ·have h8':(unN u:Int)<=800:=by omega
   simp-implicitDefEqProofs[ht,h8,h8']
  ·have h8':¬(unN u:Int)<=800:=by omega
   simp-implicitDefEqProofs[ht,h8,h8']
end
section
mutual
def Sq:Ex->Nat
 | .mk o _ _ ks=>(if o=10 then 1 else 0)+sk ks
def sk:List Ex->Nat
 |[]=>0
 |e::r=>Sq e+sk r
end
mutual
def Rz:Sm->Nat
 | .mk o _ a bd el=>2*sk a+(if o=5\/o=6 then 3 else if o=7 then 1 else 0)+zd bd+zd el
def zd:List Sm->Nat
 |[]=>0
 |s::r=>Rz s+zd r
end
theorem Ad{d:Nat}{e:Ex}(h:bP (d+1) e=true):(∀a∈e.kids,bP d a=true)/\(e.op=1\/e.op=2->e.kids=[])/\(e.op=10->∃a b,e.kids=[a,b]):=by
 rw[bP,WM] at h
 refine⟨λa ha=>WI.1 h.2 a ha,λho=>?_,λho=>?_⟩
 ·have h:=h.1
  simp only[lO,WM,inR,decide_eq_true_eq] at h
  obtain⟨⟨⟨⟨⟨_,h2⟩,_⟩,_⟩,_⟩,_⟩:=h
  rw[loK,if_pos ho,hiK,if_pos ho] at h2
  exact List.length_eq_zero_iff.1 (by omega)
 ·have h:=h.1
  simp only[lO,WM,inR,decide_eq_true_eq] at h
  obtain⟨⟨⟨⟨⟨_,h2⟩,_⟩,_⟩,_⟩,_⟩:=h
  rw[ho,show loK 10=2 from rfl,show hiK 10=2 from rfl] at h2
  match e.kids,h2 with
  |[a,b],_=>exact⟨a,b,rfl⟩
  |[],h=>simp at h
  |[_],h=>simp at h
  |_::_::_::r,h=>simp only[WP] at h;omega
mutual
theorem zP(fa sc:List UInt8->Int):∀(e:Ex) (d:Nat) (w:Lw),bP d e=true->(lwE fa sc e w).2.bs.length=w.bs.length+2*Sq e/\w.regs<=(lwE fa sc e w).2.regs
 | .mk o n s ks,0,w,h=>by cases h
 | .mk o n s ks,d+1,w,h=>by
   obtain⟨h1,h2,h3⟩:=Ad h
   simp only[Ex.op,Ex.kids] at h1 h2 h3
   rw[lwE,Sq]
   split
   ·rename_i o1
    rw[h2 (.inl o1),if_neg (by omega)]
    simp only[Lw.mk'_len,sk]
    exact⟨by omega,by show w.regs<=w.regs+1;omega⟩
   split
   ·rename_i o2
    rw[h2 (.inr o2),if_neg (by omega)]
    exact⟨by simp[sk],WK _⟩
   split
   ·rename_i o10
    obtain⟨a,b,rfl⟩:=h3 o10
    have:=Py fa sc [a,b] d w (by simpa using h1) rfl
    exact⟨by rw[this.1];omega,this.2⟩
   ·rename_i o10
    have:=BR fa sc ks d w h1
    simp only[Lw.mk'_len]
    exact⟨by rw[this.1];omega,by show w.regs<=(bj fa sc ks w).2.regs+1;omega⟩
theorem Py(fa sc:List UInt8->Int):∀(l:List Ex) (d:Nat) (w:Lw),(∀a∈l,bP d a=true)->l.length=2->(lwA fa sc l w).2.bs.length=w.bs.length+2+2*sk l/\w.regs<=(lwA fa sc l w).2.regs
 |[],d,w,_,h=>by cases h
 |[a],d,w,_,h=>by cases h
 |a::b::c::r,d,w,_,h=>by simp at h
 |[a,b],d,w,h,_=>by
  obtain⟨e1,r1⟩:=zP fa sc a d w (h a (by simp))
  rw[lwA]
  simp only
  obtain⟨e2,r2⟩:=zP fa sc b d ((((lwE fa sc a w).2.mk' 1 0 []).name 2).fin 2 (lwE fa sc a w).1 ((lwE fa sc a w).2.mk' 1 0 []).bs.length [(((lwE fa sc a w).2.mk' 1 0 []).bs.length:Int),(((lwE fa sc a w).2.mk' 1 0 []).bs.length:Int)+1]) (h b (by simp))
  generalize lwE fa sc b _=y at*
  refine⟨?_,?_⟩
  ·simp only[Lw.fin_len,Lw.put_len,Lw.mk'_len,Lw.name_len] at e2⊢
   simp only[sk]
   omega
  ·have h3:((((lwE fa sc a w).2.mk' 1 0 []).name 2).fin 2 (lwE fa sc a w).1 ((lwE fa sc a w).2.mk' 1 0 []).bs.length [(((lwE fa sc a w).2.mk' 1 0 []).bs.length:Int),(((lwE fa sc a w).2.mk' 1 0 []).bs.length:Int)+1]).regs=(lwE fa sc a w).2.regs+1:=rfl
   rw[h3] at r2
   show w.regs<=y.2.regs+1
   omega
theorem BR(fa sc:List UInt8->Int):∀(l:List Ex) (d:Nat) (w:Lw),(∀a∈l,bP d a=true)->(bj fa sc l w).2.bs.length=w.bs.length+2*sk l/\w.regs<=(bj fa sc l w).2.regs
 |[],d,w,_=>by rw[bj];exact⟨rfl,WK _⟩
 |e::r,d,w,h=>by
  obtain⟨e1,r1⟩:=zP fa sc e d w (h e (by simp))
  obtain⟨e2,r2⟩:=BR fa sc r d (lwE fa sc e w).2 (λa ha=>h a (by simp[ha]))
  rw[bj]
  simp only[sk]
  exact⟨by omega,by omega⟩
end
theorem GN{d:Nat}{s:Sm}(h:aJ (d+1) s=true):(∀a∈s.args,bP 6 a=true)/\(∀x∈s.body,aJ d x=true)/\(∀x∈s.els,aJ d x=true)/\(s.op=6->∃a,s.args=[a])/\(¬s.op=5->s.els=[])/\(¬s.op=5->¬s.op=6->s.body=[]):=by
 rw[aJ,WM,WM] at h
 obtain⟨⟨hh,hb⟩,he⟩:=h
 simp only[fV,WM,WI,Bool.or_eq_true,decide_eq_true_eq,List.isEmpty_iff] at hh
 refine⟨λa ha=>?_,λx hx=>WI.1 hb x hx,λx hx=>WI.1 he x hx,λh6=>?_,λh5=>?_,λh5 h6=>?_⟩
 ·have:=hh.1.1.1.2 a ha
  rw[lT,WM] at this
  exact this.1
 ·have h1:=hh.1.1.1.1.1.1.2
  rw[jS,if_neg (by omega)] at h1
  exact List.length_eq_one_iff.1 h1
 ·rcases hh.1.2 with h|h
  ·exact h
  ·exact(h5 h).elim
 ·rcases hh.2 with(h|h)|h
  ·exact h
  ·exact(h5 h).elim
  ·exact(h6 h).elim
mutual
theorem Qs(fa:List UInt8->Int)(q:Int):∀(s:Sm) (d:Nat) (m:Scp) (up:List Scp) (nx:Nat) (w:Lw),aJ d s=true->(lwS fa q s m up nx w).2.2.bs.length=w.bs.length+Rz s/\w.regs<=(lwS fa q s m up nx w).2.2.regs
 | .mk o n a bd el,0,m,up,nx,w,h=>by cases h
 | .mk o n a bd el,d+1,m,up,nx,w,h=>by
   obtain⟨h1,h2,h3,h4,h5,h6⟩:=GN h
   simp only[Sm.op,Sm.args,Sm.body,Sm.els] at h1 h2 h3 h4 h5 h6
   rw[lwS,Rz]
   simp only
   by_cases o6:o=6
   ·obtain⟨a0,rfl⟩:=h4 o6
    have hel:=h5 (by omega)
    subst hel
    rw[if_pos o6,if_pos (.inr o6)]
    simp only[List.headD_cons]
    obtain⟨e1,r1⟩:=zP fa (scF q (m::up)) a0 6 ((w.name 3).fin 1 0 w.bs.length [(w.bs.length:Int)]) (h1 a0 (by simp))
    generalize lwE fa (scF q (m::up)) a0 _=x at*
    obtain⟨e2,r2⟩:=re fa q bd d [] (m::up) nx (x.2.fin 2 x.1 (w.bs.length+1) [(w.bs.length:Int)+1,(w.bs.length:Int)+2]) h2
    generalize aW fa q bd [] (m::up) nx _=y at*
    simp only[Lw.fin_len,Lw.name_len] at e1 e2⊢
    simp only[sk,zd]
    refine⟨by omega,?_⟩
    have r1':w.regs<=x.2.regs:=r1
    have r2':x.2.regs<=y.2.2.regs:=r2
    show w.regs<=y.2.2.regs
    omega
   ·rw[if_neg o6]
    obtain⟨e1,r1⟩:=BR fa (scF q (m::up)) a 6 w h1
    generalize bj fa (scF q (m::up)) a w=x at*
    by_cases o5:o=5
    ·rw[if_neg (by omega),if_neg (by omega),if_neg (by omega),if_neg (by omega),if_pos o5,if_pos (.inl o5)]
     obtain⟨e2,r2⟩:=re fa q bd d [] (m::up) nx ((x.2.name 3).fin 2 (x.1.headD 0) x.2.bs.length [(x.2.bs.length:Int),(x.2.bs.length:Int)+1]) h2
     simp only
     generalize aW fa q bd [] (m::up) nx _=y at*
     obtain⟨e3,r3⟩:=re fa q el d [] (m::up) y.2.1 (y.2.2.fin 1 0 (x.2.bs.length+1) [(x.2.bs.length:Int)+2]) h3
     generalize aW fa q el [] (m::up) y.2.1 _=z at*
     simp only[Lw.fin_len,Lw.name_len] at e1 e2 e3⊢
     refine⟨by omega,?_⟩
     have r2':x.2.regs<=y.2.2.regs:=r2
     have r3':y.2.2.regs<=z.2.2.regs:=r3
     show w.regs<=z.2.2.regs
     omega
    ·have hel:=h5 o5
     have hbd:=h6 o5 o6
     subst hel;subst hbd
     rw[if_neg (c:=o=5\/o=6) (by omega)]
     simp only[zd]
     by_cases o7:o=7
     ·rw[if_neg (by omega),if_neg (by omega),if_neg (by omega),if_neg (by omega),if_neg o5,if_pos o7,if_pos o7]
      simp only[Lw.fin_len,Lw.name_len]
      exact⟨by omega,r1⟩
     ·rw[if_neg o7]
      simp only[Nat.add_zero,if_neg o5,if_neg o7]
      split
      ·exact⟨by simp only[Lw.put_len];omega,r1⟩
      split
      ·exact⟨by simp only[Lw.put_len];omega,r1⟩
      split
      ·exact⟨by simp only[Lw.put_len];omega,r1⟩
      split
      ·exact⟨by simp only[Lw.put_len];omega,r1⟩
      ·exact⟨e1,r1⟩
theorem re(fa:List UInt8->Int)(q:Int):∀(l:List Sm) (d:Nat) (m:Scp) (up:List Scp) (nx:Nat) (w:Lw),(∀s∈l,aJ d s=true)->(aW fa q l m up nx w).2.2.bs.length=w.bs.length+zd l/\w.regs<=(aW fa q l m up nx w).2.2.regs
 |[],d,m,up,nx,w,_=>by rw[aW];exact⟨rfl,WK _⟩
 |s::r,d,m,up,nx,w,h=>by
  obtain⟨e1,r1⟩:=Qs fa q s d m up nx w (h s (by simp))
  obtain⟨e2,r2⟩:=re fa q r d (lwS fa q s m up nx w).1 up (lwS fa q s m up nx w).2.1 (lwS fa q s m up nx w).2.2 (λx hx=>h x (by simp[hx]))
  rw[aW]
  simp only[zd]
  exact⟨by omega,by omega⟩
end
theorem PH(l:List Fd)(q:Int)(f:Fd)(hf:∀s∈f.body,aJ 4 s=true):(lwF l q f).blocks.length=1+zd f.body/\((f.params.length+aS f.body:Nat):Int)<(lwF l q f).regs/\(lwF l q f).params=f.params.length:=by
 obtain⟨e1,r1⟩:=re (faI l) q f.body 4 (psS f.params [] 0) [] f.params.length ⟨f.params.length+aS f.body,[bk0],0⟩ hf
 rw[lwF]
 simp only
 generalize aW (faI l) q f.body (psS f.params [] 0) [] f.params.length _=y at*
 simp only[Lw.fin_len,Lw.mk'_len]
 have r1':f.params.length+aS f.body<=y.2.2.regs:=r1
 refine⟨by rw[e1];rfl,?_,trivial⟩
 show((f.params.length+aS f.body:Nat):Int)<((y.2.2.regs+1:Nat):Int)
 omega
end
section
theorem vM(fns:List Fd):∀(l:List Fd) (k:Nat),jd fns k l=0↔∀(i:Nat) (f:Fd),l[i]?=some f->(fnW fns (k+i) f).code=0
 |[],k=>by simp[jd]
 |f::r,k=>by
  rw[jd]
  have ih:=vM fns r (k+1)
  constructor
  ·intro h i g hg
   by_cases h0:(fnW fns k f).code=0
   ·rw[if_pos h0] at h
    cases i with
    |zero=>cases hg;exact h0
    |succ i=>have:=ih.1 h i g (by simpa using hg);rwa[show k+(i+1)=k+1+i by omega]
   ·rw[if_neg h0] at h;exact absurd h h0
  ·intro h
   rw[if_pos (by have:=h 0 f rfl;rwa[Nat.add_zero] at this)]
   exact ih.2 λi g hg=>by have:=h (i+1) g (by simpa using hg);rwa[show k+(i+1)=k+1+i by omega] at this
theorem QE(l:List Fd):bZ l=0↔bp l=true/\∀(k:Nat) (f:Fd),l[k]?=some f->(fnW l k f).code=0:=by
 unfold bZ
 by_cases h:bp l=true
 ·rw[if_pos h,vM];simp[h]
 ·rw[if_neg h];simp[h]
theorem gJ(l:List Fd):bp l=true↔(1<=l.length/\l.length<=4)/\(∀f∈l,jX f=true)/\lU l<=40:=by
 simp only[bp,inR,WM,decide_eq_true_eq,WI]
 constructor
 ·rintro⟨⟨⟨h1,h2⟩,h3⟩,h4⟩;exact⟨⟨by omega,by omega⟩,h3,h4⟩
 ·rintro⟨⟨h1,h2⟩,h3,h4⟩;exact⟨⟨⟨by omega,by omega⟩,h3⟩,h4⟩
def Fd.cut(f:Fd)(n:Nat):Fd:=⟨f.name,f.params,f.body.take n⟩
end
section
theorem nV{s:List UInt8}(h:aP s=true):s.length<=4:=by
 simp only[aP,WM,decide_eq_true_eq] at h
 exact h.1.2
theorem Hj{e:Ex}(h:lO e=true):e.name.length<=4:=by
 simp only[lO,WM] at h
 have h1:=h.1.1.1.2
 have h2:=h.1.1.2
 cases hn:GB e.op with
 |true=>
  rw[hn] at h1
  exact nV (by simpa using h1)
 |false=>
  rw[hn] at h2
  have:e.name=[]:=by simpa using h2
  rw[this];simp
theorem Iy{l:List Ex}(h:∀e∈l,e.sz<=5*e.parts):aM l<=5*gL l:=by
 induction l with
 |nil=>simp[aM]
 |cons e r ih=>
  have h1:=h e (by simp)
  have h2:=ih λx hx=>h x (by simp[hx])
  simp only[aM,gL]
  omega
theorem MD:∀(d:Nat) (e:Ex),bP d e=true->e.sz<=5*e.parts:=by
 intro d
 induction d with
 |zero=>intro e h;cases h
 |succ d ih=>
  intro e h
  have hk:=(Ad h).1
  rw[bP,WM] at h
  have hn:=Hj h.1
  have hz:=Iy (l:=e.kids) λa ha=>ih a (hk a ha)
  rw[e.sz_eq,e.parts_eq]
  omega
theorem Pp{e:Ex}(h:lT e=true):e.sz<=150:=by
 simp only[lT,WM,decide_eq_true_eq] at h
 have:=MD 6 e h.1
 omega
theorem BF:∀{l:List Ex},(∀e∈l,e.sz<=150)->aM l<=150*l.length
 |[],_=>by simp[aM]
 |e::r,h=>by
  have h1:=h e (by simp)
  have h2:=BF (l:=r) λx hx=>h x (by simp[hx])
  simp only[aM,WP]
  omega
theorem Mi{s:Sm}(h:fV s=true):s.name.length<=4/\aM s.args<=300:=by
 simp only[fV,WM] at h
 have ha:=h.1.1.1.2
 have hl:=h.1.1.1.1.1.1.2
 have h1:=h.1.1.1.1.1.2
 have h2:=h.1.1.1.1.2
 refine⟨?_,?_⟩
 ·cases hn:cL s.op with
  |true=>
   rw[hn] at h1
   exact nV (by simpa using h1)
  |false=>
   rw[hn] at h2
   have:s.name=[]:=by simpa using h2
   rw[this];simp
 ·have:=BF (l:=s.args) λe he=>Pp (WI.1 ha e he)
  have hl2:s.args.length<=2:=by
   simp only[decide_eq_true_eq] at hl
   rw[hl,jS];split<;>omega
  omega
theorem Ax{l:List Sm}(h:∀s∈l,s.sz<=305*s.cnt):aC l<=305*dG l:=by
 induction l with
 |nil=>simp[aC]
 |cons e r ih=>
  have h1:=h e (by simp)
  have h2:=ih λx hx=>h x (by simp[hx])
  simp only[aC,dG]
  omega
theorem LI:∀(d:Nat) (s:Sm),aJ d s=true->s.sz<=305*s.cnt:=by
 intro d
 induction d with
 |zero=>intro e h;cases h
 |succ d ih=>
  intro s h
  obtain⟨_,hb,he,_⟩:=GN h
  rw[aJ,WM,WM] at h
  obtain⟨hn,ha⟩:=Mi h.1.1
  have h1:=Ax (l:=s.body) λx hx=>ih x (hb x hx)
  have h2:=Ax (l:=s.els) λx hx=>ih x (he x hx)
  rw[s.sz_eq,s.cnt_eq]
  omega
theorem JD:∀{l:List (List UInt8)},(∀w∈l,w.length<=4)->(l.map List.length).sum<=4*l.length
 |[],_=>by simp
 |w::r,h=>by
  have h1:=h w (by simp)
  have h2:=JD (l:=r) λx hx=>h x (by simp[hx])
  simp only[WY,List.sum_cons,WP]
  omega
theorem Pr{f:Fd}(h:jX f=true):f.sz<=20+305*dG f.body:=by
 simp only[jX,WM,decide_eq_true_eq,WI] at h
 obtain⟨⟨⟨hp,hn⟩,h3⟩,hb⟩:=h
 have h1:=nV hn
 have h2:=JD (l:=f.params) λw hw=>nV (hp w hw)
 have h4:=Ax (l:=f.body) λx hx=>LI 4 x (hb x hx)
 rw[Fd.sz]
 omega
theorem Bn:∀{l:List Fd},(∀f∈l,jX f=true)->aZ l<=20*l.length+305*lU l
 |[],_=>by simp[aZ]
 |f::r,h=>by
  have h1:=Pr (h f (by simp))
  have h2:=Bn (l:=r) λx hx=>h x (by simp[hx])
  simp only[aZ,lU,WY,List.sum_cons,WP] at h2⊢
  omega
theorem iu{l:List Fd}(h:bp l=true):aZ l<=12280:=by
 rw[gJ] at h
 obtain⟨⟨_,h4⟩,hf,hn⟩:=h
 have:=Bn hf
 omega
theorem pT{l:List Fd}(h:bp l=true):∀f∈l,∀x∈f.body,aJ 4 x=true:=λf hf x hx=>by
 rw[gJ] at h
 have h1:=h.2.1 f hf
 simp only[jX,WM,WI] at h1
 exact h1.2 x hx
theorem Ck{l:List Fd}(h:bZ l=0):bp l=true:=((QE l).1 h).1
def Lw.Ar(A:Nat)(w:Lw):Prop:=∀b∈w.bs,b.phis=[]/\b.next.length<=2/\∀x∈b.ins,x.args.length<=A
theorem EU{f:Bk->Bk}{l:List Bk}{i:Nat}{b:Bk}(h:b∈modB f l i):b∈l\/∃c∈l,b=f c:=by
 unfold modB at h
 split at h
 ·rename_i c hc
  rcases Xl h with h|h
  ·exact .inl h
  ·exact .inr ⟨c,WJ hc,h⟩
 ·exact .inl h
theorem Lw.Ar.put{A:Nat}{w:Lw}(H:w.Ar A){x:Ii}(hx:x.args.length<=A):(w.put x).Ar A:=λb hb=>by
 rcases EU hb with h|⟨c,hc,rfl⟩
 ·exact H b h
 ·obtain⟨h1,h2,h3⟩:=H c hc
  refine⟨h1,h2,λy hy=>?_⟩
  rcases WE.1 hy with h|h
  ·exact h3 y h
  ·rw[WG.1 h];exact hx
theorem Lw.Ar.mk'{A:Nat}{w:Lw}(H:w.Ar A){op n:Int}{args:List Int}(hx:args.length<=A):(w.mk' op n args).Ar A:=Lw.Ar.put (w:=w.reg) H hx
theorem Lw.Ar.name{A:Nat}{w:Lw}(H:w.Ar A)(n:Nat):(w.name n).Ar A:=λb hb=>by
 rcases WE.1 hb with h|h
 ·exact H b h
 ·rw[(List.mem_replicate.1 h).2];simp[bk0]
theorem Lw.Ar.fin{A:Nat}{w:Lw}(H:w.Ar A){j o:Int}{g:Nat}{nx:List Int}(hx:nx.length<=2):(w.fin j o g nx).Ar A:=λb hb=>by
 rcases EU hb with h|⟨c,hc,rfl⟩
 ·exact H b h
 ·obtain⟨h1,h2,h3⟩:=H c hc
  exact⟨h1,hx,h3⟩
mutual
theorem EE(fa sc:List UInt8->Int){A:Nat}(hA:1<=A):∀(e:Ex) (w:Lw),w.Ar A->e.sz<=A->(lwE fa sc e w).2.Ar A
 | .mk o n s ks,w,H,hz=>by
   simp only[Ex.sz] at hz
   have hkl:=bL ks
   rw[lwE]
   split
   ·exact H.mk' (by simp)
   split
   ·exact H
   split
   ·exact Rf fa sc hA ks w H (by omega)
   ·refine(EG fa sc hA ks w H (by omega)).mk' ?_
    rw[gd];omega
theorem Rf(fa sc:List UInt8->Int){A:Nat}(hA:1<=A):∀(l:List Ex) (w:Lw),w.Ar A->aM l<=A->(lwA fa sc l w).2.Ar A
 |[],w,H,_=>by rw[lwA];exact H;intro a b h;cases h
 |[a],w,H,_=>by rw[lwA];exact H;intro a b h;cases h
 |a::b::c::r,w,H,_=>by rw[lwA];exact H;intro a b h;cases h
 |[a,b],w,H,hz=>by
  simp only[aM] at hz
  have h1:=EE fa sc hA a w H (by omega)
  rw[lwA]
  simp only
  have h2:=((h1.mk' (op:=1) (n:=0) (args:=[]) (by simp)).name 2).fin (j:=2) (o:=(lwE fa sc a w).1) (g:=((lwE fa sc a w).2.mk' 1 0 []).bs.length) (nx:=[(((lwE fa sc a w).2.mk' 1 0 []).bs.length:Int),(((lwE fa sc a w).2.mk' 1 0 []).bs.length:Int)+1]) (by simp)
  exact(((EE fa sc hA b _ h2 (by omega)).mk' (by simpa using hA)).put (by simpa using hA)).fin (by simp)
theorem EG(fa sc:List UInt8->Int){A:Nat}(hA:1<=A):∀(l:List Ex) (w:Lw),w.Ar A->aM l<=A->(bj fa sc l w).2.Ar A
 |[],w,H,_=>by rw[bj];exact H
 |e::r,w,H,hz=>by
  simp only[aM] at hz
  rw[bj]
  exact EG fa sc hA r _ (EE fa sc hA e w H (by omega)) (by omega)
end
mutual
theorem Re(fa:List UInt8->Int)(q:Int){A:Nat}(hA:1<=A):∀(s:Sm) (m:Scp) (up:List Scp) (nx:Nat) (w:Lw),w.Ar A->s.sz<=A->(lwS fa q s m up nx w).2.2.Ar A
 | .mk o n a bd el,m,up,nx,w,H,hz=>by
   simp only[Sm.sz] at hz
   have hhd:=Ga a
   have hal:=bL a
   rw[lwS]
   simp only
   split
   ·have h1:=EE fa (scF q (m::up)) hA (a.headD (.mk 0 0 [] [])) _ ((H.name 3).fin (j:=1) (o:=0) (g:=w.bs.length) (nx:=[(w.bs.length:Int)]) (by simp)) (by omega)
    exact(ux fa q hA bd [] (m::up) nx _ (h1.fin (by simp)) (by omega)).fin (by simp)
   ·have h1:=EG fa (scF q (m::up)) hA a w H (by omega)
    have hl:(bj fa (scF q (m::up)) a w).1.length<=A:=by rw[gd];omega
    split
    ·exact h1.put hl
    split
    ·exact h1.put hl
    split
    ·exact h1.put hl
    split
    ·exact h1.put hl
    split
    ·exact(ux fa q hA el [] (m::up) _ _ ((ux fa q hA bd [] (m::up) nx _ ((h1.name 3).fin (by simp)) (by omega)).fin (by simp)) (by omega)).fin (by simp)
    split
    ·exact(h1.name 1).fin (by simp)
    ·exact h1
theorem ux(fa:List UInt8->Int)(q:Int){A:Nat}(hA:1<=A):∀(l:List Sm) (m:Scp) (up:List Scp) (nx:Nat) (w:Lw),w.Ar A->aC l<=A->(aW fa q l m up nx w).2.2.Ar A
 |[],m,up,nx,w,H,_=>by rw[aW];exact H
 |s::r,m,up,nx,w,H,hz=>by
  simp only[aC] at hz
  rw[aW]
  exact ux fa q hA r _ up _ _ (Re fa q hA s m up nx w H (by omega)) (by omega)
end
theorem Qt(l:List Fd)(q:Int)(f:Fd)(hz:f.sz<=16777216):JZ 1073741824 (lwF l q f)/\0<=(lwF l q f).regs/\(lwF l q f).regs<=1073741824/\0<(lwF l q f).blocks.length:=by
 have hfz:f.sz=1+f.name.length+(f.params.length+(f.params.map List.length).sum)+aC f.body:=rfl
 have hlet:=Xs (fZ f.body) (gg f.body)
 have hok:(⟨f.params.length+aS f.body,[bk0],0⟩:Lw).Ok (f.sz+1):=⟨by show f.params.length+aS f.body<=_;omega,by show 1<=_;omega,λb hb=>by rw[WG.1 hb];show 0<=_;omega,by show 0<1;omega⟩
 have har:(⟨f.params.length+aS f.body,[bk0],0⟩:Lw).Ar 16777217:=λb hb=>by rw[WG.1 hb];simp[bk0]
 obtain⟨h1,h2,_,_⟩:=dx (faI l) q f.body (psS f.params [] 0) [] f.params.length _ _ hok
 have h3:=ux (faI l) q (A:=16777217) (by omega) f.body (psS f.params [] 0) [] f.params.length _ har (by omega)
 rw[lwF]
 simp only
 generalize aW (faI l) q f.body (psS f.params [] 0) [] f.params.length _=y at*
 have k1:=(h1.mk' 1 0 []).fin 3 y.2.2.regs (g:=0) (by
  have:=h1.pos
  rw[Lw.mk'_len];omega) []
 have k3:=(h3.mk' (op:=1) (n:=0) (args:=[]) (by simp)).fin (j:=3) (o:=y.2.2.regs) (g:=0) (nx:=[]) (by simp)
 refine⟨⟨by have:=k1.bs;show((y.2.2.mk' 1 0 []).fin 3 y.2.2.regs 0 []).bs.length<=_;omega,λb hb=>?_⟩,by show(0:Int)<=((y.2.2.mk' 1 0 []).regs:Int);omega,by have:=k1.regs;show((y.2.2.mk' 1 0 []).regs:Int)<=_;have h:((y.2.2.mk' 1 0 []).fin 3 y.2.2.regs 0 []).regs=(y.2.2.mk' 1 0 []).regs:=rfl;omega,by have:=k1.pos;show 0<((y.2.2.mk' 1 0 []).fin 3 y.2.2.regs 0 []).bs.length;omega⟩
 obtain⟨a1,a2,a3⟩:=k3 b hb
 have a4:=k1.ins b hb
 exact⟨by rw[a1];simp,by omega,by omega,by rw[a1];simp,λx hx=>by have:=a3 x hx;omega⟩
theorem vv:∀{l:List Fd} {f:Fd},f∈l->f.sz<=aZ l
 |x::r,f,h=>by
  simp only[aZ,WY,List.sum_cons]
  rcases WC.1 h with rfl|h
  ·omega
  ·have:=vv h
   simp only[aZ] at this
   omega
theorem Qc(l:List Fd)(q:Int)(hz:aZ l<=16777216)(hl:l.length<=1073741824):KD 1073741824 (l.map (lwF l q)):=
 ⟨by rw[Xc];exact hl,λc hc=>by
   obtain⟨f,hf,rfl⟩:=Xb.1 hc
   have:=vv hf
   exact(Qt l q f (by omega)).1⟩
end
section
abbrev Vs:=List (List UInt8 × Nat)
def sM(p:List UInt8 × Nat):List AV:=[.p (.str p.1),.p (.int .i64 p.2),.p (.int .i64 0)]
def rgV(vs:Vs)(s:List UInt8):Int:=vs.foldl (λr p=>if p.1=s then(p.2:Int) else r) (-1)
theorem Bb(vs:Vs)(p:List UInt8 × Nat)(s:List UInt8):rgV (vs++[p]) s=if p.1=s then(p.2:Int) else rgV vs s:=by
 simp[rgV,XG]
def vi:AV->List Nat
 | .sl id _ _ _=>[id]
 |_=>[]
inductive VAt (X:List AO):AV->Vs->Prop where
 |nil:VAt X .nils []
 |sl (vid:Nat) (rows:List (List AV)) (vs:Vs):X[vid]?=some (.row 3 rows)->rows.take vs.length=vs.map sM->VAt X (.sl vid 3 0 vs.length) vs
section
variable {X X2:List AO} {V:AV} {vs:Vs}
theorem VAt.frame(H:VAt X V vs)(e:∀i∈vi V,X2[i]?=X[i]?):VAt X2 V vs:=by
 cases H with
 |nil=>exact .nil
 |sl vid rows _ h1 h2=>exact .sl vid rows vs (by rw[e vid (by simp[vi])];exact h1) h2
theorem VAt.lt(H:VAt X V vs):∀i∈vi V,i<X.length:=by
 cases H with
 |nil=>intro i hi;cases hi
 |sl vid rows _ h1 h2=>intro i hi;rw[WG.1 hi];exact(Wy.1 h1).1
theorem VAt.more(H:VAt X V vs)(os:List AO):VAt (X++os) V vs:=H.frame λi hi=>Wx (H.lt i hi)
theorem VAt.is(H:VAt X V vs):V.cells=[V]/\V.isCell=true/\below X.length V:=by
 cases H with
 |nil=>exact⟨rfl,rfl,trivial⟩
 |sl vid rows _ h1 h2=>exact⟨rfl,rfl,(Wy.1 h1).1⟩
theorem VAt.at(H:VAt X V vs){i:Nat}(hi:i<vs.length):∃vid rows,V= .sl vid 3 0 vs.length/\X[vid]?=some (.row 3 rows)/\rows[i]?=some (sM vs[i]):=by
 cases H with
 |nil=>cases hi
 |sl vid rows _ h1 h2=>
  refine⟨vid,rows,rfl,h1,?_⟩
  have h3:(rows.take vs.length)[i]?=some (sM vs[i]):=by rw[h2,WR,Wz hi];rfl
  rwa[List.getElem?_take_of_lt hi] at h3
end
variable (G:aK)
theorem nL{l:List Fd}{pr:Int}{V:AV}{nx L:Nat}{w:Lw}{h:List AO}{K:AV}{I:List Nat}(H:LS (lwR l pr V nx) L w h K I)(hw:w.regs<=1073741824):
 AC Tryz.prog G bY [.ptr L 8 0 0] h λx h'=>x= .ret (.p (.int .i64 w.regs))/\LR (lwR l pr V nx) L w.reg I h h':=
 (NU G H hw).mono λx h' ⟨a,b⟩=>⟨a,K,I,b▸H.swap rfl,b▸⟨by simp,λi _ hn=>WB λe=>hn (by simp[e])⟩,λj hj=> .inl hj⟩
theorem NI{l:List Fd}{pr:Int}{V:AV}{nx L:Nat}{w:Lw}{h:List AO}{K:AV}{vs:Vs}(hg:h[L]?=some (lwR l pr V nx w K))(hv:VAt h V vs)(hl:vs.length<=1073741824)(s:List UInt8):
 AC Tryz.prog G fk [.ptr L 8 0 0,.p (.str s)] h λx h'=>x= .ret (.p (.int .i64 (rgV vs s)))/\h'=h:=by
 obtain⟨v1,v2,v3⟩:=hv.is
 have hLl:=(Wy.1 hg).1
 simp only[lwR] at hg
 have hlen:V= .nils/\vs.length=0\/∃vid,V= .sl vid 3 0 vs.length:=by
  cases hv with
  |nil=>exact .inl ⟨rfl,rfl⟩
  |sl vid rows _ _ _=>exact .inr ⟨vid,rfl⟩
 refine AC.go vA ?_
 rcases hlen with⟨rfl,h0⟩|⟨vid,rfl⟩
 ·have h0:=List.length_eq_zero_iff.1 h0
  subst h0
  simp-implicitDefEqProofs[jf,hg]
  refine aN (λ_:Unit=>az 34 [(5,.p (.int .i64 (-1))),(0,.ptr L 8 0 0),(1,.p (.str s))]) (λ_=>h) (λ_=>True) (λ_=>0) () trivial ?_ ?_
  ·exact am (WK _) (by simp[below,hLl,show IntKind.i64.wrap (-1)= -1 from ab (by omega) (by omega)])
  rintro⟨⟩ _
  simp-implicitDefEqProofs[rgV]
 ·have hwl:IntKind.i64.wrap ((vs.length:Int)-1)=(vs.length:Int)-1:=ab (by omega) (by omega)
  simp-implicitDefEqProofs[jf,hg,hwl]
  refine aN (λk:Nat=>az 34 [(5,.p (.int .i64 ((k:Int)-1))),(0,.ptr L 8 0 0),(1,.p (.str s))]) (λ_=>h) (λk=>k<=vs.length/\rgV vs s=rgV (vs.take k) s) (λk=>k) vs.length ⟨WK _,by rw[WZ]⟩ ?_ ?_
  ·exact am (WK _) (by simp[below,hLl])
  rintro k ⟨hk,he⟩
  cases k with
  |zero=>
   rw[List.take_zero] at he
   rw[he]
   simp-implicitDefEqProofs[rgV]
  |succ j=>
   have hj:j<vs.length:=hk
   obtain⟨vid2,rows,e1,e2,e3⟩:=hv.at hj
   cases e1
   rw[aq hj,Bb] at he
   have ej:((j+1:Nat):Int)-1=j:=by omega
   generalize vs[j]=p at*
   obtain⟨q,n⟩:=p
   simp only[sM] at e3 he
   simp-implicitDefEqProofs[ej,hg,e2,e3,hj]
   refine aO (λc=>?_) (λc=>?_)
   ·have c:q=s:=by simpa using c
    rw[he,if_pos c]
    simp-implicitDefEqProofs[hg,e2,e3,hj]
   ·have c:¬q=s:=by simpa using c
    rw[if_neg c] at he
    have hw2:IntKind.i64.wrap ((j:Int)-1)=(j:Int)-1:=ab (by omega) (by omega)
    simp-implicitDefEqProofs[hw2]
    exact⟨j,⟨by omega,he⟩,by omega,am (WK _) (by simp[below,hLl])⟩
end
end Go.Proofs.YtghpabfdmbdpfaaGreatDoor
