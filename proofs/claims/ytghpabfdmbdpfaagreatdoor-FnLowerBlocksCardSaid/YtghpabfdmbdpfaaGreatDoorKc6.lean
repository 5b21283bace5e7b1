/-
  Contracts and lemmas that the card needs, part 6.
-/
import Derived.Test.YtghpabfdmbdpfaaGreatDoorKc5
namespace Go.Proofs.YtghpabfdmbdpfaaGreatDoor
open Go Go.Aw
set_option maxRecDepth 100000
set_option maxHeartbeats 4000000
section
def ixI:Option Nat->Int|none=> -1|some i=>i
def vaC(nf:Bool)(id n:Nat):AV:=if nf then .nils else .sl id 3 0 n
def lvC(v:LV):List AV:=[.p (.str v.name),.p (.int .i64 v.num),.p (.int .i64 v.block)]
def lvR(vs:List LV):List (List AV):=vs.reverse.map lvC
def roC(nf:Bool)(vs:List LV):AO:=if nf then .dead else .row 3 (lvR vs)
def wC(id:Nat)(nf:Bool)(fns:List Fd)(k:Nat)(w:WS):List AV:=[.p (fdL fns),.p (.int .i64 k),vaC nf id w.vs.length,.p (.int .i64 w.count),.p (.int .i64 w.code)]
def wO(id:Nat)(nf:Bool)(fns:List Fd)(k:Nat)(w:WS):AO:= .row 5 [wC id nf fns k w]
def HWk(nf:Bool)(fns:List Fd)(k:Nat)(w:WS):List AO:=[wO 1 nf fns k w,roC nf w.vs]
theorem Ao(vs:List LV):(lvR vs).length=vs.length:=by simp[lvR]
theorem Hf(vs:List LV):∀x∈lvR vs,az 0 x:=by
 intro x hx;obtain⟨m,_,rfl⟩:=Xl.1 hx;simp[lvC,az,below]
theorem gM(nf:Bool)(vs:List LV)(n:Nat):okO n (roC nf vs):=by
 cases nf
 ·exact cJ (λe he=>Hf vs e he)
 ·exact trivial
theorem LW{nf:Bool}{id n m:Nat}(h:id<m):below m (vaC nf id n):=by cases nf<;>simp[vaC,below,h]
theorem BT{id:Nat}{nf:Bool}{fns:List Fd}{k:Nat}{w:WS}{m:Nat}(h:id<m):az m (wC id nf fns k w):=⟨by simp,by simp,LW h,by simp,by simp,trivial⟩
theorem zp{id:Nat}{nf:Bool}{fns:List Fd}{k:Nat}{w:WS}{m:Nat}(h:id<m):okO m (wO id nf fns k w):=by
 intro e he;rw[WR.1 he];exact BT h
theorem PI(σ:List Nat)(nf:Bool)(id n:Nat):ren σ (vaC nf id n)=vaC nf (σ.getD id 0) n:=by cases nf<;>rfl
theorem EO(σ:List Nat)(id:Nat)(nf:Bool)(fns:List Fd)(k:Nat)(w:WS):br σ (wC id nf fns k w)=wC (σ.getD id 0) nf fns k w:=by
 simp only[wC,br,PI];rfl
theorem Ju(σ:List Nat)(id:Nat)(nf:Bool)(fns:List Fd)(k:Nat)(w:WS):gU σ (wO id nf fns k w)=wO (σ.getD id 0) nf fns k w:=by
 simp only[wO,gU,Xj,XG,EO]
theorem GP(σ:List Nat)(nf:Bool)(vs:List LV):gU σ (roC nf vs)=roC nf vs:=by
 cases nf
 ·show AO.row 3 ((lvR vs).map (br σ))= .row 3 (lvR vs)
  rw[Xn (g:=id) λx hx=>dN σ x (Hf vs x hx)];simp
 ·rfl
theorem HZ(pre:List LV)(v:LV)(r:List LV):(lvR (pre++v::r))[r.length]?=some (lvC v):=by
 simp[lvR]
theorem NM(v:LV)(r:List LV):lvR (v::r)=lvR r++[lvC v]:=by simp[lvR]
def yU:List LV->List UInt8->Int
 |[],_=> -1
 |v::r,s=>if v.name=s then r.length else yU r s
theorem zd:∀(vs:List LV) (s:List UInt8),(lkV vs s=none/\yU vs s= -1)\/∃pre v r,vs=pre++v::r/\lkV vs s=some v/\yU vs s=r.length
 |[],s=> .inl ⟨rfl,rfl⟩
 |v::r,s=>by
  by_cases h:v.name=s
  ·exact .inr ⟨[],v,r,rfl,by simp[lkV,h],by simp[yU,h]⟩
  ·have h1:lkV (v::r) s=lkV r s:=by simp[lkV,h]
   have h2:yU (v::r) s=yU r s:=by simp[yU,h]
   rw[h1,h2]
   rcases zd r s with h|⟨pre,u,q,e,h⟩
   ·exact .inl h
   ·exact .inr ⟨v::pre,u,q,by rw[e];rfl,h⟩
theorem uN:AK.whole iq=FK.ak iL:=rfl
variable (G:aL)
theorem Ij(l:List Fd)(s:List UInt8)(hl:l.length<=1099511627776):VF Tryz.prog G kb [.agg [.p (fdL l)],.p (.str s)] (.p (.int .i64 (ixI (dr l s)))):=by
 refine AC.go FV ?_
 have hfl:∀l,fdL l= .lst 3 (l.map Fd.cs):=λ_=>rfl
 simp-implicitDefEqProofs[zl,hfl]
 refine aM (λi:Nat=>aC 22 [(1,.p (.str s)),(2,.ptr 0 1 0 0),(5,.p (.int .i64 i))]) (λ_=>[.row 1 [[.p (.lst 3 (l.map Fd.cs))]]]) (λi=>i<=l.length/\∀f∈l.take i,f.name≠s) (λi=>l.length-i) 0 (by simp) (al (by simp) (by simp[okO]) (by simp[below])) ?_
 intro i ⟨hi,hn⟩
 simp-implicitDefEqProofs[]
 refine aO (λh=>?_) (λh=>?_)
 ·simp at h
  have hg:=WK h
  have hce:l[i].cs=[.str l[i].name,aN l[i].params,smL l[i].body]:=rfl
  by_cases he:l[i].name=s
  ·have hf:dr l s=some i:=by
    rw[dr,Xf]
    exact⟨h,by simpa using he,λj hj=>by have:=hn l[j] (List.mem_take_iff_getElem.2 ⟨j,by omega,rfl⟩);simpa using this⟩
   simp-implicitDefEqProofs[hg,hce,he,hf,ixI]
  ·simp-implicitDefEqProofs[hg,hce,he]
   refine⟨i+1,⟨h,λp hp=>?_⟩,by omega,al (by simp) (by simp[okO]) (by simp[below,w1 (i:=i) (by omega)])⟩
   rw[an h] at hp
   rcases WO.1 hp with hp|hp
   ·exact hn p hp
   ·rw[WR.1 hp];exact he
 ·simp at h
  rw[WQ h] at hn
  have hf:dr l s=none:=by
   rw[dr,Xt];intro x hx;simpa using hn x hx
  simp-implicitDefEqProofs[hf,ixI]
theorem Rv:∀m:Nat,m<26->((([97,98,99,100,101,102,103,104,105,106,107,108,109,110,111,112,113,114,115,116,117,118,119,120,121,122]:List UInt8).take (m+1)).drop m)=[UInt8.ofNat (97+m)]:=by decide
theorem Qn:∀m:Nat,m<26->List.drop m ((97:UInt8)::List.take m [98,99,100,101,102,103,104,105,106,107,108,109,110,111,112,113,114,115,116,117,118,119,120,121,122])=[97+UInt8.ofNat m]:=by decide
theorem Bj(n:Nat):VF Tryz.prog G jK [.p (.int .i64 n)] (.p (.str (vnm n))):=by
 refine AC.go Dp ?_
 have hm:n%26<26:=Nat.mod_lt _ (by omega)
 have ht:(n:Int).tmod 26=((n%26:Nat):Int):=rfl
 have hw:IntKind.i64.wrap (((n%26:Nat):Int)+1)=((n%26+1:Nat):Int):=w1 (by omega)
 have habc:=Rv _ hm
 rw[vnm]
 generalize n%26=m at hm ht hw habc
 have h0:(0:Int)<=(m:Int)+1:=by omega
 have h1:m+1<=26:=by omega
 simp-implicitDefEqProofs[sM,ht,hw,h0,h1]
 exact⟨by omega,Qn m hm⟩
theorem rL(nf:Bool)(fns:List Fd)(k:Nat)(w:WS)(c:Int):AC Tryz.prog G bL [.ptr 0 5 0 0,.p (.int .i64 c)] (HWk nf fns k w) λx h=>x= .ret (.tup [])/\h=HWk nf fns k ⟨w.vs,w.count,fl w.code c⟩:=by
 refine AC.go tQ ?_
 by_cases h0:w.code=0
 ·simp-implicitDefEqProofs[gL,HWk,wO,wC,h0,fl]
 ·simp-implicitDefEqProofs[gL,HWk,wO,wC,h0,fl]
theorem CD(nf:Bool)(fns:List Fd)(k:Nat)(w:WS):∀o∈HWk nf fns k w,okO 2 o:=by
 intro o ho
 simp only[HWk,WN,XC,or_false] at ho
 rcases ho with rfl|rfl
 ·exact zp (by omega)
 ·exact gM _ _ _
theorem JL(nf:Bool)(fns:List Fd)(k:Nat)(w:WS)(hn:nf=true->w.vs=[])(hl:w.vs.length<=1099511627776)(s:List UInt8):AC Tryz.prog G dY [.ptr 0 5 0 0,.p (.str s)] (HWk nf fns k w) λx h=>x= .ret (.p (.int .i64 (yU w.vs s)))/\h=HWk nf fns k w:=by
 refine AC.go tx ?_
 have hok:=CD nf fns k w
 cases nf with
 |true=>
  have hv:=hn rfl
  rw[HWk] at hok⊢
  simp-implicitDefEqProofs[gG,wO,wC,vaC,hv]
  refine aM (λ_:Unit=>aC 27 [(0,.ptr 0 5 0 0),(1,.p (.str s)),(5,.p (.int .i64 (-1)))]) (λ_=>[wO 1 true fns k w,roC true w.vs]) (λ_=>True) (λ_=>0) () trivial ?_ ?_
  ·have e:wO 1 true fns k w= .row 5 [[.p (fdL fns),.p (.int .i64 k),.nils,.p (.int .i64 w.count),.p (.int .i64 w.code)]]:=by simp[wO,wC,vaC]
   rw[←e,←hv]
   exact al (by simp) hok (by simp[below,ab (x:= -1) (by omega) (by omega)])
  ·intro _ _
   simp-implicitDefEqProofs[yU]
   simp[wO,wC,vaC,hv]
 |false=>
  rw[HWk] at hok⊢
  have e:∀r,roC false r= .row 3 (lvR r):=λ_=>rfl
  have hw0:IntKind.i64.wrap ((w.vs.length:Int)-1)=(w.vs.length:Int)-1:=ab (by omega) (by omega)
  simp-implicitDefEqProofs[gG,wO,wC,vaC,hw0]
  refine aM (λr:List LV=>aC 27 [(0,.ptr 0 5 0 0),(1,.p (.str s)),(5,.p (.int .i64 ((r.length:Int)-1)))]) (λ_=>[wO 1 false fns k w,roC false w.vs]) (λr=>∃pre,w.vs=pre++r/\yU w.vs s=yU r s) (λr=>r.length) w.vs ⟨[],rfl,rfl⟩ ?_ ?_
  ·exact al (h:=[wO 1 false fns k w,roC false w.vs]) (by simp) hok (by simp[below])
  ·rintro r ⟨pre,e1,e2⟩
   cases r with
   |nil=>
    simp-implicitDefEqProofs[wO,wC,vaC]
    rw[e2];rfl
   |cons v r=>
    have hat:=HZ pre v r
    rw[←e1] at hat
    have hlen:r.length<w.vs.length:=by rw[e1];simp;omega
    have hll:=Ao w.vs
    have c1:((r.length+1:Nat):Int)-1=(r.length:Int):=by omega
    have hw1:IntKind.i64.wrap ((r.length:Int)-1)=(r.length:Int)-1:=ab (by omega) (by omega)
    by_cases hs:v.name=s
    ·simp-implicitDefEqProofs[wO,wC,vaC,e,c1,hat,hlen,lvC,hs]
     rw[e2];simp[yU,hs]
    ·simp-implicitDefEqProofs[wO,wC,vaC,e,c1,hat,hlen,lvC,hs]
     refine⟨r,⟨⟨pre++[v],by rw[e1];simp⟩,by rw[e2];simp[yU,hs]⟩,by simp,?_⟩
     refine al (h:=[wO 1 false fns k w,roC false w.vs]) (by simp) hok ?_
     simp[below,hw1]
theorem Pa(nf:Bool)(fns:List Fd)(k:Nat)(w:WS)(hn:nf=true->w.vs=[])(hl:w.vs.length<=1099511627776)(s:List UInt8):AC Tryz.prog G eV [.ptr 0 5 0 0,.p (.str s)] (HWk nf fns k w) λx h=>x= .ret (.p (.str (Cf w.vs s)))/\h=HWk nf fns k ⟨w.vs,w.count,zL w.vs s w.code⟩:=by
 refine AC.go tT ?_
 simp-implicitDefEqProofs[my]
 refine(JL G nf fns k w hn hl s).mono ?_
 rintro r h ⟨rfl,rfl⟩
 rcases zd w.vs s with⟨e1,e2⟩|⟨pre,v,q,e0,e1,e2⟩
 ·simp-implicitDefEqProofs[aa,e2]
  refine(rL G nf fns k w 3).mono ?_
  rintro r h ⟨rfl,rfl⟩
  simp-implicitDefEqProofs[aa,Cf,zL,e1]
 ·have hat:=HZ pre v q
  rw[←e0] at hat
  have hlen:q.length<w.vs.length:=by rw[e0];simp;omega
  have hnf:nf=false:=by
   cases nf with
   |false=>rfl
   |true=>rw[hn rfl] at e0;simp at e0
  subst hnf
  have e:∀r,roC false r= .row 3 (lvR r):=λ_=>rfl
  have hq:¬(q.length:Int)<0:=by omega
  simp-implicitDefEqProofs[aa,e2,hq,HWk,wO,wC,vaC,e,hat,hlen,lvC]
  refine(Bj G v.num).use ?_
  simp-implicitDefEqProofs[Cf,zL,e1]
theorem OG(nf:Bool)(fns:List Fd)(k:Nat)(w:WS)(hn:nf=true->w.vs=[])(hl:w.vs.length<=1099511627776)(hc:w.count<=1099511627776)(s:List UInt8)(b:Nat):AC Tryz.prog G eN [.ptr 0 5 0 0,.p (.str s),.p (.int .i64 b)] (HWk nf fns k w) λx h=>x= .ret (.p (.str (vnm w.count)))/\h=[wO 2 false fns k (nM w s b),.dead,roC false (nM w s b).vs]:=by
 refine AC.goK ul uN ?_
 have hw1:IntKind.i64.wrap ((w.count:Int)+1)=(w.count:Int)+1:=ab (by omega) (by omega)
 have hw2:IntKind.i64.wrap ((w.count:Int)+1-1)=(w.count:Int):=by rw[ab (by omega) (by omega)];omega
 have hw3:IntKind.i64.wrap (w.count:Int)=(w.count:Int):=ab (by omega) (by omega)
 have hll:=Ao w.vs
 simp-implicitDefEqProofs[iq,iL]
 refine(JL G nf fns k w hn hl s).mono ?_
 rintro r h ⟨rfl,rfl⟩
 simp-implicitDefEqProofs[aa]
 refine oe (aC 57 [(0,.ptr 0 5 0 0),(1,.p (.str s)),(2,.p (.int .i64 b))]) (HWk nf fns k ⟨w.vs,w.count,Dl w.vs s b w.code⟩) ?_ ?_
 ·rcases zd w.vs s with⟨e1,e2⟩|⟨pre,v,q,e0,e1,e2⟩
  ·simp-implicitDefEqProofs[e2,Dl,e1]
   exact al (by simp[HWk]) (CD nf fns k w) (by simp[below,HWk])
  ·have hat:=HZ pre v q
   rw[←e0] at hat
   have hlen:q.length<w.vs.length:=by rw[e0];simp;omega
   have hnf:nf=false:=by
    cases nf with
    |false=>rfl
    |true=>rw[hn rfl] at e0;simp at e0
   subst hnf
   have e:∀r,roC false r= .row 3 (lvR r):=λ_=>rfl
   have hq:(0:Int)<=(q.length:Int):=by omega
   by_cases hb:v.block=b
   ·have:=rL G false fns k w 2
    simp only[HWk,wO,wC,vaC,e] at this
    simp-implicitDefEqProofs[e2,HWk,wO,wC,vaC,e,hat,hlen,lvC,hb]
    refine this.mono ?_
    rintro r h ⟨rfl,rfl⟩
    have hp:Dl w.vs s b w.code=fl w.code 2:=by simp[Dl,e1,hb]
    rw[hp]
    simp-implicitDefEqProofs[aa]
    refine al (h:=HWk false fns k ⟨w.vs,w.count,fl w.code 2⟩) ?_ (CD _ _ _ _) ?_
    ·simp[HWk]
    ·simp[below,HWk]
   ·have hp:Dl w.vs s b w.code=w.code:=by simp[Dl,e1,hb]
    have hbi:¬(v.block:Int)=(b:Int):=by omega
    rw[hp]
    simp-implicitDefEqProofs[e2,HWk,wO,wC,vaC,e,hat,hlen,lvC,hbi]
    refine al (h:=HWk false fns k w) ?_ (CD _ _ _ _) ?_
    ·simp[HWk]
    ·simp[below,HWk]
 ·cases nf with
  |true=>
   have hv:=hn rfl
   simp-implicitDefEqProofs[HWk,wO,wC,vaC,roC,hv,hw1,hw2,hw3]
   refine(Bj G w.count).use ?_
   simp-implicitDefEqProofs[nM,lvR,lvC,hv]
  |false=>
   have e:∀r,roC false r= .row 3 (lvR r):=λ_=>rfl
   simp-implicitDefEqProofs[HWk,wO,wC,vaC,e,hw1,hw2,hw3,hll]
   refine⟨by omega,?_⟩
   refine(Bj G w.count).use ?_
   simp-implicitDefEqProofs[nM,NM,lvC]
   rw[WQ (by omega)]
end
section
variable (G:aL)
theorem IJ(l:List Fd)(s:List UInt8)(hl:l.length<=1073741824):VF Tryz.prog G jT [.agg [.p (fdL l)],.p (.str s)] (.p (.int .i64 (ixI (dr l s)))):=by
 have hfl:∀l,fdL l= .lst 3 (l.map Fd.cs):=λ_=>rfl
 have dZ:∀f:Fd,AC Tryz.prog G gv [.agg (f.cs.map .p),.ptr 1 1 0 0] [.row 1 [[.p (fdL l)]],.row 1 [[.p (.str s)]]] λx h=>x= .ret (.p (.bool (decide (f.name=s))))/\h=[.row 1 [[.p (fdL l)]],.row 1 [[.p (.str s)]]]:=by
  intro f
  have hcs:f.cs=[.str f.name,aN f.params,smL f.body]:=rfl
  refine AC.trim (AC.go Dd ?_) (by simp[below])
  simp-implicitDefEqProofs[sV,hcs]
 have idx:AC Tryz.prog G cY [.p (fdL l),.fn (.func gv) [.ptr 1 1 0 0]] [.row 1 [[.p (fdL l)]],.row 1 [[.p (.str s)]]] λx h=>x= .ret (.p (.int .i64 (ixI (dr l s))))/\h=[.row 1 [[.p (fdL l)]],.row 1 [[.p (.str s)]]]:=by
  refine AC.go lN ?_
  simp-implicitDefEqProofs[fh,hfl]
  refine aM (λi:Nat=>aC 19 [(0,.p (fdL l)),(1,.fn (.func gv) [.ptr 1 1 0 0]),(7,.p (.int .i64 l.length)),(8,.p (.int .i64 i))]) (λ_=>[.row 1 [[.p (fdL l)]],.row 1 [[.p (.str s)]]]) (λi=>i<=l.length/\∀f∈l.take i,f.name≠s) (λi=>l.length-i) 0 (by simp) ?_ ?_
  ·exact al (by simp) (by simp[okO,below]) (by simp[below,az,hfl])
  ·intro i ⟨hi,hn⟩
   simp-implicitDefEqProofs[hfl]
   refine aO (λh1=>?_) (λh1=>?_)
   ·simp at h1
    have hg:=WK h1
    simp-implicitDefEqProofs[hg]
    refine(dZ l[i]).mono ?_
    rintro r h ⟨rfl,rfl⟩
    by_cases he:l[i].name=s
    ·have hf:dr l s=some i:=by
      rw[dr,Xf]
      exact⟨h1,by simpa using he,λj hj=>by have:=hn l[j] (List.mem_take_iff_getElem.2 ⟨j,by omega,rfl⟩);simpa using this⟩
     simp-implicitDefEqProofs[aa,he,hf,ixI]
     exact hfl l
    ·simp-implicitDefEqProofs[aa,he]
     refine⟨i+1,⟨h1,λp hp=>?_⟩,by omega,al (h:=[.row 1 [[.p (fdL l)]],.row 1 [[.p (.str s)]]]) (by simp) (by simp[okO,below]) (by simp[below,az,hfl,w1 (i:=i) (by omega)])⟩
     rw[an h1] at hp
     rcases WO.1 hp with hp|hp
     ·exact hn p hp
     ·rw[WR.1 hp];exact he
   ·simp at h1
    rw[WQ h1] at hn
    have hf:dr l s=none:=by
     rw[dr,Xt];intro x hx;simpa using hn x hx
    simp-implicitDefEqProofs[hf,ixI]
 refine AC.go Gz ?_
 simp-implicitDefEqProofs[zr]
 refine idx.mono ?_
 rintro r h ⟨rfl,rfl⟩
 simp-implicitDefEqProofs[aa]
structure GS where (gap:List AO) (m:Scp)
def mpE(m:Scp):List (PV × AV):=m.map λx=>(.str x.1,.p (.int .i64 x.2))
def scL:List GS->Nat
 |[]=>0
 |g::up=>scL up+g.gap.length+2
def upV:List GS->AV
 |[]=> .nilp
 |g::up=> .ptr (2+scL up+g.gap.length+1) 2 0 0
def scH:List GS->List AO
 |[]=>[]
 |g::up=>scH up++(g.gap++[.mp (mpE g.m),.row 2 [[.mp (2+scL up+g.gap.length),upV up]]])
theorem mB:∀ch:List GS,(scH ch).length=scL ch
 |[]=>rfl
 |g::up=>by simp only[scH,scL,Xa,mB up,Xb,XA];omega
def cO(fns:List Fd)(k:Nat)(c:Int):AO:= .row 3 [[.p (fdL fns),.p (.int .i64 k),.p (.int .i64 c)]]
def CH(b0:AO)(fns:List Fd)(k:Nat)(c:Int)(ch:List GS):List AO:=b0::cO fns k c::scH ch
theorem jl(b0:AO)(fns:List Fd)(k:Nat)(c:Int)(ch:List GS):(CH b0 fns k c ch).length=2+scL ch:=by
 simp only[CH,Xb,mB];omega
def Ba:List GS->Prop
 |[]=>True
 |g::up=>(∀o∈g.gap,okO (2+scL up+g.gap.length) o)/\Ba up
theorem lg:∀(ch:List GS) {n:Nat},2+scL ch<=n->below n (upV ch)
 |[],_,_=>by simp[upV,below]
 |g::up,n,h=>by simp only[scL] at h;simp only[upV,below];omega
theorem Ix:∀(ch:List GS) {n:Nat},Ba ch->2+scL ch<=n->∀o∈scH ch,okO n o
 |[],_,_,_,o,ho=>by cases ho
 |g::up,n,⟨h1,h2⟩,hn,o,ho=>by
  simp only[scL] at hn
  rw[scH] at ho
  rcases WO.1 ho with h|h
  ·exact Ix up h2 (by omega) o h
  ·rcases WO.1 h with h|h
   ·exact uG (by omega) (h1 o h)
   ·simp only[WN,XC,or_false] at h
    rcases h with rfl|rfl
    ·intro e he
     obtain⟨x,_,rfl⟩:=Xl.1 he
     simp[below]
    ·intro e he
     rw[WR.1 he]
     exact⟨by simp only[below];omega,lg up (by omega),trivial⟩
theorem GM{b0:AO}{fns:List Fd}{k:Nat}{c:Int}{ch:List GS}(hb:okO 0 b0)(hs:Ba ch){n:Nat}(hn:2+scL ch<=n):∀o∈CH b0 fns k c ch,okO n o:=
 au (cJ hb) (au (by intro e he;rw[WR.1 he];simp[below]) (Ix ch hs hn))
theorem nJ(s:List UInt8):∀m:Scp,iK (.str s) (mpE m)=some ((fU m s).map λn=>AV.p (.int .i64 n))
 |[]=>rfl
 |x::r=>by
  have ih:=nJ s r
  by_cases h:x.1=s
  ·simp[mpE,iK,keq,h,fU]
  ·have h':¬s=x.1:=λe=>h e.symm
   simp only[mpE,Xj,iK,keq,h',decide_false]
   simp only[mpE] at ih
   rw[ih];simp[fU,h]
theorem rh(s:List UInt8)(n:Nat):∀m:Scp,lz (.str s) (.p (.int .i64 n)) (mpE m)=some (mpE (fu m s n))
 |[]=>rfl
 |x::r=>by
  have ih:=rh s n r
  by_cases h:x.1=s
  ·simp[mpE,lz,keq,h,fu]
  ·have h':¬s=x.1:=λe=>h e.symm
   simp only[mpE,Xj,lz,keq,h',decide_false]
   simp only[mpE] at ih
   rw[ih];simp[fu,h]
abbrev sco(ch:List GS):List Scp:=ch.map GS.m
theorem My:∀(pre:List GS) (g:GS) (up:List GS),(scH (pre++g::up))[scL up+g.gap.length]?=some (.mp (mpE g.m))/\(scH (pre++g::up))[scL up+g.gap.length+1]?=some (.row 2 [[.mp (2+scL up+g.gap.length),upV up]])
 |[],g,up=>by
  have hl:(scH up++g.gap).length=scL up+g.gap.length:=by rw[Xa,mB]
  have e:scH (g::up)=(scH up++g.gap)++[.mp (mpE g.m),.row 2 [[.mp (2+scL up+g.gap.length),upV up]]]:=by rw[scH,Xx]
  rw[List.nil_append,e]
  exact⟨by rw[←hl,WP (WV _)];simp,by rw[←hl,WP (by omega)];simp⟩
 |p::pre,g,up=>by
  obtain⟨h1,h2⟩:=My pre g up
  have hm1:=(WJ.1 h1).1
  have hm2:=(WJ.1 h2).1
  rw[Xu,scH]
  exact⟨by rw[WI hm1];exact h1,by rw[WI hm2];exact h2⟩
theorem HM(ch:List GS):(upV ch).isCell=true:=by cases ch<;>rfl
theorem LN(ch:List GS):(upV ch).cells=[upV ch]:=by cases ch<;>rfl
attribute [simp ↓] HM LN
theorem Fj(b0:AO)(fns:List Fd)(k:Nat)(c e:Int)(r:List AO):AC Tryz.prog G cH [.ptr 1 3 0 0,.p (.int .i64 e)] (b0::cO fns k c::r) λx h=>x= .ret (.tup [])/\h=b0::cO fns k (fl c e)::r:=by
 refine AC.go rZ ?_
 by_cases h0:c=0
 ·simp-implicitDefEqProofs[fP,cO,h0,fl]
 ·simp-implicitDefEqProofs[fP,cO,h0,fl]
theorem ow(up:AV)(hu:up= .nilp\/∃i,up= .ptr i 2 0 0)(h:List AO):AC Tryz.prog G bn [up] h λx h'=>x= .ret (.ptr (h.length+1) 2 0 0)/\h'=h++[.mp [],.row 2 [[.mp h.length,up]]]:=by
 refine AC.go uF ?_
 rcases hu with rfl|⟨i,rfl⟩
 ·simp-implicitDefEqProofs[iA]
 ·simp-implicitDefEqProofs[iA]
theorem Nj(b0 c0:AO)(ch:List GS)(rest:List AO)(s:List UInt8):AC Tryz.prog G bp [upV ch,.p (.str s)] (b0::c0::(scH ch++rest)) λx h=>x= .ret (.tup [.p (.int .i64 (((di (sco ch) s).getD 0:Nat):Int)),.p (.bool (di (sco ch) s).isSome)])/\h=b0::c0::(scH ch++rest):=by
 refine AC.goB mH λhb=>?_
 simp-implicitDefEqProofs[iF]
 have hHl:(b0::c0::(scH ch++rest)).length=2+scL ch+rest.length:=by simp only[Xb,Xa,mB];omega
 refine aM (λr:List GS=>aC 25 [(0,upV r),(1,.p (.str s))]) (λ_=>b0::c0::(scH ch++rest)) (λr=>∃pre,ch=pre++r/\di (sco ch) s=di (sco r) s) (λr=>r.length) ch ⟨[],rfl,rfl⟩ ?_ ?_
 ·refine Bs (by simp) hb ?_
  rw[hHl]
  exact⟨⟨lg ch (by omega),by simp⟩,⟨by simp,by simp⟩,trivial⟩
 rintro r ⟨pre,e1,e2⟩
 cases r with
 |nil=>
  rw[e2]
  simp-implicitDefEqProofs[upV,di]
 |cons g up=>
  obtain⟨a1,a2⟩:=My pre g up
  rw[←e1] at a1 a2
  have b1:=(WJ.1 a1).1
  have b2:=(WJ.1 a2).1
  have l1:(b0::c0::(scH ch++rest))[2+scL up+g.gap.length]?=some (.mp (mpE g.m)):=by
   rw[show 2+scL up+g.gap.length=(scL up+g.gap.length)+1+1 by omega,Xc,Xc,WI b1,a1]
  have l2:(b0::c0::(scH ch++rest))[2+scL up+g.gap.length+1]?=some (.row 2 [[.mp (2+scL up+g.gap.length),upV up]]):=by
   rw[show 2+scL up+g.gap.length+1=(scL up+g.gap.length+1)+1+1 by omega,Xc,Xc,WI b2,a2]
  have hmg:=nJ s g.m
  have hle:=mB ch
  rw[e2]
  generalize hH:b0::c0::(scH ch++rest)=H at*
  have hup:upV (g::up)= .ptr (2+scL up+g.gap.length+1) 2 0 0:=rfl
  cases hh:fU g.m s with
  |some n=>
   rw[hh] at hmg
   simp-implicitDefEqProofs[hup,l1,l2,hmg,di,hh]
  |none=>
   rw[hh] at hmg
   simp-implicitDefEqProofs[hup,l1,l2,hmg,di,hh]
   refine⟨up,⟨⟨pre++[g],by rw[e1];simp⟩,rfl⟩,by simp,?_⟩
   refine Bs ?_ hb ?_
   ·rw[hHl,mB];omega
   ·refine⟨⟨lg up ?_,?_⟩,⟨by simp,by simp⟩,trivial⟩
    ·rw[hHl]
     have:=congrArg List.length e1
     have h3:=(WJ.1 l2).1
     rw[hHl] at h3
     omega
    ·simp
end
section
variable (G:aL)
theorem LS.reg{l:List Fd}{pr:Int}{L:Nat}{w:Lw}{h:List AO}{K:AV}{I:List Nat}(H:LS (lwO l pr) L w h K I):LS (lwO l pr) L w.reg (h.set L (lwO l pr w.reg K)) K I:=
 ⟨WT H.lt,H.own.frame λi hi=>WM λe=>(Xh.1 H.nd).1 (by rw[e];exact hi),H.nd,H.noc.1,λkid n rows eK hg=>by
   have ho:=H.own
   rw[eK] at ho
   rw[WM λe=>(Xh.1 H.nd).1 (by rw[e];exact Ad ho)] at hg
   exact H.noc.2 kid n rows eK hg⟩
theorem RF{l:List Fd}{pr:Int}{L:Nat}{w:Lw}{h:List AO}{K:AV}{I:List Nat}(H:LS (lwO l pr) L w h K I)(hw:w.regs<=1073741824):
 AC Tryz.prog G ga [.ptr L 5 0 0] h λx h'=>x= .ret (.p (.int .i64 w.regs))/\h'=h.set L (lwO l pr w.reg K):=by
 have hg:=H.here
 have hw1:IntKind.i64.wrap ((w.regs:Int)+1)=((w.regs+1:Nat):Int):=by rw[ab (by omega) (by omega)];omega
 have hw2:IntKind.i64.wrap (((w.regs+1:Nat):Int)-1)=w.regs:=by rw[ab (by omega) (by omega)];omega
 simp only[lwO] at hg
 refine AC.go rV ?_
 have hgs:∀o,(h.set L o)[L]?=some o:=λo=>WT H.lt
 simp-implicitDefEqProofs[-AV.cells,-AV.isCell,aH,aI,kN,hg, ↓hgs]
 rw[hw1,hw2]
 exact⟨rfl,rfl⟩
theorem vo{l:List Fd}{pr:Int}{L:Nat}{w:Lw}{h:List AO}{K:AV}{I:List Nat}(H:LS (lwO l pr) L w h K I){B:Nat}(hok:w.Ok B)(hB:B<=1073741824)(x:Ii){A:AV}{J:List Nat}(hA:OwnL false h [A] [bG x.args] J)(ndJ:J.Nodup)(hJ:∀j∈J,j≠L/\j∉I):
 AC Tryz.prog G bl [.ptr L 5 0 0,.agg [.p (.int .i64 x.op),.p (.int .i64 x.to),A,.p (.int .i64 x.n)]] h λr h'=>r= .ret (.tup [])/\LR (lwO l pr) L (w.put x) (I++J) h h':=by
 have hg:=H.here
 obtain⟨kid,rows,b,P,N,X,rfl,hrow,hlen,hb,hcur,⟨p1,p2⟩,⟨n1,n2⟩,⟨x1,x2⟩,hkl,hN⟩:=H.putAt (Mf l pr) hok.pos x hA ndJ hJ
 obtain⟨a1,a2⟩:=gO hA
 have hins:b.ins.length<=B:=hok.ins _ (WW hb)
 have hpos:=hok.pos
 have hrow0:h[kid]?=some (.row 5 rows):=by simpa using hrow []
 simp only[lwO] at hg
 refine AC.go sr ?_
 have hgm:∀t,(h++t)[L]?=some (.row 5 [[.p (fdL l),.p (.int .i64 pr),.p (.int .i64 w.regs),.sl kid 5 0 w.bs.length,.p (.int .i64 w.pos)]]):=λt=>by rw[WI H.lt];exact hg
 rcases hN with⟨rfl,hi0,close⟩|⟨iid,rowsN,rfl,hir,hil,hiil,hik,close⟩
 ·simp-implicitDefEqProofs[-AV.cells,-AV.isCell,aH,ae,ag,aw,aI,af,ay,a1,a2,p1,p2,x1,x2,fJ,hg,hgm,hrow,hrow0,hcur,hlen]
  exact⟨hok.pos,close [_,_]⟩
 ·have htk:List.take b.ins.length rowsN=rowsN:=WQ (by omega)
  have hk2:∀t u,((h++t).set iid .dead++u)[kid]?=some (.row 5 rows):=λt u=>by rw[WI (by simp;omega),WM hik];exact hrow t
  simp-implicitDefEqProofs[-AV.cells,-AV.isCell,aH,ae,ag,aw,aI,af,ay,a1,a2,p1,p2,x1,x2,fJ,hg,hgm,hrow,hrow0,hcur,hlen,hir,htk, ↓hk2]
  exact⟨hok.pos,⟨by omega,by omega,by omega⟩,close [_,_]⟩
theorem nk{l:List Fd}{pr:Int}{L:Nat}{w:Lw}{h:List AO}{K:AV}{I:List Nat}(H:LS (lwO l pr) L w h K I){B:Nat}(hok:w.Ok B)(j o:Int)(g:Nat)(nx:List Int){V:AV}{J:List Nat}(hV:OwnL false h [V] [bG nx] J)(ndJ:J.Nodup)(hJ:∀j∈J,j≠L/\j∉I):
 AC Tryz.prog G fI [.ptr L 5 0 0,.p (.int .i64 j),.p (.int .i64 o),.p (.int .i64 g),V] h λr h'=>r= .ret (.tup [])/\LR (lwO l pr) L (w.fin j o g nx) (I++J) h h':=by
 have hg:=H.here
 obtain⟨kid,rows,b,P,N,X,rfl,hrow,hlen,hb,hcur,⟨p1,p2⟩,⟨n1,n2⟩,⟨x1,x2⟩,hkl,hkL,close⟩:=H.finAt (Mf l pr) hok.pos
 obtain⟨a1,a2⟩:=gO hV
 have hrow0:h[kid]?=some (.row 5 rows):=by simpa using hrow []
 have hcl:=close j o g nx V J hV ndJ hJ
 have hLl:=H.lt
 simp only[lwO] at hg
 have hs1:∀o,(h.set kid o)[kid]?=some o:=λo=>WT hkl
 have hs2:∀o,(h.set kid o)[L]?=h[L]?:=λo=>WM hkL
 have hrs:∀r,(rows.set w.pos r)[w.pos]?=some r:=λr=>WT (by rw[hlen];exact hok.pos)
 refine AC.go sf ?_
 simp-implicitDefEqProofs[-AV.cells,-AV.isCell,aH,ae,ag,aw,aI,af,ay,a1,a2,n1,n2,p1,p2,x1,x2,kJ,hg,hrow,hrow0,hcur,hlen, ↓hs1, ↓hs2, ↓hrs]
 exact⟨hok.pos,hcl⟩
theorem Aq{l:List Fd}{pr:Int}{L:Nat}{w:Lw}{h:List AO}{K:AV}{I:List Nat}(H:LS (lwO l pr) L w h K I){B:Nat}(hok:w.Ok B)(hB:B<=1073741824)(n:Nat)(h0:0<n)(hn:n<=3):
 AC Tryz.prog G be [.ptr L 5 0 0,.p (.int .i64 n)] h λr h'=>r= .ret (.p (.int .i64 w.bs.length))/\LR (lwO l pr) L (w.name n) I h h':=by
 have hg:=H.here
 have hp0:=hok.pos
 have hbl:=hok.bs
 obtain⟨kid,rows,rfl,hrow,hlen,hkl,hkL,close⟩:=H.nameAt (by omega) n []
 have hrow0:h[kid]?=some (.row 5 rows):=by simpa using hrow []
 simp only[lwO] at hg
 have htk:List.take w.bs.length rows=rows:=WQ (by omega)
 have hs2:∀u,(h.set kid .dead++u)[L]?=h[L]?:=λu=>by rw[WI (by simpa using H.lt)];exact WM hkL
 refine AC.go ki ?_
 simp-implicitDefEqProofs[-AV.cells,-AV.isCell,aH,ae,ag,aw,aI,af,ay,fb,hg,hrow,hrow0,hlen,htk, ↓hs2]
 exact⟨⟨h0,by omega⟩,⟨by omega,by omega⟩,by simpa[lwO,Lw.name] using close⟩
theorem uK{l:List Fd}{pr:Int}{L:Nat}{w:Lw}{h:List AO}{K:AV}{I:List Nat}(H:LS (lwO l pr) L w h K I){B:Nat}(hok:w.Ok B)(hB:B<=1073741823)(op n:Int)(args:List Int){A:AV}{J:List Nat}(hA:OwnL false h [A] [bG args] J)(ndJ:J.Nodup)(hJ:∀j∈J,j≠L/\j∉I):
 AC Tryz.prog G eZ [.ptr L 5 0 0,.p (.int .i64 op),.p (.int .i64 n),A] h λr h'=>r= .ret (.p (.int .i64 w.regs))/\LR (lwO l pr) L (w.mk' op n args) (I++J) h h':=by
 obtain⟨a1,a2⟩:=gO hA
 have hr:=RF G H (by have:=hok.regs;omega)
 have hA':OwnL false (h.set L (lwO l pr w.reg K)) [A] [bG args] J:=hA.frame λi hi=>WM λe=>(hJ i hi).1 e.symm
 have hp:=vo G H.reg hok.reg (by omega) ⟨op,w.regs,args,n⟩ hA' ndJ hJ
 refine AC.go pR ?_
 simp-implicitDefEqProofs[-AV.cells,-AV.isCell,aH,ae,ag,aw,aI,af,ay,a1,a2,kg]
 refine hr.mono ?_
 rintro x h1 ⟨rfl,rfl⟩
 simp-implicitDefEqProofs[-AV.cells,-AV.isCell,aH,ae,ag,aw,aI,af,ay,a1,a2,aa]
 refine hp.mono ?_
 rintro x h1 ⟨rfl,hlr⟩
 simp-implicitDefEqProofs[aa]
 obtain⟨K2,I2,b1,b2,b3⟩:=hlr
 refine⟨K2,I2,b1,⟨by simpa using b2.1,λi hi hn=>?_⟩,λj hj=>by simpa using b3 j hj⟩
 rw[b2.2 i (by simpa using hi) hn]
 exact WM λe=>hn (by simp[e])
end
section
theorem FE(a:List Ex):(a.headD (.mk 0 0 [] [])).sz<=aJ a+1:=by
 cases a with
 |nil=>rw[Ex.sz_eq];simp[Ex.name,Ex.kids,aJ]
 |cons x r=>simp only[List.headD_cons,aJ];omega
theorem PX(s:Sm):vS s=(if s.op=1 then 1 else 0)+aX s.body+aX s.els:=by
 obtain⟨o,n,a,b,e⟩:=s;rw[vS];rfl
mutual
theorem RO(fa:List UInt8->Int)(d:Int):∀(s:Sm) (m:Scp) (up:List Scp) (nx:Nat) (w:Lw) (B:Nat),w.Ok B->(lwS fa d s m up nx w).2.2.Ok (B+20*s.sz)/\w.bs.length<=(lwS fa d s m up nx w).2.2.bs.length/\nx<=(lwS fa d s m up nx w).2.1/\(lwS fa d s m up nx w).2.1<=nx+s.sz
 | .mk o n a bd el,m,up,nx,w,B,H=>by
   have hz:(Sm.mk o n a bd el).sz=1+n.length+aJ a+aD bd+aD el:=Sm.sz_eq _
   rw[hz,lwS]
   simp only
   split
   ·have h1:=(H.name 3).fin 1 0 (g:=w.bs.length) (by simp) [(w.bs.length:Int)]
    have hh:=FE a
    obtain⟨h2,l2⟩:=mZ fa (scF d (m::up)) (a.headD (.mk 0 0 [] [])) _ _ h1
    generalize lwE fa (scF d (m::up)) (a.headD (.mk 0 0 [] [])) _=x at*
    simp at l2
    have h3:=h2.fin 2 x.1 (g:=w.bs.length+1) (by omega) [(w.bs.length:Int)+1,(w.bs.length:Int)+2]
    obtain⟨h4,l4,l5,l6⟩:=dD fa d bd [] (m::up) nx _ _ h3
    generalize aU fa d bd [] (m::up) nx _=y at*
    simp at l4
    have h5:=h4.fin 1 0 (g:=w.bs.length+2) (by omega) [(w.bs.length:Int)]
    exact⟨h5.up (by omega),by simp;omega,l5,by show y.2.1<=_;omega⟩
   ·obtain⟨h1,l1⟩:=jB fa (scF d (m::up)) a _ _ H
    generalize bj fa (scF d (m::up)) a w=x at*
    split
    ·exact⟨(h1.put _).up (by omega),by simpa using l1,by show nx<=nx+1;omega,by show nx+1<=_;omega⟩
    split
    ·exact⟨(h1.put _).up (by omega),by simpa using l1,WV _,by show nx<=_;omega⟩
    split
    ·exact⟨(h1.put _).up (by omega),by simpa using l1,WV _,by show nx<=_;omega⟩
    split
    ·exact⟨(h1.put _).up (by omega),by simpa using l1,WV _,by show nx<=_;omega⟩
    split
    ·have h3:=(h1.name 3).fin 2 (x.1.headD 0) (g:=x.2.bs.length) (by simp) [(x.2.bs.length:Int),(x.2.bs.length:Int)+1]
     obtain⟨h4,l4,l5,l6⟩:=dD fa d bd [] (m::up) nx _ _ h3
     generalize aU fa d bd [] (m::up) nx _=y at*
     simp at l4
     have h5:=h4.fin 1 0 (g:=x.2.bs.length+1) (by omega) [(x.2.bs.length:Int)+2]
     obtain⟨h6,l7,l8,l9⟩:=dD fa d el [] (m::up) y.2.1 _ _ h5
     generalize aU fa d el [] (m::up) y.2.1 _=z at*
     simp at l7
     have h7:=h6.fin 1 0 (g:=x.2.bs.length+2) (by omega) [(x.2.bs.length:Int)+2]
     exact⟨h7.up (by omega),by simp;omega,by show nx<=z.2.1;omega,by show z.2.1<=_;omega⟩
    split
    ·have h3:=(h1.name 1).fin 3 (x.1.headD 0) (g:=x.2.bs.length) (by simp) []
     exact⟨h3.up (by omega),by simp;omega,WV _,by show nx<=_;omega⟩
    ·exact⟨h1.up (by omega),l1,WV _,by show nx<=_;omega⟩
theorem dD(fa:List UInt8->Int)(d:Int):∀(l:List Sm) (m:Scp) (up:List Scp) (nx:Nat) (w:Lw) (B:Nat),w.Ok B->(aU fa d l m up nx w).2.2.Ok (B+20*aD l)/\w.bs.length<=(aU fa d l m up nx w).2.2.bs.length/\nx<=(aU fa d l m up nx w).2.1/\(aU fa d l m up nx w).2.1<=nx+aD l
 |[],m,up,nx,w,B,H=>by rw[aU];exact⟨H.up (by omega),WV _,WV _,by show nx<=_;omega⟩
 |s::r,m,up,nx,w,B,H=>by
  obtain⟨h1,l1,l2,l3⟩:=RO fa d s m up nx w B H
  have hz:aD (s::r)=s.sz+aD r:=by rw[aD]
  rw[aU,hz]
  obtain⟨h4,l4,l5,l6⟩:=dD fa d r (lwS fa d s m up nx w).1 up _ _ _ h1
  exact⟨h4.up (by omega),by omega,by omega,by omega⟩
end
theorem Hv(fa:List UInt8->Int)(d:Int):∀(a b:List Sm) (m:Scp) (up:List Scp) (nx:Nat) (w:Lw),aU fa d (a++b) m up nx w=aU fa d b (aU fa d a m up nx w).1 up (aU fa d a m up nx w).2.1 (aU fa d a m up nx w).2.2
 |[],b,m,up,nx,w=>by simp[aU]
 |s::r,b,m,up,nx,w=>by rw[Xu,aU,aU,Hv fa d r]
theorem zb{fa:List UInt8->Int}{d:Int}{l:List Sm}{i:Nat}(h:i<l.length)(m:Scp)(up:List Scp)(nx:Nat)(w:Lw):
 aU fa d (l.take (i+1)) m up nx w=lwS fa d l[i] (aU fa d (l.take i) m up nx w).1 up (aU fa d (l.take i) m up nx w).2.1 (aU fa d (l.take i) m up nx w).2.2:=by
 rw[an h,Hv,aU,aU]
end
section
inductive ChN (h:List AO):AV->List Scp->List Nat->Prop where
 |nil:ChN h .nilp [] []
 |cons (e m:Nat) (c:Scp) (u:AV) (v:List Scp) (C:List Nat):h[e]?=some (.row 2 [[.mp m,u]])->h[m]?=some (.mp (mpE c))->ChN h u v C->ChN h (.ptr e 2 0 0) (c::v) (e::m::C)
section
variable {h h':List AO} {u:AV} {v:List Scp} {C:List Nat}
theorem ChN.frame(H:ChN h u v C)(e:∀i∈C,h'[i]?=h[i]?):ChN h' u v C:=by
 induction H with
 |nil=>exact .nil
 |cons a m c u v C h1 h2 _ ih=>exact .cons a m c u v C (by rw[e a (by simp)];exact h1) (by rw[e m (by simp)];exact h2) (ih λi hi=>e i (by simp[hi]))
theorem ChN.lt(H:ChN h u v C):∀i∈C,i<h.length:=by
 induction H with
 |nil=>intro i hi;cases hi
 |cons a m c u v C h1 h2 _ ih=>
  intro i hi
  simp only[WN] at hi
  rcases hi with rfl|rfl|hi
  ·exact(WJ.1 h1).1
  ·exact(WJ.1 h2).1
  ·exact ih i hi
theorem ChN.more(H:ChN h u v C)(os:List AO):ChN (h++os) u v C:=H.frame λi hi=>WI (H.lt i hi)
theorem ChN.is(H:ChN h u v C):Aw.below h.length u/\u.isCell=true/\u.cells=[u]:=by
 cases H with
 |nil=>exact⟨trivial,rfl,rfl⟩
 |cons a m c u v C h1 h2 _=>exact⟨(WJ.1 h1).1,rfl,rfl⟩
end
variable (G:aL)
structure FdS where (u:AV) (v:List Scp) (C:List Nat)
theorem Kz{u:AV}{v:List Scp}{C:List Nat}{h:List AO}(H:ChN h u v C)(s:List UInt8):AC Tryz.prog G bp [u,.p (.str s)] h λx h'=>x= .ret (.tup [.p (.int .i64 (scF 0 v s)),.p (.bool (di v s).isSome)])/\h'=h:=by
 refine AC.go mH ?_
 simp-implicitDefEqProofs[iF]
 refine aM (λa:FdS=>aC 25 [(0,a.u),(1,.p (.str s))]) (λ_=>h) (λa=>ChN h a.u a.v a.C/\di v s=di a.v s) (λa=>a.v.length) ⟨u,v,C⟩ ⟨H,rfl⟩ ?_ ?_
 ·refine aq (WV _) ?_
  exact⟨⟨H.is.1,by simp⟩,⟨by simp,by simp⟩,trivial⟩
 rintro⟨u1,v1,C1⟩ ⟨H1,e⟩
 simp only at H1 e
 cases H1 with
 |nil=>
  have e0:scF 0 v s=0:=by simp[scF,e,di]
  rw[e,e0]
  simp-implicitDefEqProofs[di]
 |cons a m c u2 v2 C2 h1 h2 H2=>
  have hmg:=nJ s c
  have hb:=H2.is.1
  cases hs:fU c s with
  |some n=>
   rw[hs] at hmg
   have e1:di v s=some n:=by rw[e,di,hs]
   have e0:scF 0 v s=n:=by simp[scF,e1]
   rw[e1,e0]
   simp-implicitDefEqProofs[h1,h2,hmg]
  |none=>
   rw[hs] at hmg
   have e1:di v s=di v2 s:=by rw[e,di,hs]
   have hu2:u2= .nilp\/∃e,u2= .ptr e 2 0 0:=by
    cases H2 with
    |nil=>exact .inl rfl
    |cons k _ _ _ _ _ _ _ _=>exact .inr ⟨k,rfl⟩
   rcases hu2 with rfl|⟨e2,rfl⟩
   ·simp-implicitDefEqProofs[h1,h2,hmg]
    exact⟨⟨.nilp,v2,C2⟩,⟨H2,e1⟩,by simp,aq (WV _) ⟨⟨hb,by simp⟩,⟨by simp,by simp⟩,trivial⟩⟩
   ·simp-implicitDefEqProofs[h1,h2,hmg]
    exact⟨⟨.ptr e2 2 0 0,v2,C2⟩,⟨H2,e1⟩,by simp,aq (WV _) ⟨⟨hb,by simp⟩,⟨by simp,by simp⟩,trivial⟩⟩
structure MpS where (i:Nat) (X:List AO) (x:AV)
def oH(l:List Int):AO:= .row 1 (l.map λn=>[AV.p (.int .i64 n)])
theorem Hi{mk:Lw->AV->AO}{L:Nat}(fa sc:List UInt8->Int)(F:FuncId)(caps:List AV)(a:List Ex){w:Lw}{h:List AO}{K:AV}{I:List Nat}{B:Nat}(E:List Nat)(H:LS mk L w h K I)(hok:w.Ok B)(hB:B+8*aJ a<=1073741823)(hE:∀i∈E,i<h.length/\i∉L::I)(hcb:az h.length caps)
 (hF:∀e∈a,∀(w1:Lw) (h1:List AO) (K1:AV) (I1:List Nat) (B1:Nat),LS mk L w1 h1 K1 I1->w1.Ok B1->B1+8*e.sz<=1073741823->(∀i∈E,h1[i]?=h[i]?)->h.length<=h1.length->(∀i∈E,i∉L::I1)->
   AC Tryz.prog G F (.agg (e.cs.map .p)::caps) h1 λx h'=>x= .ret (.p (.int .i64 (lwE fa sc e w1).1))/\LR mk L (lwE fa sc e w1).2 I1 h1 h'):
 AC Tryz.prog G eO [.p (exL a),.fn (.func F) caps] h λx h'=>∃A J K' I',x= .ret A/\LS mk L (bj fa sc a w).2 h' K' I'/\Frm (L::I) h h'/\(∀j∈I',j∈I\/h.length<=j)/\OwnL false h' [A] [bG (bj fa sc a w).1] J/\J.Nodup/\(∀j∈J,h.length<=j/\j≠L/\j∉I')/\(a≠[]->∃oid,A= .sl oid 1 0 a.length/\h'[oid]?=some (oH (bj fa sc a w).1)/\J=[oid]):=by
 have hal:=bm a
 have hxl:∀l,exL l= .lst 4 (l.map Ex.cs):=λ_=>rfl
 have hLl:=H.lt
 refine AC.go uV ?_
 simp-implicitDefEqProofs[mS,hxl]
 refine aM (λs:MpS=>aC 22 [(5,s.x),(0,.p (exL a)),(1,.fn (.func F) caps),(8,.p (exL a)),(9,.p (.int .i64 a.length)),(10,.p (.int .i64 s.i))]) (λs=>s.X)
  (λs=>s.i<=a.length/\∃K1 I1,LS mk L (bj fa sc (a.take s.i) w).2 s.X K1 I1/\Frm (L::I) h s.X/\(∀j∈I1,j∈I\/h.length<=j)/\((s.i=0/\s.x= .nils)\/∃oid,s.x= .sl oid 1 0 s.i/\s.X[oid]?=some (oH (bj fa sc (a.take s.i) w).1)/\h.length<=oid/\oid∉I1)) (λs=>a.length-s.i) ⟨0,h,.nils⟩ ⟨Xr _,K,I,by rw[List.take_zero,bj];exact H,Frm.refl _ _,λj hj=> .inl hj,.inl ⟨rfl,rfl⟩⟩ ?_ ?_
 ·exact aq (WV _) (by simp[below,hxl,hcb])
 rintro⟨i,X,x⟩ ⟨hi,K1,I1,H1,hfr,hI1,hx⟩
 simp only at hi H1 hfr hI1 hx
 have hXl:=hfr.1
 have hlen:(bj fa sc (a.take i) w).1.length=i:=by rw[gw,Xi];omega
 simp-implicitDefEqProofs[hxl]
 refine aO (λhc=>?_) (λhc=>?_)
 ·simp at hc
  have hg:=WK hc
  have hm:=WY hc
  have htk:=vK (fa:=fa) (sc:=sc) hc w
  have hsz:=bU hm
  have hok1:=(jB fa sc (a.take i) w B hok).1
  have hzt:aJ (a.take i)+a[i].sz<=aJ a:=by
   have h1:=Xm (i+1) a
   have h2:aJ a=aJ (a.take (i+1))+aJ (a.drop (i+1)):=by
    conv=>lhs;rw[←h1]
    rw[aZ]
   rw[an hc,aZ] at h2
   simp only[aJ] at h2
   omega
  have hcall:=hF a[i] hm (bj fa sc (a.take i) w).2 (X++[.row 4 [a[i].cs.map .p]]) K1 I1 _ (H1.more _) hok1 (by omega) (λj hj=>by
   obtain⟨h1,h2⟩:=hE j hj
   rw[WI (by omega)]
   exact hfr.2 j h1 h2) (by simp;omega) (λj hj hm=>by
   obtain⟨h1,h2⟩:=hE j hj
   rcases WN.1 hm with rfl|hm
   ·simp at h2
   ·rcases hI1 j hm with h|h
    ·exact h2 (by simp[h])
    ·omega)
  generalize a[i]=e at hg hm htk hcall
  have hkc:=e.cs_eq
  generalize bj fa sc (a.take i) w=cur at*
  obtain⟨out,w1⟩:=cur
  simp only at htk hcall hok1 H1 hx hlen
  rw[hkc] at hcall
  simp-implicitDefEqProofs[hg,hkc]
  refine hcall.mono ?_
  rintro r h2 ⟨rfl,K2,I2,H2,hfr2,hI2⟩
  have hl2:X.length+1<=h2.length:=by have:=hfr2.1;simpa using this
  have hI2':∀j∈I2,j∈I\/h.length<=j:=λj hj=>by
   rcases hI2 j hj with h|h
   ·exact hI1 j h
   ·simp at h;exact .inr (by omega)
  have hfr2':Frm (L::I) h h2:=hfr.trans (Frm.trans (S:=L::I1) (Frm.more _ X [.row 4 [e.cs.map .p]]) (by rw[hkc];exact hfr2) λj hj=> .inl hj) (λj hj=>by
   rcases WN.1 hj with rfl|hj
   ·exact .inl (by simp)
   ·rcases hI1 j hj with h|h
    ·exact .inl (by simp[h])
    ·exact .inr h)
  rcases hx with⟨rfl,rfl⟩|⟨oid,rfl,hxo,hol,hoI⟩
  ·have ho0:out=[]:=List.length_eq_zero_iff.1 hlen
   subst ho0
   simp-implicitDefEqProofs[aa]
   rw[XD] at htk
   refine⟨⟨1,_,.sl (h2.length+1) 1 0 1⟩,⟨by simp only;omega,K2,I2,by rw[htk];exact H2.more _,hfr2'.trans (Frm.more (L::I) h2 _) (λj hj=> .inl hj),hI2',.inr ⟨_,rfl,?_,by omega,λhm=>by have:=H2.own.lt hm;omega⟩⟩,by simp only;omega,aq (by simp;omega) ?_⟩
   ·rw[htk,WP (by omega)];simp[oH]
   ·simp[below,hxl,show IntKind.i64.wrap 1=1 from ab (by omega) (by omega)]
    exact aT (by omega) _ hcb
  ·have hox:oid<X.length:=(WJ.1 hxo).1
   have hx2:h2[oid]?=some (oH out):=by
    rw[hfr2.2 oid (by simp;omega) (by
     simp only[WN,not_or]
     exact⟨by omega,hoI⟩),WI hox];exact hxo
   have hx2':∀t,(h2++t)[oid]?=some (.row 1 (out.map λn=>[AV.p (.int .i64 n)])):=λt=>by rw[WI (by omega)];exact hx2
   have hot:List.take i (out.map λn=>[AV.p (.int .i64 n)])=out.map λn=>[AV.p (.int .i64 n)]:=WQ (by simp;omega)
   simp-implicitDefEqProofs[aa,hx2',hlen,hot]
   have hoI2:oid∉L::I2:=by
    simp only[WN,not_or]
    refine⟨by omega,λhm=>?_⟩
    rcases hI2 oid hm with h|h
    ·exact hoI h
    ·simp at h;omega
   have hset:∀t u,∀j∈L::I2,((h2++t).set oid .dead++u)[j]?=h2[j]?:=λt u j hj=>by
    have hjl:j<h2.length:=by
     rcases WN.1 hj with rfl|hj
     ·exact H2.lt
     ·exact H2.own.lt hj
    rw[WI (by simp;omega),WM (λe=>hoI2 (by rw[e];exact hj)),WI hjl]
   refine⟨by omega,⟨i+1,_,.sl (h2.length+1) 1 0 (i+1)⟩,⟨by simp only;omega,K2,I2,by rw[htk];exact H2.frame (hset _ _),?_,hI2',.inr ⟨_,rfl,?_,by omega,λhm=>by have:=H2.own.lt hm;omega⟩⟩,by simp only;omega,aq (by simp;omega) ?_⟩
   ·refine⟨by simp;omega,λj hj hn=>?_⟩
    rw[WI (by simp;omega),WM (by omega),WI (by omega)]
    exact hfr2'.2 j hj hn
   ·rw[htk,WP (by simp)];simp[oH]
   ·simp[below,hxl,show IntKind.i64.wrap ((i:Int)+1)=(i:Int)+1 from ab (by omega) (by omega)]
    exact aT (by omega) _ hcb
 ·simp at hc
  have hie:i=a.length:=by omega
  subst hie
  rw[Xk] at H1 hx hlen
  simp-implicitDefEqProofs[]
  rcases hx with⟨h0,rfl⟩|⟨oid,rfl,hxo,hol,hoI⟩
  ·have ho0:(bj fa sc a w).1=[]:=List.length_eq_zero_iff.1 (by rw[hlen,h0])
   exact⟨[],K1,I1,H1,hfr,hI1,by rw[ho0];exact .nils 1 .nil,List.nodup_nil,λj hj=>(by cases hj),λhn=>(hn (List.length_eq_zero_iff.1 h0)).elim⟩
  ·exact⟨[oid],K1,I1,H1,hfr,hI1,us hxo hlen.symm,by simp,λj hj=>by
    rw[WR.1 hj];exact⟨hol,by omega,hoI⟩,λ_=>⟨oid,rfl,hxo,rfl⟩⟩
end
section
variable (G:aL)
theorem OA(l:List Fd)(s:List UInt8):faI l s=ixI (dr l s):=by
 unfold faI;cases dr l s<;>rfl
theorem ju{d:Nat}{e a:Ex}(h:bW (d+1) e=true)(ha:a∈e.kids):bW d a=true:=by
 rw[bW,WX] at h
 exact WU.1 h.2 a ha
theorem Dz{d:Nat}{e:Ex}(h:bW d e=true)(ho:e.op=10):∃a b,e.kids=[a,b]:=by
 cases d with
 |zero=>cases h
 |succ d=>
  rw[bW,WX] at h
  have h:=h.1
  simp only[lV,WX,inR,decide_eq_true_eq] at h
  obtain⟨⟨⟨⟨⟨_,h2⟩,_⟩,_⟩,_⟩,_⟩:=h
  rw[ho,show loK 10=2 from rfl,show hiK 10=2 from rfl] at h2
  match e.kids,h2 with
  |[a,b],_=>exact⟨a,b,rfl⟩
  |[],h=>simp at h
  |[_],h=>simp at h
  |_::_::_::r,h=>simp only[Xb] at h;omega
structure Stg (mk:Lw->AV->AO) (L:Nat) (I0 E:List Nat) (h hB:List AO) (w:Lw) (X:List AO) (K:AV) (I:List Nat):Prop where
 ls:LS mk L w X K I
 fr:Frm (L::I0) h X
 sub:∀j∈I,j∈I0\/h.length<=j
 keep:∀i∈E,X[i]?=hB[i]?
 ap:∀i∈E,i<X.length/\i∉L::I
 ge:hB.length<=X.length
section
variable {mk:Lw->AV->AO} {L:Nat} {I0 E:List Nat} {h hB:List AO} {w w2:Lw} {X X2:List AO} {K:AV} {I:List Nat}
theorem Stg.more(S:Stg mk L I0 E h hB w X K I)(os:List AO):Stg mk L I0 E h hB w (X++os) K I:=
 ⟨S.ls.more os,S.fr.trans (Frm.more (L::I0) X os) λj hj=> .inl hj,S.sub,λi hi=>by rw[WI (S.ap i hi).1];exact S.keep i hi,λi hi=>⟨by have:=(S.ap i hi).1;simp;omega,(S.ap i hi).2⟩,by have:=S.ge;simp;omega⟩
theorem Stg.step(S:Stg mk L I0 E h hB w X K I){J:List Nat}(hJ:∀j∈J,h.length<=j/\j∉E)(H:LR mk L w2 (I++J) X X2):∃K2 I2,Stg mk L I0 E h hB w2 X2 K2 I2:=by
 obtain⟨K2,I2,a1,a2,a3⟩:=H
 have hE:∀i∈E,i∉L::(I++J):=λi hi hm=>by
  have h1:=(S.ap i hi).2
  simp only[WN,WO,not_or] at hm h1
  rcases hm with hm|hm|hm
  ·exact h1.1 hm
  ·exact h1.2 hm
  ·exact(hJ i hm).2 hi
 have hX:=S.fr.1
 refine⟨K2,I2,a1,S.fr.trans a2 λj hj=>?_,λj hj=>?_,λi hi=>?_,λi hi=>⟨?_,λhm=>?_⟩,?_⟩
 ·simp only[WN,WO] at hj⊢
  rcases hj with rfl|hj|hj
  ·exact .inl (.inl rfl)
  ·rcases S.sub j hj with h|h
   ·exact .inl (.inr h)
   ·exact .inr h
  ·exact .inr (hJ j hj).1
 ·rcases a3 j hj with h|h
  ·rcases WO.1 h with h|h
   ·exact S.sub j h
   ·exact .inr (hJ j h).1
  ·exact .inr (by omega)
 ·rw[a2.2 i (S.ap i hi).1 (hE i hi)];exact S.keep i hi
 ·have:=(S.ap i hi).1;have:=a2.1;omega
 ·have h1:=hE i hi
  simp only[WN,not_or] at hm h1
  rcases hm with hm|hm
  ·exact h1.1 hm
  ·rcases a3 i hm with h|h
   ·exact h1.2 h
   ·have:=(S.ap i hi).1;omega
 ·have:=a2.1;have:=S.ge;omega
theorem Stg.lr(S:Stg mk L I0 E h hB w X K I):LR mk L w I0 h X:=⟨K,I,S.ls,S.fr,S.sub⟩
theorem Stg.of(H:LS mk L w h K I)(os:List AO)(hE:∀i∈E,i<(h++os).length/\i∉L::I):Stg mk L I E h (h++os) w (h++os) K I:=
 ⟨H.more os,Frm.more _ _ _,λj hj=> .inl hj,λ_ _=>rfl,hE,WV _⟩
end
theorem Stg.fresh{mk:Lw->AV->AO}{L:Nat}{I0 E:List Nat}{h hB:List AO}{w:Lw}{X:List AO}{K:AV}{I:List Nat}(S:Stg mk L I0 E h hB w X K I):(∀j∈[X.length],h.length<=j/\j∉E)/\(∀j∈[X.length],j≠L/\j∉I):=by
 refine⟨λj hj=>?_,λj hj=>?_⟩
 ·rw[WR.1 hj]
  exact⟨S.fr.1,λhm=>by have:=(S.ap _ hm).1;omega⟩
 ·rw[WR.1 hj]
  exact⟨λe=>by have:=S.ls.lt;omega,λhm=>by have:=S.ls.own.lt hm;omega⟩
theorem cZ(X:List AO)(l:List Int){n:Nat}(hn:n=l.length):OwnL false (X++[.row 1 (l.map λn=>[AV.p (.int .i64 n)])]) [.sl X.length 1 0 n] [bG l] [X.length]:=
 us (by rw[WP (WV _)];simp) hn
theorem Kd(l:List Fd)(hl:l.length<=1073741824)(pr:Int)(L:Nat):∀(d:Nat) (e:Ex),bW d e=true->∀(w:Lw) (h:List AO) (K:AV) (I:List Nat) (B:Nat) (C:List Nat) (u:AV) (ch:List Scp),LS (lwO l pr) L w h K I->w.Ok B->B+8*e.sz<=1073741823->ChN h u ch C->(∀i∈C,i∉L::I)->
 AC Tryz.prog G bw [.ptr L 5 0 0,.agg (e.cs.map .p),u] h λx h'=>x= .ret (.p (.int .i64 (lwE (faI l) (scF 0 ch) e w).1))/\LR (lwO l pr) L (lwE (faI l) (scF 0 ch) e w).2 I h h':=by
 intro d
 induction d with
 |zero=>intro e h;cases h
 |succ d ih=>
 intro e hf w h K I B C u ch H hok hB hC hCd
 have hc:=e.cs_eq
 have hzz:=e.sz_eq
 have hLl:=H.lt
 obtain⟨hub,hu1,hu2⟩:=hC.is
 have hxl:∀l,exL l= .lst 4 (l.map Ex.cs):=λ_=>rfl
 obtain⟨bx,hbx⟩:∃bx,bx=[AO.row 1 [[.ptr L 5 0 0]],.row 4 [[.p (.int .i64 e.op),.p (.int .i64 e.n),.p (.str e.name),.p (exL e.kids)]],.row 1 [[u]]]:=⟨_,rfl⟩
 obtain⟨E,hE⟩:∃E,E=h.length::(h.length+1)::(h.length+2)::C:=⟨_,rfl⟩
 have hIlt:=λj (hj:j∈I)=>H.own.lt hj
 have hS0:Stg (lwO l pr) L I E h (h++bx) w (h++bx) K I:=Stg.of H bx (λi hi=>by
  rw[hE] at hi
  simp only[WN] at hi
  simp only[hbx,Xa,Xb,XA,WN,not_or]
  rcases hi with rfl|rfl|rfl|hi
  ·exact⟨by omega,by omega,λhm=>by have:=hIlt _ hm;omega⟩
  ·exact⟨by omega,by omega,λhm=>by have:=hIlt _ hm;omega⟩
  ·exact⟨by omega,by omega,λhm=>by have:=hIlt _ hm;omega⟩
  ·have h1:=hC.lt i hi
   have h2:=hCd i hi
   simp only[WN,not_or] at h2
   exact⟨by omega,h2⟩)
 have kB:∀{w2:Lw} {X:List AO} {K2:AV} {I2:List Nat},Stg (lwO l pr) L I E h (h++bx) w2 X K2 I2->(∀t,(X++t)[h.length]?=some (.row 1 [[.ptr L 5 0 0]]))/\(∀t,(X++t)[h.length+1]?=some (.row 4 [[.p (.int .i64 e.op),.p (.int .i64 e.n),.p (.str e.name),.p (exL e.kids)]]))/\(∀t,(X++t)[h.length+2]?=some (.row 1 [[u]]))/\ChN X u ch C/\(∀i∈C,i∉L::I2):=λ{w2 X K2 I2} S=>by
  have hge:=S.ge
  simp only[hbx,Xa,Xb,XA] at hge
  have k0:=S.keep h.length (by simp[hE])
  have k1:=S.keep (h.length+1) (by simp[hE])
  have k2:=S.keep (h.length+2) (by simp[hE])
  rw[WP (by omega)] at k0 k1 k2
  refine⟨λt=>?_,λt=>?_,λt=>?_,(hC.more bx).frame λi hi=>S.keep i (by simp[hE,hi]),λi hi=>(S.ap i (by simp[hE,hi])).2⟩
  ·rw[WI (by omega),k0,hbx];simp
  ·rw[WI (by omega),k1,hbx];simp
  ·rw[WI (by omega),k2,hbx];simp
 have lp:∀{w2:Lw} {X:List AO} {K2:AV} {I2:List Nat},Stg (lwO l pr) L I E h (h++bx) w2 X K2 I2->∀t,(X++t)[L]?=some (lwO l pr w2 K2):=λS t=>by rw[WI S.ls.lt];exact S.ls.here
 have hfE:=Mu (faI l) (scF 0 ch) e w
 refine AC.go pH ?_
 obtain⟨z0,z1,z2,zC,zD⟩:=kB hS0
 have z0':=z0 []
 have z1':=z1 []
 have z2':=z2 []
 rw[Xe] at z0' z1' z2'
 by_cases o1:e.op=1
 ·rw[if_pos o1] at hfE
  have hmk:=uK G hS0.ls hok (by omega) 1 e.n [] (A:= .nils) (J:=[]) (.nils 1 .nil) List.nodup_nil (λj hj=>by cases hj)
  rw[o1] at hbx
  rw[hbx] at hmk
  rw[hfE]
  simp-implicitDefEqProofs[-AV.cells,-AV.isCell,aH,ae,ag,aw,ah,aI,af,ay,aj,hu1,hu2,cw,hc,o1]
  refine hmk.mono ?_
  rintro x h1 ⟨rfl,hlr⟩
  simp-implicitDefEqProofs[aa]
  rw[←hbx] at hlr
  obtain⟨K2,I2,S2⟩:=hS0.step (J:=[]) (λj hj=>by cases hj) hlr
  exact S2.lr
 by_cases o2:e.op=2
 ·rw[if_neg o1,if_pos o2] at hfE
  have hfd:=Kz G zC e.name
  rw[o2] at hbx
  rw[hbx] at hfd
  rw[hfE]
  simp-implicitDefEqProofs[-AV.cells,-AV.isCell,aH,ae,ag,aw,ah,aI,af,ay,aj,hu1,hu2,cw,hc,o1,o2]
  refine hfd.mono ?_
  rintro x h1 ⟨rfl,rfl⟩
  simp-implicitDefEqProofs[aa]
  rw[←hbx]
  exact hS0.lr
 by_cases o10:e.op=10
 ·rw[if_neg o1,if_neg o2,if_pos o10] at hfE
  obtain⟨a,b,hk⟩:=Dz hf o10
  have hac:=a.cs_eq
  have hbc:=b.cs_eq
  have hkz:aJ e.kids=a.sz+b.sz:=by rw[hk];simp[aJ]
  rw[hk,lwA] at hfE
  have h1c:=ih a (ju hf (by rw[hk];simp)) w (h++bx) K I B C u ch hS0.ls hok (by omega) zC zD
  obtain⟨ok1,len1⟩:=mZ (faI l) (scF 0 ch) a w B hok
  generalize lwE (faI l) (scF 0 ch) a w=x1 at*
  obtain⟨t,ht⟩:∃t,t=x1.2.bs.length:=⟨_,rfl⟩
  simp only[Lw.mk'_len,←ht] at hfE
  rw[hfE]
  have hkx:exL e.kids= .lst 4 [[.int .i64 a.op,.int .i64 a.n,.str a.name,exL a.kids],[.int .i64 b.op,.int .i64 b.n,.str b.name,exL b.kids]]:=by rw[hk,hxl,Xj,Xj,hac,hbc];rfl
  rw[hac] at h1c
  rw[o10,hkx] at hbx
  rw[hbx] at h1c
  have hkB:= @kB
  rw[hkx] at hkB
  simp-implicitDefEqProofs[-AV.cells,-AV.isCell,aH,ae,ag,aw,ah,aI,af,ay,aj,hu1,hu2,cw,hc,o1,o2,o10,hkx]
  refine h1c.mono ?_
  rintro x X1 ⟨rfl,hlr⟩
  rw[←hbx] at hlr
  obtain⟨K1,I1,S1⟩:=hS0.step (J:=[]) (λj hj=>by cases hj) (by rw[Xe];exact hlr)
  obtain⟨y0,y1,y2,yC,yD⟩:=hkB S1
  have y0':=y0 []
  rw[Xe] at y0'
  simp-implicitDefEqProofs[-AV.cells,-AV.isCell,aH,ae,ag,aw,ah,aI,af,ay,aj,hu1,hu2,aa,y0']
  have hm1:=uK G S1.ls ok1 (by omega) 1 0 [] (A:= .nils) (J:=[]) (.nils 1 .nil) List.nodup_nil (λj hj=>by cases hj)
  refine hm1.mono ?_
  rintro x X2 ⟨rfl,hlr⟩
  obtain⟨K2,I2,S2⟩:=S1.step (J:=[]) (λj hj=>by cases hj) hlr
  clear y0 y1 y2 yC yD y0'
  obtain⟨y0,y1,y2,yC,yD⟩:=hkB S2
  have y0':=y0 []
  rw[Xe] at y0'
  simp-implicitDefEqProofs[-AV.cells,-AV.isCell,aH,ae,ag,aw,ah,aI,af,ay,aj,hu1,hu2,aa,y0']
  have ok2:=ok1.mk' 1 0 []
  have hm2:=Aq G S2.ls ok2 (by omega) 2 (by omega) (by omega)
  refine hm2.mono ?_
  rintro x X3 ⟨rfl,hlr⟩
  obtain⟨K3,I3,S3⟩:=S2.step (J:=[]) (λj hj=>by cases hj) (by rw[Xe];exact hlr)
  clear y0 y1 y2 yC yD y0'
  obtain⟨y0,y1,y2,yC,yD⟩:=hkB S3
  have y0':=y0 []
  rw[Xe] at y0'
  simp-implicitDefEqProofs[-AV.cells,-AV.isCell,aH,ae,ag,aw,ah,aI,af,ay,aj,hu1,hu2,aa,y0']
  have htb:t<=B+8*a.sz+2:=by have:=ok2.bs;simp only[Lw.mk'_len,←ht] at this;exact this
  have hwt:IntKind.i64.wrap ((t:Int)+1)=(t:Int)+1:=ab (by omega) (by omega)
  have ok3:=ok2.name 2
  have ok4:=ok3.fin 2 x1.1 (g:=t) (by simp only[Lw.name_len,Lw.mk'_len,←ht];omega) [(t:Int),(t:Int)+1]
  obtain⟨f1,f2⟩:=S3.fresh
  have hm3:=nk G (S3.ls.more [.row 1 ([(t:Int),(t:Int)+1].map λn=>[AV.p (.int .i64 n)])]) ok3 2 x1.1 t [(t:Int),(t:Int)+1] (cZ X3 [(t:Int),(t:Int)+1] rfl) (by simp) f2
  simp only[Xj,XG,Xb,XA] at hm3
  simp-implicitDefEqProofs[-AV.cells,-AV.isCell,aH,ae,ag,aw,ah,aI,af,ay,aj,hu1,hu2,←ht,hwt]
  refine hm3.mono ?_
  rintro x X4 ⟨rfl,hlr⟩
  obtain⟨K4,I4,S4⟩:=(S3.more _).step f1 hlr
  clear y0 y1 y2 yC yD y0'
  obtain⟨y0,y1,y2,yC,yD⟩:=hkB S4
  have y0':=y0 []
  rw[Xe] at y0'
  have y1':=y1 []
  have y2':=y2 []
  rw[Xe] at y1' y2'
  have h2c:=ih b (ju hf (by rw[hk];simp)) _ X4 K4 I4 _ C u ch S4.ls ok4 (by omega) yC yD
  obtain⟨ok5,len5⟩:=mZ (faI l) (scF 0 ch) b _ _ ok4
  generalize lwE (faI l) (scF 0 ch) b (((x1.2.mk' 1 0 []).name 2).fin 2 x1.1 t [(t:Int),(t:Int)+1])=x2 at*
  rw[hbc] at h2c
  simp-implicitDefEqProofs[-AV.cells,-AV.isCell,aH,ae,ag,aw,ah,aI,af,ay,aj,hu1,hu2,aa,y0',y1',y2']
  refine h2c.mono ?_
  rintro x X5 ⟨rfl,hlr⟩
  obtain⟨K5,I5,S5⟩:=S4.step (J:=[]) (λj hj=>by cases hj) (by rw[Xe];exact hlr)
  clear y1' y2'
  clear y0 y1 y2 yC yD y0'
  obtain⟨y0,y1,y2,yC,yD⟩:=hkB S5
  have y0':=y0 []
  rw[Xe] at y0'
  obtain⟨f1,f2⟩:=S5.fresh
  have hm4:=uK G (S5.ls.more [.row 1 ([x2.1].map λn=>[AV.p (.int .i64 n)])]) ok5 (by omega) 10 0 [x2.1] (cZ X5 [x2.1] rfl) (by simp) f2
  simp only[Xj,XG,Xb,XA] at hm4
  simp-implicitDefEqProofs[-AV.cells,-AV.isCell,aH,ae,ag,aw,ah,aI,af,ay,aj,hu1,hu2,aa,y0']
  refine hm4.mono ?_
  rintro x X6 ⟨rfl,hlr⟩
  obtain⟨K6,I6,S6⟩:=(S5.more _).step f1 hlr
  have ok6:=ok5.mk' 10 0 [x2.1]
  clear y0 y1 y2 yC yD y0'
  obtain⟨y0,y1,y2,yC,yD⟩:=hkB S6
  have y0':=y0 []
  rw[Xe] at y0'
  obtain⟨f1,f2⟩:=S6.fresh
  have hm5:=vo G (S6.ls.more [.row 1 ([(x2.2.regs:Int)].map λn=>[AV.p (.int .i64 n)])]) ok6 (by omega) ⟨10,x1.2.regs,[(x2.2.regs:Int)],0⟩ (cZ X6 [(x2.2.regs:Int)] rfl) (by simp) f2
  simp only[Xj,XG,Xb,XA] at hm5
  simp-implicitDefEqProofs[-AV.cells,-AV.isCell,aH,ae,ag,aw,ah,aI,af,ay,aj,hu1,hu2,aa,y0']
  refine hm5.mono ?_
  rintro x X7 ⟨rfl,hlr⟩
  obtain⟨K7,I7,S7⟩:=(S6.more _).step f1 hlr
  have ok7:=ok6.put ⟨10,x1.2.regs,[(x2.2.regs:Int)],0⟩
  clear y0 y1 y2 yC yD y0'
  obtain⟨y0,y1,y2,yC,yD⟩:=hkB S7
  have y0':=y0 []
  rw[Xe] at y0'
  obtain⟨f1,f2⟩:=S7.fresh
  have hm6:=nk G (S7.ls.more [.row 1 ([(t:Int)+1].map λn=>[AV.p (.int .i64 n)])]) ok7 1 0 (t+1) [(t:Int)+1] (cZ X7 [(t:Int)+1] rfl) (by simp) f2
  simp only[Xj,XG,Xb,XA] at hm6
  simp-implicitDefEqProofs[-AV.cells,-AV.isCell,aH,ae,ag,aw,ah,aI,af,ay,aj,hu1,hu2,aa,y0',hwt]
  rw[show((t+1:Nat):Int)=(t:Int)+1 by omega] at hm6
  refine hm6.mono ?_
  rintro x X8 ⟨rfl,hlr⟩
  obtain⟨K8,I8,S8⟩:=(S7.more _).step f1 hlr
  simp-implicitDefEqProofs[aa]
  exact S8.lr
 ·rw[if_neg o1,if_neg o2,if_neg o10] at hfE
  have hmap:=Hi G (faI l) (scF 0 ch) dW [.ptr h.length 1 0 0,.ptr (h.length+2) 1 0 0] e.kids (h.length::(h.length+2)::C) hS0.ls hok (by omega) (λi hi=>hS0.ap i (by
   rw[hE];simp only[WN] at hi⊢
   rcases hi with rfl|rfl|hi
   ·exact .inl rfl
   ·exact .inr (.inr (.inl rfl))
   ·exact .inr (.inr (.inr hi)))) (by simp[below,hbx]) (λk hk w1 h1 K1 I1 B1 H1 hok1 hB1 hEq hle hap=>by
   have hkc:=k.cs_eq
   have g0:∀t,(h1++t)[h.length]?=some (.row 1 [[.ptr L 5 0 0]]):=λt=>by
    have:=hEq h.length (by simp)
    rw[WI (by simp[hbx] at hle;omega),this];exact z0'
   have g2:∀t,(h1++t)[h.length+2]?=some (.row 1 [[u]]):=λt=>by
    have:=hEq (h.length+2) (by simp)
    rw[WI (by simp[hbx] at hle;omega),this];exact z2'
   have hC1:ChN h1 u ch C:=zC.frame λi hi=>hEq i (by simp[hi])
   have hcall:=ih k (ju hf hk) w1 (h1++[.row 4 [k.cs.map .p]]) K1 I1 B1 C u ch (H1.more _) hok1 hB1 (hC1.more _) (λi hi=>hap i (by simp[hi]))
   refine AC.go oz ?_
   rw[hkc] at hcall⊢
   simp-implicitDefEqProofs[-AV.cells,-AV.isCell,aH,ae,ag,aw,ah,aI,af,ay,aj,hu1,hu2,iV,g0,g2]
   refine hcall.mono ?_
   rintro x h2 ⟨rfl,hlr⟩
   simp-implicitDefEqProofs[aa]
   exact LR.seq (Frm.more _ h1 _) (λj hj=> .inl hj) hlr (λj hj=> .inl hj))
  obtain⟨okM,lenM⟩:=jB (faI l) (scF 0 ch) e.kids w B hok
  rw[hfE]
  generalize bj (faI l) (scF 0 ch) e.kids w=m at*
  rw[hbx] at hmap
  simp-implicitDefEqProofs[-AV.cells,-AV.isCell,aH,ae,ag,aw,ah,aI,af,ay,aj,hu1,hu2,cw,hc,o1,o2,o10]
  refine hmap.mono ?_
  rintro x X1 ⟨A,J,K1,I1,rfl,H1,hfr,hI1,hA,ndJ,hJ,_⟩
  rw[←hbx] at hfr hI1 hJ
  obtain⟨a1,a2⟩:=gO hA
  have hbl:(h++bx).length=h.length+3:=by simp[hbx]
  have S1:Stg (lwO l pr) L I E h (h++bx) m.2 X1 K1 I1:=⟨H1,hS0.fr.trans hfr λj hj=> .inl hj,λj hj=>by
   rcases hI1 j hj with h|h
   ·exact .inl h
   ·exact .inr (by omega),λi hi=>hfr.2 i (hS0.ap i hi).1 (hS0.ap i hi).2,λi hi=>⟨by have:=(hS0.ap i hi).1;have:=hfr.1;omega,λhm=>by
    have h1:=(hS0.ap i hi).2
    have h2:=(hS0.ap i hi).1
    simp only[WN,not_or] at hm h1
    rcases hm with hm|hm
    ·exact h1.1 hm
    ·rcases hI1 i hm with h|h
     ·exact h1.2 h
     ·omega⟩,hfr.1⟩
  have hJE:∀j∈J,h.length<=j/\j∉E:=λj hj=>by
   have h1:=(hJ j hj).1
   exact⟨by omega,λhm=>by have:=(hS0.ap j hm).1;omega⟩
  obtain⟨y0,y1,y2,yC,yD⟩:=kB S1
  have y0':=y0 []
  have y1':=y1 []
  rw[Xe] at y0' y1'
  have ylp:=lp S1 []
  rw[Xe] at ylp
  simp only[lwO] at ylp
  have hFn:=λq=>uK G H1 okM (by omega) (jf e.op) q m.1 hA ndJ (λj hj=>(hJ j hj).2)
  have hdone:∀q X2,LR (lwO l pr) L (m.2.mk' (jf e.op) q m.1) (I1++J) X1 X2->LR (lwO l pr) L (m.2.mk' (jf e.op) q m.1) I h X2:=λq X2 hlr=>by
   obtain⟨K2,I2,S2⟩:=S1.step hJE hlr
   exact S2.lr
  simp-implicitDefEqProofs[-AV.cells,-AV.isCell,aH,ae,ag,aw,ah,aI,af,ay,aj,hu1,hu2,a1,a2,aa,y0',y1',ylp]
  refine aO (λc11=>?_) (λc11=>?_)
  ·have c11:e.op=11:=by simpa using c11
   have hq:(if e.op=13 then faI l e.name else 0)=0:=if_neg (by omega)
   rw[hq]
   have hm:=hFn 0
   have hd:=hdone 0
   rw[show jf e.op=10 by rw[c11];rfl] at hm hd⊢
   simp-implicitDefEqProofs[-AV.cells,-AV.isCell,aH,ae,ag,aw,ah,aI,af,ay,aj,hu1,hu2,a1,a2,aa,y0',y1',ylp]
   refine hm.mono ?_
   rintro x X2 ⟨rfl,hlr⟩
   simp-implicitDefEqProofs[aa]
   exact hd _ hlr
  have c11:¬e.op=11:=by simpa using c11
  simp-implicitDefEqProofs[-AV.cells,-AV.isCell,aH,ae,ag,aw,ah,aI,af,ay,aj,hu1,hu2,a1,a2,aa,y0',y1',ylp]
  refine aO (λc12=>?_) (λc12=>?_)
  ·have c12:e.op=12:=by simpa using c12
   have hq:(if e.op=13 then faI l e.name else 0)=0:=if_neg (by omega)
   rw[hq]
   have hm:=hFn 0
   have hd:=hdone 0
   rw[show jf e.op=11 by rw[c12];rfl] at hm hd⊢
   simp-implicitDefEqProofs[-AV.cells,-AV.isCell,aH,ae,ag,aw,ah,aI,af,ay,aj,hu1,hu2,a1,a2,aa,y0',y1',ylp]
   refine hm.mono ?_
   rintro x X2 ⟨rfl,hlr⟩
   simp-implicitDefEqProofs[aa]
   exact hd _ hlr
  have c12:¬e.op=12:=by simpa using c12
  simp-implicitDefEqProofs[-AV.cells,-AV.isCell,aH,ae,ag,aw,ah,aI,af,ay,aj,hu1,hu2,a1,a2,aa,y0',y1',ylp]
  refine aO (λc13=>?_) (λc13=>?_)
  ·have c13:e.op=13:=by simpa using c13
   have hq:(if e.op=13 then faI l e.name else 0)=ixI (dr l e.name):=by rw[if_pos c13,OA]
   rw[hq]
   have hm:=hFn (ixI (dr l e.name))
   have hd:=hdone (ixI (dr l e.name))
   rw[show jf e.op=14 by rw[c13];rfl] at hm hd⊢
   simp-implicitDefEqProofs[-AV.cells,-AV.isCell,aH,ae,ag,aw,ah,aI,af,ay,aj,hu1,hu2,a1,a2,aa,y0',y1',ylp]
   refine((IJ G l e.name hl).ac (by simp[below]) (by simp[below]) _).mono ?_
   rintro x X2 ⟨rfl,rfl⟩
   simp-implicitDefEqProofs[-AV.cells,-AV.isCell,aH,ae,ag,aw,ah,aI,af,ay,aj,hu1,hu2,a1,a2,aa,y0',y1',ylp]
   refine hm.mono ?_
   rintro x X2 ⟨rfl,hlr⟩
   simp-implicitDefEqProofs[aa]
   exact hd _ hlr
  ·have c13:¬e.op=13:=by simpa using c13
   have hq:(if e.op=13 then faI l e.name else 0)=0:=if_neg c13
   rw[hq]
   have hm:=hFn 0
   have hd:=hdone 0
   rw[show jf e.op=e.op by rw[jf,if_neg c11,if_neg c12,if_neg c13]] at hm hd⊢
   simp-implicitDefEqProofs[-AV.cells,-AV.isCell,aH,ae,ag,aw,ah,aI,af,ay,aj,hu1,hu2,a1,a2,aa,y0',y1',ylp]
   refine hm.mono ?_
   rintro x X2 ⟨rfl,hlr⟩
   simp-implicitDefEqProofs[aa]
   exact hd _ hlr
end
section
theorem FG{d:Nat}{e:Sm}(h:aK d e=true):∃c,d=c+1:=by
 cases d with
 |zero=>cases h
 |succ d=>exact⟨d,rfl⟩
theorem Fq{d:Nat}{x:Sm}(h:aK d x=true):∀a∈x.args,bW 6 a=true:=by
 obtain⟨d,rfl⟩:=FG h
 rw[aK,WX,WX] at h
 have h1:=h.1.1
 simp only[gq,WX,WU] at h1
 intro a ha
 have:=h1.1.1.1.2 a ha
 rw[mr,WX] at this
 exact this.1
theorem Oc{d:Nat}{x:Sm}(h:aK d x=true):x.args≠[]:=by
 obtain⟨d,rfl⟩:=FG h
 rw[aK,WX,WX] at h
 have h1:=h.1.1
 simp only[gq,WX,decide_eq_true_eq] at h1
 have h2:=h1.1.1.1.1.1.1.2
 intro e
 rw[e] at h2
 simp only[XA,jW] at h2
 split at h2<;>omega
theorem GK{d:Nat}{x:Sm}(h:aK (d+1) x=true):∀y∈x.body,aK d y=true:=by
 rw[aK,WX,WX] at h
 exact WU.1 h.1.2
theorem JW{d:Nat}{x:Sm}(h:aK (d+1) x=true):∀y∈x.els,aK d y=true:=by
 rw[aK,WX,WX] at h
 exact WU.1 h.2
structure Stb (mk:Lw->AV->AO) (L:Nat) (S I0 E:List Nat) (h:List AO) (w:Lw) (X:List AO) (K:AV) (I:List Nat):Prop where
 ls:LS mk L w X K I
 fr:Frm S h X
 hL:L∈S
 hS:∀j∈I0,j∈S
 sub:∀j∈I,j∈I0\/h.length<=j
 ap:∀i∈E,i<X.length/\i∉L::I
section
variable {mk:Lw->AV->AO} {L:Nat} {S I0 E:List Nat} {h:List AO} {w w2:Lw} {X X2:List AO} {K:AV} {I:List Nat}
theorem Stb.more(T:Stb mk L S I0 E h w X K I)(os:List AO):Stb mk L S I0 E h w (X++os) K I:=
 ⟨T.ls.more os,T.fr.trans (Frm.more S X os) λj hj=> .inl hj,T.hL,T.hS,T.sub,λi hi=>⟨by have:=(T.ap i hi).1;simp;omega,(T.ap i hi).2⟩⟩
theorem Stb.fresh(T:Stb mk L S I0 E h w X K I):(∀j∈[X.length],h.length<=j/\j∉E)/\(∀j∈[X.length],j≠L/\j∉I):=by
 refine⟨λj hj=>?_,λj hj=>?_⟩
 ·rw[WR.1 hj]
  exact⟨T.fr.1,λhm=>by have:=(T.ap _ hm).1;omega⟩
 ·rw[WR.1 hj]
  exact⟨λe=>by have:=T.ls.lt;omega,λhm=>by have:=T.ls.own.lt hm;omega⟩
theorem Stb.stepG(T:Stb mk L S I0 E h w X K I){J V:List Nat}{K2:AV}{I2:List Nat}(hJ:∀j∈J,h.length<=j/\j∉E)(hV:∀j∈V,(j∈S\/h.length<=j))(a1:LS mk L w2 X2 K2 I2)(a2:Frm (L::(V++(I++J))) X X2)(a3:∀j∈I2,j∈I++J\/X.length<=j):
 Stb mk L S I0 E h w2 X2 K2 I2/\∀i∈E,i∉V->X2[i]?=X[i]?:=by
 have hX:=T.fr.1
 have hE:∀i∈E,i≠L/\i∉I/\i∉J:=λi hi=>by
  have h1:=(T.ap i hi).2
  simp only[WN,not_or] at h1
  exact⟨h1.1,h1.2,λhm=>(hJ i hm).2 hi⟩
 refine⟨⟨a1,T.fr.trans a2 λj hj=>?_,T.hL,T.hS,λj hj=>?_,λi hi=>⟨by have:=(T.ap i hi).1;have:=a2.1;omega,λhm=>?_⟩⟩,λi hi hv=>?_⟩
 ·simp only[WN,WO] at hj
  rcases hj with rfl|hj|hj|hj
  ·exact .inl T.hL
  ·exact hV j hj
  ·rcases T.sub j hj with h|h
   ·exact .inl (T.hS j h)
   ·exact .inr h
  ·exact .inr (hJ j hj).1
 ·rcases a3 j hj with h|h
  ·rcases WO.1 h with h|h
   ·exact T.sub j h
   ·exact .inr (hJ j h).1
  ·exact .inr (by omega)
 ·obtain⟨h1,h2,h3⟩:=hE i hi
  simp only[WN] at hm
  rcases hm with hm|hm
  ·exact h1 hm
  ·rcases a3 i hm with h|h
   ·rcases WO.1 h with h|h
    ·exact h2 h
    ·exact h3 h
   ·have:=(T.ap i hi).1;omega
 ·obtain⟨h1,h2,h3⟩:=hE i hi
  refine a2.2 i (T.ap i hi).1 ?_
  simp only[WN,WO,not_or]
  exact⟨h1,hv,h2,h3⟩
theorem Stb.step(T:Stb mk L S I0 E h w X K I){J:List Nat}(hJ:∀j∈J,h.length<=j/\j∉E)(H:LR mk L w2 (I++J) X X2):∃K2 I2,Stb mk L S I0 E h w2 X2 K2 I2/\∀i∈E,X2[i]?=X[i]?:=by
 obtain⟨K2,I2,a1,a2,a3⟩:=H
 obtain⟨b1,b2⟩:=T.stepG (V:=[]) hJ (λj hj=>by cases hj) a1 a2 a3
 exact⟨K2,I2,b1,λi hi=>b2 i hi (by simp)⟩
end
structure Bx (L Q b0 b1 se sm:Nat) (C:List Nat) (m:Scp) (up:List Scp) (nx:Nat) (X:List AO):Prop where
 box0:X[b0]?=some (.row 1 [[.ptr L 5 0 0]])
 box1:X[b1]?=some (.row 1 [[.ptr se 2 0 0]])
 ch:ChN X (.ptr se 2 0 0) (m::up) (se::sm::C)
 q:X[Q]?=some (.row 1 [[.p (.int .i64 nx)]])
theorem Bx.frame{L Q b0 b1 se sm:Nat}{C:List Nat}{m:Scp}{up:List Scp}{nx:Nat}{X X2:List AO}(H:Bx L Q b0 b1 se sm C m up nx X)(e:∀i∈b0::b1::Q::se::sm::C,X2[i]?=X[i]?):Bx L Q b0 b1 se sm C m up nx X2:=
 ⟨by rw[e b0 (by simp)];exact H.box0,by rw[e b1 (by simp)];exact H.box1,H.ch.frame λi hi=>e i (by simp only[WN] at hi⊢;rcases hi with rfl|rfl|hi<;>simp[*]),by rw[e Q (by simp)];exact H.q⟩
theorem Bx.more{L Q b0 b1 se sm:Nat}{C:List Nat}{m:Scp}{up:List Scp}{nx:Nat}{X:List AO}(H:Bx L Q b0 b1 se sm C m up nx X)(os:List AO):Bx L Q b0 b1 se sm C m up nx (X++os):=
 H.frame λi hi=>WI (by
  have h0:=(WJ.1 H.box0).1
  have h1:=(WJ.1 H.box1).1
  have h3:=(WJ.1 H.q).1
  simp only[WN] at hi
  rcases hi with rfl|rfl|rfl|hi
  ·exact h0
  ·exact h1
  ·exact h3
  ·exact H.ch.lt i (by simpa using hi))
end
section
def lwR(l:List Fd)(pr:Int)(V:AV)(nx:Nat)(w:Lw)(K:AV):AO:= .row 8 [[.p (fdL l),.p (.int .i64 pr),.p (.int .i64 w.regs),K,.p (.int .i64 w.pos),V,.p (.int .i64 nx),.nils]]
theorem Ni(l:List Fd)(pr:Int)(V:AV)(nx:Nat):MkF (lwR l pr V nx):=λw w2 K h1 h2=>by simp[lwR,h1,h2]
theorem LS.swap{mk mk2:Lw->AV->AO}{L:Nat}{w w2:Lw}{h:List AO}{K:AV}{I:List Nat}(H:LS mk L w h K I)(hb:w2.bs=w.bs):LS mk2 L w2 (h.set L (mk2 w2 K)) K I:=
 ⟨WT H.lt,by rw[hb];exact H.own.frame λi hi=>WM λe=>(Xh.1 H.nd).1 (by rw[e];exact hi),H.nd,H.noc.1,λkid n rows eK hg=>by
   have ho:=H.own
   rw[eK] at ho
   rw[WM λe=>(Xh.1 H.nd).1 (by rw[e];exact Ad ho)] at hg
   exact H.noc.2 kid n rows eK hg⟩
theorem Kp{h:List AO}{p q r:Nat}(h1:h[p]?=some (AO.row 2 []))(h2:h[q]?=some (AO.row 4 []))(h3:h[r]?=some (AO.row 1 [])):OwnL false h [.sl p 2 0 0,.sl q 4 0 0,.p (.int .i64 0),.p (.int .i64 0),.sl r 1 0 0] bk0.cs [p,q,r]:=by
 have e1:OwnL false h [.sl p 2 0 0] [phL []] [p]:=(⟨h1,rfl,by simp,by simp,.nil,by simp⟩:RowOwn false h p 2 [] [] []).tree rfl
 have e2:OwnL false h [.sl q 4 0 0] [inL []] [q]:=(⟨h2,rfl,by simp,by simp,.nil,by simp⟩:RowOwn false h q 4 [] [] []).tree rfl
 have e3:OwnL false h [.sl r 1 0 0] [bG []] [r]:=(⟨h3,rfl,by simp,by simp,.nil,by simp⟩:RowOwn false h r 1 [] [] []).tree rfl
 exact IQ (b:=bk0) e1 e2 e3
theorem LS.blockAt{mk:Lw->AV->AO}{L:Nat}{w:Lw}{h:List AO}{K:AV}{I:List Nat}(H:LS mk L w h K I)(hp:0<w.bs.length)(os:List AO){p q r:Nat}(hpq:p<q/\q<r/\h.length<=p)(h1:(h++os)[p]?=some (.row 2 []))(h2:(h++os)[q]?=some (.row 4 []))(h3:(h++os)[r]?=some (.row 1 [])):
 ∃kid rows,K= .sl kid 5 0 w.bs.length/\(∀t,(h++t)[kid]?=some (.row 5 rows))/\rows.length=w.bs.length/\kid<h.length/\kid≠L/\
  LR mk L (w.name 1) I h (((h++os).set kid AO.dead++[AO.row 5 (rows++[[.sl p 2 0 0,.sl q 4 0 0,.p (.int .i64 0),.p (.int .i64 0),.sl r 1 0 0]])]).set L (mk (w.name 1) (.sl (h.length+os.length) 5 0 (w.bs.length+1)))):=by
 obtain⟨kid,rows,J,rfl,rfl,hr⟩:=H.rows hp
 have hkl:=hr.lt
 have hLl:=H.lt
 have hlen:=hr.len
 rw[Xp] at hlen
 have hnd:=H.nd
 simp only[Xh,WN,not_or] at hnd
 have hrl:r<(h++os).length:=(WJ.1 h3).1
 rw[Xa] at hrl
 refine⟨kid,rows,rfl,λt=>by rw[WI hkl];exact hr.here,hlen,hkl,λe=>hnd.1.1 e.symm,?_⟩
 have hJl:=λj (hj:j∈J)=>hr.own.lt hj
 have hra:=HC hr (h2:=h++os) rfl (rs:=[[.sl p 2 0 0,.sl q 4 0 0,.p (.int .i64 0),.p (.int .i64 0),.sl r 1 0 0]]) (es:=[bk0.cs]) (I2:=[p,q,r]) (by
  rw[List.flatten_singleton,List.flatten_singleton];exact Kp h1 h2 h3) rfl (by simp) (by simp[bk0,Bk.cs]) (by simp;omega) (λj hj=>by
  simp only[WN,XC,or_false] at hj
  rcases hj with rfl|rfl|rfl
  ·exact⟨by omega,λhm=>by have:=hJl _ hm;omega⟩
  ·exact⟨by omega,λhm=>by have:=hJl _ hm;omega⟩
  ·exact⟨by omega,λhm=>by have:=hJl _ hm;omega⟩)
 have hl0:(h++os).length=h.length+os.length:=by simp
 rw[hl0] at hra
 have hra2:=hra.frame (h':=(((h++os).set kid AO.dead++[AO.row 5 (rows++[[.sl p 2 0 0,.sl q 4 0 0,.p (.int .i64 0),.p (.int .i64 0),.sl r 1 0 0]])]).set L (mk (w.name 1) (.sl (h.length+os.length) 5 0 (w.bs.length+1))))) (λi hi=>WM λe=>by
  subst e
  simp only[WN,WO,XC,or_false] at hi
  rcases hi with h|h|h|h|h
  ·omega
  ·exact hnd.1.2 h
  ·omega
  ·omega
  ·omega)
 refine⟨_,(h.length+os.length)::(J++[p,q,r]),⟨WT (by simp;omega),?_,?_,?_⟩,⟨by simp;omega,λi hi hn=>?_⟩,λj hj=>?_⟩
 ·rw[show bkL (w.name 1).bs= .lst 5 (w.bs.map Bk.cs++[bk0.cs]) by simp[bkL,Lw.name]]
  exact hra2.tree (by simp)
 ·simp only[Xh,WN,WO,XC,or_false,not_or]
  exact⟨⟨by omega,hnd.1.2,by omega,by omega,by omega⟩,by have:=hra.nd;simpa using this⟩
 ·refine⟨λq e=>(by cases e),?_⟩
  intro kid2 n2 rows2 eK hg2 r hr2
  cases eK
  rw[hra2.here] at hg2
  cases hg2
  rcases WO.1 hr2 with h1|h1
  ·exact H.noc.2 kid _ rows rfl hr.here r h1
  ·rw[WR.1 h1];simp
 ·simp only[WN,not_or] at hn
  rw[WM (Ne.symm hn.1),WI (by simp;omega),WM (Ne.symm hn.2.1),WI hi]
 ·simp only[WN,WO,XC,or_false] at hj
  rcases hj with rfl|hj|rfl|rfl|rfl
  ·exact .inr (by omega)
  ·exact .inl (by simp[hj])
  ·exact .inr (by omega)
  ·exact .inr (by omega)
  ·exact .inr (by omega)
variable (G:aL)
section
variable {l:List Fd} {pr:Int} {V:AV} {nx:Nat} {L:Nat} {w:Lw} {h:List AO} {K:AV} {I:List Nat}
theorem OZ(H:LS (lwR l pr V nx) L w h K I)(hw:w.regs<=1073741824):
 AC Tryz.prog G cg [.ptr L 8 0 0] h λx h'=>x= .ret (.p (.int .i64 w.regs))/\h'=h.set L (lwR l pr V nx w.reg K):=by
 have hg:=H.here
 have hw1:IntKind.i64.wrap ((w.regs:Int)+1)=((w.regs+1:Nat):Int):=by rw[ab (by omega) (by omega)];omega
 have hw2:IntKind.i64.wrap (((w.regs+1:Nat):Int)-1)=w.regs:=by rw[ab (by omega) (by omega)];omega
 simp only[lwR] at hg
 refine AC.go tw ?_
 have hgs:∀o,(h.set L o)[L]?=some o:=λo=>WT H.lt
 simp-implicitDefEqProofs[-AV.cells,-AV.isCell,aH,aI,mb,hg, ↓hgs]
 rw[hw1,hw2]
 exact⟨rfl,rfl⟩
theorem tu(H:LS (lwR l pr V nx) L w h K I){B:Nat}(hok:w.Ok B)(hB:B<=1073741824)(x:Ii){A:AV}{J:List Nat}(hA:OwnL false h [A] [bG x.args] J)(ndJ:J.Nodup)(hJ:∀j∈J,j≠L/\j∉I):
 AC Tryz.prog G cQ [.ptr L 8 0 0,.p (.int .i64 x.op),.p (.int .i64 x.to),.p (.int .i64 x.n),A] h λr h'=>r= .ret (.p (.int .i64 x.to))/\LR (lwR l pr V nx) L (w.put x) (I++J) h h':=by
 have hg:=H.here
 obtain⟨kid,rows,b,P,N,X,rfl,hrow,hlen,hb,hcur,⟨p1,p2⟩,⟨n1,n2⟩,⟨x1,x2⟩,hkl,hN⟩:=H.putAt (Ni l pr V nx) hok.pos x hA ndJ hJ
 obtain⟨a1,a2⟩:=gO hA
 have hins:b.ins.length<=B:=hok.ins _ (WW hb)
 have hpos:=hok.pos
 have hrow0:h[kid]?=some (.row 5 rows):=by simpa using hrow []
 simp only[lwR] at hg
 refine AC.go vA ?_
 have hgm:∀t,(h++t)[L]?=some (.row 8 [[.p (fdL l),.p (.int .i64 pr),.p (.int .i64 w.regs),.sl kid 5 0 w.bs.length,.p (.int .i64 w.pos),V,.p (.int .i64 nx),.nils]]):=λt=>by rw[WI H.lt];exact hg
 rcases hN with⟨rfl,hi0,close⟩|⟨iid,rowsN,rfl,hir,hil,hiil,hik,close⟩
 ·simp-implicitDefEqProofs[-AV.cells,-AV.isCell,aH,ae,ag,aw,aI,af,ay,a1,a2,p1,p2,x1,x2,jp,hg,hgm,hrow,hrow0,hcur,hlen]
  exact⟨hok.pos,close [_]⟩
 ·have htk:List.take b.ins.length rowsN=rowsN:=WQ (by omega)
  have hk2:∀t u,((h++t).set iid .dead++u)[kid]?=some (.row 5 rows):=λt u=>by rw[WI (by simp;omega),WM hik];exact hrow t
  simp-implicitDefEqProofs[-AV.cells,-AV.isCell,aH,ae,ag,aw,aI,af,ay,a1,a2,p1,p2,x1,x2,jp,hg,hgm,hrow,hrow0,hcur,hlen,hir,htk, ↓hk2]
  exact⟨hok.pos,⟨by omega,by omega,by omega⟩,close [_]⟩
theorem rN(H:LS (lwR l pr V nx) L w h K I){B:Nat}(hok:w.Ok B)(j o:Int)(g:Nat)(ne:List Int){Y:AV}{J:List Nat}(hY:OwnL false h [Y] [bG ne] J)(ndJ:J.Nodup)(hJ:∀j∈J,j≠L/\j∉I):
 AC Tryz.prog G bR [.ptr L 8 0 0,.p (.int .i64 j),.p (.int .i64 o),Y,.p (.int .i64 g)] h λr h'=>r= .ret (.tup [])/\LR (lwR l pr V nx) L (w.fin j o g ne) (I++J) h h':=by
 have hg:=H.here
 obtain⟨kid,rows,b,P,N,X,rfl,hrow,hlen,hb,hcur,⟨p1,p2⟩,⟨n1,n2⟩,⟨x1,x2⟩,hkl,hkL,close⟩:=H.finAt (Ni l pr V nx) hok.pos
 obtain⟨a1,a2⟩:=gO hY
 have hrow0:h[kid]?=some (.row 5 rows):=by simpa using hrow []
 have hcl:=close j o g ne Y J hY ndJ hJ
 have hLl:=H.lt
 simp only[lwR] at hg
 have hs1:∀o,(h.set kid o)[kid]?=some o:=λo=>WT hkl
 have hs2:∀o,(h.set kid o)[L]?=h[L]?:=λo=>WM hkL
 have hrs:∀r,(rows.set w.pos r)[w.pos]?=some r:=λr=>WT (by rw[hlen];exact hok.pos)
 refine AC.go uM ?_
 simp-implicitDefEqProofs[-AV.cells,-AV.isCell,aH,ae,ag,aw,aI,af,ay,a1,a2,n1,n2,p1,p2,x1,x2,mC,hg,hrow,hrow0,hcur,hlen, ↓hs1, ↓hs2, ↓hrs]
 exact⟨hok.pos,hcl⟩
theorem Bm(H:LS (lwR l pr V nx) L w h K I){B:Nat}(hok:w.Ok B)(hB:B<=1073741824)(hV:V.cells=[V]/\V.isCell=true):
 AC Tryz.prog G cW [.ptr L 8 0 0] h λr h'=>r= .ret (.p (.int .i64 w.bs.length))/\LR (lwR l pr V nx) L (w.name 1) I h h':=by
 have hg:=H.here
 have hp0:=hok.pos
 have hbl:=hok.bs
 obtain⟨v1,v2⟩:=hV
 have hLl:=H.lt
 obtain⟨kid,rows,rfl,hrow,hlen,hkl,hkL,close⟩:=H.blockAt (by omega) [.row 2 [],.row 4 [],.row 1 [],.row 5 [[.sl h.length 2 0 0,.sl (h.length+1) 4 0 0,.p (.int .i64 0),.p (.int .i64 0),.sl (h.length+2) 1 0 0]]] (p:=h.length) (q:=h.length+1) (r:=h.length+2) ⟨by omega,by omega,by omega⟩ (by rw[WP (WV _)];simp) (by rw[WP (by omega)];simp) (by rw[WP (by omega)];simp)
 have hrow0:h[kid]?=some (.row 5 rows):=by simpa using hrow []
 simp only[lwR] at hg
 have htk:List.take w.bs.length rows=rows:=WQ (by omega)
 have hgm:∀t,(h++t)[L]?=some (.row 8 [[.p (fdL l),.p (.int .i64 pr),.p (.int .i64 w.regs),.sl kid 5 0 w.bs.length,.p (.int .i64 w.pos),V,.p (.int .i64 nx),.nils]]):=λt=>by rw[WI H.lt];exact hg
 have hs2:∀t u,((h++t).set kid .dead++u)[L]?=some (.row 8 [[.p (fdL l),.p (.int .i64 pr),.p (.int .i64 w.regs),.sl kid 5 0 w.bs.length,.p (.int .i64 w.pos),V,.p (.int .i64 nx),.nils]]):=λt u=>by rw[WI (by simp;omega),WM hkL];exact hgm t
 have hs3:∀t u o,(((h++t).set kid .dead++u).set L o)[L]?=some o:=λt u o=>WT (by simp;omega)
 have hw1:IntKind.i64.wrap (((w.bs.length+1:Nat):Int)-1)=w.bs.length:=by rw[ab (by omega) (by omega)];omega
 refine AC.go lJ ?_
 simp-implicitDefEqProofs[-AV.cells,-AV.isCell,aH,ae,ag,aw,aI,af,ay,v1,v2,gN,hg,hgm,hrow,hrow0,hlen,htk, ↓hs2, ↓hs3]
 exact⟨⟨by omega,by omega⟩,ab (by omega) (by omega),close⟩
end
end
section
theorem Cb:AK.whole lq=FK.ak lG:=rfl
variable (G:aL)
theorem rD(o:Int):VF Tryz.prog G iu [.p (.int .i64 o)] (.p (.bool (gn o))):=by
 refine AC.go BW ?_
 simp-implicitDefEqProofs[pW]
 refine(cI G o 1 14).use ?_
 cases hb:inR o 1 14 with
 |false=>simp-implicitDefEqProofs[gn,hb]
 |true=>
  by_cases h1:o=12
  ·simp-implicitDefEqProofs[gn,hb,h1]
  ·simp-implicitDefEqProofs[gn,hb,h1]
def l7N(o:Int):Int:=if o=1 then 0 else if o=2\/o=10\/o=11\/o=13 then 1 else if inR o 3 9=true\/o=12 then 2 else-1
theorem Ga(o:Int):VF Tryz.prog G mY [.p (.int .i64 o)] (.p (.int .i64 (l7N o))):=by
 refine AC.go CS ?_
 by_cases h1:o=1
 ·simp-implicitDefEqProofs[dA,l7N,h1]
 by_cases h2:o=2
 ·simp-implicitDefEqProofs[dA,l7N,h2]
 by_cases h3:o=10
 ·simp-implicitDefEqProofs[dA,l7N,h3]
 by_cases h4:o=11
 ·simp-implicitDefEqProofs[dA,l7N,h4]
 by_cases h5:o=13
 ·simp-implicitDefEqProofs[dA,l7N,h5]
 simp-implicitDefEqProofs[dA,h1,h2,h3,h4,h5]
 refine(cI G o 3 9).use ?_
 cases hb:inR o 3 9 with
 |true=>simp-implicitDefEqProofs[l7N,hb,h1,h2,h3,h4,h5]
 |false=>
  by_cases h6:o=12
  ·simp-implicitDefEqProofs[l7N,h6,hb]
  ·simp-implicitDefEqProofs[l7N,hb,h1,h2,h3,h4,h5,h6]
theorem Ho(c:Cd)(h0:0<=c.regs)(h1:c.regs<=300)(l:List Int)(hl:l.length<=1073741824):VF Tryz.prog G jI [.agg (c.cs.map .p),.p (bG l)] (.p (.bool (l.all (eu c.regs)))):=by
 have hcs:=c.cs_eq2
 have hnl:bG l= .lst 1 (l.map λn=>[.int .i64 n]):=rfl
 have hwr:IntKind.i64.wrap (c.regs-1)=c.regs-1:=ab (by omega) (by omega)
 refine AC.go Dn ?_
 simp-implicitDefEqProofs[sX,hcs,hnl]
 refine aM (λi:Nat=>aC 21 [(1,.p (bG l)),(2,.ptr 0 3 0 0),(5,.p (.int .i64 i))]) (λ_=>[.row 3 [[.p (.int .i64 c.params),.p (.int .i64 c.regs),.p (bkL c.blocks)]]]) (λi=>i<=l.length/\∀r∈l.take i,eu c.regs r=true) (λi=>l.length-i) 0 (by simp) ?_ ?_
 ·exact aq (by simp) (by simp[below,hnl])
 rintro i ⟨hi,hp⟩
 simp-implicitDefEqProofs[hnl]
 refine aO (λhc=>?_) (λhc=>?_)
 ·simp at hc
  have hg:=WK hc
  have htk:=an hc
  have hm:=WY hc
  generalize l[i]=r at hg htk hm
  simp-implicitDefEqProofs[hg,hwr]
  refine(cI G r 0 (c.regs-1)).use ?_
  cases hb:inR r 0 (c.regs-1) with
  |false=>simp-implicitDefEqProofs[nO hm (p:=eu c.regs) hb]
  |true=>
   simp-implicitDefEqProofs[]
   refine⟨i+1,⟨by omega,λx hx=>?_⟩,by omega,aq (by simp) (by simp[below,hnl,w1 (i:=i) (by omega)])⟩
   rw[htk] at hx
   rcases WO.1 hx with hx|hx
   ·exact hp x hx
   ·rw[WR.1 hx];exact hb
 ·simp at hc
  rw[WQ hc] at hp
  simp-implicitDefEqProofs[WU.2 hp]
theorem Pm(u:List Cd)(k:Nat)(c:Cd)(hk:u[k]?=some c)(h0:0<=c.regs)(h1:c.regs<=300)(hu:u.length<=1073741824)(x:Ii)(hl:x.args.length<=1073741824):VF Tryz.prog G oC [.agg [.p (cdL u)],.p (.int .i64 k),.agg (x.cs.map .p)] (.p (.bool (jY u k c.regs x))):=by
 have hcs:=c.cs_eq2
 have hxs:=x.cs_eq2
 have hul:cdL u= .lst 3 (u.map Cd.cs):=rfl
 have hnl:bG x.args= .lst 1 (x.args.map λn=>[.int .i64 n]):=rfl
 have hku:=(WJ.1 hk).1
 have hwr:IntKind.i64.wrap (c.regs-1)=c.regs-1:=ab (by omega) (by omega)
 have hwk:IntKind.i64.wrap ((k:Int)-1)=(k:Int)-1:=ab (by omega) (by omega)
 have hR:=Ho G c h0 h1 x.args hl
 rw[hcs,hnl] at hR
 clear hku
 refine AC.go Fh ?_
 simp-implicitDefEqProofs[uB,hxs,hul,hk,hcs,hnl]
 refine(cI G x.op 1 14).use ?_
 cases hb1:inR x.op 1 14 with
 |false=>simp-implicitDefEqProofs[jY,hb1]
 |true=>
 simp-implicitDefEqProofs[]
 refine hR.use ?_
 cases hb2:x.args.all (eu c.regs) with
 |false=>simp-implicitDefEqProofs[jY,hb2]
 |true=>
 simp-implicitDefEqProofs[]
 refine(rD G x.op).use ?_
 simp-implicitDefEqProofs[hwr]
 refine(cI G x.to 0 (c.regs-1)).use ?_
 have hlast:∀b:Bool,(if gn x.op then eu c.regs x.to else decide (x.to= -1))=true->jY u k c.regs x=(if x.op=14 then inR x.n 0 ((k:Int)-1)&&decide ((x.args.length:Int)=FF u x.n)
  else if x.op=1 then decide (x.args.length=0)&&inR x.n 0 255
  else decide (x.n=0)&&decide ((x.args.length:Int)=pC x.op)):=λ_ h=>by rw[jY,hb1,hb2,h];simp
 have hbad:(if gn x.op then eu c.regs x.to else decide (x.to= -1))=false->jY u k c.regs x=false:=λh=>by rw[jY,h];simp
 have hrb:eu c.regs x.to=inR x.to 0 (c.regs-1):=rfl
 have rest:∀Q:AKW Tryz.prog G 0 .skip [] [] (λ_ _ _=>True),True:=λ_=>trivial
 have hins:jY u k c.regs x=(if x.op=14 then inR x.n 0 ((k:Int)-1)&&decide ((x.args.length:Int)=FF u x.n) else decide ((x.args.length:Int)=l7N x.op)&&inR x.n 0 255&&(decide (x.n=0)||decide (x.op=1)))\/(if gn x.op then eu c.regs x.to else decide (x.to= -1))=false:=by
  cases hs:(if gn x.op then eu c.regs x.to else decide (x.to= -1)) with
  |false=>exact .inr rfl
  |true=>
   refine .inl ?_
   rw[hlast true hs]
   by_cases o14:x.op=14
   ·rw[if_pos o14,if_pos o14]
   ·rw[if_neg o14,if_neg o14]
    by_cases o1:x.op=1
    ·rw[if_pos o1,l7N,if_pos o1]
     simp[o1]
    ·rw[if_neg o1,l7N,if_neg o1,pC,if_neg o1]
     have hr39:¬(x.op=2\/x.op=10\/x.op=11\/x.op=13)->(inR x.op 3 9=true\/x.op=12):=λh=>by
      simp only[inR,WX,decide_eq_true_eq] at hb1⊢
      omega
     have h255:x.n=0->inR x.n 0 255=true:=λh=>by rw[h];rfl
     by_cases o2:x.op=2\/x.op=10\/x.op=11\/x.op=13
     ·rw[if_pos o2,if_pos o2,Bool.eq_iff_iff]
      simp[o1]
      constructor
      ·rintro⟨a,b⟩;exact⟨⟨b,h255 a⟩,a⟩
      ·rintro⟨⟨a,_⟩,b⟩;exact⟨b,a⟩
     ·rw[if_neg o2,if_neg o2,if_pos (hr39 o2),Bool.eq_iff_iff]
      simp[o1]
      constructor
      ·rintro⟨a,b⟩;exact⟨⟨b,h255 a⟩,a⟩
      ·rintro⟨⟨a,_⟩,b⟩;exact⟨b,a⟩
 have mW:(if gn x.op then eu c.regs x.to else decide (x.to= -1))=true->jY u k c.regs x=(if x.op=14 then inR x.n 0 ((k:Int)-1)&&decide ((x.args.length:Int)=FF u x.n) else decide ((x.args.length:Int)=l7N x.op)&&inR x.n 0 255&&(decide (x.n=0)||decide (x.op=1))):=λh=>by
  rcases hins with h1|h1
  ·exact h1
  ·rw[h] at h1;cases h1
 clear hins hlast rest
 have hgo:gn x.op=true/\inR x.to 0 (c.regs-1)=true\/(gn x.op=false/\inR x.to 0 (c.regs-1)=false/\x.to= -1)\/(if gn x.op then eu c.regs x.to else decide (x.to= -1))=false:=by
  cases hs:gn x.op with
  |true=>
   rw[hrb]
   cases inR x.to 0 (c.regs-1)<;>simp
  |false=>
   by_cases h:x.to= -1
   ·rw[h];refine .inr (.inl ⟨rfl,?_,rfl⟩);simp[inR]
   ·simp[h]
 rcases hgo with⟨hs,ht⟩|⟨hs,ht,hto⟩|hf
 ·have tl:=mW (by rw[hs,if_pos rfl,hrb];exact ht)
  rw[tl]
  simp-implicitDefEqProofs[hs,ht]
  refine(rD G x.op).use ?_
  simp-implicitDefEqProofs[hs]
  by_cases o14:x.op=14
  ·simp-implicitDefEqProofs[o14,hwk]
   refine(cI G x.n 0 ((k:Int)-1)).use ?_
   cases hn:inR x.n 0 ((k:Int)-1) with
   |false=>simp-implicitDefEqProofs[]
   |true=>
    simp only[inR,WX,decide_eq_true_eq] at hn
    have hlt:x.n.toNat<u.length:=by
     have:=(WJ.1 hk).1
     omega
    obtain⟨c2,hc2⟩:∃c2,u[x.n.toNat]?=some c2:=⟨_,WK hlt⟩
    have hc2s:=c2.cs_eq2
    clear hlt
    obtain⟨m,hm⟩:∃m:Nat,x.n=m:=⟨x.n.toNat,by omega⟩
    rw[hm] at hc2⊢
    simp only[Int.toNat_natCast] at hc2
    simp-implicitDefEqProofs[hc2,hc2s,FF]
  ·simp-implicitDefEqProofs[o14]
   refine(Ga G x.op).use ?_
   by_cases hla:(x.args.length:Int)=l7N x.op
   ·simp-implicitDefEqProofs[hla]
    refine(cI G x.n 0 255).use ?_
    cases hn:inR x.n 0 255 with
    |false=>simp-implicitDefEqProofs[]
    |true=>
     by_cases hx0:x.n=0
     ·simp-implicitDefEqProofs[hx0]
     ·simp-implicitDefEqProofs[hx0]
   ·simp-implicitDefEqProofs[hla]
 ·have tl:=mW (by rw[hs];simp[hto])
  rw[tl]
  simp-implicitDefEqProofs[hs,ht]
  refine(rD G x.op).use ?_
  simp-implicitDefEqProofs[hs,hto]
  by_cases o14:x.op=14
  ·simp-implicitDefEqProofs[o14,hwk]
   refine(cI G x.n 0 ((k:Int)-1)).use ?_
   cases hn:inR x.n 0 ((k:Int)-1) with
   |false=>simp-implicitDefEqProofs[]
   |true=>
    simp only[inR,WX,decide_eq_true_eq] at hn
    have hlt:x.n.toNat<u.length:=by
     have:=(WJ.1 hk).1
     omega
    obtain⟨c2,hc2⟩:∃c2,u[x.n.toNat]?=some c2:=⟨_,WK hlt⟩
    have hc2s:=c2.cs_eq2
    clear hlt
    obtain⟨m,hm⟩:∃m:Nat,x.n=m:=⟨x.n.toNat,by omega⟩
    rw[hm] at hc2⊢
    simp only[Int.toNat_natCast] at hc2
    simp-implicitDefEqProofs[hc2,hc2s,FF]
  ·simp-implicitDefEqProofs[o14]
   refine(Ga G x.op).use ?_
   by_cases hla:(x.args.length:Int)=l7N x.op
   ·simp-implicitDefEqProofs[hla]
    refine(cI G x.n 0 255).use ?_
    cases hn:inR x.n 0 255 with
    |false=>simp-implicitDefEqProofs[]
    |true=>
     by_cases hx0:x.n=0
     ·simp-implicitDefEqProofs[hx0]
     ·simp-implicitDefEqProofs[hx0]
   ·simp-implicitDefEqProofs[hla]
 ·rw[hbad hf]
  cases hs:gn x.op with
  |true=>
   rw[hs,if_pos rfl,hrb] at hf
   simp-implicitDefEqProofs[hf]
  |false=>
   rw[hs] at hf
   have hto:¬x.to= -1:=by simpa using hf
   cases ht:inR x.to 0 (c.regs-1) with
   |true=>simp-implicitDefEqProofs[]
   |false=>
    simp-implicitDefEqProofs[]
    refine(rD G x.op).use ?_
    simp-implicitDefEqProofs[hs,hto]
def fG(l:List Int):List (List AV):=l.map λn=>[AV.p (.int .i64 n)]
structure PrS where (i:Nat) (X:List AO) (o:Nat)
theorem HE(c:Cd)(b:Int)(hl:c.blocks.length<=1073741824)(hn:∀x∈c.blocks,x.next.length<=1073741824):AC Tryz.prog G iz [.agg (c.cs.map .p),.p (.int .i64 b)] [] λx h=>∃id,x= .ret (.sl id 1 0 (de c.blocks b).length)/\h[id]?=some (.row 1 (fG (de c.blocks b))):=by
 have hcs:=c.cs_eq2
 have hbl:bkL c.blocks= .lst 5 (c.blocks.map Bk.cs):=rfl
 refine AC.go AJ ?_
 simp-implicitDefEqProofs[rr,hcs,hbl]
 obtain⟨bo,hbo⟩:∃bo,bo=AO.row 3 [[.p (.int .i64 c.params),.p (.int .i64 c.regs),.p (.lst 5 (c.blocks.map Bk.cs))]]:=⟨_,rfl⟩
 refine aM (λa:PrS=>aC 43 [(1,.p (.int .i64 b)),(2,.ptr 0 3 0 0),(5,.sl a.o 1 0 (de (c.blocks.take a.i) b).length),(6,.p (.int .i64 a.i))]) (λa=>a.X)
  (λa=>a.i<=c.blocks.length/\a.X[0]?=some (.row 3 [[.p (.int .i64 c.params),.p (.int .i64 c.regs),.p (.lst 5 (c.blocks.map Bk.cs))]])/\1<=a.o/\a.X[a.o]?=some (.row 1 (fG (de (c.blocks.take a.i) b)))) (λa=>c.blocks.length-a.i) ⟨0,[.row 3 [[.p (.int .i64 c.params),.p (.int .i64 c.regs),.p (.lst 5 (c.blocks.map Bk.cs))]],.row 1 []],1⟩ ⟨Xr _,rfl,by simp,rfl⟩ ?_ ?_
 ·exact aq (by simp) (by simp[below,de])
 rintro⟨i,X,o⟩ ⟨hi,hx0,ho,hxo⟩
 simp only at hi hx0 ho hxo
 have hX0:=(WJ.1 hx0).1
 have hXo:=(WJ.1 hxo).1
 simp-implicitDefEqProofs[hx0]
 refine aO (λhc=>?_) (λhc=>?_)
 ·simp at hc
  have hg:=WK hc
  have hm:=WY hc
  have hpt:=zw (b:=b) hg
  have hpl:=oL (c.blocks.take i) b
  rw[Xi,Nat.min_eq_left (by omega)] at hpl
  have hnx:=hn _ hm
  generalize c.blocks[i]=x at hg hpt hnx
  generalize de (c.blocks.take i) b=out at hxo hpt hpl
  have hxs:=x.cs_eq2
  have hnl:bG x.next= .lst 1 (x.next.map λn=>[.int .i64 n]):=rfl
  simp-implicitDefEqProofs[]
  have hw1:=w1 (i:=i) (by omega)
  refine aM (λj:Nat=>aC 43 [(7,.p (.int .i64 j)),(1,.p (.int .i64 b)),(2,.ptr 0 3 0 0),(5,.sl o 1 0 out.length),(6,.p (.int .i64 i))]) (λ_=>X) (λj=>j<=x.next.length/\b∉x.next.take j) (λj=>x.next.length-j) 0 (by simp) ?_ ?_
  ·exact aq (by simp) (by simp[below,hXo,hX0])
  rintro j ⟨hj,hnb⟩
  simp-implicitDefEqProofs[hx0,hg,hxs,hnl]
  refine aO (λhc2=>?_) (λhc2=>?_)
  ·simp at hc2
   have hg2:=WK hc2
   have htk:=an hc2
   have hm2:=WY hc2
   generalize x.next[j]=r at hg2 htk hm2
   simp-implicitDefEqProofs[hx0,hg,hxs,hnl,hg2]
   refine aO (λhe=>?_) (λhe=>?_)
   ·have he:r=b:=by simpa using he
    rw[if_pos (he▸hm2)] at hpt
    have hxm:∀t,(X++t)[o]?=some (.row 1 (fG out)):=λt=>by rw[WI hXo];exact hxo
    have htl:List.take out.length (fG out)=fG out:=WQ (by simp[fG])
    have hrl:(fG out).length=out.length:=by simp[fG]
    simp-implicitDefEqProofs[hxm,htl,hrl]
    refine⟨⟨by omega,by omega⟩,⟨i+1,_,X.length+1⟩,⟨by simp only;omega,?_,by simp only;omega,?_⟩,by simp only;omega,aq (Xr _) ?_⟩
    ·rw[WI (by simp),WM (by omega),WI hX0];exact hx0
    ·rw[hpt,WP (by simp)];simp[fG]
    ·simp[below,hpt,hw1]
   ·have he:¬r=b:=by simpa using he
    simp-implicitDefEqProofs[]
    refine⟨j+1,⟨by omega,λhm=>?_⟩,by omega,aq (by simp) (by simp[below,hXo,hX0,w1 (i:=j) (by omega)])⟩
    rw[htk] at hm
    rcases WO.1 hm with hm|hm
    ·exact hnb hm
    ·exact he (WR.1 hm).symm
  ·simp at hc2
   rw[WQ hc2] at hnb
   rw[if_neg hnb,Xe] at hpt
   simp-implicitDefEqProofs[]
   refine⟨⟨i+1,X,o⟩,⟨by simp only;omega,hx0,ho,by rw[hpt];exact hxo⟩,by simp only;omega,aq (Xr _) ?_⟩
   simp[below,hpt,hw1,hXo,hX0]
 ·simp at hc
  have hie:i=c.blocks.length:=by omega
  subst hie
  rw[Xk] at hxo
  simp-implicitDefEqProofs[hxo]
theorem DK{h:List AO}{id:Nat}{l:List Int}(e:h[id]?=some (.row 1 (fG l))):View h (.sl id 1 0 l.length) (bG l):=by
 have hh:fG l=(l.map λn=>[PV.int .i64 n]).map (·.map .p):=by simp[fG]
 rw[hh] at e
 exact gm e (by simp) (λx hx=>by obtain⟨b,_,rfl⟩:=Xl.1 hx;rfl)
theorem LZ(c:Cd)(b:Int)(hl:c.blocks.length<=1073741824)(hn:∀x∈c.blocks,x.next.length<=1073741824):VF Tryz.prog G iz [.agg (c.cs.map .p),.p (.int .i64 b)] (.p (bG (de c.blocks b))):=
 (HE G c b hl hn).freezeR (λt v h ⟨_,e,_⟩=>by cases e) λv h ⟨id,e1,e2⟩=>by
   cases e1
   exact .one (DK e2) .nil
theorem LE(u:List Cd)(k b:Nat)(c:Cd)(x:Bk)(hk:u[k]?=some c)(hb:c.blocks[b]?=some x)(h0:0<=c.regs)(h1:c.regs<=300)(hu:LT 1073741824 u):VF Tryz.prog G lw [.agg [.p (cdL u)],.p (.int .i64 k),.p (.int .i64 b)] (.p (.bool (bkB u k c b x))):=by
 have hcf:=hu.2 c (WW hk)
 have hxf:=hcf.2 x (WW hb)
 have hcs:=c.cs_eq2
 have hxs:=x.cs_eq2
 have hul:cdL u= .lst 3 (u.map Cd.cs):=rfl
 have hbl:bkL c.blocks= .lst 5 (c.blocks.map Bk.cs):=rfl
 have hnl:bG x.next= .lst 1 (x.next.map λn=>[.int .i64 n]):=rfl
 have hil:inL x.ins= .lst 4 (x.ins.map Ii.cs):=rfl
 have hpl:phL x.phis= .lst 2 (x.phis.map Ph.cs):=rfl
 have hwr:IntKind.i64.wrap (c.regs-1)=c.regs-1:=ab (by omega) (by omega)
 have hcl:=hcf.1
 have hwb:IntKind.i64.wrap ((c.blocks.length:Int)-1)=(c.blocks.length:Int)-1:=ab (by omega) (by omega)
 refine AC.goK By Cb ?_
 obtain⟨H0,hH0⟩:∃H0,H0=[AO.row 1 [[.p (.lst 3 (u.map Cd.cs))]],.row 3 [[.p (.int .i64 c.params),.p (.int .i64 c.regs),.p (.lst 5 (c.blocks.map Bk.cs))]],.row 5 [[.p (phL x.phis),.p (inL x.ins),.p (.int .i64 x.jump),.p (.int .i64 x.on),.p (bG x.next)]]]:=⟨_,rfl⟩
 have g0:H0[0]?=some (.row 1 [[.p (.lst 3 (u.map Cd.cs))]]):=by rw[hH0];rfl
 have g1:H0[1]?=some (.row 3 [[.p (.int .i64 c.params),.p (.int .i64 c.regs),.p (.lst 5 (c.blocks.map Bk.cs))]]):=by rw[hH0];rfl
 have g2:H0[2]?=some (.row 5 [[.p (phL x.phis),.p (inL x.ins),.p (.int .i64 x.jump),.p (.int .i64 x.on),.p (bG x.next)]]):=by rw[hH0];rfl
 have gl:H0.length=3:=by rw[hH0];rfl
 obtain⟨SL,hSL⟩:∃SL:List (Nat × AV),SL=[(8,.ptr 2 5 0 0),(7,.ptr 1 3 0 0),(3,.ptr 0 1 0 0),(1,.p (.int .i64 k)),(2,.p (.int .i64 b))]:=⟨_,rfl⟩
 simp-implicitDefEqProofs[lq,lG,hul,hk,hcs,hbl,hb,hxs]
 rw[←hH0]
 refine lB (λ_:Unit=>aC 136 ((9,.p (.int .i64 (nxN x.jump)))::[(8,.ptr 2 5 0 0),(7,.ptr 1 3 0 0),(3,.ptr 0 1 0 0),(1,.p (.int .i64 k)),(2,.p (.int .i64 b))])) (λ_=>H0) (λ_=>(x.jump=1/\x.on=0)\/x.jump=2\/x.jump=3) ?_ ?_
 ·by_cases j1:x.jump=1
  ·by_cases jo:x.on=0
   ·simp-implicitDefEqProofs[g2,j1,jo]
    exact aq (by simp) (by simp[below,gl,nxN])
   ·have hf:bkB u k c b x=false:=by simp[bkB,onU,j1,jo]
    simp-implicitDefEqProofs[g2,j1,jo,hf]
  ·by_cases j2:x.jump=2
   ·simp-implicitDefEqProofs[g2,j2]
    exact aq (by simp) (by simp[below,gl,nxN])
   ·by_cases j3:x.jump=3
    ·simp-implicitDefEqProofs[g2,j3]
     exact aq (by simp) (by simp[below,gl,nxN])
    ·have hnn:nxN x.jump= -1:=by simp[nxN,j1,j2,j3]
     have hf:bkB u k c b x=false:=by
      have:¬((x.next.length:Int)= -1):=by omega
      simp[bkB,hnn,this]
     simp-implicitDefEqProofs[g2,j1,j2,j3,hf]
 rintro⟨⟩ hj
 refine lB (λ_:Unit=>aC 136 [(8,.ptr 2 5 0 0),(7,.ptr 1 3 0 0),(3,.ptr 0 1 0 0),(1,.p (.int .i64 k)),(2,.p (.int .i64 b))]) (λ_=>H0) (λ_=>(decide ((x.next.length:Int)=nxN x.jump)&&(if onU x.jump then eu c.regs x.on else decide (x.on=0)))=true) ?_ ?_
 ·by_cases hlen:(x.next.length:Int)=nxN x.jump
  ·by_cases j1:x.jump=1
   ·have jo:x.on=0:=by omega
    simp-implicitDefEqProofs[g2,hlen,hnl,j1,jo]
    refine⟨by simp[onU],aq (by simp) (by simp[below,gl])⟩
   ·have hon:onU x.jump=true:=by
     simp only[onU,Bool.or_eq_true,decide_eq_true_eq];omega
    simp-implicitDefEqProofs[g2,g1,hlen,hnl,j1,hwr]
    refine(cI G x.on 0 (c.regs-1)).use ?_
    cases hr:inR x.on 0 (c.regs-1) with
    |false=>
     have hf:bkB u k c b x=false:=by simp[bkB,hon,eu,hr]
     simp-implicitDefEqProofs[hf]
    |true=>
     simp-implicitDefEqProofs[hon,eu,hr]
     exact aq (by simp) (by simp[below,gl])
  ·have hf:bkB u k c b x=false:=by simp[bkB,hlen]
   simp-implicitDefEqProofs[g2,hlen,hnl,hf]
 rintro⟨⟩ hc1
 refine lB (λ_:Unit=>aC 136 [(8,.ptr 2 5 0 0),(7,.ptr 1 3 0 0),(3,.ptr 0 1 0 0),(1,.p (.int .i64 k)),(2,.p (.int .i64 b))]) (λ_=>H0) (λ_=>x.next.all (λn=>inR n 1 ((c.blocks.length:Int)-1))=true) ?_ ?_
 ·simp-implicitDefEqProofs[]
  refine aM (λi:Nat=>aC 136 [(10,.p (.int .i64 i)),(8,.ptr 2 5 0 0),(7,.ptr 1 3 0 0),(3,.ptr 0 1 0 0),(1,.p (.int .i64 k)),(2,.p (.int .i64 b))]) (λ_=>H0) (λi=>i<=x.next.length/\∀n∈x.next.take i,inR n 1 ((c.blocks.length:Int)-1)=true) (λi=>x.next.length-i) 0 (by simp) (aq (by simp) (by simp[below,gl])) ?_
  rintro i ⟨hi,hp⟩
  simp-implicitDefEqProofs[g2,hnl]
  refine aO (λhc=>?_) (λhc=>?_)
  ·simp at hc
   have hg:=WK hc
   have htk:=an hc
   have hm:=WY hc
   have hxn:=hxf.next
   generalize x.next[i]=n at hg htk hm
   simp-implicitDefEqProofs[g2,g1,hnl,hg,hwb]
   refine(cI G n 1 ((c.blocks.length:Int)-1)).use ?_
   cases hr:inR n 1 ((c.blocks.length:Int)-1) with
   |false=>
    have hf:bkB u k c b x=false:=by
     rw[bkB,nO hm (p:=λn=>inR n 1 ((c.blocks.length:Int)-1)) hr];simp
    simp-implicitDefEqProofs[hf]
   |true=>
    simp-implicitDefEqProofs[]
    refine⟨i+1,⟨by omega,λy hy=>?_⟩,by omega,aq (by simp) (by simp[below,gl,w1 (i:=i) (by omega)])⟩
    rw[htk] at hy
    rcases WO.1 hy with hy|hy
    ·exact hp y hy
    ·rw[WR.1 hy];exact hr
  ·simp at hc
   rw[WQ hc] at hp
   simp-implicitDefEqProofs[]
   exact⟨hp,aq (by simp) (by simp[below,gl])⟩
 rintro⟨⟩ hc2
 refine lB (λ_:Unit=>aC 136 [(8,.ptr 2 5 0 0),(7,.ptr 1 3 0 0),(3,.ptr 0 1 0 0),(1,.p (.int .i64 k)),(2,.p (.int .i64 b))]) (λ_=>H0) (λ_=>x.ins.all (jY u k c.regs)=true) ?_ ?_
 ·simp-implicitDefEqProofs[]
  refine aM (λi:Nat=>aC 136 [(11,.p (.int .i64 i)),(8,.ptr 2 5 0 0),(7,.ptr 1 3 0 0),(3,.ptr 0 1 0 0),(1,.p (.int .i64 k)),(2,.p (.int .i64 b))]) (λ_=>H0) (λi=>i<=x.ins.length/\∀n∈x.ins.take i,jY u k c.regs n=true) (λi=>x.ins.length-i) 0 (by simp) (aq (by simp) (by simp[below,gl])) ?_
  rintro i ⟨hi,hp⟩
  simp-implicitDefEqProofs[g2,hil]
  refine aO (λhc=>?_) (λhc=>?_)
  ·simp at hc
   have hg:=WK hc
   have htk:=an hc
   have hm:=WY hc
   have hxn:=hxf.ins
   have hargs:=hxf.ia _ hm
   generalize x.ins[i]=n at hg htk hm hargs
   have hns:=n.cs_eq2
   have hI:=Pm G u k c hk h0 h1 hu.1 n hargs
   rw[hns,hul] at hI
   simp-implicitDefEqProofs[g2,g0,hil,hg,hns]
   refine hI.use ?_
   cases hr:jY u k c.regs n with
   |false=>
    have hf:bkB u k c b x=false:=by
     rw[bkB,nO hm (p:=jY u k c.regs) hr];simp
    simp-implicitDefEqProofs[hf]
   |true=>
    simp-implicitDefEqProofs[]
    refine⟨i+1,⟨by omega,λy hy=>?_⟩,by omega,aq (by simp) (by simp[below,gl,w1 (i:=i) (by omega)])⟩
    rw[htk] at hy
    rcases WO.1 hy with hy|hy
    ·exact hp y hy
    ·rw[WR.1 hy];exact hr
  ·simp at hc
   rw[WQ hc] at hp
   simp-implicitDefEqProofs[]
   exact⟨hp,aq (by simp) (by simp[below,gl])⟩
 rintro⟨⟩ hc3
 have hP:=LZ G c b hcl (λy hy=>(hcf.2 y hy).next)
 rw[hcs,hbl] at hP
 obtain⟨P,hPe⟩:∃P,P=de c.blocks b:=⟨_,rfl⟩
 have hPl:P.length<=1073741824:=by rw[hPe];exact XF (oL _ _) hcl
 rw[←hPe] at hP
 have hPL:bG P= .lst 1 (P.map λn=>[.int .i64 n]):=rfl
 rw[hPL] at hP
 simp-implicitDefEqProofs[g1]
 refine hP.use ?_
 simp-implicitDefEqProofs[]
 refine lB (λ_:Unit=>aC 136 [(8,.ptr 2 5 0 0)]) (λ_=>H0) (λ_=>x.phis.all (phB c.regs b P.length)=true) ?_ ?_
 ·simp-implicitDefEqProofs[]
  refine aM (λi:Nat=>aC 136 [(13,.p (.int .i64 i)),(12,.p (.lst 1 (P.map λn=>[.int .i64 n]))),(8,.ptr 2 5 0 0),(7,.ptr 1 3 0 0),(3,.ptr 0 1 0 0),(1,.p (.int .i64 k)),(2,.p (.int .i64 b))]) (λ_=>H0) (λi=>i<=x.phis.length/\∀n∈x.phis.take i,phB c.regs b P.length n=true) (λi=>x.phis.length-i) 0 (by simp) (aq (by simp) (by simp[below,gl])) ?_
  rintro i ⟨hi,hp⟩
  simp-implicitDefEqProofs[g2,hpl]
  refine aO (λhc=>?_) (λhc=>?_)
  ·simp at hc
   have hg:=WK hc
   have htk:=an hc
   have hm:=WY hc
   have hxn:=hxf.phis
   have hargs:=hxf.pa _ hm
   generalize x.phis[i]=n at hg htk hm hargs
   have hns:=n.cs_eq2
   have hna:bG n.args= .lst 1 (n.args.map λn=>[.int .i64 n]):=rfl
   have hbad:phB c.regs b P.length n=false->bkB u k c b x=false:=λh=>by
    rw[bkB,←hPe,nO hm (p:=phB c.regs b P.length) h];simp
   have hR:=Ho G c h0 h1 n.args hargs
   rw[hcs,hbl,hna] at hR
   by_cases hb0:b=0
   ·subst hb0
    have hf:=hbad (by simp[phB])
    simp-implicitDefEqProofs[hf]
   ·have hb0':¬(b:Int)=0:=by omega
    by_cases hl:n.args.length=P.length
    ·have hl':(n.args.length:Int)=(P.length:Int):=by omega
     simp-implicitDefEqProofs[hb0,hb0',g2,g1,hpl,hg,hns,hna,hl']
     refine hR.use ?_
     cases hr:n.args.all (eu c.regs) with
     |false=>
      have hf:=hbad (by simp[phB,hr])
      simp-implicitDefEqProofs[hf]
     |true=>
      simp-implicitDefEqProofs[g2,g1,hpl,hg,hns,hna,hwr]
      refine(cI G n.to 0 (c.regs-1)).use ?_
      cases ht:inR n.to 0 (c.regs-1) with
      |false=>
       have hf:=hbad (by simp[phB,eu,ht])
       simp-implicitDefEqProofs[hf]
      |true=>
       simp-implicitDefEqProofs[]
       refine⟨i+1,⟨by omega,λy hy=>?_⟩,by omega,aq (by simp) (by simp[below,gl,w1 (i:=i) (by omega)])⟩
       rw[htk] at hy
       rcases WO.1 hy with hy|hy
       ·exact hp y hy
       ·rw[WR.1 hy]
        simp only[phB,hb0,hl,hr,eu,ht]
        rfl
    ·have hl':¬(n.args.length:Int)=(P.length:Int):=by omega
     have hf:=hbad (by simp[phB,hl])
     simp-implicitDefEqProofs[hb0,hb0',g2,g1,hpl,hg,hns,hna,hl',hf]
  ·simp at hc
   rw[WQ hc] at hp
   simp-implicitDefEqProofs[]
   exact⟨hp,aq (by simp) (by simp[below,gl])⟩
 rintro⟨⟩ hc4
 have ht:bkB u k c b x=true:=by
  rw[bkB,←hPe,hc1,hc2,hc3,hc4];rfl
 simp-implicitDefEqProofs[ht]
theorem NZ{u:List Cd}{k:Nat}{c:Cd}(h1:inR c.params 0 3=true)(h2:inR c.regs c.params 300=true)(h3:inR c.blocks.length 1 160=true)(h4:∀(j:Nat) (x:Bk),c.blocks[j]?=some x->bkB u k c j x=true):cdB u k c=true:=by
 rw[cdB,h1,h2,h3,allI_iff.2 h4];rfl
def bkS(N:Nat)(l:List Bk)(j:Nat):Nat:=N+((l.take j).map bkN).sum
theorem Be(N:Nat)(l:List Bk):bkS N l 0=N:=by simp[bkS]
theorem Ki(N:Nat)(l:List Bk):bkS N l l.length=N+(l.map bkN).sum:=by rw[bkS,Xk]
theorem Hx(N:Nat){l:List Bk}{j:Nat}{x:Bk}(h:l[j]?=some x):bkS N l (j+1)=bkS N l j+x.ins.length+x.phis.length:=by rw[bkS,bkS,uW bkN h,bkN];omega
theorem Gb(u:List Cd)(hu:LT 1073741824 u):VF Tryz.prog G jz [.agg [.p (cdL u)]] (.p (.bool (unB u))):=by
 have hul:cdL u= .lst 3 (u.map Cd.cs):=rfl
 have hu1:=hu.1
 refine AC.go vC ?_
 simp-implicitDefEqProofs[nS,hul]
 refine(cI G u.length 1 4).use ?_
 cases hr:inR u.length 1 4 with
 |false=>
  have hf:unB u=false:=by simp[unB,hr]
  simp-implicitDefEqProofs[hf]
 |true=>
 simp-implicitDefEqProofs[]
 refine aM (λi:Nat=>aC 76 [(4,.p (.int .i64 i)),(3,.p (.int .i64 (unN (u.take i)))),(1,.ptr 0 1 0 0)]) (λ_=>[.row 1 [[.p (.lst 3 (u.map Cd.cs))]]]) (λi=>i<=u.length/\(∀(j:Nat) (c:Cd),j<i->u[j]?=some c->cdB u j c=true)/\unN (u.take i)<=800) (λi=>u.length-i) 0 ⟨Xr _,λj c h=>(by omega),Xr _⟩ (aq (by simp) (by simp[below,show unN ([]:List Cd)=0 from rfl])) ?_
 rintro i ⟨hi,hp,hn8⟩
 simp-implicitDefEqProofs[]
 refine aO (λhc=>?_) (λhc=>?_)
 ·simp at hc
  have hg:=WK hc
  have htn:=uW cdN hg
  have hle:=λj=>Hu u hg j
  have hcf:=hu.2 _ (WY hc)
  generalize u[i]=c at hg htn hle hcf
  have hcs:=c.cs_eq2
  have hbl:bkL c.blocks= .lst 5 (c.blocks.map Bk.cs):=rfl
  obtain⟨N,hN⟩:∃N,N=unN (u.take i):=⟨_,rfl⟩
  rw[←hN] at hn8⊢
  have hbad:cdB u i c=false->unB u=false:=λh=>by rw[unB,ox hg h];simp
  simp-implicitDefEqProofs[hg,hcs,hbl]
  refine(cI G c.params 0 3).use ?_
  cases h1:inR c.params 0 3 with
  |false=>
   have hf:=hbad (by simp[cdB,h1])
   simp-implicitDefEqProofs[hf]
  |true=>
  simp-implicitDefEqProofs[]
  refine(cI G c.regs c.params 300).use ?_
  cases h2:inR c.regs c.params 300 with
  |false=>
   have hf:=hbad (by simp[cdB,h2])
   simp-implicitDefEqProofs[hf]
  |true=>
  simp-implicitDefEqProofs[]
  refine(cI G c.blocks.length 1 160).use ?_
  cases h3:inR c.blocks.length 1 160 with
  |false=>
   have hf:=hbad (by simp[cdB,h3])
   simp-implicitDefEqProofs[hf]
  |true=>
  have hrg:0<=c.regs/\c.regs<=300:=by
   simp only[inR,WX,decide_eq_true_eq] at h1 h2
   omega
  have hcl:=hcf.1
  simp-implicitDefEqProofs[]
  refine aM (λj:Nat=>aC 76 [(6,.p (.int .i64 j)),(3,.p (.int .i64 (bkS N c.blocks j))),(5,.ptr 1 3 0 0),(4,.p (.int .i64 i)),(1,.ptr 0 1 0 0)]) (λ_=>[.row 1 [[.p (.lst 3 (u.map Cd.cs))]],.row 3 [[.p (.int .i64 c.params),.p (.int .i64 c.regs),.p (.lst 5 (c.blocks.map Bk.cs))]]]) (λj=>j<=c.blocks.length/\(∀(q:Nat) (x:Bk),q<j->c.blocks[q]?=some x->bkB u i c q x=true)/\bkS N c.blocks j<=800) (λj=>c.blocks.length-j) 0 ⟨Xr _,λj c h=>(by omega),by rw[Be];exact hn8⟩ (aq (by simp) (by simp[below,Be])) ?_
  rintro j ⟨hj,hq,hm8⟩
  simp-implicitDefEqProofs[]
  refine aO (λhc2=>?_) (λhc2=>?_)
  ·simp at hc2
   have hg2:=WK hc2
   have hM2:=Hx N hg2
   have hxf:=hcf.2 _ (WY hc2)
   generalize c.blocks[j]=x at hg2 hM2 hxf
   have hxs:=x.cs_eq2
   have hxi:=hxf.ins
   have hxp:=hxf.phis
   have hil:inL x.ins= .lst 4 (x.ins.map Ii.cs):=rfl
   have hpl:phL x.phis= .lst 2 (x.phis.map Ph.cs):=rfl
   obtain⟨M,hM⟩:∃M,M=bkS N c.blocks j:=⟨_,rfl⟩
   rw[←hM] at hm8 hM2⊢
   have w1':IntKind.i64.wrap ((M:Int)+(x.ins.length:Int))=(M:Int)+(x.ins.length:Int):=ab (by omega) (by omega)
   have w2':IntKind.i64.wrap ((M:Int)+(x.ins.length:Int)+(x.phis.length:Int))=(M:Int)+(x.ins.length:Int)+(x.phis.length:Int):=ab (by omega) (by omega)
   have hwj:=w1 (i:=j) (by omega)
   by_cases h8:800<M+x.ins.length+x.phis.length
   ·have h8':(800:Int)<(M:Int)+(x.ins.length:Int)+(x.phis.length:Int):=by omega
    have hf:unB u=false:=by
     have:=hle (j+1)
     rw[←hN] at this
     have h3:N+((c.blocks.take (j+1)).map bkN).sum=bkS N c.blocks (j+1):=rfl
     rw[h3,hM2] at this
     have hd:decide (unN u<=800)=false:=by simp;omega
     rw[unB,hd];simp
    simp-implicitDefEqProofs[hg2,hxs,hil,hpl,w1',w2',h8',hf]
   ·have h8':¬(800:Int)<(M:Int)+(x.ins.length:Int)+(x.phis.length:Int):=by omega
    have hB:=LE G u i j c x hg hg2 hrg.1 hrg.2 hu
    rw[hul] at hB
    simp-implicitDefEqProofs[hg2,hxs,hil,hpl,w1',w2',h8']
    refine hB.use ?_
    cases hbb:bkB u i c j x with
    |false=>
     have hf:=hbad (by rw[cdB,ox hg2 hbb];simp)
     simp-implicitDefEqProofs[hf]
    |true=>
     simp-implicitDefEqProofs[]
     refine⟨j+1,⟨by omega,λq y hqj hy=>?_,by omega⟩,by omega,aq (by simp) ?_⟩
     ·rcases Xy q j with h|h
      ·exact hq q y h hy
      ·have:q=j:=by omega
       subst this
       rw[hg2] at hy
       cases hy
       exact hbb
     ·have hcast:(bkS N c.blocks (j+1):Int)=(M:Int)+(x.ins.length:Int)+(x.phis.length:Int):=by omega
      simp-implicitDefEqProofs only[hcast]
      simp[below,hwj]
  ·simp at hc2
   have hje:j=c.blocks.length:=by omega
   subst hje
   have hcd:=NZ h1 h2 h3 (λq x hx=>hq q x (WJ.1 hx).1 hx)
   have hcN:bkS N c.blocks c.blocks.length=N+cdN c:=Ki N c.blocks
   rw[hcN] at hm8⊢
   have htn2:unN (u.take (i+1))=N+cdN c:=by rw[hN];exact htn
   simp-implicitDefEqProofs[]
   refine⟨i+1,⟨by omega,λq y hqj hy=>?_,by omega⟩,by omega,dv (m:=1) (by omega) (bT rfl rfl (by simp[okO,below])) ?_⟩
   ·rcases Xy q i with h|h
    ·exact hp q y h hy
    ·have:q=i:=by omega
     subst this
     rw[hg] at hy
     cases hy
     exact hcd
   ·have hcast:((unN (u.take (i+1)):Nat):Int)=(N:Int)+(cdN c:Int):=by omega
    simp-implicitDefEqProofs only[hcast]
    simp[below,w1 (i:=i) (by omega)]
 ·simp at hc
  have hie:i=u.length:=by omega
  subst hie
  rw[Xk] at hn8
  have ht:unB u=true:=by
   rw[unB,hr,allI_iff.2 (λq c hq=>hp q c (WJ.1 hq).1 hq)]
   simp[hn8]
  simp-implicitDefEqProofs[ht]
end
section
theorem EC:AK.whole oD=FK.ak oY:=rfl
variable (G:aL)
theorem Kf(o:Int):VF Tryz.prog G kV [.p (.int .i64 o)] (.p (.bool (inR o 1 14))):=by
 refine AC.go Fc ?_
 simp-implicitDefEqProofs[uk]
 refine(cC G o 1 14).use ?_
 simp-implicitDefEqProofs[]
theorem EE(o:Int):VF Tryz.prog G mw [.p (.int .i64 o)] (.p (.bool (gn o))):=by
 refine AC.go Hh ?_
 simp-implicitDefEqProofs[zA]
 refine(Kf G o).use ?_
 cases hb:inR o 1 14 with
 |false=>simp-implicitDefEqProofs[gn,hb]
 |true=>
  by_cases h1:o=12
  ·simp-implicitDefEqProofs[gn,hb,h1]
  ·simp-implicitDefEqProofs[gn,hb,h1]
theorem Ls(o:Int):VF Tryz.prog G ln [.p (.int .i64 o)] (.p (.int .i64 (pC o))):=by
 refine AC.go BC ?_
 by_cases h1:o=1
 ·simp-implicitDefEqProofs[cX,pC,h1]
 by_cases h2:o=2
 ·simp-implicitDefEqProofs[cX,pC,h2]
 by_cases h3:o=10
 ·simp-implicitDefEqProofs[cX,pC,h3]
 by_cases h4:o=11
 ·simp-implicitDefEqProofs[cX,pC,h4]
 by_cases h5:o=13
 ·simp-implicitDefEqProofs[cX,pC,h5]
 simp-implicitDefEqProofs[cX,pC,h1,h2,h3,h4,h5]
theorem Gq(o:Int):VF Tryz.prog G jm [.p (.int .i64 o)] (.p (.int .i64 (nxN o))):=by
 refine AC.go vv ?_
 by_cases h1:o=1
 ·simp-implicitDefEqProofs[dS,nxN,h1]
 by_cases h2:o=2
 ·simp-implicitDefEqProofs[dS,nxN,h2]
 by_cases h3:o=3
 ·simp-implicitDefEqProofs[dS,nxN,h3]
 simp-implicitDefEqProofs[dS,nxN,h1,h2,h3]
theorem Bc(o:Int):VF Tryz.prog G jP [.p (.int .i64 o)] (.p (.bool (onU o))):=by
 refine AC.go Dm ?_
 by_cases h1:o=2
 ·simp-implicitDefEqProofs[mX,onU,h1]
 simp-implicitDefEqProofs[mX,onU,h1]
theorem IF(l:List Int)(v:Int)(hl:l.length<=1073741824):VF Tryz.prog G gH [.p (bG l),.p (.int .i64 v)] (.p (.int .i64 (ixI (l.findIdx? λx=>decide (v=x))))):=by
 have hnl:bG l= .lst 1 (l.map λn=>[.int .i64 n]):=rfl
 refine AC.go tj ?_
 simp-implicitDefEqProofs[lT,hnl]
 refine aM (λi:Nat=>aC 19 [(8,.p (.int .i64 i)),(7,.p (.int .i64 l.length)),(0,.p (.lst 1 (l.map λn=>[.int .i64 n]))),(1,.p (.int .i64 v))]) (λ_=>[]) (λi=>i<=l.length/\∀x∈l.take i,¬v=x) (λi=>l.length-i) 0 (by simp) (bg rfl (by simp[below])) ?_
 rintro i ⟨hi,hp⟩
 simp-implicitDefEqProofs[]
 refine aO (λhc=>?_) (λhc=>?_)
 ·simp at hc
  have hg:=WK hc
  have htk:=an hc
  have hfi:v=l[i]->(l.findIdx? λx=>decide (v=x))=some i:=λe=>by
   rw[Xf]
   exact⟨hc,by simpa using e,λj hj=>by have:=hp l[j] (List.mem_take_iff_getElem.2 ⟨j,by omega,rfl⟩);simpa using this⟩
  generalize l[i]=x at hg htk hfi
  simp-implicitDefEqProofs[hg]
  refine aO (λhe=>?_) (λhe=>?_)
  ·have he:v=x:=by simpa using he
   rw[hfi he]
   simp-implicitDefEqProofs[ixI]
  ·have he:¬v=x:=by simpa using he
   simp-implicitDefEqProofs[]
   refine⟨i+1,⟨by omega,λy hy=>?_⟩,by omega,bg rfl (by simp[below,w1 (i:=i) (by omega)])⟩
   rw[htk] at hy
   rcases WO.1 hy with hy|hy
   ·exact hp y hy
   ·rw[WR.1 hy];exact he
 ·simp at hc
  rw[WQ hc] at hp
  have hf:(l.findIdx? λx=>decide (v=x))=none:=by
   rw[Xt]
   intro x hx
   simpa using hp x hx
  rw[hf]
  simp-implicitDefEqProofs[ixI]
theorem Dr(l:List Int)(v:Int)(hl:l.length<=1073741824):VF Tryz.prog G eI [.p (bG l),.p (.int .i64 v)] (.p (.bool (decide (v∈l)))):=by
 refine AC.go pp ?_
 simp-implicitDefEqProofs[jc]
 refine(IF G l v hl).use ?_
 simp-implicitDefEqProofs[]
 cases hf:l.findIdx? λx=>decide (v=x) with
 |none=>
  rw[Xt] at hf
  have:¬v∈l:=λhm=>by have:=hf v hm;simp at this
  simp[ixI,this]
 |some i=>
  rw[Xf] at hf
  obtain⟨h1,h2,_⟩:=hf
  have:v∈l:=by
   have h2:v=l[i]:=by simpa using h2
   rw[h2];exact WY h1
  simp[ixI,this]
theorem Ku{α:Type}(l:List α)(p:α->Bool):decide (0<=ixI (l.findIdx? p))=l.any p:=by
 cases hf:l.findIdx? p with
 |none=>
  rw[Xt] at hf
  have:l.any p=false:=by rw[List.any_eq_false];intro x hx;simp[hf x hx]
  simp[ixI,this]
 |some i=>
  rw[Xf] at hf
  obtain⟨h1,h2,_⟩:=hf
  have:l.any p=true:=by rw[List.any_eq_true];exact⟨_,WY h1,h2⟩
  simp[ixI,this]
section
variable {h:List AO} {f:FuncId} {caps:List AV}
theorem GX(xs:List Int)(p:Int->Bool)(hl:xs.length<=1073741824)(hcap:az h.length caps)
 (hcall:∀x∈xs,AC Tryz.prog G f (.p (.int .i64 x)::caps) h λr h'=>r= .ret (.p (.bool (p x)))/\h'=h):
 AC Tryz.prog G eb [.p (bG xs),.fn (.func f) caps] h λr h'=>r= .ret (.p (.int .i64 (ixI (xs.findIdx? p))))/\h'=h:=by
 have hnl:bG xs= .lst 1 (xs.map λn=>[.int .i64 n]):=rfl
 refine AC.go oM ?_
 simp-implicitDefEqProofs[ik,hnl]
 refine aM (λi:Nat=>aC 19 [(8,.p (.int .i64 i)),(7,.p (.int .i64 xs.length)),(0,.p (.lst 1 (xs.map λn=>[.int .i64 n]))),(1,.fn (.func f) caps)]) (λ_=>h) (λi=>i<=xs.length/\∀x∈xs.take i,p x=false) (λi=>xs.length-i) 0 (by simp) (aq (WV _) (by simp[below,hcap])) ?_
 rintro i ⟨hi,hp⟩
 simp-implicitDefEqProofs[]
 refine aO (λhc=>?_) (λhc=>?_)
 ·simp at hc
  have hg:=WK hc
  have htk:=an hc
  have hfi:p xs[i]=true->xs.findIdx? p=some i:=λe=>by
   rw[Xf]
   exact⟨hc,e,λj hj=>by have:=hp xs[j] (List.mem_take_iff_getElem.2 ⟨j,by omega,rfl⟩);simp[this]⟩
  have hcl:=hcall _ (WY hc)
  generalize xs[i]=x at hg htk hfi hcl
  simp-implicitDefEqProofs[hg]
  refine hcl.mono ?_
  rintro r h' ⟨rfl,rfl⟩
  cases hpx:p x with
  |true=>
   rw[hfi hpx]
   simp-implicitDefEqProofs[aa,ixI]
  |false=>
   simp-implicitDefEqProofs[aa]
   refine⟨i+1,⟨by omega,λy hy=>?_⟩,by omega,aq (WV _) (by simp[below,hcap,w1 (i:=i) (by omega)])⟩
   rw[htk] at hy
   rcases WO.1 hy with hy|hy
   ·exact hp y hy
   ·rw[WR.1 hy];exact hpx
 ·simp at hc
  rw[WQ hc] at hp
  have hf:xs.findIdx? p=none:=by rw[Xt];exact hp
  rw[hf]
  simp-implicitDefEqProofs[ixI]
theorem tR(xs:List Int)(p:Int->Bool)(hl:xs.length<=1073741824)(hcap:az h.length caps)
 (hcall:∀x∈xs,AC Tryz.prog G f (.p (.int .i64 x)::caps) h λr h'=>r= .ret (.p (.bool (p x)))/\h'=h):
 AC Tryz.prog G bB [.p (bG xs),.fn (.func f) caps] h λr h'=>r= .ret (.p (.bool (xs.any p)))/\h'=h:=by
 refine AC.go mv ?_
 simp-implicitDefEqProofs[fD]
 refine(GX G xs p hl hcap hcall).mono ?_
 rintro r h' ⟨rfl,rfl⟩
 simp-implicitDefEqProofs[aa,Ku]
theorem Gm(xs:List Ii)(p:Ii->Bool)(hl:xs.length<=1073741824)(hcap:az h.length caps)
 (hcall:∀x∈xs,AC Tryz.prog G f (.agg (x.cs.map .p)::caps) h λr h'=>r= .ret (.p (.bool (p x)))/\h'=h):
 AC Tryz.prog G cL [.p (inL xs),.fn (.func f) caps] h λr h'=>r= .ret (.p (.int .i64 (ixI (xs.findIdx? p))))/\h'=h:=by
 have hnl:inL xs= .lst 4 (xs.map Ii.cs):=rfl
 refine AC.go la ?_
 simp-implicitDefEqProofs[eU,hnl]
 refine aM (λi:Nat=>aC 19 [(8,.p (.int .i64 i)),(7,.p (.int .i64 xs.length)),(0,.p (.lst 4 (xs.map Ii.cs))),(1,.fn (.func f) caps)]) (λ_=>h) (λi=>i<=xs.length/\∀x∈xs.take i,p x=false) (λi=>xs.length-i) 0 (by simp) (aq (WV _) (by simp[below,hcap])) ?_
 rintro i ⟨hi,hp⟩
 simp-implicitDefEqProofs[]
 refine aO (λhc=>?_) (λhc=>?_)
 ·simp at hc
  have hg:=WK hc
  have htk:=an hc
  have hfi:p xs[i]=true->xs.findIdx? p=some i:=λe=>by
   rw[Xf]
   exact⟨hc,e,λj hj=>by have:=hp xs[j] (List.mem_take_iff_getElem.2 ⟨j,by omega,rfl⟩);simp[this]⟩
  have hcl:=hcall _ (WY hc)
  generalize xs[i]=x at hg htk hfi hcl
  have hxs:=x.cs_eq2
  rw[hxs] at hcl
  simp-implicitDefEqProofs[hg,hxs]
  refine hcl.mono ?_
  rintro r h' ⟨rfl,rfl⟩
  cases hpx:p x with
  |true=>
   rw[hfi hpx]
   simp-implicitDefEqProofs[aa,ixI]
  |false=>
   simp-implicitDefEqProofs[aa]
   refine⟨i+1,⟨by omega,λy hy=>?_⟩,by omega,aq (WV _) (by simp[below,hcap,w1 (i:=i) (by omega)])⟩
   rw[htk] at hy
   rcases WO.1 hy with hy|hy
   ·exact hp y hy
   ·rw[WR.1 hy];exact hpx
 ·simp at hc
  rw[WQ hc] at hp
  have hf:xs.findIdx? p=none:=by rw[Xt];exact hp
  rw[hf]
  simp-implicitDefEqProofs[ixI]
theorem Jm(xs:List Ii)(p:Ii->Bool)(hl:xs.length<=1073741824)(hcap:az h.length caps)
 (hcall:∀x∈xs,AC Tryz.prog G f (.agg (x.cs.map .p)::caps) h λr h'=>r= .ret (.p (.bool (p x)))/\h'=h):
 AC Tryz.prog G ck [.p (inL xs),.fn (.func f) caps] h λr h'=>r= .ret (.p (.bool (xs.any p)))/\h'=h:=by
 refine AC.go jh ?_
 simp-implicitDefEqProofs[dO]
 refine(Gm G xs p hl hcap hcall).mono ?_
 rintro r h' ⟨rfl,rfl⟩
 simp-implicitDefEqProofs[aa,Ku]
end
theorem DJ{h:List AO}{c:Cd}{q:Nat}(hq:h[q]?=some (.row 3 [[.p (.int .i64 c.params),.p (.int .i64 c.regs),.p (bkL c.blocks)]]))(h0:0<=c.regs)(h1:c.regs<=300)(r:Int):AC Tryz.prog G dI [.p (.int .i64 r),.ptr q 3 0 0] h λx h'=>x= .ret (.p (.bool (eu c.regs r)))/\h'=h:=by
 have hwr:IntKind.i64.wrap (c.regs-1)=c.regs-1:=ab (by omega) (by omega)
 refine AC.go Cv ?_
 simp-implicitDefEqProofs[rA,hq,hwr]
 refine(cC G r 0 (c.regs-1)).use ?_
 simp-implicitDefEqProofs[eu]
theorem ty{h:List AO}{c:Cd}{q:Nat}(hq:h[q]?=some (.row 3 [[.p (.int .i64 c.params),.p (.int .i64 c.regs),.p (bkL c.blocks)]]))(h0:0<=c.regs)(h1:c.regs<=300)(r:Int):AC Tryz.prog G bZ [.p (.int .i64 r),.ptr q 3 0 0] h λx h'=>x= .ret (.p (.bool (eu c.regs r)))/\h'=h:=by
 have hwr:IntKind.i64.wrap (c.regs-1)=c.regs-1:=ab (by omega) (by omega)
 refine AC.go zP ?_
 simp-implicitDefEqProofs[pf,hq,hwr]
 refine(cC G r 0 (c.regs-1)).use ?_
 simp-implicitDefEqProofs[eu]
theorem KZ{h:List AO}{c:Cd}{q p:Nat}(hq:h[q]?=some (.row 3 [[.p (.int .i64 c.params),.p (.int .i64 c.regs),.p (bkL c.blocks)]]))(hp:h[p]?=some (.row 1 [[.fn (.func dI) [.ptr q 3 0 0]]]))(h0:0<=c.regs)(h1:c.regs<=300)(r:Int):AC Tryz.prog G lS [.p (.int .i64 r),.ptr p 1 0 0] h λx h'=>x= .ret (.p (.bool (!eu c.regs r)))/\h'=h:=by
 refine AC.go BV ?_
 simp-implicitDefEqProofs[ro,hp]
 refine(DJ G hq h0 h1 r).mono ?_
 rintro x h' ⟨rfl,rfl⟩
 simp-implicitDefEqProofs[aa]
theorem HP{h:List AO}{c:Cd}{q p:Nat}(hq:h[q]?=some (.row 3 [[.p (.int .i64 c.params),.p (.int .i64 c.regs),.p (bkL c.blocks)]]))(hp:h[p]?=some (.row 1 [[.fn (.func bZ) [.ptr q 3 0 0]]]))(h0:0<=c.regs)(h1:c.regs<=300)(r:Int):AC Tryz.prog G kx [.p (.int .i64 r),.ptr p 1 0 0] h λx h'=>x= .ret (.p (.bool (!eu c.regs r)))/\h'=h:=by
 refine AC.go zS ?_
 simp-implicitDefEqProofs[po,hp]
 refine(ty G hq h0 h1 r).mono ?_
 rintro x h' ⟨rfl,rfl⟩
 simp-implicitDefEqProofs[aa]
theorem IR{h:List AO}{c:Cd}{q:Nat}(hq:h[q]?=some (.row 3 [[.p (.int .i64 c.params),.p (.int .i64 c.regs),.p (bkL c.blocks)]]))(hl:c.blocks.length<=1073741824)(r:Int):AC Tryz.prog G kG [.p (.int .i64 r),.ptr q 3 0 0] h λx h'=>x= .ret (.p (.bool (!inR r 1 ((c.blocks.length:Int)-1))))/\h'=h:=by
 have hbl:bkL c.blocks= .lst 5 (c.blocks.map Bk.cs):=rfl
 have hwb:IntKind.i64.wrap ((c.blocks.length:Int)-1)=(c.blocks.length:Int)-1:=ab (by omega) (by omega)
 refine AC.go zQ ?_
 simp-implicitDefEqProofs[oZ,hq,hbl,hwb]
 refine(cC G r 1 ((c.blocks.length:Int)-1)).use ?_
 simp-implicitDefEqProofs[]
theorem Ag{α:Type}(l:List α)(p:α->Bool):l.any (λx=> !p x)= !l.all p:=by
 rw[List.not_all_eq_any_not]
theorem Rb(u:List Cd)(k:Nat)(c:Cd)(hk:u[k]?=some c)(h0:0<=c.regs)(h1:c.regs<=300)(hu:u.length<=1073741824)(x:Ii)(hl:x.args.length<=1073741824):VF Tryz.prog G oF [.agg [.p (cdL u)],.p (.int .i64 k),.agg (x.cs.map .p)] (.p (.bool (jY u k c.regs x))):=by
 have hcs:=c.cs_eq2
 have hxs:=x.cs_eq2
 have hul:cdL u= .lst 3 (u.map Cd.cs):=rfl
 have hnl:bG x.args= .lst 1 (x.args.map λn=>[.int .i64 n]):=rfl
 have hku:=(WJ.1 hk).1
 have hwk:IntKind.i64.wrap ((k:Int)-1)=(k:Int)-1:=ab (by omega) (by omega)
 obtain⟨H0,hH0⟩:∃H0,H0=[AO.row 1 [[.p (.lst 3 (u.map Cd.cs))]],.row 4 [[.p (.int .i64 x.op),.p (.int .i64 x.to),.p (.lst 1 (x.args.map λn=>[.int .i64 n])),.p (.int .i64 x.n)]],.row 3 [[.p (.int .i64 c.params),.p (.int .i64 c.regs),.p (bkL c.blocks)]],.row 1 [[.fn (.func dI) [.ptr 2 3 0 0]]]]:=⟨_,rfl⟩
 have g0:H0[0]?=some (.row 1 [[.p (.lst 3 (u.map Cd.cs))]]):=by rw[hH0];rfl
 have g1:H0[1]?=some (.row 4 [[.p (.int .i64 x.op),.p (.int .i64 x.to),.p (.lst 1 (x.args.map λn=>[.int .i64 n])),.p (.int .i64 x.n)]]):=by rw[hH0];rfl
 have g2:H0[2]?=some (.row 3 [[.p (.int .i64 c.params),.p (.int .i64 c.regs),.p (bkL c.blocks)]]):=by rw[hH0];rfl
 have g3:H0[3]?=some (.row 1 [[.fn (.func dI) [.ptr 2 3 0 0]]]):=by rw[hH0];rfl
 have gl:H0.length=4:=by rw[hH0];rfl
 refine AC.goK Eg EC ?_
 clear hku
 simp-implicitDefEqProofs[oD,oY,hxs,hul,hk,hcs,hnl]
 rw[←hH0]
 refine lB (λ_:Unit=>aC 91 [(8,.ptr 3 1 0 0),(7,.ptr 2 3 0 0),(5,.ptr 1 4 0 0),(3,.ptr 0 1 0 0),(1,.p (.int .i64 k))]) (λ_=>H0) (λ_=>inR x.op 1 14=true/\x.args.all (eu c.regs)=true) ?_ ?_
 ·simp-implicitDefEqProofs[g1]
  refine(Kf G x.op).use ?_
  cases hb1:inR x.op 1 14 with
  |false=>simp-implicitDefEqProofs[jY,hb1]
  |true=>
  simp-implicitDefEqProofs[g1]
  rw[←hnl]
  refine(tR G x.args (λr=> !eu c.regs r) hl (by simp[below,gl]) (λr _=>KZ G g2 g3 h0 h1 r)).mono ?_
  rintro y h' ⟨rfl,rfl⟩
  rw[Ag]
  cases hb2:x.args.all (eu c.regs) with
  |false=>simp-implicitDefEqProofs[aa,jY,hb2]
  |true=>
   simp-implicitDefEqProofs[aa]
   exact⟨WU.1 hb2,aq (by simp) (by simp[below,gl])⟩
 rintro⟨⟩ ⟨hb1,hb2⟩
 refine lB (λ_:Unit=>aC 91 [(8,.ptr 3 1 0 0),(7,.ptr 2 3 0 0),(5,.ptr 1 4 0 0),(3,.ptr 0 1 0 0),(1,.p (.int .i64 k))]) (λ_=>H0) (λ_=>(if gn x.op then eu c.regs x.to else decide (x.to= -1))=true) ?_ ?_
 ·simp-implicitDefEqProofs[g1]
  refine(EE G x.op).use ?_
  cases hs:gn x.op with
  |true=>
   simp-implicitDefEqProofs[g1,g3]
   refine(DJ G g2 h0 h1 x.to).mono ?_
   rintro y h' ⟨rfl,rfl⟩
   cases hr:eu c.regs x.to with
   |false=>simp-implicitDefEqProofs[aa,jY,hs,hr]
   |true=>
    simp-implicitDefEqProofs[aa,g1]
    refine(EE G x.op).use ?_
    simp-implicitDefEqProofs[hs]
    exact aq (by simp) (by simp[below,gl])
  |false=>
   simp-implicitDefEqProofs[g1]
   refine(EE G x.op).use ?_
   by_cases hto:x.to= -1
   ·simp-implicitDefEqProofs[hs,g1,hto]
    exact aq (by simp) (by simp[below,gl])
   ·have hf:jY u k c.regs x=false:=by simp[jY,hs,hto]
    simp-implicitDefEqProofs[hs,g1,hto,hf]
 rintro⟨⟩ hb3
 have hI:jY u k c.regs x=(if x.op=14 then inR x.n 0 ((k:Int)-1)&&decide ((x.args.length:Int)=FF u x.n)
  else if x.op=1 then decide (x.args.length=0)&&inR x.n 0 255
  else decide (x.n=0)&&decide ((x.args.length:Int)=pC x.op)):=by rw[jY,hb1,hb2,hb3];simp
 rw[hI]
 by_cases o1:x.op=1
 ·by_cases hal:x.args.length=0
  ·have hal':(x.args.length:Int)=0:=by omega
   simp-implicitDefEqProofs[g1,o1,hal,hal']
   refine(GG G x.n).use ?_
   simp-implicitDefEqProofs[]
  ·have hal':¬(x.args.length:Int)=0:=by omega
   have hal2:¬x.args=[]:=λe=>hal (by rw[e];rfl)
   simp-implicitDefEqProofs[g1,o1,hal,hal',hal2]
 by_cases o14:x.op=14
 ·simp-implicitDefEqProofs[g1,o14,hwk]
  refine(cC G x.n 0 ((k:Int)-1)).use ?_
  cases hn:inR x.n 0 ((k:Int)-1) with
  |false=>simp-implicitDefEqProofs[]
  |true=>
   simp only[inR,WX,decide_eq_true_eq] at hn
   have hlt:x.n.toNat<u.length:=by
    have:=(WJ.1 hk).1
    omega
   obtain⟨c2,hc2⟩:∃c2,u[x.n.toNat]?=some c2:=⟨_,WK hlt⟩
   have hc2s:=c2.cs_eq2
   clear hlt
   obtain⟨m,hm⟩:∃m:Nat,x.n=m:=⟨x.n.toNat,by omega⟩
   rw[hm] at hc2 g1⊢
   simp only[Int.toNat_natCast] at hc2
   simp-implicitDefEqProofs[g1,g0,hc2,hc2s,FF]
 by_cases hx0:x.n=0
 ·simp-implicitDefEqProofs[g1,o1,o14,hx0]
  refine(Ls G x.op).useQ ?_
  simp-implicitDefEqProofs[]
 ·simp-implicitDefEqProofs[g1,o1,o14,hx0]
def ov(c:Cd)(b:Int):List Int:=if inR b 0 ((c.blocks.length:Int)-1)=true then de c.blocks b else[]
structure PsS where (i:Nat) (X:List AO) (V:AV)
theorem Iv(c:Cd)(b:Int)(hl:c.blocks.length<=1073741824)(hn:∀x∈c.blocks,x.next.length<=1073741824):AC Tryz.prog G iv [.agg (c.cs.map .p),.p (.int .i64 b)] [] λx h=>∃V,x= .ret V/\((V= .nils/\ov c b=[])\/∃id,V= .sl id 1 0 (ov c b).length/\h[id]?=some (.row 1 (fG (ov c b)))):=by
 have hcs:=c.cs_eq2
 have hbl:bkL c.blocks= .lst 5 (c.blocks.map Bk.cs):=rfl
 have hwb:IntKind.i64.wrap ((c.blocks.length:Int)-1)=(c.blocks.length:Int)-1:=ab (by omega) (by omega)
 refine AC.go At ?_
 simp-implicitDefEqProofs[pL,hcs,hbl,hwb]
 refine(cC G b 0 ((c.blocks.length:Int)-1)).use ?_
 cases hb:inR b 0 ((c.blocks.length:Int)-1) with
 |false=>simp-implicitDefEqProofs[ov,hb]
 |true=>
 have hpe:ov c b=de c.blocks b:=by rw[ov,hb,if_pos rfl]
 rw[hpe]
 simp-implicitDefEqProofs[]
 refine aM (λa:PsS=>aC 33 [(18,.p (.int .i64 a.i)),(17,.p (.int .i64 c.blocks.length)),(16,.p (.lst 5 (c.blocks.map Bk.cs))),(5,a.V),(1,.p (.int .i64 b))]) (λa=>a.X)
  (λa=>a.i<=c.blocks.length/\((a.V= .nils/\de (c.blocks.take a.i) b=[])\/∃id,a.V= .sl id 1 0 (de (c.blocks.take a.i) b).length/\a.X[id]?=some (.row 1 (fG (de (c.blocks.take a.i) b))))) (λa=>c.blocks.length-a.i) ⟨0,[.row 3 [[.p (.int .i64 c.params),.p (.int .i64 c.regs),.p (.lst 5 (c.blocks.map Bk.cs))]]],.nils⟩ ⟨Xr _,.inl ⟨rfl,rfl⟩⟩ (aq (by simp) (by simp[below])) ?_
 rintro⟨i,X,V⟩ ⟨hi,hV⟩
 simp only at hi hV
 simp-implicitDefEqProofs[]
 refine aO (λhc=>?_) (λhc=>?_)
 ·simp at hc
  have hg:=WK hc
  have hm:=WY hc
  have hpt:=zw (b:=b) hg
  have hpl:=oL (c.blocks.take i) b
  rw[Xi,Nat.min_eq_left (by omega)] at hpl
  have hnx:=hn _ hm
  generalize c.blocks[i]=x at hg hpt hnx
  generalize de (c.blocks.take i) b=out at hV hpt hpl
  have hxs:=x.cs_eq2
  have hw1:=w1 (i:=i) (by omega)
  simp-implicitDefEqProofs[hg,hxs]
  refine(Dr G x.next b hnx).use ?_
  by_cases hbn:b∈x.next
  ·rw[if_pos hbn] at hpt
   have hd:decide (b∈x.next)=true:=by simpa using hbn
   rcases hV with⟨rfl,rfl⟩|⟨id,rfl,hid⟩
   ·simp-implicitDefEqProofs[hd,hbn]
    refine⟨⟨i+1,_,.sl (X.length+2) 1 0 1⟩,⟨by simp only;omega,.inr ⟨X.length+2,by rw[hpt];rfl,?_⟩⟩,by simp only;omega,aq (Xr _) ?_⟩
    ·rw[hpt,WP (by omega)];simp[fG]
    ·simp[below,hw1]
   ·have hiX:=(WJ.1 hid).1
    have hxm:∀t,(X++t)[id]?=some (.row 1 (fG out)):=λt=>by rw[WI hiX];exact hid
    have htl:List.take out.length (fG out)=fG out:=WQ (by simp[fG])
    have hrl:(fG out).length=out.length:=by simp[fG]
    simp-implicitDefEqProofs[hd,hbn,hxm,htl,hrl]
    refine⟨⟨by omega,by omega⟩,⟨i+1,_,.sl (X.length+2) 1 0 (out.length+1)⟩,⟨by simp only;omega,.inr ⟨X.length+2,by rw[hpt];simp,?_⟩⟩,by simp only;omega,aq (Xr _) ?_⟩
    ·rw[hpt,WP (by simp)];simp[fG]
    ·simp[below,hw1]
  ·rw[if_neg hbn,Xe] at hpt
   have hd:decide (b∈x.next)=false:=by simpa using hbn
   simp-implicitDefEqProofs[hd,hbn]
   rcases hV with⟨rfl,rfl⟩|⟨id,rfl,hid⟩
   ·exact⟨⟨i+1,_,.nils⟩,⟨by simp only;omega,.inl ⟨rfl,hpt⟩⟩,by simp only;omega,aq (Xr _) (by simp[below,hw1])⟩
   ·have hiX:=(WJ.1 hid).1
    refine⟨⟨i+1,_,.sl id 1 0 out.length⟩,⟨by simp only;omega,.inr ⟨id,by rw[hpt],?_⟩⟩,by simp only;omega,aq (Xr _) (by simp[below,hw1];omega)⟩
    rw[hpt,WI hiX];exact hid
 ·simp at hc
  have hie:i=c.blocks.length:=by omega
  subst hie
  rw[Xk] at hV
  simp-implicitDefEqProofs[]
  exact hV
theorem KM(c:Cd)(b:Int)(hl:c.blocks.length<=1073741824)(hn:∀x∈c.blocks,x.next.length<=1073741824):VF Tryz.prog G iv [.agg (c.cs.map .p),.p (.int .i64 b)] (.p (bG (ov c b))):=
 (Iv G c b hl hn).freezeR (λt v h ⟨_,e,_⟩=>by cases e) λv h ⟨V,e1,e2⟩=>by
   cases e1
   rcases e2 with⟨rfl,e⟩|⟨id,rfl,e⟩
   ·rw[e];exact .one (View.nils 1) .nil
   ·exact .one (DK e) .nil
theorem FX(c:Cd)(M:Nat)(hM:M<=1073741824)(hf:Jq M c)(hl:cdN c<=1152921504606846976):VF Tryz.prog G jk [.agg (c.cs.map .p)] (.p (.int .i64 (cdN c))):=by
 have hcs:=c.cs_eq2
 have hbl:bkL c.blocks= .lst 5 (c.blocks.map Bk.cs):=rfl
 have hcl:=hf.1
 refine AC.go vH ?_
 simp-implicitDefEqProofs[nI,hcs,hbl]
 refine aM (λj:Nat=>aC 24 [(9,.p (.int .i64 j)),(3,.p (.int .i64 (bkS 0 c.blocks j))),(8,.p (.int .i64 c.blocks.length)),(7,.p (.lst 5 (c.blocks.map Bk.cs)))]) (λ_=>[.row 3 [[.p (.int .i64 c.params),.p (.int .i64 c.regs),.p (.lst 5 (c.blocks.map Bk.cs))]]]) (λj=>j<=c.blocks.length) (λj=>c.blocks.length-j) 0 (Xr _) (aq (by simp) (by simp[below,Be])) ?_
 rintro j hj
 simp-implicitDefEqProofs[]
 refine aO (λhc2=>?_) (λhc2=>?_)
 ·simp at hc2
  have hg2:=WK hc2
  have hM2:=Hx 0 hg2
  have hxf:=hf.2 _ (WY hc2)
  have hle:bkS 0 c.blocks (j+1)<=cdN c:=by
   have:=pP bkN c.blocks (j+1)
   simp only[bkS,cdN];omega
  generalize c.blocks[j]=x at hg2 hM2 hxf
  have hxs:=x.cs_eq2
  have hxi:=hxf.ins
  have hxp:=hxf.phis
  have hil:inL x.ins= .lst 4 (x.ins.map Ii.cs):=rfl
  have hpl:phL x.phis= .lst 2 (x.phis.map Ph.cs):=rfl
  obtain⟨N,hN⟩:∃N,N=bkS 0 c.blocks j:=⟨_,rfl⟩
  rw[←hN] at hM2⊢
  have w1':IntKind.i64.wrap ((x.phis.length:Int)+(x.ins.length:Int))=(x.phis.length:Int)+(x.ins.length:Int):=ab (by omega) (by omega)
  have w2':IntKind.i64.wrap ((N:Int)+((x.phis.length:Int)+(x.ins.length:Int)))=(bkS 0 c.blocks (j+1):Int):=by rw[ab (by omega) (by omega)];omega
  simp-implicitDefEqProofs[hg2,hxs,hil,hpl,w1',w2']
  exact⟨j+1,by omega,by omega,dv (m:=1) (by omega) (bT rfl rfl (by simp[okO,below])) (by simp[below,w1 (i:=j) (by omega)])⟩
 ·simp at hc2
  have hje:j=c.blocks.length:=by omega
  subst hje
  have:=Ki 0 c.blocks
  rw[XD] at this
  simp-implicitDefEqProofs[this,cdN]
end
section
theorem CK:AK.whole mT=FK.ak ni:=rfl
variable (G:aL)
theorem HL{h:List AO}{u:List Cd}{k p0 p1:Nat}{c:Cd}(hp0:h[p0]?=some (.row 1 [[.p (cdL u)]]))(hp1:h[p1]?=some (.row 1 [[.p (.int .i64 k)]]))(hk:u[k]?=some c)(h0:0<=c.regs)(h1:c.regs<=300)(hu:u.length<=1073741824)(x:Ii)(hl:x.args.length<=1073741824):AC Tryz.prog G ko [.agg (x.cs.map .p),.ptr p0 1 0 0,.ptr p1 1 0 0] h λr h'=>r= .ret (.p (.bool (!jY u k c.regs x)))/\h'=h:=by
 have hxs:=x.cs_eq2
 have hm0:∀t,(h++t)[p0]?=some (.row 1 [[.p (cdL u)]]):=λt=>by rw[WI (WJ.1 hp0).1];exact hp0
 have hm1:∀t,(h++t)[p1]?=some (.row 1 [[.p (.int .i64 k)]]):=λt=>by rw[WI (WJ.1 hp1).1];exact hp1
 refine AC.trim (AC.go zX ?_) (by simp[below])
 have hI:=Rb G u k c hk h0 h1 hu x hl
 rw[hxs] at hI⊢
 simp-implicitDefEqProofs[pn,hm0,hm1]
 refine hI.use ?_
 simp-implicitDefEqProofs[]
theorem NI(u:List Cd)(k:Nat)(c:Cd)(hk:u[k]?=some c)(hu:LT 1073741824 u):VF Tryz.prog G na [.agg [.p (cdL u)],.p (.int .i64 k)] (.p (.bool (cdB u k c))):=by
 have hcf:=hu.2 c (WW hk)
 have hcs:=c.cs_eq2
 have hul:cdL u= .lst 3 (u.map Cd.cs):=rfl
 have hbl:bkL c.blocks= .lst 5 (c.blocks.map Bk.cs):=rfl
 have hcl:=hcf.1
 obtain⟨H0,hH0⟩:∃H0,H0=[AO.row 1 [[.p (.lst 3 (u.map Cd.cs))]],.row 1 [[.p (.int .i64 k)]],.row 3 [[.p (.int .i64 c.params),.p (.int .i64 c.regs),.p (.lst 5 (c.blocks.map Bk.cs))]]]:=⟨_,rfl⟩
 have g2':H0[2]?=some (.row 3 [[.p (.int .i64 c.params),.p (.int .i64 c.regs),.p (.lst 5 (c.blocks.map Bk.cs))]]):=by rw[hH0];rfl
 have gl':H0.length=3:=by rw[hH0];rfl
 refine AC.goK Df CK ?_
 simp-implicitDefEqProofs[mT,ni,hul,hk,hcs,hbl]
 rw[←hH0]
 refine lB (λ_:Unit=>aC 121 [(5,.ptr 2 3 0 0),(3,.ptr 1 1 0 0),(2,.ptr 0 1 0 0)]) (λ_=>H0) (λ_=>inR c.params 0 3=true/\inR c.regs c.params 300=true/\inR c.blocks.length 1 160=true) ?_ ?_
 ·simp-implicitDefEqProofs[g2']
  refine(cC G c.regs 0 300).use ?_
  cases h1:inR c.regs 0 300 with
  |false=>
   have hf:cdB u k c=false:=by
    cases e1:inR c.params 0 3 with
    |false=>simp[cdB,e1]
    |true=>
     cases e2:inR c.regs c.params 300 with
     |false=>simp[cdB,e2]
     |true=>
      simp only[inR,WX,decide_eq_true_eq] at e1 e2
      simp only[inR,Bool.and_eq_false_iff,decide_eq_false_iff_not] at h1
      omega
   simp-implicitDefEqProofs[hf]
  |true=>
  have hmn:(if c.regs<3 then c.regs else 3)=min 3 c.regs:=by split<;>omega
  simp-implicitDefEqProofs[g2',hmn]
  refine(cC G c.params 0 (min 3 c.regs)).use ?_
  cases h2:inR c.params 0 (min 3 c.regs) with
  |false=>
   have hf:cdB u k c=false:=by
    cases e1:inR c.params 0 3 with
    |false=>simp[cdB,e1]
    |true=>
     cases e2:inR c.regs c.params 300 with
     |false=>simp[cdB,e2]
     |true=>
      simp only[inR,WX,decide_eq_true_eq] at e1 e2
      simp only[inR,Bool.and_eq_false_iff,decide_eq_false_iff_not] at h2
      omega
   simp-implicitDefEqProofs[hf]
  |true=>
  simp-implicitDefEqProofs[g2']
  refine(cC G c.blocks.length 1 160).use ?_
  cases h3:inR c.blocks.length 1 160 with
  |false=>
   have hf:cdB u k c=false:=by simp[cdB,h3]
   simp-implicitDefEqProofs[hf]
  |true=>
   simp only[inR,WX,decide_eq_true_eq] at h1 h2
   have e1:inR c.params 0 3=true:=by simp only[inR,WX,decide_eq_true_eq];omega
   have e2:inR c.regs c.params 300=true:=by simp only[inR,WX,decide_eq_true_eq];omega
   simp-implicitDefEqProofs[]
   exact⟨⟨e1,e2⟩,aq (by simp) (by simp[below,gl'])⟩
 rintro⟨⟩ ⟨h1,h2,h3⟩
 have hrg:0<=c.regs/\c.regs<=300:=by
  simp only[inR,WX,decide_eq_true_eq] at h1 h2
  omega
 obtain⟨r0,r300⟩:=hrg
 subst hH0
 clear g2' gl'
 obtain⟨H0,hH0⟩:∃H0,H0=[AO.row 1 [[.p (.lst 3 (u.map Cd.cs))]],.row 1 [[.p (.int .i64 k)]],.row 3 [[.p (.int .i64 c.params),.p (.int .i64 c.regs),.p (.lst 5 (c.blocks.map Bk.cs))]],.row 1 [[.fn (.func bZ) [.ptr 2 3 0 0]]]]:=⟨_,rfl⟩
 have gl:H0.length=4:=by rw[hH0];rfl
 have ghb:∀o∈H0,okO 4 o:=by rw[hH0];simp[okO,below]
 have g0:∀t,(H0++t)[0]?=some (.row 1 [[.p (.lst 3 (u.map Cd.cs))]]):=λt=>by rw[hH0];rfl
 have g1:∀t,(H0++t)[1]?=some (.row 1 [[.p (.int .i64 k)]]):=λt=>by rw[hH0];rfl
 have g2:∀t,(H0++t)[2]?=some (.row 3 [[.p (.int .i64 c.params),.p (.int .i64 c.regs),.p (.lst 5 (c.blocks.map Bk.cs))]]):=λt=>by rw[hH0];rfl
 have g3:∀t,(H0++t)[3]?=some (.row 1 [[.fn (.func bZ) [.ptr 2 3 0 0]]]):=λt=>by rw[hH0];rfl
 have g2n:=g2 []
 have g3n:=g3 []
 rw[Xe] at g2n g3n
 have hbad:∀(i:Nat) (x:Bk),c.blocks[i]?=some x->bkB u k c i x=false->cdB u k c=false:=λi x hx h=>by rw[cdB,ox hx h];simp
 simp-implicitDefEqProofs[]
 rw[←hH0]
 refine aM (λi:Nat=>aC 121 [(41,.p (.int .i64 i)),(40,.p (.int .i64 c.blocks.length)),(39,.p (.lst 5 (c.blocks.map Bk.cs))),(6,.ptr 3 1 0 0),(5,.ptr 2 3 0 0),(3,.ptr 1 1 0 0),(2,.ptr 0 1 0 0)]) (λ_=>H0) (λi=>i<=c.blocks.length/\∀(q:Nat) (x:Bk),q<i->c.blocks[q]?=some x->bkB u k c q x=true) (λi=>c.blocks.length-i) 0 ⟨Xr _,λq x h=>(by omega)⟩ (aq (by simp) (by simp[below,gl])) ?_
 rintro i ⟨hi,hp⟩
 simp-implicitDefEqProofs[]
 refine aO (λhc=>?_) (λhc=>?_)
 ·simp at hc
  have hg:=WK hc
  have hxf:=hcf.2 _ (WY hc)
  generalize c.blocks[i]=x at hg hxf
  have hxs:=x.cs_eq2
  have hbd:=hbad i x hg
  have hnl:bG x.next= .lst 1 (x.next.map λn=>[.int .i64 n]):=rfl
  have hil:inL x.ins= .lst 4 (x.ins.map Ii.cs):=rfl
  have hpl:phL x.phis= .lst 2 (x.phis.map Ph.cs):=rfl
  obtain⟨H1,hH1⟩:∃H1,H1=H0++[AO.row 5 [[.p (phL x.phis),.p (inL x.ins),.p (.int .i64 x.jump),.p (.int .i64 x.on),.p (bG x.next)]]]:=⟨_,rfl⟩
  have k0:H1[0]?=some (.row 1 [[.p (.lst 3 (u.map Cd.cs))]]):=by rw[hH1];exact g0 _
  have k1:H1[1]?=some (.row 1 [[.p (.int .i64 k)]]):=by rw[hH1];exact g1 _
  have k2:H1[2]?=some (.row 3 [[.p (.int .i64 c.params),.p (.int .i64 c.regs),.p (.lst 5 (c.blocks.map Bk.cs))]]):=by rw[hH1];exact g2 _
  have k3:H1[3]?=some (.row 1 [[.fn (.func bZ) [.ptr 2 3 0 0]]]):=by rw[hH1];exact g3 _
  have k4:H1[4]?=some (.row 5 [[.p (phL x.phis),.p (inL x.ins),.p (.int .i64 x.jump),.p (.int .i64 x.on),.p (bG x.next)]]):=by rw[hH1,WP (by omega),gl];rfl
  have kl:H1.length=5:=by rw[hH1];simp[gl]
  simp-implicitDefEqProofs[hg,hxs,gl]
  rw[←hH1]
  have k4':=k4
  rw[hnl] at k4'
  refine lB (λ_:Unit=>aC 121 [(8,.ptr 4 5 0 0),(7,.p (.int .i64 i)),(41,.p (.int .i64 i)),(40,.p (.int .i64 c.blocks.length)),(39,.p (.lst 5 (c.blocks.map Bk.cs))),(6,.ptr 3 1 0 0),(5,.ptr 2 3 0 0),(3,.ptr 1 1 0 0),(2,.ptr 0 1 0 0)]) (λ_=>H1) (λ_=>(decide ((x.next.length:Int)=nxN x.jump)&&(if onU x.jump then eu c.regs x.on else decide (x.on=0)))=true) ?_ ?_
  ·simp-implicitDefEqProofs[k4']
   refine(Gq G x.jump).use ?_
   by_cases hlen:(x.next.length:Int)=nxN x.jump
   ·simp-implicitDefEqProofs[hlen,k4']
    refine(Bc G x.jump).use ?_
    cases hon:onU x.jump with
    |true=>
     simp-implicitDefEqProofs[k4',k3]
     refine(ty G k2 r0 r300 x.on).mono ?_
     rintro y h' ⟨rfl,rfl⟩
     cases hr:eu c.regs x.on with
     |false=>
      have hf:=hbd (by simp[bkB,hon,hr])
      simp-implicitDefEqProofs[aa,hf]
     |true=>
      simp-implicitDefEqProofs[aa,k4']
      refine(Bc G x.jump).use ?_
      simp-implicitDefEqProofs[hon]
      exact aq (by simp) (by simp[below,kl])
    |false=>
     simp-implicitDefEqProofs[k4']
     refine(Bc G x.jump).use ?_
     by_cases ho:x.on=0
     ·simp-implicitDefEqProofs[hon,k4',ho]
      exact aq (by simp) (by simp[below,kl])
     ·have hf:=hbd (by simp[bkB,hon,ho])
      simp-implicitDefEqProofs[hon,k4',ho,hf]
   ·have hf:=hbd (by simp[bkB,hlen])
    simp-implicitDefEqProofs[hlen,hf,k4']
  rintro⟨⟩ hc1
  refine lB (λ_:Unit=>aC 121 [(8,.ptr 4 5 0 0),(7,.p (.int .i64 i)),(41,.p (.int .i64 i)),(40,.p (.int .i64 c.blocks.length)),(39,.p (.lst 5 (c.blocks.map Bk.cs))),(6,.ptr 3 1 0 0),(5,.ptr 2 3 0 0),(3,.ptr 1 1 0 0),(2,.ptr 0 1 0 0)]) (λ_=>H1) (λ_=>(x.next.all (λn=>inR n 1 ((c.blocks.length:Int)-1))&&x.ins.all (jY u k c.regs))=true) ?_ ?_
  ·simp-implicitDefEqProofs[k4]
   refine(tR G x.next (λn=> !inR n 1 ((c.blocks.length:Int)-1)) hxf.next (by simp[below,kl]) (λr _=>IR G k2 hcl r)).mono ?_
   rintro y h' ⟨rfl,rfl⟩
   rw[Ag]
   cases ha:x.next.all (λn=>inR n 1 ((c.blocks.length:Int)-1)) with
   |false=>
    have hf:=hbd (by rw[bkB,ha];simp)
    simp-implicitDefEqProofs[aa,hf]
   |true=>
    simp-implicitDefEqProofs[aa,k4]
    refine(Jm G x.ins (λy=> !jY u k c.regs y) hxf.ins (by simp[below,kl]) (λy hy=>HL G k0 k1 hk r0 r300 hu.1 y (hxf.ia y hy))).mono ?_
    rintro y h' ⟨rfl,rfl⟩
    rw[Ag]
    cases hb:x.ins.all (jY u k c.regs) with
    |false=>
     have hf:=hbd (by rw[bkB,hb];simp)
     simp-implicitDefEqProofs[aa,hf]
    |true=>
     simp-implicitDefEqProofs[aa]
     exact⟨⟨WU.1 ha,WU.1 hb⟩,aq (by simp) (by simp[below,kl])⟩
  rintro⟨⟩ hc2
  have hP:=KM G c i hcl (λy hy=>(hcf.2 y hy).next)
  have hpi:ov c i=de c.blocks i:=by rw[ov,if_pos];simp only[inR,WX,decide_eq_true_eq];omega
  rw[hcs,hbl,hpi] at hP
  obtain⟨P,hPe⟩:∃P,P=de c.blocks i:=⟨_,rfl⟩
  have hPl:P.length<=1073741824:=by rw[hPe];exact XF (oL _ _) hcl
  rw[←hPe] at hP
  have hPL:bG P= .lst 1 (P.map λn=>[.int .i64 n]):=rfl
  rw[hPL] at hP
  refine lB (λ_:Unit=>aC 121 [(9,.p (.int .i64 P.length)),(8,.ptr 4 5 0 0),(7,.p (.int .i64 i)),(41,.p (.int .i64 i)),(40,.p (.int .i64 c.blocks.length)),(39,.p (.lst 5 (c.blocks.map Bk.cs))),(6,.ptr 3 1 0 0),(5,.ptr 2 3 0 0),(3,.ptr 1 1 0 0),(2,.ptr 0 1 0 0)]) (λ_=>H1) (λ_=>True) ?_ ?_
  ·simp-implicitDefEqProofs[k2]
   refine hP.use ?_
   simp-implicitDefEqProofs[]
   exact aq (by simp) (by simp[below,kl])
  rintro⟨⟩ _
  simp-implicitDefEqProofs[k4,hpl]
  refine aM (λj:Nat=>aC 121 [(93,.p (.int .i64 j)),(92,.p (.int .i64 x.phis.length)),(91,.p (.lst 2 (x.phis.map Ph.cs))),(9,.p (.int .i64 P.length)),(7,.p (.int .i64 i)),(41,.p (.int .i64 i)),(40,.p (.int .i64 c.blocks.length)),(39,.p (.lst 5 (c.blocks.map Bk.cs))),(6,.ptr 3 1 0 0),(5,.ptr 2 3 0 0),(3,.ptr 1 1 0 0),(2,.ptr 0 1 0 0)]) (λ_=>H0) (λj=>j<=x.phis.length/\∀n∈x.phis.take j,phB c.regs i P.length n=true) (λj=>x.phis.length-j) 0 (by simp) ?_ ?_
  ·rw[hH1]
   exact dv (m:=4) (by omega) (bT (by rw[←gl,List.take_left'];rfl) gl ghb) (by simp[below])
  rintro j ⟨hj,hq⟩
  simp-implicitDefEqProofs[]
  refine aO (λhc3=>?_) (λhc3=>?_)
  ·simp at hc3
   have hg3:=WK hc3
   have htk:=an hc3
   have hm:=WY hc3
   have hxn:=hxf.phis
   have hargs:=hxf.pa _ hm
   generalize x.phis[j]=n at hg3 htk hm hargs
   have hns:=n.cs_eq2
   have hna:bG n.args= .lst 1 (n.args.map λn=>[.int .i64 n]):=rfl
   have hbp:phB c.regs i P.length n=false->cdB u k c=false:=λh=>hbd (by
    rw[bkB,←hPe,nO hm (p:=phB c.regs i P.length) h];simp)
   obtain⟨H2,hH2⟩:∃H2,H2=H0++[AO.row 2 [[.p (.int .i64 n.to),.p (bG n.args)]]]:=⟨_,rfl⟩
   have m2:H2[2]?=some (.row 3 [[.p (.int .i64 c.params),.p (.int .i64 c.regs),.p (.lst 5 (c.blocks.map Bk.cs))]]):=by rw[hH2];exact g2 _
   have m3:H2[3]?=some (.row 1 [[.fn (.func bZ) [.ptr 2 3 0 0]]]):=by rw[hH2];exact g3 _
   have m4:H2[4]?=some (.row 2 [[.p (.int .i64 n.to),.p (bG n.args)]]):=by rw[hH2,WP (by omega),gl];rfl
   have ml:H2.length=5:=by rw[hH2];simp[gl]
   simp-implicitDefEqProofs[hg3,hns,gl]
   rw[←hH2]
   by_cases hb0:i=0
   ·subst hb0
    have hf:=hbp (by simp[phB])
    simp-implicitDefEqProofs[hf]
   ·simp-implicitDefEqProofs[hb0,m3,m4]
    refine(ty G m2 r0 r300 n.to).mono ?_
    rintro y h' ⟨rfl,rfl⟩
    cases hr:eu c.regs n.to with
    |false=>
     have hf:=hbp (by simp[phB,hr])
     simp-implicitDefEqProofs[aa,hf]
    |true=>
     by_cases hl:n.args.length=P.length
     ·have hl':(n.args.length:Int)=(P.length:Int):=by omega
      simp-implicitDefEqProofs[aa,m4,hna,hl']
      rw[←hna]
      refine(tR G n.args (λr=> !eu c.regs r) hargs (by simp[below,ml]) (λr _=>HP G m2 m3 r0 r300 r)).mono ?_
      rintro y h' ⟨rfl,rfl⟩
      rw[Ag]
      cases ha:n.args.all (eu c.regs) with
      |false=>
       have hf:=hbp (by simp[phB,ha])
       simp-implicitDefEqProofs[aa,hf]
      |true=>
       simp-implicitDefEqProofs[aa]
       refine⟨j+1,⟨by omega,λy hy=>?_⟩,by omega,?_⟩
       ·rw[htk] at hy
        rcases WO.1 hy with hy|hy
        ·exact hq y hy
        ·rw[WR.1 hy]
         simp only[phB,hb0,hl,ha,hr]
         rfl
       ·rw[hH2]
        exact dv (m:=4) (by omega) (bT (by rw[←gl,List.take_left'];rfl) gl ghb) (by simp[below,w1 (i:=j) (by omega)])
     ·have hl':¬(n.args.length:Int)=(P.length:Int):=by omega
      have hf:=hbp (by simp[phB,hl])
      simp-implicitDefEqProofs[aa,m4,hna,hl',hl,hf]
  ·simp at hc3
   rw[WQ hc3] at hq
   simp-implicitDefEqProofs[]
   refine⟨i+1,⟨by omega,λq y hqj hy=>?_⟩,by omega,aq (by simp) (by simp[below,gl,w1 (i:=i) (by omega)])⟩
   rcases Xy q i with h|h
   ·exact hp q y h hy
   ·have:q=i:=by omega
    subst this
    rw[hg] at hy
    cases hy
    have hc2':=Bool.and_eq_true_iff.1 hc2
    rw[bkB,←hPe,hc1,hc2'.1,hc2'.2,WU.2 hq];rfl
 ·simp at hc
  have hie:i=c.blocks.length:=by omega
  subst hie
  have ht:=NZ h1 h2 h3 (λq x hx=>hp q x (WJ.1 hx).1 hx)
  simp-implicitDefEqProofs[ht]
theorem RT{M:Nat}{c:Cd}(h:Jq M c):cdN c<=c.blocks.length*(2*M):=by
 have:∀l:List Bk,(∀b∈l,BkFit M b)->(l.map bkN).sum<=l.length*(2*M):=by
  intro l
  induction l with
  |nil=>intro _;simp
  |cons b r ih=>
   intro hb
   have h1:=ih λx hx=>hb x (by simp[hx])
   have h2:=hb b (by simp)
   have h3:=h2.phis
   have h4:=h2.ins
   rw[Xj,List.sum_cons,Xb,Nat.succ_mul,bkN]
   omega
 exact this c.blocks h.2
theorem Gh(u:List Cd)(hu:LT 1073741824 u):VF Tryz.prog G jr [.agg [.p (cdL u)]] (.p (.bool (unB u))):=by
 have hul:cdL u= .lst 3 (u.map Cd.cs):=rfl
 have hu1:=hu.1
 refine AC.go vD ?_
 simp-implicitDefEqProofs[nX,hul]
 refine(cC G u.length 1 4).use ?_
 cases hr:inR u.length 1 4 with
 |false=>
  have hf:unB u=false:=by simp[unB,hr]
  simp-implicitDefEqProofs[hf]
 |true=>
 have hu4:u.length<=4:=by simp only[inR,WX,decide_eq_true_eq] at hr;omega
 simp-implicitDefEqProofs[]
 refine aM (λi:Nat=>aC 30 [(14,.p (.int .i64 i)),(13,.p (.int .i64 u.length)),(12,.p (.lst 3 (u.map Cd.cs))),(3,.p (.int .i64 (unN (u.take i)))),(1,.ptr 0 1 0 0)]) (λ_=>[.row 1 [[.p (.lst 3 (u.map Cd.cs))]]]) (λi=>i<=u.length/\(∀(j:Nat) (c:Cd),j<i->u[j]?=some c->cdB u j c=true)/\unN (u.take i)<=i*(160*2147483648)) (λi=>u.length-i) 0 ⟨Xr _,λj c h=>(by omega),Xr _⟩ (aq (by simp) (by simp[below,show unN ([]:List Cd)=0 from rfl])) ?_
 rintro i ⟨hi,hp,hn⟩
 simp-implicitDefEqProofs[]
 refine aO (λhc=>?_) (λhc=>?_)
 ·simp at hc
  have hg:=WK hc
  have htn:=uW cdN hg
  have hcf:=hu.2 _ (WY hc)
  generalize u[i]=c at hg htn hcf
  have hcs:=c.cs_eq2
  have hC:=NI G u i c hg hu
  rw[hul] at hC
  have hbad:cdB u i c=false->unB u=false:=λh=>by rw[unB,ox hg h];simp
  obtain⟨N,hN⟩:∃N,N=unN (u.take i):=⟨_,rfl⟩
  rw[←hN] at hn⊢
  simp-implicitDefEqProofs[hg,hcs]
  refine hC.use ?_
  cases hb:cdB u i c with
  |false=>
   have hf:=hbad hb
   simp-implicitDefEqProofs[hf]
  |true=>
   have hbl:c.blocks.length<=160:=by
    simp only[cdB,WX] at hb
    have:=hb.1.2
    simp only[inR,WX,decide_eq_true_eq] at this
    omega
   have hcl:cdN c<=160*2147483648:=XF (RT hcf) (Nat.mul_le_mul hbl (by omega))
   have hK:=FX G c 1073741824 (WV _) hcf (by omega)
   rw[hcs] at hK
   have htn2:unN (u.take (i+1))=N+cdN c:=by rw[hN];exact htn
   have hw2:IntKind.i64.wrap ((N:Int)+(cdN c:Int))=(unN (u.take (i+1)):Int):=by rw[ab (by omega) (by omega)];omega
   simp-implicitDefEqProofs[]
   refine hK.use ?_
   simp-implicitDefEqProofs[hw2]
   refine⟨i+1,⟨by omega,λq y hqj hy=>?_,by omega⟩,by omega,dv (m:=1) (by omega) (bT rfl rfl (by simp[okO,below])) (by simp[below,w1 (i:=i) (by omega)])⟩
   rcases Xy q i with h|h
   ·exact hp q y h hy
   ·have:q=i:=by omega
    subst this
    rw[hg] at hy
    cases hy
    exact hb
 ·simp at hc
  have hie:i=u.length:=by omega
  subst hie
  rw[Xk]
  have hal:=allI_iff.2 (λq c hq=>hp q c (WJ.1 hq).1 hq)
  have ht:unB u=decide (unN u<=800):=by rw[unB,hr,hal];rfl
  by_cases h8:unN u<=800
  ·have h8':(unN u:Int)<=800:=by omega
   simp-implicitDefEqProofs[ht,h8,h8']
  ·have h8':¬(unN u:Int)<=800:=by omega
   simp-implicitDefEqProofs[ht,h8,h8']
end
section
mutual
def um:Ex->Nat
 | .mk o _ _ ks=>(if o=10 then 1 else 0)+cf ks
def cf:List Ex->Nat
 |[]=>0
 |e::r=>um e+cf r
end
mutual
def ER:Sm->Nat
 | .mk o _ a bd el=>2*cf a+(if o=5\/o=6 then 3 else if o=7 then 1 else 0)+ce bd+ce el
def ce:List Sm->Nat
 |[]=>0
 |s::r=>ER s+ce r
end
theorem QX(e:Ex):um e=(if e.op=10 then 1 else 0)+cf e.kids:=by cases e;rw[um];rfl
theorem Ql(s:Sm):ER s=2*cf s.args+(if s.op=5\/s.op=6 then 3 else if s.op=7 then 1 else 0)+ce s.body+ce s.els:=by cases s;rw[ER];rfl
mutual
theorem Ab:∀e:Ex,um e<=e.sz
 | .mk o n s ks=>by
   have:=ke ks
   simp only[um,Ex.sz]
   split<;>omega
theorem ke:∀l:List Ex,cf l<=aJ l
 |[]=>WV _
 |e::r=>by have:=Ab e;have:=ke r;simp only[cf,aJ];omega
end
mutual
theorem PE:∀s:Sm,ER s<=3*s.sz
 | .mk o s a bd el=>by
   have:=ke a
   have:=lK bd
   have:=lK el
   simp only[ER,Sm.sz]
   split
   ·omega
   ·split<;>omega
theorem lK:∀l:List Sm,ce l<=3*aD l
 |[]=>WV _
 |s::r=>by have:=PE s;have:=lK r;simp only[ce,aD];omega
end
theorem AL{d:Nat}{e:Ex}(h:bW (d+1) e=true):(∀a∈e.kids,bW d a=true)/\(e.op=1\/e.op=2->e.kids=[])/\(e.op=10->∃a b,e.kids=[a,b]):=by
 rw[bW,WX] at h
 refine⟨λa ha=>WU.1 h.2 a ha,λho=>?_,λho=>?_⟩
 ·have h:=h.1
  simp only[lV,WX,inR,decide_eq_true_eq] at h
  obtain⟨⟨⟨⟨⟨_,h2⟩,_⟩,_⟩,_⟩,_⟩:=h
  rw[loK,if_pos ho,hiK,if_pos ho] at h2
  exact List.length_eq_zero_iff.1 (by omega)
 ·have h:=h.1
  simp only[lV,WX,inR,decide_eq_true_eq] at h
  obtain⟨⟨⟨⟨⟨_,h2⟩,_⟩,_⟩,_⟩,_⟩:=h
  rw[ho,show loK 10=2 from rfl,show hiK 10=2 from rfl] at h2
  match e.kids,h2 with
  |[a,b],_=>exact⟨a,b,rfl⟩
  |[],h=>simp at h
  |[_],h=>simp at h
  |_::_::_::r,h=>simp only[Xb] at h;omega
mutual
theorem zZ(fa sc:List UInt8->Int):∀(e:Ex) (d:Nat) (w:Lw),bW d e=true->(lwE fa sc e w).2.bs.length=w.bs.length+2*um e/\w.regs<=(lwE fa sc e w).2.regs
 | .mk o n s ks,0,w,h=>by cases h
 | .mk o n s ks,d+1,w,h=>by
   obtain⟨h1,h2,h3⟩:=AL h
   simp only[Ex.op,Ex.kids] at h1 h2 h3
   rw[lwE,um]
   split
   ·rename_i o1
    rw[h2 (.inl o1),if_neg (by omega)]
    simp only[Lw.mk'_len,cf]
    exact⟨by omega,by show w.regs<=w.regs+1;omega⟩
   split
   ·rename_i o2
    rw[h2 (.inr o2),if_neg (by omega)]
    exact⟨by simp[cf],WV _⟩
   split
   ·rename_i o10
    obtain⟨a,b,rfl⟩:=h3 o10
    have:=Qv fa sc [a,b] d w (by simpa using h1) rfl
    exact⟨by rw[this.1];omega,this.2⟩
   ·rename_i o10
    have:=Bn fa sc ks d w h1
    simp only[Lw.mk'_len]
    exact⟨by rw[this.1];omega,by show w.regs<=(bj fa sc ks w).2.regs+1;omega⟩
theorem Qv(fa sc:List UInt8->Int):∀(l:List Ex) (d:Nat) (w:Lw),(∀a∈l,bW d a=true)->l.length=2->(lwA fa sc l w).2.bs.length=w.bs.length+2+2*cf l/\w.regs<=(lwA fa sc l w).2.regs
 |[],d,w,_,h=>by cases h
 |[a],d,w,_,h=>by cases h
 |a::b::c::r,d,w,_,h=>by simp at h
 |[a,b],d,w,h,_=>by
  obtain⟨e1,r1⟩:=zZ fa sc a d w (h a (by simp))
  rw[lwA]
  simp only
  obtain⟨e2,r2⟩:=zZ fa sc b d ((((lwE fa sc a w).2.mk' 1 0 []).name 2).fin 2 (lwE fa sc a w).1 ((lwE fa sc a w).2.mk' 1 0 []).bs.length [(((lwE fa sc a w).2.mk' 1 0 []).bs.length:Int),(((lwE fa sc a w).2.mk' 1 0 []).bs.length:Int)+1]) (h b (by simp))
  generalize lwE fa sc b _=y at*
  refine⟨?_,?_⟩
  ·simp only[Lw.fin_len,Lw.put_len,Lw.mk'_len,Lw.name_len] at e2⊢
   simp only[cf]
   omega
  ·have h3:((((lwE fa sc a w).2.mk' 1 0 []).name 2).fin 2 (lwE fa sc a w).1 ((lwE fa sc a w).2.mk' 1 0 []).bs.length [(((lwE fa sc a w).2.mk' 1 0 []).bs.length:Int),(((lwE fa sc a w).2.mk' 1 0 []).bs.length:Int)+1]).regs=(lwE fa sc a w).2.regs+1:=rfl
   rw[h3] at r2
   show w.regs<=y.2.regs+1
   omega
theorem Bn(fa sc:List UInt8->Int):∀(l:List Ex) (d:Nat) (w:Lw),(∀a∈l,bW d a=true)->(bj fa sc l w).2.bs.length=w.bs.length+2*cf l/\w.regs<=(bj fa sc l w).2.regs
 |[],d,w,_=>by rw[bj];exact⟨rfl,WV _⟩
 |e::r,d,w,h=>by
  obtain⟨e1,r1⟩:=zZ fa sc e d w (h e (by simp))
  obtain⟨e2,r2⟩:=Bn fa sc r d (lwE fa sc e w).2 (λa ha=>h a (by simp[ha]))
  rw[bj]
  simp only[cf]
  exact⟨by omega,by omega⟩
end
theorem GH{d:Nat}{s:Sm}(h:aK (d+1) s=true):(∀a∈s.args,bW 6 a=true)/\(∀x∈s.body,aK d x=true)/\(∀x∈s.els,aK d x=true)/\(s.op=6->∃a,s.args=[a])/\(¬s.op=5->s.els=[])/\(¬s.op=5->¬s.op=6->s.body=[]):=by
 rw[aK,WX,WX] at h
 obtain⟨⟨hh,hb⟩,he⟩:=h
 simp only[gq,WX,WU,Bool.or_eq_true,decide_eq_true_eq,List.isEmpty_iff] at hh
 refine⟨λa ha=>?_,λx hx=>WU.1 hb x hx,λx hx=>WU.1 he x hx,λh6=>?_,λh5=>?_,λh5 h6=>?_⟩
 ·have:=hh.1.1.1.2 a ha
  rw[mr,WX] at this
  exact this.1
 ·have h1:=hh.1.1.1.1.1.1.2
  rw[jW,if_neg (by omega)] at h1
  exact List.length_eq_one_iff.1 h1
 ·rcases hh.1.2 with h|h
  ·exact h
  ·exact(h5 h).elim
 ·rcases hh.2 with(h|h)|h
  ·exact h
  ·exact(h5 h).elim
  ·exact(h6 h).elim
mutual
theorem PU(fa:List UInt8->Int)(q:Int):∀(s:Sm) (d:Nat) (m:Scp) (up:List Scp) (nx:Nat) (w:Lw),aK d s=true->(lwS fa q s m up nx w).2.2.bs.length=w.bs.length+ER s/\w.regs<=(lwS fa q s m up nx w).2.2.regs
 | .mk o n a bd el,0,m,up,nx,w,h=>by cases h
 | .mk o n a bd el,d+1,m,up,nx,w,h=>by
   obtain⟨h1,h2,h3,h4,h5,h6⟩:=GH h
   simp only[Sm.op,Sm.args,Sm.body,Sm.els] at h1 h2 h3 h4 h5 h6
   rw[lwS,ER]
   simp only
   by_cases o6:o=6
   ·obtain⟨a0,rfl⟩:=h4 o6
    have hel:=h5 (by omega)
    subst hel
    rw[if_pos o6,if_pos (.inr o6)]
    simp only[List.headD_cons]
    obtain⟨e1,r1⟩:=zZ fa (scF q (m::up)) a0 6 ((w.name 3).fin 1 0 w.bs.length [(w.bs.length:Int)]) (h1 a0 (by simp))
    generalize lwE fa (scF q (m::up)) a0 _=x at*
    obtain⟨e2,r2⟩:=rc fa q bd d [] (m::up) nx (x.2.fin 2 x.1 (w.bs.length+1) [(w.bs.length:Int)+1,(w.bs.length:Int)+2]) h2
    generalize aU fa q bd [] (m::up) nx _=y at*
    simp only[Lw.fin_len,Lw.name_len] at e1 e2⊢
    simp only[cf,ce]
    refine⟨by omega,?_⟩
    have r1':w.regs<=x.2.regs:=r1
    have r2':x.2.regs<=y.2.2.regs:=r2
    show w.regs<=y.2.2.regs
    omega
   ·rw[if_neg o6]
    obtain⟨e1,r1⟩:=Bn fa (scF q (m::up)) a 6 w h1
    generalize bj fa (scF q (m::up)) a w=x at*
    by_cases o5:o=5
    ·rw[if_neg (by omega),if_neg (by omega),if_neg (by omega),if_neg (by omega),if_pos o5,if_pos (.inl o5)]
     obtain⟨e2,r2⟩:=rc fa q bd d [] (m::up) nx ((x.2.name 3).fin 2 (x.1.headD 0) x.2.bs.length [(x.2.bs.length:Int),(x.2.bs.length:Int)+1]) h2
     simp only
     generalize aU fa q bd [] (m::up) nx _=y at*
     obtain⟨e3,r3⟩:=rc fa q el d [] (m::up) y.2.1 (y.2.2.fin 1 0 (x.2.bs.length+1) [(x.2.bs.length:Int)+2]) h3
     generalize aU fa q el [] (m::up) y.2.1 _=z at*
     simp only[Lw.fin_len,Lw.name_len] at e1 e2 e3⊢
     refine⟨by omega,?_⟩
     have r2':x.2.regs<=y.2.2.regs:=r2
     have r3':y.2.2.regs<=z.2.2.regs:=r3
     show w.regs<=z.2.2.regs
     omega
    ·have hel:=h5 o5
     have hbd:=h6 o5 o6
     subst hel;subst hbd
     rw[if_neg (c:=o=5\/o=6) (by omega)]
     simp only[ce]
     by_cases o7:o=7
     ·rw[if_neg (by omega),if_neg (by omega),if_neg (by omega),if_neg (by omega),if_neg o5,if_pos o7,if_pos o7]
      simp only[Lw.fin_len,Lw.name_len]
      exact⟨by omega,r1⟩
     ·rw[if_neg o7]
      simp only[Nat.add_zero,if_neg o5,if_neg o7]
      split
      ·exact⟨by simp only[Lw.put_len];omega,r1⟩
      split
      ·exact⟨by simp only[Lw.put_len];omega,r1⟩
      split
      ·exact⟨by simp only[Lw.put_len];omega,r1⟩
      split
      ·exact⟨by simp only[Lw.put_len];omega,r1⟩
      ·exact⟨e1,r1⟩
theorem rc(fa:List UInt8->Int)(q:Int):∀(l:List Sm) (d:Nat) (m:Scp) (up:List Scp) (nx:Nat) (w:Lw),(∀s∈l,aK d s=true)->(aU fa q l m up nx w).2.2.bs.length=w.bs.length+ce l/\w.regs<=(aU fa q l m up nx w).2.2.regs
 |[],d,m,up,nx,w,_=>by rw[aU];exact⟨rfl,WV _⟩
 |s::r,d,m,up,nx,w,h=>by
  obtain⟨e1,r1⟩:=PU fa q s d m up nx w (h s (by simp))
  obtain⟨e2,r2⟩:=rc fa q r d (lwS fa q s m up nx w).1 up (lwS fa q s m up nx w).2.1 (lwS fa q s m up nx w).2.2 (λx hx=>h x (by simp[hx]))
  rw[aU]
  simp only[ce]
  exact⟨by omega,by omega⟩
end
theorem Pl(l:List Fd)(q:Int)(f:Fd)(hf:∀s∈f.body,aK 4 s=true):(lwF l q f).blocks.length=1+ce f.body/\((f.params.length+aX f.body:Nat):Int)<(lwF l q f).regs/\(lwF l q f).params=f.params.length:=by
 obtain⟨e1,r1⟩:=rc (faI l) q f.body 4 (psS f.params [] 0) [] f.params.length ⟨f.params.length+aX f.body,[bk0],0⟩ hf
 rw[lwF]
 simp only
 generalize aU (faI l) q f.body (psS f.params [] 0) [] f.params.length _=y at*
 simp only[Lw.fin_len,Lw.mk'_len]
 have r1':f.params.length+aX f.body<=y.2.2.regs:=r1
 refine⟨by rw[e1];rfl,?_,trivial⟩
 show((f.params.length+aX f.body:Nat):Int)<((y.2.2.regs+1:Nat):Int)
 omega
end
section
theorem zo(fns:List Fd):∀(l:List Fd) (k:Nat),jt fns k l=0↔∀(i:Nat) (f:Fd),l[i]?=some f->(fnW fns (k+i) f).code=0
 |[],k=>by simp[jt]
 |f::r,k=>by
  rw[jt]
  have ih:=zo fns r (k+1)
  constructor
  ·intro h i g hg
   by_cases h0:(fnW fns k f).code=0
   ·rw[if_pos h0] at h
    cases i with
    |zero=>cases hg;exact h0
    |succ i=>have:=ih.1 h i g (by simpa using hg);rwa[show k+(i+1)=k+1+i by omega]
   ·rw[if_neg h0] at h;exact absurd h h0
  ·intro h
   rw[if_pos (by have:=h 0 f rfl;rwa[Nat.add_zero] at this)]
   exact ih.2 λi g hg=>by have:=h (i+1) g (by simpa using hg);rwa[show k+(i+1)=k+1+i by omega] at this
theorem PT(l:List Fd):cm l=0↔bu l=true/\∀(k:Nat) (f:Fd),l[k]?=some f->(fnW l k f).code=0:=by
 unfold cm
 by_cases h:bu l=true
 ·rw[if_pos h,zo];simp[h]
 ·rw[if_neg h];simp[h]
theorem ec(l:List Fd):bu l=true↔(1<=l.length/\l.length<=4)/\(∀f∈l,jV f=true)/\mu l<=40:=by
 simp only[bu,inR,WX,decide_eq_true_eq,WU]
 constructor
 ·rintro⟨⟨⟨h1,h2⟩,h3⟩,h4⟩;exact⟨⟨by omega,by omega⟩,h3,h4⟩
 ·rintro⟨⟨h1,h2⟩,h3,h4⟩;exact⟨⟨⟨by omega,by omega⟩,h3⟩,h4⟩
def Fd.cut(f:Fd)(n:Nat):Fd:=⟨f.name,f.params,f.body.take n⟩
end
section
theorem ou{s:List UInt8}(h:aQ s=true):s.length<=4:=by
 simp only[aQ,WX,decide_eq_true_eq] at h
 exact h.1.2
theorem Is{e:Ex}(h:lV e=true):e.name.length<=4:=by
 simp only[lV,WX] at h
 have h1:=h.1.1.1.2
 have h2:=h.1.1.2
 cases hn:Gk e.op with
 |true=>
  rw[hn] at h1
  exact ou (by simpa using h1)
 |false=>
  rw[hn] at h2
  have:e.name=[]:=by simpa using h2
  rw[this];simp
theorem HY{l:List Ex}(h:∀e∈l,e.sz<=5*e.parts):aJ l<=5*gW l:=by
 induction l with
 |nil=>simp[aJ]
 |cons e r ih=>
  have h1:=h e (by simp)
  have h2:=ih λx hx=>h x (by simp[hx])
  simp only[aJ,gW]
  omega
theorem MW:∀(d:Nat) (e:Ex),bW d e=true->e.sz<=5*e.parts:=by
 intro d
 induction d with
 |zero=>intro e h;cases h
 |succ d ih=>
  intro e h
  have hk:=(AL h).1
  rw[bW,WX] at h
  have hn:=Is h.1
  have hz:=HY (l:=e.kids) λa ha=>ih a (hk a ha)
  rw[e.sz_eq,e.parts_eq]
  omega
theorem QW{e:Ex}(h:mr e=true):e.sz<=150:=by
 simp only[mr,WX,decide_eq_true_eq] at h
 have:=MW 6 e h.1
 omega
theorem Bz:∀{l:List Ex},(∀e∈l,e.sz<=150)->aJ l<=150*l.length
 |[],_=>by simp[aJ]
 |e::r,h=>by
  have h1:=h e (by simp)
  have h2:=Bz (l:=r) λx hx=>h x (by simp[hx])
  simp only[aJ,Xb]
  omega
theorem MB{s:Sm}(h:gq s=true):s.name.length<=4/\aJ s.args<=300:=by
 simp only[gq,WX] at h
 have ha:=h.1.1.1.2
 have hl:=h.1.1.1.1.1.1.2
 have h1:=h.1.1.1.1.1.2
 have h2:=h.1.1.1.1.2
 refine⟨?_,?_⟩
 ·cases hn:cV s.op with
  |true=>
   rw[hn] at h1
   exact ou (by simpa using h1)
  |false=>
   rw[hn] at h2
   have:s.name=[]:=by simpa using h2
   rw[this];simp
 ·have:=Bz (l:=s.args) λe he=>QW (WU.1 ha e he)
  have hl2:s.args.length<=2:=by
   simp only[decide_eq_true_eq] at hl
   rw[hl,jW];split<;>omega
  omega
theorem AE{l:List Sm}(h:∀s∈l,s.sz<=305*s.cnt):aD l<=305*dT l:=by
 induction l with
 |nil=>simp[aD]
 |cons e r ih=>
  have h1:=h e (by simp)
  have h2:=ih λx hx=>h x (by simp[hx])
  simp only[aD,dT]
  omega
theorem Nb:∀(d:Nat) (s:Sm),aK d s=true->s.sz<=305*s.cnt:=by
 intro d
 induction d with
 |zero=>intro e h;cases h
 |succ d ih=>
  intro s h
  obtain⟨_,hb,he,_⟩:=GH h
  rw[aK,WX,WX] at h
  obtain⟨hn,ha⟩:=MB h.1.1
  have h1:=AE (l:=s.body) λx hx=>ih x (hb x hx)
  have h2:=AE (l:=s.els) λx hx=>ih x (he x hx)
  rw[s.sz_eq,s.cnt_eq]
  omega
theorem KB:∀{l:List (List UInt8)},(∀w∈l,w.length<=4)->(l.map List.length).sum<=4*l.length
 |[],_=>by simp
 |w::r,h=>by
  have h1:=h w (by simp)
  have h2:=KB (l:=r) λx hx=>h x (by simp[hx])
  simp only[Xj,List.sum_cons,Xb]
  omega
theorem Pt{f:Fd}(h:jV f=true):f.sz<=20+305*dT f.body:=by
 simp only[jV,WX,decide_eq_true_eq,WU] at h
 obtain⟨⟨⟨hp,hn⟩,h3⟩,hb⟩:=h
 have h1:=ou hn
 have h2:=KB (l:=f.params) λw hw=>ou (hp w hw)
 have h4:=AE (l:=f.body) λx hx=>Nb 4 x (hb x hx)
 rw[Fd.sz]
 omega
theorem AU:∀{l:List Fd},(∀f∈l,jV f=true)->aY l<=20*l.length+305*mu l
 |[],_=>by simp[aY]
 |f::r,h=>by
  have h1:=Pt (h f (by simp))
  have h2:=AU (l:=r) λx hx=>h x (by simp[hx])
  simp only[aY,mu,Xj,List.sum_cons,Xb] at h2⊢
  omega
theorem kY{l:List Fd}(h:bu l=true):aY l<=12280:=by
 rw[ec] at h
 obtain⟨⟨_,h4⟩,hf,hn⟩:=h
 have:=AU hf
 omega
theorem ri{l:List Fd}(h:bu l=true):∀f∈l,∀x∈f.body,aK 4 x=true:=λf hf x hx=>by
 rw[ec] at h
 have h1:=h.2.1 f hf
 simp only[jV,WX,WU] at h1
 exact h1.2 x hx
theorem vR{l:List Fd}(h:cm l=0):bu l=true:=((PT l).1 h).1
def Lw.Ar(A:Nat)(w:Lw):Prop:=∀b∈w.bs,b.phis=[]/\b.next.length<=2/\∀x∈b.ins,x.args.length<=A
theorem Gi{f:Bk->Bk}{l:List Bk}{i:Nat}{b:Bk}(h:b∈modB f l i):b∈l\/∃c∈l,b=f c:=by
 unfold modB at h
 split at h
 ·rename_i c hc
  rcases Xw h with h|h
  ·exact .inl h
  ·exact .inr ⟨c,WW hc,h⟩
 ·exact .inl h
theorem Lw.Ar.put{A:Nat}{w:Lw}(H:w.Ar A){x:Ii}(hx:x.args.length<=A):(w.put x).Ar A:=λb hb=>by
 rcases Gi hb with h|⟨c,hc,rfl⟩
 ·exact H b h
 ·obtain⟨h1,h2,h3⟩:=H c hc
  refine⟨h1,h2,λy hy=>?_⟩
  rcases WO.1 hy with h|h
  ·exact h3 y h
  ·rw[WR.1 h];exact hx
theorem Lw.Ar.mk'{A:Nat}{w:Lw}(H:w.Ar A){op n:Int}{args:List Int}(hx:args.length<=A):(w.mk' op n args).Ar A:=Lw.Ar.put (w:=w.reg) H hx
theorem Lw.Ar.name{A:Nat}{w:Lw}(H:w.Ar A)(n:Nat):(w.name n).Ar A:=λb hb=>by
 rcases WO.1 hb with h|h
 ·exact H b h
 ·rw[(XQ.1 h).2];simp[bk0]
theorem Lw.Ar.fin{A:Nat}{w:Lw}(H:w.Ar A){j o:Int}{g:Nat}{nx:List Int}(hx:nx.length<=2):(w.fin j o g nx).Ar A:=λb hb=>by
 rcases Gi hb with h|⟨c,hc,rfl⟩
 ·exact H b h
 ·obtain⟨h1,h2,h3⟩:=H c hc
  exact⟨h1,hx,h3⟩
mutual
theorem Et(fa sc:List UInt8->Int){A:Nat}(hA:1<=A):∀(e:Ex) (w:Lw),w.Ar A->e.sz<=A->(lwE fa sc e w).2.Ar A
 | .mk o n s ks,w,H,hz=>by
   simp only[Ex.sz] at hz
   have hkl:=bm ks
   rw[lwE]
   split
   ·exact H.mk' (by simp)
   split
   ·exact H
   split
   ·exact Si fa sc hA ks w H (by omega)
   ·refine(Fl fa sc hA ks w H (by omega)).mk' ?_
    rw[gw];omega
theorem Si(fa sc:List UInt8->Int){A:Nat}(hA:1<=A):∀(l:List Ex) (w:Lw),w.Ar A->aJ l<=A->(lwA fa sc l w).2.Ar A
 |[],w,H,_=>by rw[lwA];exact H;intro a b h;cases h
 |[a],w,H,_=>by rw[lwA];exact H;intro a b h;cases h
 |a::b::c::r,w,H,_=>by rw[lwA];exact H;intro a b h;cases h
 |[a,b],w,H,hz=>by
  simp only[aJ] at hz
  have h1:=Et fa sc hA a w H (by omega)
  rw[lwA]
  simp only
  have h2:=((h1.mk' (op:=1) (n:=0) (args:=[]) (by simp)).name 2).fin (j:=2) (o:=(lwE fa sc a w).1) (g:=((lwE fa sc a w).2.mk' 1 0 []).bs.length) (nx:=[(((lwE fa sc a w).2.mk' 1 0 []).bs.length:Int),(((lwE fa sc a w).2.mk' 1 0 []).bs.length:Int)+1]) (by simp)
  exact(((Et fa sc hA b _ h2 (by omega)).mk' (by simpa using hA)).put (by simpa using hA)).fin (by simp)
theorem Fl(fa sc:List UInt8->Int){A:Nat}(hA:1<=A):∀(l:List Ex) (w:Lw),w.Ar A->aJ l<=A->(bj fa sc l w).2.Ar A
 |[],w,H,_=>by rw[bj];exact H
 |e::r,w,H,hz=>by
  simp only[aJ] at hz
  rw[bj]
  exact Fl fa sc hA r _ (Et fa sc hA e w H (by omega)) (by omega)
end
mutual
theorem RY(fa:List UInt8->Int)(q:Int){A:Nat}(hA:1<=A):∀(s:Sm) (m:Scp) (up:List Scp) (nx:Nat) (w:Lw),w.Ar A->s.sz<=A->(lwS fa q s m up nx w).2.2.Ar A
 | .mk o n a bd el,m,up,nx,w,H,hz=>by
   simp only[Sm.sz] at hz
   have hhd:=FE a
   have hal:=bm a
   rw[lwS]
   simp only
   split
   ·have h1:=Et fa (scF q (m::up)) hA (a.headD (.mk 0 0 [] [])) _ ((H.name 3).fin (j:=1) (o:=0) (g:=w.bs.length) (nx:=[(w.bs.length:Int)]) (by simp)) (by omega)
    exact(tW fa q hA bd [] (m::up) nx _ (h1.fin (by simp)) (by omega)).fin (by simp)
   ·have h1:=Fl fa (scF q (m::up)) hA a w H (by omega)
    have hl:(bj fa (scF q (m::up)) a w).1.length<=A:=by rw[gw];omega
    split
    ·exact h1.put hl
    split
    ·exact h1.put hl
    split
    ·exact h1.put hl
    split
    ·exact h1.put hl
    split
    ·exact(tW fa q hA el [] (m::up) _ _ ((tW fa q hA bd [] (m::up) nx _ ((h1.name 3).fin (by simp)) (by omega)).fin (by simp)) (by omega)).fin (by simp)
    split
    ·exact(h1.name 1).fin (by simp)
    ·exact h1
theorem tW(fa:List UInt8->Int)(q:Int){A:Nat}(hA:1<=A):∀(l:List Sm) (m:Scp) (up:List Scp) (nx:Nat) (w:Lw),w.Ar A->aD l<=A->(aU fa q l m up nx w).2.2.Ar A
 |[],m,up,nx,w,H,_=>by rw[aU];exact H
 |s::r,m,up,nx,w,H,hz=>by
  simp only[aD] at hz
  rw[aU]
  exact tW fa q hA r _ up _ _ (RY fa q hA s m up nx w H (by omega)) (by omega)
end
theorem Qi(l:List Fd)(q:Int)(f:Fd)(hz:f.sz<=16777216):Jq 1073741824 (lwF l q f)/\0<=(lwF l q f).regs/\(lwF l q f).regs<=1073741824/\0<(lwF l q f).blocks.length:=by
 have hfz:f.sz=1+f.name.length+(f.params.length+(f.params.map List.length).sum)+aD f.body:=rfl
 have hlet:=XF (im f.body) (ir f.body)
 have hok:(⟨f.params.length+aX f.body,[bk0],0⟩:Lw).Ok (f.sz+1):=⟨by show f.params.length+aX f.body<=_;omega,by show 1<=_;omega,λb hb=>by rw[WR.1 hb];show 0<=_;omega,by show 0<1;omega⟩
 have har:(⟨f.params.length+aX f.body,[bk0],0⟩:Lw).Ar 16777217:=λb hb=>by rw[WR.1 hb];simp[bk0]
 obtain⟨h1,h2,_,_⟩:=dD (faI l) q f.body (psS f.params [] 0) [] f.params.length _ _ hok
 have h3:=tW (faI l) q (A:=16777217) (by omega) f.body (psS f.params [] 0) [] f.params.length _ har (by omega)
 rw[lwF]
 simp only
 generalize aU (faI l) q f.body (psS f.params [] 0) [] f.params.length _=y at*
 have k1:=(h1.mk' 1 0 []).fin 3 y.2.2.regs (g:=0) (by
  have:=h1.pos
  rw[Lw.mk'_len];omega) []
 have k3:=(h3.mk' (op:=1) (n:=0) (args:=[]) (by simp)).fin (j:=3) (o:=y.2.2.regs) (g:=0) (nx:=[]) (by simp)
 refine⟨⟨by have:=k1.bs;show((y.2.2.mk' 1 0 []).fin 3 y.2.2.regs 0 []).bs.length<=_;omega,λb hb=>?_⟩,by show(0:Int)<=((y.2.2.mk' 1 0 []).regs:Int);omega,by have:=k1.regs;show((y.2.2.mk' 1 0 []).regs:Int)<=_;have h:((y.2.2.mk' 1 0 []).fin 3 y.2.2.regs 0 []).regs=(y.2.2.mk' 1 0 []).regs:=rfl;omega,by have:=k1.pos;show 0<((y.2.2.mk' 1 0 []).fin 3 y.2.2.regs 0 []).bs.length;omega⟩
 obtain⟨a1,a2,a3⟩:=k3 b hb
 have a4:=k1.ins b hb
 exact⟨by rw[a1];simp,by omega,by omega,by rw[a1];simp,λx hx=>by have:=a3 x hx;omega⟩
theorem rG:∀{l:List Fd} {f:Fd},f∈l->f.sz<=aY l
 |x::r,f,h=>by
  simp only[aY,Xj,List.sum_cons]
  rcases WN.1 h with rfl|h
  ·omega
  ·have:=rG h
   simp only[aY] at this
   omega
theorem QL(l:List Fd)(q:Int)(hz:aY l<=16777216)(hl:l.length<=1073741824):LT 1073741824 (l.map (lwF l q)):=
 ⟨by rw[Xp];exact hl,λc hc=>by
   obtain⟨f,hf,rfl⟩:=Xl.1 hc
   have:=rG hf
   exact(Qi l q f (by omega)).1⟩
end
section
abbrev Vs:=List (List UInt8 × Nat)
def tf(p:List UInt8 × Nat):List AV:=[.p (.str p.1),.p (.int .i64 p.2),.p (.int .i64 0)]
def rgV(vs:Vs)(s:List UInt8):Int:=vs.foldl (λr p=>if p.1=s then(p.2:Int) else r) (-1)
theorem AG(vs:Vs)(p:List UInt8 × Nat)(s:List UInt8):rgV (vs++[p]) s=if p.1=s then(p.2:Int) else rgV vs s:=by
 simp[rgV,List.foldl_append]
def vi:AV->List Nat
 | .sl id _ _ _=>[id]
 |_=>[]
inductive VAt (X:List AO):AV->Vs->Prop where
 |nil:VAt X .nils []
 |sl (vid:Nat) (rows:List (List AV)) (vs:Vs):X[vid]?=some (.row 3 rows)->rows.take vs.length=vs.map tf->VAt X (.sl vid 3 0 vs.length) vs
section
variable {X X2:List AO} {V:AV} {vs:Vs}
theorem VAt.frame(H:VAt X V vs)(e:∀i∈vi V,X2[i]?=X[i]?):VAt X2 V vs:=by
 cases H with
 |nil=>exact .nil
 |sl vid rows _ h1 h2=>exact .sl vid rows vs (by rw[e vid (by simp[vi])];exact h1) h2
theorem VAt.lt(H:VAt X V vs):∀i∈vi V,i<X.length:=by
 cases H with
 |nil=>intro i hi;cases hi
 |sl vid rows _ h1 h2=>intro i hi;rw[WR.1 hi];exact(WJ.1 h1).1
theorem VAt.more(H:VAt X V vs)(os:List AO):VAt (X++os) V vs:=H.frame λi hi=>WI (H.lt i hi)
theorem VAt.is(H:VAt X V vs):V.cells=[V]/\V.isCell=true/\below X.length V:=by
 cases H with
 |nil=>exact⟨rfl,rfl,trivial⟩
 |sl vid rows _ h1 h2=>exact⟨rfl,rfl,(WJ.1 h1).1⟩
theorem VAt.at(H:VAt X V vs){i:Nat}(hi:i<vs.length):∃vid rows,V= .sl vid 3 0 vs.length/\X[vid]?=some (.row 3 rows)/\rows[i]?=some (tf vs[i]):=by
 cases H with
 |nil=>cases hi
 |sl vid rows _ h1 h2=>
  refine⟨vid,rows,rfl,h1,?_⟩
  have h3:(rows.take vs.length)[i]?=some (tf vs[i]):=by rw[h2,Xd,WK hi];rfl
  rwa[List.getElem?_take_of_lt hi] at h3
end
variable (G:aL)
theorem nQ{l:List Fd}{pr:Int}{V:AV}{nx L:Nat}{w:Lw}{h:List AO}{K:AV}{I:List Nat}(H:LS (lwR l pr V nx) L w h K I)(hw:w.regs<=1073741824):
 AC Tryz.prog G cg [.ptr L 8 0 0] h λx h'=>x= .ret (.p (.int .i64 w.regs))/\LR (lwR l pr V nx) L w.reg I h h':=
 (OZ G H hw).mono λx h' ⟨a,b⟩=>⟨a,K,I,b▸H.swap rfl,b▸⟨by simp,λi _ hn=>WM λe=>hn (by simp[e])⟩,λj hj=> .inl hj⟩
theorem ON{l:List Fd}{pr:Int}{V:AV}{nx L:Nat}{w:Lw}{h:List AO}{K:AV}{vs:Vs}(hg:h[L]?=some (lwR l pr V nx w K))(hv:VAt h V vs)(hl:vs.length<=1073741824)(s:List UInt8):
 AC Tryz.prog G fz [.ptr L 8 0 0,.p (.str s)] h λx h'=>x= .ret (.p (.int .i64 (rgV vs s)))/\h'=h:=by
 obtain⟨v1,v2,v3⟩:=hv.is
 have hLl:=(WJ.1 hg).1
 simp only[lwR] at hg
 have hlen:V= .nils/\vs.length=0\/∃vid,V= .sl vid 3 0 vs.length:=by
  cases hv with
  |nil=>exact .inl ⟨rfl,rfl⟩
  |sl vid rows _ _ _=>exact .inr ⟨vid,rfl⟩
 refine AC.go vM ?_
 rcases hlen with⟨rfl,h0⟩|⟨vid,rfl⟩
 ·have h0:=List.length_eq_zero_iff.1 h0
  subst h0
  simp-implicitDefEqProofs[jy,hg]
  refine aM (λ_:Unit=>aC 34 [(5,.p (.int .i64 (-1))),(0,.ptr L 8 0 0),(1,.p (.str s))]) (λ_=>h) (λ_=>True) (λ_=>0) () trivial ?_ ?_
  ·exact aq (WV _) (by simp[below,hLl,show IntKind.i64.wrap (-1)= -1 from ab (by omega) (by omega)])
  rintro⟨⟩ _
  simp-implicitDefEqProofs[rgV]
 ·have hwl:IntKind.i64.wrap ((vs.length:Int)-1)=(vs.length:Int)-1:=ab (by omega) (by omega)
  simp-implicitDefEqProofs[jy,hg,hwl]
  refine aM (λk:Nat=>aC 34 [(5,.p (.int .i64 ((k:Int)-1))),(0,.ptr L 8 0 0),(1,.p (.str s))]) (λ_=>h) (λk=>k<=vs.length/\rgV vs s=rgV (vs.take k) s) (λk=>k) vs.length ⟨WV _,by rw[Xk]⟩ ?_ ?_
  ·exact aq (WV _) (by simp[below,hLl])
  rintro k ⟨hk,he⟩
  cases k with
  |zero=>
   rw[List.take_zero] at he
   rw[he]
   simp-implicitDefEqProofs[rgV]
  |succ j=>
   have hj:j<vs.length:=hk
   obtain⟨vid2,rows,e1,e2,e3⟩:=hv.at hj
   cases e1
   rw[an hj,AG] at he
   have ej:((j+1:Nat):Int)-1=j:=by omega
   generalize vs[j]=p at*
   obtain⟨q,n⟩:=p
   simp only[tf] at e3 he
   simp-implicitDefEqProofs[ej,hg,e2,e3,hj]
   refine aO (λc=>?_) (λc=>?_)
   ·have c:q=s:=by simpa using c
    rw[he,if_pos c]
    simp-implicitDefEqProofs[hg,e2,e3,hj]
   ·have c:¬q=s:=by simpa using c
    rw[if_neg c] at he
    have hw2:IntKind.i64.wrap ((j:Int)-1)=(j:Int)-1:=ab (by omega) (by omega)
    simp-implicitDefEqProofs[hw2]
    exact⟨j,⟨by omega,he⟩,by omega,aq (WV _) (by simp[below,hLl])⟩
end
end Go.Proofs.YtghpabfdmbdpfaaGreatDoor
