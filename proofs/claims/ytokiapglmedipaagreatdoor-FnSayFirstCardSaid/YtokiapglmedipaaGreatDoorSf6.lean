/-
  Contracts and lemmas that the card needs, part 6.
-/
import Derived.Test.YtokiapglmedipaaGreatDoorSf5
import Derived.Lib.SlicesCompact
import Derived.Recover
import Derived.Tactics
import Derived.Tactics2
namespace Go.Proofs.YtokiapglmedipaaGreatDoor
open Go Go.Aw
set_option maxRecDepth 100000
set_option maxHeartbeats 4000000
section
theorem DK:AK.whole ov=FK.ak ow:=rfl
theorem DA:∀(ps:List (List UInt8)) (w:WS),w.vs.length<=w.count->(bz ps w).vs.length<=(bz ps w).count
 |[],w,h=>h
 |s::r,w,h=>DA r (gn w s 0) (by simp[gn];omega)
theorem Ik(a b:List (List UInt8))(w:WS):bz (a++b) w=bz b (bz a w):=by simp[bz]
theorem Gc{l:List (List UInt8)}{w:WS}{i:Nat}(h:i<l.length):bz (l.take (i+1)) w=gn (bz (l.take i) w) l[i] 0:=by
 rw[aq h,Ik];rfl
theorem Dz:∀(a b:List (List UInt8)) (w:WS),nz (a++b) w=nz a w++nz b (bz a w)
 |[],b,w=>rfl
 |s::r,b,w=>by rw[VH,nz,nz,Dz r];rfl
theorem Id{l:List (List UInt8)}{w:WS}{i:Nat}(h:i<l.length):nz (l.take (i+1)) w=nz (l.take i) w++[vnm (bz (l.take i) w).count]:=by
 rw[aq h,Dz];rfl
theorem ze:∀(l:List (List UInt8)) (w:WS),(nz l w).length=l.length
 |[],w=>rfl
 |s::r,w=>by rw[nz,Vo,ze r,Vo]
def w0(fns:List Fd)(k:Nat)(f:Fd):WS:=⟨[],0,if bt fns f.name=some k then 0 else 2⟩
theorem PU(fns:List Fd)(k:Nat)(f:Fd):fnW fns k f=bv fns k 0 f.body (bz f.params (w0 fns k f)):=rfl
theorem Lx(fns:List Fd)(k:Nat)(f:Fd):(rnF fns k f).cs=[.str f.name,aw (nz f.params (w0 fns k f)),smL (iA fns k 0 f.body (bz f.params (w0 fns k f)))]:=rfl
variable (G:al)
theorem Qb{fns:List Fd}{k:Nat}{f:Fd}(hk:fns[k]?=some f)(hz:aH fns<=1073741824):VF Tryz.prog G mb [.agg [.p (fdL fns)],.p (.int .i64 k)] (.tup [.agg ((rnF fns k f).cs.map .p),.p (.int .i64 (fnW fns k f).code),.p (.int .i64 (fnW fns k f).count)]):=by
 have hfl:=fQ fns
 have hfm:=cK (UZ hk)
 have hfz:f.sz=1+f.name.length+(f.params.length+(f.params.map List.length).sum)+aC f.body:=rfl
 have hkl:=(US.1 hk).1
 have key:AC Tryz.prog G mb [.agg [.p (fdL fns)],.p (.int .i64 k)] [] λx h=>x= .ret (.tup [.agg [.p (.str f.name),.sl 5 1 0 f.params.length,.p (smL (iA fns k 0 f.body (bz f.params (w0 fns k f))))],.p (.int .i64 (fnW fns k f).code),.p (.int .i64 (fnW fns k f).count)])/\h[5]?=some (cP (nz f.params (w0 fns k f))):=by
  refine AC.goK El DK ?_
  have hfd:∀l,fdL l= .lst 3 (l.map Fd.cs):=λ_=>rfl
  have hcs:f.cs=[.str f.name,aw f.params,smL f.body]:=rfl
  have hst:aw f.params= .lst 1 (f.params.map λw=>[.str w]):=rfl
  simp-implicitDefEqProofs[ov,ow]
  refine mB (ah 62 [(1,.p (.int .i64 k)),(2,.ptr 0 1 0 0),(4,.ptr 1 3 0 0),(7,.ptr 2 5 0 0),(8,.ptr 3 3 0 0)])
   [.row 1 [[.p (fdL fns)]],.row 3 [[.p (.str []),.nils,.nils]],wO 4 true fns k ⟨[],0,0⟩,.row 3 [[.p (.str f.name),.p (aw f.params),.p (smL f.body)]],.dead] ?_ ?_
  ·simp-implicitDefEqProofs[hfd,hk,hcs]
   refine uo (h:=[.row 1 [[.p (fdL fns)]],.row 3 [[.p (.str []),.nils,.nils]],wO 4 true fns k ⟨[],0,0⟩,.row 3 [[.p (.str f.name),.p (aw f.params),.p (smL f.body)]]]) (by simp) (by simp) ?_ (by simp[below])
   refine aj (by simp[okO,below]) (aj (by simp[okO,below]) (aj ?_ (aj (by simp[okO,below]) fW)))
   intro x hx
   rw[Ve.1 hx];simp[wC,vaC,below]
  refine mB (ah 62 [(1,.p (.int .i64 k)),(2,.ptr 0 1 0 0),(4,.ptr 1 3 0 0),(7,.ptr 2 5 0 0),(8,.ptr 3 3 0 0)])
   [.row 1 [[.p (fdL fns)]],.row 3 [[.p (.str []),.nils,.nils]],wO 4 true fns k (w0 fns k f),.row 3 [[.p (.str f.name),.p (aw f.params),.p (smL f.body)]],.dead] ?_ ?_
  ·simp-implicitDefEqProofs[]
   refine(Gx G fns f.name (by omega)).use ?_
   have hok:∀w:WS,∀o∈[AO.row 1 [[.p (fdL fns)]],.row 3 [[.p (.str []),.nils,.nils]],wO 4 true fns k w,.row 3 [[.p (.str f.name),.p (aw f.params),.p (smL f.body)]],.dead],okO 5 o:=λw=>
    aj (by simp[okO,below]) (aj (by simp[okO,below]) (aj (vM (by simp)) (aj (by simp[okO,below]) (aj trivial fW))))
   by_cases he:bt fns f.name=some k
   ·have hw:w0 fns k f=⟨[],0,0⟩:=by rw[w0,if_pos he]
    rw[hw,he]
    simp-implicitDefEqProofs[ixI]
    exact ae (by simp) (hok _) (by simp[below])
   ·have hw:w0 fns k f=⟨[],0,2⟩:=by rw[w0,if_neg he]
    have hne:¬ixI (bt fns f.name)=(k:Int):=by
     intro h
     apply he
     cases e:bt fns f.name with
     |none=>rw[e] at h;simp only[ixI] at h;omega
     |some j=>rw[e] at h;simp only[ixI] at h;have:j=k:=by omega
              rw[this]
    rw[hw]
    simp-implicitDefEqProofs[hne]
    refine(Py G (wid:=2) (id:=4) (pA G true fns k ⟨[],0,0⟩ 2) (by simp) (by simp[below]) (by decide) rfl rfl).mono ?_
    rintro r h' ⟨rfl,rfl⟩
    simp-implicitDefEqProofs[aa]
    exact ae (h:=[AO.row 1 [[.p (fdL fns)]],.row 3 [[.p (.str []),.nils,.nils]],wO 4 true fns k ⟨[],0,2⟩,.row 3 [[.p (.str f.name),.p (aw f.params),.p (smL f.body)]],.dead]) (by simp) (hok _) (by simp[below])
  rw[PU]
  have hw0v:(w0 fns k f).vs=[]:=rfl
  have hw0c:(w0 fns k f).count=0:=rfl
  generalize w0 fns k f=w0 at hw0v hw0c⊢
  simp-implicitDefEqProofs[]
  have hcnt:∀j,j<=f.params.length->(bz (f.params.take j) w0).count=j:=λj hj=>by rw[vD,hw0c];simp;omega
  have hvl:∀j,(bz (f.params.take j) w0).vs.length<=(bz (f.params.take j) w0).count:=λj=>DA _ _ (by rw[hw0v];simp)
  refine aO (λj:Nat=>ah 62 [(1,.p (.int .i64 k)),(2,.ptr 0 1 0 0),(4,.ptr 1 3 0 0),(7,.ptr 2 5 0 0),(8,.ptr 3 3 0 0),(9,.sl 5 1 0 j),(10,.p (.int .i64 j))])
   (λj=>[.row 1 [[.p (fdL fns)]],.row 3 [[.p (.str []),.nils,.nils]],wO 6 (decide (j=0)) fns k (bz (f.params.take j) w0),.row 3 [[.p (.str f.name),.p (aw f.params),.p (smL f.body)]],.dead,cP (nz (f.params.take j) w0),roC (decide (j=0)) (bz (f.params.take j) w0).vs])
   (λj=>j<=f.params.length) (λj=>f.params.length-j) 0 (by simp) ?_ ?_
  ·refine uo (h:=[.row 1 [[.p (fdL fns)]],.row 3 [[.p (.str []),.nils,.nils]],wO 6 true fns k w0,.row 3 [[.p (.str f.name),.p (aw f.params),.p (smL f.body)]],.dead,.row 1 []]) (by simp) (by simp) ?_ (by simp[below])
   refine aj (by simp[okO,below]) (aj (by simp[okO,below]) (aj ?_ (aj (by simp[okO,below]) (aj trivial (aj (by simp[okO]) fW)))))
   intro x hx
   rw[Ve.1 hx];simp[wC,vaC,below]
  intro j hj
  have hjc:=hcnt j hj
  have hjv:=hvl j
  have hol:=ze (f.params.take j) w0
  rw[Vs,Nat.min_eq_left hj] at hol
  have hnf:decide (j=0)=true->(bz (f.params.take j) w0).vs=[]:=by
   intro h
   have h0:j=0:=by simpa using h
   rw[h0,List.take_zero]
   exact hw0v
  simp-implicitDefEqProofs[hst]
  refine be (λh=>?_) (λh=>?_)
  ·simp at h
   have hg:=UW h
   have eP:=Gc (w:=w0) h
   have eR:=Id (w:=w0) h
   simp-implicitDefEqProofs[hg]
   refine(Lv G (wid:=2) (id:=6) (Q:=λnf' w'=>nf'=false/\w'=gn (bz (f.params.take j) w0) f.params[j] 0) ((Lo G (decide (j=0)) fns k _ hnf (by omega) (by omega) f.params[j] 0).mono (by rintro x h ⟨rfl,rfl⟩;exact⟨false,_,rfl,rfl,rfl,rfl⟩)) (by simp) (by simp[below]) (by decide) rfl rfl).mono ?_
   rintro r h' ⟨nf',w',rfl,rfl,rfl,rfl⟩
   have hso:∀l,cP l= .row 1 (l.map λn=>[.p (.str n)]):=λ_=>rfl
   simp-implicitDefEqProofs[aa,hso,hol]
   refine⟨by omega,j+1,by omega,by omega,?_⟩
   have htk:List.take j ((nz (f.params.take j) w0).map λn=>[AV.p (.str n)])=(nz (f.params.take j) w0).map λn=>[AV.p (.str n)]:=Va (by rw[VE];omega)
   have hd:decide (j+1=0)=false:=by simp
   rw[eP,eR,hd,List.map_append,←List.map_take,List.map_take,htk]
   refine DR [0,1,2,3,4,9,7] rfl (by decide) (bg rfl (by simp) (bg rfl (by simp[below]) (zn (by simp) rfl (bg rfl (by simp) (eU (by simp) (bg rfl (λx hx=>?_) (bS rfl (gq _ _ _) bV))))))) (by simp[below,ren,w1 (i:=j) (by omega)])
   rcases Vd.1 hx with h|h
   ·exact pT _ x h
   ·exact pT _ x h
  ·simp at h
   have hje:j=f.params.length:=by omega
   subst hje
   rw[List.take_length] at hol hjc hjv hnf⊢
   generalize decide (f.params.length=0)=nf at hnf⊢
   simp-implicitDefEqProofs[]
   refine(Lv G (wid:=2) (id:=6) (MD G (fns:=fns) (by omega) (aC f.body+1) f.body (by omega) 0 _ (bz f.params w0) hnf hjv (by omega) (by omega)) (by simp) (by simp[below]) (by decide) rfl rfl).mono ?_
   rintro r h' ⟨nf',w',rfl,rfl,hn',hw'⟩
   have hb:sI fns k 0 f.body (bz f.params w0)=bv fns k 0 f.body (bz f.params w0):=rfl
   rw[hb] at hw'
   rw[←hw']
   simp-implicitDefEqProofs[aa,wO,wC]
 refine key.freezeR (λt v h ⟨e,_⟩=>by cases e) λv h ⟨e1,e2⟩=>?_
 cases e1
 rw[Lx]
 have hol:=ze f.params (w0 fns k f)
 have hv:=gv e2
 rw[hol] at hv
 exact .tup (.agg (.keep (by simp) (.one hv (.keep (by simp) .nil))) (.keep (by simp) (.keep (by simp) .nil))) .nil
theorem EF{fns:List Fd}{i:Nat}(h:i<fns.length):iK fns i (fns.drop i)=if(fnW fns i fns[i]).code=0 then iK fns (i+1) (fns.drop (i+1)) else(fnW fns i fns[i]).code:=by
 rw[VS h,iK]
theorem Aj(l:List Fd)(hz:aH l<=1073741824):VF Tryz.prog G fj [.agg [.p (fdL l)]] (.p (.int .i64 (aJ l))):=by
 refine AC.go re ?_
 have hll:=fQ l
 have hfd:∀l,fdL l= .lst 3 (l.map Fd.cs):=λ_=>rfl
 simp-implicitDefEqProofs[ka]
 refine(kH G l (by omega)).use ?_
 by_cases hv:aY l=true
 case neg=>
  have:aJ l=1:=if_neg hv
  have hv':aY l=false:=by simpa using hv
  simp-implicitDefEqProofs[hv',this]
 have hc:aJ l=iK l 0 (l.drop 0):=if_pos hv
 rw[hc]
 simp-implicitDefEqProofs[hv]
 refine aO (λi:Nat=>ah 27 [(1,.ptr 0 1 0 0),(3,.p (.int .i64 i))]) (λ_=>[.row 1 [[.p (fdL l)]]]) (λi=>i<=l.length/\iK l 0 l=iK l i (l.drop i)) (λi=>l.length-i) 0 (by simp) (ae (by simp) (by simp[okO]) (by simp[below])) ?_
 rintro i ⟨hi,he⟩
 simp-implicitDefEqProofs[hfd]
 refine be (λh=>?_) (λh=>?_)
 ·simp at h
  have hg:=UW h
  have hd:=EF h
  simp-implicitDefEqProofs[]
  refine(Qb G hg hz).use ?_
  have hrc:=Lx l i l[i]
  by_cases h0:(fnW l i l[i]).code=0
  ·rw[if_pos h0] at hd
   simp-implicitDefEqProofs[h0,hrc]
   refine⟨i+1,⟨by omega,by rw[he,hd]⟩,by omega,?_⟩
   refine gI (m:=1) (by omega) (dF rfl rfl (by simp[okO,below])) (by simp[below,hfd,w1 (i:=i) (by omega)])
  ·rw[if_neg h0] at hd
   simp-implicitDefEqProofs[h0,hrc]
   rw[he,hd]
 ·simp at h
  have hie:i=l.length:=by omega
  subst hie
  rw[List.drop_length] at he
  simp-implicitDefEqProofs[]
  rw[he];rfl
end
section
variable (G:al)
theorem lA(n lo hi:Int):VF Tryz.prog G dm [.p (.int .i64 n),.p (.int .i64 lo),.p (.int .i64 hi)] (.p (.bool (inR n lo hi))):=by
 refine AC.go AT ?_
 by_cases h:lo<=n
 ·simp-implicitDefEqProofs[mu,h,inR]
 ·simp-implicitDefEqProofs[mu,h,inR]
theorem EK(n:Int):VF Tryz.prog G ja [.p (.int .i64 n)] (.p (.bool (inR n 0 255))):=by
 refine AC.go Bc ?_
 simp-implicitDefEqProofs[rU]
 refine(lA G _ _ _).use ?_
 simp-implicitDefEqProofs[]
theorem Gp(n:Int):VF Tryz.prog G cZ [.p (.int .i32 n)] (.p (.bool (decide (n<97)||decide (122<n)))):=by
 refine AC.go vT ?_
 simp-implicitDefEqProofs[nT]
 by_cases h:n<97
 ·simp-implicitDefEqProofs[h]
 ·simp-implicitDefEqProofs[h]
theorem Oh{s:List UInt8}{i:Nat}(h:i<s.length)(hl:dI s[i]=true):Utf8.decode ⟨⟨s⟩⟩ i=(s[i].toNat,1):=by
 simp only[dI,Vm,decide_eq_true_eq] at hl
 exact decode_ascii ⟨⟨s⟩⟩ i h (by show(s[i]).toNat<128;omega)
theorem Jf{s:List UInt8}{i:Nat}(h:i<s.length)(hl:¬dI s[i]=true):(((Utf8.decode ⟨⟨s⟩⟩ i).1:Int)<97\/122<((Utf8.decode ⟨⟨s⟩⟩ i).1:Int)):=by
 rcases VJ s[i].toNat 128 with h1|h1
 ·rw[show Utf8.decode ⟨⟨s⟩⟩ i=(s[i].toNat,1) from decode_ascii ⟨⟨s⟩⟩ i h h1]
  simp[dI] at hl
  simp only
  omega
 ·have:=(decode_high ⟨⟨s⟩⟩ i h h1).1
  omega
theorem Fb(s:List UInt8)(hb:s.length<=140737488355328):VF Tryz.prog G fC [.p (.str s),.fn (.func cZ) [],.p (.bool true)] (.p (.int .i64 (Cq s))):=by
 refine AC.go rm ?_
 simp-implicitDefEqProofs[kb]
 refine aO (λi:Nat=>ah 21 [(0,.p (.str s)),(1,.fn (.func cZ) []),(2,.p (.bool true)),(10,.it 0)]) (λi=>[.sit s i]) (λi=>i<=s.length/\∀x∈s.take i,dI x=true) (λi=>s.length-i) 0 (by simp) ?_ ?_
 ·exact ae (by simp) (by simp[okO]) (by simp[below,af])
 ·intro i ⟨hi,hn⟩
  simp-implicitDefEqProofs[]
  by_cases h1:i<s.length
  ·have hg:=UW h1
   simp-implicitDefEqProofs[h1]
   refine(Gp G _).use ?_
   by_cases hl:dI s[i]=true
   ·have hd:=Oh h1 hl
    have hl':=hl
    simp only[dI,Vm,decide_eq_true_eq] at hl'
    have e1:¬((s[i].toNat:Int)<97):=by omega
    have e2:¬(122<(s[i].toNat:Int)):=by omega
    rw[hd]
    simp-implicitDefEqProofs[e1,e2]
    refine⟨i+1,⟨h1,λp hp=>?_⟩,by omega,ae (by simp) (by simp[okO]) (by simp[below,af])⟩
    rw[aq h1] at hp
    rcases Vd.1 hp with hp|hp
    ·exact hn p hp
    ·rw[Ve.1 hp];exact hl
   ·have hd:=Jf h1 hl
    have hf:Cq s=i:=by
     have:s.findIdx? (λx=> !dI x)=some i:=by
      rw[Vn]
      exact⟨h1,by simpa using hl,λj hj=>by have:=hn s[j] (Wc.2 ⟨j,by omega,rfl⟩);simpa using this⟩
     rw[Cq,this]
    have hdb:(decide (((Utf8.decode ⟨⟨s⟩⟩ i).1:Int)<97)||decide (122<((Utf8.decode ⟨⟨s⟩⟩ i).1:Int)))=true:=by
     rcases hd with h|h<;>simp[h]
    rw[hdb]
    simp-implicitDefEqProofs[hf]
  ·have hn':=hn
   rw[Va (by omega)] at hn'
   have hf:Cq s= -1:=by
    have:s.findIdx? (λx=> !dI x)=none:=by
     rw[VB];intro x hx;simpa using hn' x hx
    rw[Cq,this]
   simp-implicitDefEqProofs[h1,hf]
theorem Em(s:List UInt8)(hb:s.length<=140737488355328):VF Tryz.prog G ft [.p (.str s),.fn (.func cZ) []] (.p (.int .i64 (Cq s))):=by
 refine AC.go rh ?_
 simp-implicitDefEqProofs[ki]
 refine(Fb G s hb).use ?_
 simp-implicitDefEqProofs[]
theorem Nk(L:List (List UInt8))(s:List UInt8)(hb:L.length<=1048576):VF Tryz.prog G ed [.p (aw L),.p (.str s)] (.p (.int .i64 (idxS L s))):=by
 refine AC.go oa ?_
 have hsl:aw L= .lst 1 (L.map λw=>[.str w]):=rfl
 simp-implicitDefEqProofs[iH,hsl]
 refine aO (λi:Nat=>ah 19 [(0,.p (aw L)),(1,.p (.str s)),(6,.p (aw L)),(7,.p (.int .i64 L.length)),(8,.p (.int .i64 i))]) (λ_=>[]) (λi=>i<=L.length/\∀w∈L.take i,w≠s) (λi=>L.length-i) 0 (by simp) ?_ ?_
 ·exact bx rfl (by simp[below,aw])
 ·intro i ⟨hi,hn⟩
  simp-implicitDefEqProofs[hsl]
  refine be (λh1=>?_) (λh1=>?_)
  ·simp at h1
   have hg:=UW h1
   by_cases he:L[i]=s
   ·have hf:idxS L s=i:=by
     have:L.findIdx? (λw=>w==s)=some i:=by
      rw[Vn]
      exact⟨h1,by simpa using he,λj hj=>by have:=hn L[j] (Wc.2 ⟨j,by omega,rfl⟩);simpa using this⟩
     rw[idxS,this]
    have he':s=L[i]:=he.symm
    simp-implicitDefEqProofs[hg,hf,←he']
   ·have he':¬s=L[i]:=λe=>he e.symm
    simp-implicitDefEqProofs[hg,he']
    refine⟨i+1,⟨h1,λp hp=>?_⟩,by omega,bx rfl ?_⟩
    ·rw[aq h1] at hp
     rcases Vd.1 hp with hp|hp
     ·exact hn p hp
     ·rw[Ve.1 hp];exact he
    ·simp[below,aw,w1 (i:=i) (by omega)]
  ·simp at h1
   rw[Va h1] at hn
   have hf:idxS L s= -1:=by
    have:L.findIdx? (λw=>w==s)=none:=by
     rw[VB];intro x hx;simpa using hn x hx
    rw[idxS,this]
   simp-implicitDefEqProofs[hf]
theorem Fz(L:List (List UInt8))(s:List UInt8)(hb:L.length<=1048576):VF Tryz.prog G dj [.p (aw L),.p (.str s)] (.p (.bool (L.contains s))):=by
 rw[←ME]
 refine AC.go mD ?_
 simp-implicitDefEqProofs[fL]
 refine(Nk G L s hb).use ?_
 simp-implicitDefEqProofs[]
abbrev fy:Nat:=1
def eF:List PV:=keyW.map .str
variable (hK:G fy=some eF)
include hK
theorem pm(s:List UInt8)(hb:s.length<=140737488355328):VF Tryz.prog G cz [.p (.str s)] (.p (.bool (aG s))):=by
 refine AC.go Bw ?_
 unfold fy at hK
 simp-implicitDefEqProofs[sa]
 refine(lA G _ _ _).use ?_
 have hr:inR (s.length:Int) 1 4=(decide (0<s.length)&&decide (s.length<=4)):=by
  unfold inR
  by_cases h1:0<s.length<;>by_cases h2:s.length<=4<;>simp[h1,h2]<;>omega
 rw[hr]
 have hi:aG s=((decide (0<s.length)&&decide (s.length<=4))&&(s.all dI&& !keyW.contains s)):=by
  rw[aG];cases s.all dI<;>cases decide (0<s.length)<;>cases decide (s.length<=4)<;>rfl
 cases h1:(decide (0<s.length)&&decide (s.length<=4)) with
 |false=>
  rw[hi,h1]
  simp-implicitDefEqProofs[]
 |true=>
  rw[hi,h1]
  simp-implicitDefEqProofs[]
  refine(Em G s hb).use ?_
  rw[←LP]
  by_cases hn:Cq s<0
  ·simp-implicitDefEqProofs[hn,hK,eF,keyW]
   refine(Fz G keyW s (by decide)).use ?_
   simp-implicitDefEqProofs[keyW]
  ·simp-implicitDefEqProofs[hn]
end
section
theorem yA:AK.whole jE=FK.ak jP:=rfl
abbrev cL:Nat:=2
def opK:List PV:=[.int .i64 3,.int .i64 4,.int .i64 5,.int .i64 6,.int .i64 7,.int .i64 8,.int .i64 9,.int .i64 10]
def opV:List (List PV):=[[.str [43],.int .i64 3],[.str [45],.int .i64 3],[.str [42],.int .i64 4],[.str [47],.int .i64 4],[.str [37],.int .i64 4],[.str [60],.int .i64 2],[.str [61],.int .i64 2],[.str [38],.int .i64 1]]
def lvl(op:Int):Int:=if op=10 then 1 else if op=8 then 2 else if op=9 then 2 else if op=3 then 3 else if op=4 then 3 else 4
def sgB(op:Int):UInt8:=if op=3 then 43 else if op=4 then 45 else if op=5 then 42 else if op=6 then 47 else if op=7 then 37 else if op=8 then 60 else if op=9 then 61 else 38
def sgn(op:Int):Option AV:=if 3<=op/\op<=10 then some (.agg [.p (.str [sgB op]),.p (.int .i64 (lvl op))]) else none
theorem HQ(op:Int):(opK.all λk'=>(keq (.int .i64 op) k').isSome)=true:=by simp[opK,keq]
theorem HC(op:Int):fe (.int .i64 op) (Jp opK opV)=some (sgn op):=by
 by_cases h:3<=op/\op<=10
 ·have h8:op=3\/op=4\/op=5\/op=6\/op=7\/op=8\/op=9\/op=10:=by omega
  rcases h8 with rfl|rfl|rfl|rfl|rfl|rfl|rfl|rfl<;>rfl
 ·have e:sgn op=none:=if_neg h
  have h3:¬op=3:=by omega
  have h4:¬op=4:=by omega
  have h5:¬op=5:=by omega
  have h6:¬op=6:=by omega
  have h7:¬op=7:=by omega
  have h8:¬op=8:=by omega
  have h9:¬op=9:=by omega
  have h10:¬op=10:=by omega
  rw[e]
  simp[opK,opV,Jp,fe,keq,h3,h4,h5,h6,h7,h8,h9,h10]
theorem GN(op:Int):0<lvl op:=by
 unfold lvl
 repeat' split
 all_goals omega
theorem Qs(op:Int):lvl op<6:=by
 unfold lvl
 repeat' split
 all_goals omega
def lvI(op:Int):Int:=if 3<=op/\op<=10 then lvl op else if op=11\/op=12 then 5 else 6
mutual
def Ex.deep:Ex->Nat
 | .mk _ _ _ k=>1+mP k
def mP:List Ex->Nat
 |[]=>0
 |e::r=>max e.deep (mP r)
end
theorem Ex.deep_eq(e:Ex):e.deep=1+mP e.kids:=by cases e;rfl
theorem EV:∀a b:List Ex,mP (a++b)=max (mP a) (mP b)
 |[],b=>by simp[mP]
 |e::r,b=>by rw[VH,mP,mP,EV r b];omega
mutual
theorem Ex.deep_le:∀e:Ex,e.deep<=e.sz
 | .mk _ _ s k=>by have:=CN k;simp only[Ex.deep,Ex.sz];omega
theorem CN:∀l:List Ex,mP l<=br l
 |[]=>Vi _
 |e::r=>by have:=e.deep_le;have:=CN r;simp only[mP,br];omega
end
theorem og{α:Type}{p:α->Bool}{xs:List α}{i:Nat}{c:α}(h:xs[i]?=some c):(xs.take (i+1)).all p=((xs.take i).all p&&p c):=by
 rw[List.take_add_one,h,List.all_append];simp
def okE(m:Nat)(e:Ex):Bool:=bZ m e&&decide (e.parts<=30)
def yy:Nat->Ex->Bool
 |0,_=>false
 |m+1,e=>md e&&e.kids.all (okE m)
theorem DO:∀{l:List Ex} {e:Ex},e∈l->e.parts<=ga l
 |x::r,e,h=>by
  simp only[ga]
  rcases Vf.1 h with rfl|h
  ·omega
  ·have:=DO h;omega
theorem Hx(m:Nat)(e:Ex):(yy m e&&decide (e.parts<=30))=okE m e:=by
 cases m with
 |zero=>simp[yy,okE,bZ]
 |succ m=>
  by_cases hp:e.parts<=30
  ·have h2:e.kids.all (okE m)=e.kids.all (bZ m):=by
    rw[Bool.eq_iff_iff,Vc,Vc]
    refine⟨λh x hx=>?_,λh x hx=>?_⟩
    ·have:=h x hx;simp only[okE,Vm] at this;exact this.1
    ·have h1:=h x hx
     have:=DO hx
     have:=e.parts_eq
     simp only[okE,h1,Bool.true_and]
     simp;omega
   simp[yy,okE,bZ,h2]
  ·simp[okE,hp]
theorem Oz(e:Ex):okE 6 e=lz e:=rfl
def szA(m:Nat)(e:Ex):AV:=if yy m e then .tup [.p (.int .i64 e.parts),.p (.int .i64 e.deep),.p (.bool (decide (e.parts<=30)))] else .tup [.p (.int .i64 0),.p (.int .i64 0),.p (.bool false)]
def cn(e:Ex):Bool:=inR e.op 1 13&&(if e.op=1 then inR e.n 0 255&&decide (e.name=[]) else if e.op=2\/e.op=13 then aG e.name&&decide (e.n=0) else true)
def iD(e:Ex):Bool:=(decide (e.op=1\/e.op=2\/e.op=13)||(decide (e.n=0)&&decide (e.name=[])))&&inR e.kids.length (loK e.op) (hiK e.op)
theorem sB:aG []=false:=rfl
theorem DQ(e:Ex):md e=(cn e&&iD e):=by
 unfold md cn iD Es
 by_cases h1:e.op=1
 ·simp only[h1]
  cases inR (e.kids.length:Int) (loK 1:Nat) (hiK 1:Nat)<;>by_cases hn:e.name=[]<;>cases h2:inR e.n 0 255<;>simp[hn,sB,inR]
 by_cases h2:e.op=2
 ·simp only[h2]
  cases inR (e.kids.length:Int) (loK 2:Nat) (hiK 2:Nat)<;>cases hi:aG e.name<;>by_cases hn:e.n=0<;>simp[hn,inR]
 by_cases h3:e.op=13
 ·simp only[h3]
  cases inR (e.kids.length:Int) (loK 13:Nat) (hiK 13:Nat)<;>cases hi:aG e.name<;>by_cases hn:e.n=0<;>simp[hn,inR]
 ·cases inR e.op 1 13<;>cases inR (e.kids.length:Int) (loK e.op:Nat) (hiK e.op:Nat)<;>by_cases hn:e.n=0<;>by_cases hm:e.name=[]<;>simp[h1,h2,h3,hn,hm,sB,inR]
variable (G:al) (hK:G fy=some eF) (hS:G cL=some [.tbl opK opV])
include hS
theorem Ih(op:Int):VF Tryz.prog G lm [.p (.int .i64 op)] (.p (.int .i64 (lvI op))):=by
 refine AC.go zz ?_
 have hall:=HQ op
 have hget:=HC op
 have hS':=hS
 unfold cL at hS'
 have hlp:=GN op
 by_cases h:3<=op/\op<=10
 ·have e:sgn op=some (.agg [.p (.str [sgB op]),.p (.int .i64 (lvl op))]):=if_pos h
  have e2:lvI op=lvl op:=if_pos h
  rw[e2]
  generalize lvl op=L at*
  simp-implicitDefEqProofs[eC,hS',hall,hget,e,hlp]
 ·have e:sgn op=none:=if_neg h
  by_cases h11:op=11
  ·subst h11;simp-implicitDefEqProofs[eC,hS',hall,hget,e,lvI]
  by_cases h12:op=12
  ·subst h12;simp-implicitDefEqProofs[eC,hS',hall,hget,e,lvI]
  have e2:lvI op=6:=by rw[lvI,if_neg h,if_neg (by simp[h11,h12])]
  simp-implicitDefEqProofs[eC,hS',hall,hget,e,e2,h11,h12]
include hK
theorem FT:∀(m:Nat) (e:Ex),e.sz<=1073741824->m<=100->VF Tryz.prog G fZ [.agg (e.cs.map .p),.p (.int .i64 m)] (szA m e):=by
 intro m
 induction m using Nat.strongRecOn with
 |_ m ih=>
 intro e he hm
 have hec:=e.cs_eq
 have hsz:=e.sz_eq
 have hkl:=bH e.kids
 have hS':=hS
 unfold cL at hS'
 have hall:=HQ e.op
 have hget:=HC e.op
 have hxl:exL e.kids= .lst 4 (e.kids.map Ex.cs):=rfl
 have hbad:(cn e&&iD e&&decide (1<=m))=false->szA m e= .tup [.p (.int .i64 0),.p (.int .i64 0),.p (.bool false)]:=by
  intro h
  have:yy m e=false:=by
   cases m with
   |zero=>rfl
   |succ m=>rw[yy,DQ];simp at h;cases h1:cn e<;>cases h2:iD e<;>simp[h1,h2] at h⊢
  rw[szA,this];rfl
 have hb1:cn e=false->szA m e= .tup [.p (.int .i64 0),.p (.int .i64 0),.p (.bool false)]:=λh=>hbad (by rw[h];rfl)
 refine AC.goK yD yA ?_
 simp-implicitDefEqProofs[jE,jP,hec]
 refine uF (λ_:Unit=>ah 127 [(1,.p (.int .i64 m)),(2,.ptr 0 4 0 0),(7,.p (.int .i64 (loK e.op))),(8,.p (.int .i64 (hiK e.op)))]) (λ_=>[.row 4 [[.p (.int .i64 e.op),.p (.int .i64 e.n),.p (.str e.name),.p (exL e.kids)]]]) (λ_=>cn e=true) ?_ ?_
 ·have fin:∀(r1:List (Nat × AV)),Aw.look r1 1= .p (.int .i64 m)->Aw.look r1 2= .ptr 0 4 0 0->Aw.look r1 7= .p (.int .i64 (loK e.op))->Aw.look r1 8= .p (.int .i64 (hiK e.op))->
   Wk 0 (ah 127 r1) [.row 4 [[.p (.int .i64 e.op),.p (.int .i64 e.n),.p (.str e.name),.p (exL e.kids)]]] (ah 127 [(1,.p (.int .i64 m)),(2,.ptr 0 4 0 0),(7,.p (.int .i64 (loK e.op))),(8,.p (.int .i64 (hiK e.op)))]) [.row 4 [[.p (.int .i64 e.op),.p (.int .i64 e.n),.p (.str e.name),.p (exL e.kids)]]]:=λr1 a b c d=>
   ae (by simp) (by simp[okO,below]) (by simp[below,a,b,c,d])
  have hop1:inR (1:Int) 1 13=true:=rfl
  have hop2:inR (2:Int) 1 13=true:=rfl
  have hop13:inR (13:Int) 1 13=true:=rfl
  by_cases o1:e.op=1
  ·rw[o1] at fin⊢
   simp-implicitDefEqProofs[o1]
   refine(EK G _).use ?_
   by_cases h1:inR e.n 0 255=true
   ·by_cases h2:e.name=[]
    ·have hp:cn e=true:=by simp[cn,o1,h1,h2,hop1]
     rw[h2] at fin
     simp-implicitDefEqProofs[h1,h2,hp]
     exact fin _ (by simp) (by simp) (by simp[loK]) (by simp[hiK])
    ·have hp:cn e=false:=by simp[cn,o1,h1,h2,hop1]
     rw[hb1 hp]
     simp-implicitDefEqProofs[h1,h2]
   ·have hp:cn e=false:=by simp[cn,o1,h1,hop1]
    rw[hb1 hp]
    simp-implicitDefEqProofs[h1]
  by_cases o2:e.op=2
  ·rw[o2] at fin⊢
   simp-implicitDefEqProofs[o2]
   refine(pm G hK _ (by omega)).use ?_
   by_cases h1:aG e.name=true
   ·by_cases h2:e.n=0
    ·have hp:cn e=true:=by simp[cn,o2,h1,h2,hop2]
     rw[h2] at fin
     simp-implicitDefEqProofs[h1,h2,hp]
     exact fin _ (by simp) (by simp) (by simp[loK]) (by simp[hiK])
    ·have hp:cn e=false:=by simp[cn,o2,h1,h2,hop2]
     rw[hb1 hp]
     simp-implicitDefEqProofs[h1,h2]
   ·have hp:cn e=false:=by simp[cn,o2,h1,hop2]
    rw[hb1 hp]
    simp-implicitDefEqProofs[h1]
  by_cases o13:e.op=13
  ·rw[o13] at fin⊢
   simp-implicitDefEqProofs[o13]
   refine(pm G hK _ (by omega)).use ?_
   by_cases h1:aG e.name=true
   ·by_cases h2:e.n=0
    ·have hp:cn e=true:=by simp[cn,o13,h1,h2,hop13]
     rw[h2] at fin
     simp-implicitDefEqProofs[h1,h2,hp]
     exact fin _ (by simp) (by simp) (by simp[loK]) (by simp[hiK])
    ·have hp:cn e=false:=by simp[cn,o13,h1,h2,hop13]
     rw[hb1 hp]
     simp-implicitDefEqProofs[h1,h2]
   ·have hp:cn e=false:=by simp[cn,o13,h1,hop13]
    rw[hb1 hp]
    simp-implicitDefEqProofs[h1]
  have hlp:=GN e.op
  by_cases h:3<=e.op/\e.op<=10
  ·have es:sgn e.op=some (.agg [.p (.str [sgB e.op]),.p (.int .i64 (lvl e.op))]):=if_pos h
   have hp:cn e=true:=by simp[cn,o1,o2,o13,inR];omega
   have o11:¬e.op=11:=by omega
   have o12:¬e.op=12:=by omega
   have elo:loK e.op=2:=by simp[loK,o1,o2,o11,o12,o13]
   have ehi:hiK e.op=2:=by simp[hiK,o1,o2,o11,o12,o13]
   generalize lvl e.op=L at*
   simp-implicitDefEqProofs[o1,o2,o13,hS',hall,hget,es,hlp,hp]
   exact fin _ (by simp) (by simp) (by simp[elo]) (by simp[ehi])
  have es:sgn e.op=none:=if_neg h
  by_cases o11:e.op=11
  ·have hp:cn e=true:=by simp[cn,o11,inR]
   have elo:loK e.op=1:=by simp[loK,o11]
   have ehi:hiK e.op=1:=by simp[hiK,o11]
   rw[o11] at hall hget es fin
   simp-implicitDefEqProofs[o11,hS',hall,hget,es,hp]
   exact fin _ (by simp) (by simp) (by simp[loK]) (by simp[hiK])
  by_cases o12:e.op=12
  ·have hp:cn e=true:=by simp[cn,o12,inR]
   rw[o12] at hall hget es fin
   simp-implicitDefEqProofs[o12,hS',hall,hget,es,hp]
   exact fin _ (by simp) (by simp) (by simp[loK]) (by simp[hiK])
  ·have hp:cn e=false:=by simp[cn,o1,o2,o13,inR];omega
   rw[hb1 hp]
   simp-implicitDefEqProofs[o1,o2,o13,hS',hall,hget,es,o11,o12]
 intro _ hp
 have hop:1<=e.op/\e.op<=13:=by
  simp only[cn,Vm,inR,decide_eq_true_eq] at hp
  exact hp.1
 have hb2:iD e=false->szA m e= .tup [.p (.int .i64 0),.p (.int .i64 0),.p (.bool false)]:=λh=>hbad (by rw[h];simp)
 have hb3:m<1->szA m e= .tup [.p (.int .i64 0),.p (.int .i64 0),.p (.bool false)]:=by
  intro h
  have hd:decide (1<=m)=false:=by simp;omega
  exact hbad (by rw[hd];simp)
 refine uF (λ_:Unit=>ah 127 [(1,.p (.int .i64 m)),(2,.ptr 0 4 0 0)]) (λ_=>[.row 4 [[.p (.int .i64 e.op),.p (.int .i64 e.n),.p (.str e.name),.p (exL e.kids)]]]) (λ_=>iD e=true/\1<=m) ?_ ?_
 ·have fin:∀(r1:List (Nat × AV)),Aw.look r1 1= .p (.int .i64 m)->Aw.look r1 2= .ptr 0 4 0 0->
   Wk 0 (ah 127 r1) [.row 4 [[.p (.int .i64 e.op),.p (.int .i64 e.n),.p (.str e.name),.p (exL e.kids)]]] (ah 127 [(1,.p (.int .i64 m)),(2,.ptr 0 4 0 0)]) [.row 4 [[.p (.int .i64 e.op),.p (.int .i64 e.n),.p (.str e.name),.p (exL e.kids)]]]:=λr1 a b=>
   ae (by simp) (by simp[okO,below]) (by simp[below,a,b])
  simp-implicitDefEqProofs[]
  refine(Ih G hS e.op).use ?_
  by_cases ho:e.op=1\/e.op=2\/e.op=13
  ·have hlv:lvI e.op=6:=by
    rw[lvI,if_neg (by omega),if_neg (by omega)]
   have hd:decide (e.op=1\/e.op=2\/e.op=13)=true:=by simpa using ho
   simp-implicitDefEqProofs[hlv,hxl]
   refine(lA G _ _ _).use ?_
   by_cases hk:inR e.kids.length (loK e.op) (hiK e.op)=true
   ·have hr:iD e=true:=by rw[iD,hd,hk];rfl
    by_cases hm1:m<1
    ·have hm1':(m:Int)<1:=by omega
     rw[hb3 hm1]
     simp-implicitDefEqProofs[hk,hm1']
    ·have hm1':¬(m:Int)<1:=by omega
     have hm2:1<=m:=by omega
     simp-implicitDefEqProofs[hk,hm1',hr,hm2]
     exact fin _ (by simp) (by simp)
   ·have hk':inR e.kids.length (loK e.op) (hiK e.op)=false:=by simpa using hk
    have hr:iD e=false:=by rw[iD,hk',Bool.and_false]
    rw[hb2 hr]
    simp-implicitDefEqProofs[hk']
  ·have hlv:lvI e.op<6:=by
    have:=Qs e.op
    unfold lvI
    split
    ·exact this
    ·rw[if_pos (by omega)];omega
   have hd:decide (e.op=1\/e.op=2\/e.op=13)=false:=by simpa using ho
   generalize lvI e.op=L at hlv⊢
   by_cases h1:e.n=0
   ·by_cases h2:e.name=[]
    ·have hz:decide (e.n=0)=true/\decide (e.name=[])=true:=by simp[h1,h2]
     simp-implicitDefEqProofs[hlv,h1,h2,hxl]
     refine(lA G _ _ _).use ?_
     rw[h1,h2] at fin
     by_cases hk:inR e.kids.length (loK e.op) (hiK e.op)=true
     ·have hr:iD e=true:=by rw[iD,hd,hk,hz.1,hz.2];rfl
      by_cases hm1:m<1
      ·have hm1':(m:Int)<1:=by omega
       rw[hb3 hm1]
       simp-implicitDefEqProofs[hk,hm1']
      ·have hm1':¬(m:Int)<1:=by omega
       have hm2:1<=m:=by omega
       simp-implicitDefEqProofs[hk,hm1',hr,hm2]
       exact fin _ (by simp) (by simp)
     ·have hk':inR e.kids.length (loK e.op) (hiK e.op)=false:=by simpa using hk
      have hr:iD e=false:=by rw[iD,hk',Bool.and_false]
      rw[hb2 hr]
      simp-implicitDefEqProofs[hk']
    ·have hr:iD e=false:=by rw[iD,hd];simp[h2]
     rw[hb2 hr]
     simp-implicitDefEqProofs[hlv,h1,h2]
   ·have hr:iD e=false:=by rw[iD,hd];simp[h1]
    rw[hb2 hr]
    simp-implicitDefEqProofs[hlv,h1]
 rintro _ ⟨hr,hm1⟩
 have hhd:md e=true:=by rw[DQ,hp,hr];rfl
 obtain⟨m',rfl⟩:∃m',m=m'+1:=⟨m-1,by omega⟩
 have hszO:yy (m'+1) e=e.kids.all (okE m'):=by rw[yy,hhd];rfl
 have hpe:=e.parts_eq
 have hde:=e.deep_eq
 have hpl:=e.parts_le
 have hwm:IntKind.i64.wrap (((m'+1:Nat):Int)-1)=(m':Int):=by rw[ab (by omega) (by omega)];omega
 simp-implicitDefEqProofs[hxl]
 refine aO (λi:Nat=>ah 127 [(1,.p (.int .i64 ((m':Int)+1))),(2,.ptr 0 4 0 0),(9,.p (.int .i64 ((1+ga (e.kids.take i):Nat):Int))),(10,.p (.int .i64 ((1+mP (e.kids.take i):Nat):Int))),(99,.p (exL e.kids)),(100,.p (.int .i64 e.kids.length)),(101,.p (.int .i64 i))])
  (λ_=>[.row 4 [[.p (.int .i64 e.op),.p (.int .i64 e.n),.p (.str e.name),.p (exL e.kids)]]]) (λi=>i<=e.kids.length/\(e.kids.take i).all (okE m')=true) (λi=>e.kids.length-i) 0 (by simp) ?_ ?_
 ·exact ae (by simp) (by simp[okO,below]) (by simp[below,hxl,ga,mP])
 rintro i ⟨hi,ha⟩
 have hwm':IntKind.i64.wrap (m':Int)=(m':Int):=ab (by omega) (by omega)
 simp-implicitDefEqProofs[hxl]
 refine be (λh=>?_) (λh=>?_)
 ·simp at h
  have hg:=UW h
  have hks:=bT (Vl h)
  have hkc:=e.kids[i].cs_eq
  have hpt:ga (e.kids.take (i+1))=ga (e.kids.take i)+e.kids[i].parts:=by rw[aq h,ju];simp[ga]
  have hdt:mP (e.kids.take (i+1))=max (mP (e.kids.take i)) e.kids[i].deep:=by rw[aq h,EV];simp[mP]
  have hpl1:ga (e.kids.take (i+1))<=e.parts:=by
   have:=ju (e.kids.take (i+1)) (e.kids.drop (i+1))
   rw[VM] at this
   omega
  have hok:=Hx m' e.kids[i]
  have hdl:e.kids[i].deep<=e.kids[i].sz:=Ex.deep_le _
  have hdl2:mP (e.kids.take i)<=e.sz:=by
   have h1:=CN (e.kids.take i)
   have h2:=eN (e.kids.take i) (e.kids.drop i)
   rw[VM] at h2
   omega
  generalize e.kids[i]=c at*
  simp-implicitDefEqProofs[hg,hkc,hwm']
  have hI:=ih m' (by omega) c (by omega) (by omega)
  rw[hkc] at hI
  by_cases ho:okE m' c=true
  ·have h1:yy m' c=true/\c.parts<=30:=by rw[ho] at hok;simpa using hok
   have hA:szA m' c= .tup [.p (.int .i64 c.parts),.p (.int .i64 c.deep),.p (.bool true)]:=by rw[szA,if_pos h1.1];simp[h1.2]
   rw[hA] at hI
   refine hI.use ?_
   have hw1:IntKind.i64.wrap (1+(ga (e.kids.take i):Int)+(c.parts:Int))=((1+ga (e.kids.take (i+1)):Nat):Int):=by rw[ab (by omega) (by omega)];omega
   have hw2:IntKind.i64.wrap ((c.deep:Int)+1)=(c.deep:Int)+1:=ab (by omega) (by omega)
   have hmx:(if 1+(mP (e.kids.take i):Int)<(c.deep:Int)+1 then(c.deep:Int)+1 else 1+(mP (e.kids.take i):Int))=1+(mP (e.kids.take (i+1)):Int):=by
    rw[hdt];split<;>omega
   simp-implicitDefEqProofs[hw1,hw2,hmx]
   refine⟨i+1,⟨h,by rw[←Vc,og hg,ha,ho];rfl⟩,by omega,?_⟩
   refine gI (m:=1) (by omega) (dF rfl rfl (by simp[okO,below])) (by simp[below,hxl,w1 (i:=i) (by omega)])
  ·have hf:e.kids.all (okE m')=false:=List.all_eq_false.2 ⟨c,UZ hg,by simpa using ho⟩
   have hA2:szA (m'+1) e= .tup [.p (.int .i64 0),.p (.int .i64 0),.p (.bool false)]:=by rw[szA,hszO,hf];rfl
   rw[hA2]
   by_cases h1:yy m' c=true
   ·have h2:¬c.parts<=30:=λh2=>ho (by rw[←hok,h1];simpa using h2)
    have hA:szA m' c= .tup [.p (.int .i64 c.parts),.p (.int .i64 c.deep),.p (.bool false)]:=by rw[szA,if_pos h1];simp[h2]
    rw[hA] at hI
    refine hI.use ?_
    simp-implicitDefEqProofs[]
   ·have hA:szA m' c= .tup [.p (.int .i64 0),.p (.int .i64 0),.p (.bool false)]:=by rw[szA,if_neg h1]
    rw[hA] at hI
    refine hI.use ?_
    simp-implicitDefEqProofs[]
 ·simp at h
  rw[Va h] at ha⊢
  have hA:szA (m'+1) e= .tup [.p (.int .i64 e.parts),.p (.int .i64 e.deep),.p (.bool (decide (e.parts<=30)))]:=by rw[szA,hszO,ha];rfl
  rw[hA,hpe,hde]
  simp-implicitDefEqProofs[]
  omega
theorem EG(e:Ex)(he:e.sz<=1073741824):VF Tryz.prog G eS [.agg (e.cs.map .p)] (.p (.bool (lz e))):=by
 refine AC.go uB ?_
 have hec:=e.cs_eq
 have hx:=FT G hK hS 6 e he (by omega)
 rw[hec] at hx
 simp-implicitDefEqProofs[mU,hec]
 rw[←Oz,←Hx]
 unfold szA at hx
 by_cases h:yy 6 e=true
 ·rw[if_pos h] at hx
  rw[h]
  refine hx.use ?_
  simp-implicitDefEqProofs[]
 ·have h':yy 6 e=false:=by simpa using h
  rw[if_neg h] at hx
  rw[h']
  refine hx.use ?_
  simp-implicitDefEqProofs[]
end
section
def rp:AK:=xz [wI 2 5 0,xk] [wT 12 2,qu 13 12,xq 14 fX 13,qg 11 14,wR 15 0 11,wR 16 1 11,wR 17 2 11,wR 18 3 11,qg 5 15,x8 16,qg 7 17,qg 8 18] (.cut (.blk 0 (wP [xi 20,qx 21 .gtr 20 4,qg 19 21] 19 (wN [xu 22 2,qu 23 22,wm 24 23,xr 25,wo 26 .neq 24 25,qg 19 26] 19 (ym [qg 27 6,qg 28 27,wJ 29 28 1 2,wG 30 28 29,qJ 31 28 (.call cz (xp 30)),qJ 32 28 (ws 31),xI 33 28 32,qg 19 33] (xM 19 (ym [qg 34 6,xo 35 34,qg 36 35,wJ 37 36 1 2,wG 38 36 37,qJ 39 36 (yp .neq 38 (.c qF)),xI 40 36 39,qg 19 40] (xM 19 (ym [yh 41,xo 42 41,qg 43 42,wJ 44 43 3 2,wG 45 43 44,qJ 46 43 (wc 45),xK 47 43 .gtr 46 0,xI 48 43 47,qg 19 48] (xM 19 (ym [yd 49,xo 50 49,qg 51 50,wJ 52 51 4 2,wG 53 51 52,qJ 54 51 (wc 53),xK 55 51 .gtr 54 0,xI 56 51 55,qg 19 56] (xM 19 (.reg [wT 57 2,qu 58 57,wb 59 58 8,qg 60 59,wJ 61 60 2 2,wG 62 60 61,qJ 63 60 (qU 4 62 yf),wJ 64 60 0 63,wG 65 60 64,xK 66 60 .neq 65 13,xI 67 60 66,qg 19 67])))))))))) (qo 19 (qA [xk]) .skip))) (xT (wQ [xu 68 2,qu 69 68,wm 70 69,wU 71] 1 (qO [xa 72 71 70] (xM 72 (.exit 1)) (wy 2 (qe [wB 73 4 69 71,ye 74 73,qY 10 [qC,qC,qF,.nils],qV 4 10 74] (wj [ye 75 10,xq 76 eS 75,xo 77 76] 77 [xk])) (wV (x7 78 71) 71 78)))) [xZ 79 2,qu 80 79,xi 81,x7 82 81,wM 83 cJ 80 82,qg 84 83,wJ 85 84 4 2,wG 86 84 85,xN 87 84 1,xK 88 84 .add 87 1,qJ 89 84 (xG cJ 86 (.t 88)),xI 90 84 89,qg 4 90]))
theorem Bh:AK.whole rp=FK.ak jb:=rfl
variable (G:al)
def rj(op:Int):Int:=if op=4 then 2 else if inR op 1 8 then 1 else-1
def jC(op:Int):Bool:=decide (op=5)||decide (op=6)
theorem zd(op:Int):VF Tryz.prog G fX [.p (.int .i64 op)] (.tup [.p (.int .i64 (rj op)),.p (.bool (cN op)),.p (.bool (jC op)),.p (.bool (decide (op=5)))]):=by
 refine AC.go vW ?_
 by_cases h1:op=1
 ·subst h1;simp-implicitDefEqProofs[bn,rj,inR,cN,jC]
 by_cases h2:op=2
 ·subst h2;simp-implicitDefEqProofs[bn,rj,inR,cN,jC]
 by_cases h3:op=3
 ·subst h3;simp-implicitDefEqProofs[bn,rj,inR,cN,jC]
 by_cases h4:op=4
 ·subst h4;simp-implicitDefEqProofs[bn,rj,inR,cN,jC]
 by_cases h5:op=5
 ·subst h5;simp-implicitDefEqProofs[bn,rj,inR,cN,jC]
 by_cases h6:op=6
 ·subst h6;simp-implicitDefEqProofs[bn,rj,inR,cN,jC]
 by_cases h7:op=7
 ·subst h7;simp-implicitDefEqProofs[bn,rj,inR,cN,jC]
 by_cases h8:op=8
 ·subst h8;simp-implicitDefEqProofs[bn,rj,inR,cN,jC]
 have ha:rj op= -1:=by
  have:inR op 1 8=false:=by simp[inR];omega
  rw[rj,if_neg h4,this];rfl
 have hn:cN op=false:=by simp[cN,h1,h2]
 have hb:jC op=false:=by simp[jC,h5,h6]
 rw[ha,hn,hb]
 simp-implicitDefEqProofs[bn,h1,h2,h3,h4,h5,h6,h7,h8]
def Gh:List Ex->Bool
 |a::_=>decide (a.op=13)
 |[]=>false
def jI(s:Sm):Bool:=decide ((s.args.length:Int)=rj s.op)&&(!cN s.op||aG s.name)&&(cN s.op||decide (s.name=[]))&&(jC s.op||decide (s.body=[]))&&(decide (s.op=5)||decide (s.els=[]))&&
 (!decide (s.op=8)||Gh s.args)
theorem Iw(s:Sm):iJ s=(inR s.op 1 8&&decide (s.args.length=gw s.op)&&(cN s.op==aG s.name)&&(cN s.op||decide (s.name=[]))&&s.args.all lz&&
 (!decide (s.op=8)||Gh s.args)&&(s.els.isEmpty||decide (s.op=5))&&(s.body.isEmpty||decide (s.op=5)||decide (s.op=6))):=by
 unfold iJ
 cases s.args<;>rfl
theorem Ec(s:Sm):iJ s=(jI s&&s.args.all lz):=by
 have ha:decide ((s.args.length:Int)=rj s.op)=(inR s.op 1 8&&decide (s.args.length=gw s.op)):=by
  unfold rj gw
  by_cases h4:s.op=4
  ·have:inR s.op 1 8=true:=by simp[inR,h4]
   rw[this,if_pos h4,if_pos h4];simp;omega
  ·rw[if_neg h4,if_neg h4]
   cases h:inR s.op 1 8 with
   |true=>simp;omega
   |false=>simp
 have hn:(cN s.op==aG s.name&&(cN s.op||decide (s.name=[])))=((!cN s.op||aG s.name)&&(cN s.op||decide (s.name=[]))):=by
  cases cN s.op with
  |true=>cases aG s.name<;>rfl
  |false=>
   by_cases h:s.name=[]
   ·rw[h,sB];rfl
   ·simp[h]
 have hb:(s.body.isEmpty||decide (s.op=5)||decide (s.op=6))=(jC s.op||decide (s.body=[])):=by
  rw[jC]
  cases s.body<;>cases decide (s.op=5)<;>cases decide (s.op=6)<;>simp
 have he:(s.els.isEmpty||decide (s.op=5))=(decide (s.op=5)||decide (s.els=[])):=by
  cases s.els<;>cases decide (s.op=5)<;>simp
 rw[Iw]
 unfold jI
 rw[ha,hb,he]
 generalize Gh s.args=z
 generalize (cN s.op==aG s.name)=c at hn⊢
 generalize (!cN s.op||aG s.name)=c' at hn⊢
 generalize (cN s.op||decide (s.name=[]))=d at hn⊢
 generalize s.args.all lz=x
 generalize (jC s.op||decide (s.body=[]))=y
 generalize (decide (s.op=5)||decide (s.els=[]))=y'
 generalize (!decide (s.op=8))=u
 cases inR s.op 1 8<;>cases decide (s.args.length=gw s.op)<;>cases c<;>cases c'<;>cases d<;>cases x<;>cases y<;>cases y'<;>cases u<;>cases z<;>simp_all
variable (hK:G fy=some eF) (hS:G cL=some [.tbl opK opV])
def FJ(d:Nat)(L:List Sm):Int:=match L.findIdx? (λs=> !az d s) with|some i=>i|none=> -1
theorem Kr(d:Nat)(L:List Sm):decide (0<=FJ d L)= !(L.all (az d)):=by
 unfold FJ
 cases h:L.findIdx? (λx=> !az d x) with
 |none=>
  rw[VB] at h
  have:L.all (az d)=true:=Vc.2 λx hx=>by have:=h x hx;simpa using this
  simp[this]
 |some i=>
  rw[Vn] at h
  obtain⟨h1,h2,_⟩:=h
  have:L.all (az d)=false:=List.all_eq_false.2 ⟨_,Vl h1,by simpa using h2⟩
  rw[this];simp
theorem vu(d:Nat)(nest:Int)(hs:∀s:Sm,s.sz<=1073741824->VF Tryz.prog G iY [.agg (s.cs.map .p),.p (.int .i64 nest)] (.p (.bool (az d s))))(L:List Sm)(hL:aC L<=1073741824):
 VF Tryz.prog G cJ [.p (smL L),.p (.int .i64 nest)] (.p (.bool (L.all (az d)))):=by
 have hsl:smL L= .lst 5 (L.map Sm.cs):=rfl
 have hll:=cb L
 have dN:∀s:Sm,s.sz<=1073741824->AC Tryz.prog G cD [.agg (s.cs.map .p),.ptr 0 1 0 0] [.row 1 [[.p (.int .i64 nest)]]] λx h=>x= .ret (.p (.bool (!az d s)))/\h=[.row 1 [[.p (.int .i64 nest)]]]:=by
  intro s hz
  refine AC.trim (AC.go uu ?_) (by simp[below])
  have hse:=s.cs_eq
  have h1:=hs s hz
  rw[hse] at h1
  simp-implicitDefEqProofs[mX,hse]
  refine h1.use ?_
  simp-implicitDefEqProofs[]
 have idx:AC Tryz.prog G cm [.p (smL L),.fn (.func cD) [.ptr 0 1 0 0]] [.row 1 [[.p (.int .i64 nest)]]] λx h=>x= .ret (.p (.int .i64 (FJ d L)))/\h=[.row 1 [[.p (.int .i64 nest)]]]:=by
  refine AC.go jL ?_
  simp-implicitDefEqProofs[dX,hsl]
  refine aO (λi:Nat=>ah 19 [(0,.p (smL L)),(1,.fn (.func cD) [.ptr 0 1 0 0]),(7,.p (.int .i64 L.length)),(8,.p (.int .i64 i))]) (λ_=>[.row 1 [[.p (.int .i64 nest)]]]) (λi=>i<=L.length/\∀w∈L.take i,az d w=true) (λi=>L.length-i) 0 (by simp) ?_ ?_
  ·exact ae (by simp) (by simp[okO,below]) (by simp[below,af,hsl])
  ·intro i ⟨hi,hn⟩
   simp-implicitDefEqProofs[hsl]
   refine be (λh1=>?_) (λh1=>?_)
   ·simp at h1
    have hg:=UW h1
    have hz:=dQ (Vl h1)
    simp-implicitDefEqProofs[hg]
    refine(dN L[i] (by omega)).mono ?_
    rintro r h ⟨rfl,rfl⟩
    by_cases he:az d L[i]=true
    ·simp-implicitDefEqProofs[aa,he]
     refine⟨i+1,⟨h1,λp hp=>?_⟩,by omega,ae (by simp) (by simp[okO,below]) (by simp[below,af,hsl,w1 (i:=i) (by omega)])⟩
     rw[aq h1] at hp
     rcases Vd.1 hp with hp|hp
     ·exact hn p hp
     ·rw[Ve.1 hp];exact he
    ·have hf:FJ d L=i:=by
      have:L.findIdx? (λw=> !az d w)=some i:=by
       rw[Vn]
       exact⟨h1,by simpa using he,λj hj=>by have:=hn L[j] (Wc.2 ⟨j,by omega,rfl⟩);simpa using this⟩
      rw[FJ,this]
     simp-implicitDefEqProofs[aa,he,hf]
   ·simp at h1
    rw[Va h1] at hn
    have hf:FJ d L= -1:=by
     have:L.findIdx? (λw=> !az d w)=none:=by
      rw[VB];intro x hx;simpa using hn x hx
     rw[FJ,this]
    simp-implicitDefEqProofs[hf]
 have con:AC Tryz.prog G bP [.p (smL L),.fn (.func cD) [.ptr 0 1 0 0]] [.row 1 [[.p (.int .i64 nest)]]] λx h=>x= .ret (.p (.bool (!L.all (az d))))/\h=[.row 1 [[.p (.int .i64 nest)]]]:=by
  refine AC.go iB ?_
  simp-implicitDefEqProofs[dp]
  refine idx.mono ?_
  rintro r h ⟨rfl,rfl⟩
  have:=Kr d L
  simp-implicitDefEqProofs[aa]
  simpa using this
 refine AC.go Al ?_
 simp-implicitDefEqProofs[oX]
 refine con.mono ?_
 rintro r h ⟨rfl,rfl⟩
 simp-implicitDefEqProofs[aa]
include hS hK
theorem JW:∀d:Nat,d<=4->∀s:Sm,s.sz<=1073741824->VF Tryz.prog G iY [.agg (s.cs.map .p),.p (.int .i64 (5-d))] (.p (.bool (az d s))):=by
 intro d
 induction d with
 |zero=>
  intro _ s hz
  have hse:=s.cs_eq
  refine AC.go rq ?_
  simp-implicitDefEqProofs[jb,hse]
  refine(zd G _).use ?_
  simp-implicitDefEqProofs[az]
 |succ d ih=>
  intro hd s hz
  have hse:=s.cs_eq
  have hsz:=s.sz_eq
  have hal:=bH s.args
  have hblk:=vu G d (5-d) (ih (by omega))
  have hnn:(5:Int)-((d+1:Nat):Int)=4-d:=by omega
  have hnw:IntKind.i64.wrap (4-(d:Int)+1)=5-d:=by rw[ab (by omega) (by omega)];omega
  have hn4:¬(4:Int)<4-d:=by omega
  have hxl:exL s.args= .lst 4 (s.args.map Ex.cs):=rfl
  have hsl:∀l,smL l= .lst 5 (l.map Sm.cs):=λ_=>rfl
  rw[hnn]
  have hbad:jI s=false->az (d+1) s=false:=λh=>by rw[az,Ec,h];rfl
  refine AC.goK rq Bh ?_
  simp-implicitDefEqProofs[rp,jb,hse]
  refine(zd G _).use ?_
  simp-implicitDefEqProofs[]
  refine uF (λ_:Unit=>ah 91 [(1,.p (.int .i64 (4-d))),(2,.ptr 0 5 0 0)]) (λ_=>[.row 5 [[.p (.int .i64 s.op),.p (.str s.name),.p (exL s.args),.p (smL s.body),.p (smL s.els)]]]) (λ_=>jI s=true) ?_ ?_
  ·have fin:∀(r1:List (Nat × AV)),Aw.look r1 1= .p (.int .i64 (4-d))->Aw.look r1 2= .ptr 0 5 0 0->
    Wk 0 (ah 91 r1) [.row 5 [[.p (.int .i64 s.op),.p (.str s.name),.p (exL s.args),.p (smL s.body),.p (smL s.els)]]] (ah 91 [(1,.p (.int .i64 (4-d))),(2,.ptr 0 5 0 0)]) [.row 5 [[.p (.int .i64 s.op),.p (.str s.name),.p (exL s.args),.p (smL s.body),.p (smL s.els)]]]:=λr1 a b=>
    ae (by simp) (by simp[okO,below]) (by simp[below,a,b])
   have hb0:s.body=[]\/0<s.body.length:=by cases s.body<;>simp
   have he0:s.els=[]\/0<s.els.length:=by cases s.els<;>simp
   by_cases hl:(s.args.length:Int)=rj s.op
   case neg=>
    rw[hbad (by simp[jI,hl])]
    simp-implicitDefEqProofs[hn4,hxl,hl]
   have hel:(decide (s.els=[]))= !decide (0<s.els.length):=by cases s.els<;>simp
   have hbo:(decide (s.body=[]))= !decide (0<s.body.length):=by cases s.body<;>simp
   simp-implicitDefEqProofs[hn4,hxl,hl]
   refine mB (ah 91 [(1,.p (.int .i64 (4-d))),(2,.ptr 0 5 0 0),(6,.p (.bool (cN s.op))),(7,.p (.bool (jC s.op))),(8,.p (.bool (decide (s.op=5)))),(19,.p (.bool (cN s.op&& !aG s.name)))]) ([.row 5 [[.p (.int .i64 s.op),.p (.str s.name),.p (exL s.args),.p (smL s.body),.p (smL s.els)]]]) ?_ ?_
   ·cases hn:cN s.op with
    |true=>
     simp-implicitDefEqProofs[]
     refine(pm G hK _ (by omega)).use ?_
     simp-implicitDefEqProofs[]
     exact ae (by simp) (by simp[okO,below]) (by simp[below])
    |false=>
     simp-implicitDefEqProofs[]
     exact ae (by simp) (by simp[okO,below]) (by simp[below])
   by_cases h2:(cN s.op&& !aG s.name)=true
   ·rw[hbad (by simp only[jI];cases h:cN s.op<;>cases h':aG s.name<;>simp[h,h'] at h2⊢)]
    simp-implicitDefEqProofs[h2]
   have h2':(cN s.op&& !aG s.name)=false:=by simpa using h2
   rw[h2']
   simp-implicitDefEqProofs[]
   refine mB (ah 91 [(1,.p (.int .i64 (4-d))),(2,.ptr 0 5 0 0),(6,.p (.bool (cN s.op))),(7,.p (.bool (jC s.op))),(8,.p (.bool (decide (s.op=5)))),(19,.p (.bool (!cN s.op&& !decide (s.name=[]))))]) ([.row 5 [[.p (.int .i64 s.op),.p (.str s.name),.p (exL s.args),.p (smL s.body),.p (smL s.els)]]]) ?_ ?_
   ·cases hn:cN s.op with
    |true=>
     simp-implicitDefEqProofs[]
     exact ae (by simp) (by simp[okO,below]) (by simp[below])
    |false=>
     simp-implicitDefEqProofs[]
     exact ae (by simp) (by simp[okO,below]) (by simp[below])
   by_cases h3:(!cN s.op&& !decide (s.name=[]))=true
   ·rw[hbad (by simp only[jI];cases h:cN s.op<;>cases h':decide (s.name=[])<;>simp[h,h'] at h3⊢)]
    simp-implicitDefEqProofs[h3]
   have h3':(!cN s.op&& !decide (s.name=[]))=false:=by simpa using h3
   rw[h3']
   simp-implicitDefEqProofs[]
   refine mB (ah 91 [(1,.p (.int .i64 (4-d))),(2,.ptr 0 5 0 0),(6,.p (.bool (cN s.op))),(7,.p (.bool (jC s.op))),(8,.p (.bool (decide (s.op=5)))),(19,.p (.bool (!jC s.op&&decide (0<s.body.length))))]) ([.row 5 [[.p (.int .i64 s.op),.p (.str s.name),.p (exL s.args),.p (smL s.body),.p (smL s.els)]]]) ?_ ?_
   ·cases hn:jC s.op with
    |true=>
     simp-implicitDefEqProofs[hsl]
     exact ae (by simp) (by simp[okO,below]) (by simp[below])
    |false=>
     simp-implicitDefEqProofs[hsl]
     exact ae (by simp) (by simp[okO,below]) (by simp[below])
   by_cases h4:(!jC s.op&&decide (0<s.body.length))=true
   ·rw[hbad (by simp only[jI,hbo];cases h:jC s.op<;>cases h':decide (0<s.body.length)<;>simp[h,h'] at h4⊢)]
    simp-implicitDefEqProofs[h4]
   have h4':(!jC s.op&&decide (0<s.body.length))=false:=by simpa using h4
   rw[h4']
   simp-implicitDefEqProofs[]
   refine mB (ah 91 [(1,.p (.int .i64 (4-d))),(2,.ptr 0 5 0 0),(6,.p (.bool (cN s.op))),(7,.p (.bool (jC s.op))),(8,.p (.bool (decide (s.op=5)))),(19,.p (.bool (!decide (s.op=5)&&decide (0<s.els.length))))]) ([.row 5 [[.p (.int .i64 s.op),.p (.str s.name),.p (exL s.args),.p (smL s.body),.p (smL s.els)]]]) ?_ ?_
   ·cases hn:decide (s.op=5) with
    |true=>
     simp-implicitDefEqProofs[hsl]
     exact ae (by simp) (by simp[okO,below]) (by simp[below])
    |false=>
     simp-implicitDefEqProofs[hsl]
     exact ae (by simp) (by simp[okO,below]) (by simp[below])
   by_cases h5:(!decide (s.op=5)&&decide (0<s.els.length))=true
   ·rw[hbad (by simp only[jI,hel];cases h:decide (s.op=5)<;>cases h':decide (0<s.els.length)<;>simp[h,h'] at h5⊢)]
    simp-implicitDefEqProofs[h5]
   have h5':(!decide (s.op=5)&&decide (0<s.els.length))=false:=by simpa using h5
   rw[h5']
   have hh1:jI s=(!decide (s.op=8)||Gh s.args):=by
    simp only[jI,hl,decide_true,Bool.true_and,hel,hbo]
    cases h:cN s.op<;>cases hi:aG s.name<;>cases hm:decide (s.name=[])<;>cases hb:jC s.op<;>cases hc:decide (0<s.body.length)<;>cases ho:decide (s.op=5)<;>cases he:decide (0<s.els.length)<;>simp[h,hi,hm,hb,hc,ho,he] at h2' h3' h4' h5'⊢
   by_cases o8:s.op=8
   ·have ha1:s.args.length=1:=by
     have:rj s.op=1:=by rw[o8];rfl
     omega
    obtain⟨a0,ha0⟩:∃a0,s.args=[a0]:=by
     match hh:s.args,ha1 with
     |[x],_=>exact⟨x,rfl⟩
    have hae:=a0.cs_eq
    rw[hh1,o8,ha0]
    rw[o8,ha0] at fin
    have hxa:exL [a0]= .lst 4 [a0.cs]:=rfl
    by_cases hc:a0.op=13
    ·have h13:Gh [a0]=true:=by simp[Gh,hc]
     simp-implicitDefEqProofs[o8,hae,hc,h13,hxa]
     rw[hxa,hae,hc] at fin
     exact fin _ (by simp) (by simp)
    ·rw[hbad (by rw[hh1,o8,ha0];simp[Gh,hc])]
     simp-implicitDefEqProofs[o8,hae,hc,hxa]
   ·have hh2:jI s=true:=by rw[hh1];simp[o8]
    simp-implicitDefEqProofs[o8,hh2]
    exact fin _ (by simp) (by simp)
  intro _ h1
  have hh:az (d+1) s=(s.args.all lz&&(s.body.all (az d)&&s.els.all (az d))):=by rw[az,Ec,h1,Bool.true_and,Bool.and_assoc]
  simp-implicitDefEqProofs[hxl]
  refine aO (λi:Nat=>ah 91 [(1,.p (.int .i64 (4-d))),(2,.ptr 0 5 0 0),(69,.p (exL s.args)),(70,.p (.int .i64 s.args.length)),(71,.p (.int .i64 i))]) (λ_=>[.row 5 [[.p (.int .i64 s.op),.p (.str s.name),.p (exL s.args),.p (smL s.body),.p (smL s.els)]]]) (λi=>i<=s.args.length/\(s.args.take i).all lz=true) (λi=>s.args.length-i) 0 (by simp) ?_ ?_
  ·exact ae (by simp) (by simp[okO,below]) (by simp[below,hxl])
  rintro i ⟨hi,ha⟩
  simp-implicitDefEqProofs[hxl]
  refine be (λh=>?_) (λh=>?_)
  ·simp at h
   have hg:=UW h
   have hks:=bT (Vl h)
   have hkc:=s.args[i].cs_eq
   have hx:=EG G hK hS s.args[i] (by omega)
   rw[hkc] at hx
   simp-implicitDefEqProofs[hg,hkc]
   refine hx.use ?_
   by_cases ho:lz s.args[i]=true
   ·simp-implicitDefEqProofs[ho]
    refine⟨i+1,⟨h,by rw[←Vc,eb h,ha,ho];rfl⟩,by omega,?_⟩
    refine gI (m:=1) (by omega) (dF rfl rfl (by simp[okO,below])) (by simp[below,hxl,w1 (i:=i) (by omega)])
   ·have ho':lz s.args[i]=false:=by simpa using ho
    rw[hh,nJ h ho']
    simp-implicitDefEqProofs[ho']
  ·simp at h
   have ha2:s.args.all lz=true:=ir h ha
   rw[hh,ha2,Bool.true_and]
   simp-implicitDefEqProofs[hnw]
   refine(hblk s.body (by omega)).use ?_
   cases hb:s.body.all (az d) with
   |true=>
    simp-implicitDefEqProofs[hnw]
    refine(hblk s.els (by omega)).use ?_
    simp-implicitDefEqProofs[]
   |false=>
    simp-implicitDefEqProofs[]
end
section
variable (G:al)
structure Vis (σ:Type) where
 I:σ->List AO
 n:Nat
 F:FuncId
 caps:List AV
 len:∀st,(I st).length=n
 ok:∀st,∀o∈I st,okO n o
 capsOk:af n caps
theorem Vis.pre{σ:Type}(V:Vis σ){f:FuncId}{args:List AV}{st st':σ}{v:AV}(H:AC Tryz.prog G f args (V.I st) λx h=>x= .ret v/\h=V.I st')(rest:List AO)(ha:af V.n args):
 AC Tryz.prog G f args (V.I st++rest) λx h=>x= .ret v/\h=V.I st'++rest:=by
 refine(AC.pre H rest (by rw[V.len];exact ha) (by rw[V.len];exact V.ok st) ?_).mono ?_
 ·rintro x h ⟨_,rfl⟩;rw[V.len,V.len]
 ·rintro x h ⟨h1,⟨rfl,rfl⟩,rfl⟩
  exact⟨rfl,rfl⟩
theorem Vis.trim{σ:Type}(V:Vis σ){f:FuncId}{args:List AV}{st st':σ}{v:AV}(H:AC Tryz.prog G f args (V.I st) λx h=>x= .ret v/\∃l,h=V.I st'++l)(hv:below V.n v):
 AC Tryz.prog G f args (V.I st) λx h=>x= .ret v/\h=V.I st':=by
 refine H.wk (λt v h ⟨e,_⟩=>by cases e) ?_
 rintro u h ⟨e,l,rfl⟩
 cases e
 refine⟨v,V.I st',zq (n:=V.n) (by rw[V.len];exact Vi _) (dF (by rw[←V.len st',List.take_left'];rfl) (V.len _) (V.ok _)) ?_,rfl,rfl⟩
 simp[Fgt,hv]
theorem sS{n m:Nat}(h:n<=m){o:AO}(ho:okO n o):okO m o:=by
 cases o with
 |dead=>trivial
 |sit=>trivial
 |row sz es=>exact λe he=>bi h _ (ho e he)
 |mp es=>exact λe he=>(bi h [e.2] ⟨ho e he,trivial⟩).1
theorem Vis.oks{σ:Type}(V:Vis σ)(st:σ){m:Nat}(hm:V.n<=m){r:List AO}(hr:∀o∈r,okO m o):∀o∈V.I st++r,okO m o:=by
 intro o ho
 rcases Vd.1 ho with h|h
 ·exact sS hm (V.ok st o h)
 ·exact hr o h
theorem Vis.same{σ:Type}(V:Vis σ)(st:σ){k n:Nat}(hk:k<=V.n){r s:List AO}{l l1:List (Nat × AV)}(hr:∀o∈r,okO (V.n+r.length) o)(H:FgA (V.n+r.length) l l1):Wk k (ah n l) (V.I st++(r++s)) (ah n l1) (V.I st++r):=by
 have hl:(V.I st++r).length=V.n+r.length:=by rw[Vh,V.len]
 refine gI (m:=V.n+r.length) (by omega) (dF ?_ hl (V.oks st (by omega) hr)) H
 rw[←VA,←hl,List.take_left'];rfl
theorem Vis.same0{σ:Type}(V:Vis σ)(st:σ){k n:Nat}(hk:k<=V.n){s:List AO}{l l1:List (Nat × AV)}(H:FgA V.n l l1):Wk k (ah n l) (V.I st++s) (ah n l1) (V.I st):=by
 refine gI (m:=V.n) (by omega) (dF ?_ (V.len _) (V.ok st)) H
 rw[←V.len st,List.take_left'];rfl
theorem Ow{α:Type}{a b:List α}{n:Nat}(h:a.length=n)(i:Nat):(a++b)[n+i]?=b[i]?:=by
 rw[←h,Vb (by omega)];congr 1;omega
theorem MT{σ:Type}(V:Vis σ)(step:σ->Ex->σ)(inv:σ->Prop)(B:Nat)(hB:B<=1073741824)
 (hv:∀st e,inv st->e.sz<=B->inv (step st e)/\AC Tryz.prog G V.F (.agg (e.cs.map .p)::V.caps) (V.I st) λx h=>x= .ret (.tup [])/\h=V.I (step st e)):
 ∀(N:Nat) (e:Ex),e.sz<N->e.sz<=B->∀st,inv st->inv (e.pre.foldl step st)/\AC Tryz.prog G kn [.agg (e.cs.map .p),.fn (.func V.F) V.caps] (V.I st) λx h=>x= .ret (.tup [])/\h=V.I (e.pre.foldl step st):=by
 intro N
 induction N with
 |zero=>intro e h;omega
 |succ N ih=>
  intro e he hz st hi
  have hec:=e.cs_eq
  have hsz:=e.sz_eq
  have hkl:=bH e.kids
  have hxl:exL e.kids= .lst 4 (e.kids.map Ex.cs):=rfl
  have hlen:=V.len
  obtain⟨i1,h1⟩:=hv st e hi hz
  have hinv:∀i,i<=e.kids.length->inv ((dr (e.kids.take i)).foldl step (step st e)):=by
   intro i
   induction i with
   |zero=>intro _;exact i1
   |succ i ihi=>
    intro hl
    have hg:i<e.kids.length:=by omega
    have hks:=bT (Vl hg)
    rw[aq hg,tW,List.foldl_append,dr,dr,VP]
    exact(ih e.kids[i] (by omega) (by omega) _ (ihi (by omega))).1
  refine⟨?_,?_⟩
  ·rw[Ex.pre_eq,List.foldl_cons]
   have:=hinv e.kids.length (Vi _)
   rwa[List.take_length] at this
  refine V.trim G (AC.go CJ ?_) (by simp[below])
  have hcb:=V.capsOk
  have hcb1:af (V.n+1) V.caps:=bi (by omega) _ hcb
  rw[hec] at h1
  simp-implicitDefEqProofs[th,hec,hlen]
  refine(V.pre G h1 _ ⟨by simp[below],hcb⟩).mono ?_
  rintro r h ⟨rfl,rfl⟩
  simp-implicitDefEqProofs[aa,hlen,hxl]
  refine aO (λi:Nat=>ah 20 [(1,.fn (.func V.F) V.caps),(2,.ptr V.n 4 0 0),(10,.p (exL e.kids)),(11,.p (.int .i64 e.kids.length)),(12,.p (.int .i64 i))])
   (λi=>V.I ((dr (e.kids.take i)).foldl step (step st e))++[.row 4 [[.p (.int .i64 e.op),.p (.int .i64 e.n),.p (.str e.name),.p (exL e.kids)]]]) (λi=>i<=e.kids.length) (λi=>e.kids.length-i) 0 (by simp) ?_ ?_
  ·refine V.same (r:=[_]) (s:=[]) _ (Vi _) (by simp[okO,below]) ?_
   simp[below,hxl,hcb1]
  intro i hil
  simp-implicitDefEqProofs[hxl]
  refine be (λhc=>?_) (λhc=>?_)
  ·simp at hc
   have hg:=UW hc
   have hks:=bT (Vl hc)
   have hkc:=e.kids[i].cs_eq
   have hI:=(ih e.kids[i] (by omega) (by omega) _ (hinv i hil)).2
   rw[hkc] at hI
   simp-implicitDefEqProofs[hg,hkc,hlen]
   refine(V.pre G hI _ ⟨by simp[below],by simp[below,hcb],trivial⟩).mono ?_
   rintro r h ⟨rfl,rfl⟩
   simp-implicitDefEqProofs[aa]
   refine⟨i+1,hc,by omega,?_⟩
   have hf:(dr (e.kids.take (i+1))).foldl step (step st e)=e.kids[i].pre.foldl step ((dr (e.kids.take i)).foldl step (step st e)):=by
    rw[aq hc,tW,List.foldl_append,dr,dr,VP]
   rw[hf]
   refine V.same (r:=[_]) (s:=[_]) _ (Vi _) (by simp[okO,below]) ?_
   simp[below,hxl,hcb1,w1 (i:=i) (by omega)]
  ·simp at hc
   have hie:i=e.kids.length:=by omega
   subst hie
   rw[List.take_length,Ex.pre_eq,List.foldl_cons]
   simp-implicitDefEqProofs[]
theorem MM{σ:Type}(V:Vis σ)(step:σ->Sm × Nat->σ)(inv:σ->Prop)(B:Nat)(hB:B<=1073741824)
 (hv:∀st s d,inv st->s.sz<=B->inv (step st (s,d))/\AC Tryz.prog G V.F (.agg (s.cs.map .p):: .p (.int .i64 (d:Nat))::V.caps) (V.I st) λx h=>x= .ret (.tup [])/\h=V.I (step st (s,d))):
 ∀(N:Nat) (l:List Sm),aC l<N->aC l<=B->∀(d:Nat),d+aC l<=1099511627776->∀st,inv st->inv ((bJ d l).foldl step st)/\AC Tryz.prog G iy [.p (smL l),.p (.int .i64 d),.fn (.func V.F) V.caps] (V.I st) λx h=>x= .ret (.tup [])/\h=V.I ((bJ d l).foldl step st):=by
 intro N
 induction N with
 |zero=>intro l h;omega
 |succ N ih=>
  intro l hl hz d hd st hi
  have hll:=cb l
  have hlen:=V.len
  have hsl:∀l,smL l= .lst 5 (l.map Sm.cs):=λ_=>rfl
  have hone:∀s:Sm,s∈l->∀st,inv st->inv ((s.pre d).foldl step st):=by
   intro s hs st hi
   have hm:=dQ hs
   have hsz:=s.sz_eq
   have i1:=(hv st s d hi (by omega)).1
   have i2:=(ih s.body (by omega) (by omega) (d+1) (by omega) _ i1).1
   have i3:=(ih s.els (by omega) (by omega) (d+1) (by omega) _ i2).1
   rw[Sm.pre_eq,List.foldl_cons,List.foldl_append]
   exact i3
  have hinv:∀i,i<=l.length->inv ((bJ d (l.take i)).foldl step st):=by
   intro i
   induction i with
   |zero=>intro _;exact hi
   |succ i ihi=>
    intro hl
    have hg:i<l.length:=by omega
    rw[aq hg,sg,List.foldl_append,bJ,bJ,VP]
    exact hone _ (Vl hg) _ (ihi (by omega))
  refine⟨?_,?_⟩
  ·have:=hinv l.length (Vi _)
   rwa[List.take_length] at this
  refine V.trim G (AC.go Cl ?_) (by simp[below])
  have hcb:=V.capsOk
  simp-implicitDefEqProofs[tr,hsl]
  refine aO (λi:Nat=>ah 31 [(1,.p (.int .i64 d)),(2,.fn (.func V.F) V.caps),(8,.p (smL l)),(9,.p (.int .i64 l.length)),(10,.p (.int .i64 i))])
   (λi=>V.I ((bJ d (l.take i)).foldl step st)) (λi=>i<=l.length) (λi=>l.length-i) 0 (by simp) ?_ ?_
  ·rw[hlen]
   have:=V.same0 (s:=[]) st (k:=V.n) (n:=31) (Vi _) (l:=[(10,.p (.int .i64 0)),(9,.p (.int .i64 l.length)),(8,.p (smL l)),(0,.p (smL l)),(1,.p (.int .i64 d)),(2,.fn (.func V.F) V.caps)]) (l1:=[(1,.p (.int .i64 d)),(2,.fn (.func V.F) V.caps),(8,.p (smL l)),(9,.p (.int .i64 l.length)),(10,.p (.int .i64 0))]) (by simp[below,hcb])
   rw[VP] at this
   exact this
  intro i hil
  simp-implicitDefEqProofs[hsl]
  refine be (λhc=>?_) (λhc=>?_)
  ·simp at hc
   have hg:=UW hc
   have hks:=dQ (Vl hc)
   have hkc:=l[i].cs_eq
   have hsz:=l[i].sz_eq
   have hf:(bJ d (l.take (i+1))).foldl step st=(l[i].pre d).foldl step ((bJ d (l.take i)).foldl step st):=by
    rw[aq hc,sg,List.foldl_append,bJ,bJ,VP]
   have ii:=hinv i hil
   obtain⟨i1,h1⟩:=hv _ l[i] d ii (by omega)
   obtain⟨i2,h2⟩:=ih l[i].body (by omega) (by omega) (d+1) (by omega) _ i1
   obtain⟨i3,h3⟩:=ih l[i].els (by omega) (by omega) (d+1) (by omega) _ i2
   rw[Sm.pre_eq,List.foldl_cons,List.foldl_append] at hf
   have hwd:IntKind.i64.wrap ((d:Int)+1)=((d+1:Nat):Int):=by rw[ab (by omega) (by omega)];omega
   rw[hkc] at h1
   simp-implicitDefEqProofs[hg,hkc,hlen]
   refine(V.pre G h1 _ ⟨by simp,by simp,hcb⟩).mono ?_
   rintro r h ⟨rfl,rfl⟩
   simp-implicitDefEqProofs[aa,hlen,hwd]
   refine(V.pre G h2 _ ⟨by simp,by simp,by simp[below,hcb],trivial⟩).mono ?_
   rintro r h ⟨rfl,rfl⟩
   simp-implicitDefEqProofs[aa,hlen,hwd]
   refine(V.pre G h3 _ ⟨by simp,by simp,by simp[below,hcb],trivial⟩).mono ?_
   rintro r h ⟨rfl,rfl⟩
   simp-implicitDefEqProofs[aa]
   refine⟨i+1,hc,by omega,?_⟩
   rw[hf]
   refine V.same0 (s:=[_]) _ (Vi _) ?_
   simp[below,hsl,hcb,w1 (i:=i) (by omega)]
  ·simp at hc
   have hie:i=l.length:=by omega
   subst hie
   rw[List.take_length]
   simp-implicitDefEqProofs[]
end
section
variable (G:al)
abbrev MS:=Int × Int
def rG(st:MS)(x:Sm × Nat):MS:=(IntKind.i64.wrap (st.1+1),if st.2<(x.2:Int) then(x.2:Int) else st.2)
def rQ(l:List Fd)(st:MS):MS:=l.foldl (λst f=>(bJ 1 f.body).foldl rG st) st
theorem zM:∀(l:List (Sm × Nat)) (st:MS),0<=st.1->st.1+l.length<=1099511627776->(l.foldl rG st).1=st.1+l.length
 |[],st,_,_=>by simp
 |x::r,st,h0,h=>by
  have hw:IntKind.i64.wrap (st.1+1)=st.1+1:=ab (by omega) (by simp at h;omega)
  rw[List.foldl_cons,zM r _ (by simp only[rG,hw];omega) (by simp only[rG,hw];simp at h;omega)]
  simp only[rG,hw,Vo]
  omega
theorem za:∀(l:List Fd) (st:MS),0<=st.1->st.1+gz l<=1099511627776->(rQ l st).1=st.1+gz l
 |[],st,_,_=>by simp[rQ,gz]
 |f::r,st,h0,h=>by
  have ha:gz (f::r)=dB f.body+gz r:=by simp[gz]
  have hs:=zM (bJ 1 f.body) st h0 (by rw[kY];omega)
  rw[kY] at hs
  have:=za r ((bJ 1 f.body).foldl rG st) (by omega) (by omega)
  simp only[rQ,List.foldl_cons] at this⊢
  omega
theorem Gz{l:List Fd}{st:MS}{i:Nat}(h:i<l.length):rQ (l.take (i+1)) st=(bJ 1 l[i].body).foldl rG (rQ (l.take i) st):=by
 rw[rQ,aq h,List.foldl_append];rfl
def nW(p:PV):Vis MS where
 I:=λst=>[.row 1 [[.p p]],.row 1 [[.p (.int .i64 st.1)]],.row 1 [[.p (.int .i64 st.2)]]]
 n:=3
 F:=eZ
 caps:=[.ptr 1 1 0 0,.ptr 2 1 0 0]
 len:=λ_=>rfl
 ok:=λst=>by simp[okO,below]
 capsOk:=by simp[below]
theorem Dw(p:PV)(st:MS)(s:Sm)(d:Nat):AC Tryz.prog G eZ [.agg (s.cs.map .p),.p (.int .i64 d),.ptr 1 1 0 0,.ptr 2 1 0 0] ((nW p).I st) λx h=>x= .ret (.tup [])/\h=(nW p).I (rG st (s,d)):=by
 refine(nW p).trim G (AC.go uK ?_) (by simp[below])
 have hse:=s.cs_eq
 simp-implicitDefEqProofs[mO,hse,nW,rG]
theorem BW(l:List Fd)(hl:aH l<=1073741824):VF Tryz.prog G gM [.agg [.p (fdL l)]] (.tup [.p (.int .i64 (gz l)),.p (.int .i64 (rQ l (0,0)).2)]):=by
 refine AC.go Ai ?_
 have hll:=fQ l
 have hfl:∀l,fdL l= .lst 3 (l.map Fd.cs):=λ_=>rfl
 have hn:(rQ l (0,0)).1=gz l:=by rw[za l (0,0) (by simp) (by simp only;have:=Da l;omega)];simp
 simp-implicitDefEqProofs[oz,hfl]
 refine aO (λi:Nat=>ah 20 [(2,.ptr 1 1 0 0),(3,.ptr 2 1 0 0),(7,.p (fdL l)),(8,.p (.int .i64 l.length)),(9,.p (.int .i64 i))])
  (λi=>(nW (fdL l)).I (rQ (l.take i) (0,0))) (λi=>i<=l.length) (λi=>l.length-i) 0 (by simp) ?_ ?_
 ·exact ae (h:=(nW (fdL l)).I (0,0)) (by simp) ((nW (fdL l)).ok _) (by simp[below,hfl,nW])
 intro i hil
 simp-implicitDefEqProofs[hfl]
 refine be (λhc=>?_) (λhc=>?_)
 ·simp at hc
  have hg:=UW hc
  have hks:=cK (Vl hc)
  have hcs:l[i].cs=[.str l[i].name,aw l[i].params,smL l[i].body]:=rfl
  have hfz:l[i].sz=1+l[i].name.length+(l[i].params.length+(l[i].params.map List.length).sum)+aC l[i].body:=rfl
  have hI:=(MM G (nW (fdL l)) rG (λ_=>True) 1073741824 (by omega) (λst s d _ _=>⟨trivial,Dw G _ st s d⟩) (aC l[i].body+1) l[i].body (by omega) (by omega) 1 (by omega) (rQ (l.take i) (0,0)) trivial).2
  have hlen:=(nW (fdL l)).len
  have h3:(nW (.lst 3 (l.map Fd.cs))).n=3:=rfl
  have hlen':∀st,((nW (.lst 3 (l.map Fd.cs))).I st).length=3:=λ_=>rfl
  simp-implicitDefEqProofs[hg,hcs,hlen']
  refine((nW (fdL l)).pre G hI [_] ⟨by simp,by simp,by simp[below,nW],trivial⟩).mono ?_
  rintro r h ⟨rfl,rfl⟩
  simp-implicitDefEqProofs[aa]
  refine⟨i+1,hc,by omega,?_⟩
  rw[Gz hc]
  refine(nW (fdL l)).same0 (s:=[_]) _ (by simp[nW]) ?_
  simp[below,hfl,nW,w1 (i:=i) (by omega)]
 ·simp at hc
  have hie:i=l.length:=by omega
  subst hie
  rw[List.take_length]
  simp-implicitDefEqProofs[nW,hn]
theorem vp(hK:G fy=some eF)(s:List UInt8)(hb:s.length<=140737488355328):VF Tryz.prog G bw [.p (.str s)] (.p (.bool (!aG s))):=by
 refine AC.go nX ?_
 simp-implicitDefEqProofs[iI]
 refine(pm G hK s hb).use ?_
 simp-implicitDefEqProofs[]
def FU(L:List (List UInt8)):Int:=match L.findIdx? (λw=> !aG w) with|some i=>i|none=> -1
theorem LB(L:List (List UInt8)):decide (0<=FU L)= !(L.all aG):=by
 unfold FU
 cases h:L.findIdx? (λx=> !aG x) with
 |none=>
  rw[VB] at h
  have:L.all aG=true:=Vc.2 λx hx=>by have:=h x hx;simpa using this
  simp[this]
 |some i=>
  rw[Vn] at h
  obtain⟨h1,h2,_⟩:=h
  have:L.all aG=false:=List.all_eq_false.2 ⟨_,Vl h1,by simpa using h2⟩
  rw[this];simp
theorem LW{L:List (List UInt8)}{n:Nat}(h:(L.map List.length).sum<=n):∀x∈L,x.length<=n:=by
 induction L with
 |nil=>intro x hx;cases hx
 |cons y r ih=>
  intro x hx
  simp only[Vt,List.sum_cons] at h
  rcases Vf.1 hx with rfl|hx
  ·omega
  ·exact ih (by omega) x hx
variable (hK:G fy=some eF)
include hK
theorem FP(L:List (List UInt8))(hb:L.length<=1073741824)(hw:∀x∈L,x.length<=140737488355328):VF Tryz.prog G cX [.p (aw L),.fn (.func bw) []] (.p (.int .i64 (FU L))):=by
 refine AC.go lG ?_
 have hsl:aw L= .lst 1 (L.map λw=>[.str w]):=rfl
 simp-implicitDefEqProofs[ff,hsl]
 refine aO (λi:Nat=>ah 19 [(0,.p (aw L)),(1,.fn (.func bw) []),(6,.p (aw L)),(7,.p (.int .i64 L.length)),(8,.p (.int .i64 i))]) (λ_=>[]) (λi=>i<=L.length/\∀w∈L.take i,aG w=true) (λi=>L.length-i) 0 (by simp) ?_ ?_
 ·exact ae (by simp) (by simp[okO]) (by simp[below,af,aw])
 ·intro i ⟨hi,hn⟩
  simp-implicitDefEqProofs[hsl]
  refine be (λh1=>?_) (λh1=>?_)
  ·simp at h1
   have hg:=UW h1
   simp-implicitDefEqProofs[hg]
   refine(vp G hK _ (hw _ (Vl h1))).use ?_
   by_cases he:aG L[i]=true
   ·simp-implicitDefEqProofs[he]
    refine⟨i+1,⟨h1,λp hp=>?_⟩,by omega,ae (by simp) (by simp[okO]) ?_⟩
    ·rw[aq h1] at hp
     rcases Vd.1 hp with hp|hp
     ·exact hn p hp
     ·rw[Ve.1 hp];exact he
    ·simp[below,af,aw,w1 (i:=i) (by omega)]
   ·have hf:FU L=i:=by
     have:L.findIdx? (λw=> !aG w)=some i:=by
      rw[Vn]
      exact⟨h1,by simpa using he,λj hj=>by have:=hn L[j] (Wc.2 ⟨j,by omega,rfl⟩);simpa using this⟩
     rw[FU,this]
    simp-implicitDefEqProofs[he,hf]
  ·simp at h1
   rw[Va h1] at hn
   have hf:FU L= -1:=by
    have:L.findIdx? (λw=> !aG w)=none:=by
     rw[VB];intro x hx;simpa using hn x hx
    rw[FU,this]
   simp-implicitDefEqProofs[hf]
theorem AY(L:List (List UInt8))(hb:L.length<=1073741824)(hw:∀x∈L,x.length<=140737488355328):VF Tryz.prog G ck [.p (aw L),.fn (.func bw) []] (.p (.bool (!L.all aG))):=by
 rw[←LB]
 refine AC.go jA ?_
 simp-implicitDefEqProofs[dU]
 refine(FP G hK L hb hw).use ?_
 simp-implicitDefEqProofs[]
variable (hS:G cL=some [.tbl opK opV])
include hS
theorem lE(l:List Fd)(hl:aH l<=1073741824):VF Tryz.prog G cr [.agg [.p (fdL l)]] (.p (.bool (aY l))):=by
 refine AC.go ri ?_
 have hll:=fQ l
 have hfl:∀l,fdL l= .lst 3 (l.map Fd.cs):=λ_=>rfl
 have hm:=BW G l hl
 rw[hfl] at hm
 simp-implicitDefEqProofs[kf,hfl]
 refine(lA G _ _ _).use ?_
 by_cases h1:inR l.length 1 4=true
 case neg=>simp-implicitDefEqProofs[h1,aY]
 simp-implicitDefEqProofs[h1]
 refine aO (λi:Nat=>ah 48 [(1,.ptr 0 1 0 0),(13,.p (fdL l)),(14,.p (.int .i64 l.length)),(15,.p (.int .i64 i))]) (λ_=>[.row 1 [[.p (.lst 3 (l.map Fd.cs))]]]) (λi=>i<=l.length/\(l.take i).all jH=true) (λi=>l.length-i) 0 (by simp) (ae (by simp) (by simp[okO]) (by simp[below,hfl])) ?_
 intro i ⟨hi,ha⟩
 simp-implicitDefEqProofs[hfl]
 refine be (λh=>?_) (λh=>?_)
 ·simp at h
  have hg:=UW h
  have hks:=cK (Vl h)
  have hbadF:jH l[i]=false->aY l=false:=λhk'=>by simp only[aY,nJ h hk',Bool.and_false,Bool.false_and]
  have hcs:l[i].cs=[.str l[i].name,aw l[i].params,smL l[i].body]:=rfl
  have hfz:l[i].sz=1+l[i].name.length+(l[i].params.length+(l[i].params.map List.length).sum)+aC l[i].body:=rfl
  have hokF:jH l[i]=(l[i].params.all aG&&aG l[i].name&&decide (l[i].params.length<=3)&&l[i].body.all (az 4)):=rfl
  have hblk:=vu G 4 1 (λs hs=>by simpa using JW G hK hS 4 (by omega) s hs) l[i].body (by omega)
  have hcon:=AY G hK l[i].params (by omega) (LW (by omega))
  have hst:aw l[i].params= .lst 1 (l[i].params.map λw=>[.str w]):=rfl
  generalize l[i]=f at*
  rw[hst] at hcon
  simp-implicitDefEqProofs[hg,hcs,hst]
  refine(pm G hK _ (by omega)).use ?_
  by_cases k1:aG f.name=true
  case neg=>
   rw[hbadF (by rw[hokF];simp[k1])]
   simp-implicitDefEqProofs[k1]
  by_cases k2:f.params.length<=3
  case neg=>
   have k2':(3:Int)<f.params.length:=by omega
   rw[hbadF (by rw[hokF];simp[k2])]
   simp-implicitDefEqProofs[k1,k2']
  have k2':¬(3:Int)<f.params.length:=by omega
  simp-implicitDefEqProofs[k1,k2']
  refine hcon.use ?_
  by_cases k3:f.params.all aG=true
  case neg=>
   have k3':f.params.all aG=false:=by simpa using k3
   rw[hbadF (by rw[hokF,k3'];simp)]
   simp-implicitDefEqProofs[k3']
  simp only[k3]
  simp-implicitDefEqProofs[]
  refine hblk.use ?_
  by_cases k4:f.body.all (az 4)=true
  case neg=>
   have k4':f.body.all (az 4)=false:=by simpa using k4
   rw[hbadF (by rw[hokF,k4'];simp)]
   simp only[k4']
   simp-implicitDefEqProofs[]
  simp only[k4]
  simp-implicitDefEqProofs[]
  have hk:jH f=true:=by rw[hokF,k1,k3,k4];simp[k2]
  refine⟨i+1,⟨h,by rw[←Vc,og hg,ha,hk];rfl⟩,by omega,gI (m:=1) (by omega) (dF rfl rfl (by simp[okO,below])) (by simp[below,hfl,w1 (i:=i) (by omega)])⟩
 ·simp at h
  have h2:l.all jH=true:=ir h ha
  simp-implicitDefEqProofs[]
  refine hm.use ?_
  have hff:aY l=decide (gz l<=40):=by simp only[aY,h1,h2,Bool.true_and]
  simp-implicitDefEqProofs[hff]
  omega
end
section
variable (G:al)
theorem Fs(l:List Fd)(s:List UInt8)(hl:l.length<=1073741824):VF Tryz.prog G jx [.agg [.p (fdL l)],.p (.str s)] (.p (.int .i64 (ixI (bt l s)))):=by
 have hfl:∀l,fdL l= .lst 3 (l.map Fd.cs):=λ_=>rfl
 have dN:∀f:Fd,AC Tryz.prog G fT [.agg (f.cs.map .p),.ptr 1 1 0 0] [.row 1 [[.p (fdL l)]],.row 1 [[.p (.str s)]]] λx h=>x= .ret (.p (.bool (decide (f.name=s))))/\h=[.row 1 [[.p (fdL l)]],.row 1 [[.p (.str s)]]]:=by
  intro f
  have hcs:f.cs=[.str f.name,aw f.params,smL f.body]:=rfl
  refine AC.trim (AC.go Bz ?_) (by simp[below])
  simp-implicitDefEqProofs[rZ,hcs]
 have idx:AC Tryz.prog G cH [.p (fdL l),.fn (.func fT) [.ptr 1 1 0 0]] [.row 1 [[.p (fdL l)]],.row 1 [[.p (.str s)]]] λx h=>x= .ret (.p (.int .i64 (ixI (bt l s))))/\h=[.row 1 [[.p (fdL l)]],.row 1 [[.p (.str s)]]]:=by
  refine AC.go lD ?_
  simp-implicitDefEqProofs[eE,hfl]
  refine aO (λi:Nat=>ah 19 [(0,.p (fdL l)),(1,.fn (.func fT) [.ptr 1 1 0 0]),(7,.p (.int .i64 l.length)),(8,.p (.int .i64 i))]) (λ_=>[.row 1 [[.p (fdL l)]],.row 1 [[.p (.str s)]]]) (λi=>i<=l.length/\∀f∈l.take i,f.name≠s) (λi=>l.length-i) 0 (by simp) ?_ ?_
  ·exact ae (by simp) (by simp[okO,below]) (by simp[below,af,hfl])
  ·intro i ⟨hi,hn⟩
   simp-implicitDefEqProofs[hfl]
   refine be (λh1=>?_) (λh1=>?_)
   ·simp at h1
    have hg:=UW h1
    simp-implicitDefEqProofs[hg]
    refine(dN l[i]).mono ?_
    rintro r h ⟨rfl,rfl⟩
    by_cases he:l[i].name=s
    ·have hf:bt l s=some i:=by
      rw[bt,Vn]
      exact⟨h1,by simpa using he,λj hj=>by have:=hn l[j] (Wc.2 ⟨j,by omega,rfl⟩);simpa using this⟩
     simp-implicitDefEqProofs[aa,he,hf,ixI]
     exact hfl l
    ·simp-implicitDefEqProofs[aa,he]
     refine⟨i+1,⟨h1,λp hp=>?_⟩,by omega,ae (h:=[.row 1 [[.p (fdL l)]],.row 1 [[.p (.str s)]]]) (by simp) (by simp[okO,below]) (by simp[below,af,hfl,w1 (i:=i) (by omega)])⟩
     rw[aq h1] at hp
     rcases Vd.1 hp with hp|hp
     ·exact hn p hp
     ·rw[Ve.1 hp];exact he
   ·simp at h1
    rw[Va h1] at hn
    have hf:bt l s=none:=by
     rw[bt,VB];intro x hx;simpa using hn x hx
    simp-implicitDefEqProofs[hf,ixI]
 refine AC.go EY ?_
 simp-implicitDefEqProofs[vK]
 refine idx.mono ?_
 rintro r h ⟨rfl,rfl⟩
 simp-implicitDefEqProofs[aa]
structure GS where (gap:List AO) (m:Scp)
def mpE(m:Scp):List (PV × AV):=m.map λx=>(.str x.1,.p (.int .i64 x.2))
def scL:List GS->Nat
 |[]=>0
 |g::up=>scL up+g.gap.length+2
def upV:List GS->AV
 |[]=> .nilp
 |g::up=> .ptr (2+scL up+g.gap.length+1) 2 0 0
def scH:List GS->List AO
 |[]=>[]
 |g::up=>scH up++(g.gap++[.mp (mpE g.m),.row 2 [[.mp (2+scL up+g.gap.length),upV up]]])
theorem me:∀ch:List GS,(scH ch).length=scL ch
 |[]=>rfl
 |g::up=>by simp only[scH,scL,Vh,me up,Vo,List.length_nil];omega
def cO(fns:List Fd)(k:Nat)(c:Int):AO:= .row 3 [[.p (fdL fns),.p (.int .i64 k),.p (.int .i64 c)]]
def CH(b0:AO)(fns:List Fd)(k:Nat)(c:Int)(ch:List GS):List AO:=b0::cO fns k c::scH ch
theorem iL(b0:AO)(fns:List Fd)(k:Nat)(c:Int)(ch:List GS):(CH b0 fns k c ch).length=2+scL ch:=by
 simp only[CH,Vo,me];omega
def Ag:List GS->Prop
 |[]=>True
 |g::up=>(∀o∈g.gap,okO (2+scL up+g.gap.length) o)/\Ag up
theorem ky:∀(ch:List GS) {n:Nat},2+scL ch<=n->below n (upV ch)
 |[],_,_=>by simp[upV,below]
 |g::up,n,h=>by simp only[scL] at h;simp only[upV,below];omega
theorem Ge:∀(ch:List GS) {n:Nat},Ag ch->2+scL ch<=n->∀o∈scH ch,okO n o
 |[],_,_,_,o,ho=>by cases ho
 |g::up,n,⟨h1,h2⟩,hn,o,ho=>by
  simp only[scL] at hn
  rw[scH] at ho
  rcases Vd.1 ho with h|h
  ·exact Ge up h2 (by omega) o h
  ·rcases Vd.1 h with h|h
   ·exact sS (by omega) (h1 o h)
   ·simp only[Vf,Vv,or_false] at h
    rcases h with rfl|rfl
    ·intro e he
     obtain⟨x,_,rfl⟩:=Vq.1 he
     simp[below]
    ·intro e he
     rw[Ve.1 he]
     exact⟨by simp only[below];omega,ky up (by omega),trivial⟩
theorem DB{b0:AO}{fns:List Fd}{k:Nat}{c:Int}{ch:List GS}(hb:okO 0 b0)(hs:Ag ch){n:Nat}(hn:2+scL ch<=n):∀o∈CH b0 fns k c ch,okO n o:=
 aj (ee hb) (aj (by intro e he;rw[Ve.1 he];simp[below]) (Ge ch hs hn))
theorem tY(s:List UInt8):∀m:Scp,fe (.str s) (mpE m)=some ((dW m s).map λn=>AV.p (.int .i64 n))
 |[]=>rfl
 |x::r=>by
  have ih:=tY s r
  by_cases h:x.1=s
  ·simp[mpE,fe,keq,h,dW]
  ·have h':¬s=x.1:=λe=>h e.symm
   simp only[mpE,Vt,fe,keq,h',decide_false]
   simp only[mpE] at ih
   rw[ih];simp[dW,h]
theorem Ae(s:List UInt8)(n:Nat):∀m:Scp,gX (.str s) (.p (.int .i64 n)) (mpE m)=some (mpE (gy m s n))
 |[]=>rfl
 |x::r=>by
  have ih:=Ae s n r
  by_cases h:x.1=s
  ·simp[mpE,gX,keq,h,gy]
  ·have h':¬s=x.1:=λe=>h e.symm
   simp only[mpE,Vt,gX,keq,h',decide_false]
   simp only[mpE] at ih
   rw[ih];simp[gy,h]
abbrev sco(ch:List GS):List Scp:=ch.map GS.m
theorem KS:∀(pre:List GS) (g:GS) (up:List GS),(scH (pre++g::up))[scL up+g.gap.length]?=some (.mp (mpE g.m))/\(scH (pre++g::up))[scL up+g.gap.length+1]?=some (.row 2 [[.mp (2+scL up+g.gap.length),upV up]])
 |[],g,up=>by
  have hl:(scH up++g.gap).length=scL up+g.gap.length:=by rw[Vh,me]
  have e:scH (g::up)=(scH up++g.gap)++[.mp (mpE g.m),.row 2 [[.mp (2+scL up+g.gap.length),upV up]]]:=by rw[scH,VA]
  rw[List.nil_append,e]
  exact⟨by rw[←hl,Vb (Vi _)];simp,by rw[←hl,Vb (by omega)];simp⟩
 |p::pre,g,up=>by
  obtain⟨h1,h2⟩:=KS pre g up
  have hm1:=(US.1 h1).1
  have hm2:=(US.1 h2).1
  rw[VH,scH]
  exact⟨by rw[UU hm1];exact h1,by rw[UU hm2];exact h2⟩
theorem Fq(ch:List GS):(upV ch).isCell=true:=by cases ch<;>rfl
theorem Jl(ch:List GS):(upV ch).cells=[upV ch]:=by cases ch<;>rfl
attribute [simp ↓] Fq Jl
theorem Cw(b0:AO)(fns:List Fd)(k:Nat)(c e:Int)(r:List AO):AC Tryz.prog G cu [.ptr 1 3 0 0,.p (.int .i64 e)] (b0::cO fns k c::r) λx h=>x= .ret (.tup [])/\h=b0::cO fns k (fl c e)::r:=by
 refine AC.go pZ ?_
 by_cases h0:c=0
 ·simp-implicitDefEqProofs[fg,cO,h0,fl]
 ·simp-implicitDefEqProofs[fg,cO,h0,fl]
theorem yS(up:AV)(hu:up= .nilp\/∃i,up= .ptr i 2 0 0)(h:List AO):AC Tryz.prog G da [up] h λx h'=>x= .ret (.ptr (h.length+1) 2 0 0)/\h'=h++[.mp [],.row 2 [[.mp h.length,up]]]:=by
 refine AC.go tj ?_
 rcases hu with rfl|⟨i,rfl⟩
 ·simp-implicitDefEqProofs[ic]
 ·simp-implicitDefEqProofs[ic]
theorem Ll(b0 c0:AO)(ch:List GS)(rest:List AO)(s:List UInt8):AC Tryz.prog G ce [upV ch,.p (.str s)] (b0::c0::(scH ch++rest)) λx h=>x= .ret (.tup [.p (.int .i64 (((jO (sco ch) s).getD 0:Nat):Int)),.p (.bool (jO (sco ch) s).isSome)])/\h=b0::c0::(scH ch++rest):=by
 refine AC.goB tM λhb=>?_
 simp-implicitDefEqProofs[lL]
 have hHl:(b0::c0::(scH ch++rest)).length=2+scL ch+rest.length:=by simp only[Vo,Vh,me];omega
 refine aO (λr:List GS=>ah 25 [(0,upV r),(1,.p (.str s))]) (λ_=>b0::c0::(scH ch++rest)) (λr=>∃pre,ch=pre++r/\jO (sco ch) s=jO (sco r) s) (λr=>r.length) ch ⟨[],rfl,rfl⟩ ?_ ?_
 ·refine zN (by simp) hb ?_
  rw[hHl]
  exact⟨⟨ky ch (by omega),by simp⟩,⟨by simp,by simp⟩,trivial⟩
 rintro r ⟨pre,e1,e2⟩
 cases r with
 |nil=>
  rw[e2]
  simp-implicitDefEqProofs[upV,jO]
 |cons g up=>
  obtain⟨a1,a2⟩:=KS pre g up
  rw[←e1] at a1 a2
  have b1:=(US.1 a1).1
  have b2:=(US.1 a2).1
  have l1:(b0::c0::(scH ch++rest))[2+scL up+g.gap.length]?=some (.mp (mpE g.m)):=by
   rw[show 2+scL up+g.gap.length=(scL up+g.gap.length)+1+1 by omega,Vk,Vk,UU b1,a1]
  have l2:(b0::c0::(scH ch++rest))[2+scL up+g.gap.length+1]?=some (.row 2 [[.mp (2+scL up+g.gap.length),upV up]]):=by
   rw[show 2+scL up+g.gap.length+1=(scL up+g.gap.length+1)+1+1 by omega,Vk,Vk,UU b2,a2]
  have hmg:=tY s g.m
  have hle:=me ch
  rw[e2]
  generalize hH:b0::c0::(scH ch++rest)=H at*
  have hup:upV (g::up)= .ptr (2+scL up+g.gap.length+1) 2 0 0:=rfl
  cases hh:dW g.m s with
  |some n=>
   rw[hh] at hmg
   simp-implicitDefEqProofs[hup,l1,l2,hmg,jO,hh]
  |none=>
   rw[hh] at hmg
   simp-implicitDefEqProofs[hup,l1,l2,hmg,jO,hh]
   refine⟨up,⟨⟨pre++[g],by rw[e1];simp⟩,rfl⟩,by simp,?_⟩
   refine zN ?_ hb ?_
   ·rw[hHl,me];omega
   ·refine⟨⟨ky up ?_,?_⟩,⟨by simp,by simp⟩,trivial⟩
    ·rw[hHl]
     have:=congrArg List.length e1
     have h3:=(US.1 l2).1
     rw[hHl] at h3
     omega
    ·simp
end
section
variable (G:al)
theorem OO{f:FuncId}{args:List AV}{h h1:List AO}{v:AV}(H:AC Tryz.prog G f args h λx h'=>x= .ret v/\∃l,h'=h1++l)(hl:h1.length=h.length)(ho:∀o∈h1,okO h.length o)(hv:below h.length v):
 AC Tryz.prog G f args h λx h'=>x= .ret v/\h'=h1:=by
 refine H.wk (λt v h ⟨e,_⟩=>by cases e) ?_
 rintro u h' ⟨e,l,rfl⟩
 cases e
 refine⟨v,h1,zq (n:=h.length) (Vi _) (dF ?_ hl ho) ?_,rfl,rfl⟩
 ·rw[←hl,List.take_left'];rfl
 ·simp[Fgt,hv]
theorem OZ{f:FuncId}{args:List AV}{b0:AO}{fns:List Fd}{k:Nat}{c c':Int}{ch ch':List GS}{v:AV}(H:AC Tryz.prog G f args (CH b0 fns k c ch) λx h=>x= .ret v/\h=CH b0 fns k c' ch')(hb:okO 0 b0)(hs:Ag ch)(hl:scL ch'=scL ch)(rest:List AO)(ha:af (2+scL ch) args):
 AC Tryz.prog G f args (CH b0 fns k c ch++rest) λx h=>x= .ret v/\h=CH b0 fns k c' ch'++rest:=by
 refine(AC.pre H rest (by rw[iL];exact ha) (by rw[iL];exact DB hb hs (Vi _)) ?_).mono ?_
 ·rintro x h ⟨_,rfl⟩;rw[iL,iL,hl]
 ·rintro x h ⟨h1,⟨rfl,rfl⟩,rfl⟩
  exact⟨rfl,rfl⟩
def bxs(ch:List GS)(q:List AV):List AO:=[.row 1 [[.ptr 1 3 0 0]],.row 4 [q],.row 1 [[upV ch]]]
def rn(b0:AO)(fns:List Fd)(k:Nat)(ch:List GS)(q:List PV)(hb:okO 0 b0)(hs:Ag ch):Vis Int where
 I:=λc=>CH b0 fns k c ch++bxs ch (q.map .p)
 n:=2+scL ch+3
 F:=bR
 caps:=[.ptr (2+scL ch+2) 1 0 0,.ptr (2+scL ch) 1 0 0]
 len:=λc=>by rw[Vh,iL];rfl
 ok:=λc o ho=>by
  rcases Vd.1 ho with h|h
  ·exact DB hb hs (by omega) o h
  ·simp only[bxs,Vf,Vv,or_false] at h
   rcases h with rfl|rfl|rfl
   ·intro e he;rw[Ve.1 he];exact⟨by simp only[below];omega,trivial⟩
   ·intro e he;rw[Ve.1 he];exact bi (VV _) _ (by simp)
   ·intro e he;rw[Ve.1 he];exact⟨ky ch (by omega),trivial⟩
 capsOk:=by simp[below]
def eH(b0:AO)(fns:List Fd)(k:Nat)(ch:List GS)(q:List PV)(e:Ex)(c:Int):List AO:=b0::cO fns k c::(scH ch++(bxs ch (q.map .p)++[.row 4 [[.p (.int .i64 e.op),.p (.int .i64 e.n),.p (.str e.name),.p (exL e.kids)]]]))
section
variable {b0:AO} {fns:List Fd} {k:Nat} {ch:List GS} {q:List PV} {e:Ex} {c:Int}
theorem eH_eq{hb:okO 0 b0}{hs:Ag ch}:(rn b0 fns k ch q hb hs).I c++[.row 4 [[.p (.int .i64 e.op),.p (.int .i64 e.n),.p (.str e.name),.p (exL e.kids)]]]=eH b0 fns k ch q e c:=by
 simp[rn,eH,CH]
theorem Nl:(eH b0 fns k ch q e c)[1]?=some (.row 3 [[.p (fdL fns),.p (.int .i64 k),.p (.int .i64 c)]]):=rfl
theorem JO(i:Nat):(eH b0 fns k ch q e c)[2+scL ch+i]?=(bxs ch (q.map .p)++[.row 4 [[.p (.int .i64 e.op),.p (.int .i64 e.n),.p (.str e.name),.p (exL e.kids)]]])[i]?:=by
 rw[eH,show 2+scL ch+i=(scL ch+i)+1+1 by omega,Vk,Vk]
 exact Ow (me ch) i
theorem Jh:(eH b0 fns k ch q e c)[2+scL ch]?=some (.row 1 [[.ptr 1 3 0 0]]):=JO 0
theorem SP:(eH b0 fns k ch q e c)[2+scL ch+2]?=some (.row 1 [[upV ch]]):=JO 2
theorem MG:(eH b0 fns k ch q e c)[2+scL ch+3]?=some (.row 4 [[.p (.int .i64 e.op),.p (.int .i64 e.n),.p (.str e.name),.p (exL e.kids)]]):=JO 3
end
theorem Lj{fns:List Fd}{s:List UInt8}{j:Nat}(h:bt fns s=some j):j<fns.length:=by
 rw[bt,Vn] at h;exact h.1
theorem KY(b0:AO){fns:List Fd}{k:Nat}(hf:fns.length<=1073741824)(hk:k<=fns.length)(ch:List GS)(q:List PV)(hb:okO 0 b0)(hs:Ag ch)(c:Int)(e:Ex)(he:e.sz<=1073741824):
 AC Tryz.prog G bR (.agg (e.cs.map .p)::(rn b0 fns k ch q hb hs).caps) ((rn b0 fns k ch q hb hs).I c) λx h=>x= .ret (.tup [])/\h=(rn b0 fns k ch q hb hs).I (gl fns k (sco ch) c e):=by
 refine(rn b0 fns k ch q hb hs).trim G (AC.go od ?_) (by simp[below])
 have hec:=e.cs_eq
 have hlen:((rn b0 fns k ch q hb hs).I c).length=2+scL ch+3:=(rn b0 fns k ch q hb hs).len c
 have hcaps:(rn b0 fns k ch q hb hs).caps=[.ptr (2+scL ch+2) 1 0 0,.ptr (2+scL ch) 1 0 0]:=rfl
 have fin:∀c',(∃l,eH b0 fns k ch q e c'=(rn b0 fns k ch q hb hs).I c'++l):=λc'=>⟨_,eH_eq.symm⟩
 have hfail:∀n,AC Tryz.prog G cu [.ptr 1 3 0 0,.p (.int .i64 n)] (eH b0 fns k ch q e c) λx h=>x= .ret (.tup [])/\h=eH b0 fns k ch q e (fl c n):=λn=>Cw G b0 fns k c n _
 have hkl:=bH e.kids
 have hsz:=e.sz_eq
 rw[hcaps]
 simp-implicitDefEqProofs[iG,hec,hlen]
 rw[eH_eq]
 generalize hV:(rn b0 fns k ch q hb hs).I=VI at fin⊢
 by_cases o2:e.op=2
 ·have hfind:AC Tryz.prog G ce [upV ch,.p (.str e.name)] (eH b0 fns k ch q e c) λx h=>x= .ret (.tup [.p (.int .i64 (((jO (sco ch) e.name).getD 0:Nat):Int)),.p (.bool (jO (sco ch) e.name).isSome)])/\h=eH b0 fns k ch q e c:=Ll G b0 (cO fns k c) ch _ e.name
  simp-implicitDefEqProofs[o2,Jh,SP,MG,Nl]
  refine hfind.mono ?_
  rintro r h ⟨rfl,rfl⟩
  cases hfs:jO (sco ch) e.name with
  |some n=>
   have hv:gl fns k (sco ch) c e=c:=by simp[gl,o2,hfs]
   rw[hv]
   simp-implicitDefEqProofs[aa]
   exact fin c
  |none=>
   have hv:gl fns k (sco ch) c e=fl c 3:=by simp[gl,o2,hfs]
   rw[hv]
   simp-implicitDefEqProofs[aa,Jh]
   refine(hfail 3).mono ?_
   rintro r h ⟨rfl,rfl⟩
   simp-implicitDefEqProofs[aa]
   exact fin _
 by_cases o13:e.op=13
 ·have hfl:fdL fns= .lst 3 (fns.map Fd.cs):=rfl
  have hfk:fdL (fns.take k)= .lst 3 ((fns.map Fd.cs).take k):=by rw[←List.map_take];rfl
  have hxl:exL e.kids= .lst 4 (e.kids.map Ex.cs):=rfl
  have hAt:=Fs G (fns.take k) e.name (by rw[Vs];omega)
  rw[hfk] at hAt
  simp-implicitDefEqProofs[o13,Jh,SP,MG,Nl,hfl,hk]
  refine hAt.use ?_
  cases hfa:bt (fns.take k) e.name with
  |none=>
   have hv:gl fns k (sco ch) c e=fl c 4:=by simp[gl,o13,hfa]
   rw[hv]
   simp-implicitDefEqProofs[ixI,Jh]
   refine(hfail 4).mono ?_
   rintro r h ⟨rfl,rfl⟩
   simp-implicitDefEqProofs[aa]
   exact fin _
  |some j=>
   have hj:=Lj hfa
   rw[Vs] at hj
   have hjl:j<fns.length:=by omega
   have hg:=UW hjl
   have hjn:¬(j:Int)<0:=by omega
   have hcs:fns[j].cs=[.str fns[j].name,aw fns[j].params,smL fns[j].body]:=rfl
   have hst:aw fns[j].params= .lst 1 (fns[j].params.map λw=>[.str w]):=rfl
   have hpn:tC fns j=fns[j].params.length:=by simp[tC,hg]
   by_cases hp:fns[j].params.length=e.kids.length
   ·have hv:gl fns k (sco ch) c e=c:=by simp[gl,o13,hfa,hpn,hp]
    rw[hv]
    simp-implicitDefEqProofs[ixI,Jh,Nl,MG,hjn,hfl,hg,hcs,hst,hxl,hp]
    exact fin _
   ·have hv:gl fns k (sco ch) c e=fl c 5:=by simp[gl,o13,hfa,hpn,hp]
    have hp':¬(fns[j].params.length:Int)=(e.kids.length:Int):=by omega
    rw[hv]
    simp-implicitDefEqProofs[ixI,Jh,Nl,MG,hjn,hfl,hg,hcs,hst,hxl,hp']
    refine(hfail 5).mono ?_
    rintro r h ⟨rfl,rfl⟩
    simp-implicitDefEqProofs[aa]
    exact fin _
 ·have hv:gl fns k (sco ch) c e=c:=by simp[gl,o2,o13]
  rw[hv]
  simp-implicitDefEqProofs[o2,o13,MG]
  exact fin _
theorem Ot(ch:List GS):upV ch= .nilp\/∃i,upV ch= .ptr i 2 0 0:=by
 cases ch with
 |nil=>exact .inl rfl
 |cons g up=>exact .inr ⟨_,rfl⟩
theorem Qe(b0:AO){fns:List Fd}{k:Nat}(hf:fns.length<=1073741824)(hk:k<=fns.length)(ch:List GS)(hb:okO 0 b0)(hs:Ag ch)(c:Int)(e:Ex)(he:e.sz<=1073741824):
 AC Tryz.prog G dv [.ptr 1 3 0 0,.agg (e.cs.map .p),upV ch] (CH b0 fns k c ch) λx h=>x= .ret (.tup [])/\h=CH b0 fns k (e.pre.foldl (gl fns k (sco ch)) c) ch:=by
 refine OO G (h:=CH b0 fns k c ch) (AC.go rd ?_) (by rw[iL,iL]) (by rw[iL];exact DB hb hs (Vi _)) (by simp[below])
 have hec:=e.cs_eq
 have hlen:(CH b0 fns k c ch).length=2+scL ch:=iL _ _ _ _ _
 have hI:=(MT G (rn b0 fns k ch e.cs hb hs) (gl fns k (sco ch)) (λ_=>True) 1073741824 (by omega) (λst x _ hx=>⟨trivial,KY G b0 hf hk ch e.cs hb hs st x hx⟩) (e.sz+1) e (by omega) he c trivial).2
 have hcaps:(rn b0 fns k ch e.cs hb hs).caps=[.ptr (2+scL ch+2) 1 0 0,.ptr (2+scL ch) 1 0 0]:=rfl
 have hF:(rn b0 fns k ch e.cs hb hs).F=bR:=rfl
 have hVI:(rn b0 fns k ch e.cs hb hs).I c=CH b0 fns k c ch++[.row 1 [[.ptr 1 3 0 0]],.row 4 [[.p (.int .i64 e.op),.p (.int .i64 e.n),.p (.str e.name),.p (exL e.kids)]],.row 1 [[upV ch]]]:=by simp[rn,bxs,hec]
 rw[hcaps,hF,hVI,hec] at hI
 have hup:=Ot ch
 generalize upV ch=u at hI hup⊢
 rcases hup with rfl|⟨i,rfl⟩
 ·simp-implicitDefEqProofs[fk,hec,hlen]
  refine hI.mono ?_
  rintro r h ⟨rfl,rfl⟩
  simp-implicitDefEqProofs[aa]
  exact⟨_,rfl⟩
 ·simp-implicitDefEqProofs[fk,hec,hlen]
  refine hI.mono ?_
  rintro r h ⟨rfl,rfl⟩
  simp-implicitDefEqProofs[aa]
  exact⟨_,rfl⟩
end
section
theorem pt:AK.whole eM=FK.ak eO:=rfl
theorem DZ(fns:List Fd)(k:Nat):∀(a b:List Sm) (m:Scp) (up:List Scp) (c:Int),iC fns k (a++b) m up c=iC fns k b (iC fns k a m up c).1 up (iC fns k a m up c).2
 |[],b,m,up,c=>rfl
 |s::r,b,m,up,c=>by rw[VH,iC,iC,DZ fns k r]
theorem IO{fns:List Fd}{k:Nat}{l:List Sm}{m:Scp}{up:List Scp}{c:Int}{i:Nat}(h:i<l.length):iC fns k (l.take (i+1)) m up c=icS fns k l[i] (iC fns k (l.take i) m up c).1 up (iC fns k (l.take i) m up c).2:=by
 rw[aq h,DZ];rfl
def AX(b0:AO)(fns:List Fd)(k:Nat)(up:List GS)(gap:List AO)(c:Int):List AO:=b0::cO fns k c::(scH up++gap)
theorem Qu(b0:AO)(fns:List Fd)(k:Nat)(up:List GS)(gap:List AO)(c:Int):(AX b0 fns k up gap c).length=2+scL up+gap.length:=by
 simp only[AX,Vo,Vh,me];omega
theorem Kx(b0:AO)(fns:List Fd)(k:Nat)(up:List GS)(gap:List AO)(m:Scp)(c:Int)(rest:List AO):CH b0 fns k c (⟨gap,m⟩::up)++rest=AX b0 fns k up gap c++(.mp (mpE m):: .row 2 [[.mp (2+scL up+gap.length),upV up]]::rest):=by
 simp[CH,AX,scH]
theorem Km(b0:AO)(fns:List Fd)(k:Nat)(up:List GS)(gap:List AO)(m:Scp)(c:Int):CH b0 fns k c (⟨gap,m⟩::up)=AX b0 fns k up gap c++[.mp (mpE m),.row 2 [[.mp (2+scL up+gap.length),upV up]]]:=by
 have:=Kx b0 fns k up gap m c []
 rwa[VP] at this
theorem Sr{b0:AO}{fns:List Fd}{k:Nat}{up:List GS}{gap:List AO}(hb:okO 0 b0)(hs:Ag up)(hg:∀o∈gap,okO (2+scL up+gap.length) o)(c:Int):∀o∈AX b0 fns k up gap c,okO (2+scL up+gap.length) o:=by
 refine aj (ee hb) (aj (by intro e he;rw[Ve.1 he];simp[below]) ?_)
 intro o ho
 rcases Vd.1 ho with h|h
 ·exact Ge up hs (by omega) o h
 ·exact hg o h
theorem yM{kk L n:Nat}{A r s:List AO}{l l1:List (Nat × AV)}(hl:A.length=L)(hk:kk<=L+r.length)(ha:∀o∈A,okO L o)(hr:∀o∈r,okO (L+r.length) o)(H:FgA (L+r.length) l l1):Wk kk (ah n l) (A++(r++s)) (ah n l1) (A++r):=by
 have hll:(A++r).length=L+r.length:=by rw[Vh,hl]
 refine gI (m:=L+r.length) hk (dF ?_ hll ?_) H
 ·rw[←VA,←hll,List.take_left'];rfl
 ·intro o ho
  rcases Vd.1 ho with h|h
  ·exact sS (by omega) (ha o h)
  ·exact hr o h
theorem Fc(m:Scp)(n:Nat):okO n (.mp (mpE m)):=by
 intro e he
 obtain⟨x,_,rfl⟩:=Vq.1 he
 simp[below]
variable (G:al)
theorem On(b0:AO){fns:List Fd}{k:Nat}(hf:fns.length<=1073741824)(hk:k<=fns.length)(hb:okO 0 b0):∀(N:Nat) (l:List Sm),aC l<N->aC l<=1073741824->∀(gap:List AO) (m:Scp) (up:List GS) (c:Int),Ag (⟨gap,m⟩::up)->
 AC Tryz.prog G bG [.ptr 1 3 0 0,.p (smL l),upV (⟨gap,m⟩::up)] (CH b0 fns k c (⟨gap,m⟩::up)) λx h=>x= .ret (.tup [])/\h=CH b0 fns k (iC fns k l m (sco up) c).2 (⟨gap,(iC fns k l m (sco up) c).1⟩::up):=by
 intro N
 induction N with
 |zero=>intro l h;omega
 |succ N ih=>
  intro l hl hz gap m up c hs
  have hll:=cb l
  have hsl:∀l,smL l= .lst 5 (l.map Sm.cs):=λ_=>rfl
  have hs':∀m,Ag (⟨gap,m⟩::up):=λ_=>hs
  have hscl:∀m,scL (⟨gap,m⟩::up)=scL up+gap.length+2:=λ_=>rfl
  refine OO G (AC.goK pu pt ?_) (by rw[iL,iL];rfl) (by rw[iL];exact DB hb (hs' _) (by rw[hscl];exact Nat.le_of_eq (by rfl))) (by simp[below])
  have hup:upV (⟨gap,m⟩::up)= .ptr (2+scL up+gap.length+1) 2 0 0:=rfl
  have hlenC:∀c m,(CH b0 fns k c (⟨gap,m⟩::up)).length=2+scL up+gap.length+2:=λc m=>by rw[iL,hscl];omega
  have hokC:∀c m,∀o∈CH b0 fns k c (⟨gap,m⟩::up),okO (2+scL up+gap.length+2) o:=λc m=>DB hb (hs' m) (by rw[hscl];omega)
  have hlenA:∀c,(AX b0 fns k up gap c).length=2+scL up+gap.length:=Qu b0 fns k up gap
  simp-implicitDefEqProofs[eM,eO,hsl,hup]
  refine aO (λi:Nat=>ah 89 [(0,.ptr 1 3 0 0),(2,.ptr (2+scL up+gap.length+1) 2 0 0),(14,.p (smL l)),(15,.p (.int .i64 l.length)),(16,.p (.int .i64 i))])
   (λi=>CH b0 fns k (iC fns k (l.take i) m (sco up) c).2 (⟨gap,(iC fns k (l.take i) m (sco up) c).1⟩::up)) (λi=>i<=l.length) (λi=>l.length-i) 0 (by simp) ?_ ?_
  ·refine ae (h:=CH b0 fns k c (⟨gap,m⟩::up)) (Vi _) (by rw[hlenC];exact hokC _ _) ?_
   rw[hlenC]
   simp[below,hsl]
  intro i hi
  have eT:=λh=>IO (fns:=fns) (k:=k) (l:=l) (m:=m) (up:=sco up) (c:=c) (i:=i) h
  rw[hlenC]
  generalize hst:iC fns k (l.take i) m (sco up) c=st at eT⊢
  obtain⟨mi,ci⟩:=st
  simp only at eT⊢
  simp-implicitDefEqProofs[hsl]
  refine be (λh=>?_) (λh=>?_)
  ·simp at h
   have hg:=UW h
   have hse:=l[i].cs_eq
   have hsz:=l[i].sz_eq
   have hks:=dQ (Vl h)
   have eT:=eT h
   generalize l[i]=s at hg hse hsz hks eT
   obtain⟨o,nme,a,bd,el⟩:=s
   simp only[Sm.op,Sm.name,Sm.args,Sm.body,Sm.els] at hse hsz
   have hxl:exL a= .lst 4 (a.map Ex.cs):=rfl
   have hal:=bH a
   simp-implicitDefEqProofs[hg,hse,hlenC,hxl]
   have hexpr:∀(c:Int) (e:Ex) (rest:List AO),e.sz<=1073741824->AC Tryz.prog G dv [.ptr 1 3 0 0,.agg (e.cs.map .p),.ptr (2+scL up+gap.length+1) 2 0 0] (AX b0 fns k up gap c++(.mp (mpE mi):: .row 2 [[.mp (2+scL up+gap.length),upV up]]::rest)) λx h=>x= .ret (.tup [])/\h=AX b0 fns k up gap (e.pre.foldl (gl fns k (mi::sco up)) c)++(.mp (mpE mi):: .row 2 [[.mp (2+scL up+gap.length),upV up]]::rest):=by
    intro c e rest he
    have:=OZ G (Qe G b0 hf hk (⟨gap,mi⟩::up) hb (hs' mi) c e he) hb (hs' mi) rfl rest (by refine⟨by simp only[below];omega,by simp,ky _ (Vi _),trivial⟩)
    simp only[Kx] at this
    exact this
   have hfail:∀(c e:Int) (t:List AO),AC Tryz.prog G cu [.ptr 1 3 0 0,.p (.int .i64 e)] (AX b0 fns k up gap c++t) λx h=>x= .ret (.tup [])/\h=AX b0 fns k up gap (fl c e)++t:=λc e t=>Cw G b0 fns k c e _
   have hfind:∀(c:Int) (m:Scp) (s:List UInt8) (rest:List AO),AC Tryz.prog G ce [.ptr (2+scL up+gap.length+1) 2 0 0,.p (.str s)] (AX b0 fns k up gap c++(.mp (mpE m):: .row 2 [[.mp (2+scL up+gap.length),upV up]]::rest)) λx h=>x= .ret (.tup [.p (.int .i64 (((jO (m::sco up) s).getD 0:Nat):Int)),.p (.bool (jO (m::sco up) s).isSome)])/\h=AX b0 fns k up gap c++(.mp (mpE m):: .row 2 [[.mp (2+scL up+gap.length),upV up]]::rest):=by
    intro c m s rest
    have:=Ll G b0 (cO fns k c) (⟨gap,m⟩::up) rest s
    have e:b0::cO fns k c::(scH (⟨gap,m⟩::up)++rest)=CH b0 fns k c (⟨gap,m⟩::up)++rest:=rfl
    rw[e,Kx] at this
    exact this
   have hblk:∀(c:Int) (m2:Scp) (l':List Sm) (gap2:List AO),aC l'<N->aC l'<=1073741824->(∀o∈gap2,okO (2+scL up+gap.length+2+gap2.length) o)->
    AC Tryz.prog G bG [.ptr 1 3 0 0,.p (smL l'),.ptr (2+scL up+gap.length+2+gap2.length+1) 2 0 0] (AX b0 fns k up gap c++(.mp (mpE m2):: .row 2 [[.mp (2+scL up+gap.length),upV up]]::(gap2++[.mp [],.row 2 [[.mp (2+scL up+gap.length+2+gap2.length),.ptr (2+scL up+gap.length+1) 2 0 0]]])))
     λx h=>x= .ret (.tup [])/\∃m',h=AX b0 fns k up gap (iC fns k l' [] (m2::sco up) c).2++(.mp (mpE m2):: .row 2 [[.mp (2+scL up+gap.length),upV up]]::(gap2++[.mp (mpE m'),.row 2 [[.mp (2+scL up+gap.length+2+gap2.length),.ptr (2+scL up+gap.length+1) 2 0 0]]])):=by
    intro c m2 l' gap2 h1 h2 h3
    have e1:2+scL (⟨gap,m2⟩::up)+gap2.length=2+scL up+gap.length+2+gap2.length:=by rw[hscl];omega
    have e2:∀c m',CH b0 fns k c (⟨gap2,m'⟩::⟨gap,m2⟩::up)=AX b0 fns k up gap c++(.mp (mpE m2):: .row 2 [[.mp (2+scL up+gap.length),upV up]]::(gap2++[.mp (mpE m'),.row 2 [[.mp (2+scL up+gap.length+2+gap2.length),.ptr (2+scL up+gap.length+1) 2 0 0]]])):=by
     intro c m'
     rw[←e1]
     simp[CH,AX,scH,upV]
    have:=ih l' h1 h2 gap2 [] (⟨gap,m2⟩::up) c ⟨by rw[e1];exact h3,hs' m2⟩
    rw[show upV (⟨gap2,[]⟩::⟨gap,m2⟩::up)= .ptr (2+scL up+gap.length+2+gap2.length+1) 2 0 0 by rw[←e1];rfl] at this
    rw[e2] at this
    refine this.mono ?_
    rintro x h ⟨hx,hh⟩
    exact⟨hx,(iC fns k l' [] (sco (⟨gap,m2⟩::up)) c).1,by rw[hh,e2];rfl⟩
   rw[Km b0 fns k up gap mi ci,VA]
   simp only[VH,List.nil_append]
   have hokA:=Sr (fns:=fns) (k:=k) hb hs.2 hs.1
   generalize hL:2+scL up+gap.length=L at hexpr hfind hblk hlenA hlenC hokC hokA⊢
   have hR:okO (L+2) (.row 2 [[.mp L,upV up]]):=by
    intro e he;rw[Ve.1 he]
    exact⟨by simp only[below];omega,ky up (by omega),trivial⟩
   have hX:okO 0 (.row 5 [[AV.p (.int .i64 o),.p (.str nme),.p (.lst 4 (a.map Ex.cs)),.p (smL bd),.p (smL el)]]):=by simp[okO]
   have ok3:∀(m:Scp),∀x∈[AO.mp (mpE m),.row 2 [[.mp L,upV up]],.row 5 [[AV.p (.int .i64 o),.p (.str nme),.p (.lst 4 (a.map Ex.cs)),.p (smL bd),.p (smL el)]]],okO (L+3) x:=λm=>
    aj (Fc _ _) (aj (sS (by omega) hR) (aj (ee hX) fW))
   refine aO (λj:Nat=>ah 89 [(0,.ptr 1 3 0 0),(2,.ptr (L+1) 2 0 0),(7,.ptr (L+2) 5 0 0),(14,.p (smL l)),(15,.p (.int .i64 l.length)),(16,.p (.int .i64 i)),(21,.p (exL a)),(22,.p (.int .i64 a.length)),(23,.p (.int .i64 j))])
    (λj=>AX b0 fns k up gap ((dr (a.take j)).foldl (gl fns k (mi::sco up)) ci)++[.mp (mpE mi),.row 2 [[.mp L,upV up]],.row 5 [[AV.p (.int .i64 o),.p (.str nme),.p (.lst 4 (a.map Ex.cs)),.p (smL bd),.p (smL el)]]])
    (λj=>j<=a.length) (λj=>a.length-j) 0 (by simp) ?_ ?_
   ·refine yM (s:=[]) (hlenA _) (by simp) (hokA _) (ok3 _) ?_
    simp[below,hsl,hxl]
   intro j hj
   simp-implicitDefEqProofs[hxl]
   refine be (λhc=>?_) (λhc=>?_)
   ·simp at hc
    have hga:=UW hc
    have hka:=bT (Vl hc)
    have hkc:=a[j].cs_eq
    have hE:=hexpr ((dr (a.take j)).foldl (gl fns k (mi::sco up)) ci) a[j] [.row 5 [[AV.p (.int .i64 o),.p (.str nme),.p (.lst 4 (a.map Ex.cs)),.p (smL bd),.p (smL el)]],.row 4 [[.p (.int .i64 a[j].op),.p (.int .i64 a[j].n),.p (.str a[j].name),.p (exL a[j].kids)]]] (by omega)
    rw[hkc] at hE
    simp-implicitDefEqProofs[hga,hkc,hlenA]
    refine hE.mono ?_
    rintro r h ⟨rfl,rfl⟩
    simp-implicitDefEqProofs[aa]
    refine⟨j+1,hc,by omega,?_⟩
    have hf2:(dr (a.take (j+1))).foldl (gl fns k (mi::sco up)) ci=a[j].pre.foldl (gl fns k (mi::sco up)) ((dr (a.take j)).foldl (gl fns k (mi::sco up)) ci):=by
     rw[aq hc,tW,List.foldl_append,dr,dr,VP]
    rw[hf2]
    refine yM (r:=[_,_,_]) (s:=[_]) (hlenA _) (by simp) (hokA _) (ok3 _) ?_
    simp[below,hsl,hxl,w1 (i:=j) (by omega)]
   simp at hc
   have hje:j=a.length:=by omega
   subst hje
   rw[List.take_length]
   have hic:icS fns k ⟨o,nme,a,bd,el⟩ mi (sco up) ci=(opS o nme mi 0,if o=5\/o=6 then(iC fns k el [] (opS o nme mi 0::sco up) (iC fns k bd [] (opS o nme mi 0::sco up) (opC o nme mi (sco up) (Fu fns k (mi::sco up) a ci))).2).2 else opC o nme mi (sco up) (Fu fns k (mi::sco up) a ci)):=rfl
   rw[hic] at eT
   clear hic
   rw[show(dr a).foldl (gl fns k (mi::sco up)) ci=Fu fns k (mi::sco up) a ci from rfl]
   generalize Fu fns k (mi::sco up) a ci=c1 at eT⊢
   simp-implicitDefEqProofs[]
   refine mB (ah 89 [(0,.ptr 1 3 0 0),(2,.ptr (L+1) 2 0 0),(7,.ptr (L+2) 5 0 0),(14,.p (smL l)),(15,.p (.int .i64 l.length)),(16,.p (.int .i64 i))])
    (AX b0 fns k up gap (opC o nme mi (sco up) c1)++[.mp (mpE (opS o nme mi 0)),.row 2 [[.mp L,upV up]],.row 5 [[AV.p (.int .i64 o),.p (.str nme),.p (.lst 4 (a.map Ex.cs)),.p (smL bd),.p (smL el)]]]) ?_ ?_
   ·have fin:∀(r1:List (Nat × AV)) (c2:Int) (m2:Scp),Aw.look r1 0= .ptr 1 3 0 0->Aw.look r1 2= .ptr (L+1) 2 0 0->Aw.look r1 7= .ptr (L+2) 5 0 0->Aw.look r1 14= .p (smL l)->Aw.look r1 15= .p (.int .i64 l.length)->Aw.look r1 16= .p (.int .i64 i)->
     Wk (L+2) (ah 89 r1) (AX b0 fns k up gap c2++[.mp (mpE m2),.row 2 [[.mp L,upV up]],.row 5 [[AV.p (.int .i64 o),.p (.str nme),.p (.lst 4 (a.map Ex.cs)),.p (smL bd),.p (smL el)]]])
      (ah 89 [(0,.ptr 1 3 0 0),(2,.ptr (L+1) 2 0 0),(7,.ptr (L+2) 5 0 0),(14,.p (smL l)),(15,.p (.int .i64 l.length)),(16,.p (.int .i64 i))])
      (AX b0 fns k up gap c2++[.mp (mpE m2),.row 2 [[.mp L,upV up]],.row 5 [[AV.p (.int .i64 o),.p (.str nme),.p (.lst 4 (a.map Ex.cs)),.p (smL bd),.p (smL el)]]]):=by
     intro r1 c2 m2 e0 e2 e7 e14 e15 e16
     refine yM (s:=[]) (hlenA _) (by simp) (hokA _) (ok3 _) ?_
     simp[below,e0,e2,e7,e14,e15,e16]
    by_cases o1:o=1
    ·have hmg:=tY nme mi
     have hms:gX (.str nme) (.p (.int .i64 0)) (mpE mi)=some (mpE (gy mi nme 0)):=by simpa using Ae nme 0 mi
     have e2:opS o nme mi 0=gy mi nme 0:=if_pos o1
     rw[e2]
     cases hh:dW mi nme with
     |none=>
      have e1:opC o nme mi (sco up) c1=c1:=by rw[opC,if_pos o1,hh];rfl
      rw[hh] at hmg
      rw[e1]
      subst o1
      simp-implicitDefEqProofs[hlenA,hmg,hms]
      exact fin _ _ _ (by simp) (by simp) (by simp) (by simp[hsl]) (by simp) (by simp)
     |some n=>
      have e1:opC o nme mi (sco up) c1=fl c1 2:=by rw[opC,if_pos o1,hh];rfl
      rw[hh] at hmg
      rw[e1]
      subst o1
      simp-implicitDefEqProofs[hlenA,hmg,hms]
      refine(hfail c1 2 _).mono ?_
      rintro r h ⟨rfl,rfl⟩
      simp-implicitDefEqProofs[aa,hlenA,hms]
      exact fin _ _ _ (by simp) (by simp) (by simp) (by simp[hsl]) (by simp) (by simp)
    have e2:opS o nme mi 0=mi:=if_neg o1
    rw[e2]
    by_cases o2:o=2
    ·cases hh:jO (mi::sco up) nme with
     |none=>
      have e1:opC o nme mi (sco up) c1=fl c1 3:=by rw[opC,if_neg o1,if_pos o2,hh];rfl
      rw[e1]
      subst o2
      have hF:=hfind c1 mi nme [.row 5 [[AV.p (.int .i64 2),.p (.str nme),.p (.lst 4 (a.map Ex.cs)),.p (smL bd),.p (smL el)]]]
      rw[hh] at hF
      simp-implicitDefEqProofs[hlenA]
      refine hF.mono ?_
      rintro r h ⟨rfl,rfl⟩
      simp-implicitDefEqProofs[aa]
      refine(hfail c1 3 _).mono ?_
      rintro r h ⟨rfl,rfl⟩
      simp-implicitDefEqProofs[aa]
      exact fin _ _ _ (by simp) (by simp) (by simp) (by simp[hsl]) (by simp) (by simp)
     |some n=>
      have e1:opC o nme mi (sco up) c1=c1:=by rw[opC,if_neg o1,if_pos o2,hh];rfl
      rw[e1]
      subst o2
      have hF:=hfind c1 mi nme [.row 5 [[AV.p (.int .i64 2),.p (.str nme),.p (.lst 4 (a.map Ex.cs)),.p (smL bd),.p (smL el)]]]
      rw[hh] at hF
      simp-implicitDefEqProofs[hlenA]
      refine hF.mono ?_
      rintro r h ⟨rfl,rfl⟩
      simp-implicitDefEqProofs[aa]
      exact fin _ _ _ (by simp) (by simp) (by simp) (by simp[hsl]) (by simp) (by simp)
    ·have e1:opC o nme mi (sco up) c1=c1:=by rw[opC,if_neg o1,if_neg o2]
     rw[e1]
     simp-implicitDefEqProofs[hlenA,o1,o2]
     exact fin _ _ _ (by simp) (by simp) (by simp) (by simp[hsl]) (by simp) (by simp)
   generalize opC o nme mi (sco up) c1=c2 at eT⊢
   generalize opS o nme mi 0=m2 at eT⊢
   have hdrop:∀(r1:List (Nat × AV)) (c3:Int) (s:List AO),Aw.look r1 0= .ptr 1 3 0 0->Aw.look r1 2= .ptr (L+1) 2 0 0->Aw.look r1 14= .p (smL l)->Aw.look r1 15= .p (.int .i64 l.length)->Aw.look r1 16= .p (.int .i64 ((i:Int)+1))->
    Wk (L+2) (ah 89 r1) (AX b0 fns k up gap c3++([.mp (mpE m2),.row 2 [[.mp L,upV up]]]++s)) (ah 89 [(0,.ptr 1 3 0 0),(2,.ptr (L+1) 2 0 0),(14,.p (smL l)),(15,.p (.int .i64 l.length)),(16,.p (.int .i64 ((i:Int)+1)))]) (CH b0 fns k c3 (⟨gap,m2⟩::up)):=by
    intro r1 c3 s e0 e2 e14 e15 e16
    rw[Km,hL]
    refine yM (hlenA _) (by simp) (hokA _) (aj (Fc _ _) (aj hR fW)) ?_
    simp[below,e0,e2,e14,e15,e16]
   by_cases ho:o=5\/o=6
   ·rw[if_pos ho] at eT
    rcases ho with o5|o6
    ·subst o5
     simp-implicitDefEqProofs[hlenA]
     refine(yS G (.ptr (L+1) 2 0 0) (.inr ⟨_,rfl⟩) _).mono ?_
     rintro r h ⟨rfl,rfl⟩
     simp-implicitDefEqProofs[aa,hlenA]
     refine(hblk c2 m2 bd [_] (by omega) (by omega) (λx hx=>by rw[Ve.1 hx];exact ee (by simp[okO]))).mono ?_
     rintro r h ⟨rfl,m3,rfl⟩
     simp-implicitDefEqProofs[aa,hlenA]
     refine(yS G (.ptr (L+1) 2 0 0) (.inr ⟨_,rfl⟩) _).mono ?_
     rintro r h ⟨rfl,rfl⟩
     simp-implicitDefEqProofs[aa,hlenA]
     refine(hblk _ m2 el [_,_,_] (by omega) (by omega) (aj (ee (by simp[okO])) (aj (Fc _ _) (aj (by
      intro e he;rw[Ve.1 he]
      exact⟨by simp only[below];simp,by simp only[below];simp,trivial⟩) fW)))).mono ?_
     rintro r h ⟨rfl,m4,rfl⟩
     simp-implicitDefEqProofs[aa,hlenA]
     refine⟨i+1,by omega,by omega,?_⟩
     rw[eT]
     refine hdrop _ _ _ (by simp) (by simp) (by simp[hsl]) (by simp) (by simp[w1 (i:=i) (by omega)])
    ·subst o6
     simp-implicitDefEqProofs[hlenA]
     refine(yS G (.ptr (L+1) 2 0 0) (.inr ⟨_,rfl⟩) _).mono ?_
     rintro r h ⟨rfl,rfl⟩
     simp-implicitDefEqProofs[aa,hlenA]
     refine(hblk c2 m2 bd [_] (by omega) (by omega) (λx hx=>by rw[Ve.1 hx];exact ee (by simp[okO]))).mono ?_
     rintro r h ⟨rfl,m3,rfl⟩
     simp-implicitDefEqProofs[aa,hlenA]
     refine(yS G (.ptr (L+1) 2 0 0) (.inr ⟨_,rfl⟩) _).mono ?_
     rintro r h ⟨rfl,rfl⟩
     simp-implicitDefEqProofs[aa,hlenA]
     refine(hblk _ m2 el [_,_,_] (by omega) (by omega) (aj (ee (by simp[okO])) (aj (Fc _ _) (aj (by
      intro e he;rw[Ve.1 he]
      exact⟨by simp only[below];simp,by simp only[below];simp,trivial⟩) fW)))).mono ?_
     rintro r h ⟨rfl,m4,rfl⟩
     simp-implicitDefEqProofs[aa,hlenA]
     refine⟨i+1,by omega,by omega,?_⟩
     rw[eT]
     refine hdrop _ _ _ (by simp) (by simp) (by simp[hsl]) (by simp) (by simp[w1 (i:=i) (by omega)])
   ·rw[if_neg ho] at eT
    have o5:¬o=5:=λh=>ho (.inl h)
    have o6:¬o=6:=λh=>ho (.inr h)
    simp-implicitDefEqProofs[hlenA,o5,o6]
    refine⟨i+1,by omega,by omega,?_⟩
    rw[eT]
    refine hdrop _ _ [_] (by simp) (by simp) (by simp[hsl]) (by simp) (by simp[w1 (i:=i) (by omega)])
  ·simp at h
   have hie:i=l.length:=by omega
   subst hie
   rw[List.take_length] at hst
   rw[hst]
   simp-implicitDefEqProofs[]
end
section
theorem rg:AK.whole fI=FK.ak fD:=rfl
theorem BN(fns:List Fd):∀(a b:List Fd) (k:Nat) (c:Int),lq fns k (a++b) c=lq fns (k+a.length) b (lq fns k a c)
 |[],b,k,c=>rfl
 |f::r,b,k,c=>by rw[VH,lq,lq,BN fns r];congr 1;simp only[Vo];omega
theorem Gy{fns l:List Fd}{i:Nat}{c:Int}(h:i<l.length):lq fns 0 (l.take (i+1)) c=icF fns i l[i] (lq fns 0 (l.take i) c):=by
 rw[aq h,BN,Vs,Nat.min_eq_left (Nat.le_of_lt h),VX];rfl
theorem MA(a b:List (List UInt8))(m:Scp)(c:Int):jp (a++b) m c=jp b (jp a m c).1 (jp a m c).2:=by simp[jp]
theorem IX{l:List (List UInt8)}{i:Nat}{m:Scp}{c:Int}(h:i<l.length):jp (l.take (i+1)) m c=(gy (jp (l.take i) m c).1 l[i] 0,if(dW (jp (l.take i) m c).1 l[i]).isSome then fl (jp (l.take i) m c).2 2 else(jp (l.take i) m c).2):=by
 rw[aq h,MA];rfl
variable (G:al) (hK:G fy=some eF) (hS:G cL=some [.tbl opK opV])
include hK hS
theorem yU(l:List Fd)(hl:aH l<=1073741824):VF Tryz.prog G fw [.agg [.p (fdL l)]] (.p (.int .i64 (aJ l))):=by
 have hll:=fQ l
 have hfl:∀l,fdL l= .lst 3 (l.map Fd.cs):=λ_=>rfl
 rw[FN]
 refine AC.goK pU rg ?_
 simp-implicitDefEqProofs[fI,fD]
 refine(lE G hK hS l hl).use ?_
 by_cases hv:aY l=true
 case neg=>
  have hv':aY l=false:=by simpa using hv
  simp-implicitDefEqProofs[hv']
 rw[if_pos hv]
 simp-implicitDefEqProofs[hv,hfl]
 refine aO (λi:Nat=>ah 73 [(1,.ptr 0 1 0 0),(3,.ptr 1 3 0 0),(18,.p (fdL l)),(19,.p (.int .i64 l.length)),(20,.p (.int .i64 i))])
  (λi=>[.row 1 [[.p (fdL l)]],cO l (i-1) (lq l 0 (l.take i) 0)]) (λi=>i<=l.length) (λi=>l.length-i) 0 (by simp) ?_ ?_
 ·refine ae (h:=[.row 1 [[.p (fdL l)]],cO l 0 0]) (by simp) (by simp[okO,below,cO]) (by simp[below,hfl])
 intro i hi
 have hbo:okO 0 (.row 1 [[.p (fdL l)]]):=by simp[okO]
 simp-implicitDefEqProofs[hfl]
 refine be (λh=>?_) (λh=>?_)
 ·simp at h
  have hg:=UW h
  have hks:=cK (Vl h)
  have eT:=Gy (fns:=l) (c:=0) h
  obtain⟨j,ej,ejl⟩:=BQ hg
  generalize l[i]=f at*
  have hcs:f.cs=[.str f.name,aw f.params,smL f.body]:=rfl
  have hfz:f.sz=1+f.name.length+(f.params.length+(f.params.map List.length).sum)+aC f.body:=rfl
  have hst:aw f.params= .lst 1 (f.params.map λw=>[.str w]):=rfl
  generalize lq l 0 (l.take i) 0=c0 at eT⊢
  simp-implicitDefEqProofs[hg,hcs,cO]
  have hic:icF l i f c0=(iC l i f.body (jp f.params [] (if j<i then fl c0 2 else c0)).1 [] (jp f.params [] (if j<i then fl c0 2 else c0)).2).2:=by
   rw[icF,ej];simp
  rw[hic] at eT
  clear hic
  refine mB (ah 73 [(1,.ptr 0 1 0 0),(3,.ptr 1 3 0 0),(4,.p (.int .i64 i)),(5,.ptr 2 3 0 0),(18,.p (fdL l)),(19,.p (.int .i64 l.length)),(20,.p (.int .i64 i))])
   [.row 1 [[.p (fdL l)]],cO l i (if j<i then fl c0 2 else c0),.row 3 [[.p (.str f.name),.p (aw f.params),.p (smL f.body)]]] ?_ ?_
  ·simp-implicitDefEqProofs[]
   refine(Fs G l f.name (by omega)).use ?_
   rw[ej]
   by_cases hj:j<i
   ·have hj':(j:Int)<(i:Int):=by omega
    rw[if_pos hj]
    simp-implicitDefEqProofs[ixI,hj']
    refine(Cw G (.row 1 [[.p (fdL l)]]) l i c0 2 [.row 3 [[.p (.str f.name),.p (aw f.params),.p (smL f.body)]]]).mono ?_
    rintro r h ⟨rfl,rfl⟩
    simp-implicitDefEqProofs[aa]
    exact ae (by simp) (by simp[okO,below,cO]) (by simp[below,hfl])
   ·have hj':¬(j:Int)<(i:Int):=by omega
    rw[if_neg hj]
    simp-implicitDefEqProofs[ixI,hj']
    exact ae (h:=[.row 1 [[.p (fdL l)]],cO l i c0,.row 3 [[.p (.str f.name),.p (aw f.params),.p (smL f.body)]]]) (by simp) (by simp[okO,below,cO]) (by simp[below,hfl])
  generalize (if j<i then fl c0 2 else c0)=c1 at eT⊢
  have hCH:∀(c:Int) (m:Scp),CH (.row 1 [[.p (fdL l)]]) l i c [⟨[.row 3 [[.p (.str f.name),.p (aw f.params),.p (smL f.body)]]],m⟩]=[.row 1 [[.p (fdL l)]],cO l i c,.row 3 [[.p (.str f.name),.p (aw f.params),.p (smL f.body)]],.mp (mpE m),.row 2 [[.mp 3,.nilp]]]:=λ_ _=>rfl
  simp-implicitDefEqProofs[]
  refine(yS G .nilp (.inl rfl) _).mono ?_
  rintro r h ⟨rfl,rfl⟩
  simp-implicitDefEqProofs[aa,hst]
  refine aO (λq:Nat=>ah 73 [(1,.ptr 0 1 0 0),(3,.ptr 1 3 0 0),(4,.p (.int .i64 i)),(5,.ptr 2 3 0 0),(6,.ptr 4 2 0 0),(18,.p (fdL l)),(19,.p (.int .i64 l.length)),(20,.p (.int .i64 i)),(39,.p (aw f.params)),(40,.p (.int .i64 f.params.length)),(41,.p (.int .i64 q))])
   (λq=>[.row 1 [[.p (fdL l)]],cO l i (jp (f.params.take q) [] c1).2,.row 3 [[.p (.str f.name),.p (aw f.params),.p (smL f.body)]],.mp (mpE (jp (f.params.take q) [] c1).1),.row 2 [[.mp 3,.nilp]]])
   (λq=>q<=f.params.length) (λq=>f.params.length-q) 0 (by simp) ?_ ?_
  ·exact ae (h:=[.row 1 [[.p (fdL l)]],cO l i c1,.row 3 [[.p (.str f.name),.p (aw f.params),.p (smL f.body)]],.mp [],.row 2 [[.mp 3,.nilp]]]) (by simp) (by simp[okO,below,cO]) (by simp[below,hfl,hst])
  intro q hq
  have eP:=λh=>IX (l:=f.params) (i:=q) (m:=[]) (c:=c1) h
  generalize hP:jp (f.params.take q) [] c1=st at eP⊢
  obtain⟨mq,cq⟩:=st
  simp only at eP⊢
  simp-implicitDefEqProofs[hst]
  refine be (λhc=>?_) (λhc=>?_)
  ·simp at hc
   have hga:=UW hc
   have eP:=eP hc
   generalize f.params[q]=nme at hga eP
   have hmg:=tY nme mq
   have hms:gX (.str nme) (.p (.int .i64 0)) (mpE mq)=some (mpE (gy mq nme 0)):=by simpa using Ae nme 0 mq
   have fin:∀(r1:List (Nat × AV)) (c2:Int),Aw.look r1 1= .ptr 0 1 0 0->Aw.look r1 3= .ptr 1 3 0 0->Aw.look r1 4= .p (.int .i64 i)->Aw.look r1 5= .ptr 2 3 0 0->Aw.look r1 6= .ptr 4 2 0 0->Aw.look r1 18= .p (fdL l)->Aw.look r1 19= .p (.int .i64 l.length)->Aw.look r1 20= .p (.int .i64 i)->Aw.look r1 39= .p (aw f.params)->Aw.look r1 40= .p (.int .i64 f.params.length)->Aw.look r1 41= .p (.int .i64 ((q:Int)+1))->
    Wk 0 (ah 73 r1) [.row 1 [[.p (fdL l)]],cO l i c2,.row 3 [[.p (.str f.name),.p (aw f.params),.p (smL f.body)]],.mp (mpE (gy mq nme 0)),.row 2 [[.mp 3,.nilp]]]
     (ah 73 [(1,.ptr 0 1 0 0),(3,.ptr 1 3 0 0),(4,.p (.int .i64 i)),(5,.ptr 2 3 0 0),(6,.ptr 4 2 0 0),(18,.p (fdL l)),(19,.p (.int .i64 l.length)),(20,.p (.int .i64 i)),(39,.p (aw f.params)),(40,.p (.int .i64 f.params.length)),(41,.p (.int .i64 ((q:Int)+1)))])
     [.row 1 [[.p (fdL l)]],cO l i c2,.row 3 [[.p (.str f.name),.p (aw f.params),.p (smL f.body)]],.mp (mpE (gy mq nme 0)),.row 2 [[.mp 3,.nilp]]]:=by
    intro r1 c2 e1 e3 e4 e5 e6 e18 e19 e20 e39 e40 e41
    refine ae (by simp) (aj (by simp[okO]) (aj (by simp[okO,cO]) (aj (by simp[okO]) (aj (Fc _ _) (aj (by simp[okO,below]) fW))))) ?_
    simp[below,e1,e3,e4,e5,e6,e18,e19,e20,e39,e40,e41]
   cases hh:dW mq nme with
   |none=>
    rw[hh] at hmg eP
    simp-implicitDefEqProofs[hga,hmg,hms]
    refine⟨q+1,by omega,by omega,?_⟩
    rw[eP]
    exact fin _ _ (by simp) (by simp) (by simp) (by simp) (by simp) (by simp[hfl]) (by simp) (by simp) (by simp[hst]) (by simp) (by simp[w1 (i:=q) (by omega)])
   |some n=>
    rw[hh] at hmg eP
    simp-implicitDefEqProofs[hga,hmg,hms]
    refine(Cw G (.row 1 [[.p (fdL l)]]) l i cq 2 _).mono ?_
    rintro r h ⟨rfl,rfl⟩
    simp-implicitDefEqProofs[aa,hms]
    refine⟨q+1,by omega,by omega,?_⟩
    rw[eP]
    exact fin _ _ (by simp) (by simp) (by simp) (by simp) (by simp) (by simp[hfl]) (by simp) (by simp) (by simp[hst]) (by simp) (by simp[w1 (i:=q) (by omega)])
  ·simp at hc
   have hqe:q=f.params.length:=by omega
   subst hqe
   rw[List.take_length] at hP
   rw[hP] at eT
   simp only at eT
   have hB:=On G (.row 1 [[.p (fdL l)]]) (fns:=l) (k:=i) (by omega) (by omega) hbo (aC f.body+1) f.body (by omega) (by omega) [.row 3 [[.p (.str f.name),.p (aw f.params),.p (smL f.body)]]] mq [] cq ⟨by simp[okO],trivial⟩
   rw[hCH] at hB
   simp-implicitDefEqProofs[]
   refine hB.mono ?_
   rintro r h ⟨rfl,rfl⟩
   simp-implicitDefEqProofs[aa]
   refine⟨i+1,by omega,by omega,?_⟩
   rw[eT]
   refine gI (m:=2) (by omega) (dF rfl rfl (by simp[okO,below,cO])) (by simp[below,hfl,w1 (i:=i) (by omega)])
 ·simp at h
  have hie:i=l.length:=by omega
  subst hie
  rw[List.take_length]
  simp-implicitDefEqProofs[cO]
end
section
variable (G:al)
theorem LH(l:List Fd)(hz:aH l<=1073741824):VF Tryz.prog G mG [.agg [.p (fdL l)]] (.p (.bool (decide (aJ l=0)))):=by
 refine AC.go Bx ?_
 simp-implicitDefEqProofs[rH]
 refine(Aj G l hz).use ?_
 simp-implicitDefEqProofs[]
variable (hK:G fy=some eF) (hS:G cL=some [.tbl opK opV])
include hK hS
theorem Ps(l:List Fd)(hz:aH l<=1073741824):VF Tryz.prog G oD [.agg [.p (fdL l)]] (.p (.bool (decide (aJ l=0)))):=by
 refine AC.go Ep ?_
 simp-implicitDefEqProofs[vQ]
 refine(yU G hK hS l hz).use ?_
 simp-implicitDefEqProofs[]
end
section
structure HV (σ:Type) where
 F:FuncId
 caps:List AV
 n:Nat
 Inv:σ->Nat->List AO->Prop
 capsOk:af n caps
 len:∀{st id h},Inv st id h->n<=h.length/\id<h.length
 frame:∀{st id h h'},Inv st id h->(∀i,i<h.length->i<n\/i=id->h'[i]?=h[i]?)->Inv st id h'
def HV.Left{σ:Type}(V:HV σ)(id:Nat)(h:List AO)(st':σ)(h':List AO):Prop:=
 ∃id',V.Inv st' id' h'/\h.length<=h'.length/\(∀i,i<h.length->V.n<=i->i≠id->h'[i]?=h[i]?)/\(id'=id\/h.length<=id')
theorem HV.more{σ:Type}(V:HV σ){st:σ}{id:Nat}{h:List AO}(H:V.Inv st id h)(os:List AO):V.Inv st id (h++os):=
 V.frame H λi hi _=>UU hi
theorem HV.Left.trans{σ:Type}{V:HV σ}{id id1:Nat}{h h1 h2:List AO}{st2:σ}(hl:h.length<=h1.length)(hk:∀i,i<h.length->V.n<=i->i≠id->h1[i]?=h[i]?)(hi:id1=id\/h.length<=id1)(L:V.Left id1 h1 st2 h2):V.Left id h st2 h2:=by
 obtain⟨id2,a1,a2,a3,a4⟩:=L
 refine⟨id2,a1,by omega,λi h1 h2 h3=>?_,?_⟩
 ·rw[a3 i (by omega) h2 (by rcases hi with e|e<;>omega),hk i h1 h2 h3]
 ·rcases a4 with e|e
  ·rw[e];exact hi
  ·right;omega
variable (G:al)
def Sm.own(s:Sm):Nat:=1+s.name.length+br s.args
end
section
abbrev Wds:=List (List UInt8)
mutual
def nmE(op:Int):Ex->Wds->Wds
 | .mk o _ s ks,out=>Mh op ks (if o=op/\s∉out then out++[s] else out)
def Mh(op:Int):List Ex->Wds->Wds
 |[],out=>out
 |e::r,out=>Mh op r (nmE op e out)
end
variable (G:al)
end
section
def dt(d:Nat)(bd:List Sm):List Ex:=(bJ d bd).flatMap λx=>dr x.1.args
mutual
theorem MX(op:Int)(s:List UInt8):∀(e:Ex) (out:Wds),s∈nmE op e out↔s∈out\/∃x∈e.pre,x.op=op/\x.name=s
 | .mk o n t ks,out=>by
   rw[nmE,Ew op s ks,Ex.pre]
   have hh:(s∈if o=op/\t∉out then out++[t] else out)↔s∈out\/(o=op/\t=s):=by
    split
    ·rename_i h
     simp only[Vd,Ve]
     constructor
     ·rintro(h1|h1)
      ·exact .inl h1
      ·exact .inr ⟨h.1,h1.symm⟩
     ·rintro(h1|h1)
      ·exact .inl h1
      ·exact .inr h1.2.symm
    ·rename_i h
     constructor
     ·exact .inl
     ·rintro(h1|⟨h1,h2⟩)
      ·exact h1
      ·rw[←h2];exact Classical.byContradiction λhn=>h ⟨h1,hn⟩
   rw[hh]
   constructor
   ·rintro((h|⟨h1,h2⟩)|⟨x,h1,h2⟩)
    ·exact .inl h
    ·exact .inr ⟨_,List.mem_cons_self ..,h1,h2⟩
    ·exact .inr ⟨x,VO _ h1,h2⟩
   ·rintro(h|⟨x,h1,h2,h3⟩)
    ·exact .inl (.inl h)
    ·rcases Vf.1 h1 with rfl|h1
     ·exact .inl (.inr ⟨h2,h3⟩)
     ·exact .inr ⟨x,h1,h2,h3⟩
theorem Ew(op:Int)(s:List UInt8):∀(l:List Ex) (out:Wds),s∈Mh op l out↔s∈out\/∃x∈dr l,x.op=op/\x.name=s
 |[],out=>by simp[Mh,dr]
 |e::r,out=>by
  rw[Mh,Ew op s r,MX op s e,dr]
  constructor
  ·rintro((h|⟨x,h1,h2⟩)|⟨x,h1,h2⟩)
   ·exact .inl h
   ·exact .inr ⟨x,List.mem_append_left _ h1,h2⟩
   ·exact .inr ⟨x,List.mem_append_right _ h1,h2⟩
  ·rintro(h|⟨x,h1,h2⟩)
   ·exact .inl (.inl h)
   ·rcases Vd.1 h1 with h1|h1
    ·exact .inl (.inr ⟨x,h1,h2⟩)
    ·exact .inr ⟨x,h1,h2⟩
end
theorem nD(d:Nat)(s:Sm)(r:List Sm):dt d (s::r)=dr s.args++(dt (d+1) s.body++dt (d+1) s.els)++dt d r:=by
 rw[dt,bJ,Sm.pre_eq,List.flatMap_append,List.flatMap_cons,List.flatMap_append];rfl
mutual
theorem Gu{fns:List Fd}{k:Nat}{vs:List LV}:∀(e:Ex) (c:Int),mK fns k vs e c=0->∀x∈e.pre,x.op=13->∃j,bt fns x.name=some j/\j<k
 | .mk o n t ks,c,h,x,hx,hop=>by
   rw[mK] at h
   rw[Ex.pre] at hx
   have h0:=di h
   rcases Vf.1 hx with rfl|hx
   ·have hop':o=13:=hop
    have hz:¬(13:Int)=2:=by omega
    rw[gu,hop',if_neg hz,if_pos rfl,kD] at h0
    show∃j,bt fns t=some j/\j<k
    cases e:bt fns t with
    |none=>rw[e] at h0;simp only[fl] at h0;split at h0<;>omega
    |some j=>
     rw[e] at h0
     simp only[fl] at h0
     refine⟨j,rfl,?_⟩
     by_cases hj:k<=j
     ·rw[if_pos hj] at h0;split at h0<;>omega
     ·omega
   ·exact oe ks _ h x hx hop
theorem oe{fns:List Fd}{k:Nat}{vs:List LV}:∀(l:List Ex) (c:Int),bj fns k vs l c=0->∀x∈dr l,x.op=13->∃j,bt fns x.name=some j/\j<k
 |[],c,h,x,hx,_=>by simp[dr] at hx
 |e::r,c,h,x,hx,hop=>by
  rw[bj] at h
  rw[dr] at hx
  rcases Vd.1 hx with hx|hx
  ·exact Gu e _ (di h) x hx hop
  ·exact oe r _ h x hx hop
end
mutual
theorem IU{fns:List Fd}{k:Nat}:∀(s:Sm) (b d:Nat) (w:WS),(stW fns k b s w).code=0->∀x∈dr s.args++(dt (d+1) s.body++dt (d+1) s.els),x.op=13->∃j,bt fns x.name=some j/\j<k
 | .mk o n a bd el,b,d,w,h,x,hx,hop=>by
   rw[stW] at h
   rw[cF] at h
   have h1:=bN h
   rw[cF] at h1
   have h2:=bN h1
   have h3:=tH h2
   simp only[Sm.args,Sm.body,Sm.els,Vd] at hx
   rcases hx with hx|hx|hx
   ·exact oe a _ h3 x hx hop
   ·exact nC bd _ (d+1) _ h1 x hx hop
   ·exact nC el _ (d+1) _ h x hx hop
theorem nC{fns:List Fd}{k:Nat}:∀(l:List Sm) (b d:Nat) (w:WS),(bv fns k b l w).code=0->∀x∈dt d l,x.op=13->∃j,bt fns x.name=some j/\j<k
 |[],b,d,w,h,x,hx,_=>by simp[dt,bJ] at hx
 |s::r,b,d,w,h,x,hx,hop=>by
  rw[bv] at h
  rw[nD] at hx
  rcases Vd.1 hx with hx|hx
  ·exact IU s b d _ (bN h) x hx hop
  ·exact nC r b d _ h x hx hop
end
theorem BC{vs:List LV}{s:List UInt8}{b:Nat}{c:Int}(h:nZ vs s b c=0):c=0:=by
 unfold nZ at h
 split at h
 ·exact h
 ·split at h
  ·unfold fl at h;split at h<;>omega
  ·exact h
theorem sy:∀{ps:List (List UInt8)} {w:WS},(bz ps w).code=0->w.code=0
 |[],w,h=>h
 |s::r,w,h=>BC (sy (ps:=r) (w:=gn w s 0) h)
theorem Im{fns:List Fd}{k:Nat}{f:Fd}(h:(fnW fns k f).code=0):(∀x∈dt 1 f.body,x.op=13->∃j,bt fns x.name=some j/\j<k)/\bt fns f.name=some k:=by
 rw[fnW] at h
 refine⟨nC _ _ 1 _ h,?_⟩
 have h1:(if bt fns f.name=some k then(0:Int) else 2)=0:=sy (bN h)
 split at h1
 ·assumption
 ·omega
end
section
structure Like (fns fns':List Fd):Prop where
 at_:∀s,bt fns' s=bt fns s
 par:∀j,tC fns' j=tC fns j
theorem GE{w:WS}{s:List UInt8}{b:Nat}(h:(gn w s b).code=0):w.code=0:=by
 have h:nZ w.vs s b w.code=0:=h
 unfold nZ at h
 split at h
 ·exact h
 ·split at h
  ·unfold fl at h
   split at h
   ·assumption
   ·exact h
  ·exact h
theorem vR:∀{ps:List (List UInt8)} {w:WS},(bz ps w).code=0->w.code=0
 |[],w,h=>h
 |s::r,w,h=>GE (vR (ps:=r) (w:=gn w s 0) h)
theorem Qo{fns:List Fd}{k:Nat}{f:Fd}(hz:(fnW fns k f).code=0):bt fns f.name=some k:=by
 rw[fnW] at hz
 have h1:=vR (bN hz)
 by_cases h:bt fns f.name=some k
 ·exact h
 ·rw[if_neg h] at h1;cases h1
end
section
theorem GT:∀{a b:Nat},a<26->b<26->vnm a=vnm b->a=b:=by
 have key:∀a b:Fin 26,vnm a.val=vnm b.val->a=b:=by decide
 intro a b ha hb h
 exact congrArg Fin.val (key ⟨a,ha⟩ ⟨b,hb⟩ h)
structure NOk (w:WS):Prop where
 down:w.vs.Pairwise (λa b=>b.num<a.num)
 lt:∀v∈w.vs,v.num<w.count
theorem NOk.put{w:WS}(h:NOk w)(s:List UInt8)(b:Nat):NOk (gn w s b):=by
 refine⟨List.pairwise_cons.2 ⟨λv hv=>h.lt v hv,h.down⟩,λv hv=>?_⟩
 rcases Vf.1 hv with rfl|hv
 ·exact Nat.lt_succ_self _
 ·exact Nat.lt_succ_of_lt (h.lt v hv)
end
section
structure IN5 (e:List LV) (m m':Sc5):Prop where
 old:m.map (·.1)=e.reverse.map LV.name
 new:m'.map (·.1)=e.reverse.map λx=>vnm x.num
 val:m'.map (·.2)=m.map (·.2)
 uniq:m.Pairwise λa b=>a.1≠b.1
inductive RE5:List (List LV)->List Sc5->List Sc5->Prop where
 |nil:RE5 [] [] []
 |cons {e m m' es v v'}:IN5 e m m'->RE5 es v v'->RE5 (e::es) (m::v) (m'::v')
def Nm(vs:List LV):Prop:=vs.Pairwise (λa b=>b.num<a.num)/\∀x∈vs,x.num<26
theorem tt:∀{m:Sc5} {i:Nat} {s:List UInt8} {n:Int},m.Pairwise (λa b=>a.1≠b.1)->m[i]?=some (s,n)->bQ m s=some n
 |x::r,0,s,n,_,h=>by
  simp at h;subst h;simp[bQ]
 |x::r,i+1,s,n,hp,h=>by
  obtain⟨h1,h2⟩:=List.pairwise_cons.1 hp
  have hm:=UZ (show r[i]?=some (s,n) by simpa using h)
  have hne:x.1≠s:=h1 _ hm
  rw[bQ,if_neg hne]
  exact tt h2 (by simpa using h)
theorem Dp{m:Sc5}{s:List UInt8}(h:s∉m.map (·.1)):bQ m s=none:=by
 induction m with
 |nil=>rfl
 |cons x r ih=>
  simp only[Vt,Vf,not_or] at h
  rw[bQ,if_neg (λe=>h.1 e.symm)]
  exact ih h.2
theorem Kf{m:Sc5}{s:List UInt8}(h:s∈m.map (·.1)):(bQ m s).isSome=true:=by
 induction m with
 |nil=>cases h
 |cons x r ih=>
  rw[bQ]
  by_cases e:x.1=s
  ·rw[if_pos e];rfl
  ·rw[if_neg e]
   rcases Vf.1 h with h|h
   ·exact(e h.symm).elim
   ·exact ih h
theorem Di:∀{m:Sc5} {i:Nat} {s:List UInt8} {n q:Int},m.Pairwise (λa b=>a.1≠b.1)->m[i]?=some (s,n)->sset m s q=m.set i (s,q)
 |x::r,0,s,n,q,_,h=>by
  simp at h;subst h;simp[sset]
 |x::r,i+1,s,n,q,hp,h=>by
  obtain⟨h1,h2⟩:=List.pairwise_cons.1 hp
  have hm:=UZ (show r[i]?=some (s,n) by simpa using h)
  have hne:x.1≠s:=h1 _ hm
  rw[sset,if_neg hne,Di h2 (by simpa using h)];rfl
theorem Nm.sub{a b:List LV}(h:Nm (a++b)):Nm a/\Nm b/\∀x∈a,∀y∈b,y.num<x.num:=by
 obtain⟨h1,h2⟩:=h
 obtain⟨k1,k2,k3⟩:=List.pairwise_append.1 h1
 exact⟨⟨k1,λx hx=>h2 x (List.mem_append_left _ hx)⟩,⟨k2,λx hx=>h2 x (List.mem_append_right _ hx)⟩,k3⟩
theorem IN5.here{e:List LV}{m m':Sc5}(H:IN5 e m m')(hn:Nm e){x:LV}(hx:x∈e):∃(i:Nat) (n:Int),m[i]?=some (x.name,n)/\m'[i]?=some (vnm x.num,n)/\m'.Pairwise (λa b=>a.1≠b.1):=by
 obtain⟨i,hi,hix⟩:=List.mem_iff_getElem.1 (List.mem_reverse.2 hx)
 have g1:(m.map (·.1))[i]?=some x.name:=by rw[H.old,Vg,UW hi,hix];rfl
 have g2:(m'.map (·.1))[i]?=some (vnm x.num):=by rw[H.new,Vg,UW hi,hix];rfl
 rw[Vg,UX] at g1 g2
 obtain⟨p,p1,p2⟩:=g1
 obtain⟨q,q1,q2⟩:=g2
 have hv:(m'.map (·.2))[i]?=(m.map (·.2))[i]?:=by rw[H.val]
 rw[Vg,Vg,p1,q1] at hv
 simp only[Option.map_some,Option.some.injEq] at hv
 refine⟨i,p.2,by rw[p1,←p2],by rw[q1,←q2,←hv],?_⟩
 have hu:(e.reverse.map λx=>vnm x.num).Pairwise (· ≠ ·):=by
  rw[List.pairwise_map,List.pairwise_reverse]
  refine List.Pairwise.imp_of_mem (λ{a b} ha hb hab e=>?_) hn.1
  have:=GT (hn.2 b hb) (hn.2 a ha) e
  omega
 rw[←H.new,List.pairwise_map] at hu
 exact hu
theorem IN5.away{e:List LV}{m m':Sc5}(H:IN5 e m m'){s:List UInt8}(hs:∀x∈e,x.name≠s):bQ m s=none:=by
 refine Dp ?_
 rw[H.old]
 intro h
 obtain⟨x,hx,rfl⟩:=Vq.1 h
 exact hs x (List.mem_reverse.1 hx) rfl
theorem IN5.away'{e:List LV}{m m':Sc5}(H:IN5 e m m'){n:Nat}(hn:n<26)(h26:∀x∈e,x.num<26)(hs:∀x∈e,x.num≠n):bQ m' (vnm n)=none:=by
 refine Dp ?_
 rw[H.new]
 intro h
 obtain⟨x,hx,e⟩:=Vq.1 h
 have hx:=List.mem_reverse.1 hx
 exact hs x hx (GT (h26 x hx) hn e)
theorem pF{e:List LV}{s:List UInt8}{x:LV}(h:lkV e s=some x):x∈e/\x.name=s:=⟨yI h,by
 have:=List.find?_some h
 exact of_decide_eq_true this⟩
theorem RE5.get:∀{es:List (List LV)} {v v':List Sc5},RE5 es v v'->Nm es.flatten->∀{s:List UInt8} {x:LV},lkV es.flatten s=some x->ig v' (vnm x.num)=ig v s
 |_,_,_,.nil,_,s,x,h=>by cases h
 |_,_,_,.cons (e:=e) (m:=m) (m':=m') (es:=es) (v:=v) (v':=v') H R,hn,s,x,h=>by
  rw[VQ] at hn h
  obtain⟨n1,n2,n3⟩:=hn.sub
  rw[yF] at h
  cases he:lkV e s with
  |some y=>
   rw[he] at h;cases h
   obtain⟨y1,y2⟩:=pF he
   obtain⟨i,n,g1,g2,g3⟩:=H.here n1 y1
   rw[y2] at g1
   rw[ig,ig,tt H.uniq g1,tt g3 g2]
  |none=>
   rw[he] at h
   obtain⟨x1,x2⟩:=pF h
   have ha:bQ m s=none:=H.away λy hy e=>by
    rw[lkV,List.find?_eq_none] at he
    exact he y hy (by simp[e])
   have hb:bQ m' (vnm x.num)=none:=H.away' (n2.2 x x1) n1.2 λy hy e=>by have:=n3 y hy x x1;omega
   rw[ig,ig,ha,hb]
   exact R.get n2 h
theorem IN5.set{e:List LV}{m m':Sc5}(H:IN5 e m m'){i:Nat}{s t:List UInt8}{n q:Int}(h1:m[i]?=some (s,n))(h2:m'[i]?=some (t,n)):IN5 e (m.set i (s,q)) (m'.set i (t,q)):=by
 have k1:(m.set i (s,q)).map (·.1)=m.map (·.1):=by
  rw[List.map_set]
  refine List.ext_getElem? λj=>?_
  rw[List.getElem?_set]
  split
  ·rename_i e;subst e
   rw[Vg,h1]
   have:=(US.1 h1).1
   simp[this]
  ·rfl
 have k2:(m'.set i (t,q)).map (·.1)=m'.map (·.1):=by
  rw[List.map_set]
  refine List.ext_getElem? λj=>?_
  rw[List.getElem?_set]
  split
  ·rename_i e;subst e
   rw[Vg,h2]
   have:=(US.1 h2).1
   simp[this]
  ·rfl
 refine⟨by rw[k1];exact H.old,by rw[k2];exact H.new,by rw[List.map_set,List.map_set,H.val],?_⟩
 have:((m.set i (s,q)).map (·.1)).Pairwise (· ≠ ·):=by rw[k1,List.pairwise_map];exact H.uniq
 rwa[List.pairwise_map] at this
theorem RE5.set:∀{es:List (List LV)} {v v':List Sc5},RE5 es v v'->Nm es.flatten->∀{s:List UInt8} {x:LV} (q:Int),lkV es.flatten s=some x->RE5 es (io v s q) (io v' (vnm x.num) q)
 |_,_,_,.nil,_,s,x,q,h=>by cases h
 |_,_,_,.cons (e:=e) (m:=m) (m':=m') (es:=es) (v:=v) (v':=v') H R,hn,s,x,q,h=>by
  rw[VQ] at hn h
  obtain⟨n1,n2,n3⟩:=hn.sub
  rw[yF] at h
  cases he:lkV e s with
  |some y=>
   rw[he] at h;cases h
   obtain⟨y1,y2⟩:=pF he
   obtain⟨i,n,g1,g2,g3⟩:=H.here n1 y1
   rw[y2] at g1
   have s1:=tt H.uniq g1
   have s2:=tt g3 g2
   rw[io,io,s1,s2]
   simp only[Option.isSome_some,if_true]
   rw[Di H.uniq g1,Di g3 g2]
   exact .cons (H.set g1 g2) R
  |none=>
   rw[he] at h
   obtain⟨x1,x2⟩:=pF h
   have ha:bQ m s=none:=H.away λy hy e=>by
    rw[lkV,List.find?_eq_none] at he
    exact he y hy (by simp[e])
   have hb:bQ m' (vnm x.num)=none:=H.away' (n2.2 x x1) n1.2 λy hy e=>by have:=n3 y hy x x1;omega
   rw[io,io,ha,hb]
   exact .cons H (R.set n2 q h)
theorem RE5.add{e:List LV}{es:List (List LV)}{m m':Sc5}{v v':List Sc5}(R:RE5 (e::es) (m::v) (m'::v')){s:List UInt8}{n b:Nat}(q:Int)(hs:bQ m s=none):RE5 ((⟨s,n,b⟩::e)::es) ((m++[(s,q)])::v) ((m'++[(vnm n,q)])::v'):=by
 cases R with
 |cons H R=>
  refine .cons ⟨by simp[H.old],by simp[H.new],by simp[H.val],?_⟩ R
  rw[List.pairwise_append]
  refine⟨H.uniq,by simp,λa ha c hc=>?_⟩
  rw[Ve.1 hc]
  intro e
  have:=Kf (m:=m) (s:=s) (Vq.2 ⟨a,ha,e⟩)
  rw[hs] at this;cases this
end
section
theorem RE5.opn{es:List (List LV)}{v v':List Sc5}(R:RE5 es v v'):RE5 ([]::es) ([]::v) ([]::v'):= .cons ⟨rfl,rfl,rfl,.nil⟩ R
theorem RE5.tail{e:List LV}{es:List (List LV)}{m m':Sc5}{v v':List Sc5}(R:RE5 (e::es) (m::v) (m'::v')):RE5 es v v':=by
 cases R with|cons _ R=>exact R
theorem RE5.split{e:List LV}{es:List (List LV)}{m:Sc5}{v w':List Sc5}(R:RE5 (e::es) (m::v) w'):∃m' v',w'=m'::v'/\RE5 es v v':=by
 cases R with|cons _ R=>exact⟨_,_,rfl,R⟩
end
section
theorem Hu:∀(ps:List (List UInt8)) (w:WS),(bz ps w).vs.reverse.map LV.name=w.vs.reverse.map LV.name++ps/\((bz ps w).vs.reverse.map λx=>vnm x.num)=(w.vs.reverse.map λx=>vnm x.num)++nz ps w
 |[],w=>by simp[bz,nz]
 |s::r,w=>by
  obtain⟨h1,h2⟩:=Hu r (gn w s 0)
  have e:bz (s::r) w=bz r (gn w s 0):=rfl
  rw[e,h1,h2,nz]
  simp[gn]
theorem BJ:∀(ps:List (List UInt8)) (w:WS),(∀x∈w.vs,x.block=0)->(bz ps w).code=0->(w.vs.map LV.name).Pairwise (· ≠ ·)->((bz ps w).vs.map LV.name).Pairwise (· ≠ ·)
 |[],w,_,_,h=>h
 |s::r,w,hb,hz,h=>by
  have hz':(bz r (gn w s 0)).code=0:=hz
  have hp:=sy hz'
  have hp':nZ w.vs s 0 w.code=0:=hp
  refine BJ r (gn w s 0) (λx hx=>?_) hz' (List.pairwise_cons.2 ⟨λt ht=>?_,h⟩)
  ·rcases Vf.1 hx with rfl|hx
   ·rfl
   ·exact hb x hx
  ·obtain⟨x,hx,rfl⟩:=Vq.1 ht
   intro e
   have hc:=BC hp'
   rw[nZ] at hp'
   cases hl:lkV w.vs s with
   |none=>
    rw[lkV,List.find?_eq_none] at hl
    exact hl x hx (by simp[←e])
   |some y=>
    rw[hl] at hp'
    have:=hb y (yI hl)
    simp only[this,if_true,fl,hc] at hp'
    simp at hp'
theorem Hm{α β:Type}:∀(a:List α) (b:List β),a.length=b.length->(a.zip b).map (·.1)=a/\(a.zip b).map (·.2)=b
 |[],[],_=>⟨rfl,rfl⟩
 |x::r,y::t,h=>by
  obtain⟨h1,h2⟩:=Hm r t (by simpa using h)
  simp[h1,h2]
 |[],_::_,h=>by simp at h
 |_::_,[],h=>by simp at h
end
section
def DE(n:Int):Sm:= .mk 3 [] [.mk 1 n [] []] [] []
def Fd.sayF(f:Fd)(n:Int):Fd:=⟨f.name,f.params,DE n::f.body⟩
theorem Nq{l l':List Fd}{K F:Nat}{us:List Int}{s':S5}{r:O5 Int}{f:Fd}(h:Ev l (.cal K us (s0 F) s' r))(hf:l[K]?=some f)(hf':l'[K]?=some (f.sayF 77))(hA:∀j,j<K->l'[j]?=l[j]?)(hN:∀s j,bt l s=some j->bt l' s=some j):
 Ev l' (.cal K us (s0 (F+1)) (s'.pre [77]) r):=by
 cases h with
 | @cal _ g _ _ v' _ q h1 h2 d=>
   rw[hf] at h1;cases h1
   have d':Ev l' (.blk K [f.params.zip us] ((s0 F).pre [77]) f.body v' (s'.pre [77]) q):=Sg hA hN [77] d (Vi _)
   refine .cal hf' h2 (.bgo (F:=F) rfl (.ssay rfl rfl (.num rfl ⟨?_,?_⟩)) d')
   ·show(0:Int)<=77;omega
   ·show(77:Int)<=255;omega
theorem nL{l:List Fd}(hc:aJ l=0){k:Nat}{f:Fd}(hf:l[k]?=some f):f.params.Pairwise (· ≠ ·):=by
 have hz:=((tL l).1 hc).2 k f hf
 have hat:=(Im hz).2
 rw[fnW,if_pos hat] at hz
 have hpz:=bN hz
 obtain⟨p1,_⟩:=Hu f.params ⟨[],0,0⟩
 have hu:=BJ f.params ⟨[],0,0⟩ (λx hx=>by cases hx) hpz .nil
 have e:f.params=(bz f.params ⟨[],0,0⟩).vs.reverse.map LV.name:=by rw[p1];rfl
 rw[e,List.map_reverse,List.pairwise_reverse]
 exact hu.imp λh e=>h e.symm
end
section
theorem Un5.tail{m:Sc5}{v:List Sc5}(h:Un5 (m::v)):Un5 v:=λq hq=>h q (by simp[hq])
def UnJ:J5->Prop
 | .stm _ v _ _ v' _ _=>Un5 v->Un5 v'
 | .blk _ v _ _ v' _ _=>Un5 v->Un5 v'
 | .lp _ v _ _ v' _ _=>Un5 v->Un5 v'
 |_=>True
theorem OP{l:List Fd}{j:J5}(h:Ev l j):UnJ j:=by
 induction h with
 |bnil=>exact id
 |bfuel _=>exact id
 |bgo _ _ _ i1 i2=>exact λh=>i2 (i1 h)
 |bend _ _ _ i1=>exact i1
 |argS _ _ _ _=>exact id
 |slet _ _ _ hv hs _=>
  subst hv
  exact λh=>h.let hs
 |sset _ _ _ _ _=>exact λh=>h.of (yQ _ _ _)
 |ssay _ _ _ _=>exact id
 |sput _ _ _ _ _ _ _=>exact id
 |sputC _ _ _ _ _ _ _=>exact id
 |sputS _ _ _ _ _ _=>exact id
 |sif _ _ _ _ _ i2=>exact λh=>(i2 h.opn).tail
 |sloop _ _ i1=>exact i1
 |sback _ _ _ _=>exact id
 |sdo _ _ _ _=>exact id
 |lpS _ _ _=>exact id
 |lp0 _ _ _=>exact id
 |lpEnd _ _ _ _ _ _ i2=>exact λh=>(i2 h.opn).tail
 |lpFuel _ _ _ _ _ _ i2=>exact λh=>(i2 h.opn).tail
 |lpGo _ _ _ _ _ _ _ i2 i3=>exact λh=>i3 (i2 h.opn).tail
 |_=>trivial
theorem uH{ps:List (List UInt8)}{us:List Int}(hp:ps.Pairwise (· ≠ ·))(hl:ps.length=us.length):Un5 [ps.zip us]:=by
 intro m hm
 rw[Ve.1 hm]
 have:nmS (ps.zip us)=ps:=(Hm ps us hl).1
 rw[this];exact hp
end
section
def aN(l:List Fd)(sid cid:Nat)(s:S5)(e:Int)(o:Bool):AO:= .row 7 [[.p (fdL l),.sl sid 1 0 s.said.length,.p (.int .i64 e),.p (.int .i64 0),.sl cid 1 0 16,.p (.int .i64 s.left),.p (.bool o)]]
def bY(nid n:Nat)(uv:AV)(b:Bool)(x:Int):AO:= .row 4 [[.sl nid 1 0 n,uv,.p (.bool b),.p (.int .i64 x)]]
inductive UV (h:List AO):AV->Nat->List Int->Prop where
 |nn (uid:Nat):UV h .nils uid []
 |ss (uid:Nat) (xs t:List Int):h[uid]?=some (bq (xs++t))->UV h (.sl uid 1 0 xs.length) uid xs
theorem UV.frame{h h':List AO}{uv:AV}{uid:Nat}{xs:List Int}(H:UV h uv uid xs)(e:uid<h.length->h'[uid]?=h[uid]?):UV h' uv uid xs:=by
 cases H with
 |nn=>exact .nn _
 |ss _ _ t h1=>exact .ss _ _ t (by rw[e (US.1 h1).1];exact h1)
theorem UV.ne{h:List AO}{uv:AV}{uid:Nat}{xs:List Int}(H:UV h uv uid xs)(hx:0<xs.length):∃t,uv= .sl uid 1 0 xs.length/\h[uid]?=some (bq (xs++t)):=by
 cases H with
 |nn=>simp at hx
 |ss _ _ t h1=>exact⟨t,rfl,h1⟩
theorem UV.cell{h:List AO}{uv:AV}{uid:Nat}{xs:List Int}(H:UV h uv uid xs):uv.isCell=true/\uv.cells=[uv]:=by cases H<;>exact⟨rfl,rfl⟩
structure RI (R cid:Nat) (l:List Fd) (sid:Nat) (s:S5) (e:Int) (o:Bool) (h:List AO):Prop where
 run:h[R]?=some (aN l sid cid s e o)
 said:h[sid]?=some (bq s.said)
 cells:h[cid]?=some (bq s.cells)
 ne:sid≠cid
structure EI (V nid uid:Nat) (uv:AV) (w:Sc5) (b:Bool) (x:Int) (h:List AO):Prop where
 env:h[V]?=some (bY nid w.length uv b x)
 names:∃t,h[nid]?=some (cP (w.map (·.1)++t))
 vals:UV h uv uid (w.map (·.2))
 ne:nid≠uid
 ul:uid<h.length
structure Ap (R V sid cid nid uid:Nat):Prop where
 ns:nid≠sid
 nc:nid≠cid
 us:uid≠sid
 uc:uid≠cid
 uR:uid≠R
 uV:uid≠V
section
variable {R cid:Nat} {l:List Fd} {sid:Nat} {s:S5} {e:Int} {o:Bool} {h h':List AO} {V nid uid:Nat} {uv:AV} {w:Sc5} {b:Bool} {x:Int}
theorem RI.lt(H:RI R cid l sid s e o h):R<h.length/\sid<h.length/\cid<h.length:=⟨(US.1 H.run).1,(US.1 H.said).1,(US.1 H.cells).1⟩
theorem RI.neR(H:RI R cid l sid s e o h):R≠sid/\R≠cid:=by
 refine⟨λe=>?_,λe=>?_⟩
 ·have h1:=H.run;rw[e,H.said] at h1;simp[aN,bq] at h1
 ·have h1:=H.run;rw[e,H.cells] at h1;simp[aN,bq] at h1
theorem RI.frame(H:RI R cid l sid s e o h)(a:h'[R]?=h[R]?)(b:h'[sid]?=h[sid]?)(c:h'[cid]?=h[cid]?):RI R cid l sid s e o h':=⟨a.trans H.run,b.trans H.said,c.trans H.cells,H.ne⟩
theorem RI.more(H:RI R cid l sid s e o h)(os:List AO):RI R cid l sid s e o (h++os):=
 have hl:=H.lt
 H.frame (UU hl.1) (UU hl.2.1) (UU hl.2.2)
theorem EI.lt(H:EI V nid uid uv w b x h):V<h.length/\nid<h.length/\uid<h.length:=by
 obtain⟨t,h1⟩:=H.names
 exact⟨(US.1 H.env).1,(US.1 h1).1,H.ul⟩
theorem EI.neN(H:EI V nid uid uv w b x h):V≠nid:=by
 obtain⟨t,h1⟩:=H.names
 intro e
 have h3:=H.env;rw[e,h1] at h3;simp[bY,cP] at h3
theorem EI.neR(H:EI V nid uid uv w b x h){sid2:Nat}(K:RI R cid l sid2 s e o h):V≠R/\V≠sid2/\V≠cid/\nid≠R:=by
 obtain⟨t,h1⟩:=H.names
 have h3:=H.env
 refine⟨λe=>?_,λe=>?_,λe=>?_,λe=>?_⟩
 ·rw[e,K.run] at h3;simp[bY,aN] at h3
 ·rw[e,K.said] at h3;simp[bY,bq] at h3
 ·rw[e,K.cells] at h3;simp[bY,bq] at h3
 ·rw[e,K.run] at h1;simp[cP,aN] at h1
theorem EI.frame(H:EI V nid uid uv w b x h)(hl:h.length<=h'.length)(a:h'[V]?=h[V]?)(c:h'[nid]?=h[nid]?)(d:h'[uid]?=h[uid]?):EI V nid uid uv w b x h':=by
 obtain⟨t,h1⟩:=H.names
 exact⟨a.trans H.env,⟨t,c.trans h1⟩,H.vals.frame λ_=>d,H.ne,Vr H.ul hl⟩
theorem EI.more(H:EI V nid uid uv w b x h)(os:List AO):EI V nid uid uv w b x (h++os):=
 have hl:=H.lt
 H.frame (by simp) (UU hl.1) (UU hl.2.1) (UU hl.2.2)
theorem EI.keep(H:EI V nid uid uv w b x h)(K:RI R cid l sid s e o h)(A:Ap R V sid cid nid uid)(F:Fr [R,sid,cid] h h'):EI V nid uid uv w b x h':=by
 obtain⟨a1,a2,a3,a4⟩:=H.neR K
 obtain⟨l1,l2,l3⟩:=H.lt
 exact H.frame F.1 (F.2 V l1 (by simp[a1,a2,a3])) (F.2 nid l2 (by simp[a4,A.ns,A.nc])) (F.2 uid l3 (by simp[A.uR,A.us,A.uc]))
theorem Ap.step{sid2:Nat}(H:EI V nid uid uv w b x h)(A:Ap R V sid cid nid uid)(f:sid2=sid\/h.length<=sid2):Ap R V sid2 cid nid uid:=by
 obtain⟨l1,l2,l3⟩:=H.lt
 obtain⟨a,b,c,d,e,f'⟩:=A
 rcases f with rfl|f
 ·exact⟨a,b,c,d,e,f'⟩
 ·exact⟨by omega,b,by omega,d,e,f'⟩
end
def bE{α:Type}:O5 α->Int
 | .ok _=>0
 | .st c=>c
def dk{α:Type}:O5 α->Bool
 | .ok _=>false
 | .st _=>true
def ExL(R cid:Nat)(l:List Fd)(sid:Nat)(h:List AO)(s':S5)(r:O5 Int)(x:ARes)(h':List AO):Prop:=
 ∃(n:Int) (sid':Nat),x= .ret (.p (.int .i64 n))/\V5 n/\(∀m,r= .ok m->n=m)/\RI R cid l sid' s' (bE r) (dk r) h'/\Fr [R,sid,cid] h h'/\(sid'=sid\/h.length<=sid')
def bkB:O5 (Option Int)->Bool
 | .ok (some _)=>true
 |_=>false
def bkV(x0:Int):O5 (Option Int)->Int
 | .ok (some n)=>n
 |_=>x0
def StL(R cid:Nat)(l:List Fd)(V sid nid uid:Nat)(h:List AO)(w:Sc5)(x0:Int)(s':S5)(r:O5 (Option Int))(x:ARes)(h':List AO):Prop:=
 ∃sid' nid' uid' uv',x= .ret (.tup [])/\RI R cid l sid' s' (bE r) (dk r) h'/\EI V nid' uid' uv' w (bkB r) (bkV x0 r) h'/\Ap R V sid' cid nid' uid'/\Fr [R,sid,cid,V,nid,uid] h h'/\(sid'=sid\/h.length<=sid')/\(nid'=nid\/h.length<=nid')/\(uid'=uid\/h.length<=uid')
end
section
def jo(l:List Fd)(fuel:Nat)(sv:AV)(s:S5):AO:= .row 20 [[.p (fdL l),.p (.int .i64 fuel),.p (.int .i64 ((fuel-s.left:Nat):Int)),sv]++s.cells.map λn=> .p (.int .i64 n)]
inductive SaidAt (h:List AO):AV->Nat->List Int->Prop where
 |nn (sid:Nat):sid<h.length->SaidAt h .nils sid []
 |ss (sid:Nat) (xs:List Int):h[sid]?=some (bq xs)->SaidAt h (.sl sid 1 0 xs.length) sid xs
structure MI (M:Nat) (l:List Fd) (fuel:Nat) (sv:AV) (sid:Nat) (s:S5) (h:List AO):Prop where
 men:h[M]?=some (jo l fuel sv s)
 said:SaidAt h sv sid s.said
 le:s.left<=fuel
 fu:fuel<=4000
 len:s.cells.length=16
def mpV(m:Sc5):List (PV × AV):=m.map λx=>(.str x.1,.p (.int .i64 x.2))
inductive Chn (h:List AO):AV->List Sc5->List Nat->Prop where
 |last (e m:Nat) (c:Sc5):h[e]?=some (.row 2 [[.mp m,.nilp]])->h[m]?=some (.mp (mpV c))->Chn h (.ptr e 2 0 0) [c] [e,m]
 |cons (e m:Nat) (c:Sc5) (u:AV) (v:List Sc5) (I:List Nat):h[e]?=some (.row 2 [[.mp m,u]])->h[m]?=some (.mp (mpV c))->Chn h u v I->Chn h (.ptr e 2 0 0) (c::v) (e::m::I)
section
variable {h h':List AO} {u:AV} {v:List Sc5} {I:List Nat}
theorem Chn.frame(H:Chn h u v I)(e:∀i∈I,h'[i]?=h[i]?):Chn h' u v I:=by
 induction H with
 |last a m c h1 h2=>exact .last a m c (by rw[e a (by simp)];exact h1) (by rw[e m (by simp)];exact h2)
 |cons a m c u v I h1 h2 _ ih=>exact .cons a m c u v I (by rw[e a (by simp)];exact h1) (by rw[e m (by simp)];exact h2) (ih λi hi=>e i (by simp[hi]))
theorem Chn.lt(H:Chn h u v I):∀i∈I,i<h.length:=by
 induction H with
 |last a m c h1 h2=>
  intro i hi
  simp only[Vf,Vv,or_false] at hi
  rcases hi with rfl|rfl
  ·exact(US.1 h1).1
  ·exact(US.1 h2).1
 |cons a m c u v I h1 h2 _ ih=>
  intro i hi
  simp only[Vf] at hi
  rcases hi with rfl|rfl|hi
  ·exact(US.1 h1).1
  ·exact(US.1 h2).1
  ·exact ih i hi
theorem Chn.more(H:Chn h u v I)(os:List AO):Chn (h++os) u v I:=H.frame λi hi=>UU (H.lt i hi)
theorem Chn.is(H:Chn h u v I):∃e,u= .ptr e 2 0 0/\e∈I/\e<h.length:=by
 cases H with
 |last a m c h1 h2=>exact⟨a,rfl,by simp,(US.1 h1).1⟩
 |cons a m c u v I h1 h2 _=>exact⟨a,rfl,by simp,(US.1 h1).1⟩
theorem Chn.apart(H:Chn h u v I){i sz:Nat}{es:List (List AV)}(hi:h[i]?=some (.row sz es))(hz:sz≠2):i∉I:=by
 induction H with
 |last a m c h1 h2=>
  simp only[Vf,Vv,or_false,not_or]
  refine⟨λe=>?_,λe=>?_⟩
  ·subst e;rw[h1] at hi;simp only[Option.some.injEq,AO.row.injEq] at hi;exact hz hi.1.symm
  ·subst e;rw[h2] at hi;cases hi
 |cons a m c u v I h1 h2 _ ih=>
  simp only[Vf,not_or]
  refine⟨λe=>?_,λe=>?_,ih⟩
  ·subst e;rw[h1] at hi;simp only[Option.some.injEq,AO.row.injEq] at hi;exact hz hi.1.symm
  ·subst e;rw[h2] at hi;cases hi
theorem Ah(s:List UInt8):∀m:Sc5,fe (.str s) (mpV m)=some ((bQ m s).map λn=>AV.p (.int .i64 n))
 |[]=>rfl
 |x::r=>by
  have ih:=Ah s r
  by_cases h:x.1=s
  ·simp[mpV,fe,keq,h,bQ]
  ·have h':¬s=x.1:=λe=>h e.symm
   simp only[mpV,Vt,fe,keq,h',decide_false]
   simp only[mpV] at ih
   rw[ih];simp[bQ,h]
theorem uk(s:List UInt8)(n:Int):∀m:Sc5,gX (.str s) (.p (.int .i64 n)) (mpV m)=some (mpV (if(bQ m s).isSome then sset m s n else m++[(s,n)]))
 |[]=>rfl
 |x::r=>by
  have ih:=uk s n r
  by_cases h:x.1=s
  ·simp[mpV,gX,keq,h,bQ,sset]
  ·have h':¬s=x.1:=λe=>h e.symm
   simp only[mpV,Vt,gX,keq,h',decide_false]
   simp only[mpV] at ih
   rw[ih,bQ,if_neg h,sset,if_neg h]
   cases (bQ r s).isSome<;>simp
theorem Chn.var(H:Chn h u v I)(nd:I.Nodup){s:List UInt8}{n:Int}(hv:ig v s=some n):
 ∃(e m:Nat) (c:Sc5) (w:AV),h[e]?=some (.row 2 [[.mp m,w]])/\h[m]?=some (.mp (mpV c))/\bQ c s=some n/\m∈I/\∀k,Chn (h.set m (.mp (mpV (sset c s k)))) u (io v s k) I:=by
 induction H with
 |last a m c h1 h2=>
  rw[ig] at hv
  have hm:=(US.1 h2).1
  have hne:m≠a:=λe=>by subst e;rw[h1] at h2;cases h2
  cases hs:bQ c s with
  |none=>rw[hs] at hv;cases hv
  |some k=>
   rw[hs] at hv;cases hv
   refine⟨a,m,c,.nilp,h1,h2,hs,by simp,λq=>?_⟩
   rw[io,hs]
   exact .last a m _ (by rw[UT hne];exact h1) (UY hm)
 |cons a m c u v I h1 h2 H ih=>
  rw[ig] at hv
  have hm:=(US.1 h2).1
  have hne:m≠a:=λe=>by subst e;rw[h1] at h2;cases h2
  simp only[VU,Vf,not_or] at nd
  cases hs:bQ c s with
  |some k=>
   rw[hs] at hv;cases hv
   refine⟨a,m,c,u,h1,h2,hs,by simp,λq=>?_⟩
   rw[io,hs]
   exact .cons a m _ u v I (by rw[UT hne];exact h1) (UY hm) (H.frame λi hi=>UT (show m≠i from λe=>nd.2.1 (e▸hi)))
  |none=>
   rw[hs] at hv
   obtain⟨e',m',c',w,g1,g2,g3,g4,g5⟩:=ih nd.2.2 hv
   refine⟨e',m',c',w,g1,g2,g3,by simp[g4],λq=>?_⟩
   rw[io,hs]
   have n1:m'≠a:=λe=>nd.1.2 (e▸g4)
   have n2:m'≠m:=λe=>nd.2.1 (e▸g4)
   exact .cons a m c u _ I (by rw[UT n1];exact h1) (by rw[UT n2];exact h2) (g5 q)
end
section
variable {M:Nat} {l:List Fd} {fuel:Nat} {sv:AV} {sid:Nat} {s:S5} {h h':List AO}
theorem SaidAt.frame{xs:List Int}(H:SaidAt h sv sid xs)(hl:h.length<=h'.length)(e:sv≠ .nils->h'[sid]?=h[sid]?):SaidAt h' sv sid xs:=by
 cases H with
 |nn _ h1=>exact .nn _ (Vr h1 hl)
 |ss _ _ h1=>exact .ss _ _ (by rw[e (by simp)];exact h1)
theorem SaidAt.lt{xs:List Int}(H:SaidAt h sv sid xs):sid<h.length:=by
 cases H with
 |nn _ h1=>exact h1
 |ss _ _ h1=>exact(US.1 h1).1
theorem MI.lt(H:MI M l fuel sv sid s h):M<h.length:=(US.1 H.men).1
theorem MI.frame(H:MI M l fuel sv sid s h)(hl:h.length<=h'.length)(a:h'[M]?=h[M]?)(b:h'[sid]?=h[sid]?):MI M l fuel sv sid s h':=⟨a.trans H.men,H.said.frame hl λ_=>b,H.le,H.fu,H.len⟩
theorem SaidAt.more{xs:List Int}(H:SaidAt h sv sid xs)(os:List AO):SaidAt (h++os) sv sid xs:=H.frame (by simp) λ_=>UU H.lt
theorem MI.more(H:MI M l fuel sv sid s h)(os:List AO):MI M l fuel sv sid s (h++os):=
 ⟨by rw[UU H.lt];exact H.men,H.said.more os,H.le,H.fu,H.len⟩
theorem SaidAt.cell{xs:List Int}(H:SaidAt h sv sid xs):sv.isCell=true/\sv.cells=[sv]:=by cases H<;>exact⟨rfl,rfl⟩
end
end
end Go.Proofs.YtokiapglmedipaaGreatDoor
namespace Go.Aw
open Go
section
variable {G:al} {W:World} {S:Nat->Prop} {φ:Aw.Place} {h:List AO}
theorem HRel.box_at(H:HRel G W S φ h){id:Nat}{x:Int}(e:h[id]?=some (.row 1 [[.p (.int .i64 x)]])):
 W.cell? ⟨(φ id).1,(φ id).2,none⟩=some (.int .i64 x)/\W.frozen? ⟨(φ id).1,(φ id).2,none⟩=false/\
  ∀c:Int,HRel G (W.setCell ⟨(φ id).1,(φ id).2,none⟩ (.int .i64 c)) S φ (h.set id (.row 1 [[.p (.int .i64 c)]]))/\Keep W S φ h (W.setCell ⟨(φ id).1,(φ id).2,none⟩ (.int .i64 c)) S φ (h.set id (.row 1 [[.p (.int .i64 c)]])):=by
 obtain⟨c0,t0,fr,a1,a2,a3,a4,a5⟩:=H.obj id 1 _ e
 obtain⟨_,v,b1,b2⟩:=a5 0 (.p (.int .i64 x)) rfl
 have hv:=bF b2
 subst hv
 rw[Nat.add_zero] at b1
 have hlt:(φ id).2<c0.size:=(Vu.1 b1).1
 refine⟨by simp only[World.cell?,a1];simpa using b1,?_,λc=>?_⟩
 ·simp only[World.frozen?,a1]
  have:=a2 _ hlt
  simp only[not_and,Nat.not_lt] at this
  by_cases hq:fr.1<=(φ id).2
  ·have:=this hq
   simp[hq];omega
  ·simp[hq]
 ·have B:=rJ (off:=(φ id).2) a1 (.int .i64 c)
  refine H.update e a1 (by simp) B (by simpa using a2) (λq hq=>by rw[Ve.1 hq];rfl) (by simpa using a4) λj u hj=>?_
  cases j with
  |zero=>
   cases hj
   refine⟨rfl,.int .i64 c,?_,.p _ _ (.int _ _)⟩
   rw[Nat.add_zero,Array.getElem?_setIfInBounds_self_of_lt hlt]
  |succ j=>simp at hj
end
theorem JD{P:Program}{ops:Array Oper}{Q:Exit->Act->World->Prop}{o:Oper}{rest:List Oper}{a:Act}{w w':World}{v:Value}(hg:o.guard=none)(hr:(execOp a.eval o).run P w= .halt (.panic v) w')(h:Q (.panic [{v,recovered:=false}]) a w'):wpList P ops Q (o::rest) a w:=by
 simp only[wpList]
 rw[if_pos (by simp[Region.wanted,hg])]
 refine .inl ?_
 unfold Oper.wp
 rw[hr]
 exact h
theorem KU{P:Program}{ops:Array Oper}{Q:Exit->Act->World->Prop}{o:Oper}{rest:List Oper}{a:Act}{w w':World}{d:Deferred}(hg:o.guard=none)(hr:(execOp a.eval o).run P w= .ok (.defer d) w')(h:wpList P ops Q rest ({a with defers:=d::a.defers}.put o.dst undef) w'):wpList P ops Q (o::rest) a w:=by
 simp only[wpList]
 rw[if_pos (by simp[Region.wanted,hg])]
 refine .inl ?_
 unfold Oper.wp
 rw[hr]
 exact h
theorem HZ{P:Program}{ops:Array Oper}{Q:Exit->Act->World->Prop}{o:Oper}{rest:List Oper}{a:Act}{w w':World}(hg:o.guard=none)(hr:(execOp a.eval o).run P w= .ok .skip w')(h:wpList P ops Q rest (a.put o.dst undef) w'):wpList P ops Q (o::rest) a w:=by
 simp only[wpList]
 rw[if_pos (by simp[Region.wanted,hg])]
 refine .inl ?_
 unfold Oper.wp
 rw[hr]
 exact h
theorem Lm{P:Program}{ops:Array Oper}{Q:Exit->Act->World->Prop}{o:Oper}{rest:List Oper}{a:Act}{w w':World}{f:FuncId}{vs:Array Value}{R:Ending->World->Prop}(hg:o.guard=none)(hr:(execOp a.eval o).run P w= .ok (.enter f vs) w')
 (hc:Calls P f vs w' R)(h1:∀v w2,R (.returned v) w2->wpList P ops Q rest (a.put o.dst v) w2)(h2:∀chain w2,R (.panicked chain) w2->Q (.panic chain) a w2)(h3:∀w2,¬R .outgrown w2):wpList P ops Q (o::rest) a w:=by
 simp only[wpList]
 rw[if_pos (by simp[Region.wanted,hg])]
 refine .inl ?_
 unfold Oper.wp
 rw[hr,Oper.upon_enter]
 refine hc.mono λe w2 r=>?_
 cases e with
 |returned v=>exact h1 v w2 r
 |panicked chain=>exact h2 chain w2 r
 |outgrown=>exact(h3 w2 r).elim
theorem sk{P:Program}{f:FuncId}(hc:fM P f=true)(args caps:Array Value)(w:World):(invoke (.fn (.func f) caps) args).run P w= .ok (.enter f (args++caps)) w:=by
 unfold fM at hc
 split at hc
 ·rename_i fn hf
  simp only[Vm,Bool.not_eq_true',beq_eq_false_iff_ne] at hc
  obtain⟨hb,hn⟩:=hc
  obtain⟨c,hb⟩:=Option.isSome_iff_exists.1 hb
  simp[invoke,callFunc,hf,hn,hb]
 ·cases hc
end Go.Aw
namespace Go.Proofs.YtokiapglmedipaaGreatDoor
open Go Go.Aw
set_option maxRecDepth 100000
set_option maxHeartbeats 4000000
section
abbrev bI:TypeId:=179
variable (G:al)
theorem eL{a:Act}{d d':Nat}{v:Value}(h:d≠d'):(a.put (some d) v).eval (.tmp d')=a.eval (.tmp d'):=by simp[Act.eval,Act.put,h]
theorem eK{a:Act}{d:Option Nat}{v:Value}:(a.put d v).tmps.size=a.tmps.size:=by cases d<;>simp[Act.put]
theorem AD{a:Act}{d:Option Nat}{v:Value}:(a.put d v).defers=a.defers:=by cases d<;>rfl
theorem Aa{P:Program}{code:Code}{Q:Exit->Act->World->Prop}{a:Act}{w:World}(T:Act->Prop)(ha:T a)(h:∀a,T a->Code.wp P code Q a w):Code.wp P code Q a w:=h a ha
theorem Qy(v:Value)(w:World):(Instr.typeAssert (.iface bI v) 20 bI true).run Tryz.prog w= .ok (.tuple #[v,.bool true]) w:=by
 have:Tryz.prog.underlying bI=some (.int .i64):=by kernel_rfl
 simp[Instr.typeAssert,run_underlying this]
theorem FX(c:Int)(h:List AO):AC Tryz.prog G lT [.p (.int .i64 c)] h λx h'=>x= .pan bI (.int .i64 c)/\h'=h:=by
 refine AC.enterC Tryz.func212 rfl (rs:=[]) (by kernel_rfl) (by kernel_rfl) λW S φ a hH s0=>?_
 have h0:a.eval (.tmp 0)= .int .i64 c:=by
  have:=s0.trel.get 0 (.p (.int .i64 c)) rfl
  exact bF this
 have hsz:a.tmps.size=4:=s0.trel.size
 refine wp_region_list (db (v:= .int .i64 c) (w':=W) rfl ?_ (db (v:= .iface bI (.int .i64 c)) (w':=W) rfl ?_ (JD (v:= .iface bI (.int .i64 c)) (w':=W) rfl ?_ ?_)))
 ·simp[execOp,h0]
 ·have:((a.put (some 2) (.int .i64 c))).eval (.tmp 2)= .int .i64 c:=cI (by omega)
  simp[execOp,this,Instr.makeInterface]
 ·have:(((a.put (some 2) (.int .i64 c)).put (some 3) (.iface bI (.int .i64 c)))).eval (.tmp 3)= .iface bI (.int .i64 c):=cI (by simp[Act.put];omega)
  simp[execOp,this,Instr.panic]
 ·exact⟨.pan bI (.int .i64 c),_,h,S,φ,⟨rfl,rfl⟩,.pan _ _ _ (.int _ _),(s0.put (some 2) (.p _ _ (.int _ _)) s0.hrel (Keep.refl s0.hrel)).put (some 3) (.any _) s0.hrel (Keep.refl s0.hrel)⟩
theorem Pf(p:Addr)(w:World):
 CallsD Tryz.prog bp #[.pointer (some p)] .returning w λe u' w'=>e= .returned (.tuple #[])/\u'= .returning/\w'=w:=by
 refine callsD_of_wpS Tryz.func157 rfl λc₀ cs hu=>?_
 have hr0:Tryz.f157.results=#[]:=by kernel_rfl
 have hres:∀t,(results Tryz.f157 t).run Tryz.prog w= .ok (.tuple #[]) w:=λt=>by simp[results,hr0]
 apply wpS_seq
 apply wpS_region
 simp[wpOpsS,go_sem,recoverD,hu,Exit.thenS]
 apply wpS_seq
 apply wpS_region
 simp[wpOpsS,go_sem,recoverD,Exit.thenS]
 refine wpS_cond (t:=false) (by simp[Act.eval,Array.replicate]) ?_
 simp only[Bool.false_eq_true,if_false]
 refine wpS_of_wp (wp_skip ?_)
 refine⟨rfl,.returning,?_,_,hres _,rfl,rfl,rfl⟩
 cases c₀
 simp only at hu
 rw[hu]
theorem Qa(p:Addr)(x c:Int)(w:World)(hc:w.cell? p=some (.int .i64 x))(hz:w.frozen? p=false):
 CallsD Tryz.prog bp #[.pointer (some p)] (.panicking [{v:= .iface bI (.int .i64 c),recovered:=false}]) w λe u' w'=>
  e= .returned (.tuple #[])/\u'= .panicking [{v:= .iface bI (.int .i64 c),recovered:=true}]/\w'=w.setCell p (.int .i64 c):=by
 refine callsD_of_wpS Tryz.func157 rfl λc₀ cs hu=>?_
 have hr0:Tryz.f157.results=#[]:=by kernel_rfl
 have hres:∀t w,(results Tryz.f157 t).run Tryz.prog w= .ok (.tuple #[]) w:=λt w=>by simp[results,hr0]
 apply wpS_seq
 apply wpS_region
 simp[wpOpsS,go_sem,recoverD,hu,Exit.thenS]
 apply wpS_seq
 apply wpS_region
 simp[wpOpsS,go_sem,recoverD,Exit.thenS]
 refine wpS_cond (t:=true) (by simp[Act.eval,Array.replicate]) ?_
 simp only[if_true]
 refine wpS_of_wp ?_
 refine Aa (λa=>a.eval (.tmp 0)= .pointer (some p)/\a.eval (.tmp 1)= .iface bI (.int .i64 c)/\a.tmps.size=16/\a.defers=[]) ⟨by simp[Act.eval],by simp[Act.eval],by simp,rfl⟩ λa ⟨h0,h1,hs,hd⟩=>?_
 apply wp_seq
 refine wp_region_list ?_
 refine db (v:= .iface bI (.int .i64 c)) (w':=w) rfl (by simp[execOp,h1]) ?_
 refine db (v:= .tuple #[.int .i64 c,.bool true]) (w':=w) rfl (by simp[execOp,cI,hs,Qy]) ?_
 refine db (v:= .tuple #[.int .i64 c,.bool true]) (w':=w) rfl (by simp[execOp,cI,eK,hs]) ?_
 refine db (v:= .int .i64 c) (w':=w) rfl (by simp[execOp,cI,eK,hs,Instr.extract]) ?_
 refine db (v:= .bool true) (w':=w) rfl (by simp[execOp,eL,cI,eK,hs,Instr.extract]) ?_
 refine db (v:= .int .i64 c) (w':=w) rfl (by simp[execOp,eL,cI,eK,hs]) ?_
 refine db (v:= .bool true) (w':=w) rfl (by simp[execOp,eL,cI,eK,hs]) ?_
 refine Aa (λa=>a.eval (.tmp 0)= .pointer (some p)/\a.eval (.tmp 3)= .bool true/\a.eval (.tmp 2)= .int .i64 c/\a.tmps.size=16/\a.defers=[]) ⟨by simp[eL,h0],by simp[cI,eK,hs],by simp[eL,cI,eK,hs],by simp[eK,hs],by simp only[AD,hd]⟩ λa ⟨h0,h3,h2,hs,hd⟩=>?_
 have h0':a.tmps[0]= .pointer (some p):=by simpa[Act.eval,hs] using h0
 apply wp_seq
 apply wp_seq
 refine wp_region_list ?_
 refine db (v:= .bool true) (w':=w) rfl (by simp[execOp,h3]) ?_
 refine db (v:= .bool false) (w':=w) rfl (by simp[execOp,cI,hs,go_sem]) ?_
 refine wp_cond (t:=false) (by simp[cI,eK,hs]) (wp_skip ?_)
 refine wp_region_list ?_
 refine db (v:= .int .i64 c) (w':=w) rfl (by simp[execOp,eL,h2]) ?_
 refine HZ (w':=w.setCell p (.int .i64 c)) rfl (by simp[execOp,eL,cI,eK,h0',hs,go_sem,hc,hz]) ?_
 refine⟨by simp only[AD,hd],_,rfl,_,hres _ _,rfl,rfl,rfl⟩
theorem Oq{p:Addr}{c:Int}{w:World}(hc:w.cell? p=some (.int .i64 c)){t:Array Value}(ht:t.getD 2 undef= .pointer (some p)):(results Tryz.f105 t).run Tryz.prog w= .ok (.int .i64 c) w:=by
 have hr0:Tryz.f105.results=#[.cell 2 3]:=by kernel_rfl
 have hi:Tryz.prog.underlying 3=some (.int .i64):=by kernel_rfl
 rw[VD] at ht
 simp[results,hr0,ht,loadVar,asAddr,isAgg,run_underlying hi,go_sem,hc]
def UA(id:Nat)(R:ARes->List AO->Prop)(x:ARes)(h':List AO):Prop:=
 ∃c:Int,(x= .ret (.tup [])/\c=0\/x= .pan bI (.int .i64 c))/\h'[id]?=some (.row 1 [[.p (.int .i64 0)]])/\R (.ret (.p (.int .i64 c))) (h'.set id (.row 1 [[.p (.int .i64 c)]]))
theorem KM(F:FuncId)(caps:List AV)(h:List AO)(R:ARes->List AO->Prop)(HF:AC Tryz.prog G F caps (h++[.row 1 [[.p (.int .i64 0)]]]) (UA h.length R)):
 AC Tryz.prog G ry [.fn (.func F) caps] h R:=by
 refine⟨by kernel_rfl,λW S φ vs hH hA=>calls_of_wp_defers Tryz.func105 rfl ?_⟩
 have s:St G W S φ h W S φ {tmps:=vs++Array.replicate (6-vs.size) undef,defers:=[]} [.fn (.func F) caps,.any,.any,.any,.any,.any] h:=by
  refine⟨hH,⟨by simp[hA.1],λi v hi=>?_⟩,rfl,Keep.refl hH⟩
  match i,hi with
  |0,hi=>
   cases hi
   have hl:0<vs.size:=by rw[hA.1];simp
   have:(vs++Array.replicate (6-vs.size) undef).getD 0 undef=vs[0]:=by
    rw[VD,Array.getElem?_append_left hl,Vw hl];rfl
   rw[this]
   exact hA.2 0 _ _ rfl (Vw hl)
  |1,hi=>cases hi;exact .any _
  |2,hi=>cases hi;exact .any _
  |3,hi=>cases hi;exact .any _
  |4,hi=>cases hi;exact .any _
  |5,hi=>cases hi;exact .any _
 refine Aa (λa=>St G W S φ h W S φ a [.fn (.func F) caps,.any,.any,.any,.any,.any] h) s λa s=>?_
 refine wp_seq (RC (k:= .reg [⟨some 2,none,.alloc [.p (.int .i64 0)]⟩]) (by kernel_rfl) s (Q:=λx ts' h'=>x= .normal/\ts'=[.fn (.func F) caps,.any,.ptr h.length 1 0 0,.any,.any,.any]/\h'=h++[.row 1 [[.p (.int .i64 0)]]]) (by simp) ?_)
 rintro x ts' h1 S1 φ1 e a1 W1 ⟨rfl,rfl,rfl⟩ hx s1 K1
 cases hx
 have hsz:a1.tmps.size=6:=s1.trel.size
 have hp2:a1.tmps.getD 2 undef= .pointer (some ⟨(φ1 h.length).1,(φ1 h.length).2,none⟩):=by
  have:=s1.trel.get 2 _ rfl
  generalize a1.tmps.getD 2 undef=x at this
  cases this with
  |ptr _ _ _ _ _=>simp
 obtain⟨cv,hp0,hcv⟩:∃cv:Array Value,a1.tmps.getD 0 undef= .func (.func F) #[] cv/\ml W1 S1 φ1 (h++[.row 1 [[.p (.int .i64 0)]]]:List AO).length caps cv:=by
  have:=s1.trel.get 0 _ rfl
  generalize a1.tmps.getD 0 undef=x at this
  cases this with
  |fn _ _ cv h1 h2=>exact⟨cv,rfl,h1,h2⟩
 have hd:=s1.defers
 generalize hp:(⟨(φ1 h.length).1,(φ1 h.length).2,none⟩:Addr)=p at hp2
 refine wp_seq (wp_region_list ?_)
 refine db (v:= .func (.func bp) #[] #[.pointer (some p)]) (w':=W1) rfl ?_ ?_
 ·have:a1.eval (.tmp 2)= .pointer (some p):=hp2
  simp[execOp,this,Instr.makeFunc]
 refine KU (d:={target:= .fn (.func bp) #[.pointer (some p)],args:=#[]}) (w':=W1) rfl ?_ ?_
 ·have:(a1.put (some 3) (.func (.func bp) #[] #[.pointer (some p)])).eval (.tmp 3)= .func (.func bp) #[] #[.pointer (some p)]:=cI (by rw[hsz];decide)
  simp[execOp,this,resolve,Deferred.ofValue]
 generalize hP:(λ(e:Ending) (W':World)=>∃r S' φ' h',R r h'/\HRel G W' S' φ' h'/\ERel W' S' φ' h'.length r e/\Keep W S φ h W' S' φ' h')=RR
 have fin:∀(W2 W3:World) (S2:Nat->Prop) (φ2:Aw.Place) (h2:List AO) (c:Int),HRel G W2 S2 φ2 h2->Keep W1 S1 φ1 (h++[.row 1 [[.p (.int .i64 0)]]]) W2 S2 φ2 h2->h2[h.length]?=some (.row 1 [[.p (.int .i64 0)]])->
  R (.ret (.p (.int .i64 c))) (h2.set h.length (.row 1 [[.p (.int .i64 c)]]))->W3=W2.setCell p (.int .i64 c)->∀t:Array Value,t.getD 2 undef= .pointer (some p)->Leaves Tryz.prog Tryz.f105 t RR [] .returning W3:=λW2 W3 S2 φ2 h2 c H2 K2 hb hR hw t ht=>by
  subst hw
  have hφ:(⟨(φ2 h.length).1,(φ2 h.length).2,none⟩:Addr)=p:=by rw[K2.same h.length (by simp)];exact hp
  obtain⟨b1,b2,b3⟩:=H2.box_at hb
  obtain⟨b4,b5⟩:=b3 c
  rw[hφ] at b4 b5
  obtain⟨c1,_,_⟩:=b4.box_at (id:=h.length) (x:=c) (by rw[UY (US.1 hb).1])
  rw[hφ] at c1
  refine⟨_,Oq c1 ht,?_⟩
  rw[←hP]
  exact⟨_,_,_,_,hR,b4,.ret _ _ (.p _ _ (.int _ _)),s1.keep.trans (K2.trans b5)⟩
 refine Aa (λa=>a.tmps.size=6/\a.tmps.getD 2 undef= .pointer (some p)/\a.tmps.getD 0 undef= .func (.func F) #[] cv/\a.defers=[{target:= .fn (.func bp) #[.pointer (some p)],args:=#[]}]) ⟨by simp[Act.put,hsz],?_,?_,by simp[Act.put,hd]⟩ λa2 ⟨hz2,hq2,hq0,hdf⟩=>?_
 ·refine Eq.trans ?_ hp2
  simp[Act.put]
 ·refine Eq.trans ?_ hp0
  simp[Act.put]
 refine wp_seq (wp_region_list ?_)
 refine db (v:= .func (.func F) #[] cv) (w':=W1) rfl ?_ ?_
 ·have:a2.eval (.tmp 0)= .func (.func F) #[] cv:=hq0
  simp[execOp,this]
 refine Lm (vs:=#[]++cv) (w':=W1) rfl ?_ (HF.2 W1 S1 φ1 _ s1.hrel (by simpa using hcv)) (λv w2 ⟨r,S2,φ2,h2,⟨c,k1,k2,k3⟩,H2,E2,K2⟩=>?_) (λchain w2 ⟨r,S2,φ2,h2,⟨c,k1,k2,k3⟩,H2,E2,K2⟩=>?_) (λw2 ⟨r,S2,φ2,h2,⟨c,k1,k2,k3⟩,H2,E2,K2⟩=>by cases E2)
 ·have:(a2.put (some 4) (.func (.func F) #[] cv)).eval (.tmp 4)= .func (.func F) #[] cv:=cI (by rw[hz2];decide)
  simp[execOp,this,resolve,Deferred.ofValue,sk HF.1]
 ·have hb:=H2.box_at k2
  have hφ:(⟨(φ2 h.length).1,(φ2 h.length).2,none⟩:Addr)=p:=by rw[K2.same h.length (by simp)];exact hp
  rw[hφ] at hb
  obtain⟨b1,b2,b3⟩:=hb
  have hv:r= .ret (.tup [])/\c=0:=by
   rcases k1 with h|h
   ·exact h
   ·subst h;cases E2
  obtain⟨_,rfl⟩:=hv
  refine Aa (λa=>a.tmps.size=6/\a.tmps.getD 2 undef= .pointer (some p)/\a.defers=[{target:= .fn (.func bp) #[.pointer (some p)],args:=#[]}]) ⟨by simp[Act.put,hz2],?_,by simp[Act.put,hdf]⟩ λa3 ⟨hz3,hr2,hdf3⟩=>?_
  ·refine Eq.trans ?_ hq2
   simp[Act.put]
  refine wp_seq (wp_region_list ?_)
  have hr2':a3.tmps[2]= .pointer (some p):=by simpa[hz3] using hr2
  refine HZ (w':=w2.setCell p (.int .i64 0)) rfl (by simp[execOp,Act.eval,hr2',hz3,go_sem,b1,b2]) ?_
  refine wp_ret ?_
  show Leaves _ _ _ _ _ _ _
  have ht:(a3.put none undef).tmps.getD 2 undef= .pointer (some p):=hr2
  have e1:(a3.put none undef).defers=[{target:= .fn (.func bp) #[.pointer (some p)],args:=#[]}]:=hdf3
  rw[e1]
  refine leaves_cons (by simp) (sk (by kernel_rfl) _ _ _) ((Pf p _).mono λe u' w' hh=>?_)
  obtain⟨rfl,rfl,rfl⟩:=hh
  exact fin w2 _ S2 φ2 h2 0 H2 K2 k2 k3 rfl _ ht
 ·have hb:=H2.box_at k2
  have hφ:(⟨(φ2 h.length).1,(φ2 h.length).2,none⟩:Addr)=p:=by rw[K2.same h.length (by simp)];exact hp
  rw[hφ] at hb
  obtain⟨b1,b2,b3⟩:=hb
  have hv:r= .pan bI (.int .i64 c):=by
   rcases k1 with h|h
   ·obtain⟨h,_⟩:=h;subst h;cases E2
   ·exact h
  subst hv
  have hch:chain=[{v:= .iface bI (.int .i64 c),recovered:=false}]:=by
   cases E2 with
   |pan _ _ x hx=>rw[bF (φ:=φ2) (hp:=0) (.p _ _ hx)]
  subst hch
  show Leaves _ _ _ _ _ _ _
  have ht:(a2.put (some 4) (.func (.func F) #[] cv)).tmps.getD 2 undef= .pointer (some p):=by
   refine Eq.trans ?_ hq2
   simp[Act.put]
  have e1:(a2.put (some 4) (.func (.func F) #[] cv)).defers=[{target:= .fn (.func bp) #[.pointer (some p)],args:=#[]}]:=hdf
  rw[e1]
  refine leaves_cons (by simp) (sk (by kernel_rfl) _ _ _) ((Qa p 0 c _ b1 b2).mono λe u' w' hh=>?_)
  obtain⟨rfl,rfl,rfl⟩:=hh
  exact fin w2 _ S2 φ2 h2 c H2 K2 k2 k3 rfl _ ht
end
section
def M5(s:S5):Nat:=s.said.length+s.left
def FO:J5->Prop
 | .ex _ _ s _ s' _=>M5 s'<=M5 s/\s'.left<=s.left
 | .exs _ _ s _ s' _=>M5 s'<=M5 s/\s'.left<=s.left
 | .cal _ _ s s' _=>M5 s'<=M5 s/\s'.left<=s.left
 | .stm _ v s _ v' s' _=>M5 s'<=M5 s+1/\s'.left<=s.left/\(ay v').length+s'.left<=(ay v).length+s.left+1
 | .blk _ v s _ v' s' _=>M5 s'<=M5 s/\s'.left<=s.left/\(ay v').length+s'.left<=(ay v).length+s.left
 | .lp _ v s _ v' s' _=>M5 s'<=M5 s/\s'.left<=s.left/\(ay v').length+s'.left<=(ay v).length+s.left
theorem tR(m:Sc5)(v:List Sc5):(ay v).length<=(ay (m::v)).length:=by simp[ay]
theorem mj(v:List Sc5):(ay ([]::v)).length=(ay v).length:=by simp[ay]
theorem GV{s:S5}{F:Nat}(h:s.left=F+1):M5 (s.at_ F)+1=M5 s/\(s.at_ F).left+1=s.left:=by
 simp only[M5,S5.at_]
 omega
theorem Jy(s:List UInt8)(n:Int)(v:List Sc5):(ay (io v s n)).length=(ay v).length:=gQ (yQ s n v)
theorem mt{l:List Fd}{j:J5}(h:Ev l j):FO j:=by
 induction h with
 |num _ _=>exact⟨Vi _,Vi _⟩
 |var _ _=>exact⟨Vi _,Vi _⟩
 |call _ _ _ _ _ i1 i2=>exact⟨Vp i2.1 i1.1,Vp i2.2 i1.2⟩
 |callS _ _ i1=>exact i1
 |firstS _ _ _ _ i1=>exact i1
 |and0 _ _ _ i1=>exact i1
 |and1 _ _ _ _ _ i1 i2=>exact⟨Vp i2.1 i1.1,Vp i2.2 i1.2⟩
 |andS _ _ _ _ _ i1 i2=>exact⟨Vp i2.1 i1.1,Vp i2.2 i1.2⟩
 |not _ _ _ i1=>exact i1
 |at_ _ _ _ _ _ i1=>exact i1
 |atS _ _ _ _ i1=>exact i1
 |bin _ _ _ _ _ _ i1 i2=>exact⟨Vp i2.1 i1.1,Vp i2.2 i1.2⟩
 |binS _ _ _ _ _ i1 i2=>exact⟨Vp i2.1 i1.1,Vp i2.2 i1.2⟩
 |binD _ _ _ _ _ _ i1 i2=>exact⟨Vp i2.1 i1.1,Vp i2.2 i1.2⟩
 |nil=>exact⟨Vi _,Vi _⟩
 |cons _ _ i1 i2=>exact⟨Vp i2.1 i1.1,Vp i2.2 i1.2⟩
 |consS _ i1=>exact i1
 |consT _ _ i1 i2=>exact⟨Vp i2.1 i1.1,Vp i2.2 i1.2⟩
 |cal _ _ _ i1=>exact⟨i1.1,i1.2.1⟩
 |bnil=>exact⟨Vi _,Vi _,Vi _⟩
 |bfuel _=>exact⟨Vi _,Vi _,Vi _⟩
 |bgo hl _ _ i1 i2=>
  obtain⟨a,b⟩:=GV hl
  obtain⟨c1,c2,c3⟩:=i1
  obtain⟨d1,d2,d3⟩:=i2
  exact⟨by omega,by omega,by omega⟩
 |bend hl _ _ i1=>
  obtain⟨a,b⟩:=GV hl
  obtain⟨c1,c2,c3⟩:=i1
  exact⟨by omega,by omega,by omega⟩
 |argS _ _ _ i1=>exact⟨by have:=i1.1;omega,i1.2,by have:=i1.2;omega⟩
 |slet _ _ _ hv _ i1=>
  subst hv
  refine⟨by have:=i1.1;omega,i1.2,?_⟩
  have:=i1.2
  simp only[ay,Vh,Vo,List.length_nil]
  omega
 |sset _ _ _ _ i1=>exact⟨by have:=i1.1;omega,i1.2,by rw[Jy];have:=i1.2;omega⟩
 |ssay _ _ _ i1=>
  obtain⟨a,b⟩:=i1
  refine⟨?_,b,?_⟩
  ·simp only[M5,S5.say,Vh,Vo,List.length_nil] at a⊢;omega
  ·simp only[S5.say];omega
 |sput _ _ _ _ _ i1 i2=>
  obtain⟨a,b⟩:=i1
  obtain⟨c,d⟩:=i2
  refine⟨?_,?_,?_⟩
  ·simp only[M5,S5.put] at a c⊢;omega
  ·simp only[S5.put];omega
  ·simp only[S5.put];omega
 |sputC _ _ _ _ _ i1 i2=>exact⟨by have:=i1.1;have:=i2.1;omega,by have:=i1.2;have:=i2.2;omega,by have:=i1.2;have:=i2.2;omega⟩
 |sputS _ _ _ _ i1 i2=>exact⟨by have:=i1.1;have:=i2.1;omega,by have:=i1.2;have:=i2.2;omega,by have:=i1.2;have:=i2.2;omega⟩
 | @sif k v s x a s1 n m v' s2 q _ _ _ _ i1 i2=>
   obtain⟨a,b⟩:=i1
   obtain⟨c1,c2,c3⟩:=i2
   have:=tR m v'
   rw[mj] at c3
   exact⟨by omega,by omega,by omega⟩
 |sloop _ _ i1=>exact⟨by have:=i1.1;omega,i1.2.1,by have:=i1.2.2;omega⟩
 |sback _ _ _ i1=>exact⟨by have:=i1.1;omega,i1.2,by have:=i1.2;omega⟩
 |sdo _ _ _ i1=>exact⟨by have:=i1.1;omega,i1.2,by have:=i1.2;omega⟩
 |lpS _ _ i1=>exact⟨i1.1,i1.2,by have:=i1.2;omega⟩
 |lp0 _ _ i1=>exact⟨i1.1,i1.2,by have:=i1.2;omega⟩
 | @lpEnd k v s x a s1 n m v' s2 q _ _ _ _ _ i1 i2=>
   obtain⟨a,b⟩:=i1
   obtain⟨c1,c2,c3⟩:=i2
   have:=tR m v'
   rw[mj] at c3
   exact⟨by omega,by omega,by omega⟩
 | @lpFuel k v s x a s1 n m v' s2 _ _ _ _ _ i1 i2=>
   obtain⟨a,b⟩:=i1
   obtain⟨c1,c2,c3⟩:=i2
   have:=tR m v'
   rw[mj] at c3
   exact⟨by omega,by omega,by omega⟩
 | @lpGo k v s x a s1 n m v' s2 F v'' s3 q _ _ _ _ hl _ i1 i2 i3=>
   obtain⟨a,b⟩:=i1
   obtain⟨c1,c2,c3⟩:=i2
   obtain⟨e1,e2⟩:=GV hl
   obtain⟨d1,d2,d3⟩:=i3
   have:=tR m v'
   rw[mj] at c3
   exact⟨by omega,by omega,by omega⟩
end
section
section
variable {M:Nat} {l:List Fd} {fuel:Nat} {sv:AV} {sid:Nat} {s s2:S5} {h h':List AO}
theorem MI.neS(H:MI M l fuel sv sid s h)(hs:sv≠ .nils):M≠sid:=by
 intro e
 have h1:=H.men
 have h2:=H.said
 generalize s.said=xs at h2
 cases h2 with
 |nn _ _=>exact hs rfl
 |ss _ _ h2=>rw[e,h2] at h1;simp[jo,bq] at h1
theorem MI.upd(H:MI M l fuel sv sid s h)(h1:s2.said=s.said)(h2:s2.left<=s.left)(h3:s2.cells.length=16):MI M l fuel sv sid s2 (h.set M (jo l fuel sv s2)):=
 ⟨UY H.lt,by rw[h1];exact H.said.frame (by rw[Vy];exact Vi _) λhs=>UT (H.neS hs),Vp h2 H.le,H.fu,h3⟩
end
def WhR(h:List AO)(u:AV)(v:List Sc5)(I:List Nat)(s:List UInt8)(n:Int)(e:Nat):Prop:=
 ∃(m:Nat) (c:Sc5) (w:AV),h[e]?=some (.row 2 [[.mp m,w]])/\h[m]?=some (.mp (mpV c))/\bQ c s=some n/\m∈I/\(∀k,Chn (h.set m (.mp (mpV (sset c s k)))) u (io v s k) I)
theorem pD{m:Sc5}{s:List UInt8}{n:Int}(h:bQ m s=some n):(bQ m s).isSome=true:=by rw[h];rfl
theorem Oj{h:List AO}{e:Nat}{v:List Sc5}{I:List Nat}{s:List UInt8}{n:Int}(H:Chn h (.ptr e 2 0 0) v I)(nd:I.Nodup)(hv:ig v s=some n):
 ∃(m:Nat) (c:Sc5) (r:List Sc5) (w:AV),v=c::r/\h[e]?=some (.row 2 [[.mp m,w]])/\h[m]?=some (.mp (mpV c))/\
  (∀k,bQ c s=some k->WhR h (.ptr e 2 0 0) v I s n e)/\((w= .nilp/\(bQ c s).isSome=true)\/∃e2 I2,w= .ptr e2 2 0 0/\Chn h w r I2/\I2.Nodup/\(bQ c s=none->ig r s=some n/\∀e3,WhR h w r I2 s n e3->WhR h (.ptr e 2 0 0) v I s n e3)):=by
 cases H with
 |last _ m c h1 h2=>
  have hm:=(US.1 h2).1
  have hne:m≠e:=λq=>by subst q;rw[h1] at h2;cases h2
  have hs:bQ c s=some n:=by
   rw[ig] at hv
   cases hq:bQ c s with
   |none=>rw[hq] at hv;cases hv
   |some k=>rw[hq] at hv;exact hv
  refine⟨m,c,[],.nilp,rfl,h1,h2,λk hk=>⟨m,c,.nilp,h1,h2,hs,by simp,λq=>?_⟩,.inl ⟨rfl,pD hs⟩⟩
  rw[io,if_pos (pD hs)]
  exact .last e m _ (by rw[UT hne];exact h1) (UY hm)
 |cons _ m c u r I h1 h2 H=>
  have hm:=(US.1 h2).1
  have hne:m≠e:=λq=>by subst q;rw[h1] at h2;cases h2
  simp only[VU,Vf,not_or] at nd
  obtain⟨e2,rfl,_,_⟩:=H.is
  refine⟨m,c,r,_,rfl,h1,h2,λk hk=>⟨m,c,_,h1,h2,?_,by simp,λq=>?_⟩,.inr ⟨e2,I,rfl,H,nd.2.2,λhn=>?_⟩⟩
  ·rw[ig,hk] at hv;rw[hk];exact hv
  ·rw[io,if_pos (pD hk)]
   exact .cons e m _ _ r I (by rw[UT hne];exact h1) (UY hm) (H.frame λi hi=>UT (show m≠i from λq=>nd.2.1 (q▸hi)))
  ·rw[ig,hn] at hv
   refine⟨hv,λe3 ⟨m',c',w,g1,g2,g3,g4,g5⟩=>⟨m',c',w,g1,g2,g3,by simp[g4],λq=>?_⟩⟩
   have n1:m'≠e:=λq=>nd.1.2 (q▸g4)
   have n2:m'≠m:=λq=>nd.2.1 (q▸g4)
   rw[io,hn,if_neg (by simp)]
   exact .cons e m c _ _ I (by rw[UT n1];exact h1) (by rw[UT n2];exact h2) (g5 q)
variable (G:al)
theorem LM{M:Nat}{l:List Fd}{fuel:Nat}{sv:AV}{sid:Nat}{s:S5}{h:List AO}(H:MI M l fuel sv sid s h):
 AC Tryz.prog G dw [.ptr M 20 0 0] h λx h'=>if s.left=0 then x= .pan bI (.int .i64 3)/\h'=h else x= .ret (.tup [])/\h'=h.set M (jo l fuel sv (s.at_ (s.left-1))):=by
 have hm:=H.men
 have hle:=H.le
 have hfu:=H.fu
 simp only[jo] at hm
 refine AC.go ra ?_
 by_cases h0:s.left=0
 ·simp-implicitDefEqProofs[fx,hm,h0]
  refine(FX G 3 h).mono ?_
  rintro r h1 ⟨rfl,rfl⟩
  simp-implicitDefEqProofs[]
 ·have h1:¬((fuel-s.left:Nat):Int)=(fuel:Int):=by omega
  have h2:IntKind.i64.wrap (((fuel-s.left:Nat):Int)+1)=((fuel-(s.left-1):Nat):Int):=by rw[ab (by omega) (by omega)];omega
  simp-implicitDefEqProofs[fx,hm,h0,h1,h2,jo,S5.at_]
theorem Dl{u:AV}{v:List Sc5}{I:List Nat}{h:List AO}(C:Chn h u v I):
 AC Tryz.prog G gZ [u] h λx h'=>x= .ret (.ptr (h.length+1) 2 0 0)/\h'=h++[.mp [],.row 2 [[.mp h.length,u]]]:=by
 obtain⟨e,rfl,_,_⟩:=C.is
 refine AC.go Dc ?_
 simp-implicitDefEqProofs[tX]
theorem FE{M:Nat}{l:List Fd}{fuel:Nat}{sv:AV}{sid:Nat}{s:S5}{h:List AO}(H:MI M l fuel sv sid s h)(n:Nat)(hn:n<=255):
 AC Tryz.prog G du [.ptr M 20 0 0,.p (.int .i64 n)] h λx h'=>if 16<=n then x= .pan bI (.int .i64 2)/\h'=h else x= .ret (.ptr M 20 0 (4+n))/\h'=h:=by
 have hm:=H.men
 simp only[jo] at hm
 refine AC.go rc ?_
 by_cases h0:16<=n
 ·have h1:(16:Int)<=n:=by omega
  simp-implicitDefEqProofs[fh,hm,h0,h1]
  refine(FX G 2 h).mono ?_
  rintro r h1 ⟨rfl,rfl⟩
  simp-implicitDefEqProofs[]
 ·have h1:¬(16:Int)<=n:=by omega
  simp-implicitDefEqProofs[fh,hm,h0,h1]
  omega
structure WhS where (e:Nat) (v:List Sc5) (I:List Nat)
structure WhI (h:List AO) (u:AV) (v:List Sc5) (I:List Nat) (s:List UInt8) (n:Int) (a:WhS):Prop where
 chn:Chn h (.ptr a.e 2 0 0) a.v a.I
 nd:a.I.Nodup
 has:ig a.v s=some n
 up:∀e,WhR h (.ptr a.e 2 0 0) a.v a.I s n e->WhR h u v I s n e
theorem GU{u:AV}{v:List Sc5}{I:List Nat}{h:List AO}(C:Chn h u v I)(nd:I.Nodup){s:List UInt8}{n:Int}(hv:ig v s=some n):
 AC Tryz.prog G eQ [u,.p (.str s)] h λx h'=>h'=h/\∃e,x= .ret (.ptr e 2 0 0)/\WhR h u v I s n e:=by
 obtain⟨e0,rfl,_,he0⟩:=C.is
 refine AC.go uQ ?_
 simp-implicitDefEqProofs[nj]
 refine aO (λa:WhS=>ah 28 [(4,.nilp),(0,.ptr a.e 2 0 0),(1,.p (.str s))]) (λ_=>h) (WhI h (.ptr e0 2 0 0) v I s n) (λa=>a.v.length) ⟨e0,v,I⟩ ⟨C,nd,hv,λ_ q=>q⟩ ?_ ?_
 ·exact aX (Vi _) (by simp[below];exact he0)
 rintro⟨e,v1,I1⟩ ⟨C1,nd1,hv1,hup⟩
 simp only at C1 nd1 hv1 hup
 obtain⟨m,c,r,w,rfl,g1,g2,g3,g4⟩:=Oj C1 nd1 hv1
 rcases g4 with⟨rfl,hs⟩|⟨e2,I2,rfl,C2,nd2,hn⟩
 ·obtain⟨k,hk⟩:=Option.isSome_iff_exists.1 hs
  simp-implicitDefEqProofs[g1]
  exact hup _ (g3 k hk)
 ·have hq:=Ah s c
  cases hk:bQ c s with
  |some k=>
   rw[hk] at hq
   simp-implicitDefEqProofs[g1,g2,hq]
   exact hup _ (g3 k hk)
  |none=>
   rw[hk] at hq
   obtain⟨k1,k2⟩:=hn hk
   simp-implicitDefEqProofs[g1,g2,hq]
   refine⟨⟨e2,r,I2⟩,⟨C2,nd2,k1,λe q=>hup e (k2 e q)⟩,by simp,aX (Vi _) ?_⟩
   obtain⟨_,q,_,q2⟩:=C2.is
   cases q
   simp[below]
   exact q2
end
section
def ar5(o a b:Int):Option Int:=if o=10 then some (tr5 (decide (a≠0/\b≠0))) else Dn o a b
def Rz(n:Int):Ex:= .mk 1 n [] []
def isN(e:Ex)(n:Int):Bool:=decide (e.op=1)&&decide (e.n=n)
section
variable {l:List Fd}
end
end
section
theorem Jv{d:Nat}{e a:Ex}(h:bZ (d+1) e=true)(ha:a∈e.kids):bZ d a=true:=by
 rw[bZ,Vm] at h
 exact Vc.1 h.2 a ha
theorem FY{d:Nat}{e:Ex}(h:bZ d e=true):md e=true:=by
 cases d with
 |zero=>cases h
 |succ d=>rw[bZ,Vm] at h;exact h.1
theorem Iu{d:Nat}{q:Int}(h:V5 q):bZ (d+1) (Rz q)=true:=by
 obtain⟨h0,h1⟩:=h
 have:aG []=false:=by decide
 simp[bZ,Rz,md,inR,Ex.op,Ex.kids,Ex.name,Ex.n,loK,hiK,Es,this,h0,h1]
section
variable {fns fns':List Fd} (hL:Like fns fns')
include hL
end
end
section
theorem Iv{d:Nat}{e:Ex}(h:bZ d e=true):∃c,d=c+1:=by
 cases d with
 |zero=>cases h
 |succ d=>exact⟨d,rfl⟩
theorem BD{d:Nat}{e:Ex}(h:bZ d e=true):loK e.op<=e.kids.length/\e.kids.length<=hiK e.op/\1<=e.op/\e.op<=13:=by
 have h:=FY h
 simp only[md,Vm,inR,decide_eq_true_eq] at h
 obtain⟨⟨⟨⟨⟨h1,h2⟩,_⟩,_⟩,_⟩,_⟩:=h
 exact⟨by omega,by omega,h1.1,h1.2⟩
section
variable {l:List Fd} {k:Nat} {v:List Sc5} {s s':S5} {r:O5 Int}
end
end
section
def PY(x:Sm)(n:Int):Bool:=match x.args with|a::_=>isN a n|[]=>false
def TO(x:Sm):Bool:=match x.args with|a::_=>decide (a.op=1)|[]=>false
def Sq(x:Sm):Bool:=decide (x.op=6)&&PY x 0
mutual
def Ls:Sm->Sm
 | .mk o s a bd el=> .mk o s a
   (if o=5/\PY (.mk o s a bd el) 0=true then[] else He bd)
   (if o=5/\PY (.mk o s a bd el) 0=false/\TO (.mk o s a bd el)=true then[] else He el)
def He:List Sm->List Sm
 |[]=>[]
 |s::r=>if Sq s=true then He r else Ls s::(if s.op=7 then[] else He r)
end
section
variable {l:List Fd} {k:Nat} {v v':List Sc5} {s s':S5} {x:Sm} {r:O5 (Option Int)}
end
end
end Go.Proofs.YtokiapglmedipaaGreatDoor
