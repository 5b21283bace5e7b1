/-
  Contracts and lemmas that the card needs, part 6.
-/
import Derived.Test.YtokiapglmedipaaGreatDoorRr5
import Derived.Lib.SlicesCompact
namespace Go.Proofs.YtokiapglmedipaaGreatDoor
open Go Go.Aw
set_option maxRecDepth 100000
set_option maxHeartbeats 4000000
section
theorem GO:AK.whole si=FK.ak sb:=rfl
theorem Ii:∀(ps:List (List UInt8)) (w:WS),w.vs.length<=w.count->(bc ps w).vs.length<=(bc ps w).count
 |[],w,h=>h
 |s::r,w,h=>Ii r (eF w s 0) (by simp[eF];omega)
theorem LF(a b:List (List UInt8))(w:WS):bc (a++b) w=bc b (bc a w):=by simp[bc]
theorem JX{l:List (List UInt8)}{w:WS}{i:Nat}(h:i<l.length):bc (l.take (i+1)) w=eF (bc (l.take i) w) l[i] 0:=by
 rw[an h,LF];rfl
theorem Gs:∀(a b:List (List UInt8)) (w:WS),fh (a++b) w=fh a w++fh b (bc a w)
 |[],b,w=>rfl
 |s::r,b,w=>by rw[Zx,fh,fh,Gs r];rfl
theorem Ml{l:List (List UInt8)}{w:WS}{i:Nat}(h:i<l.length):fh (l.take (i+1)) w=fh (l.take i) w++[vnm (bc (l.take i) w).count]:=by
 rw[an h,Gs];rfl
theorem Cd:∀(l:List (List UInt8)) (w:WS),(fh l w).length=l.length
 |[],w=>rfl
 |s::r,w=>by rw[fh,Ze,Cd r,Ze]
def w0(fns:List Fd)(k:Nat)(f:Fd):WS:=⟨[],0,if cg fns f.name=some k then 0 else 2⟩
theorem SW(fns:List Fd)(k:Nat)(f:Fd):fnW fns k f=aO fns k 0 f.body (bc f.params (w0 fns k f)):=rfl
theorem OH(fns:List Fd)(k:Nat)(f:Fd):(rnF fns k f).cs=[.str f.name,al (fh f.params (w0 fns k f)),smL (cu fns k 0 f.body (bc f.params (w0 fns k f)))]:=rfl
variable (G:am)
theorem SY{fns:List Fd}{k:Nat}{f:Fd}(hk:fns[k]?=some f)(hz:aH fns<=1073741824):VF Tryz.prog G nI [.agg [.p (fdL fns)],.p (.int .i64 k)] (.tup [.agg ((rnF fns k f).cs.map .p),.p (.int .i64 (fnW fns k f).code),.p (.int .i64 (fnW fns k f).count)]):=by
 have hfl:=fS fns
 have hfm:=cG (YS hk)
 have hfz:f.sz=1+f.name.length+(f.params.length+(f.params.map List.length).sum)+ay f.body:=rfl
 have hkl:=(YL.1 hk).1
 have key:AC Tryz.prog G nI [.agg [.p (fdL fns)],.p (.int .i64 k)] [] λx h=>x= .ret (.tup [.agg [.p (.str f.name),.sl 5 1 0 f.params.length,.p (smL (cu fns k 0 f.body (bc f.params (w0 fns k f))))],.p (.int .i64 (fnW fns k f).code),.p (.int .i64 (fnW fns k f).count)])/\h[5]?=some (dt (fh f.params (w0 fns k f))):=by
  refine AC.goK Iv GO ?_
  have hfd:∀l,fdL l= .lst 3 (l.map Fd.cs):=λ_=>rfl
  have hcs:f.cs=[.str f.name,al f.params,smL f.body]:=rfl
  have hst:al f.params= .lst 1 (f.params.map λw=>[.str w]):=rfl
  simp-implicitDefEqProofs[si,sb]
  refine nk (aj 62 [(1,.p (.int .i64 k)),(2,.ptr 0 1 0 0),(4,.ptr 1 3 0 0),(7,.ptr 2 5 0 0),(8,.ptr 3 3 0 0)])
   [.row 1 [[.p (fdL fns)]],.row 3 [[.p (.str []),.nils,.nils]],wO 4 true fns k ⟨[],0,0⟩,.row 3 [[.p (.str f.name),.p (al f.params),.p (smL f.body)]],.dead] ?_ ?_
  ·simp-implicitDefEqProofs[hfd,hk,hcs]
   refine kQ (h:=[.row 1 [[.p (fdL fns)]],.row 3 [[.p (.str []),.nils,.nils]],wO 4 true fns k ⟨[],0,0⟩,.row 3 [[.p (.str f.name),.p (al f.params),.p (smL f.body)]]]) (by simp) (by simp) ?_ (by simp[below])
   refine ae (by simp[okO,below]) (ae (by simp[okO,below]) (ae ?_ (ae (by simp[okO,below]) dX)))
   intro x hx
   rw[YQ.1 hx];simp[wC,vaC,below]
  refine nk (aj 62 [(1,.p (.int .i64 k)),(2,.ptr 0 1 0 0),(4,.ptr 1 3 0 0),(7,.ptr 2 5 0 0),(8,.ptr 3 3 0 0)])
   [.row 1 [[.p (fdL fns)]],.row 3 [[.p (.str []),.nils,.nils]],wO 4 true fns k (w0 fns k f),.row 3 [[.p (.str f.name),.p (al f.params),.p (smL f.body)]],.dead] ?_ ?_
  ·simp-implicitDefEqProofs[]
   refine(Jx G fns f.name (by omega)).use ?_
   have hok:∀w:WS,∀o∈[AO.row 1 [[.p (fdL fns)]],.row 3 [[.p (.str []),.nils,.nils]],wO 4 true fns k w,.row 3 [[.p (.str f.name),.p (al f.params),.p (smL f.body)]],.dead],okO 5 o:=λw=>
    ae (by simp[okO,below]) (ae (by simp[okO,below]) (ae (Ag (by simp)) (ae (by simp[okO,below]) (ae trivial dX))))
   by_cases he:cg fns f.name=some k
   ·have hw:w0 fns k f=⟨[],0,0⟩:=by rw[w0,if_pos he]
    rw[hw,he]
    simp-implicitDefEqProofs[ixI]
    exact af (by simp) (hok _) (by simp[below])
   ·have hw:w0 fns k f=⟨[],0,2⟩:=by rw[w0,if_neg he]
    have hne:¬ixI (cg fns f.name)=(k:Int):=by
     intro h
     apply he
     cases e:cg fns f.name with
     |none=>rw[e] at h;simp only[ixI] at h;omega
     |some j=>rw[e] at h;simp only[ixI] at h;have:j=k:=by omega
              rw[this]
    rw[hw]
    simp-implicitDefEqProofs[hne]
    refine(TQ G (wid:=2) (id:=4) (th G true fns k ⟨[],0,0⟩ 2) (by simp) (by simp[below]) (by decide) rfl rfl).mono ?_
    rintro r h' ⟨rfl,rfl⟩
    simp-implicitDefEqProofs[aa]
    exact af (h:=[AO.row 1 [[.p (fdL fns)]],.row 3 [[.p (.str []),.nils,.nils]],wO 4 true fns k ⟨[],0,2⟩,.row 3 [[.p (.str f.name),.p (al f.params),.p (smL f.body)]],.dead]) (by simp) (hok _) (by simp[below])
  rw[SW]
  have hw0v:(w0 fns k f).vs=[]:=rfl
  have hw0c:(w0 fns k f).count=0:=rfl
  generalize w0 fns k f=w0 at hw0v hw0c⊢
  simp-implicitDefEqProofs[]
  have hcnt:∀j,j<=f.params.length->(bc (f.params.take j) w0).count=j:=λj hj=>by rw[nu,hw0c];simp;omega
  have hvl:∀j,(bc (f.params.take j) w0).vs.length<=(bc (f.params.take j) w0).count:=λj=>Ii _ _ (by rw[hw0v];simp)
  refine aN (λj:Nat=>aj 62 [(1,.p (.int .i64 k)),(2,.ptr 0 1 0 0),(4,.ptr 1 3 0 0),(7,.ptr 2 5 0 0),(8,.ptr 3 3 0 0),(9,.sl 5 1 0 j),(10,.p (.int .i64 j))])
   (λj=>[.row 1 [[.p (fdL fns)]],.row 3 [[.p (.str []),.nils,.nils]],wO 6 (decide (j=0)) fns k (bc (f.params.take j) w0),.row 3 [[.p (.str f.name),.p (al f.params),.p (smL f.body)]],.dead,dt (fh (f.params.take j) w0),roC (decide (j=0)) (bc (f.params.take j) w0).vs])
   (λj=>j<=f.params.length) (λj=>f.params.length-j) 0 (by simp) ?_ ?_
  ·refine kQ (h:=[.row 1 [[.p (fdL fns)]],.row 3 [[.p (.str []),.nils,.nils]],wO 6 true fns k w0,.row 3 [[.p (.str f.name),.p (al f.params),.p (smL f.body)]],.dead,.row 1 []]) (by simp) (by simp) ?_ (by simp[below])
   refine ae (by simp[okO,below]) (ae (by simp[okO,below]) (ae ?_ (ae (by simp[okO,below]) (ae trivial (ae (by simp[okO]) dX)))))
   intro x hx
   rw[YQ.1 hx];simp[wC,vaC,below]
  intro j hj
  have hjc:=hcnt j hj
  have hjv:=hvl j
  have hol:=Cd (f.params.take j) w0
  rw[Zl,Nat.min_eq_left hj] at hol
  have hnf:decide (j=0)=true->(bc (f.params.take j) w0).vs=[]:=by
   intro h
   have h0:j=0:=by simpa using h
   rw[h0,List.take_zero]
   exact hw0v
  simp-implicitDefEqProofs[hst]
  refine bi (λh=>?_) (λh=>?_)
  ·simp at h
   have hg:=YO h
   have eP:=JX (w:=w0) h
   have eR:=Ml (w:=w0) h
   simp-implicitDefEqProofs[hg]
   refine(Nc G (wid:=2) (id:=6) (Q:=λnf' w'=>nf'=false/\w'=eF (bc (f.params.take j) w0) f.params[j] 0) ((Ng G (decide (j=0)) fns k _ hnf (by omega) (by omega) f.params[j] 0).mono (by rintro x h ⟨rfl,rfl⟩;exact⟨false,_,rfl,rfl,rfl,rfl⟩)) (by simp) (by simp[below]) (by decide) rfl rfl).mono ?_
   rintro r h' ⟨nf',w',rfl,rfl,rfl,rfl⟩
   have hso:∀l,dt l= .row 1 (l.map λn=>[.p (.str n)]):=λ_=>rfl
   simp-implicitDefEqProofs[aa,hso,hol]
   refine⟨by omega,j+1,by omega,by omega,?_⟩
   have htk:List.take j ((fh (f.params.take j) w0).map λn=>[AV.p (.str n)])=(fh (f.params.take j) w0).map λn=>[AV.p (.str n)]:=YU (by rw[Zu];omega)
   have hd:decide (j+1=0)=false:=by simp
   rw[eP,eR,hd,List.map_append,←List.map_take,List.map_take,htk]
   refine Ok [0,1,2,3,4,9,7] rfl (by decide) (br rfl (by simp) (br rfl (by simp[below]) (CN (by simp) rfl (br rfl (by simp) (fO (by simp) (br rfl (λx hx=>?_) (cr rfl (iv _ _ _) cm))))))) (by simp[below,ren,w1 (i:=j) (by omega)])
   rcases YV.1 hx with h|h
   ·exact pj _ x h
   ·exact pj _ x h
  ·simp at h
   have hje:j=f.params.length:=by omega
   subst hje
   rw[ZM] at hol hjc hjv hnf⊢
   generalize decide (f.params.length=0)=nf at hnf⊢
   simp-implicitDefEqProofs[]
   refine(Nc G (wid:=2) (id:=6) (Nt G (fns:=fns) (by omega) (ay f.body+1) f.body (by omega) 0 _ (bc f.params w0) hnf hjv (by omega) (by omega)) (by simp) (by simp[below]) (by decide) rfl rfl).mono ?_
   rintro r h' ⟨nf',w',rfl,rfl,hn',hw'⟩
   have hb:ve fns k 0 f.body (bc f.params w0)=aO fns k 0 f.body (bc f.params w0):=rfl
   rw[hb] at hw'
   rw[←hw']
   simp-implicitDefEqProofs[aa,wO,wC]
 refine key.freezeR (λt v h ⟨e,_⟩=>by cases e) λv h ⟨e1,e2⟩=>?_
 cases e1
 rw[OH]
 have hol:=Cd f.params (w0 fns k f)
 have hv:=iH e2
 rw[hol] at hv
 exact .tup (.agg (.keep (by simp) (.one hv (.keep (by simp) .nil))) (.keep (by simp) (.keep (by simp) .nil))) .nil
theorem Gv{fns:List Fd}{i:Nat}(h:i<fns.length):kg fns i (fns.drop i)=if(fnW fns i fns[i]).code=0 then kg fns (i+1) (fns.drop (i+1)) else(fnW fns i fns[i]).code:=by
 rw[ZJ h,kg]
theorem CP(l:List Fd)(hz:aH l<=1073741824):VF Tryz.prog G gx [.agg [.p (fdL l)]] (.p (.int .i64 (aI l))):=by
 refine AC.go tu ?_
 have hll:=fS l
 have hfd:∀l,fdL l= .lst 3 (l.map Fd.cs):=λ_=>rfl
 simp-implicitDefEqProofs[lN]
 refine(mA G l (by omega)).use ?_
 by_cases hv:bA l=true
 case neg=>
  have:aI l=1:=if_neg hv
  have hv':bA l=false:=by simpa using hv
  simp-implicitDefEqProofs[hv',this]
 have hc:aI l=kg l 0 (l.drop 0):=if_pos hv
 rw[hc]
 simp-implicitDefEqProofs[hv]
 refine aN (λi:Nat=>aj 27 [(1,.ptr 0 1 0 0),(3,.p (.int .i64 i))]) (λ_=>[.row 1 [[.p (fdL l)]]]) (λi=>i<=l.length/\kg l 0 l=kg l i (l.drop i)) (λi=>l.length-i) 0 (by simp) (af (by simp) (by simp[okO]) (by simp[below])) ?_
 rintro i ⟨hi,he⟩
 simp-implicitDefEqProofs[hfd]
 refine bi (λh=>?_) (λh=>?_)
 ·simp at h
  have hg:=YO h
  have hd:=Gv h
  simp-implicitDefEqProofs[]
  refine(SY G hg hz).use ?_
  have hrc:=OH l i l[i]
  by_cases h0:(fnW l i l[i]).code=0
  ·rw[if_pos h0] at hd
   simp-implicitDefEqProofs[h0,hrc]
   refine⟨i+1,⟨by omega,by rw[he,hd]⟩,by omega,?_⟩
   refine je (m:=1) (by omega) (eE rfl rfl (by simp[okO,below])) (by simp[below,hfd,w1 (i:=i) (by omega)])
  ·rw[if_neg h0] at hd
   simp-implicitDefEqProofs[h0,hrc]
   rw[he,hd]
 ·simp at h
  have hie:i=l.length:=by omega
  subst hie
  rw[List.drop_length] at he
  simp-implicitDefEqProofs[]
  rw[he];rfl
end
section
variable (G:am)
theorem ll(n lo hi:Int):VF Tryz.prog G de [.p (.int .i64 n),.p (.int .i64 lo),.p (.int .i64 hi)] (.p (.bool (inR n lo hi))):=by
 refine AC.go DF ?_
 by_cases h:lo<=n
 ·simp-implicitDefEqProofs[oD,h,inR]
 ·simp-implicitDefEqProofs[oD,h,inR]
theorem Hb(n:Int):VF Tryz.prog G kD [.p (.int .i64 n)] (.p (.bool (inR n 0 255))):=by
 refine AC.go DY ?_
 simp-implicitDefEqProofs[tT]
 refine(ll G _ _ _).use ?_
 simp-implicitDefEqProofs[]
theorem JI(n:Int):VF Tryz.prog G dE [.p (.int .i32 n)] (.p (.bool (decide (n<97)||decide (122<n)))):=by
 refine AC.go AQ ?_
 simp-implicitDefEqProofs[rf]
 by_cases h:n<97
 ·simp-implicitDefEqProofs[h]
 ·simp-implicitDefEqProofs[h]
theorem RP{s:List UInt8}{i:Nat}(h:i<s.length)(hl:eN s[i]=true):Utf8.decode ⟨⟨s⟩⟩ i=(s[i].toNat,1):=by
 simp only[eN,YX,decide_eq_true_eq] at hl
 exact decode_ascii ⟨⟨s⟩⟩ i h (by show(s[i]).toNat<128;omega)
theorem LD{s:List UInt8}{i:Nat}(h:i<s.length)(hl:¬eN s[i]=true):(((Utf8.decode ⟨⟨s⟩⟩ i).1:Int)<97\/122<((Utf8.decode ⟨⟨s⟩⟩ i).1:Int)):=by
 rcases Zy s[i].toNat 128 with h1|h1
 ·rw[show Utf8.decode ⟨⟨s⟩⟩ i=(s[i].toNat,1) from decode_ascii ⟨⟨s⟩⟩ i h h1]
  simp[eN] at hl
  simp only
  omega
 ·have:=(decode_high ⟨⟨s⟩⟩ i h h1).1
  omega
theorem Iu(s:List UInt8)(hb:s.length<=140737488355328):VF Tryz.prog G gC [.p (.str s),.fn (.func dE) [],.p (.bool true)] (.p (.int .i64 (Fu s))):=by
 refine AC.go tK ?_
 simp-implicitDefEqProofs[lO]
 refine aN (λi:Nat=>aj 21 [(0,.p (.str s)),(1,.fn (.func dE) []),(2,.p (.bool true)),(10,.it 0)]) (λi=>[.sit s i]) (λi=>i<=s.length/\∀x∈s.take i,eN x=true) (λi=>s.length-i) 0 (by simp) ?_ ?_
 ·exact af (by simp) (by simp[okO]) (by simp[below,ah])
 ·intro i ⟨hi,hn⟩
  simp-implicitDefEqProofs[]
  by_cases h1:i<s.length
  ·have hg:=YO h1
   simp-implicitDefEqProofs[h1]
   refine(JI G _).use ?_
   by_cases hl:eN s[i]=true
   ·have hd:=RP h1 hl
    have hl':=hl
    simp only[eN,YX,decide_eq_true_eq] at hl'
    have e1:¬((s[i].toNat:Int)<97):=by omega
    have e2:¬(122<(s[i].toNat:Int)):=by omega
    rw[hd]
    simp-implicitDefEqProofs[e1,e2]
    refine⟨i+1,⟨h1,λp hp=>?_⟩,by omega,af (by simp) (by simp[okO]) (by simp[below,ah])⟩
    rw[an h1] at hp
    rcases YV.1 hp with hp|hp
    ·exact hn p hp
    ·rw[YQ.1 hp];exact hl
   ·have hd:=LD h1 hl
    have hf:Fu s=i:=by
     have:s.findIdx? (λx=> !eN x)=some i:=by
      rw[Zg]
      exact⟨h1,by simpa using hl,λj hj=>by have:=hn s[j] (ZO.2 ⟨j,by omega,rfl⟩);simpa using this⟩
     rw[Fu,this]
    have hdb:(decide (((Utf8.decode ⟨⟨s⟩⟩ i).1:Int)<97)||decide (122<((Utf8.decode ⟨⟨s⟩⟩ i).1:Int)))=true:=by
     rcases hd with h|h<;>simp[h]
    rw[hdb]
    simp-implicitDefEqProofs[hf]
  ·have hn':=hn
   rw[YU (by omega)] at hn'
   have hf:Fu s= -1:=by
    have:s.findIdx? (λx=> !eN x)=none:=by
     rw[Zs];intro x hx;simpa using hn' x hx
    rw[Fu,this]
   simp-implicitDefEqProofs[h1,hf]
theorem HZ(s:List UInt8)(hb:s.length<=140737488355328):VF Tryz.prog G gL [.p (.str s),.fn (.func dE) []] (.p (.int .i64 (Fu s))):=by
 refine AC.go tn ?_
 simp-implicitDefEqProofs[lS]
 refine(Iu G s hb).use ?_
 simp-implicitDefEqProofs[]
theorem Sg(L:List (List UInt8))(s:List UInt8)(hb:L.length<=1048576):VF Tryz.prog G fD [.p (al L),.p (.str s)] (.p (.int .i64 (idxS L s))):=by
 refine AC.go rk ?_
 have hsl:al L= .lst 1 (L.map λw=>[.str w]):=rfl
 simp-implicitDefEqProofs[jQ,hsl]
 refine aN (λi:Nat=>aj 19 [(0,.p (al L)),(1,.p (.str s)),(6,.p (al L)),(7,.p (.int .i64 L.length)),(8,.p (.int .i64 i))]) (λ_=>[]) (λi=>i<=L.length/\∀w∈L.take i,w≠s) (λi=>L.length-i) 0 (by simp) ?_ ?_
 ·exact bJ rfl (by simp[below,al])
 ·intro i ⟨hi,hn⟩
  simp-implicitDefEqProofs[hsl]
  refine bi (λh1=>?_) (λh1=>?_)
  ·simp at h1
   have hg:=YO h1
   by_cases he:L[i]=s
   ·have hf:idxS L s=i:=by
     have:L.findIdx? (λw=>w==s)=some i:=by
      rw[Zg]
      exact⟨h1,by simpa using he,λj hj=>by have:=hn L[j] (ZO.2 ⟨j,by omega,rfl⟩);simpa using this⟩
     rw[idxS,this]
    have he':s=L[i]:=he.symm
    simp-implicitDefEqProofs[hg,hf,←he']
   ·have he':¬s=L[i]:=λe=>he e.symm
    simp-implicitDefEqProofs[hg,he']
    refine⟨i+1,⟨h1,λp hp=>?_⟩,by omega,bJ rfl ?_⟩
    ·rw[an h1] at hp
     rcases YV.1 hp with hp|hp
     ·exact hn p hp
     ·rw[YQ.1 hp];exact he
    ·simp[below,al,w1 (i:=i) (by omega)]
  ·simp at h1
   rw[YU h1] at hn
   have hf:idxS L s= -1:=by
    have:L.findIdx? (λw=>w==s)=none:=by
     rw[Zs];intro x hx;simpa using hn x hx
    rw[idxS,this]
   simp-implicitDefEqProofs[hf]
theorem Iz(L:List (List UInt8))(s:List UInt8)(hb:L.length<=1048576):VF Tryz.prog G dK [.p (al L),.p (.str s)] (.p (.bool (L.contains s))):=by
 rw[←OM]
 refine AC.go oc ?_
 simp-implicitDefEqProofs[gS]
 refine(Sg G L s hb).use ?_
 simp-implicitDefEqProofs[]
abbrev fy:Nat:=1
def fe:List PV:=keyW.map .str
variable (hK:G fy=some fe)
include hK
theorem ru(s:List UInt8)(hb:s.length<=140737488355328):VF Tryz.prog G dc [.p (.str s)] (.p (.bool (aD s))):=by
 refine AC.go DO ?_
 unfold fy at hK
 simp-implicitDefEqProofs[tM]
 refine(ll G _ _ _).use ?_
 have hr:inR (s.length:Int) 1 4=(decide (0<s.length)&&decide (s.length<=4)):=by
  unfold inR
  by_cases h1:0<s.length<;>by_cases h2:s.length<=4<;>simp[h1,h2]<;>omega
 rw[hr]
 have hi:aD s=((decide (0<s.length)&&decide (s.length<=4))&&(s.all eN&& !keyW.contains s)):=by
  rw[aD];cases s.all eN<;>cases decide (0<s.length)<;>cases decide (s.length<=4)<;>rfl
 cases h1:(decide (0<s.length)&&decide (s.length<=4)) with
 |false=>
  rw[hi,h1]
  simp-implicitDefEqProofs[]
 |true=>
  rw[hi,h1]
  simp-implicitDefEqProofs[]
  refine(HZ G s hb).use ?_
  rw[←OU]
  by_cases hn:Fu s<0
  ·simp-implicitDefEqProofs[hn,hK,fe,keyW]
   refine(Iz G keyW s (by decide)).use ?_
   simp-implicitDefEqProofs[keyW]
  ·simp-implicitDefEqProofs[hn]
end
section
theorem AA:AK.whole lK=FK.ak lD:=rfl
abbrev cI:Nat:=2
def opK:List PV:=[.int .i64 3,.int .i64 4,.int .i64 5,.int .i64 6,.int .i64 7,.int .i64 8,.int .i64 9,.int .i64 10]
def opV:List (List PV):=[[.str [43],.int .i64 3],[.str [45],.int .i64 3],[.str [42],.int .i64 4],[.str [47],.int .i64 4],[.str [37],.int .i64 4],[.str [60],.int .i64 2],[.str [61],.int .i64 2],[.str [38],.int .i64 1]]
def lvl(op:Int):Int:=if op=10 then 1 else if op=8 then 2 else if op=9 then 2 else if op=3 then 3 else if op=4 then 3 else 4
def sgB(op:Int):UInt8:=if op=3 then 43 else if op=4 then 45 else if op=5 then 42 else if op=6 then 47 else if op=7 then 37 else if op=8 then 60 else if op=9 then 61 else 38
def sgn(op:Int):Option AV:=if 3<=op/\op<=10 then some (.agg [.p (.str [sgB op]),.p (.int .i64 (lvl op))]) else none
theorem KW(op:Int):(opK.all λk'=>(keq (.int .i64 op) k').isSome)=true:=by simp[opK,keq]
theorem KU(op:Int):gt (.int .i64 op) (MB opK opV)=some (sgn op):=by
 by_cases h:3<=op/\op<=10
 ·have h8:op=3\/op=4\/op=5\/op=6\/op=7\/op=8\/op=9\/op=10:=by omega
  rcases h8 with rfl|rfl|rfl|rfl|rfl|rfl|rfl|rfl<;>rfl
 ·have e:sgn op=none:=if_neg h
  have h3:¬op=3:=by omega
  have h4:¬op=4:=by omega
  have h5:¬op=5:=by omega
  have h6:¬op=6:=by omega
  have h7:¬op=7:=by omega
  have h8:¬op=8:=by omega
  have h9:¬op=9:=by omega
  have h10:¬op=10:=by omega
  rw[e]
  simp[opK,opV,MB,gt,keq,h3,h4,h5,h6,h7,h8,h9,h10]
theorem KK(op:Int):0<lvl op:=by
 unfold lvl
 repeat' split
 all_goals omega
theorem Ux(op:Int):lvl op<6:=by
 unfold lvl
 repeat' split
 all_goals omega
def lvI(op:Int):Int:=if 3<=op/\op<=10 then lvl op else if op=11\/op=12 then 5 else 6
mutual
def Ex.deep:Ex->Nat
 | .mk _ _ _ k=>1+oM k
def oM:List Ex->Nat
 |[]=>0
 |e::r=>max e.deep (oM r)
end
theorem Ex.deep_eq(e:Ex):e.deep=1+oM e.kids:=by cases e;rfl
theorem Gu:∀a b:List Ex,oM (a++b)=max (oM a) (oM b)
 |[],b=>by simp[oM]
 |e::r,b=>by rw[Zx,oM,oM,Gu r b];omega
mutual
theorem Ex.deep_le:∀e:Ex,e.deep<=e.sz
 | .mk _ _ s k=>by have:=Fs k;simp only[Ex.deep,Ex.sz];omega
theorem Fs:∀l:List Ex,oM l<=aY l
 |[]=>YY _
 |e::r=>by have:=e.deep_le;have:=Fs r;simp only[oM,aY];omega
end
theorem sa{α:Type}{p:α->Bool}{xs:List α}{i:Nat}{c:α}(h:xs[i]?=some c):(xs.take (i+1)).all p=((xs.take i).all p&&p c):=by
 rw[List.take_add_one,h,List.all_append];simp
def okE(m:Nat)(e:Ex):Bool:=bV m e&&decide (e.parts<=30)
def AR:Nat->Ex->Bool
 |0,_=>false
 |m+1,e=>lZ e&&e.kids.all (okE m)
theorem It:∀{l:List Ex} {e:Ex},e∈l->e.parts<=fx l
 |x::r,e,h=>by
  simp only[fx]
  rcases Za.1 h with rfl|h
  ·omega
  ·have:=It h;omega
theorem KD(m:Nat)(e:Ex):(AR m e&&decide (e.parts<=30))=okE m e:=by
 cases m with
 |zero=>simp[AR,okE,bV]
 |succ m=>
  by_cases hp:e.parts<=30
  ·have h2:e.kids.all (okE m)=e.kids.all (bV m):=by
    rw[Bool.eq_iff_iff,YW,YW]
    refine⟨λh x hx=>?_,λh x hx=>?_⟩
    ·have:=h x hx;simp only[okE,YX] at this;exact this.1
    ·have h1:=h x hx
     have:=It hx
     have:=e.parts_eq
     simp only[okE,h1,Bool.true_and]
     simp;omega
   simp[AR,okE,bV,h2]
  ·simp[okE,hp]
theorem RO(e:Ex):okE 6 e=iR e:=rfl
def szA(m:Nat)(e:Ex):AV:=if AR m e then .tup [.p (.int .i64 e.parts),.p (.int .i64 e.deep),.p (.bool (decide (e.parts<=30)))] else .tup [.p (.int .i64 0),.p (.int .i64 0),.p (.bool false)]
def cS(e:Ex):Bool:=inR e.op 1 13&&(if e.op=1 then inR e.n 0 255&&decide (e.name=[]) else if e.op=2\/e.op=13 then aD e.name&&decide (e.n=0) else true)
def jZ(e:Ex):Bool:=(decide (e.op=1\/e.op=2\/e.op=13)||(decide (e.n=0)&&decide (e.name=[])))&&inR e.kids.length (loK e.op) (hiK e.op)
theorem uB:aD []=false:=rfl
theorem HA(e:Ex):lZ e=(cS e&&jZ e):=by
 unfold lZ cS jZ Hr
 by_cases h1:e.op=1
 ·simp only[h1]
  cases inR (e.kids.length:Int) (loK 1:Nat) (hiK 1:Nat)<;>by_cases hn:e.name=[]<;>cases h2:inR e.n 0 255<;>simp[hn,uB,inR]
 by_cases h2:e.op=2
 ·simp only[h2]
  cases inR (e.kids.length:Int) (loK 2:Nat) (hiK 2:Nat)<;>cases hi:aD e.name<;>by_cases hn:e.n=0<;>simp[hn,inR]
 by_cases h3:e.op=13
 ·simp only[h3]
  cases inR (e.kids.length:Int) (loK 13:Nat) (hiK 13:Nat)<;>cases hi:aD e.name<;>by_cases hn:e.n=0<;>simp[hn,inR]
 ·cases inR e.op 1 13<;>cases inR (e.kids.length:Int) (loK e.op:Nat) (hiK e.op:Nat)<;>by_cases hn:e.n=0<;>by_cases hm:e.name=[]<;>simp[h1,h2,h3,hn,hm,uB,inR]
variable (G:am) (hK:G fy=some fe) (hS:G cI=some [.tbl opK opV])
include hS
theorem LY(op:Int):VF Tryz.prog G mD [.p (.int .i64 op)] (.p (.int .i64 (lvI op))):=by
 refine AC.go Dm ?_
 have hall:=KW op
 have hget:=KU op
 have hS':=hS
 unfold cI at hS'
 have hlp:=KK op
 by_cases h:3<=op/\op<=10
 ·have e:sgn op=some (.agg [.p (.str [sgB op]),.p (.int .i64 (lvl op))]):=if_pos h
  have e2:lvI op=lvl op:=if_pos h
  rw[e2]
  generalize lvl op=L at*
  simp-implicitDefEqProofs[gg,hS',hall,hget,e,hlp]
 ·have e:sgn op=none:=if_neg h
  by_cases h11:op=11
  ·subst h11;simp-implicitDefEqProofs[gg,hS',hall,hget,e,lvI]
  by_cases h12:op=12
  ·subst h12;simp-implicitDefEqProofs[gg,hS',hall,hget,e,lvI]
  have e2:lvI op=6:=by rw[lvI,if_neg h,if_neg (by simp[h11,h12])]
  simp-implicitDefEqProofs[gg,hS',hall,hget,e,e2,h11,h12]
include hK
theorem Jr:∀(m:Nat) (e:Ex),e.sz<=1073741824->m<=100->VF Tryz.prog G ia [.agg (e.cs.map .p),.p (.int .i64 m)] (szA m e):=by
 intro m
 induction m using Nat.strongRecOn with
 |_ m ih=>
 intro e he hm
 have hec:=e.cs_eq
 have hsz:=e.sz_eq
 have hkl:=bB e.kids
 have hS':=hS
 unfold cI at hS'
 have hall:=KW e.op
 have hget:=KU e.op
 have hxl:exL e.kids= .lst 4 (e.kids.map Ex.cs):=rfl
 have hbad:(cS e&&jZ e&&decide (1<=m))=false->szA m e= .tup [.p (.int .i64 0),.p (.int .i64 0),.p (.bool false)]:=by
  intro h
  have:AR m e=false:=by
   cases m with
   |zero=>rfl
   |succ m=>rw[AR,HA];simp at h;cases h1:cS e<;>cases h2:jZ e<;>simp[h1,h2] at h⊢
  rw[szA,this];rfl
 have hb1:cS e=false->szA m e= .tup [.p (.int .i64 0),.p (.int .i64 0),.p (.bool false)]:=λh=>hbad (by rw[h];rfl)
 refine AC.goK AM AA ?_
 simp-implicitDefEqProofs[lK,lD,hec]
 refine zD (λ_:Unit=>aj 127 [(1,.p (.int .i64 m)),(2,.ptr 0 4 0 0),(7,.p (.int .i64 (loK e.op))),(8,.p (.int .i64 (hiK e.op)))]) (λ_=>[.row 4 [[.p (.int .i64 e.op),.p (.int .i64 e.n),.p (.str e.name),.p (exL e.kids)]]]) (λ_=>cS e=true) ?_ ?_
 ·have fin:∀(r1:List (Nat × AV)),Aw.look r1 1= .p (.int .i64 m)->Aw.look r1 2= .ptr 0 4 0 0->Aw.look r1 7= .p (.int .i64 (loK e.op))->Aw.look r1 8= .p (.int .i64 (hiK e.op))->
   Wk 0 (aj 127 r1) [.row 4 [[.p (.int .i64 e.op),.p (.int .i64 e.n),.p (.str e.name),.p (exL e.kids)]]] (aj 127 [(1,.p (.int .i64 m)),(2,.ptr 0 4 0 0),(7,.p (.int .i64 (loK e.op))),(8,.p (.int .i64 (hiK e.op)))]) [.row 4 [[.p (.int .i64 e.op),.p (.int .i64 e.n),.p (.str e.name),.p (exL e.kids)]]]:=λr1 a b c d=>
   af (by simp) (by simp[okO,below]) (by simp[below,a,b,c,d])
  have hop1:inR (1:Int) 1 13=true:=rfl
  have hop2:inR (2:Int) 1 13=true:=rfl
  have hop13:inR (13:Int) 1 13=true:=rfl
  by_cases o1:e.op=1
  ·rw[o1] at fin⊢
   simp-implicitDefEqProofs[o1]
   refine(Hb G _).use ?_
   by_cases h1:inR e.n 0 255=true
   ·by_cases h2:e.name=[]
    ·have hp:cS e=true:=by simp[cS,o1,h1,h2,hop1]
     rw[h2] at fin
     simp-implicitDefEqProofs[h1,h2,hp]
     exact fin _ (by simp) (by simp) (by simp[loK]) (by simp[hiK])
    ·have hp:cS e=false:=by simp[cS,o1,h1,h2,hop1]
     rw[hb1 hp]
     simp-implicitDefEqProofs[h1,h2]
   ·have hp:cS e=false:=by simp[cS,o1,h1,hop1]
    rw[hb1 hp]
    simp-implicitDefEqProofs[h1]
  by_cases o2:e.op=2
  ·rw[o2] at fin⊢
   simp-implicitDefEqProofs[o2]
   refine(ru G hK _ (by omega)).use ?_
   by_cases h1:aD e.name=true
   ·by_cases h2:e.n=0
    ·have hp:cS e=true:=by simp[cS,o2,h1,h2,hop2]
     rw[h2] at fin
     simp-implicitDefEqProofs[h1,h2,hp]
     exact fin _ (by simp) (by simp) (by simp[loK]) (by simp[hiK])
    ·have hp:cS e=false:=by simp[cS,o2,h1,h2,hop2]
     rw[hb1 hp]
     simp-implicitDefEqProofs[h1,h2]
   ·have hp:cS e=false:=by simp[cS,o2,h1,hop2]
    rw[hb1 hp]
    simp-implicitDefEqProofs[h1]
  by_cases o13:e.op=13
  ·rw[o13] at fin⊢
   simp-implicitDefEqProofs[o13]
   refine(ru G hK _ (by omega)).use ?_
   by_cases h1:aD e.name=true
   ·by_cases h2:e.n=0
    ·have hp:cS e=true:=by simp[cS,o13,h1,h2,hop13]
     rw[h2] at fin
     simp-implicitDefEqProofs[h1,h2,hp]
     exact fin _ (by simp) (by simp) (by simp[loK]) (by simp[hiK])
    ·have hp:cS e=false:=by simp[cS,o13,h1,h2,hop13]
     rw[hb1 hp]
     simp-implicitDefEqProofs[h1,h2]
   ·have hp:cS e=false:=by simp[cS,o13,h1,hop13]
    rw[hb1 hp]
    simp-implicitDefEqProofs[h1]
  have hlp:=KK e.op
  by_cases h:3<=e.op/\e.op<=10
  ·have es:sgn e.op=some (.agg [.p (.str [sgB e.op]),.p (.int .i64 (lvl e.op))]):=if_pos h
   have hp:cS e=true:=by simp[cS,o1,o2,o13,inR];omega
   have o11:¬e.op=11:=by omega
   have o12:¬e.op=12:=by omega
   have elo:loK e.op=2:=by simp[loK,o1,o2,o11,o12,o13]
   have ehi:hiK e.op=2:=by simp[hiK,o1,o2,o11,o12,o13]
   generalize lvl e.op=L at*
   simp-implicitDefEqProofs[o1,o2,o13,hS',hall,hget,es,hlp,hp]
   exact fin _ (by simp) (by simp) (by simp[elo]) (by simp[ehi])
  have es:sgn e.op=none:=if_neg h
  by_cases o11:e.op=11
  ·have hp:cS e=true:=by simp[cS,o11,inR]
   have elo:loK e.op=1:=by simp[loK,o11]
   have ehi:hiK e.op=1:=by simp[hiK,o11]
   rw[o11] at hall hget es fin
   simp-implicitDefEqProofs[o11,hS',hall,hget,es,hp]
   exact fin _ (by simp) (by simp) (by simp[loK]) (by simp[hiK])
  by_cases o12:e.op=12
  ·have hp:cS e=true:=by simp[cS,o12,inR]
   rw[o12] at hall hget es fin
   simp-implicitDefEqProofs[o12,hS',hall,hget,es,hp]
   exact fin _ (by simp) (by simp) (by simp[loK]) (by simp[hiK])
  ·have hp:cS e=false:=by simp[cS,o1,o2,o13,inR];omega
   rw[hb1 hp]
   simp-implicitDefEqProofs[o1,o2,o13,hS',hall,hget,es,o11,o12]
 intro _ hp
 have hop:1<=e.op/\e.op<=13:=by
  simp only[cS,YX,inR,decide_eq_true_eq] at hp
  exact hp.1
 have hb2:jZ e=false->szA m e= .tup [.p (.int .i64 0),.p (.int .i64 0),.p (.bool false)]:=λh=>hbad (by rw[h];simp)
 have hb3:m<1->szA m e= .tup [.p (.int .i64 0),.p (.int .i64 0),.p (.bool false)]:=by
  intro h
  have hd:decide (1<=m)=false:=by simp;omega
  exact hbad (by rw[hd];simp)
 refine zD (λ_:Unit=>aj 127 [(1,.p (.int .i64 m)),(2,.ptr 0 4 0 0)]) (λ_=>[.row 4 [[.p (.int .i64 e.op),.p (.int .i64 e.n),.p (.str e.name),.p (exL e.kids)]]]) (λ_=>jZ e=true/\1<=m) ?_ ?_
 ·have fin:∀(r1:List (Nat × AV)),Aw.look r1 1= .p (.int .i64 m)->Aw.look r1 2= .ptr 0 4 0 0->
   Wk 0 (aj 127 r1) [.row 4 [[.p (.int .i64 e.op),.p (.int .i64 e.n),.p (.str e.name),.p (exL e.kids)]]] (aj 127 [(1,.p (.int .i64 m)),(2,.ptr 0 4 0 0)]) [.row 4 [[.p (.int .i64 e.op),.p (.int .i64 e.n),.p (.str e.name),.p (exL e.kids)]]]:=λr1 a b=>
   af (by simp) (by simp[okO,below]) (by simp[below,a,b])
  simp-implicitDefEqProofs[]
  refine(LY G hS e.op).use ?_
  by_cases ho:e.op=1\/e.op=2\/e.op=13
  ·have hlv:lvI e.op=6:=by
    rw[lvI,if_neg (by omega),if_neg (by omega)]
   have hd:decide (e.op=1\/e.op=2\/e.op=13)=true:=by simpa using ho
   simp-implicitDefEqProofs[hlv,hxl]
   refine(ll G _ _ _).use ?_
   by_cases hk:inR e.kids.length (loK e.op) (hiK e.op)=true
   ·have hr:jZ e=true:=by rw[jZ,hd,hk];rfl
    by_cases hm1:m<1
    ·have hm1':(m:Int)<1:=by omega
     rw[hb3 hm1]
     simp-implicitDefEqProofs[hk,hm1']
    ·have hm1':¬(m:Int)<1:=by omega
     have hm2:1<=m:=by omega
     simp-implicitDefEqProofs[hk,hm1',hr,hm2]
     exact fin _ (by simp) (by simp)
   ·have hk':inR e.kids.length (loK e.op) (hiK e.op)=false:=by simpa using hk
    have hr:jZ e=false:=by rw[jZ,hk',Bool.and_false]
    rw[hb2 hr]
    simp-implicitDefEqProofs[hk']
  ·have hlv:lvI e.op<6:=by
    have:=Ux e.op
    unfold lvI
    split
    ·exact this
    ·rw[if_pos (by omega)];omega
   have hd:decide (e.op=1\/e.op=2\/e.op=13)=false:=by simpa using ho
   generalize lvI e.op=L at hlv⊢
   by_cases h1:e.n=0
   ·by_cases h2:e.name=[]
    ·have hz:decide (e.n=0)=true/\decide (e.name=[])=true:=by simp[h1,h2]
     simp-implicitDefEqProofs[hlv,h1,h2,hxl]
     refine(ll G _ _ _).use ?_
     rw[h1,h2] at fin
     by_cases hk:inR e.kids.length (loK e.op) (hiK e.op)=true
     ·have hr:jZ e=true:=by rw[jZ,hd,hk,hz.1,hz.2];rfl
      by_cases hm1:m<1
      ·have hm1':(m:Int)<1:=by omega
       rw[hb3 hm1]
       simp-implicitDefEqProofs[hk,hm1']
      ·have hm1':¬(m:Int)<1:=by omega
       have hm2:1<=m:=by omega
       simp-implicitDefEqProofs[hk,hm1',hr,hm2]
       exact fin _ (by simp) (by simp)
     ·have hk':inR e.kids.length (loK e.op) (hiK e.op)=false:=by simpa using hk
      have hr:jZ e=false:=by rw[jZ,hk',Bool.and_false]
      rw[hb2 hr]
      simp-implicitDefEqProofs[hk']
    ·have hr:jZ e=false:=by rw[jZ,hd];simp[h2]
     rw[hb2 hr]
     simp-implicitDefEqProofs[hlv,h1,h2]
   ·have hr:jZ e=false:=by rw[jZ,hd];simp[h1]
    rw[hb2 hr]
    simp-implicitDefEqProofs[hlv,h1]
 rintro _ ⟨hr,hm1⟩
 have hhd:lZ e=true:=by rw[HA,hp,hr];rfl
 obtain⟨m',rfl⟩:∃m',m=m'+1:=⟨m-1,by omega⟩
 have hszO:AR (m'+1) e=e.kids.all (okE m'):=by rw[AR,hhd];rfl
 have hpe:=e.parts_eq
 have hde:=e.deep_eq
 have hpl:=e.parts_le
 have hwm:IntKind.i64.wrap (((m'+1:Nat):Int)-1)=(m':Int):=by rw[ab (by omega) (by omega)];omega
 simp-implicitDefEqProofs[hxl]
 refine aN (λi:Nat=>aj 127 [(1,.p (.int .i64 ((m':Int)+1))),(2,.ptr 0 4 0 0),(9,.p (.int .i64 ((1+fx (e.kids.take i):Nat):Int))),(10,.p (.int .i64 ((1+oM (e.kids.take i):Nat):Int))),(99,.p (exL e.kids)),(100,.p (.int .i64 e.kids.length)),(101,.p (.int .i64 i))])
  (λ_=>[.row 4 [[.p (.int .i64 e.op),.p (.int .i64 e.n),.p (.str e.name),.p (exL e.kids)]]]) (λi=>i<=e.kids.length/\(e.kids.take i).all (okE m')=true) (λi=>e.kids.length-i) 0 (by simp) ?_ ?_
 ·exact af (by simp) (by simp[okO,below]) (by simp[below,hxl,fx,oM])
 rintro i ⟨hi,ha⟩
 have hwm':IntKind.i64.wrap (m':Int)=(m':Int):=ab (by omega) (by omega)
 simp-implicitDefEqProofs[hxl]
 refine bi (λh=>?_) (λh=>?_)
 ·simp at h
  have hg:=YO h
  have hks:=bS (Zf h)
  have hkc:=e.kids[i].cs_eq
  have hpt:fx (e.kids.take (i+1))=fx (e.kids.take i)+e.kids[i].parts:=by rw[an h,lq];simp[fx]
  have hdt:oM (e.kids.take (i+1))=max (oM (e.kids.take i)) e.kids[i].deep:=by rw[an h,Gu];simp[oM]
  have hpl1:fx (e.kids.take (i+1))<=e.parts:=by
   have:=lq (e.kids.take (i+1)) (e.kids.drop (i+1))
   rw[ZH] at this
   omega
  have hok:=KD m' e.kids[i]
  have hdl:e.kids[i].deep<=e.kids[i].sz:=Ex.deep_le _
  have hdl2:oM (e.kids.take i)<=e.sz:=by
   have h1:=Fs (e.kids.take i)
   have h2:=gd (e.kids.take i) (e.kids.drop i)
   rw[ZH] at h2
   omega
  generalize e.kids[i]=c at*
  simp-implicitDefEqProofs[hg,hkc,hwm']
  have hI:=ih m' (by omega) c (by omega) (by omega)
  rw[hkc] at hI
  by_cases ho:okE m' c=true
  ·have h1:AR m' c=true/\c.parts<=30:=by rw[ho] at hok;simpa using hok
   have hA:szA m' c= .tup [.p (.int .i64 c.parts),.p (.int .i64 c.deep),.p (.bool true)]:=by rw[szA,if_pos h1.1];simp[h1.2]
   rw[hA] at hI
   refine hI.use ?_
   have hw1:IntKind.i64.wrap (1+(fx (e.kids.take i):Int)+(c.parts:Int))=((1+fx (e.kids.take (i+1)):Nat):Int):=by rw[ab (by omega) (by omega)];omega
   have hw2:IntKind.i64.wrap ((c.deep:Int)+1)=(c.deep:Int)+1:=ab (by omega) (by omega)
   have hmx:(if 1+(oM (e.kids.take i):Int)<(c.deep:Int)+1 then(c.deep:Int)+1 else 1+(oM (e.kids.take i):Int))=1+(oM (e.kids.take (i+1)):Int):=by
    rw[hdt];split<;>omega
   simp-implicitDefEqProofs[hw1,hw2,hmx]
   refine⟨i+1,⟨h,by rw[←YW,sa hg,ha,ho];rfl⟩,by omega,?_⟩
   refine je (m:=1) (by omega) (eE rfl rfl (by simp[okO,below])) (by simp[below,hxl,w1 (i:=i) (by omega)])
  ·have hf:e.kids.all (okE m')=false:=List.all_eq_false.2 ⟨c,YS hg,by simpa using ho⟩
   have hA2:szA (m'+1) e= .tup [.p (.int .i64 0),.p (.int .i64 0),.p (.bool false)]:=by rw[szA,hszO,hf];rfl
   rw[hA2]
   by_cases h1:AR m' c=true
   ·have h2:¬c.parts<=30:=λh2=>ho (by rw[←hok,h1];simpa using h2)
    have hA:szA m' c= .tup [.p (.int .i64 c.parts),.p (.int .i64 c.deep),.p (.bool false)]:=by rw[szA,if_pos h1];simp[h2]
    rw[hA] at hI
    refine hI.use ?_
    simp-implicitDefEqProofs[]
   ·have hA:szA m' c= .tup [.p (.int .i64 0),.p (.int .i64 0),.p (.bool false)]:=by rw[szA,if_neg h1]
    rw[hA] at hI
    refine hI.use ?_
    simp-implicitDefEqProofs[]
 ·simp at h
  rw[YU h] at ha⊢
  have hA:szA (m'+1) e= .tup [.p (.int .i64 e.parts),.p (.int .i64 e.deep),.p (.bool (decide (e.parts<=30)))]:=by rw[szA,hszO,ha];rfl
  rw[hA,hpe,hde]
  simp-implicitDefEqProofs[]
  omega
theorem Iw(e:Ex)(he:e.sz<=1073741824):VF Tryz.prog G gq [.agg (e.cs.map .p)] (.p (.bool (iR e))):=by
 refine AC.go zQ ?_
 have hec:=e.cs_eq
 have hx:=Jr G hK hS 6 e he (by omega)
 rw[hec] at hx
 simp-implicitDefEqProofs[oL,hec]
 rw[←RO,←KD]
 unfold szA at hx
 by_cases h:AR 6 e=true
 ·rw[if_pos h] at hx
  rw[h]
  refine hx.use ?_
  simp-implicitDefEqProofs[]
 ·have h':AR 6 e=false:=by simpa using h
  rw[if_neg h] at hx
  rw[h']
  refine hx.use ?_
  simp-implicitDefEqProofs[]
end
section
def ur:AK:=xy [yA 2 5,xm] [wT 12 2,qr 13 12,xr 14 gY 13,qg 11 14,wP 15 0 11,wP 16 1 11,wP 17 2 11,wP 18 3 11,qg 5 15,x9 16,qg 7 17,qg 8 18] (.cut (.blk 0 (wN [xh 20,yu 21 20 4,qg 19 21] 19 (wL [xw 22 2,qr 23 22,wq 24 23,xt 25,wo 26 .neq 24 25,qg 19 26] 19 (.cut (.reg [qg 27 6,qg 28 27,wS 29 28 1 2,wQ 30 28 29,qK 31 28 (.call dc (xq 30)),qK 32 28 (wn 31),xR 33 28 32,qg 19 33]) (xE 19 (.cut (.reg [qg 34 6,xv 35 34,qg 36 35,wS 37 36 1 2,wQ 38 36 37,qK 39 36 (yq .neq 38 (.c qG)),xR 40 36 39,qg 19 40]) (xE 19 (.cut (.reg [yh 41,xv 42 41,qg 43 42,wS 44 43 3 2,wQ 45 43 44,qK 46 43 (wd 45),xT 47 43 .gtr 46 0,xR 48 43 47,qg 19 48]) (xE 19 (.cut (.reg [yd 49,xv 50 49,qg 51 50,wS 52 51 4 2,wQ 53 51 52,qK 54 51 (wd 53),xT 55 51 .gtr 54 0,xR 56 51 55,qg 19 56]) (xE 19 (.reg [wT 57 2,qr 58 57,wb 59 58 8,qg 60 59,wS 61 60 2 2,wQ 62 60 61,qK 63 60 (qW 4 62 yi),wS 64 60 0 63,wQ 65 60 64,xT 66 60 .neq 65 13,xR 67 60 66,qg 19 67])))))))))) (qp 19 (qA [xm]) .skip))) (xV (yC [xw 68 2,qr 69 68,wq 70 69,wY 71] 1 [xa 72 71 70] 72 (.exit 1) (wx 2 (qe [wB 73 4 69 71,yb 74 73,qX 10 [qD,qD,qG,.nils],qQ 4 10 74] (wl [yb 75 10,xr 76 gq 75,xv 77 76] 77 [xm])) (yw 78 71 71 78))) [xW 79 2,qr 80 79,xh 81,x8 82 81,wF 83 dr 80 82,qg 84 83,wS 85 84 4 2,wQ 86 84 85,xS 87 84 1,xT 88 84 .add 87 1,qK 89 84 (xJ dr 86 (.t 88)),xR 90 84 89,yz 90]))
theorem DH:AK.whole ur=FK.ak kC:=rfl
variable (G:am)
def tI(op:Int):Int:=if op=4 then 2 else if inR op 1 8 then 1 else-1
def lz(op:Int):Bool:=decide (op=5)||decide (op=6)
theorem Cl(op:Int):VF Tryz.prog G gY [.p (.int .i64 op)] (.tup [.p (.int .i64 (tI op)),.p (.bool (dj op)),.p (.bool (lz op)),.p (.bool (decide (op=5)))]):=by
 refine AC.go AL ?_
 by_cases h1:op=1
 ·subst h1;simp-implicitDefEqProofs[bw,tI,inR,dj,lz]
 by_cases h2:op=2
 ·subst h2;simp-implicitDefEqProofs[bw,tI,inR,dj,lz]
 by_cases h3:op=3
 ·subst h3;simp-implicitDefEqProofs[bw,tI,inR,dj,lz]
 by_cases h4:op=4
 ·subst h4;simp-implicitDefEqProofs[bw,tI,inR,dj,lz]
 by_cases h5:op=5
 ·subst h5;simp-implicitDefEqProofs[bw,tI,inR,dj,lz]
 by_cases h6:op=6
 ·subst h6;simp-implicitDefEqProofs[bw,tI,inR,dj,lz]
 by_cases h7:op=7
 ·subst h7;simp-implicitDefEqProofs[bw,tI,inR,dj,lz]
 by_cases h8:op=8
 ·subst h8;simp-implicitDefEqProofs[bw,tI,inR,dj,lz]
 have ha:tI op= -1:=by
  have:inR op 1 8=false:=by simp[inR];omega
  rw[tI,if_neg h4,this];rfl
 have hn:dj op=false:=by simp[dj,h1,h2]
 have hb:lz op=false:=by simp[lz,h5,h6]
 rw[ha,hn,hb]
 simp-implicitDefEqProofs[bw,h1,h2,h3,h4,h5,h6,h7,h8]
def Jt:List Ex->Bool
 |a::_=>decide (a.op=13)
 |[]=>false
def lw(s:Sm):Bool:=decide ((s.args.length:Int)=tI s.op)&&(!dj s.op||aD s.name)&&(dj s.op||decide (s.name=[]))&&(lz s.op||decide (s.body=[]))&&(decide (s.op=5)||decide (s.els=[]))&&
 (!decide (s.op=8)||Jt s.args)
theorem Mz(s:Sm):gu s=(inR s.op 1 8&&decide (s.args.length=iI s.op)&&(dj s.op==aD s.name)&&(dj s.op||decide (s.name=[]))&&s.args.all iR&&
 (!decide (s.op=8)||Jt s.args)&&(s.els.isEmpty||decide (s.op=5))&&(s.body.isEmpty||decide (s.op=5)||decide (s.op=6))):=by
 unfold gu
 cases s.args<;>rfl
theorem GA(s:Sm):gu s=(lw s&&s.args.all iR):=by
 have ha:decide ((s.args.length:Int)=tI s.op)=(inR s.op 1 8&&decide (s.args.length=iI s.op)):=by
  unfold tI iI
  by_cases h4:s.op=4
  ·have:inR s.op 1 8=true:=by simp[inR,h4]
   rw[this,if_pos h4,if_pos h4];simp;omega
  ·rw[if_neg h4,if_neg h4]
   cases h:inR s.op 1 8 with
   |true=>simp;omega
   |false=>simp
 have hn:(dj s.op==aD s.name&&(dj s.op||decide (s.name=[])))=((!dj s.op||aD s.name)&&(dj s.op||decide (s.name=[]))):=by
  cases dj s.op with
  |true=>cases aD s.name<;>rfl
  |false=>
   by_cases h:s.name=[]
   ·rw[h,uB];rfl
   ·simp[h]
 have hb:(s.body.isEmpty||decide (s.op=5)||decide (s.op=6))=(lz s.op||decide (s.body=[])):=by
  rw[lz]
  cases s.body<;>cases decide (s.op=5)<;>cases decide (s.op=6)<;>simp
 have he:(s.els.isEmpty||decide (s.op=5))=(decide (s.op=5)||decide (s.els=[])):=by
  cases s.els<;>cases decide (s.op=5)<;>simp
 rw[Mz]
 unfold lw
 rw[ha,hb,he]
 generalize Jt s.args=z
 generalize (dj s.op==aD s.name)=c at hn⊢
 generalize (!dj s.op||aD s.name)=c' at hn⊢
 generalize (dj s.op||decide (s.name=[]))=d at hn⊢
 generalize s.args.all iR=x
 generalize (lz s.op||decide (s.body=[]))=y
 generalize (decide (s.op=5)||decide (s.els=[]))=y'
 generalize (!decide (s.op=8))=u
 cases inR s.op 1 8<;>cases decide (s.args.length=iI s.op)<;>cases c<;>cases c'<;>cases d<;>cases x<;>cases y<;>cases y'<;>cases u<;>cases z<;>simp_all
variable (hK:G fy=some fe) (hS:G cI=some [.tbl opK opV])
def Jf(d:Nat)(L:List Sm):Int:=match L.findIdx? (λs=> !az d s) with|some i=>i|none=> -1
theorem NZ(d:Nat)(L:List Sm):decide (0<=Jf d L)= !(L.all (az d)):=by
 unfold Jf
 cases h:L.findIdx? (λx=> !az d x) with
 |none=>
  rw[Zs] at h
  have:L.all (az d)=true:=YW.2 λx hx=>by have:=h x hx;simpa using this
  simp[this]
 |some i=>
  rw[Zg] at h
  obtain⟨h1,h2,_⟩:=h
  have:L.all (az d)=false:=List.all_eq_false.2 ⟨_,Zf h1,by simpa using h2⟩
  rw[this];simp
theorem Ax(d:Nat)(nest:Int)(hs:∀s:Sm,s.sz<=1073741824->VF Tryz.prog G kM [.agg (s.cs.map .p),.p (.int .i64 nest)] (.p (.bool (az d s))))(L:List Sm)(hL:ay L<=1073741824):
 VF Tryz.prog G dr [.p (smL L),.p (.int .i64 nest)] (.p (.bool (L.all (az d)))):=by
 have hsl:smL L= .lst 5 (L.map Sm.cs):=rfl
 have hll:=cC L
 have dT:∀s:Sm,s.sz<=1073741824->AC Tryz.prog G dk [.agg (s.cs.map .p),.ptr 0 1 0 0] [.row 1 [[.p (.int .i64 nest)]]] λx h=>x= .ret (.p (.bool (!az d s)))/\h=[.row 1 [[.p (.int .i64 nest)]]]:=by
  intro s hz
  refine AC.trim (AC.go zZ ?_) (by simp[below])
  have hse:=s.cs_eq
  have h1:=hs s hz
  rw[hse] at h1
  simp-implicitDefEqProofs[pa,hse]
  refine h1.use ?_
  simp-implicitDefEqProofs[]
 have idx:AC Tryz.prog G cN [.p (smL L),.fn (.func dk) [.ptr 0 1 0 0]] [.row 1 [[.p (.int .i64 nest)]]] λx h=>x= .ret (.p (.int .i64 (Jf d L)))/\h=[.row 1 [[.p (.int .i64 nest)]]]:=by
  refine AC.go lC ?_
  simp-implicitDefEqProofs[fp,hsl]
  refine aN (λi:Nat=>aj 19 [(0,.p (smL L)),(1,.fn (.func dk) [.ptr 0 1 0 0]),(7,.p (.int .i64 L.length)),(8,.p (.int .i64 i))]) (λ_=>[.row 1 [[.p (.int .i64 nest)]]]) (λi=>i<=L.length/\∀w∈L.take i,az d w=true) (λi=>L.length-i) 0 (by simp) ?_ ?_
  ·exact af (by simp) (by simp[okO,below]) (by simp[below,ah,hsl])
  ·intro i ⟨hi,hn⟩
   simp-implicitDefEqProofs[hsl]
   refine bi (λh1=>?_) (λh1=>?_)
   ·simp at h1
    have hg:=YO h1
    have hz:=ew (Zf h1)
    simp-implicitDefEqProofs[hg]
    refine(dT L[i] (by omega)).mono ?_
    rintro r h ⟨rfl,rfl⟩
    by_cases he:az d L[i]=true
    ·simp-implicitDefEqProofs[aa,he]
     refine⟨i+1,⟨h1,λp hp=>?_⟩,by omega,af (by simp) (by simp[okO,below]) (by simp[below,ah,hsl,w1 (i:=i) (by omega)])⟩
     rw[an h1] at hp
     rcases YV.1 hp with hp|hp
     ·exact hn p hp
     ·rw[YQ.1 hp];exact he
    ·have hf:Jf d L=i:=by
      have:L.findIdx? (λw=> !az d w)=some i:=by
       rw[Zg]
       exact⟨h1,by simpa using he,λj hj=>by have:=hn L[j] (ZO.2 ⟨j,by omega,rfl⟩);simpa using this⟩
      rw[Jf,this]
     simp-implicitDefEqProofs[aa,he,hf]
   ·simp at h1
    rw[YU h1] at hn
    have hf:Jf d L= -1:=by
     have:L.findIdx? (λw=> !az d w)=none:=by
      rw[Zs];intro x hx;simpa using hn x hx
     rw[Jf,this]
    simp-implicitDefEqProofs[hf]
 have con:AC Tryz.prog G ck [.p (smL L),.fn (.func dk) [.ptr 0 1 0 0]] [.row 1 [[.p (.int .i64 nest)]]] λx h=>x= .ret (.p (.bool (!L.all (az d))))/\h=[.row 1 [[.p (.int .i64 nest)]]]:=by
  refine AC.go jK ?_
  simp-implicitDefEqProofs[dP]
  refine idx.mono ?_
  rintro r h ⟨rfl,rfl⟩
  have:=NZ d L
  simp-implicitDefEqProofs[aa]
  simpa using this
 refine AC.go Ds ?_
 simp-implicitDefEqProofs[rC]
 refine con.mono ?_
 rintro r h ⟨rfl,rfl⟩
 simp-implicitDefEqProofs[aa]
include hS hK
theorem Pv:∀d:Nat,d<=4->∀s:Sm,s.sz<=1073741824->VF Tryz.prog G kM [.agg (s.cs.map .p),.p (.int .i64 (5-d))] (.p (.bool (az d s))):=by
 intro d
 induction d with
 |zero=>
  intro _ s hz
  have hse:=s.cs_eq
  refine AC.go um ?_
  simp-implicitDefEqProofs[kC,hse]
  refine(Cl G _).use ?_
  simp-implicitDefEqProofs[az]
 |succ d ih=>
  intro hd s hz
  have hse:=s.cs_eq
  have hsz:=s.sz_eq
  have hal:=bB s.args
  have hblk:=Ax G d (5-d) (ih (by omega))
  have hnn:(5:Int)-((d+1:Nat):Int)=4-d:=by omega
  have hnw:IntKind.i64.wrap (4-(d:Int)+1)=5-d:=by rw[ab (by omega) (by omega)];omega
  have hn4:¬(4:Int)<4-d:=by omega
  have hxl:exL s.args= .lst 4 (s.args.map Ex.cs):=rfl
  have hsl:∀l,smL l= .lst 5 (l.map Sm.cs):=λ_=>rfl
  rw[hnn]
  have hbad:lw s=false->az (d+1) s=false:=λh=>by rw[az,GA,h];rfl
  refine AC.goK um DH ?_
  simp-implicitDefEqProofs[ur,kC,hse]
  refine(Cl G _).use ?_
  simp-implicitDefEqProofs[]
  refine zD (λ_:Unit=>aj 91 [(1,.p (.int .i64 (4-d))),(2,.ptr 0 5 0 0)]) (λ_=>[.row 5 [[.p (.int .i64 s.op),.p (.str s.name),.p (exL s.args),.p (smL s.body),.p (smL s.els)]]]) (λ_=>lw s=true) ?_ ?_
  ·have fin:∀(r1:List (Nat × AV)),Aw.look r1 1= .p (.int .i64 (4-d))->Aw.look r1 2= .ptr 0 5 0 0->
    Wk 0 (aj 91 r1) [.row 5 [[.p (.int .i64 s.op),.p (.str s.name),.p (exL s.args),.p (smL s.body),.p (smL s.els)]]] (aj 91 [(1,.p (.int .i64 (4-d))),(2,.ptr 0 5 0 0)]) [.row 5 [[.p (.int .i64 s.op),.p (.str s.name),.p (exL s.args),.p (smL s.body),.p (smL s.els)]]]:=λr1 a b=>
    af (by simp) (by simp[okO,below]) (by simp[below,a,b])
   have hb0:s.body=[]\/0<s.body.length:=by cases s.body<;>simp
   have he0:s.els=[]\/0<s.els.length:=by cases s.els<;>simp
   by_cases hl:(s.args.length:Int)=tI s.op
   case neg=>
    rw[hbad (by simp[lw,hl])]
    simp-implicitDefEqProofs[hn4,hxl,hl]
   have hel:(decide (s.els=[]))= !decide (0<s.els.length):=by cases s.els<;>simp
   have hbo:(decide (s.body=[]))= !decide (0<s.body.length):=by cases s.body<;>simp
   simp-implicitDefEqProofs[hn4,hxl,hl]
   refine nk (aj 91 [(1,.p (.int .i64 (4-d))),(2,.ptr 0 5 0 0),(6,.p (.bool (dj s.op))),(7,.p (.bool (lz s.op))),(8,.p (.bool (decide (s.op=5)))),(19,.p (.bool (dj s.op&& !aD s.name)))]) ([.row 5 [[.p (.int .i64 s.op),.p (.str s.name),.p (exL s.args),.p (smL s.body),.p (smL s.els)]]]) ?_ ?_
   ·cases hn:dj s.op with
    |true=>
     simp-implicitDefEqProofs[]
     refine(ru G hK _ (by omega)).use ?_
     simp-implicitDefEqProofs[]
     exact af (by simp) (by simp[okO,below]) (by simp[below])
    |false=>
     simp-implicitDefEqProofs[]
     exact af (by simp) (by simp[okO,below]) (by simp[below])
   by_cases h2:(dj s.op&& !aD s.name)=true
   ·rw[hbad (by simp only[lw];cases h:dj s.op<;>cases h':aD s.name<;>simp[h,h'] at h2⊢)]
    simp-implicitDefEqProofs[h2]
   have h2':(dj s.op&& !aD s.name)=false:=by simpa using h2
   rw[h2']
   simp-implicitDefEqProofs[]
   refine nk (aj 91 [(1,.p (.int .i64 (4-d))),(2,.ptr 0 5 0 0),(6,.p (.bool (dj s.op))),(7,.p (.bool (lz s.op))),(8,.p (.bool (decide (s.op=5)))),(19,.p (.bool (!dj s.op&& !decide (s.name=[]))))]) ([.row 5 [[.p (.int .i64 s.op),.p (.str s.name),.p (exL s.args),.p (smL s.body),.p (smL s.els)]]]) ?_ ?_
   ·cases hn:dj s.op with
    |true=>
     simp-implicitDefEqProofs[]
     exact af (by simp) (by simp[okO,below]) (by simp[below])
    |false=>
     simp-implicitDefEqProofs[]
     exact af (by simp) (by simp[okO,below]) (by simp[below])
   by_cases h3:(!dj s.op&& !decide (s.name=[]))=true
   ·rw[hbad (by simp only[lw];cases h:dj s.op<;>cases h':decide (s.name=[])<;>simp[h,h'] at h3⊢)]
    simp-implicitDefEqProofs[h3]
   have h3':(!dj s.op&& !decide (s.name=[]))=false:=by simpa using h3
   rw[h3']
   simp-implicitDefEqProofs[]
   refine nk (aj 91 [(1,.p (.int .i64 (4-d))),(2,.ptr 0 5 0 0),(6,.p (.bool (dj s.op))),(7,.p (.bool (lz s.op))),(8,.p (.bool (decide (s.op=5)))),(19,.p (.bool (!lz s.op&&decide (0<s.body.length))))]) ([.row 5 [[.p (.int .i64 s.op),.p (.str s.name),.p (exL s.args),.p (smL s.body),.p (smL s.els)]]]) ?_ ?_
   ·cases hn:lz s.op with
    |true=>
     simp-implicitDefEqProofs[hsl]
     exact af (by simp) (by simp[okO,below]) (by simp[below])
    |false=>
     simp-implicitDefEqProofs[hsl]
     exact af (by simp) (by simp[okO,below]) (by simp[below])
   by_cases h4:(!lz s.op&&decide (0<s.body.length))=true
   ·rw[hbad (by simp only[lw,hbo];cases h:lz s.op<;>cases h':decide (0<s.body.length)<;>simp[h,h'] at h4⊢)]
    simp-implicitDefEqProofs[h4]
   have h4':(!lz s.op&&decide (0<s.body.length))=false:=by simpa using h4
   rw[h4']
   simp-implicitDefEqProofs[]
   refine nk (aj 91 [(1,.p (.int .i64 (4-d))),(2,.ptr 0 5 0 0),(6,.p (.bool (dj s.op))),(7,.p (.bool (lz s.op))),(8,.p (.bool (decide (s.op=5)))),(19,.p (.bool (!decide (s.op=5)&&decide (0<s.els.length))))]) ([.row 5 [[.p (.int .i64 s.op),.p (.str s.name),.p (exL s.args),.p (smL s.body),.p (smL s.els)]]]) ?_ ?_
   ·cases hn:decide (s.op=5) with
    |true=>
     simp-implicitDefEqProofs[hsl]
     exact af (by simp) (by simp[okO,below]) (by simp[below])
    |false=>
     simp-implicitDefEqProofs[hsl]
     exact af (by simp) (by simp[okO,below]) (by simp[below])
   by_cases h5:(!decide (s.op=5)&&decide (0<s.els.length))=true
   ·rw[hbad (by simp only[lw,hel];cases h:decide (s.op=5)<;>cases h':decide (0<s.els.length)<;>simp[h,h'] at h5⊢)]
    simp-implicitDefEqProofs[h5]
   have h5':(!decide (s.op=5)&&decide (0<s.els.length))=false:=by simpa using h5
   rw[h5']
   have hh1:lw s=(!decide (s.op=8)||Jt s.args):=by
    simp only[lw,hl,decide_true,Bool.true_and,hel,hbo]
    cases h:dj s.op<;>cases hi:aD s.name<;>cases hm:decide (s.name=[])<;>cases hb:lz s.op<;>cases hc:decide (0<s.body.length)<;>cases ho:decide (s.op=5)<;>cases he:decide (0<s.els.length)<;>simp[h,hi,hm,hb,hc,ho,he] at h2' h3' h4' h5'⊢
   by_cases o8:s.op=8
   ·have ha1:s.args.length=1:=by
     have:tI s.op=1:=by rw[o8];rfl
     omega
    obtain⟨a0,ha0⟩:∃a0,s.args=[a0]:=by
     match hh:s.args,ha1 with
     |[x],_=>exact⟨x,rfl⟩
    have hae:=a0.cs_eq
    rw[hh1,o8,ha0]
    rw[o8,ha0] at fin
    have hxa:exL [a0]= .lst 4 [a0.cs]:=rfl
    by_cases hc:a0.op=13
    ·have h13:Jt [a0]=true:=by simp[Jt,hc]
     simp-implicitDefEqProofs[o8,hae,hc,h13,hxa]
     rw[hxa,hae,hc] at fin
     exact fin _ (by simp) (by simp)
    ·rw[hbad (by rw[hh1,o8,ha0];simp[Jt,hc])]
     simp-implicitDefEqProofs[o8,hae,hc,hxa]
   ·have hh2:lw s=true:=by rw[hh1];simp[o8]
    simp-implicitDefEqProofs[o8,hh2]
    exact fin _ (by simp) (by simp)
  intro _ h1
  have hh:az (d+1) s=(s.args.all iR&&(s.body.all (az d)&&s.els.all (az d))):=by rw[az,GA,h1,Bool.true_and,Bool.and_assoc]
  simp-implicitDefEqProofs[hxl]
  refine aN (λi:Nat=>aj 91 [(1,.p (.int .i64 (4-d))),(2,.ptr 0 5 0 0),(69,.p (exL s.args)),(70,.p (.int .i64 s.args.length)),(71,.p (.int .i64 i))]) (λ_=>[.row 5 [[.p (.int .i64 s.op),.p (.str s.name),.p (exL s.args),.p (smL s.body),.p (smL s.els)]]]) (λi=>i<=s.args.length/\(s.args.take i).all iR=true) (λi=>s.args.length-i) 0 (by simp) ?_ ?_
  ·exact af (by simp) (by simp[okO,below]) (by simp[below,hxl])
  rintro i ⟨hi,ha⟩
  simp-implicitDefEqProofs[hxl]
  refine bi (λh=>?_) (λh=>?_)
  ·simp at h
   have hg:=YO h
   have hks:=bS (Zf h)
   have hkc:=s.args[i].cs_eq
   have hx:=Iw G hK hS s.args[i] (by omega)
   rw[hkc] at hx
   simp-implicitDefEqProofs[hg,hkc]
   refine hx.use ?_
   by_cases ho:iR s.args[i]=true
   ·simp-implicitDefEqProofs[ho]
    refine⟨i+1,⟨h,by rw[←YW,fw h,ha,ho];rfl⟩,by omega,?_⟩
    refine je (m:=1) (by omega) (eE rfl rfl (by simp[okO,below])) (by simp[below,hxl,w1 (i:=i) (by omega)])
   ·have ho':iR s.args[i]=false:=by simpa using ho
    rw[hh,pQ h ho']
    simp-implicitDefEqProofs[ho']
  ·simp at h
   have ha2:s.args.all iR=true:=jA h ha
   rw[hh,ha2,Bool.true_and]
   simp-implicitDefEqProofs[hnw]
   refine(hblk s.body (by omega)).use ?_
   cases hb:s.body.all (az d) with
   |true=>
    simp-implicitDefEqProofs[hnw]
    refine(hblk s.els (by omega)).use ?_
    simp-implicitDefEqProofs[]
   |false=>
    simp-implicitDefEqProofs[]
end
section
variable (G:am)
structure Vis (σ:Type) where
 I:σ->List AO
 n:Nat
 F:FuncId
 caps:List AV
 len:∀st,(I st).length=n
 ok:∀st,∀o∈I st,okO n o
 capsOk:ah n caps
theorem Vis.pre{σ:Type}(V:Vis σ){f:FuncId}{args:List AV}{st st':σ}{v:AV}(H:AC Tryz.prog G f args (V.I st) λx h=>x= .ret v/\h=V.I st')(rest:List AO)(ha:ah V.n args):
 AC Tryz.prog G f args (V.I st++rest) λx h=>x= .ret v/\h=V.I st'++rest:=by
 refine(AC.pre H rest (by rw[V.len];exact ha) (by rw[V.len];exact V.ok st) ?_).mono ?_
 ·rintro x h ⟨_,rfl⟩;rw[V.len,V.len]
 ·rintro x h ⟨h1,⟨rfl,rfl⟩,rfl⟩
  exact⟨rfl,rfl⟩
theorem Vis.trim{σ:Type}(V:Vis σ){f:FuncId}{args:List AV}{st st':σ}{v:AV}(H:AC Tryz.prog G f args (V.I st) λx h=>x= .ret v/\∃l,h=V.I st'++l)(hv:below V.n v):
 AC Tryz.prog G f args (V.I st) λx h=>x= .ret v/\h=V.I st':=by
 refine H.wk (λt v h ⟨e,_⟩=>by cases e) ?_
 rintro u h ⟨e,l,rfl⟩
 cases e
 refine⟨v,V.I st',Dl (n:=V.n) (by rw[V.len];exact YY _) (eE (by rw[←V.len st',List.take_left'];rfl) (V.len _) (V.ok _)) ?_,rfl,rfl⟩
 simp[Fgt,hv]
theorem oX{n m:Nat}(h:n<=m){o:AO}(ho:okO n o):okO m o:=by
 cases o with
 |dead=>trivial
 |sit=>trivial
 |row sz es=>exact λe he=>aJ h _ (ho e he)
 |mp es=>exact λe he=>(aJ h [e.2] ⟨ho e he,trivial⟩).1
theorem Vis.oks{σ:Type}(V:Vis σ)(st:σ){m:Nat}(hm:V.n<=m){r:List AO}(hr:∀o∈r,okO m o):∀o∈V.I st++r,okO m o:=by
 intro o ho
 rcases YV.1 ho with h|h
 ·exact oX hm (V.ok st o h)
 ·exact hr o h
theorem Vis.same{σ:Type}(V:Vis σ)(st:σ){k n:Nat}(hk:k<=V.n){r s:List AO}{l l1:List (Nat × AV)}(hr:∀o∈r,okO (V.n+r.length) o)(H:FgA (V.n+r.length) l l1):Wk k (aj n l) (V.I st++(r++s)) (aj n l1) (V.I st++r):=by
 have hl:(V.I st++r).length=V.n+r.length:=by rw[YZ,V.len]
 refine je (m:=V.n+r.length) (by omega) (eE ?_ hl (V.oks st (by omega) hr)) H
 rw[←Zt,←hl,List.take_left'];rfl
theorem Vis.same0{σ:Type}(V:Vis σ)(st:σ){k n:Nat}(hk:k<=V.n){s:List AO}{l l1:List (Nat × AV)}(H:FgA V.n l l1):Wk k (aj n l) (V.I st++s) (aj n l1) (V.I st):=by
 refine je (m:=V.n) (by omega) (eE ?_ (V.len _) (V.ok st)) H
 rw[←V.len st,List.take_left'];rfl
theorem Rj{α:Type}{a b:List α}{n:Nat}(h:a.length=n)(i:Nat):(a++b)[n+i]?=b[i]?:=by
 rw[←h,YT (by omega)];congr 1;omega
theorem RY{σ:Type}(V:Vis σ)(step:σ->Ex->σ)(inv:σ->Prop)(B:Nat)(hB:B<=1073741824)
 (hv:∀st e,inv st->e.sz<=B->inv (step st e)/\AC Tryz.prog G V.F (.agg (e.cs.map .p)::V.caps) (V.I st) λx h=>x= .ret (.tup [])/\h=V.I (step st e)):
 ∀(N:Nat) (e:Ex),e.sz<N->e.sz<=B->∀st,inv st->inv (e.pre.foldl step st)/\AC Tryz.prog G ml [.agg (e.cs.map .p),.fn (.func V.F) V.caps] (V.I st) λx h=>x= .ret (.tup [])/\h=V.I (e.pre.foldl step st):=by
 intro N
 induction N with
 |zero=>intro e h;omega
 |succ N ih=>
  intro e he hz st hi
  have hec:=e.cs_eq
  have hsz:=e.sz_eq
  have hkl:=bB e.kids
  have hxl:exL e.kids= .lst 4 (e.kids.map Ex.cs):=rfl
  have hlen:=V.len
  obtain⟨i1,h1⟩:=hv st e hi hz
  have hinv:∀i,i<=e.kids.length->inv ((dQ (e.kids.take i)).foldl step (step st e)):=by
   intro i
   induction i with
   |zero=>intro _;exact i1
   |succ i ihi=>
    intro hl
    have hg:i<e.kids.length:=by omega
    have hks:=bS (Zf hg)
    rw[an hg,vl,List.foldl_append,dQ,dQ,ZB]
    exact(ih e.kids[i] (by omega) (by omega) _ (ihi (by omega))).1
  refine⟨?_,?_⟩
  ·rw[Ex.pre_eq,List.foldl_cons]
   have:=hinv e.kids.length (YY _)
   rwa[ZM] at this
  refine V.trim G (AC.go Fp ?_) (by simp[below])
  have hcb:=V.capsOk
  have hcb1:ah (V.n+1) V.caps:=aJ (by omega) _ hcb
  rw[hec] at h1
  simp-implicitDefEqProofs[vC,hec,hlen]
  refine(V.pre G h1 _ ⟨by simp[below],hcb⟩).mono ?_
  rintro r h ⟨rfl,rfl⟩
  simp-implicitDefEqProofs[aa,hlen,hxl]
  refine aN (λi:Nat=>aj 20 [(1,.fn (.func V.F) V.caps),(2,.ptr V.n 4 0 0),(10,.p (exL e.kids)),(11,.p (.int .i64 e.kids.length)),(12,.p (.int .i64 i))])
   (λi=>V.I ((dQ (e.kids.take i)).foldl step (step st e))++[.row 4 [[.p (.int .i64 e.op),.p (.int .i64 e.n),.p (.str e.name),.p (exL e.kids)]]]) (λi=>i<=e.kids.length) (λi=>e.kids.length-i) 0 (by simp) ?_ ?_
  ·refine V.same (r:=[_]) (s:=[]) _ (YY _) (by simp[okO,below]) ?_
   simp[below,hxl,hcb1]
  intro i hil
  simp-implicitDefEqProofs[hxl]
  refine bi (λhc=>?_) (λhc=>?_)
  ·simp at hc
   have hg:=YO hc
   have hks:=bS (Zf hc)
   have hkc:=e.kids[i].cs_eq
   have hI:=(ih e.kids[i] (by omega) (by omega) _ (hinv i hil)).2
   rw[hkc] at hI
   simp-implicitDefEqProofs[hg,hkc,hlen]
   refine(V.pre G hI _ ⟨by simp[below],by simp[below,hcb],trivial⟩).mono ?_
   rintro r h ⟨rfl,rfl⟩
   simp-implicitDefEqProofs[aa]
   refine⟨i+1,hc,by omega,?_⟩
   have hf:(dQ (e.kids.take (i+1))).foldl step (step st e)=e.kids[i].pre.foldl step ((dQ (e.kids.take i)).foldl step (step st e)):=by
    rw[an hc,vl,List.foldl_append,dQ,dQ,ZB]
   rw[hf]
   refine V.same (r:=[_]) (s:=[_]) _ (YY _) (by simp[okO,below]) ?_
   simp[below,hxl,hcb1,w1 (i:=i) (by omega)]
  ·simp at hc
   have hie:i=e.kids.length:=by omega
   subst hie
   rw[ZM,Ex.pre_eq,List.foldl_cons]
   simp-implicitDefEqProofs[]
theorem KH{σ:Type}(V:Vis σ)(step:σ->Sm × Nat->σ)(inv:σ->Prop)(B:Nat)(hB:B<=1073741824)
 (hv:∀st s d,inv st->s.sz<=B->inv (step st (s,d))/\AC Tryz.prog G V.F (.agg (s.cs.map .p):: .p (.int .i64 (d:Nat))::V.caps) (V.I st) λx h=>x= .ret (.tup [])/\h=V.I (step st (s,d))):
 ∀(N:Nat) (l:List Sm),ay l<N->ay l<=B->∀(d:Nat),d+ay l<=1099511627776->∀st,inv st->inv ((bC d l).foldl step st)/\AC Tryz.prog G gh [.p (smL l),.p (.int .i64 d),.fn (.func V.F) V.caps] (V.I st) λx h=>x= .ret (.tup [])/\h=V.I ((bC d l).foldl step st):=by
 intro N
 induction N with
 |zero=>intro l h;omega
 |succ N ih=>
  intro l hl hz d hd st hi
  have hll:=cC l
  have hlen:=V.len
  have hsl:∀l,smL l= .lst 5 (l.map Sm.cs):=λ_=>rfl
  have hone:∀s:Sm,s∈l->∀st,inv st->inv ((s.pre d).foldl step st):=by
   intro s hs st hi
   have hm:=ew hs
   have hsz:=s.sz_eq
   have i1:=(hv st s d hi (by omega)).1
   have i2:=(ih s.body (by omega) (by omega) (d+1) (by omega) _ i1).1
   have i3:=(ih s.els (by omega) (by omega) (d+1) (by omega) _ i2).1
   rw[Sm.pre_eq,List.foldl_cons,List.foldl_append]
   exact i3
  have hinv:∀i,i<=l.length->inv ((bC d (l.take i)).foldl step st):=by
   intro i
   induction i with
   |zero=>intro _;exact hi
   |succ i ihi=>
    intro hl
    have hg:i<l.length:=by omega
    rw[an hg,uP,List.foldl_append,bC,bC,ZB]
    exact hone _ (Zf hg) _ (ihi (by omega))
  refine⟨?_,?_⟩
  ·have:=hinv l.length (YY _)
   rwa[ZM] at this
  refine V.trim G (AC.go Fq ?_) (by simp[below])
  have hcb:=V.capsOk
  simp-implicitDefEqProofs[yY,hsl]
  refine aN (λi:Nat=>aj 31 [(1,.p (.int .i64 d)),(2,.fn (.func V.F) V.caps),(8,.p (smL l)),(9,.p (.int .i64 l.length)),(10,.p (.int .i64 i))])
   (λi=>V.I ((bC d (l.take i)).foldl step st)) (λi=>i<=l.length) (λi=>l.length-i) 0 (by simp) ?_ ?_
  ·rw[hlen]
   have:=V.same0 (s:=[]) st (k:=V.n) (n:=31) (YY _) (l:=[(10,.p (.int .i64 0)),(9,.p (.int .i64 l.length)),(8,.p (smL l)),(0,.p (smL l)),(1,.p (.int .i64 d)),(2,.fn (.func V.F) V.caps)]) (l1:=[(1,.p (.int .i64 d)),(2,.fn (.func V.F) V.caps),(8,.p (smL l)),(9,.p (.int .i64 l.length)),(10,.p (.int .i64 0))]) (by simp[below,hcb])
   rw[ZB] at this
   exact this
  intro i hil
  simp-implicitDefEqProofs[hsl]
  refine bi (λhc=>?_) (λhc=>?_)
  ·simp at hc
   have hg:=YO hc
   have hks:=ew (Zf hc)
   have hkc:=l[i].cs_eq
   have hsz:=l[i].sz_eq
   have hf:(bC d (l.take (i+1))).foldl step st=(l[i].pre d).foldl step ((bC d (l.take i)).foldl step st):=by
    rw[an hc,uP,List.foldl_append,bC,bC,ZB]
   have ii:=hinv i hil
   obtain⟨i1,h1⟩:=hv _ l[i] d ii (by omega)
   obtain⟨i2,h2⟩:=ih l[i].body (by omega) (by omega) (d+1) (by omega) _ i1
   obtain⟨i3,h3⟩:=ih l[i].els (by omega) (by omega) (d+1) (by omega) _ i2
   rw[Sm.pre_eq,List.foldl_cons,List.foldl_append] at hf
   have hwd:IntKind.i64.wrap ((d:Int)+1)=((d+1:Nat):Int):=by rw[ab (by omega) (by omega)];omega
   rw[hkc] at h1
   simp-implicitDefEqProofs[hg,hkc,hlen]
   refine(V.pre G h1 _ ⟨by simp,by simp,hcb⟩).mono ?_
   rintro r h ⟨rfl,rfl⟩
   simp-implicitDefEqProofs[aa,hlen,hwd]
   refine(V.pre G h2 _ ⟨by simp,by simp,by simp[below,hcb],trivial⟩).mono ?_
   rintro r h ⟨rfl,rfl⟩
   simp-implicitDefEqProofs[aa,hlen,hwd]
   refine(V.pre G h3 _ ⟨by simp,by simp,by simp[below,hcb],trivial⟩).mono ?_
   rintro r h ⟨rfl,rfl⟩
   simp-implicitDefEqProofs[aa]
   refine⟨i+1,hc,by omega,?_⟩
   rw[hf]
   refine V.same0 (s:=[_]) _ (YY _) ?_
   simp[below,hsl,hcb,w1 (i:=i) (by omega)]
  ·simp at hc
   have hie:i=l.length:=by omega
   subst hie
   rw[ZM]
   simp-implicitDefEqProofs[]
end
section
variable (G:am)
abbrev MS:=Int × Int
def ui(st:MS)(x:Sm × Nat):MS:=(IntKind.i64.wrap (st.1+1),if st.2<(x.2:Int) then(x.2:Int) else st.2)
def uj(l:List Fd)(st:MS):MS:=l.foldl (λst f=>(bC 1 f.body).foldl ui st) st
theorem BY:∀(l:List (Sm × Nat)) (st:MS),0<=st.1->st.1+l.length<=1099511627776->(l.foldl ui st).1=st.1+l.length
 |[],st,_,_=>by simp
 |x::r,st,h0,h=>by
  have hw:IntKind.i64.wrap (st.1+1)=st.1+1:=ab (by omega) (by simp at h;omega)
  rw[List.foldl_cons,BY r _ (by simp only[ui,hw];omega) (by simp only[ui,hw];simp at h;omega)]
  simp only[ui,hw,Ze]
  omega
theorem CD:∀(l:List Fd) (st:MS),0<=st.1->st.1+iP l<=1099511627776->(uj l st).1=st.1+iP l
 |[],st,_,_=>by simp[uj,iP]
 |f::r,st,h0,h=>by
  have ha:iP (f::r)=di f.body+iP r:=by simp[iP]
  have hs:=BY (bC 1 f.body) st h0 (by rw[mG];omega)
  rw[mG] at hs
  have:=CD r ((bC 1 f.body).foldl ui st) (by omega) (by omega)
  simp only[uj,List.foldl_cons] at this⊢
  omega
theorem Jj{l:List Fd}{st:MS}{i:Nat}(h:i<l.length):uj (l.take (i+1)) st=(bC 1 l[i].body).foldl ui (uj (l.take i) st):=by
 rw[uj,an h,List.foldl_append];rfl
def ri(p:PV):Vis MS where
 I:=λst=>[.row 1 [[.p p]],.row 1 [[.p (.int .i64 st.1)]],.row 1 [[.p (.int .i64 st.2)]]]
 n:=3
 F:=gi
 caps:=[.ptr 1 1 0 0,.ptr 2 1 0 0]
 len:=λ_=>rfl
 ok:=λst=>by simp[okO,below]
 capsOk:=by simp[below]
theorem Ia(p:PV)(st:MS)(s:Sm)(d:Nat):AC Tryz.prog G gi [.agg (s.cs.map .p),.p (.int .i64 d),.ptr 1 1 0 0,.ptr 2 1 0 0] ((ri p).I st) λx h=>x= .ret (.tup [])/\h=(ri p).I (ui st (s,d)):=by
 refine(ri p).trim G (AC.go zR ?_) (by simp[below])
 have hse:=s.cs_eq
 simp-implicitDefEqProofs[oU,hse,ri,ui]
theorem Mw(l:List Fd)(hl:aH l<=1073741824):VF Tryz.prog G mY [.agg [.p (fdL l)]] (.tup [.p (.int .i64 (iP l)),.p (.int .i64 (uj l (0,0)).2)]):=by
 refine AC.go BT ?_
 have hll:=fS l
 have hfl:∀l,fdL l= .lst 3 (l.map Fd.cs):=λ_=>rfl
 have hn:(uj l (0,0)).1=iP l:=by rw[CD l (0,0) (by simp) (by simp only;have:=Fh l;omega)];simp
 simp-implicitDefEqProofs[rZ,hfl]
 refine aN (λi:Nat=>aj 20 [(2,.ptr 1 1 0 0),(3,.ptr 2 1 0 0),(7,.p (fdL l)),(8,.p (.int .i64 l.length)),(9,.p (.int .i64 i))])
  (λi=>(ri (fdL l)).I (uj (l.take i) (0,0))) (λi=>i<=l.length) (λi=>l.length-i) 0 (by simp) ?_ ?_
 ·exact af (h:=(ri (fdL l)).I (0,0)) (by simp) ((ri (fdL l)).ok _) (by simp[below,hfl,ri])
 intro i hil
 simp-implicitDefEqProofs[hfl]
 refine bi (λhc=>?_) (λhc=>?_)
 ·simp at hc
  have hg:=YO hc
  have hks:=cG (Zf hc)
  have hcs:l[i].cs=[.str l[i].name,al l[i].params,smL l[i].body]:=rfl
  have hfz:l[i].sz=1+l[i].name.length+(l[i].params.length+(l[i].params.map List.length).sum)+ay l[i].body:=rfl
  have hI:=(KH G (ri (fdL l)) ui (λ_=>True) 1073741824 (by omega) (λst s d _ _=>⟨trivial,Ia G _ st s d⟩) (ay l[i].body+1) l[i].body (by omega) (by omega) 1 (by omega) (uj (l.take i) (0,0)) trivial).2
  have hlen:=(ri (fdL l)).len
  have h3:(ri (.lst 3 (l.map Fd.cs))).n=3:=rfl
  have hlen':∀st,((ri (.lst 3 (l.map Fd.cs))).I st).length=3:=λ_=>rfl
  simp-implicitDefEqProofs[hg,hcs,hlen']
  refine((ri (fdL l)).pre G hI [_] ⟨by simp,by simp,by simp[below,ri],trivial⟩).mono ?_
  rintro r h ⟨rfl,rfl⟩
  simp-implicitDefEqProofs[aa]
  refine⟨i+1,hc,by omega,?_⟩
  rw[Jj hc]
  refine(ri (fdL l)).same0 (s:=[_]) _ (by simp[ri]) ?_
  simp[below,hfl,ri,w1 (i:=i) (by omega)]
 ·simp at hc
  have hie:i=l.length:=by omega
  subst hie
  rw[ZM]
  simp-implicitDefEqProofs[ri,hn]
theorem zp(hK:G fy=some fe)(s:List UInt8)(hb:s.length<=140737488355328):VF Tryz.prog G bG [.p (.str s)] (.p (.bool (!aD s))):=by
 refine AC.go rm ?_
 simp-implicitDefEqProofs[jX]
 refine(ru G hK s hb).use ?_
 simp-implicitDefEqProofs[]
def IZ(L:List (List UInt8)):Int:=match L.findIdx? (λw=> !aD w) with|some i=>i|none=> -1
theorem Pb(L:List (List UInt8)):decide (0<=IZ L)= !(L.all aD):=by
 unfold IZ
 cases h:L.findIdx? (λx=> !aD x) with
 |none=>
  rw[Zs] at h
  have:L.all aD=true:=YW.2 λx hx=>by have:=h x hx;simpa using this
  simp[this]
 |some i=>
  rw[Zg] at h
  obtain⟨h1,h2,_⟩:=h
  have:L.all aD=false:=List.all_eq_false.2 ⟨_,Zf h1,by simpa using h2⟩
  rw[this];simp
theorem Qc{L:List (List UInt8)}{n:Nat}(h:(L.map List.length).sum<=n):∀x∈L,x.length<=n:=by
 induction L with
 |nil=>intro x hx;cases hx
 |cons y r ih=>
  intro x hx
  simp only[Zn,List.sum_cons] at h
  rcases Za.1 hx with rfl|hx
  ·omega
  ·exact ih (by omega) x hx
variable (hK:G fy=some fe)
include hK
theorem IR(L:List (List UInt8))(hb:L.length<=1073741824)(hw:∀x∈L,x.length<=140737488355328):VF Tryz.prog G dA [.p (al L),.fn (.func bG) []] (.p (.int .i64 (IZ L))):=by
 refine AC.go no ?_
 have hsl:al L= .lst 1 (L.map λw=>[.str w]):=rfl
 simp-implicitDefEqProofs[gr,hsl]
 refine aN (λi:Nat=>aj 19 [(0,.p (al L)),(1,.fn (.func bG) []),(6,.p (al L)),(7,.p (.int .i64 L.length)),(8,.p (.int .i64 i))]) (λ_=>[]) (λi=>i<=L.length/\∀w∈L.take i,aD w=true) (λi=>L.length-i) 0 (by simp) ?_ ?_
 ·exact af (by simp) (by simp[okO]) (by simp[below,ah,al])
 ·intro i ⟨hi,hn⟩
  simp-implicitDefEqProofs[hsl]
  refine bi (λh1=>?_) (λh1=>?_)
  ·simp at h1
   have hg:=YO h1
   simp-implicitDefEqProofs[hg]
   refine(zp G hK _ (hw _ (Zf h1))).use ?_
   by_cases he:aD L[i]=true
   ·simp-implicitDefEqProofs[he]
    refine⟨i+1,⟨h1,λp hp=>?_⟩,by omega,af (by simp) (by simp[okO]) ?_⟩
    ·rw[an h1] at hp
     rcases YV.1 hp with hp|hp
     ·exact hn p hp
     ·rw[YQ.1 hp];exact he
    ·simp[below,ah,al,w1 (i:=i) (by omega)]
   ·have hf:IZ L=i:=by
     have:L.findIdx? (λw=> !aD w)=some i:=by
      rw[Zg]
      exact⟨h1,by simpa using he,λj hj=>by have:=hn L[j] (ZO.2 ⟨j,by omega,rfl⟩);simpa using this⟩
     rw[IZ,this]
    simp-implicitDefEqProofs[he,hf]
  ·simp at h1
   rw[YU h1] at hn
   have hf:IZ L= -1:=by
    have:L.findIdx? (λw=> !aD w)=none:=by
     rw[Zs];intro x hx;simpa using hn x hx
    rw[IZ,this]
   simp-implicitDefEqProofs[hf]
theorem DU(L:List (List UInt8))(hb:L.length<=1073741824)(hw:∀x∈L,x.length<=140737488355328):VF Tryz.prog G cP [.p (al L),.fn (.func bG) []] (.p (.bool (!L.all aD))):=by
 rw[←Pb]
 refine AC.go lI ?_
 simp-implicitDefEqProofs[fk]
 refine(IR G hK L hb hw).use ?_
 simp-implicitDefEqProofs[]
variable (hS:G cI=some [.tbl opK opV])
include hS
theorem Dk(l:List Fd)(hl:aH l<=1073741824):VF Tryz.prog G gH [.agg [.p (fdL l)]] (.p (.bool (bA l))):=by
 refine AC.go tv ?_
 have hll:=fS l
 have hfl:∀l,fdL l= .lst 3 (l.map Fd.cs):=λ_=>rfl
 have hm:=Mw G l hl
 rw[hfl] at hm
 simp-implicitDefEqProofs[mc,hfl]
 refine(ll G _ _ _).use ?_
 by_cases h1:inR l.length 1 4=true
 case neg=>simp-implicitDefEqProofs[h1,bA]
 simp-implicitDefEqProofs[h1]
 refine aN (λi:Nat=>aj 48 [(1,.ptr 0 1 0 0),(13,.p (fdL l)),(14,.p (.int .i64 l.length)),(15,.p (.int .i64 i))]) (λ_=>[.row 1 [[.p (.lst 3 (l.map Fd.cs))]]]) (λi=>i<=l.length/\(l.take i).all iO=true) (λi=>l.length-i) 0 (by simp) (af (by simp) (by simp[okO]) (by simp[below,hfl])) ?_
 intro i ⟨hi,ha⟩
 simp-implicitDefEqProofs[hfl]
 refine bi (λh=>?_) (λh=>?_)
 ·simp at h
  have hg:=YO h
  have hks:=cG (Zf h)
  have hbadF:iO l[i]=false->bA l=false:=λhk'=>by simp only[bA,pQ h hk',Bool.and_false,Bool.false_and]
  have hcs:l[i].cs=[.str l[i].name,al l[i].params,smL l[i].body]:=rfl
  have hfz:l[i].sz=1+l[i].name.length+(l[i].params.length+(l[i].params.map List.length).sum)+ay l[i].body:=rfl
  have hokF:iO l[i]=(l[i].params.all aD&&aD l[i].name&&decide (l[i].params.length<=3)&&l[i].body.all (az 4)):=rfl
  have hblk:=Ax G 4 1 (λs hs=>by simpa using Pv G hK hS 4 (by omega) s hs) l[i].body (by omega)
  have hcon:=DU G hK l[i].params (by omega) (Qc (by omega))
  have hst:al l[i].params= .lst 1 (l[i].params.map λw=>[.str w]):=rfl
  generalize l[i]=f at*
  rw[hst] at hcon
  simp-implicitDefEqProofs[hg,hcs,hst]
  refine(ru G hK _ (by omega)).use ?_
  by_cases k1:aD f.name=true
  case neg=>
   rw[hbadF (by rw[hokF];simp[k1])]
   simp-implicitDefEqProofs[k1]
  by_cases k2:f.params.length<=3
  case neg=>
   have k2':(3:Int)<f.params.length:=by omega
   rw[hbadF (by rw[hokF];simp[k2])]
   simp-implicitDefEqProofs[k1,k2']
  have k2':¬(3:Int)<f.params.length:=by omega
  simp-implicitDefEqProofs[k1,k2']
  refine hcon.use ?_
  by_cases k3:f.params.all aD=true
  case neg=>
   have k3':f.params.all aD=false:=by simpa using k3
   rw[hbadF (by rw[hokF,k3'];simp)]
   simp-implicitDefEqProofs[k3']
  simp only[k3]
  simp-implicitDefEqProofs[]
  refine hblk.use ?_
  by_cases k4:f.body.all (az 4)=true
  case neg=>
   have k4':f.body.all (az 4)=false:=by simpa using k4
   rw[hbadF (by rw[hokF,k4'];simp)]
   simp only[k4']
   simp-implicitDefEqProofs[]
  simp only[k4]
  simp-implicitDefEqProofs[]
  have hk:iO f=true:=by rw[hokF,k1,k3,k4];simp[k2]
  refine⟨i+1,⟨h,by rw[←YW,sa hg,ha,hk];rfl⟩,by omega,je (m:=1) (by omega) (eE rfl rfl (by simp[okO,below])) (by simp[below,hfl,w1 (i:=i) (by omega)])⟩
 ·simp at h
  have h2:l.all iO=true:=jA h ha
  simp-implicitDefEqProofs[]
  refine hm.use ?_
  have hff:bA l=decide (iP l<=40):=by simp only[bA,h1,h2,Bool.true_and]
  simp-implicitDefEqProofs[hff]
  omega
end
section
variable (G:am)
theorem Jc(l:List Fd)(s:List UInt8)(hl:l.length<=1073741824):VF Tryz.prog G lm [.agg [.p (fdL l)],.p (.str s)] (.p (.int .i64 (ixI (cg l s)))):=by
 have hfl:∀l,fdL l= .lst 3 (l.map Fd.cs):=λ_=>rfl
 have dT:∀f:Fd,AC Tryz.prog G gR [.agg (f.cs.map .p),.ptr 1 1 0 0] [.row 1 [[.p (fdL l)]],.row 1 [[.p (.str s)]]] λx h=>x= .ret (.p (.bool (decide (f.name=s))))/\h=[.row 1 [[.p (fdL l)]],.row 1 [[.p (.str s)]]]:=by
  intro f
  have hcs:f.cs=[.str f.name,al f.params,smL f.body]:=rfl
  refine AC.trim (AC.go DC ?_) (by simp[below])
  simp-implicitDefEqProofs[tZ,hcs]
 have idx:AC Tryz.prog G bs [.p (fdL l),.fn (.func gR) [.ptr 1 1 0 0]] [.row 1 [[.p (fdL l)]],.row 1 [[.p (.str s)]]] λx h=>x= .ret (.p (.int .i64 (ixI (cg l s))))/\h=[.row 1 [[.p (fdL l)]],.row 1 [[.p (.str s)]]]:=by
  refine AC.go fQ ?_
  simp-implicitDefEqProofs[dv,hfl]
  refine aN (λi:Nat=>aj 19 [(0,.p (fdL l)),(1,.fn (.func gR) [.ptr 1 1 0 0]),(7,.p (.int .i64 l.length)),(8,.p (.int .i64 i))]) (λ_=>[.row 1 [[.p (fdL l)]],.row 1 [[.p (.str s)]]]) (λi=>i<=l.length/\∀f∈l.take i,f.name≠s) (λi=>l.length-i) 0 (by simp) ?_ ?_
  ·exact af (by simp) (by simp[okO,below]) (by simp[below,ah,hfl])
  ·intro i ⟨hi,hn⟩
   simp-implicitDefEqProofs[hfl]
   refine bi (λh1=>?_) (λh1=>?_)
   ·simp at h1
    have hg:=YO h1
    simp-implicitDefEqProofs[hg]
    refine(dT l[i]).mono ?_
    rintro r h ⟨rfl,rfl⟩
    by_cases he:l[i].name=s
    ·have hf:cg l s=some i:=by
      rw[cg,Zg]
      exact⟨h1,by simpa using he,λj hj=>by have:=hn l[j] (ZO.2 ⟨j,by omega,rfl⟩);simpa using this⟩
     simp-implicitDefEqProofs[aa,he,hf,ixI]
     exact hfl l
    ·simp-implicitDefEqProofs[aa,he]
     refine⟨i+1,⟨h1,λp hp=>?_⟩,by omega,af (h:=[.row 1 [[.p (fdL l)]],.row 1 [[.p (.str s)]]]) (by simp) (by simp[okO,below]) (by simp[below,ah,hfl,w1 (i:=i) (by omega)])⟩
     rw[an h1] at hp
     rcases YV.1 hp with hp|hp
     ·exact hn p hp
     ·rw[YQ.1 hp];exact he
   ·simp at h1
    rw[YU h1] at hn
    have hf:cg l s=none:=by
     rw[cg,Zs];intro x hx;simpa using hn x hx
    simp-implicitDefEqProofs[hf,ixI]
 refine AC.go HQ ?_
 simp-implicitDefEqProofs[Ao]
 refine idx.mono ?_
 rintro r h ⟨rfl,rfl⟩
 simp-implicitDefEqProofs[aa]
structure GS where (gap:List AO) (m:Scp)
def mpE(m:Scp):List (PV × AV):=m.map λx=>(.str x.1,.p (.int .i64 x.2))
def scL:List GS->Nat
 |[]=>0
 |g::up=>scL up+g.gap.length+2
def upV:List GS->AV
 |[]=> .nilp
 |g::up=> .ptr (2+scL up+g.gap.length+1) 2 0 0
def scH:List GS->List AO
 |[]=>[]
 |g::up=>scH up++(g.gap++[.mp (mpE g.m),.row 2 [[.mp (2+scL up+g.gap.length),upV up]]])
theorem kL:∀ch:List GS,(scH ch).length=scL ch
 |[]=>rfl
 |g::up=>by simp only[scH,scL,YZ,kL up,Ze,List.length_nil];omega
def cO(fns:List Fd)(k:Nat)(c:Int):AO:= .row 3 [[.p (fdL fns),.p (.int .i64 k),.p (.int .i64 c)]]
def CH(b0:AO)(fns:List Fd)(k:Nat)(c:Int)(ch:List GS):List AO:=b0::cO fns k c::scH ch
theorem kh(b0:AO)(fns:List Fd)(k:Nat)(c:Int)(ch:List GS):(CH b0 fns k c ch).length=2+scL ch:=by
 simp only[CH,Ze,kL];omega
def oT:List GS->Prop
 |[]=>True
 |g::up=>(∀o∈g.gap,okO (2+scL up+g.gap.length) o)/\oT up
theorem eu:∀(ch:List GS) {n:Nat},2+scL ch<=n->below n (upV ch)
 |[],_,_=>by simp[upV,below]
 |g::up,n,h=>by simp only[scL] at h;simp only[upV,below];omega
theorem Fv:∀(ch:List GS) {n:Nat},oT ch->2+scL ch<=n->∀o∈scH ch,okO n o
 |[],_,_,_,o,ho=>by cases ho
 |g::up,n,⟨h1,h2⟩,hn,o,ho=>by
  simp only[scL] at hn
  rw[scH] at ho
  rcases YV.1 ho with h|h
  ·exact Fv up h2 (by omega) o h
  ·rcases YV.1 h with h|h
   ·exact oX (by omega) (h1 o h)
   ·simp only[Za,Zj,or_false] at h
    rcases h with rfl|rfl
    ·intro e he
     obtain⟨x,_,rfl⟩:=Zh.1 he
     simp[below]
    ·intro e he
     rw[YQ.1 he]
     exact⟨by simp only[below];omega,eu up (by omega),trivial⟩
theorem Hu{b0:AO}{fns:List Fd}{k:Nat}{c:Int}{ch:List GS}(hb:okO 0 b0)(hs:oT ch){n:Nat}(hn:2+scL ch<=n):∀o∈CH b0 fns k c ch,okO n o:=
 ae (cw hb) (ae (by intro e he;rw[YQ.1 he];simp[below]) (Fv ch hs hn))
theorem yK(s:List UInt8):∀m:Scp,gt (.str s) (mpE m)=some ((eZ m s).map λn=>AV.p (.int .i64 n))
 |[]=>rfl
 |x::r=>by
  have ih:=yK s r
  by_cases h:x.1=s
  ·simp[mpE,gt,keq,h,eZ]
  ·have h':¬s=x.1:=λe=>h e.symm
   simp only[mpE,Zn,gt,keq,h',decide_false]
   simp only[mpE] at ih
   rw[ih];simp[eZ,h]
theorem vV(s:List UInt8)(n:Nat):∀m:Scp,iJ (.str s) (.p (.int .i64 n)) (mpE m)=some (mpE (eK m s n))
 |[]=>rfl
 |x::r=>by
  have ih:=vV s n r
  by_cases h:x.1=s
  ·simp[mpE,iJ,keq,h,eK]
  ·have h':¬s=x.1:=λe=>h e.symm
   simp only[mpE,Zn,iJ,keq,h',decide_false]
   simp only[mpE] at ih
   rw[ih];simp[eK,h]
abbrev sco(ch:List GS):List Scp:=ch.map GS.m
theorem NT:∀(pre:List GS) (g:GS) (up:List GS),(scH (pre++g::up))[scL up+g.gap.length]?=some (.mp (mpE g.m))/\(scH (pre++g::up))[scL up+g.gap.length+1]?=some (.row 2 [[.mp (2+scL up+g.gap.length),upV up]])
 |[],g,up=>by
  have hl:(scH up++g.gap).length=scL up+g.gap.length:=by rw[YZ,kL]
  have e:scH (g::up)=(scH up++g.gap)++[.mp (mpE g.m),.row 2 [[.mp (2+scL up+g.gap.length),upV up]]]:=by rw[scH,Zt]
  rw[List.nil_append,e]
  exact⟨by rw[←hl,YT (YY _)];simp,by rw[←hl,YT (by omega)];simp⟩
 |p::pre,g,up=>by
  obtain⟨h1,h2⟩:=NT pre g up
  have hm1:=(YL.1 h1).1
  have hm2:=(YL.1 h2).1
  rw[Zx,scH]
  exact⟨by rw[YN hm1];exact h1,by rw[YN hm2];exact h2⟩
theorem Jg(ch:List GS):(upV ch).isCell=true:=by cases ch<;>rfl
theorem LI(ch:List GS):(upV ch).cells=[upV ch]:=by cases ch<;>rfl
attribute [simp ↓] Jg LI
theorem FO(b0:AO)(fns:List Fd)(k:Nat)(c e:Int)(r:List AO):AC Tryz.prog G cY [.ptr 1 3 0 0,.p (.int .i64 e)] (b0::cO fns k c::r) λx h=>x= .ret (.tup [])/\h=b0::cO fns k (fl c e)::r:=by
 refine AC.go tt ?_
 by_cases h0:c=0
 ·simp-implicitDefEqProofs[gD,cO,h0,fl]
 ·simp-implicitDefEqProofs[gD,cO,h0,fl]
theorem sL(up:AV)(hu:up= .nilp\/∃i,up= .ptr i 2 0 0)(h:List AO):AC Tryz.prog G bF [up] h λx h'=>x= .ret (.ptr (h.length+1) 2 0 0)/\h'=h++[.mp [],.row 2 [[.mp h.length,up]]]:=by
 refine AC.go vH ?_
 rcases hu with rfl|⟨i,rfl⟩
 ·simp-implicitDefEqProofs[jf]
 ·simp-implicitDefEqProofs[jf]
theorem JS(b0 c0:AO)(ch:List GS)(rest:List AO)(s:List UInt8):AC Tryz.prog G bq [upV ch,.p (.str s)] (b0::c0::(scH ch++rest)) λx h=>x= .ret (.tup [.p (.int .i64 (((fC (sco ch) s).getD 0:Nat):Int)),.p (.bool (fC (sco ch) s).isSome)])/\h=b0::c0::(scH ch++rest):=by
 refine AC.goB yP λhb=>?_
 simp-implicitDefEqProofs[nU]
 have hHl:(b0::c0::(scH ch++rest)).length=2+scL ch+rest.length:=by simp only[Ze,YZ,kL];omega
 refine aN (λr:List GS=>aj 25 [(0,upV r),(1,.p (.str s))]) (λ_=>b0::c0::(scH ch++rest)) (λr=>∃pre,ch=pre++r/\fC (sco ch) s=fC (sco r) s) (λr=>r.length) ch ⟨[],rfl,rfl⟩ ?_ ?_
 ·refine Cm (by simp) hb ?_
  rw[hHl]
  exact⟨⟨eu ch (by omega),by simp⟩,⟨by simp,by simp⟩,trivial⟩
 rintro r ⟨pre,e1,e2⟩
 cases r with
 |nil=>
  rw[e2]
  simp-implicitDefEqProofs[upV,fC]
 |cons g up=>
  obtain⟨a1,a2⟩:=NT pre g up
  rw[←e1] at a1 a2
  have b1:=(YL.1 a1).1
  have b2:=(YL.1 a2).1
  have l1:(b0::c0::(scH ch++rest))[2+scL up+g.gap.length]?=some (.mp (mpE g.m)):=by
   rw[show 2+scL up+g.gap.length=(scL up+g.gap.length)+1+1 by omega,Zd,Zd,YN b1,a1]
  have l2:(b0::c0::(scH ch++rest))[2+scL up+g.gap.length+1]?=some (.row 2 [[.mp (2+scL up+g.gap.length),upV up]]):=by
   rw[show 2+scL up+g.gap.length+1=(scL up+g.gap.length+1)+1+1 by omega,Zd,Zd,YN b2,a2]
  have hmg:=yK s g.m
  have hle:=kL ch
  rw[e2]
  generalize hH:b0::c0::(scH ch++rest)=H at*
  have hup:upV (g::up)= .ptr (2+scL up+g.gap.length+1) 2 0 0:=rfl
  cases hh:eZ g.m s with
  |some n=>
   rw[hh] at hmg
   simp-implicitDefEqProofs[hup,l1,l2,hmg,fC,hh]
  |none=>
   rw[hh] at hmg
   simp-implicitDefEqProofs[hup,l1,l2,hmg,fC,hh]
   refine⟨up,⟨⟨pre++[g],by rw[e1];simp⟩,rfl⟩,by simp,?_⟩
   refine Cm ?_ hb ?_
   ·rw[hHl,kL];omega
   ·refine⟨⟨eu up ?_,?_⟩,⟨by simp,by simp⟩,trivial⟩
    ·rw[hHl]
     have:=congrArg List.length e1
     have h3:=(YL.1 l2).1
     rw[hHl] at h3
     omega
    ·simp
end
section
variable (G:am)
theorem Lg{f:FuncId}{args:List AV}{h h1:List AO}{v:AV}(H:AC Tryz.prog G f args h λx h'=>x= .ret v/\∃l,h'=h1++l)(hl:h1.length=h.length)(ho:∀o∈h1,okO h.length o)(hv:below h.length v):
 AC Tryz.prog G f args h λx h'=>x= .ret v/\h'=h1:=by
 refine H.wk (λt v h ⟨e,_⟩=>by cases e) ?_
 rintro u h' ⟨e,l,rfl⟩
 cases e
 refine⟨v,h1,Dl (n:=h.length) (YY _) (eE ?_ hl ho) ?_,rfl,rfl⟩
 ·rw[←hl,List.take_left'];rfl
 ·simp[Fgt,hv]
theorem Ti{f:FuncId}{args:List AV}{b0:AO}{fns:List Fd}{k:Nat}{c c':Int}{ch ch':List GS}{v:AV}(H:AC Tryz.prog G f args (CH b0 fns k c ch) λx h=>x= .ret v/\h=CH b0 fns k c' ch')(hb:okO 0 b0)(hs:oT ch)(hl:scL ch'=scL ch)(rest:List AO)(ha:ah (2+scL ch) args):
 AC Tryz.prog G f args (CH b0 fns k c ch++rest) λx h=>x= .ret v/\h=CH b0 fns k c' ch'++rest:=by
 refine(AC.pre H rest (by rw[kh];exact ha) (by rw[kh];exact Hu hb hs (YY _)) ?_).mono ?_
 ·rintro x h ⟨_,rfl⟩;rw[kh,kh,hl]
 ·rintro x h ⟨h1,⟨rfl,rfl⟩,rfl⟩
  exact⟨rfl,rfl⟩
def bxs(ch:List GS)(q:List AV):List AO:=[.row 1 [[.ptr 1 3 0 0]],.row 4 [q],.row 1 [[upV ch]]]
def tL(b0:AO)(fns:List Fd)(k:Nat)(ch:List GS)(q:List PV)(hb:okO 0 b0)(hs:oT ch):Vis Int where
 I:=λc=>CH b0 fns k c ch++bxs ch (q.map .p)
 n:=2+scL ch+3
 F:=cn
 caps:=[.ptr (2+scL ch+2) 1 0 0,.ptr (2+scL ch) 1 0 0]
 len:=λc=>by rw[YZ,kh];rfl
 ok:=λc o ho=>by
  rcases YV.1 ho with h|h
  ·exact Hu hb hs (by omega) o h
  ·simp only[bxs,Za,Zj,or_false] at h
   rcases h with rfl|rfl|rfl
   ·intro e he;rw[YQ.1 he];exact⟨by simp only[below];omega,trivial⟩
   ·intro e he;rw[YQ.1 he];exact aJ (ZD _) _ (by simp)
   ·intro e he;rw[YQ.1 he];exact⟨eu ch (by omega),trivial⟩
 capsOk:=by simp[below]
def eH(b0:AO)(fns:List Fd)(k:Nat)(ch:List GS)(q:List PV)(e:Ex)(c:Int):List AO:=b0::cO fns k c::(scH ch++(bxs ch (q.map .p)++[.row 4 [[.p (.int .i64 e.op),.p (.int .i64 e.n),.p (.str e.name),.p (exL e.kids)]]]))
section
variable {b0:AO} {fns:List Fd} {k:Nat} {ch:List GS} {q:List PV} {e:Ex} {c:Int}
theorem eH_eq{hb:okO 0 b0}{hs:oT ch}:(tL b0 fns k ch q hb hs).I c++[.row 4 [[.p (.int .i64 e.op),.p (.int .i64 e.n),.p (.str e.name),.p (exL e.kids)]]]=eH b0 fns k ch q e c:=by
 simp[tL,eH,CH]
theorem RS:(eH b0 fns k ch q e c)[1]?=some (.row 3 [[.p (fdL fns),.p (.int .i64 k),.p (.int .i64 c)]]):=rfl
theorem OW(i:Nat):(eH b0 fns k ch q e c)[2+scL ch+i]?=(bxs ch (q.map .p)++[.row 4 [[.p (.int .i64 e.op),.p (.int .i64 e.n),.p (.str e.name),.p (exL e.kids)]]])[i]?:=by
 rw[eH,show 2+scL ch+i=(scL ch+i)+1+1 by omega,Zd,Zd]
 exact Rj (kL ch) i
theorem LS:(eH b0 fns k ch q e c)[2+scL ch]?=some (.row 1 [[.ptr 1 3 0 0]]):=OW 0
theorem Wn:(eH b0 fns k ch q e c)[2+scL ch+2]?=some (.row 1 [[upV ch]]):=OW 2
theorem Na:(eH b0 fns k ch q e c)[2+scL ch+3]?=some (.row 4 [[.p (.int .i64 e.op),.p (.int .i64 e.n),.p (.str e.name),.p (exL e.kids)]]):=OW 3
end
theorem Pz{fns:List Fd}{s:List UInt8}{j:Nat}(h:cg fns s=some j):j<fns.length:=by
 rw[cg,Zg] at h;exact h.1
theorem OS(b0:AO){fns:List Fd}{k:Nat}(hf:fns.length<=1073741824)(hk:k<=fns.length)(ch:List GS)(q:List PV)(hb:okO 0 b0)(hs:oT ch)(c:Int)(e:Ex)(he:e.sz<=1073741824):
 AC Tryz.prog G cn (.agg (e.cs.map .p)::(tL b0 fns k ch q hb hs).caps) ((tL b0 fns k ch q hb hs).I c) λx h=>x= .ret (.tup [])/\h=(tL b0 fns k ch q hb hs).I (iq fns k (sco ch) c e):=by
 refine(tL b0 fns k ch q hb hs).trim G (AC.go rj ?_) (by simp[below])
 have hec:=e.cs_eq
 have hlen:((tL b0 fns k ch q hb hs).I c).length=2+scL ch+3:=(tL b0 fns k ch q hb hs).len c
 have hcaps:(tL b0 fns k ch q hb hs).caps=[.ptr (2+scL ch+2) 1 0 0,.ptr (2+scL ch) 1 0 0]:=rfl
 have fin:∀c',(∃l,eH b0 fns k ch q e c'=(tL b0 fns k ch q hb hs).I c'++l):=λc'=>⟨_,eH_eq.symm⟩
 have hfail:∀n,AC Tryz.prog G cY [.ptr 1 3 0 0,.p (.int .i64 n)] (eH b0 fns k ch q e c) λx h=>x= .ret (.tup [])/\h=eH b0 fns k ch q e (fl c n):=λn=>FO G b0 fns k c n _
 have hkl:=bB e.kids
 have hsz:=e.sz_eq
 rw[hcaps]
 simp-implicitDefEqProofs[jU,hec,hlen]
 rw[eH_eq]
 generalize hV:(tL b0 fns k ch q hb hs).I=VI at fin⊢
 by_cases o2:e.op=2
 ·have hfind:AC Tryz.prog G bq [upV ch,.p (.str e.name)] (eH b0 fns k ch q e c) λx h=>x= .ret (.tup [.p (.int .i64 (((fC (sco ch) e.name).getD 0:Nat):Int)),.p (.bool (fC (sco ch) e.name).isSome)])/\h=eH b0 fns k ch q e c:=JS G b0 (cO fns k c) ch _ e.name
  simp-implicitDefEqProofs[o2,LS,Wn,Na,RS]
  refine hfind.mono ?_
  rintro r h ⟨rfl,rfl⟩
  cases hfs:fC (sco ch) e.name with
  |some n=>
   have hv:iq fns k (sco ch) c e=c:=by simp[iq,o2,hfs]
   rw[hv]
   simp-implicitDefEqProofs[aa]
   exact fin c
  |none=>
   have hv:iq fns k (sco ch) c e=fl c 3:=by simp[iq,o2,hfs]
   rw[hv]
   simp-implicitDefEqProofs[aa,LS]
   refine(hfail 3).mono ?_
   rintro r h ⟨rfl,rfl⟩
   simp-implicitDefEqProofs[aa]
   exact fin _
 by_cases o13:e.op=13
 ·have hfl:fdL fns= .lst 3 (fns.map Fd.cs):=rfl
  have hfk:fdL (fns.take k)= .lst 3 ((fns.map Fd.cs).take k):=by rw[←List.map_take];rfl
  have hxl:exL e.kids= .lst 4 (e.kids.map Ex.cs):=rfl
  have hAt:=Jc G (fns.take k) e.name (by rw[Zl];omega)
  rw[hfk] at hAt
  simp-implicitDefEqProofs[o13,LS,Wn,Na,RS,hfl,hk]
  refine hAt.use ?_
  cases hfa:cg (fns.take k) e.name with
  |none=>
   have hv:iq fns k (sco ch) c e=fl c 4:=by simp[iq,o13,hfa]
   rw[hv]
   simp-implicitDefEqProofs[ixI,LS]
   refine(hfail 4).mono ?_
   rintro r h ⟨rfl,rfl⟩
   simp-implicitDefEqProofs[aa]
   exact fin _
  |some j=>
   have hj:=Pz hfa
   rw[Zl] at hj
   have hjl:j<fns.length:=by omega
   have hg:=YO hjl
   have hjn:¬(j:Int)<0:=by omega
   have hcs:fns[j].cs=[.str fns[j].name,al fns[j].params,smL fns[j].body]:=rfl
   have hst:al fns[j].params= .lst 1 (fns[j].params.map λw=>[.str w]):=rfl
   have hpn:AD fns j=fns[j].params.length:=by simp[AD,hg]
   by_cases hp:fns[j].params.length=e.kids.length
   ·have hv:iq fns k (sco ch) c e=c:=by simp[iq,o13,hfa,hpn,hp]
    rw[hv]
    simp-implicitDefEqProofs[ixI,LS,RS,Na,hjn,hfl,hg,hcs,hst,hxl,hp]
    exact fin _
   ·have hv:iq fns k (sco ch) c e=fl c 5:=by simp[iq,o13,hfa,hpn,hp]
    have hp':¬(fns[j].params.length:Int)=(e.kids.length:Int):=by omega
    rw[hv]
    simp-implicitDefEqProofs[ixI,LS,RS,Na,hjn,hfl,hg,hcs,hst,hxl,hp']
    refine(hfail 5).mono ?_
    rintro r h ⟨rfl,rfl⟩
    simp-implicitDefEqProofs[aa]
    exact fin _
 ·have hv:iq fns k (sco ch) c e=c:=by simp[iq,o2,o13]
  rw[hv]
  simp-implicitDefEqProofs[o2,o13,Na]
  exact fin _
theorem KN(ch:List GS):upV ch= .nilp\/∃i,upV ch= .ptr i 2 0 0:=by
 cases ch with
 |nil=>exact .inl rfl
 |cons g up=>exact .inr ⟨_,rfl⟩
theorem Tp(b0:AO){fns:List Fd}{k:Nat}(hf:fns.length<=1073741824)(hk:k<=fns.length)(ch:List GS)(hb:okO 0 b0)(hs:oT ch)(c:Int)(e:Ex)(he:e.sz<=1073741824):
 AC Tryz.prog G dV [.ptr 1 3 0 0,.agg (e.cs.map .p),upV ch] (CH b0 fns k c ch) λx h=>x= .ret (.tup [])/\h=CH b0 fns k (e.pre.foldl (iq fns k (sco ch)) c) ch:=by
 refine Lg G (h:=CH b0 fns k c ch) (AC.go tG ?_) (by rw[kh,kh]) (by rw[kh];exact Hu hb hs (YY _)) (by simp[below])
 have hec:=e.cs_eq
 have hlen:(CH b0 fns k c ch).length=2+scL ch:=kh _ _ _ _ _
 have hI:=(RY G (tL b0 fns k ch e.cs hb hs) (iq fns k (sco ch)) (λ_=>True) 1073741824 (by omega) (λst x _ hx=>⟨trivial,OS G b0 hf hk ch e.cs hb hs st x hx⟩) (e.sz+1) e (by omega) he c trivial).2
 have hcaps:(tL b0 fns k ch e.cs hb hs).caps=[.ptr (2+scL ch+2) 1 0 0,.ptr (2+scL ch) 1 0 0]:=rfl
 have hF:(tL b0 fns k ch e.cs hb hs).F=cn:=rfl
 have hVI:(tL b0 fns k ch e.cs hb hs).I c=CH b0 fns k c ch++[.row 1 [[.ptr 1 3 0 0]],.row 4 [[.p (.int .i64 e.op),.p (.int .i64 e.n),.p (.str e.name),.p (exL e.kids)]],.row 1 [[upV ch]]]:=by simp[tL,bxs,hec]
 rw[hcaps,hF,hVI,hec] at hI
 have hup:=KN ch
 generalize upV ch=u at hI hup⊢
 rcases hup with rfl|⟨i,rfl⟩
 ·simp-implicitDefEqProofs[gy,hec,hlen]
  refine hI.mono ?_
  rintro r h ⟨rfl,rfl⟩
  simp-implicitDefEqProofs[aa]
  exact⟨_,rfl⟩
 ·simp-implicitDefEqProofs[gy,hec,hlen]
  refine hI.mono ?_
  rintro r h ⟨rfl,rfl⟩
  simp-implicitDefEqProofs[aa]
  exact⟨_,rfl⟩
end
section
theorem rD:AK.whole fW=FK.ak fV:=rfl
theorem In(fns:List Fd)(k:Nat):∀(a b:List Sm) (m:Scp) (up:List Scp) (c:Int),jL fns k (a++b) m up c=jL fns k b (jL fns k a m up c).1 up (jL fns k a m up c).2
 |[],b,m,up,c=>rfl
 |s::r,b,m,up,c=>by rw[Zx,jL,jL,In fns k r]
theorem Mc{fns:List Fd}{k:Nat}{l:List Sm}{m:Scp}{up:List Scp}{c:Int}{i:Nat}(h:i<l.length):jL fns k (l.take (i+1)) m up c=icS fns k l[i] (jL fns k (l.take i) m up c).1 up (jL fns k (l.take i) m up c).2:=by
 rw[an h,In];rfl
def AX(b0:AO)(fns:List Fd)(k:Nat)(up:List GS)(gap:List AO)(c:Int):List AO:=b0::cO fns k c::(scH up++gap)
theorem TH(b0:AO)(fns:List Fd)(k:Nat)(up:List GS)(gap:List AO)(c:Int):(AX b0 fns k up gap c).length=2+scL up+gap.length:=by
 simp only[AX,Ze,YZ,kL];omega
theorem Pc(b0:AO)(fns:List Fd)(k:Nat)(up:List GS)(gap:List AO)(m:Scp)(c:Int)(rest:List AO):CH b0 fns k c (⟨gap,m⟩::up)++rest=AX b0 fns k up gap c++(.mp (mpE m):: .row 2 [[.mp (2+scL up+gap.length),upV up]]::rest):=by
 simp[CH,AX,scH]
theorem OG(b0:AO)(fns:List Fd)(k:Nat)(up:List GS)(gap:List AO)(m:Scp)(c:Int):CH b0 fns k c (⟨gap,m⟩::up)=AX b0 fns k up gap c++[.mp (mpE m),.row 2 [[.mp (2+scL up+gap.length),upV up]]]:=by
 have:=Pc b0 fns k up gap m c []
 rwa[ZB] at this
theorem VC{b0:AO}{fns:List Fd}{k:Nat}{up:List GS}{gap:List AO}(hb:okO 0 b0)(hs:oT up)(hg:∀o∈gap,okO (2+scL up+gap.length) o)(c:Int):∀o∈AX b0 fns k up gap c,okO (2+scL up+gap.length) o:=by
 refine ae (cw hb) (ae (by intro e he;rw[YQ.1 he];simp[below]) ?_)
 intro o ho
 rcases YV.1 ho with h|h
 ·exact Fv up hs (by omega) o h
 ·exact hg o h
theorem ta{kk L n:Nat}{A r s:List AO}{l l1:List (Nat × AV)}(hl:A.length=L)(hk:kk<=L+r.length)(ha:∀o∈A,okO L o)(hr:∀o∈r,okO (L+r.length) o)(H:FgA (L+r.length) l l1):Wk kk (aj n l) (A++(r++s)) (aj n l1) (A++r):=by
 have hll:(A++r).length=L+r.length:=by rw[YZ,hl]
 refine je (m:=L+r.length) hk (eE ?_ hll ?_) H
 ·rw[←Zt,←hll,List.take_left'];rfl
 ·intro o ho
  rcases YV.1 ho with h|h
  ·exact oX (by omega) (ha o h)
  ·exact hr o h
theorem Cn(m:Scp)(n:Nat):okO n (.mp (mpE m)):=by
 intro e he
 obtain⟨x,_,rfl⟩:=Zh.1 he
 simp[below]
variable (G:am)
theorem Qs(b0:AO){fns:List Fd}{k:Nat}(hf:fns.length<=1073741824)(hk:k<=fns.length)(hb:okO 0 b0):∀(N:Nat) (l:List Sm),ay l<N->ay l<=1073741824->∀(gap:List AO) (m:Scp) (up:List GS) (c:Int),oT (⟨gap,m⟩::up)->
 AC Tryz.prog G bN [.ptr 1 3 0 0,.p (smL l),upV (⟨gap,m⟩::up)] (CH b0 fns k c (⟨gap,m⟩::up)) λx h=>x= .ret (.tup [])/\h=CH b0 fns k (jL fns k l m (sco up) c).2 (⟨gap,(jL fns k l m (sco up) c).1⟩::up):=by
 intro N
 induction N with
 |zero=>intro l h;omega
 |succ N ih=>
  intro l hl hz gap m up c hs
  have hll:=cC l
  have hsl:∀l,smL l= .lst 5 (l.map Sm.cs):=λ_=>rfl
  have hs':∀m,oT (⟨gap,m⟩::up):=λ_=>hs
  have hscl:∀m,scL (⟨gap,m⟩::up)=scL up+gap.length+2:=λ_=>rfl
  refine Lg G (AC.goK sw rD ?_) (by rw[kh,kh];rfl) (by rw[kh];exact Hu hb (hs' _) (by rw[hscl];exact Nat.le_of_eq (by rfl))) (by simp[below])
  have hup:upV (⟨gap,m⟩::up)= .ptr (2+scL up+gap.length+1) 2 0 0:=rfl
  have hlenC:∀c m,(CH b0 fns k c (⟨gap,m⟩::up)).length=2+scL up+gap.length+2:=λc m=>by rw[kh,hscl];omega
  have hokC:∀c m,∀o∈CH b0 fns k c (⟨gap,m⟩::up),okO (2+scL up+gap.length+2) o:=λc m=>Hu hb (hs' m) (by rw[hscl];omega)
  have hlenA:∀c,(AX b0 fns k up gap c).length=2+scL up+gap.length:=TH b0 fns k up gap
  simp-implicitDefEqProofs[fW,fV,hsl,hup]
  refine aN (λi:Nat=>aj 89 [(0,.ptr 1 3 0 0),(2,.ptr (2+scL up+gap.length+1) 2 0 0),(14,.p (smL l)),(15,.p (.int .i64 l.length)),(16,.p (.int .i64 i))])
   (λi=>CH b0 fns k (jL fns k (l.take i) m (sco up) c).2 (⟨gap,(jL fns k (l.take i) m (sco up) c).1⟩::up)) (λi=>i<=l.length) (λi=>l.length-i) 0 (by simp) ?_ ?_
  ·refine af (h:=CH b0 fns k c (⟨gap,m⟩::up)) (YY _) (by rw[hlenC];exact hokC _ _) ?_
   rw[hlenC]
   simp[below,hsl]
  intro i hi
  have eT:=λh=>Mc (fns:=fns) (k:=k) (l:=l) (m:=m) (up:=sco up) (c:=c) (i:=i) h
  rw[hlenC]
  generalize hst:jL fns k (l.take i) m (sco up) c=st at eT⊢
  obtain⟨mi,ci⟩:=st
  simp only at eT⊢
  simp-implicitDefEqProofs[hsl]
  refine bi (λh=>?_) (λh=>?_)
  ·simp at h
   have hg:=YO h
   have hse:=l[i].cs_eq
   have hsz:=l[i].sz_eq
   have hks:=ew (Zf h)
   have eT:=eT h
   generalize l[i]=s at hg hse hsz hks eT
   obtain⟨o,nme,a,bd,el⟩:=s
   simp only[Sm.op,Sm.name,Sm.args,Sm.body,Sm.els] at hse hsz
   have hxl:exL a= .lst 4 (a.map Ex.cs):=rfl
   have hal:=bB a
   simp-implicitDefEqProofs[hg,hse,hlenC,hxl]
   have hexpr:∀(c:Int) (e:Ex) (rest:List AO),e.sz<=1073741824->AC Tryz.prog G dV [.ptr 1 3 0 0,.agg (e.cs.map .p),.ptr (2+scL up+gap.length+1) 2 0 0] (AX b0 fns k up gap c++(.mp (mpE mi):: .row 2 [[.mp (2+scL up+gap.length),upV up]]::rest)) λx h=>x= .ret (.tup [])/\h=AX b0 fns k up gap (e.pre.foldl (iq fns k (mi::sco up)) c)++(.mp (mpE mi):: .row 2 [[.mp (2+scL up+gap.length),upV up]]::rest):=by
    intro c e rest he
    have:=Ti G (Tp G b0 hf hk (⟨gap,mi⟩::up) hb (hs' mi) c e he) hb (hs' mi) rfl rest (by refine⟨by simp only[below];omega,by simp,eu _ (YY _),trivial⟩)
    simp only[Pc] at this
    exact this
   have hfail:∀(c e:Int) (t:List AO),AC Tryz.prog G cY [.ptr 1 3 0 0,.p (.int .i64 e)] (AX b0 fns k up gap c++t) λx h=>x= .ret (.tup [])/\h=AX b0 fns k up gap (fl c e)++t:=λc e t=>FO G b0 fns k c e _
   have hfind:∀(c:Int) (m:Scp) (s:List UInt8) (rest:List AO),AC Tryz.prog G bq [.ptr (2+scL up+gap.length+1) 2 0 0,.p (.str s)] (AX b0 fns k up gap c++(.mp (mpE m):: .row 2 [[.mp (2+scL up+gap.length),upV up]]::rest)) λx h=>x= .ret (.tup [.p (.int .i64 (((fC (m::sco up) s).getD 0:Nat):Int)),.p (.bool (fC (m::sco up) s).isSome)])/\h=AX b0 fns k up gap c++(.mp (mpE m):: .row 2 [[.mp (2+scL up+gap.length),upV up]]::rest):=by
    intro c m s rest
    have:=JS G b0 (cO fns k c) (⟨gap,m⟩::up) rest s
    have e:b0::cO fns k c::(scH (⟨gap,m⟩::up)++rest)=CH b0 fns k c (⟨gap,m⟩::up)++rest:=rfl
    rw[e,Pc] at this
    exact this
   have hblk:∀(c:Int) (m2:Scp) (l':List Sm) (gap2:List AO),ay l'<N->ay l'<=1073741824->(∀o∈gap2,okO (2+scL up+gap.length+2+gap2.length) o)->
    AC Tryz.prog G bN [.ptr 1 3 0 0,.p (smL l'),.ptr (2+scL up+gap.length+2+gap2.length+1) 2 0 0] (AX b0 fns k up gap c++(.mp (mpE m2):: .row 2 [[.mp (2+scL up+gap.length),upV up]]::(gap2++[.mp [],.row 2 [[.mp (2+scL up+gap.length+2+gap2.length),.ptr (2+scL up+gap.length+1) 2 0 0]]])))
     λx h=>x= .ret (.tup [])/\∃m',h=AX b0 fns k up gap (jL fns k l' [] (m2::sco up) c).2++(.mp (mpE m2):: .row 2 [[.mp (2+scL up+gap.length),upV up]]::(gap2++[.mp (mpE m'),.row 2 [[.mp (2+scL up+gap.length+2+gap2.length),.ptr (2+scL up+gap.length+1) 2 0 0]]])):=by
    intro c m2 l' gap2 h1 h2 h3
    have e1:2+scL (⟨gap,m2⟩::up)+gap2.length=2+scL up+gap.length+2+gap2.length:=by rw[hscl];omega
    have e2:∀c m',CH b0 fns k c (⟨gap2,m'⟩::⟨gap,m2⟩::up)=AX b0 fns k up gap c++(.mp (mpE m2):: .row 2 [[.mp (2+scL up+gap.length),upV up]]::(gap2++[.mp (mpE m'),.row 2 [[.mp (2+scL up+gap.length+2+gap2.length),.ptr (2+scL up+gap.length+1) 2 0 0]]])):=by
     intro c m'
     rw[←e1]
     simp[CH,AX,scH,upV]
    have:=ih l' h1 h2 gap2 [] (⟨gap,m2⟩::up) c ⟨by rw[e1];exact h3,hs' m2⟩
    rw[show upV (⟨gap2,[]⟩::⟨gap,m2⟩::up)= .ptr (2+scL up+gap.length+2+gap2.length+1) 2 0 0 by rw[←e1];rfl] at this
    rw[e2] at this
    refine this.mono ?_
    rintro x h ⟨hx,hh⟩
    exact⟨hx,(jL fns k l' [] (sco (⟨gap,m2⟩::up)) c).1,by rw[hh,e2];rfl⟩
   rw[OG b0 fns k up gap mi ci,Zt]
   simp only[Zx,List.nil_append]
   have hokA:=VC (fns:=fns) (k:=k) hb hs.2 hs.1
   generalize hL:2+scL up+gap.length=L at hexpr hfind hblk hlenA hlenC hokC hokA⊢
   have hR:okO (L+2) (.row 2 [[.mp L,upV up]]):=by
    intro e he;rw[YQ.1 he]
    exact⟨by simp only[below];omega,eu up (by omega),trivial⟩
   have hX:okO 0 (.row 5 [[AV.p (.int .i64 o),.p (.str nme),.p (.lst 4 (a.map Ex.cs)),.p (smL bd),.p (smL el)]]):=by simp[okO]
   have ok3:∀(m:Scp),∀x∈[AO.mp (mpE m),.row 2 [[.mp L,upV up]],.row 5 [[AV.p (.int .i64 o),.p (.str nme),.p (.lst 4 (a.map Ex.cs)),.p (smL bd),.p (smL el)]]],okO (L+3) x:=λm=>
    ae (Cn _ _) (ae (oX (by omega) hR) (ae (cw hX) dX))
   refine aN (λj:Nat=>aj 89 [(0,.ptr 1 3 0 0),(2,.ptr (L+1) 2 0 0),(7,.ptr (L+2) 5 0 0),(14,.p (smL l)),(15,.p (.int .i64 l.length)),(16,.p (.int .i64 i)),(21,.p (exL a)),(22,.p (.int .i64 a.length)),(23,.p (.int .i64 j))])
    (λj=>AX b0 fns k up gap ((dQ (a.take j)).foldl (iq fns k (mi::sco up)) ci)++[.mp (mpE mi),.row 2 [[.mp L,upV up]],.row 5 [[AV.p (.int .i64 o),.p (.str nme),.p (.lst 4 (a.map Ex.cs)),.p (smL bd),.p (smL el)]]])
    (λj=>j<=a.length) (λj=>a.length-j) 0 (by simp) ?_ ?_
   ·refine ta (s:=[]) (hlenA _) (by simp) (hokA _) (ok3 _) ?_
    simp[below,hsl,hxl]
   intro j hj
   simp-implicitDefEqProofs[hxl]
   refine bi (λhc=>?_) (λhc=>?_)
   ·simp at hc
    have hga:=YO hc
    have hka:=bS (Zf hc)
    have hkc:=a[j].cs_eq
    have hE:=hexpr ((dQ (a.take j)).foldl (iq fns k (mi::sco up)) ci) a[j] [.row 5 [[AV.p (.int .i64 o),.p (.str nme),.p (.lst 4 (a.map Ex.cs)),.p (smL bd),.p (smL el)]],.row 4 [[.p (.int .i64 a[j].op),.p (.int .i64 a[j].n),.p (.str a[j].name),.p (exL a[j].kids)]]] (by omega)
    rw[hkc] at hE
    simp-implicitDefEqProofs[hga,hkc,hlenA]
    refine hE.mono ?_
    rintro r h ⟨rfl,rfl⟩
    simp-implicitDefEqProofs[aa]
    refine⟨j+1,hc,by omega,?_⟩
    have hf2:(dQ (a.take (j+1))).foldl (iq fns k (mi::sco up)) ci=a[j].pre.foldl (iq fns k (mi::sco up)) ((dQ (a.take j)).foldl (iq fns k (mi::sco up)) ci):=by
     rw[an hc,vl,List.foldl_append,dQ,dQ,ZB]
    rw[hf2]
    refine ta (r:=[_,_,_]) (s:=[_]) (hlenA _) (by simp) (hokA _) (ok3 _) ?_
    simp[below,hsl,hxl,w1 (i:=j) (by omega)]
   simp at hc
   have hje:j=a.length:=by omega
   subst hje
   rw[ZM]
   have hic:icS fns k ⟨o,nme,a,bd,el⟩ mi (sco up) ci=(opS o nme mi 0,if o=5\/o=6 then(jL fns k el [] (opS o nme mi 0::sco up) (jL fns k bd [] (opS o nme mi 0::sco up) (opC o nme mi (sco up) (JE fns k (mi::sco up) a ci))).2).2 else opC o nme mi (sco up) (JE fns k (mi::sco up) a ci)):=rfl
   rw[hic] at eT
   clear hic
   rw[show(dQ a).foldl (iq fns k (mi::sco up)) ci=JE fns k (mi::sco up) a ci from rfl]
   generalize JE fns k (mi::sco up) a ci=c1 at eT⊢
   simp-implicitDefEqProofs[]
   refine nk (aj 89 [(0,.ptr 1 3 0 0),(2,.ptr (L+1) 2 0 0),(7,.ptr (L+2) 5 0 0),(14,.p (smL l)),(15,.p (.int .i64 l.length)),(16,.p (.int .i64 i))])
    (AX b0 fns k up gap (opC o nme mi (sco up) c1)++[.mp (mpE (opS o nme mi 0)),.row 2 [[.mp L,upV up]],.row 5 [[AV.p (.int .i64 o),.p (.str nme),.p (.lst 4 (a.map Ex.cs)),.p (smL bd),.p (smL el)]]]) ?_ ?_
   ·have fin:∀(r1:List (Nat × AV)) (c2:Int) (m2:Scp),Aw.look r1 0= .ptr 1 3 0 0->Aw.look r1 2= .ptr (L+1) 2 0 0->Aw.look r1 7= .ptr (L+2) 5 0 0->Aw.look r1 14= .p (smL l)->Aw.look r1 15= .p (.int .i64 l.length)->Aw.look r1 16= .p (.int .i64 i)->
     Wk (L+2) (aj 89 r1) (AX b0 fns k up gap c2++[.mp (mpE m2),.row 2 [[.mp L,upV up]],.row 5 [[AV.p (.int .i64 o),.p (.str nme),.p (.lst 4 (a.map Ex.cs)),.p (smL bd),.p (smL el)]]])
      (aj 89 [(0,.ptr 1 3 0 0),(2,.ptr (L+1) 2 0 0),(7,.ptr (L+2) 5 0 0),(14,.p (smL l)),(15,.p (.int .i64 l.length)),(16,.p (.int .i64 i))])
      (AX b0 fns k up gap c2++[.mp (mpE m2),.row 2 [[.mp L,upV up]],.row 5 [[AV.p (.int .i64 o),.p (.str nme),.p (.lst 4 (a.map Ex.cs)),.p (smL bd),.p (smL el)]]]):=by
     intro r1 c2 m2 e0 e2 e7 e14 e15 e16
     refine ta (s:=[]) (hlenA _) (by simp) (hokA _) (ok3 _) ?_
     simp[below,e0,e2,e7,e14,e15,e16]
    by_cases o1:o=1
    ·have hmg:=yK nme mi
     have hms:iJ (.str nme) (.p (.int .i64 0)) (mpE mi)=some (mpE (eK mi nme 0)):=by simpa using vV nme 0 mi
     have e2:opS o nme mi 0=eK mi nme 0:=if_pos o1
     rw[e2]
     cases hh:eZ mi nme with
     |none=>
      have e1:opC o nme mi (sco up) c1=c1:=by rw[opC,if_pos o1,hh];rfl
      rw[hh] at hmg
      rw[e1]
      subst o1
      simp-implicitDefEqProofs[hlenA,hmg,hms]
      exact fin _ _ _ (by simp) (by simp) (by simp) (by simp[hsl]) (by simp) (by simp)
     |some n=>
      have e1:opC o nme mi (sco up) c1=fl c1 2:=by rw[opC,if_pos o1,hh];rfl
      rw[hh] at hmg
      rw[e1]
      subst o1
      simp-implicitDefEqProofs[hlenA,hmg,hms]
      refine(hfail c1 2 _).mono ?_
      rintro r h ⟨rfl,rfl⟩
      simp-implicitDefEqProofs[aa,hlenA,hms]
      exact fin _ _ _ (by simp) (by simp) (by simp) (by simp[hsl]) (by simp) (by simp)
    have e2:opS o nme mi 0=mi:=if_neg o1
    rw[e2]
    by_cases o2:o=2
    ·cases hh:fC (mi::sco up) nme with
     |none=>
      have e1:opC o nme mi (sco up) c1=fl c1 3:=by rw[opC,if_neg o1,if_pos o2,hh];rfl
      rw[e1]
      subst o2
      have hF:=hfind c1 mi nme [.row 5 [[AV.p (.int .i64 2),.p (.str nme),.p (.lst 4 (a.map Ex.cs)),.p (smL bd),.p (smL el)]]]
      rw[hh] at hF
      simp-implicitDefEqProofs[hlenA]
      refine hF.mono ?_
      rintro r h ⟨rfl,rfl⟩
      simp-implicitDefEqProofs[aa]
      refine(hfail c1 3 _).mono ?_
      rintro r h ⟨rfl,rfl⟩
      simp-implicitDefEqProofs[aa]
      exact fin _ _ _ (by simp) (by simp) (by simp) (by simp[hsl]) (by simp) (by simp)
     |some n=>
      have e1:opC o nme mi (sco up) c1=c1:=by rw[opC,if_neg o1,if_pos o2,hh];rfl
      rw[e1]
      subst o2
      have hF:=hfind c1 mi nme [.row 5 [[AV.p (.int .i64 2),.p (.str nme),.p (.lst 4 (a.map Ex.cs)),.p (smL bd),.p (smL el)]]]
      rw[hh] at hF
      simp-implicitDefEqProofs[hlenA]
      refine hF.mono ?_
      rintro r h ⟨rfl,rfl⟩
      simp-implicitDefEqProofs[aa]
      exact fin _ _ _ (by simp) (by simp) (by simp) (by simp[hsl]) (by simp) (by simp)
    ·have e1:opC o nme mi (sco up) c1=c1:=by rw[opC,if_neg o1,if_neg o2]
     rw[e1]
     simp-implicitDefEqProofs[hlenA,o1,o2]
     exact fin _ _ _ (by simp) (by simp) (by simp) (by simp[hsl]) (by simp) (by simp)
   generalize opC o nme mi (sco up) c1=c2 at eT⊢
   generalize opS o nme mi 0=m2 at eT⊢
   have hdrop:∀(r1:List (Nat × AV)) (c3:Int) (s:List AO),Aw.look r1 0= .ptr 1 3 0 0->Aw.look r1 2= .ptr (L+1) 2 0 0->Aw.look r1 14= .p (smL l)->Aw.look r1 15= .p (.int .i64 l.length)->Aw.look r1 16= .p (.int .i64 ((i:Int)+1))->
    Wk (L+2) (aj 89 r1) (AX b0 fns k up gap c3++([.mp (mpE m2),.row 2 [[.mp L,upV up]]]++s)) (aj 89 [(0,.ptr 1 3 0 0),(2,.ptr (L+1) 2 0 0),(14,.p (smL l)),(15,.p (.int .i64 l.length)),(16,.p (.int .i64 ((i:Int)+1)))]) (CH b0 fns k c3 (⟨gap,m2⟩::up)):=by
    intro r1 c3 s e0 e2 e14 e15 e16
    rw[OG,hL]
    refine ta (hlenA _) (by simp) (hokA _) (ae (Cn _ _) (ae hR dX)) ?_
    simp[below,e0,e2,e14,e15,e16]
   by_cases ho:o=5\/o=6
   ·rw[if_pos ho] at eT
    rcases ho with o5|o6
    ·subst o5
     simp-implicitDefEqProofs[hlenA]
     refine(sL G (.ptr (L+1) 2 0 0) (.inr ⟨_,rfl⟩) _).mono ?_
     rintro r h ⟨rfl,rfl⟩
     simp-implicitDefEqProofs[aa,hlenA]
     refine(hblk c2 m2 bd [_] (by omega) (by omega) (λx hx=>by rw[YQ.1 hx];exact cw (by simp[okO]))).mono ?_
     rintro r h ⟨rfl,m3,rfl⟩
     simp-implicitDefEqProofs[aa,hlenA]
     refine(sL G (.ptr (L+1) 2 0 0) (.inr ⟨_,rfl⟩) _).mono ?_
     rintro r h ⟨rfl,rfl⟩
     simp-implicitDefEqProofs[aa,hlenA]
     refine(hblk _ m2 el [_,_,_] (by omega) (by omega) (ae (cw (by simp[okO])) (ae (Cn _ _) (ae (by
      intro e he;rw[YQ.1 he]
      exact⟨by simp only[below];simp,by simp only[below];simp,trivial⟩) dX)))).mono ?_
     rintro r h ⟨rfl,m4,rfl⟩
     simp-implicitDefEqProofs[aa,hlenA]
     refine⟨i+1,by omega,by omega,?_⟩
     rw[eT]
     refine hdrop _ _ _ (by simp) (by simp) (by simp[hsl]) (by simp) (by simp[w1 (i:=i) (by omega)])
    ·subst o6
     simp-implicitDefEqProofs[hlenA]
     refine(sL G (.ptr (L+1) 2 0 0) (.inr ⟨_,rfl⟩) _).mono ?_
     rintro r h ⟨rfl,rfl⟩
     simp-implicitDefEqProofs[aa,hlenA]
     refine(hblk c2 m2 bd [_] (by omega) (by omega) (λx hx=>by rw[YQ.1 hx];exact cw (by simp[okO]))).mono ?_
     rintro r h ⟨rfl,m3,rfl⟩
     simp-implicitDefEqProofs[aa,hlenA]
     refine(sL G (.ptr (L+1) 2 0 0) (.inr ⟨_,rfl⟩) _).mono ?_
     rintro r h ⟨rfl,rfl⟩
     simp-implicitDefEqProofs[aa,hlenA]
     refine(hblk _ m2 el [_,_,_] (by omega) (by omega) (ae (cw (by simp[okO])) (ae (Cn _ _) (ae (by
      intro e he;rw[YQ.1 he]
      exact⟨by simp only[below];simp,by simp only[below];simp,trivial⟩) dX)))).mono ?_
     rintro r h ⟨rfl,m4,rfl⟩
     simp-implicitDefEqProofs[aa,hlenA]
     refine⟨i+1,by omega,by omega,?_⟩
     rw[eT]
     refine hdrop _ _ _ (by simp) (by simp) (by simp[hsl]) (by simp) (by simp[w1 (i:=i) (by omega)])
   ·rw[if_neg ho] at eT
    have o5:¬o=5:=λh=>ho (.inl h)
    have o6:¬o=6:=λh=>ho (.inr h)
    simp-implicitDefEqProofs[hlenA,o5,o6]
    refine⟨i+1,by omega,by omega,?_⟩
    rw[eT]
    refine hdrop _ _ [_] (by simp) (by simp) (by simp[hsl]) (by simp) (by simp[w1 (i:=i) (by omega)])
  ·simp at h
   have hie:i=l.length:=by omega
   subst hie
   rw[ZM] at hst
   rw[hst]
   simp-implicitDefEqProofs[]
end
section
theorem tH:AK.whole gF=FK.ak gI:=rfl
theorem EB(fns:List Fd):∀(a b:List Fd) (k:Nat) (c:Int),mK fns k (a++b) c=mK fns (k+a.length) b (mK fns k a c)
 |[],b,k,c=>rfl
 |f::r,b,k,c=>by rw[Zx,mK,mK,EB fns r];congr 1;simp only[Ze];omega
theorem Ix{fns l:List Fd}{i:Nat}{c:Int}(h:i<l.length):mK fns 0 (l.take (i+1)) c=icF fns i l[i] (mK fns 0 (l.take i) c):=by
 rw[an h,EB,Zl,Nat.min_eq_left (Nat.le_of_lt h),Zz];rfl
theorem ON(a b:List (List UInt8))(m:Scp)(c:Int):kS (a++b) m c=kS b (kS a m c).1 (kS a m c).2:=by simp[kS]
theorem Ls{l:List (List UInt8)}{i:Nat}{m:Scp}{c:Int}(h:i<l.length):kS (l.take (i+1)) m c=(eK (kS (l.take i) m c).1 l[i] 0,if(eZ (kS (l.take i) m c).1 l[i]).isSome then fl (kS (l.take i) m c).2 2 else(kS (l.take i) m c).2):=by
 rw[an h,ON];rfl
variable (G:am) (hK:G fy=some fe) (hS:G cI=some [.tbl opK opV])
include hK hS
theorem CS(l:List Fd)(hl:aH l<=1073741824):VF Tryz.prog G gG [.agg [.p (fdL l)]] (.p (.int .i64 (aI l))):=by
 have hll:=fS l
 have hfl:∀l,fdL l= .lst 3 (l.map Fd.cs):=λ_=>rfl
 rw[JC]
 refine AC.goK tj tH ?_
 simp-implicitDefEqProofs[gF,gI]
 refine(Dk G hK hS l hl).use ?_
 by_cases hv:bA l=true
 case neg=>
  have hv':bA l=false:=by simpa using hv
  simp-implicitDefEqProofs[hv']
 rw[if_pos hv]
 simp-implicitDefEqProofs[hv,hfl]
 refine aN (λi:Nat=>aj 73 [(1,.ptr 0 1 0 0),(3,.ptr 1 3 0 0),(18,.p (fdL l)),(19,.p (.int .i64 l.length)),(20,.p (.int .i64 i))])
  (λi=>[.row 1 [[.p (fdL l)]],cO l (i-1) (mK l 0 (l.take i) 0)]) (λi=>i<=l.length) (λi=>l.length-i) 0 (by simp) ?_ ?_
 ·refine af (h:=[.row 1 [[.p (fdL l)]],cO l 0 0]) (by simp) (by simp[okO,below,cO]) (by simp[below,hfl])
 intro i hi
 have hbo:okO 0 (.row 1 [[.p (fdL l)]]):=by simp[okO]
 simp-implicitDefEqProofs[hfl]
 refine bi (λh=>?_) (λh=>?_)
 ·simp at h
  have hg:=YO h
  have hks:=cG (Zf h)
  have eT:=Ix (fns:=l) (c:=0) h
  obtain⟨j,ej,ejl⟩:=Ei hg
  generalize l[i]=f at*
  have hcs:f.cs=[.str f.name,al f.params,smL f.body]:=rfl
  have hfz:f.sz=1+f.name.length+(f.params.length+(f.params.map List.length).sum)+ay f.body:=rfl
  have hst:al f.params= .lst 1 (f.params.map λw=>[.str w]):=rfl
  generalize mK l 0 (l.take i) 0=c0 at eT⊢
  simp-implicitDefEqProofs[hg,hcs,cO]
  have hic:icF l i f c0=(jL l i f.body (kS f.params [] (if j<i then fl c0 2 else c0)).1 [] (kS f.params [] (if j<i then fl c0 2 else c0)).2).2:=by
   rw[icF,ej];simp
  rw[hic] at eT
  clear hic
  refine nk (aj 73 [(1,.ptr 0 1 0 0),(3,.ptr 1 3 0 0),(4,.p (.int .i64 i)),(5,.ptr 2 3 0 0),(18,.p (fdL l)),(19,.p (.int .i64 l.length)),(20,.p (.int .i64 i))])
   [.row 1 [[.p (fdL l)]],cO l i (if j<i then fl c0 2 else c0),.row 3 [[.p (.str f.name),.p (al f.params),.p (smL f.body)]]] ?_ ?_
  ·simp-implicitDefEqProofs[]
   refine(Jc G l f.name (by omega)).use ?_
   rw[ej]
   by_cases hj:j<i
   ·have hj':(j:Int)<(i:Int):=by omega
    rw[if_pos hj]
    simp-implicitDefEqProofs[ixI,hj']
    refine(FO G (.row 1 [[.p (fdL l)]]) l i c0 2 [.row 3 [[.p (.str f.name),.p (al f.params),.p (smL f.body)]]]).mono ?_
    rintro r h ⟨rfl,rfl⟩
    simp-implicitDefEqProofs[aa]
    exact af (by simp) (by simp[okO,below,cO]) (by simp[below,hfl])
   ·have hj':¬(j:Int)<(i:Int):=by omega
    rw[if_neg hj]
    simp-implicitDefEqProofs[ixI,hj']
    exact af (h:=[.row 1 [[.p (fdL l)]],cO l i c0,.row 3 [[.p (.str f.name),.p (al f.params),.p (smL f.body)]]]) (by simp) (by simp[okO,below,cO]) (by simp[below,hfl])
  generalize (if j<i then fl c0 2 else c0)=c1 at eT⊢
  have hCH:∀(c:Int) (m:Scp),CH (.row 1 [[.p (fdL l)]]) l i c [⟨[.row 3 [[.p (.str f.name),.p (al f.params),.p (smL f.body)]]],m⟩]=[.row 1 [[.p (fdL l)]],cO l i c,.row 3 [[.p (.str f.name),.p (al f.params),.p (smL f.body)]],.mp (mpE m),.row 2 [[.mp 3,.nilp]]]:=λ_ _=>rfl
  simp-implicitDefEqProofs[]
  refine(sL G .nilp (.inl rfl) _).mono ?_
  rintro r h ⟨rfl,rfl⟩
  simp-implicitDefEqProofs[aa,hst]
  refine aN (λq:Nat=>aj 73 [(1,.ptr 0 1 0 0),(3,.ptr 1 3 0 0),(4,.p (.int .i64 i)),(5,.ptr 2 3 0 0),(6,.ptr 4 2 0 0),(18,.p (fdL l)),(19,.p (.int .i64 l.length)),(20,.p (.int .i64 i)),(39,.p (al f.params)),(40,.p (.int .i64 f.params.length)),(41,.p (.int .i64 q))])
   (λq=>[.row 1 [[.p (fdL l)]],cO l i (kS (f.params.take q) [] c1).2,.row 3 [[.p (.str f.name),.p (al f.params),.p (smL f.body)]],.mp (mpE (kS (f.params.take q) [] c1).1),.row 2 [[.mp 3,.nilp]]])
   (λq=>q<=f.params.length) (λq=>f.params.length-q) 0 (by simp) ?_ ?_
  ·exact af (h:=[.row 1 [[.p (fdL l)]],cO l i c1,.row 3 [[.p (.str f.name),.p (al f.params),.p (smL f.body)]],.mp [],.row 2 [[.mp 3,.nilp]]]) (by simp) (by simp[okO,below,cO]) (by simp[below,hfl,hst])
  intro q hq
  have eP:=λh=>Ls (l:=f.params) (i:=q) (m:=[]) (c:=c1) h
  generalize hP:kS (f.params.take q) [] c1=st at eP⊢
  obtain⟨mq,cq⟩:=st
  simp only at eP⊢
  simp-implicitDefEqProofs[hst]
  refine bi (λhc=>?_) (λhc=>?_)
  ·simp at hc
   have hga:=YO hc
   have eP:=eP hc
   generalize f.params[q]=nme at hga eP
   have hmg:=yK nme mq
   have hms:iJ (.str nme) (.p (.int .i64 0)) (mpE mq)=some (mpE (eK mq nme 0)):=by simpa using vV nme 0 mq
   have fin:∀(r1:List (Nat × AV)) (c2:Int),Aw.look r1 1= .ptr 0 1 0 0->Aw.look r1 3= .ptr 1 3 0 0->Aw.look r1 4= .p (.int .i64 i)->Aw.look r1 5= .ptr 2 3 0 0->Aw.look r1 6= .ptr 4 2 0 0->Aw.look r1 18= .p (fdL l)->Aw.look r1 19= .p (.int .i64 l.length)->Aw.look r1 20= .p (.int .i64 i)->Aw.look r1 39= .p (al f.params)->Aw.look r1 40= .p (.int .i64 f.params.length)->Aw.look r1 41= .p (.int .i64 ((q:Int)+1))->
    Wk 0 (aj 73 r1) [.row 1 [[.p (fdL l)]],cO l i c2,.row 3 [[.p (.str f.name),.p (al f.params),.p (smL f.body)]],.mp (mpE (eK mq nme 0)),.row 2 [[.mp 3,.nilp]]]
     (aj 73 [(1,.ptr 0 1 0 0),(3,.ptr 1 3 0 0),(4,.p (.int .i64 i)),(5,.ptr 2 3 0 0),(6,.ptr 4 2 0 0),(18,.p (fdL l)),(19,.p (.int .i64 l.length)),(20,.p (.int .i64 i)),(39,.p (al f.params)),(40,.p (.int .i64 f.params.length)),(41,.p (.int .i64 ((q:Int)+1)))])
     [.row 1 [[.p (fdL l)]],cO l i c2,.row 3 [[.p (.str f.name),.p (al f.params),.p (smL f.body)]],.mp (mpE (eK mq nme 0)),.row 2 [[.mp 3,.nilp]]]:=by
    intro r1 c2 e1 e3 e4 e5 e6 e18 e19 e20 e39 e40 e41
    refine af (by simp) (ae (by simp[okO]) (ae (by simp[okO,cO]) (ae (by simp[okO]) (ae (Cn _ _) (ae (by simp[okO,below]) dX))))) ?_
    simp[below,e1,e3,e4,e5,e6,e18,e19,e20,e39,e40,e41]
   cases hh:eZ mq nme with
   |none=>
    rw[hh] at hmg eP
    simp-implicitDefEqProofs[hga,hmg,hms]
    refine⟨q+1,by omega,by omega,?_⟩
    rw[eP]
    exact fin _ _ (by simp) (by simp) (by simp) (by simp) (by simp) (by simp[hfl]) (by simp) (by simp) (by simp[hst]) (by simp) (by simp[w1 (i:=q) (by omega)])
   |some n=>
    rw[hh] at hmg eP
    simp-implicitDefEqProofs[hga,hmg,hms]
    refine(FO G (.row 1 [[.p (fdL l)]]) l i cq 2 _).mono ?_
    rintro r h ⟨rfl,rfl⟩
    simp-implicitDefEqProofs[aa,hms]
    refine⟨q+1,by omega,by omega,?_⟩
    rw[eP]
    exact fin _ _ (by simp) (by simp) (by simp) (by simp) (by simp) (by simp[hfl]) (by simp) (by simp) (by simp[hst]) (by simp) (by simp[w1 (i:=q) (by omega)])
  ·simp at hc
   have hqe:q=f.params.length:=by omega
   subst hqe
   rw[ZM] at hP
   rw[hP] at eT
   simp only at eT
   have hB:=Qs G (.row 1 [[.p (fdL l)]]) (fns:=l) (k:=i) (by omega) (by omega) hbo (ay f.body+1) f.body (by omega) (by omega) [.row 3 [[.p (.str f.name),.p (al f.params),.p (smL f.body)]]] mq [] cq ⟨by simp[okO],trivial⟩
   rw[hCH] at hB
   simp-implicitDefEqProofs[]
   refine hB.mono ?_
   rintro r h ⟨rfl,rfl⟩
   simp-implicitDefEqProofs[aa]
   refine⟨i+1,by omega,by omega,?_⟩
   rw[eT]
   refine je (m:=2) (by omega) (eE rfl rfl (by simp[okO,below,cO])) (by simp[below,hfl,w1 (i:=i) (by omega)])
 ·simp at h
  have hie:i=l.length:=by omega
  subst hie
  rw[ZM]
  simp-implicitDefEqProofs[cO]
end
section
def lJ(f:Fd):Nat:=f.params.length+bI f.body
def Fi(l:List Fd)(k:Int):Int:=if aI l=0/\inR k 0 ((l.length:Int)-1)=true then(match l[k.toNat]? with|some f=>(lJ f:Int)|none=> -1) else-1
def At(st:Int)(x:Sm × Nat):Int:=if x.1.op=1 then IntKind.i64.wrap (st+1) else st
mutual
theorem Rl:∀(s:Sm) (d:Nat) (st:Int),0<=st->st+ju s<=1099511627776->(s.pre d).foldl At st=st+ju s
 | .mk o n a bd el,d,st,h0,h=>by
   rw[ju] at h
   have h1:=Bi bd (d+1)
   have h2:=Bi el (d+1)
   rw[Sm.pre,List.foldl_cons,List.foldl_append,ju]
   by_cases ho:o=1
   ·have e:At st (⟨o,n,a,bd,el⟩,d)=st+1:=by show(if o=1 then _ else _)=_;rw[if_pos ho,ab (by omega) (by rw[if_pos ho] at h;omega)]
    rw[if_pos ho] at h⊢
    rw[e,h1 _ (by omega) (by omega),h2 _ (by omega) (by omega)]
    omega
   ·have e:At st (⟨o,n,a,bd,el⟩,d)=st:=by show(if o=1 then _ else _)=_;rw[if_neg ho]
    rw[if_neg ho] at h⊢
    rw[e,h1 _ (by omega) (by omega),h2 _ (by omega) (by omega)]
    omega
theorem Bi:∀(l:List Sm) (d:Nat) (st:Int),0<=st->st+bI l<=1099511627776->(bC d l).foldl At st=st+bI l
 |[],d,st,_,_=>by simp[bC,bI]
 |s::r,d,st,h0,h=>by
  rw[bI] at h
  rw[bC,List.foldl_append,Rl s d st h0 (by omega),Bi r d _ (by omega) (by omega),bI]
  omega
end
def JQ(f:Fd):Vis Int where
 I:=λst=>[.row 3 [[.p (.str f.name),.p (al f.params),.p (smL f.body)]],.row 1 [[.p (.int .i64 st)]]]
 n:=2
 F:=fJ
 caps:=[.ptr 1 1 0 0]
 len:=λ_=>rfl
 ok:=λst=>by simp[okO,below]
 capsOk:=by simp[below]
variable (G:am)
theorem FQ(f:Fd)(st:Int)(s:Sm)(d:Nat):AC Tryz.prog G fJ [.agg (s.cs.map .p),.p (.int .i64 d),.ptr 1 1 0 0] ((JQ f).I st) λx h=>x= .ret (.tup [])/\h=(JQ f).I (At st (s,d)):=by
 refine(JQ f).trim G (AC.go vu ?_) (by simp[below])
 have hse:=s.cs_eq
 by_cases ho:s.op=1
 ·simp-implicitDefEqProofs[jo,hse,JQ,At,ho]
 ·simp-implicitDefEqProofs[jo,hse,JQ,At,ho]
theorem Dt(f:Fd)(hb:f.sz<=1073741824):VF Tryz.prog G hZ [.agg (f.cs.map .p)] (.p (.int .i64 (lJ f))):=by
 have hcs:=f.cs_eq'
 have hfz:f.sz=1+f.name.length+(f.params.length+(f.params.map List.length).sum)+ay f.body:=rfl
 have hl:=rM f.body
 have hl2:=pu f.body
 have hst:al f.params= .lst 1 (f.params.map λw=>[.str w]):=rfl
 have hI:=(KH G (JQ f) At (λ_=>True) 1073741824 (by omega) (λst s d _ _=>⟨trivial,FQ G f st s d⟩) (ay f.body+1) f.body (by omega) (by omega) 1 (by omega) (f.params.length:Int) trivial).2
 rw[Bi f.body 1 f.params.length (by omega) (by omega)] at hI
 refine AC.go Az ?_
 simp-implicitDefEqProofs[re,hcs,hst]
 refine hI.mono ?_
 rintro r h ⟨rfl,rfl⟩
 simp-implicitDefEqProofs[aa,JQ,lJ]
theorem Nj(l:List Fd)(hz:aH l<=1073741824):VF Tryz.prog G oa [.agg [.p (fdL l)]] (.p (.bool (decide (aI l=0)))):=by
 refine AC.go Ec ?_
 simp-implicitDefEqProofs[tW]
 refine(CP G l hz).use ?_
 simp-implicitDefEqProofs[]
variable (hK:G fy=some fe) (hS:G cI=some [.tbl opK opV])
include hK hS
theorem Jh(l:List Fd)(hz:aH l<=1073741824):VF Tryz.prog G kR [.agg [.p (fdL l)]] (.p (.bool (decide (aI l=0)))):=by
 refine AC.go Hw ?_
 simp-implicitDefEqProofs[Au]
 refine(CS G hK hS l hz).use ?_
 simp-implicitDefEqProofs[]
theorem Gz(l:List Fd)(hz:aH l<=1073741824)(k:Int):VF Tryz.prog G kr [.agg [.p (fdL l)],.p (.int .i64 k)] (.p (.int .i64 (Fi l k))):=by
 refine AC.go zK ?_
 have hll:=fS l
 have hfl:fdL l= .lst 3 (l.map Fd.cs):=rfl
 have hw:IntKind.i64.wrap ((l.length:Int)-1)=(l.length:Int)-1:=ab (by omega) (by omega)
 simp-implicitDefEqProofs[oZ]
 refine(Jh G hK hS l hz).use ?_
 by_cases h0:aI l=0
 case neg=>
  have:Fi l k= -1:=if_neg (λh=>h0 h.1)
  simp-implicitDefEqProofs[h0,this]
 simp-implicitDefEqProofs[h0,hfl,hw]
 refine(ll G _ _ _).use ?_
 by_cases h1:inR k 0 ((l.length:Int)-1)=true
 case neg=>
  have h1':inR k 0 ((l.length:Int)-1)=false:=by simpa using h1
  have:Fi l k= -1:=if_neg (λh=>h1 h.2)
  rw[h1',this]
  simp-implicitDefEqProofs[]
 have hk:0<=k/\k<=(l.length:Int)-1:=by simpa[inR] using h1
 obtain⟨n,rfl⟩:∃n:Nat,k=n:=⟨k.toNat,by omega⟩
 have hn:n<l.length:=by omega
 have hg:=YO hn
 have hc:Fi l n=(lJ l[n]:Int):=by rw[Fi,if_pos ⟨h0,h1⟩];simp only[Int.toNat_natCast,hg]
 have hm:=cG (Zf hn)
 have hV:=Dt G l[n] (by omega)
 have hcs:=l[n].cs_eq'
 rw[h1,hc]
 generalize l[n]=f at*
 rw[hcs] at hV
 simp-implicitDefEqProofs[hg,hcs]
 refine hV.use ?_
 simp-implicitDefEqProofs[]
end
section
def Gd(l:List Fd):Bool:=l.all λf=>decide (lJ f<=26)
def jg(l:List Fd):Bool:=decide (aI l=0)&&Gd l
def AF(l:List Fd):List Fd:=if jg l=true then l.map irF else[]
variable (G:am)
end
section
structure HV (σ:Type) where
 F:FuncId
 caps:List AV
 n:Nat
 Inv:σ->Nat->List AO->Prop
 capsOk:ah n caps
 len:∀{st id h},Inv st id h->n<=h.length/\id<h.length
 frame:∀{st id h h'},Inv st id h->(∀i,i<h.length->i<n\/i=id->h'[i]?=h[i]?)->Inv st id h'
def HV.Left{σ:Type}(V:HV σ)(id:Nat)(h:List AO)(st':σ)(h':List AO):Prop:=
 ∃id',V.Inv st' id' h'/\h.length<=h'.length/\(∀i,i<h.length->V.n<=i->i≠id->h'[i]?=h[i]?)/\(id'=id\/h.length<=id')
theorem HV.more{σ:Type}(V:HV σ){st:σ}{id:Nat}{h:List AO}(H:V.Inv st id h)(os:List AO):V.Inv st id (h++os):=
 V.frame H λi hi _=>YN hi
theorem HV.Left.trans{σ:Type}{V:HV σ}{id id1:Nat}{h h1 h2:List AO}{st2:σ}(hl:h.length<=h1.length)(hk:∀i,i<h.length->V.n<=i->i≠id->h1[i]?=h[i]?)(hi:id1=id\/h.length<=id1)(L:V.Left id1 h1 st2 h2):V.Left id h st2 h2:=by
 obtain⟨id2,a1,a2,a3,a4⟩:=L
 refine⟨id2,a1,by omega,λi h1 h2 h3=>?_,?_⟩
 ·rw[a3 i (by omega) h2 (by rcases hi with e|e<;>omega),hk i h1 h2 h3]
 ·rcases a4 with e|e
  ·rw[e];exact hi
  ·right;omega
variable (G:am)
def Sm.own(s:Sm):Nat:=1+s.name.length+aY s.args
end
section
abbrev Wds:=List (List UInt8)
mutual
def nmE(op:Int):Ex->Wds->Wds
 | .mk o _ s ks,out=>Ee op ks (if o=op/\s∉out then out++[s] else out)
def Ee(op:Int):List Ex->Wds->Wds
 |[],out=>out
 |e::r,out=>Ee op r (nmE op e out)
end
mutual
def clS:Sm->Wds->Wds
 | .mk _ _ a b e,out=>Gb e (Gb b (Ee 13 a out))
def Gb:List Sm->Wds->Wds
 |[],out=>out
 |s::r,out=>Gb r (clS s out)
end
variable (G:am)
end
section
def dZ(d:Nat)(bd:List Sm):List Ex:=(bC d bd).flatMap λx=>dQ x.1.args
mutual
theorem Ry(op:Int)(s:List UInt8):∀(e:Ex) (out:Wds),s∈nmE op e out↔s∈out\/∃x∈e.pre,x.op=op/\x.name=s
 | .mk o n t ks,out=>by
   rw[nmE,Hd op s ks,Ex.pre]
   have hh:(s∈if o=op/\t∉out then out++[t] else out)↔s∈out\/(o=op/\t=s):=by
    split
    ·rename_i h
     simp only[YV,YQ]
     constructor
     ·rintro(h1|h1)
      ·exact .inl h1
      ·exact .inr ⟨h.1,h1.symm⟩
     ·rintro(h1|h1)
      ·exact .inl h1
      ·exact .inr h1.2.symm
    ·rename_i h
     constructor
     ·exact .inl
     ·rintro(h1|⟨h1,h2⟩)
      ·exact h1
      ·rw[←h2];exact Classical.byContradiction λhn=>h ⟨h1,hn⟩
   rw[hh]
   constructor
   ·rintro((h|⟨h1,h2⟩)|⟨x,h1,h2⟩)
    ·exact .inl h
    ·exact .inr ⟨_,List.mem_cons_self ..,h1,h2⟩
    ·exact .inr ⟨x,ZF _ h1,h2⟩
   ·rintro(h|⟨x,h1,h2,h3⟩)
    ·exact .inl (.inl h)
    ·rcases Za.1 h1 with rfl|h1
     ·exact .inl (.inr ⟨h2,h3⟩)
     ·exact .inr ⟨x,h1,h2,h3⟩
theorem Hd(op:Int)(s:List UInt8):∀(l:List Ex) (out:Wds),s∈Ee op l out↔s∈out\/∃x∈dQ l,x.op=op/\x.name=s
 |[],out=>by simp[Ee,dQ]
 |e::r,out=>by
  rw[Ee,Hd op s r,Ry op s e,dQ]
  constructor
  ·rintro((h|⟨x,h1,h2⟩)|⟨x,h1,h2⟩)
   ·exact .inl h
   ·exact .inr ⟨x,List.mem_append_left _ h1,h2⟩
   ·exact .inr ⟨x,List.mem_append_right _ h1,h2⟩
  ·rintro(h|⟨x,h1,h2⟩)
   ·exact .inl (.inl h)
   ·rcases YV.1 h1 with h1|h1
    ·exact .inl (.inr ⟨x,h1,h2⟩)
    ·exact .inr ⟨x,h1,h2⟩
end
theorem px(d:Nat)(s:Sm)(r:List Sm):dZ d (s::r)=dQ s.args++(dZ (d+1) s.body++dZ (d+1) s.els)++dZ d r:=by
 rw[dZ,bC,Sm.pre_eq,List.flatMap_append,List.flatMap_cons,List.flatMap_append];rfl
mutual
theorem IM{fns:List Fd}{k:Nat}{vs:List LV}:∀(e:Ex) (c:Int),iM fns k vs e c=0->∀x∈e.pre,x.op=13->∃j,cg fns x.name=some j/\j<k
 | .mk o n t ks,c,h,x,hx,hop=>by
   rw[iM] at h
   rw[Ex.pre] at hx
   have h0:=bL h
   rcases Za.1 hx with rfl|hx
   ·have hop':o=13:=hop
    have hz:¬(13:Int)=2:=by omega
    rw[fZ,hop',if_neg hz,if_pos rfl,mS] at h0
    show∃j,cg fns t=some j/\j<k
    cases e:cg fns t with
    |none=>rw[e] at h0;simp only[fl] at h0;split at h0<;>omega
    |some j=>
     rw[e] at h0
     simp only[fl] at h0
     refine⟨j,rfl,?_⟩
     by_cases hj:k<=j
     ·rw[if_pos hj] at h0;split at h0<;>omega
     ·omega
   ·exact sI ks _ h x hx hop
theorem sI{fns:List Fd}{k:Nat}{vs:List LV}:∀(l:List Ex) (c:Int),aK fns k vs l c=0->∀x∈dQ l,x.op=13->∃j,cg fns x.name=some j/\j<k
 |[],c,h,x,hx,_=>by simp[dQ] at hx
 |e::r,c,h,x,hx,hop=>by
  rw[aK] at h
  rw[dQ] at hx
  rcases YV.1 hx with hx|hx
  ·exact IM e _ (bL h) x hx hop
  ·exact sI r _ h x hx hop
end
mutual
theorem Ma{fns:List Fd}{k:Nat}:∀(s:Sm) (b d:Nat) (w:WS),(stW fns k b s w).code=0->∀x∈dQ s.args++(dZ (d+1) s.body++dZ (d+1) s.els),x.op=13->∃j,cg fns x.name=some j/\j<k
 | .mk o n a bd el,b,d,w,h,x,hx,hop=>by
   rw[stW] at h
   rw[cb] at h
   have h1:=bg h
   rw[cb] at h1
   have h2:=bg h1
   have h3:=ry h2
   simp only[Sm.args,Sm.body,Sm.els,YV] at hx
   rcases hx with hx|hx|hx
   ·exact sI a _ h3 x hx hop
   ·exact pZ bd _ (d+1) _ h1 x hx hop
   ·exact pZ el _ (d+1) _ h x hx hop
theorem pZ{fns:List Fd}{k:Nat}:∀(l:List Sm) (b d:Nat) (w:WS),(aO fns k b l w).code=0->∀x∈dZ d l,x.op=13->∃j,cg fns x.name=some j/\j<k
 |[],b,d,w,h,x,hx,_=>by simp[dZ,bC] at hx
 |s::r,b,d,w,h,x,hx,hop=>by
  rw[aO] at h
  rw[px] at hx
  rcases YV.1 hx with hx|hx
  ·exact Ma s b d _ (bg h) x hx hop
  ·exact pZ r b d _ h x hx hop
end
theorem zW{vs:List LV}{s:List UInt8}{b:Nat}{c:Int}(h:pP vs s b c=0):c=0:=by
 unfold pP at h
 split at h
 ·exact h
 ·split at h
  ·unfold fl at h;split at h<;>omega
  ·exact h
theorem pA:∀{ps:List (List UInt8)} {w:WS},(bc ps w).code=0->w.code=0
 |[],w,h=>h
 |s::r,w,h=>zW (pA (ps:=r) (w:=eF w s 0) h)
theorem zs{fns:List Fd}{k:Nat}{f:Fd}(h:(fnW fns k f).code=0):(∀x∈dZ 1 f.body,x.op=13->∃j,cg fns x.name=some j/\j<k)/\cg fns f.name=some k:=by
 rw[fnW] at h
 refine⟨pZ _ _ 1 _ h,?_⟩
 have h1:(if cg fns f.name=some k then(0:Int) else 2)=0:=pA (bg h)
 split at h1
 ·assumption
 ·omega
end
section
structure Like (fns fns':List Fd):Prop where
 at_:∀s,cg fns' s=cg fns s
 par:∀j,AD fns' j=AD fns j
theorem Ht(l:List Fd)(g:Fd->Fd)(hn:∀f,(g f).name=f.name)(hp:∀f,(g f).params.length=f.params.length):Like l (l.map g) where
 at_:=λs=>by
  rw[cg,cg,List.findIdx?_map]
  congr 1
  funext f
  simp[hn]
 par:=λj=>by
  rw[AD,AD,Zb]
  cases l[j]? with
  |none=>rfl
  |some f=>exact hp f
end
section
def im(v:LV):LV:=⟨vnm v.num,v.num,v.block⟩
theorem Bc:∀{a b:Nat},a<26->b<26->vnm a=vnm b->a=b:=by
 have key:∀a b:Fin 26,vnm a.val=vnm b.val->a=b:=by decide
 intro a b ha hb h
 exact congrArg Fin.val (key ⟨a,ha⟩ ⟨b,hb⟩ h)
theorem Db:∀n:Nat,aD (vnm n)=true:=by
 have key:∀a:Fin 26,aD (vnm a.val)=true:=by decide
 intro n
 have e:vnm n=vnm (n%26):=by simp[vnm]
 rw[e]
 exact key ⟨n%26,Nat.mod_lt _ (by omega)⟩
structure NOk (w:WS):Prop where
 down:w.vs.Pairwise (λa b=>b.num<a.num)
 lt:∀v∈w.vs,v.num<w.count
theorem SI{vs:List LV}{s:List UInt8}{v:LV}(hd:vs.Pairwise (λa b=>b.num<a.num))(h26:∀v∈vs,v.num<26)(h:lkV vs s=some v):lkV (vs.map im) (vnm v.num)=some (im v):=by
 have hv:=vP h
 clear h
 induction vs with
 |nil=>cases hv
 |cons x r ih=>
  obtain⟨h1,h2⟩:=List.pairwise_cons.1 hd
  rcases Za.1 hv with rfl|hv
  ·simp[lkV,im]
  ·have hne:¬vnm x.num=vnm v.num:=λe=>by
    have:=Bc (h26 x (by simp)) (h26 v (by simp[hv])) e
    have:=h1 v hv
    omega
   have:=ih h2 (λy hy=>h26 y (by simp[hy])) hv
   rw[Zn,lkV,List.find?_cons,show decide ((im x).name=vnm v.num)=false from decide_eq_false hne]
   exact this
theorem UF{vs:List LV}{n:Nat}(hn:n<26)(hlt:∀v∈vs,v.num<n):lkV (vs.map im) (vnm n)=none:=by
 rw[lkV,List.find?_eq_none]
 intro x hx
 obtain⟨v,hv,rfl⟩:=Zh.1 hx
 have:=hlt v hv
 simp only[decide_eq_true_eq]
 intro e
 have:=Bc (by omega) hn e
 omega
theorem Bq(vs:List LV):∀l:List Ex,(cT vs l).length=l.length
 |[]=>rfl
 |e::r=>by rw[cT,Ze,Ze,Bq vs r]
mutual
theorem reE{fns fns':List Fd}(hL:Like fns fns'){k:Nat}{vs:List LV}(hd:vs.Pairwise (λa b=>b.num<a.num))(h26:∀v∈vs,v.num<26):∀(e:Ex),iM fns k vs e 0=0->iM fns' k (vs.map im) (rnE vs e) 0=0/\rnE (vs.map im) (rnE vs e)=rnE vs e
 | .mk o n s ks,h=>by
   rw[iM] at h
   have h0:=bL h
   rw[h0] at h
   obtain⟨a1,a2⟩:=Uq hL hd h26 ks h
   rw[rnE,rnE,iM,a2,Bq]
   by_cases h2:o=2
   ·subst h2
    rw[fZ,if_pos rfl] at h0
    obtain⟨_,v,hv⟩:=iK h0
    have hu:kf vs s=vnm v.num:=by rw[kf,hv]
    have hk:=SI hd h26 hv
    have hu2:kf (vs.map im) (vnm v.num)=vnm v.num:=by rw[kf,hk];rfl
    have hc:fZ fns' k (vs.map im) 2 (vnm v.num) ks.length 0=0:=by rw[fZ,if_pos rfl,mN,hk]
    simp only[if_true,hu,hu2,hc]
    exact⟨a1,trivial⟩
   ·simp only[if_neg h2]
    have hc:fZ fns' k (vs.map im) o s ks.length 0=0:=by
     rw[fZ,if_neg h2] at h0⊢
     by_cases h3:o=13
     ·rw[if_pos h3] at h0⊢
      rw[mS] at h0⊢
      rw[hL.at_]
      simp only[hL.par]
      exact h0
     ·rw[if_neg h3]
    rw[hc]
    exact⟨a1,trivial⟩
theorem Uq{fns fns':List Fd}(hL:Like fns fns'){k:Nat}{vs:List LV}(hd:vs.Pairwise (λa b=>b.num<a.num))(h26:∀v∈vs,v.num<26):∀(l:List Ex),aK fns k vs l 0=0->aK fns' k (vs.map im) (cT vs l) 0=0/\cT (vs.map im) (cT vs l)=cT vs l
 |[],_=>⟨rfl,rfl⟩
 |e::r,h=>by
  rw[aK] at h
  have h0:=bL h
  rw[h0] at h
  obtain⟨a1,a2⟩:=reE hL hd h26 e h0
  obtain⟨b1,b2⟩:=Uq hL hd h26 r h
  rw[cT,cT,aK,a1,a2,b2]
  exact⟨b1,rfl⟩
end
def WS.im(w:WS):WS:=⟨w.vs.map Go.Proofs.YtokiapglmedipaaGreatDoor.im,w.count,w.code⟩
theorem NOk.put{w:WS}(h:NOk w)(s:List UInt8)(b:Nat):NOk (eF w s b):=by
 refine⟨List.pairwise_cons.2 ⟨λv hv=>h.lt v hv,h.down⟩,λv hv=>?_⟩
 rcases Za.1 hv with rfl|hv
 ·exact Nat.lt_succ_self _
 ·exact Nat.lt_succ_of_lt (h.lt v hv)
theorem SD{w:WS}(h:NOk w)(h26:w.count<26)(s:List UInt8)(b:Nat)(hz:(eF w s b).code=0):eF w.im (vnm w.count) b=(eF w s b).im:=by
 have hc:w.code=0:=zW hz
 have hk:=UF h26 h.lt
 have e:pP (w.vs.map im) (vnm w.count) b w.code=(eF w s b).code:=by rw[pP,hk,hz,hc]
 show WS.mk (⟨vnm w.count,w.count,b⟩::w.vs.map im) (w.count+1) (pP (w.vs.map im) (vnm w.count) b w.code)=_
 rw[e]
 rfl
theorem XY{w:WS}(h:NOk w)(o:Int)(h26:w.count+(if o=1 then 1 else 0)<=26)(s:List UInt8)(b:Nat)(hz:(opW o s b w).code=0):opW o (opN o s w) b w.im=(opW o s b w).im/\opN o (opN o s w) w.im=opN o s w/\NOk (opW o s b w):=by
 unfold opW at hz⊢
 unfold opN
 by_cases h1:o=1
 ·simp only[h1,if_true] at hz h26⊢
  exact⟨SD h (by omega) s b hz,rfl,h.put s b⟩
 ·simp only[if_neg h1] at hz h26⊢
  by_cases h2:o=2
  ·simp only[h2,if_true] at hz⊢
   obtain⟨hc,v,hv⟩:=iK hz
   have hk:=SI h.down (λv hv=>by have:=h.lt v hv;omega) hv
   have hu:kf w.vs s=vnm v.num:=by rw[kf,hv]
   have hu2:kf w.im.vs (vnm v.num)=vnm v.num:=by
    show kf (w.vs.map im) _=_
    rw[kf,hk];rfl
   rw[hu,hu2]
   refine⟨?_,rfl,⟨h.down,h.lt⟩⟩
   show WS.mk (w.vs.map im) w.count (mN (w.vs.map im) (vnm v.num) w.code)=⟨w.vs.map im,w.count,mN w.vs s w.code⟩
   rw[hz,mN,hk,hc]
  ·simp only[if_neg h2]
   exact⟨trivial,trivial,h⟩
mutual
theorem reS{fns fns':List Fd}(hL:Like fns fns'){k:Nat}:∀(s:Sm) (b:Nat) (w:WS),NOk w->w.count+ju s<=26->(stW fns k b s w).code=0->stW fns' k b (rnS fns k b s w) w.im=(stW fns k b s w).im/\rnS fns' k b (rnS fns k b s w) w.im=rnS fns k b s w/\NOk (stW fns k b s w)
 | .mk o s a bd el,b,w,hn,h26,hz=>by
   rw[ju] at h26
   rw[stW,cb] at hz
   have z1:=bg hz
   rw[cb] at z1
   have z2:=bg z1
   have z3:aK fns k w.vs a w.code=0:=ry z2
   have hc0:=bL z3
   have hn1:NOk (⟨w.vs,w.count,aK fns k w.vs a w.code⟩:WS):=⟨hn.down,hn.lt⟩
   rw[hc0] at z3
   obtain⟨e1,e2⟩:=Uq hL hn.down (λv hv=>by have:=hn.lt v hv;omega) a z3
   have hop:=XY hn1 o (by simp only;omega) s b z2
   have hcnt:=pi o s b ⟨w.vs,w.count,aK fns k w.vs a w.code⟩
   simp only at hcnt
   have hopn:opN o s (⟨w.vs,w.count,aK fns k w.vs a w.code⟩:WS)=opN o s w:=rfl
   rw[hopn] at hop
   have hin:(⟨w.im.vs,w.im.count,aK fns' k w.im.vs (cT w.vs a) w.im.code⟩:WS)=(⟨w.vs,w.count,aK fns k w.vs a w.code⟩:WS).im:=by
    show WS.mk (w.vs.map im) w.count (aK fns' k (w.vs.map im) (cT w.vs a) w.code)=⟨w.vs.map im,w.count,aK fns k w.vs a w.code⟩
    rw[hc0,e1,z3]
   have hopn2:opN o (opN o s w) w.im=opN o s w:=hop.2.1
   generalize hw2:opW o s b ⟨w.vs,w.count,aK fns k w.vs a w.code⟩=w2 at*
   obtain⟨p1,p2,p3⟩:=RE hL bd (b+1) w2 hop.2.2 (by omega) z1
   have hcb:=fa fns k bd (b+1) w2
   have hn3:NOk ((aO fns k (b+1) bd w2).back w2.vs):=⟨hop.2.2.down,λv hv=>by
    have:=hop.2.2.lt v hv
    show v.num<(aO fns k (b+1) bd w2).count
    omega⟩
   obtain⟨q1,q2,q3⟩:=RE hL el (b+1) ((aO fns k (b+1) bd w2).back w2.vs) hn3 (by show(aO fns k (b+1) bd w2).count+_<=26;omega) hz
   have hce:=fa fns k el (b+1) ((aO fns k (b+1) bd w2).back w2.vs)
   have hbk:(aO fns' k (b+1) (cu fns k (b+1) bd w2) w2.im).back w2.im.vs=((aO fns k (b+1) bd w2).back w2.vs).im:=by rw[p1];rfl
   rw[rnS]
   try simp only
   rw[hw2]
   refine⟨?_,?_,?_⟩
   ·rw[stW,stW]
    try simp only
    rw[hin,hop.1,hbk,q1,hw2]
    rfl
   ·rw[rnS]
    try simp only
    rw[hin,hop.1,hbk,q2,p2,hopn2]
    have:cT w.im.vs (cT w.vs a)=cT w.vs a:=e2
    rw[this]
   ·rw[stW]
    try simp only
    rw[hw2]
    refine⟨hop.2.2.down,λv hv=>?_⟩
    have:=hop.2.2.lt v hv
    have hb2:((aO fns k (b+1) bd w2).back w2.vs).count=(aO fns k (b+1) bd w2).count:=rfl
    show v.num<(aO fns k (b+1) el ((aO fns k (b+1) bd w2).back w2.vs)).count
    omega
theorem RE{fns fns':List Fd}(hL:Like fns fns'){k:Nat}:∀(l:List Sm) (b:Nat) (w:WS),NOk w->w.count+bI l<=26->(aO fns k b l w).code=0->aO fns' k b (cu fns k b l w) w.im=(aO fns k b l w).im/\cu fns' k b (cu fns k b l w) w.im=cu fns k b l w/\NOk (aO fns k b l w)
 |[],b,w,hn,_,_=>⟨rfl,rfl,hn⟩
 |s::r,b,w,hn,h26,hz=>by
  rw[bI] at h26
  rw[aO] at hz
  have hc:=tf fns k s b w
  obtain⟨a1,a2,a3⟩:=reS hL s b w hn (by omega) (bg hz)
  obtain⟨b1,b2,b3⟩:=RE hL r b (stW fns k b s w) a3 (by omega) hz
  rw[cu,cu,aO,aO,a1,a2,b1,b2]
  exact⟨rfl,rfl,b3⟩
end
theorem SP:∀(ps:List (List UInt8)) (w:WS),NOk w->w.count+ps.length<=26->(bc ps w).code=0->bc (fh ps w) w.im=(bc ps w).im/\fh (fh ps w) w.im=fh ps w/\NOk (bc ps w)
 |[],w,hn,_,_=>⟨rfl,rfl,hn⟩
 |s::r,w,hn,h26,hz=>by
  rw[Ze] at h26
  have hz':(bc r (eF w s 0)).code=0:=hz
  have e:=SD hn (by omega) s 0 (pA hz')
  obtain⟨a1,a2,a3⟩:=SP r (eF w s 0) (hn.put s 0) (by show w.count+1+r.length<=26;omega) hz'
  refine⟨?_,?_,a3⟩
  ·show bc (fh r (eF w s 0)) (eF w.im (vnm w.count) 0)=_
   rw[e];exact a1
  ·show vnm w.count::fh (fh r (eF w s 0)) (eF w.im (vnm w.count) 0)=_
   rw[e,a2];rfl
theorem Bj:∀(ps:List (List UInt8)) (w:WS),(fh ps w).length=ps.length
 |[],_=>rfl
 |s::r,w=>by rw[fh,Ze,Ze,Bj r]
theorem reF{fns fns':List Fd}(hL:Like fns fns'){k:Nat}{f:Fd}(hv:lJ f<=26)(hz:(fnW fns k f).code=0):(fnW fns' k (irF f)).code=0/\irF (irF f)=irF f:=by
 have hat:=(zs hz).2
 have hrn:=Gf fns k f hz
 have hz0:=hz
 rw[fnW,if_pos hat] at hz
 have hpz:=bg hz
 have hn0:NOk (⟨[],0,0⟩:WS):=⟨.nil,λv hv=>by cases hv⟩
 have hvn:lJ f=f.params.length+bI f.body:=rfl
 obtain⟨a1,a2,a3⟩:=SP f.params ⟨[],0,0⟩ hn0 (by simp only;omega) hpz
 have hpc:=nu f.params ⟨[],0,0⟩
 simp only at hpc
 obtain⟨b1,b2,b3⟩:=RE hL (k:=k) f.body 0 (bc f.params ⟨[],0,0⟩) a3 (by omega) hz
 have him:(⟨[],0,0⟩:WS).im=⟨[],0,0⟩:=rfl
 rw[him] at a1 a2
 have hF:irF f=⟨f.name,fh f.params ⟨[],0,0⟩,cu fns k 0 f.body (bc f.params ⟨[],0,0⟩)⟩:=by
  rw[←hrn,rnF,if_pos hat]
 have hat':cg fns' (irF f).name=some k:=by rw[hL.at_];exact hat
 have hz':(fnW fns' k (irF f)).code=0:=by
  rw[fnW,if_pos hat',hF]
  simp only
  rw[a1,b1]
  exact hz
 refine⟨hz',?_⟩
 rw[←Gf fns' k (irF f) hz',rnF,if_pos hat',hF]
 simp only
 rw[a2,a1,b2]
mutual
theorem Tr(op:Int)(h:op≠2)(vs:List LV):∀(e:Ex) (out:Wds),nmE op (rnE vs e) out=nmE op e out
 | .mk o n s ks,out=>by
   rw[rnE,nmE,nmE,Fc op h vs ks]
   by_cases h2:o=2
   ·have:¬o=op:=λe=>h (e▸h2)
    simp[this]
   ·simp[h2]
theorem Fc(op:Int)(h:op≠2)(vs:List LV):∀(l:List Ex) (out:Wds),Ee op (cT vs l) out=Ee op l out
 |[],out=>rfl
 |e::r,out=>by rw[cT,Ee,Ee,Tr op h vs e,Fc op h vs r]
end
mutual
theorem Td(fns:List Fd)(k:Nat):∀(s:Sm) (b:Nat) (w:WS) (out:Wds),clS (rnS fns k b s w) out=clS s out
 | .mk o s a bd el,b,w,out=>by
   rw[rnS,clS,clS,Fc 13 (by omega),Bn fns k bd,Bn fns k el]
theorem Bn(fns:List Fd)(k:Nat):∀(l:List Sm) (b:Nat) (w:WS) (out:Wds),Gb (cu fns k b l w) out=Gb l out
 |[],b,w,out=>rfl
 |s::r,b,w,out=>by rw[cu,Gb,Gb,Td fns k s,Bn fns k r]
end
mutual
theorem Si(fns:List Fd)(k:Nat):∀(s:Sm) (b:Nat) (w:WS),ju (rnS fns k b s w)=ju s
 | .mk o s a bd el,b,w=>by rw[rnS,ju,ju,vK fns k bd,vK fns k el]
theorem vK(fns:List Fd)(k:Nat):∀(l:List Sm) (b:Nat) (w:WS),bI (cu fns k b l w)=bI l
 |[],b,w=>rfl
 |s::r,b,w=>by rw[cu,bI,bI,Si fns k s,vK fns k r]
end
mutual
theorem TY(fns:List Fd)(k:Nat):∀(s:Sm) (b:Nat) (w:WS),(rnS fns k b s w).cnt=s.cnt
 | .mk o s a bd el,b,w=>by rw[rnS,Sm.cnt,Sm.cnt,Bp fns k bd,Bp fns k el]
theorem Bp(fns:List Fd)(k:Nat):∀(l:List Sm) (b:Nat) (w:WS),di (cu fns k b l w)=di l
 |[],b,w=>rfl
 |s::r,b,w=>by rw[cu,di,di,TY fns k s,Bp fns k r]
end
mutual
theorem Ih(vs:List LV):∀e:Ex,(rnE vs e).parts=e.parts
 | .mk o n s ks=>by rw[rnE,Ex.parts,Ex.parts,KJ vs ks]
theorem KJ(vs:List LV):∀l:List Ex,fx (cT vs l)=fx l
 |[]=>rfl
 |e::r=>by rw[cT,fx,fx,Ih vs e,KJ vs r]
end
theorem Eh{vs:List LV}{s:List UInt8}(h:aD s=true):aD (kf vs s)=true:=by
 unfold kf
 split
 ·exact h
 ·exact Db _
theorem Ca{vs:List LV}{p q:Ex->Bool}:∀{l:List Ex},(∀e∈l,p e=true->q (rnE vs e)=true)->l.all p=true->(cT vs l).all q=true
 |[],_,_=>rfl
 |e::r,h,hp=>by
  rw[List.all_cons,YX] at hp
  rw[cT,List.all_cons,YX]
  exact⟨h e (by simp) hp.1,Ca (λx hx=>h x (by simp[hx])) hp.2⟩
theorem Hi(vs:List LV):∀(d:Nat) (e:Ex),bV d e=true->bV d (rnE vs e)=true
 |0,e,h=>by cases h
 |d+1,.mk o n s ks,h=>by
  rw[bV,YX] at h⊢
  obtain⟨h1,h2⟩:=h
  refine⟨?_,?_⟩
  ·simp only[lZ,rnE,Ex.op,Ex.n,Ex.name,Ex.kids,Bq] at h1⊢
   by_cases h2:o=2
   ·subst h2
    have hnd:Hr 2=true:=rfl
    rw[hnd] at h1⊢
    simp only[if_true,Bool.true_or,Bool.and_true] at h1⊢
    have hnm:aD s=true:=by
     simp only[YX,beq_iff_eq] at h1
     exact h1.1.1.2.symm
    rw[hnm] at h1
    rw[Eh hnm]
    exact h1
   ·simp only[if_neg h2]
    exact h1
  ·simp only[rnE,Ex.kids] at h2⊢
   exact Ca (λe _ he=>Hi vs d e he) h2
theorem Se(vs:List LV)(e:Ex)(h:iR e=true):iR (rnE vs e)=true:=by
 rw[iR,YX] at h⊢
 exact⟨Hi vs 6 e h.1,by rw[Ih];exact h.2⟩
end
section
theorem NI(fns:List Fd)(k b:Nat)(l:List Sm)(w:WS):(cu fns k b l w).isEmpty=l.isEmpty:=by cases l<;>rfl
theorem Mj(vs:List LV)(l:List Ex):(match cT vs l with|a::_=>decide (a.op=13)|[]=>false)=(match l with|a::_=>decide (a.op=13)|[]=>false):=by
 cases l with
 |nil=>rfl
 |cons a r=>cases a;rfl
theorem Om(fns:List Fd)(k b:Nat)(s:Sm)(w:WS)(h:gu s=true):gu (rnS fns k b s w)=true:=by
 obtain⟨o,nm,a,bd,el⟩:=s
 rw[rnS]
 simp only[gu,Sm.op,Sm.name,Sm.args,Sm.body,Sm.els,NI,Bq,Mj] at h⊢
 have hall:a.all iR=true->(cT w.vs a).all iR=true:=Ca λe _ he=>Se w.vs e he
 unfold opN
 by_cases h1:o=1
 ·subst h1
  have hnd:dj 1=true:=rfl
  rw[hnd] at h⊢
  simp only[if_true,Bool.true_or,Bool.and_true,YX,beq_iff_eq] at h⊢
  obtain⟨⟨⟨⟨⟨p1,p2⟩,p3⟩,p4⟩,p5⟩,p6⟩:=h
  exact⟨⟨⟨⟨⟨p1,(Db _).symm⟩,hall p3⟩,p4⟩,p5⟩,p6⟩
 ·by_cases h2:o=2
  ·subst h2
   have hnd:dj 2=true:=rfl
   rw[hnd] at h⊢
   simp only[if_neg h1,if_true,Bool.true_or,Bool.and_true,YX,beq_iff_eq] at h⊢
   obtain⟨⟨⟨⟨⟨p1,p2⟩,p3⟩,p4⟩,p5⟩,p6⟩:=h
   exact⟨⟨⟨⟨⟨p1,(Eh p2.symm).symm⟩,hall p3⟩,p4⟩,p5⟩,p6⟩
  ·simp only[if_neg h1,if_neg h2,YX] at h⊢
   obtain⟨⟨⟨⟨⟨p1,p2⟩,p3⟩,p4⟩,p5⟩,p6⟩:=h
   refine⟨⟨⟨⟨⟨p1,p2⟩,hall p3⟩,?_⟩,p5⟩,p6⟩
   cases a with
   |nil=>exact p4
   |cons x r=>cases x;exact p4
theorem Qb(fns:List Fd)(k:Nat):∀(d:Nat) (s:Sm),az d s=true->∀(b:Nat) (w:WS),az d (rnS fns k b s w)=true:=by
 intro d
 induction d with
 |zero=>intro s h;cases h
 |succ d ih=>
  have hl:∀(l:List Sm) (b:Nat) (w:WS),l.all (az d)=true->(cu fns k b l w).all (az d)=true:=by
   intro l
   induction l with
   |nil=>intro b w _;rfl
   |cons s r ihl=>
    intro b w h
    rw[List.all_cons,YX] at h
    rw[cu,List.all_cons,YX]
    exact⟨ih s h.1 b w,ihl b _ h.2⟩
  intro s h b w
  have hh:=Om fns k b s w
  obtain⟨o,nm,a,bd,el⟩:=s
  rw[az,YX,YX] at h
  obtain⟨⟨h1,h2⟩,h3⟩:=h
  have hh:=hh h1
  rw[rnS] at hh⊢
  rw[az,YX,YX]
  exact⟨⟨hh,hl bd _ _ h2⟩,hl el _ _ h3⟩
theorem Ch:∀(ps:List (List UInt8)) (w:WS),(fh ps w).all aD=true
 |[],_=>rfl
 |s::r,w=>by rw[fh,List.all_cons,Db,Ch r];rfl
theorem Sj{fns:List Fd}{k:Nat}{f:Fd}(h:iO f=true):iO (rnF fns k f)=true:=by
 rw[iO,YX,YX,YX] at h⊢
 obtain⟨⟨⟨h1,h2⟩,h3⟩,h4⟩:=h
 refine⟨⟨⟨Ch _ _,h2⟩,?_⟩,?_⟩
 ·show decide ((fh f.params _).length<=3)=true
  rw[Bj];exact h3
 ·have hl:∀(l:List Sm) (b:Nat) (w:WS),l.all (az 4)=true->(cu fns k b l w).all (az 4)=true:=by
   intro l
   induction l with
   |nil=>intro b w _;rfl
   |cons s r ihl=>
    intro b w h
    rw[List.all_cons,YX] at h
    rw[cu,List.all_cons,YX]
    exact⟨Qb fns k 4 s h.1 b w,ihl b _ h.2⟩
  exact hl f.body _ _ h4
theorem GT(f:Fd):(irF f).name=f.name:=rfl
theorem Ha:∀(ps:List (List UInt8)) (m:Scp) (n:Nat),(gn ps m n).1.length=ps.length
 |[],_,_=>rfl
 |s::r,m,n=>by rw[gn];simp[Ha r]
theorem FS(f:Fd):(irF f).params.length=f.params.length:=Ha _ _ _
structure Ren (l:List Fd):Prop where
 chk:aI (l.map irF)=0
 ok:jg (l.map irF)=true
 same:(l.map irF).map irF=l.map irF
 stm:iP (l.map irF)=iP l
 vars:∀f∈l,lJ (irF f)=lJ f
 calls:∀f∈l,∀out,Gb (irF f).body out=Gb f.body out
theorem Uk{l:List Fd}(h:jg l=true):Ren l:=by
 rw[jg,YX] at h
 obtain⟨h1,h2⟩:=h
 have hc:=of_decide_eq_true h1
 have hL:=Ht l irF GT FS
 obtain⟨hp,hz⟩:=(pU l).1 hc
 obtain⟨⟨q1,q2⟩,q3,q4⟩:=(fT l).1 hp
 have hfew:∀f∈l,lJ f<=26:=λf hf=>by
  have:=YW.1 h2 f hf
  exact of_decide_eq_true this
 have hat:∀f∈l,∃k,l[k]?=some f:=λf hf=>List.mem_iff_getElem?.1 hf
 have hrn:∀f∈l,∃k,(fnW l k f).code=0/\rnF l k f=irF f:=λf hf=>by
  obtain⟨k,hk⟩:=hat f hf
  exact⟨k,hz k f hk,Gf l k f (hz k f hk)⟩
 have hvars:∀f∈l,lJ (irF f)=lJ f:=λf hf=>by
  obtain⟨k,_,e⟩:=hrn f hf
  rw[←e]
  show(fh f.params _).length+bI (cu l k 0 f.body _)=_
  rw[Bj,vK];rfl
 have hsn:∀f∈l,di (irF f).body=di f.body:=λf hf=>by
  obtain⟨k,_,e⟩:=hrn f hf
  rw[←e]
  exact Bp l k f.body 0 _
 have hstm:iP (l.map irF)=iP l:=by
  rw[iP,iP,List.map_map]
  congr 1
  exact Zk λf hf=>hsn f hf
 have hp':bA (l.map irF)=true:=(fT _).2 ⟨by rw[Zu];exact⟨q1,q2⟩,λf hf=>by
  obtain⟨g,hg,rfl⟩:=Zh.1 hf
  obtain⟨k,_,e⟩:=hrn g hg
  rw[←e]
  exact Sj (q3 g hg),by rw[hstm];exact q4⟩
 have hre:∀(k:Nat) (f:Fd),l[k]?=some f->(fnW (l.map irF) k (irF f)).code=0/\irF (irF f)=irF f:=λk f hk=>reF hL (hfew f (YS hk)) (hz k f hk)
 have hchk:aI (l.map irF)=0:=(pU _).2 ⟨hp',λk f hk=>by
  rw[Zb,YP] at hk
  obtain⟨g,hg,rfl⟩:=hk
  exact(hre k g hg).1⟩
 refine⟨hchk,?_,?_,hstm,hvars,λf hf out=>?_⟩
 ·rw[jg,hchk]
  simp only[decide_true,Bool.true_and,Gd,YW]
  intro f hf
  obtain⟨g,hg,rfl⟩:=Zh.1 hf
  rw[hvars g hg]
  exact decide_eq_true (hfew g hg)
 ·rw[List.map_map]
  exact Zk λf hf=>by
   obtain⟨k,hk⟩:=hat f hf
   exact(hre k f hk).2
 ·obtain⟨k,_,e⟩:=hrn f hf
  rw[←e]
  exact Bn l k f.body 0 _ out
theorem CA{l:List Fd}(h:jg l=true):AF l=l.map irF:=if_pos h
end
section
structure IN5 (e:List LV) (m m':Sc5):Prop where
 old:m.map (·.1)=e.reverse.map LV.name
 new:m'.map (·.1)=e.reverse.map λx=>vnm x.num
 val:m'.map (·.2)=m.map (·.2)
 uniq:m.Pairwise λa b=>a.1≠b.1
inductive RE5:List (List LV)->List Sc5->List Sc5->Prop where
 |nil:RE5 [] [] []
 |cons {e m m' es v v'}:IN5 e m m'->RE5 es v v'->RE5 (e::es) (m::v) (m'::v')
def Nm(vs:List LV):Prop:=vs.Pairwise (λa b=>b.num<a.num)/\∀x∈vs,x.num<26
theorem vR:∀{m:Sc5} {i:Nat} {s:List UInt8} {n:Int},m.Pairwise (λa b=>a.1≠b.1)->m[i]?=some (s,n)->ce m s=some n
 |x::r,0,s,n,_,h=>by
  simp at h;subst h;simp[ce]
 |x::r,i+1,s,n,hp,h=>by
  obtain⟨h1,h2⟩:=List.pairwise_cons.1 hp
  have hm:=YS (show r[i]?=some (s,n) by simpa using h)
  have hne:x.1≠s:=h1 _ hm
  rw[ce,if_neg hne]
  exact vR h2 (by simpa using h)
theorem FC{m:Sc5}{s:List UInt8}(h:s∉m.map (·.1)):ce m s=none:=by
 induction m with
 |nil=>rfl
 |cons x r ih=>
  simp only[Zn,Za,not_or] at h
  rw[ce,if_neg (λe=>h.1 e.symm)]
  exact ih h.2
theorem OE{m:Sc5}{s:List UInt8}(h:s∈m.map (·.1)):(ce m s).isSome=true:=by
 induction m with
 |nil=>cases h
 |cons x r ih=>
  rw[ce]
  by_cases e:x.1=s
  ·rw[if_pos e];rfl
  ·rw[if_neg e]
   rcases Za.1 h with h|h
   ·exact(e h.symm).elim
   ·exact ih h
theorem Fo:∀{m:Sc5} {i:Nat} {s:List UInt8} {n q:Int},m.Pairwise (λa b=>a.1≠b.1)->m[i]?=some (s,n)->sset m s q=m.set i (s,q)
 |x::r,0,s,n,q,_,h=>by
  simp at h;subst h;simp[sset]
 |x::r,i+1,s,n,q,hp,h=>by
  obtain⟨h1,h2⟩:=List.pairwise_cons.1 hp
  have hm:=YS (show r[i]?=some (s,n) by simpa using h)
  have hne:x.1≠s:=h1 _ hm
  rw[sset,if_neg hne,Fo h2 (by simpa using h)];rfl
theorem Nm.sub{a b:List LV}(h:Nm (a++b)):Nm a/\Nm b/\∀x∈a,∀y∈b,y.num<x.num:=by
 obtain⟨h1,h2⟩:=h
 obtain⟨k1,k2,k3⟩:=List.pairwise_append.1 h1
 exact⟨⟨k1,λx hx=>h2 x (List.mem_append_left _ hx)⟩,⟨k2,λx hx=>h2 x (List.mem_append_right _ hx)⟩,k3⟩
theorem IN5.here{e:List LV}{m m':Sc5}(H:IN5 e m m')(hn:Nm e){x:LV}(hx:x∈e):∃(i:Nat) (n:Int),m[i]?=some (x.name,n)/\m'[i]?=some (vnm x.num,n)/\m'.Pairwise (λa b=>a.1≠b.1):=by
 obtain⟨i,hi,hix⟩:=List.mem_iff_getElem.1 (List.mem_reverse.2 hx)
 have g1:(m.map (·.1))[i]?=some x.name:=by rw[H.old,Zb,YO hi,hix];rfl
 have g2:(m'.map (·.1))[i]?=some (vnm x.num):=by rw[H.new,Zb,YO hi,hix];rfl
 rw[Zb,YP] at g1 g2
 obtain⟨p,p1,p2⟩:=g1
 obtain⟨q,q1,q2⟩:=g2
 have hv:(m'.map (·.2))[i]?=(m.map (·.2))[i]?:=by rw[H.val]
 rw[Zb,Zb,p1,q1] at hv
 simp only[Option.map_some,Option.some.injEq] at hv
 refine⟨i,p.2,by rw[p1,←p2],by rw[q1,←q2,←hv],?_⟩
 have hu:(e.reverse.map λx=>vnm x.num).Pairwise (· ≠ ·):=by
  rw[List.pairwise_map,List.pairwise_reverse]
  refine List.Pairwise.imp_of_mem (λ{a b} ha hb hab e=>?_) hn.1
  have:=Bc (hn.2 b hb) (hn.2 a ha) e
  omega
 rw[←H.new,List.pairwise_map] at hu
 exact hu
theorem IN5.away{e:List LV}{m m':Sc5}(H:IN5 e m m'){s:List UInt8}(hs:∀x∈e,x.name≠s):ce m s=none:=by
 refine FC ?_
 rw[H.old]
 intro h
 obtain⟨x,hx,rfl⟩:=Zh.1 h
 exact hs x (List.mem_reverse.1 hx) rfl
theorem IN5.away'{e:List LV}{m m':Sc5}(H:IN5 e m m'){n:Nat}(hn:n<26)(h26:∀x∈e,x.num<26)(hs:∀x∈e,x.num≠n):ce m' (vnm n)=none:=by
 refine FC ?_
 rw[H.new]
 intro h
 obtain⟨x,hx,e⟩:=Zh.1 h
 have hx:=List.mem_reverse.1 hx
 exact hs x hx (Bc (h26 x hx) hn e)
theorem sT{e:List LV}{s:List UInt8}{x:LV}(h:lkV e s=some x):x∈e/\x.name=s:=⟨vP h,by
 have:=List.find?_some h
 exact of_decide_eq_true this⟩
theorem RE5.get:∀{es:List (List LV)} {v v':List Sc5},RE5 es v v'->Nm es.flatten->∀{s:List UInt8} {x:LV},lkV es.flatten s=some x->iL v' (vnm x.num)=iL v s
 |_,_,_,.nil,_,s,x,h=>by cases h
 |_,_,_,.cons (e:=e) (m:=m) (m':=m') (es:=es) (v:=v) (v':=v') H R,hn,s,x,h=>by
  rw[Zv] at hn h
  obtain⟨n1,n2,n3⟩:=hn.sub
  rw[Be] at h
  cases he:lkV e s with
  |some y=>
   rw[he] at h;cases h
   obtain⟨y1,y2⟩:=sT he
   obtain⟨i,n,g1,g2,g3⟩:=H.here n1 y1
   rw[y2] at g1
   rw[iL,iL,vR H.uniq g1,vR g3 g2]
  |none=>
   rw[he] at h
   obtain⟨x1,x2⟩:=sT h
   have ha:ce m s=none:=H.away λy hy e=>by
    rw[lkV,List.find?_eq_none] at he
    exact he y hy (by simp[e])
   have hb:ce m' (vnm x.num)=none:=H.away' (n2.2 x x1) n1.2 λy hy e=>by have:=n3 y hy x x1;omega
   rw[iL,iL,ha,hb]
   exact R.get n2 h
theorem IN5.set{e:List LV}{m m':Sc5}(H:IN5 e m m'){i:Nat}{s t:List UInt8}{n q:Int}(h1:m[i]?=some (s,n))(h2:m'[i]?=some (t,n)):IN5 e (m.set i (s,q)) (m'.set i (t,q)):=by
 have k1:(m.set i (s,q)).map (·.1)=m.map (·.1):=by
  rw[List.map_set]
  refine List.ext_getElem? λj=>?_
  rw[List.getElem?_set]
  split
  ·rename_i e;subst e
   rw[Zb,h1]
   have:=(YL.1 h1).1
   simp[this]
  ·rfl
 have k2:(m'.set i (t,q)).map (·.1)=m'.map (·.1):=by
  rw[List.map_set]
  refine List.ext_getElem? λj=>?_
  rw[List.getElem?_set]
  split
  ·rename_i e;subst e
   rw[Zb,h2]
   have:=(YL.1 h2).1
   simp[this]
  ·rfl
 refine⟨by rw[k1];exact H.old,by rw[k2];exact H.new,by rw[List.map_set,List.map_set,H.val],?_⟩
 have:((m.set i (s,q)).map (·.1)).Pairwise (· ≠ ·):=by rw[k1,List.pairwise_map];exact H.uniq
 rwa[List.pairwise_map] at this
theorem RE5.set:∀{es:List (List LV)} {v v':List Sc5},RE5 es v v'->Nm es.flatten->∀{s:List UInt8} {x:LV} (q:Int),lkV es.flatten s=some x->RE5 es (iu v s q) (iu v' (vnm x.num) q)
 |_,_,_,.nil,_,s,x,q,h=>by cases h
 |_,_,_,.cons (e:=e) (m:=m) (m':=m') (es:=es) (v:=v) (v':=v') H R,hn,s,x,q,h=>by
  rw[Zv] at hn h
  obtain⟨n1,n2,n3⟩:=hn.sub
  rw[Be] at h
  cases he:lkV e s with
  |some y=>
   rw[he] at h;cases h
   obtain⟨y1,y2⟩:=sT he
   obtain⟨i,n,g1,g2,g3⟩:=H.here n1 y1
   rw[y2] at g1
   have s1:=vR H.uniq g1
   have s2:=vR g3 g2
   rw[iu,iu,s1,s2]
   simp only[Option.isSome_some,if_true]
   rw[Fo H.uniq g1,Fo g3 g2]
   exact .cons (H.set g1 g2) R
  |none=>
   rw[he] at h
   obtain⟨x1,x2⟩:=sT h
   have ha:ce m s=none:=H.away λy hy e=>by
    rw[lkV,List.find?_eq_none] at he
    exact he y hy (by simp[e])
   have hb:ce m' (vnm x.num)=none:=H.away' (n2.2 x x1) n1.2 λy hy e=>by have:=n3 y hy x x1;omega
   rw[iu,iu,ha,hb]
   exact .cons H (R.set n2 q h)
theorem RE5.add{e:List LV}{es:List (List LV)}{m m':Sc5}{v v':List Sc5}(R:RE5 (e::es) (m::v) (m'::v')){s:List UInt8}{n b:Nat}(q:Int)(hs:ce m s=none):RE5 ((⟨s,n,b⟩::e)::es) ((m++[(s,q)])::v) ((m'++[(vnm n,q)])::v'):=by
 cases R with
 |cons H R=>
  refine .cons ⟨by simp[H.old],by simp[H.new],by simp[H.val],?_⟩ R
  rw[List.pairwise_append]
  refine⟨H.uniq,by simp,λa ha c hc=>?_⟩
  rw[YQ.1 hc]
  intro e
  have:=OE (m:=m) (s:=s) (Zh.2 ⟨a,ha,e⟩)
  rw[hs] at this;cases this
end
section
def Rn(l:List Fd):J5->Prop
 | .ex k v s e s' r=>∀(es:List (List LV)) (v':List Sc5),Nm es.flatten->RE5 es v v'->iM l k es.flatten e 0=0->Ev (l.map irF) (.ex k v' s (rnE es.flatten e) s' r)
 | .exs k v s e s' r=>∀(es:List (List LV)) (v':List Sc5),Nm es.flatten->RE5 es v v'->aK l k es.flatten e 0=0->Ev (l.map irF) (.exs k v' s (cT es.flatten e) s' r)
 | .cal k us s s' r=>Ev (l.map irF) (.cal k us s s' r)
 | .stm k v s x v1 s' r=>∀(b:Nat) (w:WS) (e:List LV) (es:List (List LV)) (v':List Sc5),w.vs=(e::es).flatten->NOk w->w.count+ju x<=26->RE5 (e::es) v v'->(stW l k b x w).code=0->
    ∃v1',Ev (l.map irF) (.stm k v' s (rnS l k b x w) v1' s' r)/\(r= .ok none->∃e1,RE5 (e1::es) v1 v1'/\(stW l k b x w).vs=(e1::es).flatten)
 | .blk k v s xs v1 s' r=>∀(b:Nat) (w:WS) (e:List LV) (es:List (List LV)) (v':List Sc5),w.vs=(e::es).flatten->NOk w->w.count+bI xs<=26->RE5 (e::es) v v'->(aO l k b xs w).code=0->
    ∃v1',Ev (l.map irF) (.blk k v' s (cu l k b xs w) v1' s' r)/\(r= .ok none->∃e1,RE5 (e1::es) v1 v1'/\(aO l k b xs w).vs=(e1::es).flatten)
 | .lp k v s x v1 s' r=>∀(b:Nat) (w:WS) (es:List (List LV)) (v':List Sc5),w.vs=es.flatten->NOk w->w.count+ju x<=26->RE5 es v v'->x.op=6->(stW l k b x w).code=0->
    ∃v1',Ev (l.map irF) (.lp k v' s (rnS l k b x w) v1' s' r)/\(r= .ok none->RE5 es v1 v1')
theorem mZ{w:WS}(h:NOk w){x:Nat}(hc:w.count+x<=26):Nm w.vs:=⟨h.down,λv hv=>by have:=h.lt v hv;omega⟩
theorem eD(vs:List LV)(e:Ex):(rnE vs e).op=e.op:=by cases e;rfl
theorem SF(vs:List LV)(e:Ex):(rnE vs e).n=e.n:=by cases e;rfl
theorem fj(vs:List LV)(e:Ex):(rnE vs e).kids=cT vs e.kids:=by cases e;rfl
theorem NB(vs:List LV)(e:Ex):(rnE vs e).name=if e.op=2 then kf vs e.name else e.name:=by cases e;rfl
theorem bP{l:List Fd}{k:Nat}{vs:List LV}{e:Ex}(h:iM l k vs e 0=0):aK l k vs e.kids 0=0:=by
 cases e with
 |mk o n s ks=>
  rw[iM] at h
  have h0:=bL h
  rw[h0] at h
  exact h
theorem Qa{l:List Fd}{k:Nat}{vs:List LV}{e:Ex}(ho:e.op=2)(h:iM l k vs e 0=0):∃x,lkV vs e.name=some x:=by
 cases e with
 |mk o n s ks=>
  rw[iM] at h
  have h0:=bL h
  have ho':o=2:=ho
  rw[fZ,if_pos ho'] at h0
  exact(iK h0).2
theorem bD{l:List Fd}{k:Nat}{vs:List LV}{es:List Ex}{a:Ex}(h:aK l k vs es 0=0)(ha:a∈es):iM l k vs a 0=0:=mu es h a ha
theorem mJ(l:List Fd)(k b:Nat)(x:Sm)(w:WS):(rnS l k b x w).op=x.op:=by cases x;rfl
theorem dm(l:List Fd)(k b:Nat)(x:Sm)(w:WS):(rnS l k b x w).args=cT w.vs x.args:=by cases x;rfl
theorem Cz(l:List Fd)(k b:Nat)(x:Sm)(w:WS):(rnS l k b x w).name=opN x.op x.name w:=by cases x;rfl
theorem vq{l:List Fd}{k b:Nat}{x:Sm}{w:WS}(Fn:Fine5 l k b x w):(rnS l k b x w).body=cu l k (b+1) x.body (opW x.op x.name b ⟨w.vs,w.count,0⟩):=by
 obtain⟨o,nm,a,bd,el⟩:=x
 have h:=Fn.args
 have hc:=Fn.code
 rw[rnS]
 show cu l k (b+1) bd (opW o nm b ⟨w.vs,w.count,aK l k w.vs a w.code⟩)=_
 rw[hc]
 have h':aK l k w.vs a 0=0:=h
 rw[h'];rfl
theorem Sl{l:List Fd}{k b:Nat}{x:Sm}{w:WS}(Fn:Fine5 l k b x w):(rnS l k b x w).els=cu l k (b+1) x.els ((aO l k (b+1) x.body (opW x.op x.name b ⟨w.vs,w.count,0⟩)).back (opW x.op x.name b ⟨w.vs,w.count,0⟩).vs):=by
 obtain⟨o,nm,a,bd,el⟩:=x
 have h:=Fn.args
 have hc:=Fn.code
 rw[rnS]
 show cu l k (b+1) el ((aO l k (b+1) bd (opW o nm b ⟨w.vs,w.count,aK l k w.vs a w.code⟩)).back (opW o nm b ⟨w.vs,w.count,aK l k w.vs a w.code⟩).vs)=_
 rw[hc]
 have h':aK l k w.vs a 0=0:=h
 rw[h'];rfl
theorem Pk{l:List Fd}{k b:Nat}{x:Sm}{w:WS}(hz:(stW l k b x w).code=0):(aO l k (b+1) x.els ((aO l k (b+1) x.body (opW x.op x.name b ⟨w.vs,w.count,0⟩)).back (opW x.op x.name b ⟨w.vs,w.count,0⟩).vs)).code=0:=by
 have Fn:=jb hz
 obtain⟨o,nm,a,bd,el⟩:=x
 have h:aK l k w.vs a 0=0:=Fn.args
 have hc:=Fn.code
 rw[stW,cb,hc,h] at hz
 exact hz
theorem zn(x:Sm):ju x=(if x.op=1 then 1 else 0)+bI x.body+bI x.els:=by cases x;rfl
theorem RE5.opn{es:List (List LV)}{v v':List Sc5}(R:RE5 es v v'):RE5 ([]::es) ([]::v) ([]::v'):= .cons ⟨rfl,rfl,rfl,.nil⟩ R
theorem RE5.tail{e:List LV}{es:List (List LV)}{m m':Sc5}{v v':List Sc5}(R:RE5 (e::es) (m::v) (m'::v')):RE5 es v v':=by
 cases R with|cons _ R=>exact R
theorem RE5.split{e:List LV}{es:List (List LV)}{m:Sc5}{v w':List Sc5}(R:RE5 (e::es) (m::v) w'):∃m' v',w'=m'::v'/\RE5 es v v':=by
 cases R with|cons _ R=>exact⟨_,_,rfl,R⟩
theorem Br{o:Int}{nm:List UInt8}{b:Nat}{w:WS}(h1:o≠1)(hz:(opW o nm b ⟨w.vs,w.count,0⟩).code=0):opW o nm b ⟨w.vs,w.count,0⟩=⟨w.vs,w.count,0⟩:=by
 unfold opW at hz⊢
 rw[if_neg h1] at hz⊢
 split
 ·rename_i h2
  rw[if_pos h2] at hz
  have:mN w.vs nm 0=0:=hz
  rw[this]
 ·rfl
end
section
theorem uH{l:List Fd}{k:Nat}{vs:List LV}{a:Ex}{r:List Ex}(h:aK l k vs (a::r) 0=0):iM l k vs a 0=0/\aK l k vs r 0=0:=by
 rw[aK] at h
 have h0:=bL h
 rw[h0] at h
 exact⟨h0,h⟩
theorem FZ:∀(ps:List (List UInt8)) (w:WS),(bc ps w).vs.reverse.map LV.name=w.vs.reverse.map LV.name++ps/\((bc ps w).vs.reverse.map λx=>vnm x.num)=(w.vs.reverse.map λx=>vnm x.num)++fh ps w
 |[],w=>by simp[bc,fh]
 |s::r,w=>by
  obtain⟨h1,h2⟩:=FZ r (eF w s 0)
  have e:bc (s::r) w=bc r (eF w s 0):=rfl
  rw[e,h1,h2,fh]
  simp[eF]
theorem zS:∀(ps:List (List UInt8)) (w:WS),(∀x∈w.vs,x.block=0)->(bc ps w).code=0->(w.vs.map LV.name).Pairwise (· ≠ ·)->((bc ps w).vs.map LV.name).Pairwise (· ≠ ·)
 |[],w,_,_,h=>h
 |s::r,w,hb,hz,h=>by
  have hz':(bc r (eF w s 0)).code=0:=hz
  have hp:=pA hz'
  have hp':pP w.vs s 0 w.code=0:=hp
  refine zS r (eF w s 0) (λx hx=>?_) hz' (List.pairwise_cons.2 ⟨λt ht=>?_,h⟩)
  ·rcases Za.1 hx with rfl|hx
   ·rfl
   ·exact hb x hx
  ·obtain⟨x,hx,rfl⟩:=Zh.1 ht
   intro e
   have hc:=zW hp'
   rw[pP] at hp'
   cases hl:lkV w.vs s with
   |none=>
    rw[lkV,List.find?_eq_none] at hl
    exact hl x hx (by simp[←e])
   |some y=>
    rw[hl] at hp'
    have:=hb y (vP hl)
    simp only[this,if_true,fl,hc] at hp'
    simp at hp'
theorem Bf{α β:Type}:∀(a:List α) (b:List β),a.length=b.length->(a.zip b).map (·.1)=a/\(a.zip b).map (·.2)=b
 |[],[],_=>⟨rfl,rfl⟩
 |x::r,y::t,h=>by
  obtain⟨h1,h2⟩:=Bf r t (by simpa using h)
  simp[h1,h2]
 |[],_::_,h=>by simp at h
 |_::_,[],h=>by simp at h
theorem SV{l:List Fd}(hc:aI l=0)(hfew:∀f∈l,lJ f<=26){j:J5}(h:Ev l j):Rn l j:=by
 have hL:=Ht l irF GT FS
 have hall:=((pU l).1 hc).2
 induction h with
 | @num k v s e h1 h2=>
   intro es v' hn R hz
   have:=Ev.num (l:=l.map irF) (k:=k) (v:=v') (s:=s) (e:=rnE es.flatten e) (by rw[eD];exact h1) (by rw[SF];exact h2)
   rw[SF] at this
   exact this
 | @var k v s e n h1 h2=>
   intro es v' hn R hz
   obtain⟨x,hx⟩:=Qa h1 hz
   refine .var (by rw[eD];exact h1) ?_
   rw[NB,if_pos h1,kf,hx]
   show iL v' (vnm x.num)=_
   rw[R.get hn hx]
   exact h2
 |call h1 _ h3 h4 _ i1 i2=>
  intro es v' hn R hz
  exact .call (by rw[eD];exact h1) (by rw[fj];exact i1 es v' hn R (bP hz)) (by rw[NB,if_neg (by omega),hL.at_];exact h3) h4 i2
 |callS h1 _ i1=>
  intro es v' hn R hz
  exact .callS (by rw[eD];exact h1) (by rw[fj];exact i1 es v' hn R (bP hz))
 |firstS h1 h2 h3 _ i1=>
  intro es v' hn R hz
  exact .firstS (by rw[eD];exact h1) (by rw[eD];exact h2) (by rw[fj,h3];rfl) (i1 es v' hn R (bD (bP hz) (by rw[h3];simp)))
 |and0 h1 h2 _ i1=>
  intro es v' hn R hz
  exact .and0 (by rw[eD];exact h1) (by rw[fj,h2];rfl) (i1 es v' hn R (bD (bP hz) (by rw[h2];simp)))
 |and1 h1 h2 _ h4 _ i1 i2=>
  intro es v' hn R hz
  exact .and1 (by rw[eD];exact h1) (by rw[fj,h2];rfl) (i1 es v' hn R (bD (bP hz) (by rw[h2];simp))) h4 (i2 es v' hn R (bD (bP hz) (by rw[h2];simp)))
 |andS h1 h2 _ h4 _ i1 i2=>
  intro es v' hn R hz
  exact .andS (by rw[eD];exact h1) (by rw[fj,h2];rfl) (i1 es v' hn R (bD (bP hz) (by rw[h2];simp))) h4 (i2 es v' hn R (bD (bP hz) (by rw[h2];simp)))
 |not h1 h2 _ i1=>
  intro es v' hn R hz
  exact .not (by rw[eD];exact h1) (by rw[fj,h2];rfl) (i1 es v' hn R (bD (bP hz) (by rw[h2];simp)))
 |at_ h1 h2 _ h4 h5 i1=>
  intro es v' hn R hz
  exact .at_ (by rw[eD];exact h1) (by rw[fj,h2];rfl) (i1 es v' hn R (bD (bP hz) (by rw[h2];simp))) h4 h5
 |atS h1 h2 _ h4 i1=>
  intro es v' hn R hz
  exact .atS (by rw[eD];exact h1) (by rw[fj,h2];rfl) (i1 es v' hn R (bD (bP hz) (by rw[h2];simp))) h4
 |bin h1 h2 h3 _ _ h6 i1 i2=>
  intro es v' hn R hz
  exact .bin (by rw[eD];exact h1) (by rw[eD];exact h2) (by rw[fj,h3];rfl) (i1 es v' hn R (bD (bP hz) (by rw[h3];simp))) (i2 es v' hn R (bD (bP hz) (by rw[h3];simp))) (by rw[eD];exact h6)
 |binS h1 h2 h3 _ _ i1 i2=>
  intro es v' hn R hz
  exact .binS (by rw[eD];exact h1) (by rw[eD];exact h2) (by rw[fj,h3];rfl) (i1 es v' hn R (bD (bP hz) (by rw[h3];simp))) (i2 es v' hn R (bD (bP hz) (by rw[h3];simp)))
 |binD h1 h2 h3 _ _ h6 i1 i2=>
  intro es v' hn R hz
  exact .binD (by rw[eD];exact h1) (by rw[eD];exact h2) (by rw[fj,h3];rfl) (i1 es v' hn R (bD (bP hz) (by rw[h3];simp))) (i2 es v' hn R (bD (bP hz) (by rw[h3];simp))) (by rw[eD];exact h6)
 |nil=>
  intro es v' hn R hz
  exact .nil
 |cons _ _ i1 i2=>
  intro es v' hn R hz
  obtain⟨z1,z2⟩:=uH hz
  exact .cons (i1 es v' hn R z1) (i2 es v' hn R z2)
 |consS _ i1=>
  intro es v' hn R hz
  exact .consS (i1 es v' hn R (uH hz).1)
 |consT _ _ i1 i2=>
  intro es v' hn R hz
  obtain⟨z1,z2⟩:=uH hz
  exact .consT (i1 es v' hn R z1) (i2 es v' hn R z2)
 | @cal k f us s v' s' r h1 h2 _ i1=>
   have hz0:=hall k f h1
   have hat:=(zs hz0).2
   have hv:=hfew f (YS h1)
   have hvn:lJ f=f.params.length+bI f.body:=rfl
   have hrn:=Gf l k f hz0
   have hz:=hz0
   rw[fnW,if_pos hat] at hz
   have hpz:=bg hz
   have hn0:NOk (⟨[],0,0⟩:WS):=⟨.nil,λv hv=>by cases hv⟩
   obtain⟨_,_,a3⟩:=SP f.params ⟨[],0,0⟩ hn0 (by simp only;omega) hpz
   have hpc:=nu f.params ⟨[],0,0⟩
   simp only at hpc
   obtain⟨p1,p2⟩:=FZ f.params ⟨[],0,0⟩
   have hF:irF f=⟨f.name,fh f.params ⟨[],0,0⟩,cu l k 0 f.body (bc f.params ⟨[],0,0⟩)⟩:=by
    rw[←hrn,rnF,if_pos hat]
   have hl':(fh f.params ⟨[],0,0⟩).length=us.length:=by rw[Bj];exact h2
   obtain⟨q1,q2⟩:=Bf f.params us h2
   obtain⟨q3,q4⟩:=Bf (fh f.params ⟨[],0,0⟩) us hl'
   have hu:=zS f.params ⟨[],0,0⟩ (λx hx=>by cases hx) hpz .nil
   have hps:f.params.Pairwise (· ≠ ·):=by
    have e:f.params=(bc f.params ⟨[],0,0⟩).vs.reverse.map LV.name:=by rw[p1];rfl
    rw[e,List.map_reverse,List.pairwise_reverse]
    exact hu.imp λh e=>h e.symm
   have R0:RE5 [(bc f.params ⟨[],0,0⟩).vs] [f.params.zip us] [(fh f.params ⟨[],0,0⟩).zip us]:=by
    refine .cons ⟨by rw[q1,p1];rfl,by rw[q3,p2];rfl,by rw[q2,q4],?_⟩ .nil
    have:((f.params.zip us).map (·.1)).Pairwise (· ≠ ·):=by rw[q1];exact hps
    rwa[List.pairwise_map] at this
   obtain⟨v1',d,_⟩:=i1 0 (bc f.params ⟨[],0,0⟩) _ [] _ (by simp) a3 (by omega) R0 hz
   have hk:(l.map irF)[k]?=some (irF f):=by rw[Zb,h1];rfl
   rw[hF] at hk
   exact .cal hk hl' d
 |bnil=>
  intro b w e es v' hw hn h26 R hz
  exact⟨v',.bnil,λ_=>⟨e,R,hw⟩⟩
 |bfuel h0=>
  intro b w e es v' hw hn h26 R hz
  exact⟨v',.bfuel h0,λh=>by cases h⟩
 | @bgo k v s x r F v1 s1 v2 s2 q hF _ _ i1 i2=>
   intro b w e es v' hw hn h26 R hz
   rw[bI] at h26
   have hz':(aO l k b r (stW l k b x w)).code=0:=hz
   have hz1:=bg hz'
   obtain⟨v1',d1,g1⟩:=i1 b w e es v' hw hn (by omega) R hz1
   obtain⟨e1,R1,hw1⟩:=g1 rfl
   have hn1:=(reS hL x b w hn (by omega) hz1).2.2
   have hcn:=tf l k x b w
   obtain⟨v2',d2,g2⟩:=i2 b (stW l k b x w) e1 es v1' hw1 hn1 (by omega) R1 hz'
   exact⟨v2',.bgo hF d1 d2,g2⟩
 | @bend k v s x r F v1 s1 q hF _ h3 i1=>
   intro b w e es v' hw hn h26 R hz
   rw[bI] at h26
   have hz':(aO l k b r (stW l k b x w)).code=0:=hz
   obtain⟨v1',d1,_⟩:=i1 b w e es v' hw hn (by omega) R (bg hz')
   exact⟨v1',.bend hF d1 h3,λh=>(h3 h).elim⟩
 | @argS k v s x a r s1 c h1 h2 _ i1=>
   intro b w e es v' hw hn h26 R hz
   have Fn:=jb hz
   have hA:=Fn.args
   rw[hw] at hA
   have hnm:=mZ hn h26
   rw[hw] at hnm
   refine⟨v',.argS (by rw[mJ];exact h1) (a:=rnE w.vs a) (r:=cT w.vs r) (by rw[dm,h2];rfl) ?_,λh=>by cases h⟩
   rw[hw]
   exact i1 (e::es) v' hnm R (bD hA (by rw[h2];simp))
 | @slet k v s x a s1 n m up h1 h2 _ h4 h5 i1=>
   intro b w e es v' hw hn h26 R hz
   have Fn:=jb hz
   have hA:=Fn.args
   rw[hw] at hA
   have hnm:=mZ hn h26
   rw[hw] at hnm
   have d1:=i1 (e::es) v' hnm R (bD hA (by rw[h2];simp))
   rw[←hw] at d1
   subst h4
   have h26':w.count<26:=by rw[zn,if_pos h1] at h26;omega
   cases R with
   | @cons _ _ m' _ _ up' H R=>
     have hno:ce m' (vnm w.count)=none:=H.away' h26' (λy hy=>hnm.2 y (by simp[hy])) λy hy=>by
      have:=hn.lt y (by rw[hw];simp[hy]);omega
     have hev:=Ev.slet (l:=l.map irF) (x:=rnS l k b x w) (by rw[mJ];exact h1) (a:=rnE w.vs a) (by rw[dm,h2];rfl) d1 rfl (by rw[Cz,opN,if_pos h1];exact hno)
     rw[Cz,opN,if_pos h1] at hev
     refine⟨_,hev,λ_=>⟨⟨x.name,w.count,b⟩::e,RE5.add (.cons H R) n h5,?_⟩⟩
     rw[Fn.vs,opW,if_pos h1]
     show _::w.vs=_
     rw[hw];rfl
 | @sset k v s x a s1 n h1 h2 _ h4 i1=>
   intro b w e es v' hw hn h26 R hz
   have Fn:=jb hz
   have hA:=Fn.args
   rw[hw] at hA
   have hnm:=mZ hn h26
   rw[hw] at hnm
   have hsame:(stW l k b x w).vs=(e::es).flatten:=by rw[Fn.vs,dJ (by omega),hw]
   have d1:=i1 (e::es) v' hnm R (bD hA (by rw[h2];simp))
   rw[←hw] at d1
   have huse:mN w.vs x.name 0=0:=by
    have:=Fn.op
    rw[opW,if_neg (by omega),if_pos h1] at this
    exact this
   obtain⟨_,y,hy⟩:=iK huse
   have hnmx:(rnS l k b x w).name=vnm y.num:=by rw[Cz,opN,if_neg (by omega),if_pos h1,kf,hy]
   rw[hw] at hy
   have hg:=R.get hnm hy
   have hev:=Ev.sset (l:=l.map irF) (x:=rnS l k b x w) (by rw[mJ];exact h1) (a:=rnE w.vs a) (by rw[dm,h2];rfl) d1 (by rw[hnmx,hg];exact h4)
   rw[hnmx] at hev
   exact⟨_,hev,λ_=>⟨e,R.set hnm n hy,hsame⟩⟩
 | @ssay k v s x a s1 n h1 h2 _ i1=>
   intro b w e es v' hw hn h26 R hz
   have Fn:=jb hz
   have hA:=Fn.args
   rw[hw] at hA
   have hnm:=mZ hn h26
   rw[hw] at hnm
   have hsame:(stW l k b x w).vs=(e::es).flatten:=by rw[Fn.vs,dJ (by omega),hw]
   have d1:=i1 (e::es) v' hnm R (bD hA (by rw[h2];simp))
   rw[←hw] at d1
   exact⟨v',.ssay (by rw[mJ];exact h1) (a:=rnE w.vs a) (by rw[dm,h2];rfl) d1,λ_=>⟨e,R,hsame⟩⟩
 | @sput k v s x a b0 s1 n s2 m h1 h2 _ _ h5 i1 i2=>
   intro b w e es v' hw hn h26 R hz
   have Fn:=jb hz
   have hA:=Fn.args
   rw[hw] at hA
   have hnm:=mZ hn h26
   rw[hw] at hnm
   have hsame:(stW l k b x w).vs=(e::es).flatten:=by rw[Fn.vs,dJ (by omega),hw]
   have d1:=i1 (e::es) v' hnm R (bD hA (by rw[h2];simp))
   rw[←hw] at d1
   have d2:=i2 (e::es) v' hnm R (bD hA (by rw[h2];simp))
   rw[←hw] at d2
   exact⟨v',.sput (by rw[mJ];exact h1) (a:=rnE w.vs a) (b:=rnE w.vs b0) (by rw[dm,h2];rfl) d1 d2 h5,λ_=>⟨e,R,hsame⟩⟩
 | @sputC k v s x a b0 s1 n s2 m h1 h2 _ _ h5 i1 i2=>
   intro b w e es v' hw hn h26 R hz
   have Fn:=jb hz
   have hA:=Fn.args
   rw[hw] at hA
   have hnm:=mZ hn h26
   rw[hw] at hnm
   have hsame:(stW l k b x w).vs=(e::es).flatten:=by rw[Fn.vs,dJ (by omega),hw]
   have d1:=i1 (e::es) v' hnm R (bD hA (by rw[h2];simp))
   rw[←hw] at d1
   have d2:=i2 (e::es) v' hnm R (bD hA (by rw[h2];simp))
   rw[←hw] at d2
   exact⟨v',.sputC (by rw[mJ];exact h1) (a:=rnE w.vs a) (b:=rnE w.vs b0) (by rw[dm,h2];rfl) d1 d2 h5,λ_=>⟨e,R,hsame⟩⟩
 | @sputS k v s x a b0 s1 n s2 c h1 h2 _ _ i1 i2=>
   intro b w e es v' hw hn h26 R hz
   have Fn:=jb hz
   have hA:=Fn.args
   rw[hw] at hA
   have hnm:=mZ hn h26
   rw[hw] at hnm
   have hsame:(stW l k b x w).vs=(e::es).flatten:=by rw[Fn.vs,dJ (by omega),hw]
   have d1:=i1 (e::es) v' hnm R (bD hA (by rw[h2];simp))
   rw[←hw] at d1
   have d2:=i2 (e::es) v' hnm R (bD hA (by rw[h2];simp))
   rw[←hw] at d2
   exact⟨v',.sputS (by rw[mJ];exact h1) (a:=rnE w.vs a) (b:=rnE w.vs b0) (by rw[dm,h2];rfl) d1 d2,λ_=>⟨e,R,hsame⟩⟩
 | @sif k v s x a s1 n m v1 s2 q h1 h2 _ _ i1 i2=>
   intro b w e es v' hw hn h26 R hz
   have Fn:=jb hz
   have hA:=Fn.args
   rw[hw] at hA
   have hnm:=mZ hn h26
   rw[hw] at hnm
   have hsame:(stW l k b x w).vs=(e::es).flatten:=by rw[Fn.vs,dJ (by omega),hw]
   have d1:=i1 (e::es) v' hnm R (bD hA (by rw[h2];simp))
   rw[←hw] at d1
   have hw2:opW x.op x.name b ⟨w.vs,w.count,0⟩=⟨w.vs,w.count,0⟩:=Br (by omega) Fn.op
   rw[zn] at h26
   have hn2:NOk (⟨w.vs,w.count,0⟩:WS):=⟨hn.down,hn.lt⟩
   have hbo:=Fn.body
   rw[hw2] at hbo
   have hB:∃w1',Ev (l.map irF) (.blk k ([]::v') s1 (if n≠0 then(rnS l k b x w).body else(rnS l k b x w).els) w1' s2 q)/\(q= .ok none->∃e1 f2,RE5 (e1::e::es) (m::v1) w1'/\f2=e1):=by
    by_cases hn0:n≠0
    ·rw[if_pos hn0] at i2
     rw[if_pos hn0,vq Fn,hw2]
     obtain⟨w1',d2,g2⟩:=i2 (b+1) ⟨w.vs,w.count,0⟩ [] (e::es) ([]::v') (by rw[Zv,List.nil_append];exact hw) hn2 (by show w.count+_<=26;omega) R.opn hbo
     exact⟨w1',d2,λh=>by obtain⟨e1,k1,_⟩:=g2 h;exact⟨e1,e1,k1,rfl⟩⟩
    ·rw[if_neg hn0] at i2
     rw[if_neg hn0,Sl Fn,hw2]
     have hez:=Pk hz
     rw[hw2] at hez
     have hcb:=fa l k x.body (b+1) ⟨w.vs,w.count,0⟩
     simp only at hcb
     obtain⟨w1',d2,g2⟩:=i2 (b+1) ((aO l k (b+1) x.body ⟨w.vs,w.count,0⟩).back w.vs) [] (e::es) ([]::v') (by rw[Zv,List.nil_append];exact hw) ⟨hn.down,λy hy=>by
      have:=hn.lt y hy
      show y.num<(aO l k (b+1) x.body ⟨w.vs,w.count,0⟩).count
      omega⟩ (by show(aO l k (b+1) x.body ⟨w.vs,w.count,0⟩).count+_<=26;omega) R.opn hez
     exact⟨w1',d2,λh=>by obtain⟨e1,k1,_⟩:=g2 h;exact⟨e1,e1,k1,rfl⟩⟩
   obtain⟨w1',d2,g2⟩:=hB
   obtain⟨m1',up1',rfl⟩:=yW d2
   refine⟨up1',.sif (by rw[mJ];exact h1) (a:=rnE w.vs a) (by rw[dm,h2];rfl) d1 d2,λh=>?_⟩
   obtain⟨e1,_,R1,_⟩:=g2 h
   exact⟨e,R1.tail,hsame⟩
 | @sloop k v s x v1 s' q h1 _ i1=>
   intro b w e es v' hw hn h26 R hz
   have Fn:=jb hz
   obtain⟨v1',d1,g1⟩:=i1 b w (e::es) v' hw hn h26 R h1 hz
   exact⟨v1',.sloop (by rw[mJ];exact h1) d1,λh=>⟨e,g1 h,by rw[Fn.vs,dJ (by omega),hw]⟩⟩
 | @sback k v s x a s1 n h1 h2 _ i1=>
   intro b w e es v' hw hn h26 R hz
   have Fn:=jb hz
   have hA:=Fn.args
   rw[hw] at hA
   have hnm:=mZ hn h26
   rw[hw] at hnm
   have hsame:(stW l k b x w).vs=(e::es).flatten:=by rw[Fn.vs,dJ (by omega),hw]
   have d1:=i1 (e::es) v' hnm R (bD hA (by rw[h2];simp))
   rw[←hw] at d1
   exact⟨v',.sback (by rw[mJ];exact h1) (a:=rnE w.vs a) (by rw[dm,h2];rfl) d1,λ_=>⟨e,R,hsame⟩⟩
 | @sdo k v s x a s1 n h1 h2 _ i1=>
   intro b w e es v' hw hn h26 R hz
   have Fn:=jb hz
   have hA:=Fn.args
   rw[hw] at hA
   have hnm:=mZ hn h26
   rw[hw] at hnm
   have hsame:(stW l k b x w).vs=(e::es).flatten:=by rw[Fn.vs,dJ (by omega),hw]
   have d1:=i1 (e::es) v' hnm R (bD hA (by rw[h2];simp))
   rw[←hw] at d1
   exact⟨v',.sdo (by rw[mJ];exact h1) (a:=rnE w.vs a) (by rw[dm,h2];rfl) d1,λ_=>⟨e,R,hsame⟩⟩
 | @lpS k v s x a s1 c h1 _ i1=>
   intro b w es v' hw hn h26 R ho hz
   have Fn:=jb hz
   have hA:=Fn.args
   rw[hw] at hA
   have hnm:=mZ hn h26
   rw[hw] at hnm
   have d1:=i1 es v' hnm R (bD hA (by rw[h1];simp))
   rw[←hw] at d1
   have ha':(rnS l k b x w).args=[rnE w.vs a]:=by rw[dm,h1];rfl
   exact⟨v',.lpS ha' d1,λh=>by cases h⟩
 | @lp0 k v s x a s1 h1 _ i1=>
   intro b w es v' hw hn h26 R ho hz
   have Fn:=jb hz
   have hA:=Fn.args
   rw[hw] at hA
   have hnm:=mZ hn h26
   rw[hw] at hnm
   have d1:=i1 es v' hnm R (bD hA (by rw[h1];simp))
   rw[←hw] at d1
   have ha':(rnS l k b x w).args=[rnE w.vs a]:=by rw[dm,h1];rfl
   exact⟨v',.lp0 ha' d1,λ_=>R⟩
 | @lpEnd k v s x a s1 n m v1 s2 q h1 _ h3 _ h5 i1 i2=>
   intro b w es v' hw hn h26 R ho hz
   have Fn:=jb hz
   have hA:=Fn.args
   rw[hw] at hA
   have hnm:=mZ hn h26
   rw[hw] at hnm
   have d1:=i1 es v' hnm R (bD hA (by rw[h1];simp))
   rw[←hw] at d1
   have ha':(rnS l k b x w).args=[rnE w.vs a]:=by rw[dm,h1];rfl
   have hw2:opW x.op x.name b ⟨w.vs,w.count,0⟩=⟨w.vs,w.count,0⟩:=Br (by omega) Fn.op
   have h26':=h26
   rw[zn] at h26'
   have hn2:NOk (⟨w.vs,w.count,0⟩:WS):=⟨hn.down,hn.lt⟩
   have hbo:=Fn.body
   rw[hw2] at hbo
   have hbd:=vq Fn
   rw[hw2] at hbd
   obtain⟨w1',d2,g2⟩:=i2 (b+1) ⟨w.vs,w.count,0⟩ [] es ([]::v') (by rw[Zv,List.nil_append];exact hw) hn2 (by show w.count+_<=26;omega) R.opn hbo
   rw[←hbd] at d2
   obtain⟨m1',up1',rfl⟩:=yW d2
   exact⟨up1',.lpEnd ha' d1 h3 d2 h5,λh=>(h5 h).elim⟩
 | @lpFuel k v s x a s1 n m v1 s2 h1 _ h3 _ h5 i1 i2=>
   intro b w es v' hw hn h26 R ho hz
   have Fn:=jb hz
   have hA:=Fn.args
   rw[hw] at hA
   have hnm:=mZ hn h26
   rw[hw] at hnm
   have d1:=i1 es v' hnm R (bD hA (by rw[h1];simp))
   rw[←hw] at d1
   have ha':(rnS l k b x w).args=[rnE w.vs a]:=by rw[dm,h1];rfl
   have hw2:opW x.op x.name b ⟨w.vs,w.count,0⟩=⟨w.vs,w.count,0⟩:=Br (by omega) Fn.op
   have h26':=h26
   rw[zn] at h26'
   have hn2:NOk (⟨w.vs,w.count,0⟩:WS):=⟨hn.down,hn.lt⟩
   have hbo:=Fn.body
   rw[hw2] at hbo
   have hbd:=vq Fn
   rw[hw2] at hbd
   obtain⟨w1',d2,g2⟩:=i2 (b+1) ⟨w.vs,w.count,0⟩ [] es ([]::v') (by rw[Zv,List.nil_append];exact hw) hn2 (by show w.count+_<=26;omega) R.opn hbo
   rw[←hbd] at d2
   obtain⟨m1',up1',rfl⟩:=yW d2
   exact⟨up1',.lpFuel ha' d1 h3 d2 h5,λh=>by cases h⟩
 | @lpGo k v s x a s1 n m v1 s2 F v2 s3 q h1 _ h3 _ h5 _ i1 i2 i3=>
   intro b w es v' hw hn h26 R ho hz
   have Fn:=jb hz
   have hA:=Fn.args
   rw[hw] at hA
   have hnm:=mZ hn h26
   rw[hw] at hnm
   have d1:=i1 es v' hnm R (bD hA (by rw[h1];simp))
   rw[←hw] at d1
   have ha':(rnS l k b x w).args=[rnE w.vs a]:=by rw[dm,h1];rfl
   have hw2:opW x.op x.name b ⟨w.vs,w.count,0⟩=⟨w.vs,w.count,0⟩:=Br (by omega) Fn.op
   have h26':=h26
   rw[zn] at h26'
   have hn2:NOk (⟨w.vs,w.count,0⟩:WS):=⟨hn.down,hn.lt⟩
   have hbo:=Fn.body
   rw[hw2] at hbo
   have hbd:=vq Fn
   rw[hw2] at hbd
   obtain⟨w1',d2,g2⟩:=i2 (b+1) ⟨w.vs,w.count,0⟩ [] es ([]::v') (by rw[Zv,List.nil_append];exact hw) hn2 (by show w.count+_<=26;omega) R.opn hbo
   rw[←hbd] at d2
   obtain⟨m1',up1',rfl⟩:=yW d2
   obtain⟨e1,R1,_⟩:=g2 rfl
   obtain⟨v3',d3,g3⟩:=i3 b w es up1' hw hn h26 R1.tail ho hz
   exact⟨v3',.lpGo ha' d1 h3 d2 h5 d3,g3⟩
end
section
theorem pF{l:List Fd}(hc:aI l=0){k:Nat}{f:Fd}(hf:l[k]?=some f):f.params.Pairwise (· ≠ ·):=by
 have hz:=((pU l).1 hc).2 k f hf
 have hat:=(zs hz).2
 rw[fnW,if_pos hat] at hz
 have hpz:=bg hz
 obtain⟨p1,_⟩:=FZ f.params ⟨[],0,0⟩
 have hu:=zS f.params ⟨[],0,0⟩ (λx hx=>by cases hx) hpz .nil
 have e:f.params=(bc f.params ⟨[],0,0⟩).vs.reverse.map LV.name:=by rw[p1];rfl
 rw[e,List.map_reverse,List.pairwise_reverse]
 exact hu.imp λh e=>h e.symm
theorem Qu{l:List Fd}(h:jg l=true){K:Nat}{us:List Int}{s s':S5}{r:O5 Int}(e:Ev l (.cal K us s s' r)):Ev (AF l) (.cal K us s s' r):=by
 rw[CA h]
 rw[jg,YX] at h
 exact SV (of_decide_eq_true h.1) (λf hf=>of_decide_eq_true (YW.1 h.2 f hf)) e
end
section
theorem Un5.tail{m:Sc5}{v:List Sc5}(h:Un5 (m::v)):Un5 v:=λq hq=>h q (by simp[hq])
def UnJ:J5->Prop
 | .stm _ v _ _ v' _ _=>Un5 v->Un5 v'
 | .blk _ v _ _ v' _ _=>Un5 v->Un5 v'
 | .lp _ v _ _ v' _ _=>Un5 v->Un5 v'
 |_=>True
theorem Sy{l:List Fd}{j:J5}(h:Ev l j):UnJ j:=by
 induction h with
 |bnil=>exact id
 |bfuel _=>exact id
 |bgo _ _ _ i1 i2=>exact λh=>i2 (i1 h)
 |bend _ _ _ i1=>exact i1
 |argS _ _ _ _=>exact id
 |slet _ _ _ hv hs _=>
  subst hv
  exact λh=>h.let hs
 |sset _ _ _ _ _=>exact λh=>h.of (Bu _ _ _)
 |ssay _ _ _ _=>exact id
 |sput _ _ _ _ _ _ _=>exact id
 |sputC _ _ _ _ _ _ _=>exact id
 |sputS _ _ _ _ _ _=>exact id
 |sif _ _ _ _ _ i2=>exact λh=>(i2 h.opn).tail
 |sloop _ _ i1=>exact i1
 |sback _ _ _ _=>exact id
 |sdo _ _ _ _=>exact id
 |lpS _ _ _=>exact id
 |lp0 _ _ _=>exact id
 |lpEnd _ _ _ _ _ _ i2=>exact λh=>(i2 h.opn).tail
 |lpFuel _ _ _ _ _ _ i2=>exact λh=>(i2 h.opn).tail
 |lpGo _ _ _ _ _ _ _ i2 i3=>exact λh=>i3 (i2 h.opn).tail
 |_=>trivial
theorem zP{ps:List (List UInt8)}{us:List Int}(hp:ps.Pairwise (· ≠ ·))(hl:ps.length=us.length):Un5 [ps.zip us]:=by
 intro m hm
 rw[YQ.1 hm]
 have:nmS (ps.zip us)=ps:=(Bf ps us hl).1
 rw[this];exact hp
end
end Go.Proofs.YtokiapglmedipaaGreatDoor
