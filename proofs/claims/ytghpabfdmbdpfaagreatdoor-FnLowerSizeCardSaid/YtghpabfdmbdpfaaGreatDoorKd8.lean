/-
  Contracts and lemmas that the card needs, part 8.
-/
import Derived.Test.YtghpabfdmbdpfaaGreatDoorKd7
namespace Go.Proofs.YtghpabfdmbdpfaaGreatDoor
open Go Go.Aw
set_option maxRecDepth 100000
set_option maxHeartbeats 4000000
section
variable (G:aK)
theorem QC{f:FuncId}{args:List AV}{h h1:List AO}{v:AV}(H:AC Tryz.prog G f args h λx h'=>x= .ret v/\∃l,h'=h1++l)(hl:h1.length=h.length)(ho:∀o∈h1,okO h.length o)(hv:below h.length v):
 AC Tryz.prog G f args h λx h'=>x= .ret v/\h'=h1:=by
 refine H.wk (λt v h ⟨e,_⟩=>by cases e) ?_
 rintro u h' ⟨e,l,rfl⟩
 cases e
 refine⟨v,h1,AY (n:=h.length) (Wn _) (bP ?_ hl ho) ?_,rfl,rfl⟩
 ·rw[←hl,List.take_left'];rfl
 ·simp[Fgt,hv]
theorem RO{f:FuncId}{args:List AV}{b0:AO}{fns:List Fd}{k:Nat}{c c':Int}{ch ch':List GS}{v:AV}(H:AC Tryz.prog G f args (CH b0 fns k c ch) λx h=>x= .ret v/\h=CH b0 fns k c' ch')(hb:okO 0 b0)(hs:AR ch)(hl:scL ch'=scL ch)(rest:List AO)(ha:ay (2+scL ch) args):
 AC Tryz.prog G f args (CH b0 fns k c ch++rest) λx h=>x= .ret v/\h=CH b0 fns k c' ch'++rest:=by
 refine(AC.pre H rest (by rw[ji];exact ha) (by rw[ji];exact FG hb hs (Wn _)) ?_).mono ?_
 ·rintro x h ⟨_,rfl⟩;rw[ji,ji,hl]
 ·rintro x h ⟨h1,⟨rfl,rfl⟩,rfl⟩
  exact⟨rfl,rfl⟩
def bxs(ch:List GS)(q:List AV):List AO:=[.row 1 [[.ptr 1 3 0 0]],.row 4 [q],.row 1 [[upV ch]]]
def rA(b0:AO)(fns:List Fd)(k:Nat)(ch:List GS)(q:List PV)(hb:okO 0 b0)(hs:AR ch):Vis Int where
 I:=λc=>CH b0 fns k c ch++bxs ch (q.map .p)
 n:=2+scL ch+3
 F:=bV
 caps:=[.ptr (2+scL ch+2) 1 0 0,.ptr (2+scL ch) 1 0 0]
 len:=λc=>by rw[Wq,ji];rfl
 ok:=λc o ho=>by
  rcases Wf.1 ho with h|h
  ·exact FG hb hs (by omega) o h
  ·simp only[bxs,Wd,WV,or_false] at h
   rcases h with rfl|rfl|rfl
   ·intro e he;rw[Wh.1 he];exact⟨by simp only[below];omega,trivial⟩
   ·intro e he;rw[Wh.1 he];exact aT (WH _) _ (by simp)
   ·intro e he;rw[Wh.1 he];exact⟨kM ch (by omega),trivial⟩
 capsOk:=by simp[below]
def eH(b0:AO)(fns:List Fd)(k:Nat)(ch:List GS)(q:List PV)(e:Ex)(c:Int):List AO:=b0::cO fns k c::(scH ch++(bxs ch (q.map .p)++[.row 4 [[.p (.int .i64 e.op),.p (.int .i64 e.n),.p (.str e.name),.p (exL e.kids)]]]))
section
variable {b0:AO} {fns:List Fd} {k:Nat} {ch:List GS} {q:List PV} {e:Ex} {c:Int}
theorem eH_eq{hb:okO 0 b0}{hs:AR ch}:(rA b0 fns k ch q hb hs).I c++[.row 4 [[.p (.int .i64 e.op),.p (.int .i64 e.n),.p (.str e.name),.p (exL e.kids)]]]=eH b0 fns k ch q e c:=by
 simp[rA,eH,CH]
theorem PN:(eH b0 fns k ch q e c)[1]?=some (.row 3 [[.p (fdL fns),.p (.int .i64 k),.p (.int .i64 c)]]):=rfl
theorem NE(i:Nat):(eH b0 fns k ch q e c)[2+scL ch+i]?=(bxs ch (q.map .p)++[.row 4 [[.p (.int .i64 e.op),.p (.int .i64 e.n),.p (.str e.name),.p (exL e.kids)]]])[i]?:=by
 rw[eH,show 2+scL ch+i=(scL ch+i)+1+1 by omega,Ws,Ws]
 exact PY (mg ch) i
theorem Kl:(eH b0 fns k ch q e c)[2+scL ch]?=some (.row 1 [[.ptr 1 3 0 0]]):=NE 0
theorem Ts:(eH b0 fns k ch q e c)[2+scL ch+2]?=some (.row 1 [[upV ch]]):=NE 2
theorem Om:(eH b0 fns k ch q e c)[2+scL ch+3]?=some (.row 4 [[.p (.int .i64 e.op),.p (.int .i64 e.n),.p (.str e.name),.p (exL e.kids)]]):=NE 3
end
theorem LN{fns:List Fd}{s:List UInt8}{j:Nat}(h:bU fns s=some j):j<fns.length:=by
 rw[bU,Ww] at h;exact h.1
theorem MU(b0:AO){fns:List Fd}{k:Nat}(hf:fns.length<=1073741824)(hk:k<=fns.length)(ch:List GS)(q:List PV)(hb:okO 0 b0)(hs:AR ch)(c:Int)(e:Ex)(he:e.sz<=1073741824):
 AC Tryz.prog G bV (.agg (e.cs.map .p)::(rA b0 fns k ch q hb hs).caps) ((rA b0 fns k ch q hb hs).I c) λx h=>x= .ret (.tup [])/\h=(rA b0 fns k ch q hb hs).I (eu fns k (sco ch) c e):=by
 refine(rA b0 fns k ch q hb hs).trim G (AC.go oU ?_) (by simp[below])
 have hec:=e.cs_eq
 have hlen:((rA b0 fns k ch q hb hs).I c).length=2+scL ch+3:=(rA b0 fns k ch q hb hs).len c
 have hcaps:(rA b0 fns k ch q hb hs).caps=[.ptr (2+scL ch+2) 1 0 0,.ptr (2+scL ch) 1 0 0]:=rfl
 have fin:∀c',(∃l,eH b0 fns k ch q e c'=(rA b0 fns k ch q hb hs).I c'++l):=λc'=>⟨_,eH_eq.symm⟩
 have hfail:∀n,AC Tryz.prog G cu [.ptr 1 3 0 0,.p (.int .i64 n)] (eH b0 fns k ch q e c) λx h=>x= .ret (.tup [])/\h=eH b0 fns k ch q e (fl c n):=λn=>DL G b0 fns k c n _
 have hkl:=bK e.kids
 have hsz:=e.sz_eq
 rw[hcaps]
 simp-implicitDefEqProofs[iT,hec,hlen]
 rw[eH_eq]
 generalize hV:(rA b0 fns k ch q hb hs).I=VI at fin⊢
 by_cases o2:e.op=2
 ·have hfind:AC Tryz.prog G bk [upV ch,.p (.str e.name)] (eH b0 fns k ch q e c) λx h=>x= .ret (.tup [.p (.int .i64 (((cY (sco ch) e.name).getD 0:Nat):Int)),.p (.bool (cY (sco ch) e.name).isSome)])/\h=eH b0 fns k ch q e c:=Nd G b0 (cO fns k c) ch _ e.name
  simp-implicitDefEqProofs[o2,Kl,Ts,Om,PN]
  refine hfind.mono ?_
  rintro r h ⟨rfl,rfl⟩
  cases hfs:cY (sco ch) e.name with
  |some n=>
   have hv:eu fns k (sco ch) c e=c:=by simp[eu,o2,hfs]
   rw[hv]
   simp-implicitDefEqProofs[aa]
   exact fin c
  |none=>
   have hv:eu fns k (sco ch) c e=fl c 3:=by simp[eu,o2,hfs]
   rw[hv]
   simp-implicitDefEqProofs[aa,Kl]
   refine(hfail 3).mono ?_
   rintro r h ⟨rfl,rfl⟩
   simp-implicitDefEqProofs[aa]
   exact fin _
 by_cases o13:e.op=13
 ·have hfl:fdL fns= .lst 3 (fns.map Fd.cs):=rfl
  have hfk:fdL (fns.take k)= .lst 3 ((fns.map Fd.cs).take k):=by rw[←List.map_take];rfl
  have hxl:exL e.kids= .lst 4 (e.kids.map Ex.cs):=rfl
  have hAt:=GW G (fns.take k) e.name (by rw[Wv];omega)
  rw[hfk] at hAt
  simp-implicitDefEqProofs[o13,Kl,Ts,Om,PN,hfl,hk]
  refine hAt.use ?_
  cases hfa:bU (fns.take k) e.name with
  |none=>
   have hv:eu fns k (sco ch) c e=fl c 4:=by simp[eu,o13,hfa]
   rw[hv]
   simp-implicitDefEqProofs[ixI,Kl]
   refine(hfail 4).mono ?_
   rintro r h ⟨rfl,rfl⟩
   simp-implicitDefEqProofs[aa]
   exact fin _
  |some j=>
   have hj:=LN hfa
   rw[Wv] at hj
   have hjl:j<fns.length:=by omega
   have hg:=Wa hjl
   have hjn:¬(j:Int)<0:=by omega
   have hcs:fns[j].cs=[.str fns[j].name,aL fns[j].params,smL fns[j].body]:=rfl
   have hst:aL fns[j].params= .lst 1 (fns[j].params.map λw=>[.str w]):=rfl
   have hpn:DH fns j=fns[j].params.length:=by simp[DH,hg]
   by_cases hp:fns[j].params.length=e.kids.length
   ·have hv:eu fns k (sco ch) c e=c:=by simp[eu,o13,hfa,hpn,hp]
    rw[hv]
    simp-implicitDefEqProofs[ixI,Kl,PN,Om,hjn,hfl,hg,hcs,hst,hxl,hp]
    exact fin _
   ·have hv:eu fns k (sco ch) c e=fl c 5:=by simp[eu,o13,hfa,hpn,hp]
    have hp':¬(fns[j].params.length:Int)=(e.kids.length:Int):=by omega
    rw[hv]
    simp-implicitDefEqProofs[ixI,Kl,PN,Om,hjn,hfl,hg,hcs,hst,hxl,hp']
    refine(hfail 5).mono ?_
    rintro r h ⟨rfl,rfl⟩
    simp-implicitDefEqProofs[aa]
    exact fin _
 ·have hv:eu fns k (sco ch) c e=c:=by simp[eu,o2,o13]
  rw[hv]
  simp-implicitDefEqProofs[o2,o13,Om]
  exact fin _
theorem Qe(ch:List GS):upV ch= .nilp\/∃i,upV ch= .ptr i 2 0 0:=by
 cases ch with
 |nil=>exact .inl rfl
 |cons g up=>exact .inr ⟨_,rfl⟩
theorem Rg(b0:AO){fns:List Fd}{k:Nat}(hf:fns.length<=1073741824)(hk:k<=fns.length)(ch:List GS)(hb:okO 0 b0)(hs:AR ch)(c:Int)(e:Ex)(he:e.sz<=1073741824):
 AC Tryz.prog G du [.ptr 1 3 0 0,.agg (e.cs.map .p),upV ch] (CH b0 fns k c ch) λx h=>x= .ret (.tup [])/\h=CH b0 fns k (e.pre.foldl (eu fns k (sco ch)) c) ch:=by
 refine QC G (h:=CH b0 fns k c ch) (AC.go ru ?_) (by rw[ji,ji]) (by rw[ji];exact FG hb hs (Wn _)) (by simp[below])
 have hec:=e.cs_eq
 have hlen:(CH b0 fns k c ch).length=2+scL ch:=ji _ _ _ _ _
 have hI:=(Pt G (rA b0 fns k ch e.cs hb hs) (eu fns k (sco ch)) (λ_=>True) 1073741824 (by omega) (λst x _ hx=>⟨trivial,MU G b0 hf hk ch e.cs hb hs st x hx⟩) (e.sz+1) e (by omega) he c trivial).2
 have hcaps:(rA b0 fns k ch e.cs hb hs).caps=[.ptr (2+scL ch+2) 1 0 0,.ptr (2+scL ch) 1 0 0]:=rfl
 have hF:(rA b0 fns k ch e.cs hb hs).F=bV:=rfl
 have hVI:(rA b0 fns k ch e.cs hb hs).I c=CH b0 fns k c ch++[.row 1 [[.ptr 1 3 0 0]],.row 4 [[.p (.int .i64 e.op),.p (.int .i64 e.n),.p (.str e.name),.p (exL e.kids)]],.row 1 [[upV ch]]]:=by simp[rA,bxs,hec]
 rw[hcaps,hF,hVI,hec] at hI
 have hup:=Qe ch
 generalize upV ch=u at hI hup⊢
 rcases hup with rfl|⟨i,rfl⟩
 ·simp-implicitDefEqProofs[fD,hec,hlen]
  refine hI.mono ?_
  rintro r h ⟨rfl,rfl⟩
  simp-implicitDefEqProofs[aa]
  exact⟨_,rfl⟩
 ·simp-implicitDefEqProofs[fD,hec,hlen]
  refine hI.mono ?_
  rintro r h ⟨rfl,rfl⟩
  simp-implicitDefEqProofs[aa]
  exact⟨_,rfl⟩
end
section
theorem px:AK.whole eM=FK.ak eN:=rfl
theorem FJ(fns:List Fd)(k:Nat):∀(a b:List Sm) (m:Scp) (up:List Scp) (c:Int),dO fns k (a++b) m up c=dO fns k b (dO fns k a m up c).1 up (dO fns k a m up c).2
 |[],b,m,up,c=>rfl
 |s::r,b,m,up,c=>by rw[WR,dO,dO,FJ fns k r]
theorem Kn{fns:List Fd}{k:Nat}{l:List Sm}{m:Scp}{up:List Scp}{c:Int}{i:Nat}(h:i<l.length):dO fns k (l.take (i+1)) m up c=icS fns k l[i] (dO fns k (l.take i) m up c).1 up (dO fns k (l.take i) m up c).2:=by
 rw[aw h,FJ];rfl
def AX(b0:AO)(fns:List Fd)(k:Nat)(up:List GS)(gap:List AO)(c:Int):List AO:=b0::cO fns k c::(scH up++gap)
theorem RX(b0:AO)(fns:List Fd)(k:Nat)(up:List GS)(gap:List AO)(c:Int):(AX b0 fns k up gap c).length=2+scL up+gap.length:=by
 simp only[AX,Wr,Wq,mg];omega
theorem Mh(b0:AO)(fns:List Fd)(k:Nat)(up:List GS)(gap:List AO)(m:Scp)(c:Int)(rest:List AO):CH b0 fns k c (⟨gap,m⟩::up)++rest=AX b0 fns k up gap c++(.mp (mpE m):: .row 2 [[.mp (2+scL up+gap.length),upV up]]::rest):=by
 simp[CH,AX,scH]
theorem NS(b0:AO)(fns:List Fd)(k:Nat)(up:List GS)(gap:List AO)(m:Scp)(c:Int):CH b0 fns k c (⟨gap,m⟩::up)=AX b0 fns k up gap c++[.mp (mpE m),.row 2 [[.mp (2+scL up+gap.length),upV up]]]:=by
 have:=Mh b0 fns k up gap m c []
 rwa[Wu] at this
theorem Tv{b0:AO}{fns:List Fd}{k:Nat}{up:List GS}{gap:List AO}(hb:okO 0 b0)(hs:AR up)(hg:∀o∈gap,okO (2+scL up+gap.length) o)(c:Int):∀o∈AX b0 fns k up gap c,okO (2+scL up+gap.length) o:=by
 refine aC (ew hb) (aC (by intro e he;rw[Wh.1 he];simp[below]) ?_)
 intro o ho
 rcases Wf.1 ho with h|h
 ·exact Ik up hs (by omega) o h
 ·exact hg o h
theorem zQ{kk L n:Nat}{A r s:List AO}{l l1:List (Nat × AV)}(hl:A.length=L)(hk:kk<=L+r.length)(ha:∀o∈A,okO L o)(hr:∀o∈r,okO (L+r.length) o)(H:FgA (L+r.length) l l1):Wk kk (az n l) (A++(r++s)) (az n l1) (A++r):=by
 have hll:(A++r).length=L+r.length:=by rw[Wq,hl]
 refine di (m:=L+r.length) hk (bP ?_ hll ?_) H
 ·rw[←WL,←hll,List.take_left'];rfl
 ·intro o ho
  rcases Wf.1 ho with h|h
  ·exact tT (by omega) (ha o h)
  ·exact hr o h
theorem Fv(m:Scp)(n:Nat):okO n (.mp (mpE m)):=by
 intro e he
 obtain⟨x,_,rfl⟩:=WC.1 he
 simp[below]
variable (G:aK)
theorem OP(b0:AO){fns:List Fd}{k:Nat}(hf:fns.length<=1073741824)(hk:k<=fns.length)(hb:okO 0 b0):∀(N:Nat) (l:List Sm),aD l<N->aD l<=1073741824->∀(gap:List AO) (m:Scp) (up:List GS) (c:Int),AR (⟨gap,m⟩::up)->
 AC Tryz.prog G bG [.ptr 1 3 0 0,.p (smL l),upV (⟨gap,m⟩::up)] (CH b0 fns k c (⟨gap,m⟩::up)) λx h=>x= .ret (.tup [])/\h=CH b0 fns k (dO fns k l m (sco up) c).2 (⟨gap,(dO fns k l m (sco up) c).1⟩::up):=by
 intro N
 induction N with
 |zero=>intro l h;omega
 |succ N ih=>
  intro l hl hz gap m up c hs
  have hll:=bM l
  have hsl:∀l,smL l= .lst 5 (l.map Sm.cs):=λ_=>rfl
  have hs':∀m,AR (⟨gap,m⟩::up):=λ_=>hs
  have hscl:∀m,scL (⟨gap,m⟩::up)=scL up+gap.length+2:=λ_=>rfl
  refine QC G (AC.goK pj px ?_) (by rw[ji,ji];rfl) (by rw[ji];exact FG hb (hs' _) (by rw[hscl];exact Nat.le_of_eq (by rfl))) (by simp[below])
  have hup:upV (⟨gap,m⟩::up)= .ptr (2+scL up+gap.length+1) 2 0 0:=rfl
  have hlenC:∀c m,(CH b0 fns k c (⟨gap,m⟩::up)).length=2+scL up+gap.length+2:=λc m=>by rw[ji,hscl];omega
  have hokC:∀c m,∀o∈CH b0 fns k c (⟨gap,m⟩::up),okO (2+scL up+gap.length+2) o:=λc m=>FG hb (hs' m) (by rw[hscl];omega)
  have hlenA:∀c,(AX b0 fns k up gap c).length=2+scL up+gap.length:=RX b0 fns k up gap
  simp-implicitDefEqProofs[eM,eN,hsl,hup]
  refine aN (λi:Nat=>az 89 [(0,.ptr 1 3 0 0),(2,.ptr (2+scL up+gap.length+1) 2 0 0),(14,.p (smL l)),(15,.p (.int .i64 l.length)),(16,.p (.int .i64 i))])
   (λi=>CH b0 fns k (dO fns k (l.take i) m (sco up) c).2 (⟨gap,(dO fns k (l.take i) m (sco up) c).1⟩::up)) (λi=>i<=l.length) (λi=>l.length-i) 0 (by simp) ?_ ?_
  ·refine am (h:=CH b0 fns k c (⟨gap,m⟩::up)) (Wn _) (by rw[hlenC];exact hokC _ _) ?_
   rw[hlenC]
   simp[below,hsl]
  intro i hi
  have eT:=λh=>Kn (fns:=fns) (k:=k) (l:=l) (m:=m) (up:=sco up) (c:=c) (i:=i) h
  rw[hlenC]
  generalize hst:dO fns k (l.take i) m (sco up) c=st at eT⊢
  obtain⟨mi,ci⟩:=st
  simp only at eT⊢
  simp-implicitDefEqProofs[hsl]
  refine aO (λh=>?_) (λh=>?_)
  ·simp at h
   have hg:=Wa h
   have hse:=l[i].cs_eq
   have hsz:=l[i].sz_eq
   have hks:=fV (Wo h)
   have eT:=eT h
   generalize l[i]=s at hg hse hsz hks eT
   obtain⟨o,nme,a,bd,el⟩:=s
   simp only[Sm.op,Sm.name,Sm.args,Sm.body,Sm.els] at hse hsz
   have hxl:exL a= .lst 4 (a.map Ex.cs):=rfl
   have hal:=bK a
   simp-implicitDefEqProofs[hg,hse,hlenC,hxl]
   have hexpr:∀(c:Int) (e:Ex) (rest:List AO),e.sz<=1073741824->AC Tryz.prog G du [.ptr 1 3 0 0,.agg (e.cs.map .p),.ptr (2+scL up+gap.length+1) 2 0 0] (AX b0 fns k up gap c++(.mp (mpE mi):: .row 2 [[.mp (2+scL up+gap.length),upV up]]::rest)) λx h=>x= .ret (.tup [])/\h=AX b0 fns k up gap (e.pre.foldl (eu fns k (mi::sco up)) c)++(.mp (mpE mi):: .row 2 [[.mp (2+scL up+gap.length),upV up]]::rest):=by
    intro c e rest he
    have:=RO G (Rg G b0 hf hk (⟨gap,mi⟩::up) hb (hs' mi) c e he) hb (hs' mi) rfl rest (by refine⟨by simp only[below];omega,by simp,kM _ (Wn _),trivial⟩)
    simp only[Mh] at this
    exact this
   have hfail:∀(c e:Int) (t:List AO),AC Tryz.prog G cu [.ptr 1 3 0 0,.p (.int .i64 e)] (AX b0 fns k up gap c++t) λx h=>x= .ret (.tup [])/\h=AX b0 fns k up gap (fl c e)++t:=λc e t=>DL G b0 fns k c e _
   have hfind:∀(c:Int) (m:Scp) (s:List UInt8) (rest:List AO),AC Tryz.prog G bk [.ptr (2+scL up+gap.length+1) 2 0 0,.p (.str s)] (AX b0 fns k up gap c++(.mp (mpE m):: .row 2 [[.mp (2+scL up+gap.length),upV up]]::rest)) λx h=>x= .ret (.tup [.p (.int .i64 (((cY (m::sco up) s).getD 0:Nat):Int)),.p (.bool (cY (m::sco up) s).isSome)])/\h=AX b0 fns k up gap c++(.mp (mpE m):: .row 2 [[.mp (2+scL up+gap.length),upV up]]::rest):=by
    intro c m s rest
    have:=Nd G b0 (cO fns k c) (⟨gap,m⟩::up) rest s
    have e:b0::cO fns k c::(scH (⟨gap,m⟩::up)++rest)=CH b0 fns k c (⟨gap,m⟩::up)++rest:=rfl
    rw[e,Mh] at this
    exact this
   have hblk:∀(c:Int) (m2:Scp) (l':List Sm) (gap2:List AO),aD l'<N->aD l'<=1073741824->(∀o∈gap2,okO (2+scL up+gap.length+2+gap2.length) o)->
    AC Tryz.prog G bG [.ptr 1 3 0 0,.p (smL l'),.ptr (2+scL up+gap.length+2+gap2.length+1) 2 0 0] (AX b0 fns k up gap c++(.mp (mpE m2):: .row 2 [[.mp (2+scL up+gap.length),upV up]]::(gap2++[.mp [],.row 2 [[.mp (2+scL up+gap.length+2+gap2.length),.ptr (2+scL up+gap.length+1) 2 0 0]]])))
     λx h=>x= .ret (.tup [])/\∃m',h=AX b0 fns k up gap (dO fns k l' [] (m2::sco up) c).2++(.mp (mpE m2):: .row 2 [[.mp (2+scL up+gap.length),upV up]]::(gap2++[.mp (mpE m'),.row 2 [[.mp (2+scL up+gap.length+2+gap2.length),.ptr (2+scL up+gap.length+1) 2 0 0]]])):=by
    intro c m2 l' gap2 h1 h2 h3
    have e1:2+scL (⟨gap,m2⟩::up)+gap2.length=2+scL up+gap.length+2+gap2.length:=by rw[hscl];omega
    have e2:∀c m',CH b0 fns k c (⟨gap2,m'⟩::⟨gap,m2⟩::up)=AX b0 fns k up gap c++(.mp (mpE m2):: .row 2 [[.mp (2+scL up+gap.length),upV up]]::(gap2++[.mp (mpE m'),.row 2 [[.mp (2+scL up+gap.length+2+gap2.length),.ptr (2+scL up+gap.length+1) 2 0 0]]])):=by
     intro c m'
     rw[←e1]
     simp[CH,AX,scH,upV]
    have:=ih l' h1 h2 gap2 [] (⟨gap,m2⟩::up) c ⟨by rw[e1];exact h3,hs' m2⟩
    rw[show upV (⟨gap2,[]⟩::⟨gap,m2⟩::up)= .ptr (2+scL up+gap.length+2+gap2.length+1) 2 0 0 by rw[←e1];rfl] at this
    rw[e2] at this
    refine this.mono ?_
    rintro x h ⟨hx,hh⟩
    exact⟨hx,(dO fns k l' [] (sco (⟨gap,m2⟩::up)) c).1,by rw[hh,e2];rfl⟩
   rw[NS b0 fns k up gap mi ci,WL]
   simp only[WR,List.nil_append]
   have hokA:=Tv (fns:=fns) (k:=k) hb hs.2 hs.1
   generalize hL:2+scL up+gap.length=L at hexpr hfind hblk hlenA hlenC hokC hokA⊢
   have hR:okO (L+2) (.row 2 [[.mp L,upV up]]):=by
    intro e he;rw[Wh.1 he]
    exact⟨by simp only[below];omega,kM up (by omega),trivial⟩
   have hX:okO 0 (.row 5 [[AV.p (.int .i64 o),.p (.str nme),.p (.lst 4 (a.map Ex.cs)),.p (smL bd),.p (smL el)]]):=by simp[okO]
   have ok3:∀(m:Scp),∀x∈[AO.mp (mpE m),.row 2 [[.mp L,upV up]],.row 5 [[AV.p (.int .i64 o),.p (.str nme),.p (.lst 4 (a.map Ex.cs)),.p (smL bd),.p (smL el)]]],okO (L+3) x:=λm=>
    aC (Fv _ _) (aC (tT (by omega) hR) (aC (ew hX) gv))
   refine aN (λj:Nat=>az 89 [(0,.ptr 1 3 0 0),(2,.ptr (L+1) 2 0 0),(7,.ptr (L+2) 5 0 0),(14,.p (smL l)),(15,.p (.int .i64 l.length)),(16,.p (.int .i64 i)),(21,.p (exL a)),(22,.p (.int .i64 a.length)),(23,.p (.int .i64 j))])
    (λj=>AX b0 fns k up gap ((cI (a.take j)).foldl (eu fns k (mi::sco up)) ci)++[.mp (mpE mi),.row 2 [[.mp L,upV up]],.row 5 [[AV.p (.int .i64 o),.p (.str nme),.p (.lst 4 (a.map Ex.cs)),.p (smL bd),.p (smL el)]]])
    (λj=>j<=a.length) (λj=>a.length-j) 0 (by simp) ?_ ?_
   ·refine zQ (s:=[]) (hlenA _) (by simp) (hokA _) (ok3 _) ?_
    simp[below,hsl,hxl]
   intro j hj
   simp-implicitDefEqProofs[hxl]
   refine aO (λhc=>?_) (λhc=>?_)
   ·simp at hc
    have hga:=Wa hc
    have hka:=cJ (Wo hc)
    have hkc:=a[j].cs_eq
    have hE:=hexpr ((cI (a.take j)).foldl (eu fns k (mi::sco up)) ci) a[j] [.row 5 [[AV.p (.int .i64 o),.p (.str nme),.p (.lst 4 (a.map Ex.cs)),.p (smL bd),.p (smL el)]],.row 4 [[.p (.int .i64 a[j].op),.p (.int .i64 a[j].n),.p (.str a[j].name),.p (exL a[j].kids)]]] (by omega)
    rw[hkc] at hE
    simp-implicitDefEqProofs[hga,hkc,hlenA]
    refine hE.mono ?_
    rintro r h ⟨rfl,rfl⟩
    simp-implicitDefEqProofs[aa]
    refine⟨j+1,hc,by omega,?_⟩
    have hf2:(cI (a.take (j+1))).foldl (eu fns k (mi::sco up)) ci=a[j].pre.foldl (eu fns k (mi::sco up)) ((cI (a.take j)).foldl (eu fns k (mi::sco up)) ci):=by
     rw[aw hc,tY,List.foldl_append,cI,cI,Wu]
    rw[hf2]
    refine zQ (r:=[_,_,_]) (s:=[_]) (hlenA _) (by simp) (hokA _) (ok3 _) ?_
    simp[below,hsl,hxl,w1 (i:=j) (by omega)]
   simp at hc
   have hje:j=a.length:=by omega
   subst hje
   rw[WA]
   have hic:icS fns k ⟨o,nme,a,bd,el⟩ mi (sco up) ci=(opS o nme mi 0,if o=5\/o=6 then(dO fns k el [] (opS o nme mi 0::sco up) (dO fns k bd [] (opS o nme mi 0::sco up) (opC o nme mi (sco up) (te fns k (mi::sco up) a ci))).2).2 else opC o nme mi (sco up) (te fns k (mi::sco up) a ci)):=rfl
   rw[hic] at eT
   clear hic
   rw[show(cI a).foldl (eu fns k (mi::sco up)) ci=te fns k (mi::sco up) a ci from rfl]
   generalize te fns k (mi::sco up) a ci=c1 at eT⊢
   simp-implicitDefEqProofs[]
   refine oX (az 89 [(0,.ptr 1 3 0 0),(2,.ptr (L+1) 2 0 0),(7,.ptr (L+2) 5 0 0),(14,.p (smL l)),(15,.p (.int .i64 l.length)),(16,.p (.int .i64 i))])
    (AX b0 fns k up gap (opC o nme mi (sco up) c1)++[.mp (mpE (opS o nme mi 0)),.row 2 [[.mp L,upV up]],.row 5 [[AV.p (.int .i64 o),.p (.str nme),.p (.lst 4 (a.map Ex.cs)),.p (smL bd),.p (smL el)]]]) ?_ ?_
   ·have fin:∀(r1:List (Nat × AV)) (c2:Int) (m2:Scp),Aw.look r1 0= .ptr 1 3 0 0->Aw.look r1 2= .ptr (L+1) 2 0 0->Aw.look r1 7= .ptr (L+2) 5 0 0->Aw.look r1 14= .p (smL l)->Aw.look r1 15= .p (.int .i64 l.length)->Aw.look r1 16= .p (.int .i64 i)->
     Wk (L+2) (az 89 r1) (AX b0 fns k up gap c2++[.mp (mpE m2),.row 2 [[.mp L,upV up]],.row 5 [[AV.p (.int .i64 o),.p (.str nme),.p (.lst 4 (a.map Ex.cs)),.p (smL bd),.p (smL el)]]])
      (az 89 [(0,.ptr 1 3 0 0),(2,.ptr (L+1) 2 0 0),(7,.ptr (L+2) 5 0 0),(14,.p (smL l)),(15,.p (.int .i64 l.length)),(16,.p (.int .i64 i))])
      (AX b0 fns k up gap c2++[.mp (mpE m2),.row 2 [[.mp L,upV up]],.row 5 [[AV.p (.int .i64 o),.p (.str nme),.p (.lst 4 (a.map Ex.cs)),.p (smL bd),.p (smL el)]]]):=by
     intro r1 c2 m2 e0 e2 e7 e14 e15 e16
     refine zQ (s:=[]) (hlenA _) (by simp) (hokA _) (ok3 _) ?_
     simp[below,e0,e2,e7,e14,e15,e16]
    by_cases o1:o=1
    ·have hmg:=na nme mi
     have hms:lM (.str nme) (.p (.int .i64 0)) (mpE mi)=some (mpE (eV mi nme 0)):=by simpa using pX nme 0 mi
     have e2:opS o nme mi 0=eV mi nme 0:=if_pos o1
     rw[e2]
     cases hh:fO mi nme with
     |none=>
      have e1:opC o nme mi (sco up) c1=c1:=by rw[opC,if_pos o1,hh];rfl
      rw[hh] at hmg
      rw[e1]
      subst o1
      simp-implicitDefEqProofs[hlenA,hmg,hms]
      exact fin _ _ _ (by simp) (by simp) (by simp) (by simp[hsl]) (by simp) (by simp)
     |some n=>
      have e1:opC o nme mi (sco up) c1=fl c1 2:=by rw[opC,if_pos o1,hh];rfl
      rw[hh] at hmg
      rw[e1]
      subst o1
      simp-implicitDefEqProofs[hlenA,hmg,hms]
      refine(hfail c1 2 _).mono ?_
      rintro r h ⟨rfl,rfl⟩
      simp-implicitDefEqProofs[aa,hlenA,hms]
      exact fin _ _ _ (by simp) (by simp) (by simp) (by simp[hsl]) (by simp) (by simp)
    have e2:opS o nme mi 0=mi:=if_neg o1
    rw[e2]
    by_cases o2:o=2
    ·cases hh:cY (mi::sco up) nme with
     |none=>
      have e1:opC o nme mi (sco up) c1=fl c1 3:=by rw[opC,if_neg o1,if_pos o2,hh];rfl
      rw[e1]
      subst o2
      have hF:=hfind c1 mi nme [.row 5 [[AV.p (.int .i64 2),.p (.str nme),.p (.lst 4 (a.map Ex.cs)),.p (smL bd),.p (smL el)]]]
      rw[hh] at hF
      simp-implicitDefEqProofs[hlenA]
      refine hF.mono ?_
      rintro r h ⟨rfl,rfl⟩
      simp-implicitDefEqProofs[aa]
      refine(hfail c1 3 _).mono ?_
      rintro r h ⟨rfl,rfl⟩
      simp-implicitDefEqProofs[aa]
      exact fin _ _ _ (by simp) (by simp) (by simp) (by simp[hsl]) (by simp) (by simp)
     |some n=>
      have e1:opC o nme mi (sco up) c1=c1:=by rw[opC,if_neg o1,if_pos o2,hh];rfl
      rw[e1]
      subst o2
      have hF:=hfind c1 mi nme [.row 5 [[AV.p (.int .i64 2),.p (.str nme),.p (.lst 4 (a.map Ex.cs)),.p (smL bd),.p (smL el)]]]
      rw[hh] at hF
      simp-implicitDefEqProofs[hlenA]
      refine hF.mono ?_
      rintro r h ⟨rfl,rfl⟩
      simp-implicitDefEqProofs[aa]
      exact fin _ _ _ (by simp) (by simp) (by simp) (by simp[hsl]) (by simp) (by simp)
    ·have e1:opC o nme mi (sco up) c1=c1:=by rw[opC,if_neg o1,if_neg o2]
     rw[e1]
     simp-implicitDefEqProofs[hlenA,o1,o2]
     exact fin _ _ _ (by simp) (by simp) (by simp) (by simp[hsl]) (by simp) (by simp)
   generalize opC o nme mi (sco up) c1=c2 at eT⊢
   generalize opS o nme mi 0=m2 at eT⊢
   have hdrop:∀(r1:List (Nat × AV)) (c3:Int) (s:List AO),Aw.look r1 0= .ptr 1 3 0 0->Aw.look r1 2= .ptr (L+1) 2 0 0->Aw.look r1 14= .p (smL l)->Aw.look r1 15= .p (.int .i64 l.length)->Aw.look r1 16= .p (.int .i64 ((i:Int)+1))->
    Wk (L+2) (az 89 r1) (AX b0 fns k up gap c3++([.mp (mpE m2),.row 2 [[.mp L,upV up]]]++s)) (az 89 [(0,.ptr 1 3 0 0),(2,.ptr (L+1) 2 0 0),(14,.p (smL l)),(15,.p (.int .i64 l.length)),(16,.p (.int .i64 ((i:Int)+1)))]) (CH b0 fns k c3 (⟨gap,m2⟩::up)):=by
    intro r1 c3 s e0 e2 e14 e15 e16
    rw[NS,hL]
    refine zQ (hlenA _) (by simp) (hokA _) (aC (Fv _ _) (aC hR gv)) ?_
    simp[below,e0,e2,e14,e15,e16]
   by_cases ho:o=5\/o=6
   ·rw[if_pos ho] at eT
    rcases ho with o5|o6
    ·subst o5
     simp-implicitDefEqProofs[hlenA]
     refine(nM G (.ptr (L+1) 2 0 0) (.inr ⟨_,rfl⟩) _).mono ?_
     rintro r h ⟨rfl,rfl⟩
     simp-implicitDefEqProofs[aa,hlenA]
     refine(hblk c2 m2 bd [_] (by omega) (by omega) (λx hx=>by rw[Wh.1 hx];exact ew (by simp[okO]))).mono ?_
     rintro r h ⟨rfl,m3,rfl⟩
     simp-implicitDefEqProofs[aa,hlenA]
     refine(nM G (.ptr (L+1) 2 0 0) (.inr ⟨_,rfl⟩) _).mono ?_
     rintro r h ⟨rfl,rfl⟩
     simp-implicitDefEqProofs[aa,hlenA]
     refine(hblk _ m2 el [_,_,_] (by omega) (by omega) (aC (ew (by simp[okO])) (aC (Fv _ _) (aC (by
      intro e he;rw[Wh.1 he]
      exact⟨by simp only[below];simp,by simp only[below];simp,trivial⟩) gv)))).mono ?_
     rintro r h ⟨rfl,m4,rfl⟩
     simp-implicitDefEqProofs[aa,hlenA]
     refine⟨i+1,by omega,by omega,?_⟩
     rw[eT]
     refine hdrop _ _ _ (by simp) (by simp) (by simp[hsl]) (by simp) (by simp[w1 (i:=i) (by omega)])
    ·subst o6
     simp-implicitDefEqProofs[hlenA]
     refine(nM G (.ptr (L+1) 2 0 0) (.inr ⟨_,rfl⟩) _).mono ?_
     rintro r h ⟨rfl,rfl⟩
     simp-implicitDefEqProofs[aa,hlenA]
     refine(hblk c2 m2 bd [_] (by omega) (by omega) (λx hx=>by rw[Wh.1 hx];exact ew (by simp[okO]))).mono ?_
     rintro r h ⟨rfl,m3,rfl⟩
     simp-implicitDefEqProofs[aa,hlenA]
     refine(nM G (.ptr (L+1) 2 0 0) (.inr ⟨_,rfl⟩) _).mono ?_
     rintro r h ⟨rfl,rfl⟩
     simp-implicitDefEqProofs[aa,hlenA]
     refine(hblk _ m2 el [_,_,_] (by omega) (by omega) (aC (ew (by simp[okO])) (aC (Fv _ _) (aC (by
      intro e he;rw[Wh.1 he]
      exact⟨by simp only[below];simp,by simp only[below];simp,trivial⟩) gv)))).mono ?_
     rintro r h ⟨rfl,m4,rfl⟩
     simp-implicitDefEqProofs[aa,hlenA]
     refine⟨i+1,by omega,by omega,?_⟩
     rw[eT]
     refine hdrop _ _ _ (by simp) (by simp) (by simp[hsl]) (by simp) (by simp[w1 (i:=i) (by omega)])
   ·rw[if_neg ho] at eT
    have o5:¬o=5:=λh=>ho (.inl h)
    have o6:¬o=6:=λh=>ho (.inr h)
    simp-implicitDefEqProofs[hlenA,o5,o6]
    refine⟨i+1,by omega,by omega,?_⟩
    rw[eT]
    refine hdrop _ _ [_] (by simp) (by simp) (by simp[hsl]) (by simp) (by simp[w1 (i:=i) (by omega)])
  ·simp at h
   have hie:i=l.length:=by omega
   subst hie
   rw[WA] at hst
   rw[hst]
   simp-implicitDefEqProofs[]
end
section
theorem rr:AK.whole fz=FK.ak fK:=rfl
theorem CT(fns:List Fd):∀(a b:List Fd) (k:Nat) (c:Int),gU fns k (a++b) c=gU fns (k+a.length) b (gU fns k a c)
 |[],b,k,c=>rfl
 |f::r,b,k,c=>by rw[WR,gU,gU,CT fns r];congr 1;simp only[Wr];omega
theorem HS{fns l:List Fd}{i:Nat}{c:Int}(h:i<l.length):gU fns 0 (l.take (i+1)) c=icF fns i l[i] (gU fns 0 (l.take i) c):=by
 rw[aw h,CT,Wv,Nat.min_eq_left (Nat.le_of_lt h),WT];rfl
theorem Oc(a b:List (List UInt8))(m:Scp)(c:Int):kU (a++b) m c=kU b (kU a m c).1 (kU a m c).2:=by simp[kU]
theorem JU{l:List (List UInt8)}{i:Nat}{m:Scp}{c:Int}(h:i<l.length):kU (l.take (i+1)) m c=(eV (kU (l.take i) m c).1 l[i] 0,if(fO (kU (l.take i) m c).1 l[i]).isSome then fl (kU (l.take i) m c).2 2 else(kU (l.take i) m c).2):=by
 rw[aw h,Oc];rfl
variable (G:aK) (hK:G jl=some gY) (hS:G dU=some [.tbl opK opV])
include hK hS
theorem BA(l:List Fd)(hl:aW l<=1073741824):VF Tryz.prog G fJ [.agg [.p (fdL l)]] (.p (.int .i64 (bT l))):=by
 have hll:=iz l
 have hfl:∀l,fdL l= .lst 3 (l.map Fd.cs):=λ_=>rfl
 rw[sY]
 refine AC.goK rE rr ?_
 simp-implicitDefEqProofs[fz,fK]
 refine(BU G hK hS l hl).use ?_
 by_cases hv:bn l=true
 case neg=>
  have hv':bn l=false:=by simpa using hv
  simp-implicitDefEqProofs[hv']
 rw[if_pos hv]
 simp-implicitDefEqProofs[hv,hfl]
 refine aN (λi:Nat=>az 73 [(1,.ptr 0 1 0 0),(3,.ptr 1 3 0 0),(18,.p (fdL l)),(19,.p (.int .i64 l.length)),(20,.p (.int .i64 i))])
  (λi=>[.row 1 [[.p (fdL l)]],cO l (i-1) (gU l 0 (l.take i) 0)]) (λi=>i<=l.length) (λi=>l.length-i) 0 (by simp) ?_ ?_
 ·refine am (h:=[.row 1 [[.p (fdL l)]],cO l 0 0]) (by simp) (by simp[okO,below,cO]) (by simp[below,hfl])
 intro i hi
 have hbo:okO 0 (.row 1 [[.p (fdL l)]]):=by simp[okO]
 simp-implicitDefEqProofs[hfl]
 refine aO (λh=>?_) (λh=>?_)
 ·simp at h
  have hg:=Wa h
  have hks:=gf (Wo h)
  have eT:=HS (fns:=l) (c:=0) h
  obtain⟨j,ej,ejl⟩:=vu hg
  generalize l[i]=f at*
  have hcs:f.cs=[.str f.name,aL f.params,smL f.body]:=rfl
  have hfz:f.sz=1+f.name.length+(f.params.length+(f.params.map List.length).sum)+aD f.body:=rfl
  have hst:aL f.params= .lst 1 (f.params.map λw=>[.str w]):=rfl
  generalize gU l 0 (l.take i) 0=c0 at eT⊢
  simp-implicitDefEqProofs[hg,hcs,cO]
  have hic:icF l i f c0=(dO l i f.body (kU f.params [] (if j<i then fl c0 2 else c0)).1 [] (kU f.params [] (if j<i then fl c0 2 else c0)).2).2:=by
   rw[icF,ej];simp
  rw[hic] at eT
  clear hic
  refine oX (az 73 [(1,.ptr 0 1 0 0),(3,.ptr 1 3 0 0),(4,.p (.int .i64 i)),(5,.ptr 2 3 0 0),(18,.p (fdL l)),(19,.p (.int .i64 l.length)),(20,.p (.int .i64 i))])
   [.row 1 [[.p (fdL l)]],cO l i (if j<i then fl c0 2 else c0),.row 3 [[.p (.str f.name),.p (aL f.params),.p (smL f.body)]]] ?_ ?_
  ·simp-implicitDefEqProofs[]
   refine(GW G l f.name (by omega)).use ?_
   rw[ej]
   by_cases hj:j<i
   ·have hj':(j:Int)<(i:Int):=by omega
    rw[if_pos hj]
    simp-implicitDefEqProofs[ixI,hj']
    refine(DL G (.row 1 [[.p (fdL l)]]) l i c0 2 [.row 3 [[.p (.str f.name),.p (aL f.params),.p (smL f.body)]]]).mono ?_
    rintro r h ⟨rfl,rfl⟩
    simp-implicitDefEqProofs[aa]
    exact am (by simp) (by simp[okO,below,cO]) (by simp[below,hfl])
   ·have hj':¬(j:Int)<(i:Int):=by omega
    rw[if_neg hj]
    simp-implicitDefEqProofs[ixI,hj']
    exact am (h:=[.row 1 [[.p (fdL l)]],cO l i c0,.row 3 [[.p (.str f.name),.p (aL f.params),.p (smL f.body)]]]) (by simp) (by simp[okO,below,cO]) (by simp[below,hfl])
  generalize (if j<i then fl c0 2 else c0)=c1 at eT⊢
  have hCH:∀(c:Int) (m:Scp),CH (.row 1 [[.p (fdL l)]]) l i c [⟨[.row 3 [[.p (.str f.name),.p (aL f.params),.p (smL f.body)]]],m⟩]=[.row 1 [[.p (fdL l)]],cO l i c,.row 3 [[.p (.str f.name),.p (aL f.params),.p (smL f.body)]],.mp (mpE m),.row 2 [[.mp 3,.nilp]]]:=λ_ _=>rfl
  simp-implicitDefEqProofs[]
  refine(nM G .nilp (.inl rfl) _).mono ?_
  rintro r h ⟨rfl,rfl⟩
  simp-implicitDefEqProofs[aa,hst]
  refine aN (λq:Nat=>az 73 [(1,.ptr 0 1 0 0),(3,.ptr 1 3 0 0),(4,.p (.int .i64 i)),(5,.ptr 2 3 0 0),(6,.ptr 4 2 0 0),(18,.p (fdL l)),(19,.p (.int .i64 l.length)),(20,.p (.int .i64 i)),(39,.p (aL f.params)),(40,.p (.int .i64 f.params.length)),(41,.p (.int .i64 q))])
   (λq=>[.row 1 [[.p (fdL l)]],cO l i (kU (f.params.take q) [] c1).2,.row 3 [[.p (.str f.name),.p (aL f.params),.p (smL f.body)]],.mp (mpE (kU (f.params.take q) [] c1).1),.row 2 [[.mp 3,.nilp]]])
   (λq=>q<=f.params.length) (λq=>f.params.length-q) 0 (by simp) ?_ ?_
  ·exact am (h:=[.row 1 [[.p (fdL l)]],cO l i c1,.row 3 [[.p (.str f.name),.p (aL f.params),.p (smL f.body)]],.mp [],.row 2 [[.mp 3,.nilp]]]) (by simp) (by simp[okO,below,cO]) (by simp[below,hfl,hst])
  intro q hq
  have eP:=λh=>JU (l:=f.params) (i:=q) (m:=[]) (c:=c1) h
  generalize hP:kU (f.params.take q) [] c1=st at eP⊢
  obtain⟨mq,cq⟩:=st
  simp only at eP⊢
  simp-implicitDefEqProofs[hst]
  refine aO (λhc=>?_) (λhc=>?_)
  ·simp at hc
   have hga:=Wa hc
   have eP:=eP hc
   generalize f.params[q]=nme at hga eP
   have hmg:=na nme mq
   have hms:lM (.str nme) (.p (.int .i64 0)) (mpE mq)=some (mpE (eV mq nme 0)):=by simpa using pX nme 0 mq
   have fin:∀(r1:List (Nat × AV)) (c2:Int),Aw.look r1 1= .ptr 0 1 0 0->Aw.look r1 3= .ptr 1 3 0 0->Aw.look r1 4= .p (.int .i64 i)->Aw.look r1 5= .ptr 2 3 0 0->Aw.look r1 6= .ptr 4 2 0 0->Aw.look r1 18= .p (fdL l)->Aw.look r1 19= .p (.int .i64 l.length)->Aw.look r1 20= .p (.int .i64 i)->Aw.look r1 39= .p (aL f.params)->Aw.look r1 40= .p (.int .i64 f.params.length)->Aw.look r1 41= .p (.int .i64 ((q:Int)+1))->
    Wk 0 (az 73 r1) [.row 1 [[.p (fdL l)]],cO l i c2,.row 3 [[.p (.str f.name),.p (aL f.params),.p (smL f.body)]],.mp (mpE (eV mq nme 0)),.row 2 [[.mp 3,.nilp]]]
     (az 73 [(1,.ptr 0 1 0 0),(3,.ptr 1 3 0 0),(4,.p (.int .i64 i)),(5,.ptr 2 3 0 0),(6,.ptr 4 2 0 0),(18,.p (fdL l)),(19,.p (.int .i64 l.length)),(20,.p (.int .i64 i)),(39,.p (aL f.params)),(40,.p (.int .i64 f.params.length)),(41,.p (.int .i64 ((q:Int)+1)))])
     [.row 1 [[.p (fdL l)]],cO l i c2,.row 3 [[.p (.str f.name),.p (aL f.params),.p (smL f.body)]],.mp (mpE (eV mq nme 0)),.row 2 [[.mp 3,.nilp]]]:=by
    intro r1 c2 e1 e3 e4 e5 e6 e18 e19 e20 e39 e40 e41
    refine am (by simp) (aC (by simp[okO]) (aC (by simp[okO,cO]) (aC (by simp[okO]) (aC (Fv _ _) (aC (by simp[okO,below]) gv))))) ?_
    simp[below,e1,e3,e4,e5,e6,e18,e19,e20,e39,e40,e41]
   cases hh:fO mq nme with
   |none=>
    rw[hh] at hmg eP
    simp-implicitDefEqProofs[hga,hmg,hms]
    refine⟨q+1,by omega,by omega,?_⟩
    rw[eP]
    exact fin _ _ (by simp) (by simp) (by simp) (by simp) (by simp) (by simp[hfl]) (by simp) (by simp) (by simp[hst]) (by simp) (by simp[w1 (i:=q) (by omega)])
   |some n=>
    rw[hh] at hmg eP
    simp-implicitDefEqProofs[hga,hmg,hms]
    refine(DL G (.row 1 [[.p (fdL l)]]) l i cq 2 _).mono ?_
    rintro r h ⟨rfl,rfl⟩
    simp-implicitDefEqProofs[aa,hms]
    refine⟨q+1,by omega,by omega,?_⟩
    rw[eP]
    exact fin _ _ (by simp) (by simp) (by simp) (by simp) (by simp) (by simp[hfl]) (by simp) (by simp) (by simp[hst]) (by simp) (by simp[w1 (i:=q) (by omega)])
  ·simp at hc
   have hqe:q=f.params.length:=by omega
   subst hqe
   rw[WA] at hP
   rw[hP] at eT
   simp only at eT
   have hB:=OP G (.row 1 [[.p (fdL l)]]) (fns:=l) (k:=i) (by omega) (by omega) hbo (aD f.body+1) f.body (by omega) (by omega) [.row 3 [[.p (.str f.name),.p (aL f.params),.p (smL f.body)]]] mq [] cq ⟨by simp[okO],trivial⟩
   rw[hCH] at hB
   simp-implicitDefEqProofs[]
   refine hB.mono ?_
   rintro r h ⟨rfl,rfl⟩
   simp-implicitDefEqProofs[aa]
   refine⟨i+1,by omega,by omega,?_⟩
   rw[eT]
   refine di (m:=2) (by omega) (bP rfl rfl (by simp[okO,below,cO])) (by simp[below,hfl,w1 (i:=i) (by omega)])
 ·simp at h
  have hie:i=l.length:=by omega
  subst hie
  rw[WA]
  simp-implicitDefEqProofs[cO]
end
section
theorem Fd.cs_eq'(f:Fd):f.cs=[.str f.name,aL f.params,smL f.body]:=rfl
variable (G:aK)
end
section
def Kk(f:Fd):Nat:=f.params.length+aU f.body
def yX(st:Int)(x:Sm × Nat):Int:=if x.1.op=1 then IntKind.i64.wrap (st+1) else st
mutual
theorem Pf:∀(s:Sm) (d:Nat) (st:Int),0<=st->st+vl s<=1099511627776->(s.pre d).foldl yX st=st+vl s
 | .mk o n a bd el,d,st,h0,h=>by
   rw[vl] at h
   have h1:=zI bd (d+1)
   have h2:=zI el (d+1)
   rw[Sm.pre,List.foldl_cons,List.foldl_append,vl]
   by_cases ho:o=1
   ·have e:yX st (⟨o,n,a,bd,el⟩,d)=st+1:=by show(if o=1 then _ else _)=_;rw[if_pos ho,ab (by omega) (by rw[if_pos ho] at h;omega)]
    rw[if_pos ho] at h⊢
    rw[e,h1 _ (by omega) (by omega),h2 _ (by omega) (by omega)]
    omega
   ·have e:yX st (⟨o,n,a,bd,el⟩,d)=st:=by show(if o=1 then _ else _)=_;rw[if_neg ho]
    rw[if_neg ho] at h⊢
    rw[e,h1 _ (by omega) (by omega),h2 _ (by omega) (by omega)]
    omega
theorem zI:∀(l:List Sm) (d:Nat) (st:Int),0<=st->st+aU l<=1099511627776->(bN d l).foldl yX st=st+aU l
 |[],d,st,_,_=>by simp[bN,aU]
 |s::r,d,st,h0,h=>by
  rw[aU] at h
  rw[bN,List.foldl_append,Pf s d st h0 (by omega),zI r d _ (by omega) (by omega),aU]
  omega
end
def Hj(f:Fd):Vis Int where
 I:=λst=>[.row 3 [[.p (.str f.name),.p (aL f.params),.p (smL f.body)]],.row 1 [[.p (.int .i64 st)]]]
 n:=2
 F:=eD
 caps:=[.ptr 1 1 0 0]
 len:=λ_=>rfl
 ok:=λst=>by simp[okO,below]
 capsOk:=by simp[below]
variable (G:aK)
theorem Eh(f:Fd)(st:Int)(s:Sm)(d:Nat):AC Tryz.prog G eD [.agg (s.cs.map .p),.p (.int .i64 d),.ptr 1 1 0 0] ((Hj f).I st) λx h=>x= .ret (.tup [])/\h=(Hj f).I (yX st (s,d)):=by
 refine(Hj f).trim G (AC.go tk ?_) (by simp[below])
 have hse:=s.cs_eq
 by_cases ho:s.op=1
 ·simp-implicitDefEqProofs[iG,hse,Hj,yX,ho]
 ·simp-implicitDefEqProofs[iG,hse,Hj,yX,ho]
theorem Hb(f:Fd)(hb:f.sz<=1073741824):VF Tryz.prog G kb [.agg (f.cs.map .p)] (.p (.int .i64 (Kk f))):=by
 have hcs:=f.cs_eq'
 have hfz:f.sz=1+f.name.length+(f.params.length+(f.params.map List.length).sum)+aD f.body:=rfl
 have hl:=fW f.body
 have hl2:=gq f.body
 have hst:aL f.params= .lst 1 (f.params.map λw=>[.str w]):=rfl
 have hI:=(Iv G (Hj f) yX (λ_=>True) 1073741824 (by omega) (λst s d _ _=>⟨trivial,Eh G f st s d⟩) (aD f.body+1) f.body (by omega) (by omega) 1 (by omega) (f.params.length:Int) trivial).2
 rw[zI f.body 1 f.params.length (by omega) (by omega)] at hI
 refine AC.go zg ?_
 simp-implicitDefEqProofs[oz,hcs,hst]
 refine hI.mono ?_
 rintro r h ⟨rfl,rfl⟩
 simp-implicitDefEqProofs[aa,Hj,Kk]
theorem Nm(l:List Fd)(hz:aW l<=1073741824):VF Tryz.prog G mG [.agg [.p (fdL l)]] (.p (.bool (decide (bT l=0)))):=by
 refine AC.go CC ?_
 simp-implicitDefEqProofs[rY]
 refine(At G l hz).use ?_
 simp-implicitDefEqProofs[]
variable (hK:G jl=some gY) (hS:G dU=some [.tbl opK opV])
include hK hS
theorem QU(l:List Fd)(hz:aW l<=1073741824):VF Tryz.prog G pp [.agg [.p (fdL l)]] (.p (.bool (decide (bT l=0)))):=by
 refine AC.go EI ?_
 simp-implicitDefEqProofs[vO]
 refine(BA G hK hS l hz).use ?_
 simp-implicitDefEqProofs[]
end
section
theorem Jp:∀(a b:List (List UInt8)) (m:Scp) (i:Nat),psS (a++b) m i=psS b (psS a m i) (i+a.length)
 |[],b,m,i=>by simp[psS]
 |p::r,b,m,i=>by rw[WR,psS,psS,Jp r];simp;congr 1;omega
theorem Fy{l:List (List UInt8)}{i:Nat}(h:i<l.length)(m:Scp):psS (l.take (i+1)) m 0=eV (psS (l.take i) m 0) l[i] i:=by
 rw[aw h,Jp,psS,psS,Wv,Nat.min_eq_left (by omega),WT]
variable (G:aK)
theorem Mm{l:List Fd}{pr:Int}{L n:Nat}{h:List AO}(hg:h[L]?=some (.row 5 [[.p (fdL l),.p (.int .i64 pr),.p (.int .i64 n),.nils,.p (.int .i64 0)]])):
 AC Tryz.prog G aY [.ptr L 5 0 0,.p (.int .i64 1)] h λr h'=>r= .ret (.p (.int .i64 0))/\h'=(h++[AO.row 5 [[.nils,.nils,.p (.int .i64 0),.p (.int .i64 0),.nils]]]).set L (lwO l pr ⟨n,[bk0],0⟩ (.sl h.length 5 0 1)):=by
 have hLl:=(VZ.1 hg).1
 have hgt:∀t,(h++t)[L]?=some (.row 5 [[.p (fdL l),.p (.int .i64 pr),.p (.int .i64 n),.nils,.p (.int .i64 0)]]):=λt=>by rw[VY hLl];exact hg
 refine AC.go jG ?_
 simp-implicitDefEqProofs[eX,hg,hgt,lwO]
theorem KK(l:List Fd)(hl:l.length<=1073741824)(f:Fd)(hz:f.sz<=16777216)(hf:∀x∈f.body,aJ 4 x=true):AC Tryz.prog G gT [.agg [.p (fdL l)],.agg (f.cs.map .p)] [] (MkW .agg false (lwF l 0 f).cs):=by
 have hfc:=f.cs_eq'
 have hfz:f.sz=1+f.name.length+(f.params.length+(f.params.map List.length).sum)+aD f.body:=rfl
 have hst:aL f.params= .lst 1 (f.params.map λw=>[.str w]):=rfl
 have hvn:Kk f=f.params.length+aU f.body:=rfl
 have hlet:=WQ (fW f.body) (gq f.body)
 have hvI:(Kk f:Int)=((f.params.length+aU f.body:Nat):Int):=rfl
 refine AC.go AQ ?_
 simp-implicitDefEqProofs[pN,hfc,hst]
 have hvc:=Hb G f (by omega)
 rw[hfc,hst] at hvc
 refine hvc.use ?_
 simp-implicitDefEqProofs[]
 refine(nM G .nilp (.inl rfl) _).mono ?_
 rintro r h ⟨rfl,rfl⟩
 simp-implicitDefEqProofs[aa]
 refine aN (λi:Nat=>az 65 [(3,.ptr 1 3 0 0),(4,.ptr 2 3 0 0),(5,.ptr 3 5 0 0),(6,.ptr 5 2 0 0),(27,.p (aL f.params)),(28,.p (.int .i64 f.params.length)),(29,.p (.int .i64 i))])
  (λi=>[.row 1 [[.p (fdL l)]],.row 3 [[.p (.str f.name),.p (aL f.params),.p (smL f.body)]],.row 3 [[.p (.int .i64 0),.p (.int .i64 0),.nils]],.row 5 [[.p (fdL l),.p (.int .i64 f.params.length),.p (.int .i64 (Kk f)),.nils,.p (.int .i64 0)]],.mp (mpE (psS (f.params.take i) [] 0)),.row 2 [[.mp 4,.nilp]]]) (λi=>i<=f.params.length) (λi=>f.params.length-i) 0 (by simp) ?_ ?_
 ·have e0:mpE (psS (f.params.take 0) [] 0)=[]:=rfl
  rw[e0,hst]
  exact al (by simp) (by simp[below])
 intro i hi
 simp-implicitDefEqProofs[hst]
 refine aO (λhc=>?_) (λhc=>?_)
 ·simp at hc
  have hg:=Wa hc
  have hps:=Fy hc []
  have hms:=pX f.params[i] i (psS (f.params.take i) [] 0)
  simp-implicitDefEqProofs[hg,hms]
  refine⟨i+1,by omega,by omega,?_⟩
  rw[hps]
  exact al (by simp) (by simp[below,hst,w1 (i:=i) (by omega)])
 ·simp at hc
  have hie:i=f.params.length:=by omega
  subst hie
  rw[WA]
  obtain⟨m,hm⟩:∃m,m=psS f.params [] 0:=⟨_,rfl⟩
  rw[←hm]
  simp-implicitDefEqProofs[]
  have hn0:=Mm G (l:=l) (pr:=f.params.length) (L:=3) (n:=f.params.length+aU f.body) (h:=[.row 1 [[.p (fdL l)]],.row 3 [[.p (.str f.name),.p (aL f.params),.p (smL f.body)]],.row 3 [[.p (.int .i64 0),.p (.int .i64 0),.nils]],.row 5 [[.p (fdL l),.p (.int .i64 f.params.length),.p (.int .i64 (Kk f)),.nils,.p (.int .i64 0)]],.mp (mpE m),.row 2 [[.mp 4,.nilp]]]) rfl
  rw[hst] at hn0
  refine hn0.mono ?_
  rintro x X1 ⟨rfl,rfl⟩
  obtain⟨w0,hw0⟩:∃w0:Lw,w0=⟨f.params.length+aU f.body,[bk0],0⟩:=⟨_,rfl⟩
  rw[←hw0]
  simp-implicitDefEqProofs[aa,lwO]
  obtain⟨H0,hH0⟩:∃H0,H0=[AO.row 1 [[.p (fdL l)]],.row 3 [[.p (.str f.name),.p (.lst 1 (f.params.map λw=>[.str w])),.p (smL f.body)]],.row 3 [[.p (.int .i64 0),.p (.int .i64 0),.nils]],.row 5 [[.p (fdL l),.p (.int .i64 f.params.length),.p (.int .i64 w0.regs),.sl 6 5 0 1,.p (.int .i64 w0.pos)]],.mp (mpE m),.row 2 [[.mp 4,.nilp]],.row 5 [[.nils,.nils,.p (.int .i64 0),.p (.int .i64 0),.nils]],.row 1 [[.p (.int .i64 f.params.length)]]]:=⟨_,rfl⟩
  rw[←hH0]
  have hls:LS (lwO l f.params.length) 3 w0 H0 (.sl 6 5 0 1) [6]:=by
   have hr:RowOwn false H0 6 5 [[.nils,.nils,.p (.int .i64 0),.p (.int .i64 0),.nils]] [bk0.cs] []:=⟨by rw[hH0];rfl,rfl,by simp,by simp[Bk.cs],.nils 2 (.nils 4 (.p _ (λ_=>rfl) (.p _ (λ_=>rfl) (.nils 1 .nil)))),by simp⟩
   refine⟨by rw[hH0];rfl,?_,by simp,λq e=>(by cases e),λkid n rows eK hg r hr'=>?_⟩
   ·rw[hw0];exact hr.tree rfl
   ·cases eK
    rw[hr.here] at hg
    cases hg
    rw[Wh.1 hr']
    intro q;simp
  have hok:w0.Ok (f.sz+1):=by
   rw[hw0]
   exact⟨by show f.params.length+aU f.body<=_;omega,by show 1<=_;omega,λb hb=>by rw[Wh.1 hb];show 0<=_;omega,by show 0<1;omega⟩
  have hblk:=Ms G l hl f.params.length 3 4 f.body hf w0 H0 (.sl 6 5 0 1) [6] (f.sz+1) [] 5 4 m [] 7 f.params.length hls hok (by omega) (by omega) (.cons _ _ _ _ _ _ (by rw[hH0];rfl) (by rw[hH0];rfl) .nil) (by simp) (by rw[hH0];rfl) (by simp) (by simp)
  have okb:=dh (faI l) 0 f.body m [] f.params.length w0 _ hok
  obtain⟨y,hy⟩:∃y,y=aS (faI l) 0 f.body m [] f.params.length w0:=⟨_,rfl⟩
  rw[←hy] at hblk okb
  refine hblk.mono ?_
  rintro x X2 ⟨rfl,K2,I2,a1,a2,a3,_,_⟩
  have hH8:H0.length=8:=by rw[hH0];rfl
  have T2:Stb (lwO l f.params.length) 3 [3,7,4,6] [6] [2] H0 y.2.2 X2 K2 I2:=⟨a1,a2,by simp,by simp,a3,λi hi=>by
   rw[Wh.1 hi]
   have h1:=a2.1
   refine⟨by omega,?_⟩
   simp only[Wd,not_or]
   refine⟨by omega,λhm=>?_⟩
   rcases a3 2 hm with h|h
   ·simp at h
   ·omega⟩
  have b2:X2[2]?=some (.row 3 [[.p (.int .i64 0),.p (.int .i64 0),.nils]]):=by rw[a2.2 2 (by omega) (by simp),hH0];rfl
  have l2:=T2.ls.here
  simp only[lwO] at l2
  simp-implicitDefEqProofs[aa,l2]
  refine(uk G T2.ls okb.1 (by omega) 1 0 [] (A:= .nils) (J:=[]) (.nils 1 .nil) List.nodup_nil (λj hj=>by cases hj)).mono ?_
  rintro x X3 ⟨rfl,hlr⟩
  obtain⟨K3,I3,T3,e3⟩:=T2.step (J:=[]) (λj hj=>by cases hj) hlr
  have ok3:=okb.1.mk' 1 0 []
  have b3:=(e3 2 (by simp)).trans b2
  have l3:=T3.ls.here
  simp only[lwO] at l3
  have hp3:(y.2.2.mk' 1 0 []).pos=y.2.2.pos:=rfl
  simp-implicitDefEqProofs[aa,l3,hp3]
  refine(mR G T3.ls ok3 3 y.2.2.regs y.2.2.pos [] (V:= .nils) (J:=[]) (.nils 1 .nil) List.nodup_nil (λj hj=>by cases hj)).mono ?_
  rintro x X4 ⟨rfl,hlr⟩
  obtain⟨K4,I4,T4,e4⟩:=T3.step (J:=[]) (λj hj=>by cases hj) hlr
  have b4:=(e4 2 (by simp)).trans b3
  have l4:=T4.ls.here
  simp only[lwO] at l4
  obtain⟨k1,k2⟩:=gy T4.ls.own
  have hs2:∀o,(X4.set 2 o)[2]?=some o:=λo=>Wi (T4.ap 2 (by simp)).1
  simp-implicitDefEqProofs[-AV.cells,-AV.isCell,aH,af,ag,aq,aj,aI,ae,au,ah,k1,k2,aa,l4,b4, ↓hs2]
  have hres:lwF l 0 f=⟨f.params.length,(y.2.2.mk' 1 0 []).regs,((y.2.2.mk' 1 0 []).fin 3 y.2.2.regs y.2.2.pos []).bs⟩:=by
   rw[lwF,←hm,←hw0,←hy];rfl
  rw[hres]
  refine⟨_,I4,rfl,.p _ (λ_=>rfl) (.p _ (λ_=>rfl) (T4.ls.own.frame λi hi=>Wc λe=>(T4.ap 2 (by simp)).2 (by rw[e];exact Wx _ hi))),(Wy.1 T4.ls.nd).2⟩
end
section
def eI{σ α β:Type}(g:σ->α->β × σ):σ->List α->List β × σ
 |st,[]=>([],st)
 |st,x::r=>((g st x).1::(eI g (g st x).2 r).1,(eI g (g st x).2 r).2)
theorem Gz{σ α β:Type}(g:σ->α->β × σ):∀(a b:List α) (st:σ),eI g st (a++b)=((eI g st a).1++(eI g (eI g st a).2 b).1,(eI g (eI g st a).2 b).2)
 |[],b,st=>rfl
 |x::r,b,st=>by rw[WR,eI,Gz g r];rfl
theorem Kr{σ α β:Type}{g:σ->α->β × σ}{l:List α}{st:σ}{i:Nat}(h:i<l.length):eI g st (l.take (i+1))=((eI g st (l.take i)).1++[(g (eI g st (l.take i)).2 l[i]).1],(g (eI g st (l.take i)).2 l[i]).2):=by
 rw[aw h,Gz];rfl
theorem Gn{σ α β:Type}(g:σ->α->β × σ):∀(l:List α) (st:σ),(eI g st l).1.length=l.length
 |[],st=>rfl
 |x::r,st=>by rw[eI,Wr,Wr,Gn g r]
theorem ET{σ α β:Type}{g:σ->α->β × σ}{inv:Nat->σ->Prop}:∀{l:List α} {st:σ} {k:Nat},inv k st->(∀(i:Nat) st (h:i<l.length),inv (k+i) st->inv (k+i+1) (g st l[i]).2)->∀i,i<=l.length->inv (k+i) (eI g st (l.take i)).2
 |[],st,k,h0,_,i,hi=>by
  have:i=0:=by simpa using hi
  subst this;exact h0
 |x::r,st,k,h0,hs,0,_=>h0
 |x::r,st,k,h0,hs,i+1,hi=>by
  have h1:=hs 0 st (by simp) h0
  have:=ET (g:=g) (l:=r) (st:=(g st x).2) (k:=k+1) h1 (λj st hj hv=>by
   have:=hs (j+1) st (by simp;omega) (by rw[show k+(j+1)=k+1+j by omega];exact hv)
   rw[show k+(j+1)+1=k+1+j+1 by omega] at this
   exact this) i (by simpa using hi)
  rw[List.take_succ_cons,eI,show k+(i+1)=k+1+i by omega]
  exact this
theorem QY{n k:Nat}{A:List AO}{π:List Nat}{h r1:List AO}(hl:A.length=n)(ha:∀o∈A,okO n o)(hh:∀i,i<n->h[i]?=A[i]?)(ρ:List Nat)(hρ:∀i,i<n->ρ.getD i 0=i)(hρn:n<=ρ.length)(hk:k=n)(hr:HW ρ h π r1):HW ρ h (List.range' 0 k++π) (A++r1):=by
 subst hk
 have key:∀(B:List AO) (s:Nat),(∀i:Nat,B[i]?=h[s+i]?\/B.length<=i)->s+B.length=k->(∀o∈B,okO k o)->HW ρ h (List.range' s B.length++π) (B++r1):=by
  intro B
  induction B with
  |nil=>intro s _ _ _;exact hr
  |cons o r ih=>
   intro s hb hs ho
   rw[Wr,List.range'_succ]
   have h0:h[s]?=some o:=by
    rcases hb 0 with h0|h0
    ·simpa using h0.symm
    ·simp at h0
   have hok:=ho o (by simp)
   have ih:=ih (s+1) (λi=>by
    rcases hb (i+1) with h1|h1
    ·rw[Ws] at h1;left;rw[h1];congr 1;omega
    ·right;simpa using h1) (by simp at hs;omega) (λo ho'=>ho o (by simp[ho']))
   have hsl:=(VZ.1 h0).1
   cases o with
   |dead=>exact eB hsl ih
   |row sz es=>
    refine cS (λx hx=>aT hρn _ (hok x hx)) ?_ ih
    rw[h0,WB (g:=id) λx hx=>lG hρ x (hok x hx)];simp
   |mp es=>exact⟨hsl,⟨λx hx=>by exact(aT hρn [x.2] ⟨hok x hx,trivial⟩).1,by rw[h0,WB (g:=id) λx hx=>by rw[kD hρ x.2 (hok x hx)];rfl];simp⟩,ih⟩
   |sit s p=>exact⟨hsl,h0,ih⟩
 have:=key A 0 (λi=>by
  rcases WM i A.length with hi|hi
  ·left;rw[WT];exact(hh i (by omega)).symm
  ·right;exact hi) (by omega) ha
 rwa[hl] at this
theorem Rp{kk q n m d sz c:Nat}{A mid s:List AO}{es:List (List AV)}{l l1:List (Nat × AV)}(hl:A.length=n)(hm:mid.length=m)(hk:kk<=n)(ha:∀o∈A,okO n o)(he:∀x∈es,ay 0 x)(H:FgA n l l1)(hd:Aw.look l d= .sl (n+m) sz 0 c):
 Wk kk (az q l) (A++(mid++ .row sz es::s)) (az q ((d,.sl n sz 0 c)::l1)) (A++[.row sz es]):=by
 have hρ:∀i,i<n->(List.range' 0 n++[n+m]).getD i 0=i:=λi hi=>by
  rw[Wp,VY (by simp;exact hi)];simp[hi]
 have hρn:(List.range' 0 n++[n+m]).getD n 0=n+m:=by
  rw[Wp,We (by simp)];simp
 refine fb (List.range' 0 n++[n+m]) (by simp;omega) (λi hi=>hρ i (by omega)) ?_ ?_ ?_
 ·refine WX.2 ⟨List.nodup_range',by simp,λa ha b hb e=>?_⟩
  rw[Wh] at hb
  have:=(List.mem_range'_1.1 ha).2
  omega
 ·refine QY hl ha (λi hi=>by rw[VY (by omega)]) _ hρ (by simp) rfl ?_
  refine bu ?_ he da
  rw[We (by omega),hl,Xb,We (by omega),hm,Nat.sub_self];rfl
 ·refine⟨⟨by simp only[below];simp,by simp only[ren,hρn];exact hd.symm⟩,?_⟩
  clear hd
  induction l1 with
  |nil=>trivial
  |cons x r ih=>
   obtain⟨⟨a,c⟩,e⟩:=H
   exact⟨⟨(aT (by simp) [x.2] ⟨a,trivial⟩).1,by rw[kD hρ _ a,c]⟩,ih e⟩
theorem Jx{hF:List AO}{n:Nat}:∀{A r:List AO},(∀o∈A,okO n o)->FzO hF n (A++r) A
 |[],r,_=> .nil r
 |o::a,r,h=> .same (h o (by simp)) (Jx λo ho=>h o (by simp[ho]))
theorem Pg{n:Nat}{A r:List AO}{o:AO}(hl:A.length=n):(mQ n (A++o::r))[n]?=some o:=by
 unfold mQ
 rw[We (by simp),List.length_replicate,Nat.sub_self,←hl,List.drop_left']
 ·rfl
 ·rfl
variable (G:aK)
end
section
def jb(l:List Cd):List (List AV):=l.map λc=>c.cs.map .p
theorem KE(l:List Cd):∀x∈jb l,ay 0 x:=λx hx=>by
 obtain⟨c,_,rfl⟩:=WC.1 hx
 simp[Cd.cs,ay,below]
theorem Cd.cs_eq'(c:Cd):c.cs=[.int .i64 c.params,.int .i64 c.regs,bkL c.blocks]:=rfl
variable (G:aK)
theorem La{σ:Type}(V:Vis σ)(g:σ->Fd->Cd × σ)(inv:Nat->σ->Prop)(l:List Fd)(hb:l.length<=1073741824)(hn:0<V.n)
 (hv:∀(i:Nat) st (h:i<l.length),inv i st->inv (i+1) (g st l[i]).2/\AC Tryz.prog G V.F (.agg (l[i].cs.map .p)::V.caps) (V.I st) λx h'=>x= .ret (.agg ((g st l[i]).1.cs.map .p))/\h'=V.I (g st l[i]).2)(st:σ)(h0:inv 0 st):
 AC Tryz.prog G cf [.p (fdL l),.fn (.func V.F) V.caps] (V.I st) λx h=>x= .ret (.p (cdL (eI g st l).1))/\h=V.I (eI g st l).2:=by
 have hxl:∀l,fdL l= .lst 3 (l.map Fd.cs):=λ_=>rfl
 have hlen:=V.len
 have hcb:=V.capsOk
 have hinv:∀i,i<=l.length->inv i (eI g st (l.take i)).2:=λi hi=>by
  have:=ET (g:=g) (inv:=inv) (l:=l) (st:=st) (k:=0) h0 (λi st h hi=>by
   rw[WT] at hi⊢;exact(hv i st h hi).1) i hi
  rwa[WT] at this
 have hRp:∀l:List Cd,∀x∈jb l,ay 0 x:=KE
 have hRl:∀l:List Cd,(jb l).length=l.length:=λl=>by simp[jb]
 have hRa:∀(l:List Cd) (y:Cd),jb (l++[y])=jb l++[y.cs.map .p]:=λl y=>by simp[jb]
 have key:AC Tryz.prog G cf [.p (fdL l),.fn (.func V.F) V.caps] (V.I st) λx h=>x= .ret (slE V.n 3 (jb (eI g st l).1))/\h=V.I (eI g st l).2++[bQ 3 (jb (eI g st l).1)]:=by
  refine AC.go nI ?_
  simp-implicitDefEqProofs[gQ,hxl]
  refine aN (λi:Nat=>az 22 [(5,slE V.n 3 (jb (eI g st (l.take i)).1)),(0,.p (fdL l)),(1,.fn (.func V.F) V.caps),(8,.p (fdL l)),(9,.p (.int .i64 l.length)),(10,.p (.int .i64 i))])
   (λi=>V.I (eI g st (l.take i)).2++[bQ 3 (jb (eI g st (l.take i)).1)]) (λi=>i<=l.length) (λi=>l.length-i) 0 (by simp) ?_ ?_
  ·have e:bQ 3 (jb (eI g st (l.take 0)).1)= .dead:=rfl
   rw[e]
   exact pt (by rw[hlen];exact Wn _) (by rw[hlen];exact hn) (by rw[hlen];exact V.ok st) (by simp[below,hxl,hcb,hlen,eI,jb,zF])
  intro i hi
  have hT:=λh=>Kr (g:=g) (l:=l) (st:=st) (i:=i) h
  have hi2:=hinv i hi
  have hml:=Gn g (l.take i) st
  rw[Wv,Nat.min_eq_left hi] at hml
  generalize hcur:eI g st (l.take i)=cur at hT hi2 hml⊢
  obtain⟨out,s⟩:=cur
  simp only at hT hi2 hml⊢
  simp-implicitDefEqProofs[hxl]
  refine aO (λhc=>?_) (λhc=>?_)
  ·simp at hc
   have hg:=Wa hc
   have hT:=hT hc
   obtain⟨_,hA⟩:=hv i s hc hi2
   generalize l[i]=x at hg hT hA
   have hkc:=x.cs_eq'
   have hyc:=(g s x).1.cs_eq'
   rw[hkc] at hA
   simp-implicitDefEqProofs[hg,hkc,hlen]
   refine(V.pre G hA _ ⟨by simp[below],hcb⟩).mono ?_
   rintro r h ⟨rfl,rfl⟩
   rw[hyc]
   simp-implicitDefEqProofs[aa,hlen]
   have hol:=hRl out
   refine⟨⟨by omega,by omega⟩,i+1,hc,by omega,?_⟩
   rw[hT]
   simp only[hRa]
   rw[Ej _ (by simp),Ai _ (by simp),hyc]
   refine Rp (mid:=[_,_,_]) (s:=[]) (hlen _) rfl (Wn _) (V.ok _) ?_ ?_ ?_
   ·intro x hx
    rcases Wf.1 hx with h|h
    ·exact hRp _ x h
    ·rw[Wh.1 h];simp
   ·simp[below,hxl,hcb,w1 (i:=i) (by omega)]
   ·simp
  ·simp at hc
   have hie:i=l.length:=by omega
   subst hie
   rw[WA] at hcur
   rw[hcur]
   simp-implicitDefEqProofs[]
 refine key.frz V.n (by rw[hlen];exact Wn _) (λt v h ⟨e,_⟩=>by cases e) ?_
 rintro v h ⟨e,rfl⟩
 cases e
 refine⟨_,V.I (eI g st l).2,by rw[Wq,hlen];omega,hlen _,.one ?_ .nil,Jx (V.ok _),rfl,rfl⟩
 have ht:=Pg (r:=[]) (o:=bQ 3 (jb (eI g st l).1)) (hlen (eI g st l).2)
 have hh:jb (eI g st l).1=((eI g st l).1.map Cd.cs).map (·.map .p):=by simp[jb]
 rw[hh] at ht⊢
 exact Nt ht (λx hx=>by obtain⟨b,_,rfl⟩:=WC.1 hx;rfl)
def unL(l:List Fd):List Cd:=l.map (lwF l 0)
theorem Hc(l:List Fd)(hl:l.length<=1073741824)(f:Fd)(hz:f.sz<=16777216)(hf:∀x∈f.body,aJ 4 x=true):VF Tryz.prog G gT [.agg [.p (fdL l)],.agg (f.cs.map .p)] (.agg ((lwF l 0 f).cs.map .p)):=
 AC.mkFreeze tJ (KK G l hl f hz hf)
end
section
variable (G:aK)
theorem Dg(b:Bool):VF Tryz.prog G lA [.p (.bool b)] (.p (.int .i64 (if b then 1 else 0))):=by
 refine AC.go BD ?_
 cases b<;>simp-implicitDefEqProofs[ra]
end
section
theorem uU:∀a b:List Sm,aU (a++b)=aU a+aU b
 |[],b=>by simp[aU]
 |s::r,b=>by rw[WR,aU,aU,uU r b,Nat.add_assoc]
theorem HM{l:List Sm}{i:Nat}(h:i<l.length):aU (l.take (i+1))=aU (l.take i)+vl l[i]:=by rw[aw h,uU,aU,aU];rfl
theorem Gd(l:List Sm)(i:Nat):aU (l.take i)<=aU l:=by
 have:=uU (l.take i) (l.drop i)
 rw[WI] at this
 omega
variable (G:aK)
theorem Nx:∀(k:Nat) (l:List Sm),aD l<=k->k<=1099511627776->VF Tryz.prog G gi [.p (smL l)] (.p (.int .i64 (aU l))):=by
 intro k
 induction k with
 |zero=>
  intro l hl _
  have:l=[]:=by
   cases l with
   |nil=>rfl
   |cons s r=>have:=s.sz_eq;simp only[aD] at hl;omega
  subst this
  refine AC.go sg ?_
  have hsl:smL []= .lst 5 []:=rfl
  simp-implicitDefEqProofs[mJ,hsl]
  refine aN (λ_:Unit=>az 35 [(0,.p (.lst 5 [])),(3,.p (.int .i64 0)),(4,.p (.int .i64 0))]) (λ_=>[]) (λ_=>True) (λ_=>0) () trivial (cy rfl (by simp[below])) ?_
  intro _ _
  simp-implicitDefEqProofs[aU]
 |succ k ih=>
  intro l hl hk
  have hll:=bM l
  have hnz:=WQ (fW l) (gq l)
  refine AC.go sg ?_
  have hsl:∀l,smL l= .lst 5 (l.map Sm.cs):=λ_=>rfl
  simp-implicitDefEqProofs[mJ,hsl]
  refine aN (λi:Nat=>az 35 [(0,.p (smL l)),(3,.p (.int .i64 (aU (l.take i)))),(4,.p (.int .i64 i))]) (λ_=>[]) (λi=>i<=l.length) (λi=>l.length-i) 0 (by simp) (cy rfl (by simp[below,hsl,aU])) ?_
  intro i hi
  have k2:=Gd l i
  simp-implicitDefEqProofs[hsl]
  refine aO (λh=>?_) (λh=>?_)
  ·simp at h
   have hg:=Wa h
   have hks:=fV (Wo h)
   have hse:=l[i].sz_eq
   have hce:=l[i].cs_eq
   have k1:=HM h
   have k4:=Gd l (i+1)
   have k5:=Pm l[i]
   have hb:=ih l[i].body (by omega) (by omega)
   have he:=ih l[i].els (by omega) (by omega)
   generalize l[i]=s at*
   generalize aU (l.take i)=n at*
   obtain⟨n2,hn2⟩:∃n2,n2=aU (l.take (i+1)):=⟨_,rfl⟩
   rw[←hn2] at k1 k4
   by_cases ho:s.op=1
   ·rw[if_pos ho] at k5
    simp-implicitDefEqProofs[hg,hce,ho]
    refine(Dg G true).use ?_
    have w0':IntKind.i64.wrap ((n:Int)+1)=(n:Int)+1:=ab (by omega) (by omega)
    simp-implicitDefEqProofs[hg,hce,w0']
    refine hb.use ?_
    have w1':IntKind.i64.wrap ((n:Int)+1+(aU s.body:Int))=(n:Int)+1+(aU s.body:Int):=ab (by omega) (by omega)
    simp-implicitDefEqProofs[hg,hce,w1']
    refine he.use ?_
    have w2':IntKind.i64.wrap ((n:Int)+1+(aU s.body:Int)+(aU s.els:Int))=(n2:Int):=by rw[ab (by omega) (by omega)];omega
    simp-implicitDefEqProofs[w2']
    exact⟨i+1,h,by omega,cy rfl (by simp[below,hsl,←hn2,w1 (i:=i) (by omega)])⟩
   ·rw[if_neg ho] at k5
    simp-implicitDefEqProofs[hg,hce,ho]
    refine(Dg G false).use ?_
    have w0':IntKind.i64.wrap (n:Int)=(n:Int):=ab (by omega) (by omega)
    simp-implicitDefEqProofs[hg,hce,w0']
    refine hb.use ?_
    have w1':IntKind.i64.wrap ((n:Int)+(aU s.body:Int))=(n:Int)+(aU s.body:Int):=ab (by omega) (by omega)
    simp-implicitDefEqProofs[hg,hce,w1']
    refine he.use ?_
    have w2':IntKind.i64.wrap ((n:Int)+(aU s.body:Int)+(aU s.els:Int))=(n2:Int):=by rw[ab (by omega) (by omega)];omega
    simp-implicitDefEqProofs[w2']
    exact⟨i+1,h,by omega,cy rfl (by simp[below,hsl,←hn2,w1 (i:=i) (by omega)])⟩
  ·simp at h
   rw[Wg h]
   simp-implicitDefEqProofs[]
section
variable {l:List Fd} {pr:Int} {L:Nat} {S I0 E:List Nat} {h:List AO} {w:Lw} {nx:Nat} {vs:Vs} {X:List AO} {K V:AV} {I:List Nat}
theorem Qf(T:RS l pr L S I0 E h w nx vs X K V I)(hw:w.regs<=1073741824):
 AC Tryz.prog G bW [.ptr L 8 0 0] X λx h'=>x= .ret (.p (.int .i64 w.regs))/\∃K' I',RS l pr L S I0 E h w.reg nx vs h' K' V I'/\∀i∈E,h'[i]?=X[i]?:=
 (ni G T.stb.ls hw).mono λx h' ⟨a,b⟩=>⟨a,T.step (J:=[]) (λj hj=>by cases hj) (by rw[Wu];exact b)⟩
theorem RB(T:RS l pr L S I0 E h w nx vs X K V I){B:Nat}(hok:w.Ok B)(hB:B<=1073741824)(op to n:Int):
 AC Tryz.prog G cD [.ptr L 8 0 0,.p (.int .i64 op),.p (.int .i64 to),.p (.int .i64 n),.sl X.length 1 0 0] (X++[.row 1 []]) λr h'=>r= .ret (.p (.int .i64 to))/\∃K' I',RS l pr L S I0 E h (w.put ⟨op,to,[],n⟩) nx vs h' K' V I'/\∀i∈E,h'[i]?=X[i]?:=by
 obtain⟨f1,f2⟩:=T.fresh
 refine(ti G (T.stb.ls.more [.row 1 []]) hok hB ⟨op,to,[],n⟩ (cU X ([]:List Int) rfl) (by simp) f2).mono λr h' ⟨e,b⟩=>⟨e,?_⟩
 obtain⟨K2,I2,a1,a2⟩:=(T.more [_]).step f1 b
 exact⟨K2,I2,a1,λi hi=>(a2 i hi).trans (VY (T.at.1 i hi).1)⟩
theorem PA(T:RS l pr L S I0 E h w nx vs X K V I){B:Nat}(hok:w.Ok B)(j o:Int)(g:Nat){gI:Int}(hg:gI=(g:Int)):
 AC Tryz.prog G bO [.ptr L 8 0 0,.p (.int .i64 j),.p (.int .i64 o),.sl X.length 1 0 0,.p (.int .i64 gI)] (X++[.row 1 []]) λr h'=>r= .ret (.tup [])/\∃K' I',RS l pr L S I0 E h (w.fin j o g []) nx vs h' K' V I'/\∀i∈E,h'[i]?=X[i]?:=by
 obtain⟨f1,f2⟩:=T.fresh
 rw[hg]
 refine(rm G (T.stb.ls.more [.row 1 []]) hok j o g [] (cU X ([]:List Int) rfl) (by simp) f2).mono λr h' ⟨e,b⟩=>⟨e,?_⟩
 obtain⟨K2,I2,a1,a2⟩:=(T.more [_]).step f1 b
 exact⟨K2,I2,a1,λi hi=>(a2 i hi).trans (VY (T.at.1 i hi).1)⟩
theorem KV{n:Nat}(hg:X[L]?=some (.row 8 [[.p (fdL l),.p (.int .i64 pr),.p (.int .i64 n),.nils,.p (.int .i64 0),V,.p (.int .i64 nx),.nils]]))(hV:V.cells=[V]/\V.isCell=true):
 AC Tryz.prog G cN [.ptr L 8 0 0] X λr h'=>r= .ret (.p (.int .i64 0))/\∃K I,LS (lwR l pr V nx) L ⟨n,[bk0],0⟩ h' K I/\Frm [L] X h'/\∀j∈I,X.length<=j:=by
 have hLl:=(VZ.1 hg).1
 obtain⟨v1,v2⟩:=hV
 have hgt:∀t,(X++t)[L]?=some (.row 8 [[.p (fdL l),.p (.int .i64 pr),.p (.int .i64 n),.nils,.p (.int .i64 0),V,.p (.int .i64 nx),.nils]]):=λt=>by rw[VY hLl];exact hg
 have hs3:∀t o,((X++t).set L o)[L]?=some o:=λt o=>Wi (by simp;omega)
 refine AC.go le ?_
 simp-implicitDefEqProofs[-AV.cells,-AV.isCell,aH,af,ag,aq,aj,aI,ae,au,ah,v1,v2,gD,hg,hgt, ↓hs3]
 have key:∀o1:AO,∃K I,LS (lwR l pr V nx) L ⟨n,[bk0],0⟩ ((X++[.row 2 [],.row 4 [],.row 1 [],o1,.row 5 [[.sl X.length 2 0 0,.sl (X.length+1) 4 0 0,.p (.int .i64 0),.p (.int .i64 0),.sl (X.length+2) 1 0 0]]]).set L (lwR l pr V nx ⟨n,[bk0],0⟩ (.sl (X.length+4) 5 0 1))) K I/\Frm [L] X ((X++[.row 2 [],.row 4 [],.row 1 [],o1,.row 5 [[.sl X.length 2 0 0,.sl (X.length+1) 4 0 0,.p (.int .i64 0),.p (.int .i64 0),.sl (X.length+2) 1 0 0]]]).set L (lwR l pr V nx ⟨n,[bk0],0⟩ (.sl (X.length+4) 5 0 1)))/\∀j∈I,X.length<=j:=λo1=>by
  obtain⟨H,hH⟩:∃H,H=((X++[.row 2 [],.row 4 [],.row 1 [],o1,.row 5 [[.sl X.length 2 0 0,.sl (X.length+1) 4 0 0,.p (.int .i64 0),.p (.int .i64 0),.sl (X.length+2) 1 0 0]]]).set L (lwR l pr V nx ⟨n,[bk0],0⟩ (.sl (X.length+4) 5 0 1))):=⟨_,rfl⟩
  have g:∀k,H[X.length+k]?=[AO.row 2 [],.row 4 [],.row 1 [],o1,.row 5 [[.sl X.length 2 0 0,.sl (X.length+1) 4 0 0,.p (.int .i64 0),.p (.int .i64 0),.sl (X.length+2) 1 0 0]]][k]?:=λk=>by
   rw[hH,Wc (by omega),We (by omega)]
   rw[Xb]
  rw[←hH]
  have hr:RowOwn false H (X.length+4) 5 [[.sl X.length 2 0 0,.sl (X.length+1) 4 0 0,.p (.int .i64 0),.p (.int .i64 0),.sl (X.length+2) 1 0 0]] [bk0.cs] [X.length,X.length+1,X.length+2]:=
   ⟨g 4,rfl,by simp,by simp[bk0,Bk.cs],by rw[List.flatten_singleton,List.flatten_singleton];exact Iy (g 0) (g 1) (g 2),by simp⟩
  refine⟨_,_,⟨by rw[hH];exact Wi (by simp;omega),hr.tree rfl,by simp;omega,λq e=>(by cases e),λkid n2 rows2 eK hg2 r hr2=>?_⟩,⟨by rw[hH];simp,λi hi hn=>?_⟩,λj hj=>?_⟩
  ·cases eK
   rw[hr.here] at hg2
   cases hg2
   rw[Wh.1 hr2]
   intro q;simp
  ·rw[hH,Wc (λe=>hn (by simp[e])),VY hi]
  ·simp only[Wd,WV,or_false] at hj
   omega
 have e:=key (.row 5 [[.sl X.length 2 0 0,.sl (X.length+1) 4 0 0,.p (.int .i64 0),.p (.int .i64 0),.sl (X.length+2) 1 0 0]])
 exact⟨ab (by omega) (by omega),e⟩
end
structure PvS where (i:Nat) (X:List AO)
theorem Qk{vs:Vs}{ps:List (List UInt8)}{i:Nat}(hi:i<ps.length)(hl:vs.length=i)(h:rgV vs=scF (-1) [psS (ps.take i) [] 0]):rgV (vs++[(ps[i],i)])=scF (-1) [psS (ps.take (i+1)) [] 0]:=by
 funext t
 simp only[AP,h,Fy hi,scF,cY,lF]
 by_cases hst:ps[i]=t
 ·simp[hst]
 ·simp[hst]
theorem QF(l:List Fd)(hl:l.length<=1073741824)(k:Nat)(f:Fd)(hk:l[k]?=some f)(hz:f.sz<=16777216)(hf:∀x∈f.body,aJ 4 x=true):AC Tryz.prog G ma [.agg [.p (fdL l)],.p (.int .i64 k)] [] (MkW .agg false (lwF l (-1) f).cs):=by
 have hfc:=f.cs_eq'
 have hfl:fdL l= .lst 3 (l.map Fd.cs):=rfl
 have hlk:=(VZ.1 hk).1
 have hfz:f.sz=1+f.name.length+(f.params.length+(f.params.map List.length).sum)+aD f.body:=rfl
 have hst:aL f.params= .lst 1 (f.params.map λw=>[.str w]):=rfl
 have hlet:=WQ (fW f.body) (gq f.body)
 refine AC.go GC ?_
 simp-implicitDefEqProofs[vS,hfl,hk,hfc,hst]
 rw[←hfl]
 refine(Nx G _ f.body (Wn _) (by omega)).use ?_
 have hwl:IntKind.i64.wrap ((f.params.length:Int)+(aU f.body:Int))=((f.params.length+aU f.body:Nat):Int):=by rw[ab (by omega) (by omega)];omega
 simp-implicitDefEqProofs[hst,hwl]
 obtain⟨n,hn⟩:∃n:Nat,n=f.params.length+aU f.body:=⟨_,rfl⟩
 have hnI:(f.params.length:Int)+(aU f.body:Int)=n:=by omega
 rw[hnI]
 refine aN (λa:PvS=>az 80 [(4,.ptr 1 3 0 0),(5,.ptr 2 3 0 0),(6,.ptr 3 8 0 0),(7,.p (.int .i64 a.i))]) (λa=>a.X)
  (λa=>a.i<=f.params.length/\4<=a.X.length/\a.X[1]?=some (.row 3 [[.p (.int .i64 0),.p (.int .i64 0),.nils]])/\a.X[2]?=some (.row 3 [[.p (.str f.name),.p (.lst 1 (f.params.map λw=>[.str w])),.p (smL f.body)]])/\∃V vs,a.X[3]?=some (.row 8 [[.p (fdL l),.p (.int .i64 f.params.length),.p (.int .i64 n),.nils,.p (.int .i64 0),V,.p (.int .i64 f.params.length),.nils]])/\VAt a.X V vs/\(∀i∈vi V,4<=i)/\vs.length=a.i/\rgV vs=scF (-1) [psS (f.params.take a.i) [] 0]) (λa=>f.params.length-a.i)
  ⟨0,[.row 1 [[.p (fdL l)]],.row 3 [[.p (.int .i64 0),.p (.int .i64 0),.nils]],.row 3 [[.p (.str f.name),.p (.lst 1 (f.params.map λw=>[.str w])),.p (smL f.body)]],.row 8 [[.p (fdL l),.p (.int .i64 f.params.length),.p (.int .i64 n),.nils,.p (.int .i64 0),.nils,.p (.int .i64 f.params.length),.nils]]]⟩ ⟨WH _,by simp,rfl,rfl,.nils,[],rfl,.nil,(λi hi=>by cases hi),rfl,rfl⟩ ?_ ?_
 ·exact al (by simp) (by simp[below])
 rintro⟨i,X⟩ ⟨hi,hX4,hx1,hx2,V,vs,hx3,hV,hVi,hvl,hrg⟩
 simp only at hi hX4 hx1 hx2 hx3 hV hvl hrg
 obtain⟨v1,v2,v3⟩:=hV.is
 simp-implicitDefEqProofs[hx2]
 refine aO (λhc=>?_) (λhc=>?_)
 ·simp at hc
  have hg:=Wa hc
  have hrg2:=Qk hc hvl hrg
  generalize f.params[i]=p at hg hrg2
  have hwi:=w1 (i:=i) (by omega)
  have hX2m:∀t,(X++t)[2]?=some (.row 3 [[.p (.str f.name),.p (.lst 1 (f.params.map λw=>[.str w])),.p (smL f.body)]]):=λt=>by rw[VY (by omega)];exact hx2
  cases hV with
  |nil=>
   have hvi:i=0:=hvl.symm
   subst hvi
   have hX3m:∀t,(X++t)[3]?=some (.row 8 [[.p (fdL l),.p (.int .i64 f.params.length),.p (.int .i64 n),.nils,.p (.int .i64 0),.nils,.p (.int .i64 f.params.length),.nils]]):=λt=>by rw[VY (by omega)];exact hx3
   simp-implicitDefEqProofs[hx2,hx3,hg,hX3m,hX2m]
   have hw11:IntKind.i64.wrap 1=1:=ab (by omega) (by omega)
   refine⟨⟨1,_⟩,⟨by simp only;omega,?_,?_,?_,.sl X.length 3 0 1,?_,[(p,0)],?_,?_,rfl,by simpa using hrg2⟩,by simp only;omega,al ?_ ?_⟩
   rotate_left 6
   ·exact WH _
   ·simp[below,hw11]
    omega
   ·simp;omega
   ·rw[Wc (by omega),VY (by omega)];exact hx1
   ·rw[Wc (by omega),VY (by omega)];exact hx2
   ·exact Wi (by simp;omega)
   ·exact .sl _ [sS (p,0)] [(p,0)] (by rw[Wc (by omega),We (Wn _)];simp[sS]) rfl
   ·intro j hj;rw[Wh.1 hj];exact hX4
  |sl vid rows _ hv1 hv2=>
   have hvX:=(VZ.1 hv1).1
   have hv4:=hVi vid (by simp[vi])
   have hvk:vs.length<=rows.length:=by
    have:=congrArg List.length hv2
    rw[Wv,WD] at this
    omega
   have hX3m:∀t,(X.set vid .dead++t)[3]?=X[3]?:=λt=>by rw[VY (by simp;omega),Wc (by omega)]
   have hX2n:∀t,(X.set vid .dead++t)[2]?=X[2]?:=λt=>by rw[VY (by simp;omega),Wc (by omega)]
   simp-implicitDefEqProofs[hx2,hx3,hg,hv1,hv2, ↓hX3m, ↓hX2n,hwi]
   refine⟨⟨by omega,by omega⟩,⟨i+1,_⟩,⟨by simp only;omega,?_,?_,?_,.sl X.length 3 0 (vs.length+1),?_,vs++[(p,i)],?_,?_,by simp;omega,hrg2⟩,by simp only;omega,al ?_ ?_⟩
   rotate_left 6
   ·exact WH _
   ·simp[below,hwi]
    omega
   ·simp;omega
   ·rw[Wc (by omega),VY (by simp;omega),Wc (by omega)];exact hx1
   ·rw[Wc (by omega),VY (by simp;omega),Wc (by omega)];exact hx2
   ·exact Wi (by simp;omega)
   ·have hlv:(vs++[(p,i)]).length=vs.length+1:=by simp
    exact hlv▸ .sl _ (vs.map sS++[sS (p,i)]) (vs++[(p,i)]) (by rw[Wc (by omega),We (by simp)];simp[sS]) (by rw[Wg (by simp)];simp)
   ·intro j hj;rw[Wh.1 hj];exact hX4
 ·simp at hc
  have hie:i=f.params.length:=by omega
  subst hie
  rw[WA] at hrg
  simp-implicitDefEqProofs[]
  refine(KV G hx3 ⟨v1,v2⟩).mono ?_
  rintro x X1 ⟨rfl,K1,I1,H1,hfr,hI1⟩
  have hl1:=hfr.1
  have va1:VAt X1 V vs:=hV.frame λi hi=>hfr.2 i (hV.lt i hi) (by have:=hVi i hi;simp;omega)
  have T1':=RS.of H1 va1 (λi hi=>by
   have h4:=hVi i hi
   have h5:=hV.lt i hi
   simp only[Wd,not_or]
   exact⟨by omega,λhm=>by have:=hI1 i hm;omega⟩)
  have T1:=T1'.add (j:=1) (by omega) (by
   simp only[Wd,not_or]
   exact⟨by omega,λhm=>by have:=hI1 1 hm;omega⟩) (λhm=>by have:=hVi 1 hm;omega)
  have b1:X1[1]?=some (.row 3 [[.p (.int .i64 0),.p (.int .i64 0),.nils]]):=(hfr.2 1 (by omega) (by simp)).trans hx1
  have b2:X1[2]?=some (.row 3 [[.p (.str f.name),.p (.lst 1 (f.params.map λw=>[.str w])),.p (smL f.body)]]):=(hfr.2 2 (by omega) (by simp)).trans hx2
  have ok1:(⟨n,[bk0],0⟩:Lw).Ok (f.sz+1):=⟨by show n<=_;omega,by show 1<=_;omega,λb hb=>by rw[Wh.1 hb];show 0<=_;omega,by show 0<1;omega⟩
  simp-implicitDefEqProofs[aa,b2]
  obtain⟨y,hy⟩:∃y,y=aS (faI l) (-1) f.body (psS f.params [] 0) [] f.params.length ⟨n,[bk0],0⟩:=⟨_,rfl⟩
  have h2:=zM G (MA G l hl f.params.length 3 4 f.body hf) T1 ok1 (by omega) (by omega) (by omega) hrg
  have ok2:=dh (faI l) (-1) f.body (psS f.params [] 0) [] f.params.length ⟨n,[bk0],0⟩ _ ok1
  rw[←hy] at h2 ok2
  refine h2.mono ?_
  rintro x X2 ⟨rfl,K2,V2,I2,T2,e2⟩
  obtain⟨ok2,_,_,_⟩:=ok2
  have b1:=(e2 1 (by simp)).trans b1
  simp-implicitDefEqProofs[aa]
  refine(Qf G T2 (by have:=ok2.regs;omega)).mono ?_
  rintro x X3 ⟨rfl,K3,I3,T3,e3⟩
  have b1:=(e3 1 (by simp)).trans b1
  have ok3:=ok2.reg
  simp-implicitDefEqProofs[aa]
  refine(RB G T3 ok3 (by omega) 1 y.2.2.regs 0).mono ?_
  rintro x X4 ⟨rfl,K4,I4,T4,e4⟩
  have b1:=(e4 1 (by simp)).trans b1
  have ok4:=ok3.put ⟨1,y.2.2.regs,[],0⟩
  simp-implicitDefEqProofs[aa]
  refine(PA G T4 ok4 3 y.2.2.regs 0 rfl).mono ?_
  rintro x X5 ⟨rfl,K5,I5,T5,e5⟩
  have b1:=(e5 1 (by simp)).trans b1
  have l5:=T5.stb.ls.here
  simp only[lwR] at l5
  obtain⟨k1,k2⟩:=gy T5.stb.ls.own
  have hs1:∀o,(X5.set 1 o)[1]?=some o:=λo=>Wi (T5.at.1 1 (by simp)).1
  simp-implicitDefEqProofs[-AV.cells,-AV.isCell,aH,af,ag,aq,aj,aI,ae,au,ah,k1,k2,aa,l5,b1, ↓hs1]
  have hres:lwF l (-1) f=⟨f.params.length,((y.2.2.reg.put ⟨1,y.2.2.regs,[],0⟩).fin 3 y.2.2.regs 0 []).regs,((y.2.2.reg.put ⟨1,y.2.2.regs,[],0⟩).fin 3 y.2.2.regs 0 []).bs⟩:=by
   rw[lwF,←hn,←hy];rfl
  rw[hres]
  refine⟨_,I5,rfl,.p _ (λ_=>rfl) (.p _ (λ_=>rfl) (T5.stb.ls.own.frame λi hi=>Wc λe=>(T5.at.1 1 (by simp)).2 (by rw[e];exact Wx _ hi))),(Wy.1 T5.stb.ls.nd).2⟩
theorem OB(l:List Fd)(hl:l.length<=1073741824)(k:Nat)(f:Fd)(hk:l[k]?=some f)(hz:f.sz<=16777216)(hf:∀x∈f.body,aJ 4 x=true):VF Tryz.prog G ma [.agg [.p (fdL l)],.p (.int .i64 k)] (.agg ((lwF l (-1) f).cs.map .p)):=
 AC.mkFreeze tJ (QF G l hl k f hk hz hf)
def unR(l:List Fd):List Cd:=l.map (lwF l (-1))
structure UnS where (i:Nat) (X:List AO)
theorem Mx(l:List Fd)(hz:aW l<=16777216)(hf:∀f∈l,∀x∈f.body,aJ 4 x=true):VF Tryz.prog G jD [.agg [.p (fdL l)]] (.agg [.p (cdL (unR l))]):=by
 have hfl:fdL l= .lst 3 (l.map Fd.cs):=rfl
 have hll:l.length<=aW l:=iz l
 have key:AC Tryz.prog G jD [.agg [.p (fdL l)]] [] λx h=>∃V,x= .ret (.agg [V])/\((V= .nils/\l=[])\/∃id,V= .sl id 3 0 l.length/\h[id]?=some (.row 3 (jb (unR l)))):=by
  refine AC.go CK ?_
  simp-implicitDefEqProofs[sk]
  refine aN (λa:UnS=>az 22 [(1,.ptr 0 1 0 0),(2,.ptr 1 1 0 0),(3,.ptr 2 1 0 0),(4,.p (.int .i64 a.i))]) (λa=>a.X)
   (λa=>a.i<=l.length/\3<=a.X.length/\a.X[0]?=some (.row 1 [[.p (fdL l)]])/\a.X[1]?=some (.row 1 [[.nils]])/\∃V,a.X[2]?=some (.row 1 [[V]])/\((V= .nils/\a.i=0)\/∃id,V= .sl id 3 0 a.i/\3<=id/\a.X[id]?=some (.row 3 (jb (unR l|>.take a.i))))) (λa=>l.length-a.i)
   ⟨0,[.row 1 [[.p (fdL l)]],.row 1 [[.nils]],.row 1 [[.nils]]]⟩ ⟨WH _,by simp,rfl,rfl,.nils,rfl,.inl ⟨rfl,rfl⟩⟩ ?_ ?_
  ·exact al (by simp) (by simp[below])
  rintro⟨i,X⟩ ⟨hi,hX3,hx0,hx1,V,hx2,hV⟩
  simp only at hi hX3 hx0 hx1 hx2 hV
  simp-implicitDefEqProofs[hx0,hfl]
  refine aO (λhc=>?_) (λhc=>?_)
  ·simp at hc
   have hg:=Wa hc
   have hm:=Wo hc
   have hfz:=gf hm
   have hcall:=OB G l (by omega) i l[i] hg (by omega) (hf _ hm)
   have htk:(unR l).take (i+1)=(unR l).take i++[lwF l (-1) l[i]]:=by
    rw[unR,←List.map_take,←List.map_take,aw hc,List.map_append];rfl
   have hcs:=(lwF l (-1) l[i]).cs_eq'
   have hlt:((unR l).take i).length=i:=by simp[unR];omega
   have hwi:=w1 (i:=i) (by omega)
   generalize lwF l (-1) l[i]=c at hcall htk hcs
   rw[hcs] at hcall
   rw[hfl] at hcall
   have hX2:∀t,(X++t)[2]?=some (.row 1 [[V]]):=λt=>by rw[VY (by omega)];exact hx2
   rcases hV with⟨rfl,rfl⟩|⟨id,rfl,hid,hxi⟩
   ·simp-implicitDefEqProofs[hx2,hx0,hfl]
    refine hcall.use ?_
    simp-implicitDefEqProofs[hx2,hX2]
    have hw11:IntKind.i64.wrap 1=1:=ab (by omega) (by omega)
    refine⟨⟨1,_⟩,⟨by simp only;omega,?_,?_,?_,.sl X.length 3 0 1,?_,.inr ⟨X.length,rfl,hX3,?_⟩⟩,by simp only;omega,al ?_ ?_⟩
    rotate_left 5
    ·exact WH _
    ·simp[below,hw11];omega
    ·simp;omega
    ·rw[Wc (by omega),VY (by omega)];exact hx0
    ·rw[Wc (by omega),VY (by omega)];exact hx1
    ·exact Wi (by simp;omega)
    ·rw[htk,Wc (by omega),We (Wn _)]
     simp[jb,hcs]
   ·have hiX:=(VZ.1 hxi).1
    have hX2n:∀t,(X.set id .dead++t)[2]?=X[2]?:=λt=>by rw[VY (by simp;omega),Wc (by omega)]
    have htl:List.take i (jb (List.take i (unR l)))=jb (List.take i (unR l)):=Wg (by simp[jb];omega)
    have hcl:(jb (List.take i (unR l))).length=i:=by simp only[jb,WD];exact hlt
    simp-implicitDefEqProofs[hx2,hx0,hfl]
    refine hcall.use ?_
    simp-implicitDefEqProofs[hx2,hxi, ↓hX2n,htl,hcl,hwi]
    refine⟨⟨by omega,by omega⟩,⟨i+1,_⟩,⟨by simp only;omega,?_,?_,?_,.sl X.length 3 0 (i+1),?_,.inr ⟨X.length,rfl,hX3,?_⟩⟩,by simp only;omega,al ?_ ?_⟩
    rotate_left 5
    ·exact WH _
    ·simp[below,hwi];omega
    ·simp;omega
    ·rw[Wc (by omega),VY (by simp;omega),Wc (by omega)];exact hx0
    ·rw[Wc (by omega),VY (by simp;omega),Wc (by omega)];exact hx1
    ·exact Wi (by simp;omega)
    ·rw[htk,Wc (by omega),We (by simp)]
     simp[jb,hcs]
  ·simp at hc
   have hie:i=l.length:=by omega
   subst hie
   have hx1s:∀o,(X.set 1 o)[1]?=some o:=λo=>Wi (by omega)
   have hul:(unR l).take l.length=unR l:=Wg (by simp[unR])
   rw[hul] at hV
   rcases hV with⟨rfl,h0⟩|⟨id,rfl,hid,hxi⟩
   ·simp-implicitDefEqProofs[hx2,hx1, ↓hx1s]
    exact List.length_eq_zero_iff.1 h0
   ·simp-implicitDefEqProofs[hx2,hx1, ↓hx1s]
    rw[Wc (by omega)]
    exact hxi
 refine key.freezeR (λt v h ⟨V,e,_⟩=>by cases e) ?_
 rintro v h ⟨V,e,hV⟩
 cases e
 refine .agg ?_ .nil
 rcases hV with⟨rfl,rfl⟩|⟨id,rfl,hid⟩
 ·exact .one (View.nils 3) .nil
 ·have hh:jb (unR l)=((unR l).map Cd.cs).map (·.map .p):=by simp[jb]
  rw[hh] at hid
  have:=iA (n:=l.length) hid (by simp[unR]) (λx hx=>by obtain⟨b,_,rfl⟩:=WC.1 hx;rfl)
  exact .one this .nil
end
section
def dC(l:List Fd):Bool:=decide (bT l=0)&&unB (unL l)
def lS(l:List Fd):List Cd:=if dC l then unL l else[]
theorem Rt{l:List Fd}(h:bT l=0):unR l=unL l:=WB (NI h)
theorem zV{l:List Fd}(h:bT l=0):Fh 1073741824 (unL l):=by
 have hp:=DC h
 have hs:=kH hp
 have hl:l.length<=4:=((dM l).1 hp).1.2
 exact OS l 0 (by omega) (by omega)
def CX(l:List Fd):Vis Unit where
 I:=λ_=>[.row 1 [[.p (fdL l)]],.row 1 [[.nils]]]
 n:=2
 F:=cT
 caps:=[.ptr 0 1 0 0]
 len:=λ_=>rfl
 ok:=λ_=>by simp[okO,below]
 capsOk:=by simp[below]
variable (G:aK)
theorem CQ{f:Fd->Cd}:∀(l:List Fd) (st:Unit),eI (λ_ x=>(f x,())) st l=(l.map f,())
 |[],_=>rfl
 |x::r,st=>by rw[eI,CQ r];rfl
theorem uQ(l:List Fd)(hl:l.length<=1073741824)(f:Fd)(hz:f.sz<=16777216)(hf:∀x∈f.body,aJ 4 x=true):AC Tryz.prog G cT [.agg (f.cs.map .p),.ptr 0 1 0 0] ((CX l).I ()) λx h=>x= .ret (.agg ((lwF l 0 f).cs.map .p))/\h=(CX l).I ():=by
 have hfc:=f.cs_eq'
 have hL:=Hc G l hl f hz hf
 have hcs:=(lwF l 0 f).cs_eq2
 generalize lwF l 0 f=c at hL hcs
 rw[hfc,hcs] at hL
 refine(CX l).trim G (AC.go oZ ?_) (by rw[hcs];simp[below])
 simp-implicitDefEqProofs[iS,CX,hfc]
 refine hL.use ?_
 simp-implicitDefEqProofs[hcs]
theorem BP(hK:G jl=some gY)(hS:G dU=some [.tbl opK opV])(l:List Fd)(hz:aW l<=1073741824):VF Tryz.prog G dv [.agg [.p (fdL l)]] (.tup [.agg [.p (cdL (lS l))],.p (.bool (dC l))]):=by
 have hfl:fdL l= .lst 3 (l.map Fd.cs):=rfl
 have key:AC Tryz.prog G dv [.agg [.p (fdL l)]] [] λx h=>∃V,x= .ret (.tup [.agg [V],.p (.bool (dC l))])/\(V= .p (cdL (lS l))\/(V= .nils/\lS l=[])):=by
  refine AC.go ry ?_
  simp-implicitDefEqProofs[ku]
  refine(QU G hK hS l hz).use ?_
  by_cases h0:bT l=0
  case neg=>
   have hf:dC l=false:=by simp[dC,h0]
   have hu:lS l=[]:=by rw[lS,hf];rfl
   simp-implicitDefEqProofs[h0,hf,hu]
  have hp:=DC h0
  have hs:=kH hp
  have hfm:=vP hp
  have hl4:l.length<=4:=((dM l).1 hp).1.2
  have hM:=La G (CX l) (λ_ f=>(lwF l 0 f,())) (λ_ _=>True) l (by omega) (by show 0<2;omega) (λi st hi _=>⟨trivial,uQ G l (by omega) l[i] (by have:=rg (Wo hi);omega) (hfm _ (Wo hi))⟩) () trivial
  rw[CQ] at hM
  have hU:=za G (unL l) (zV h0)
  simp-implicitDefEqProofs[h0]
  refine hM.mono ?_
  rintro x h ⟨rfl,rfl⟩
  have hul:(l.map λf=>lwF l 0 f)=unL l:=rfl
  simp-implicitDefEqProofs[aa,CX,hul]
  refine hU.use ?_
  cases hb:unB (unL l) with
  |false=>
   have hf:dC l=false:=by simp[dC,h0,hb]
   have hu:lS l=[]:=by rw[lS,hf];rfl
   simp-implicitDefEqProofs[hf,hu]
  |true=>
   have hf:dC l=true:=by simp[dC,h0,hb]
   have hu:lS l=unL l:=by rw[lS,hf,if_pos rfl]
   simp-implicitDefEqProofs[hf,hu]
 refine key.freezeR (λt v h ⟨V,e,_⟩=>by cases e) ?_
 rintro v h ⟨V,e,hV⟩
 cases e
 refine .tup (.agg ?_ (.one (.p _) .nil)) .nil
 rcases hV with rfl|⟨rfl,hu⟩
 ·exact .one (.p _) .nil
 ·rw[hu];exact .one (View.nils 3) .nil
theorem By(l:List Fd)(hz:aW l<=1073741824):VF Tryz.prog G dt [.agg [.p (fdL l)]] (.tup [.agg [.p (cdL (lS l))],.p (.bool (dC l))]):=by
 have hfl:fdL l= .lst 3 (l.map Fd.cs):=rfl
 have key:AC Tryz.prog G dt [.agg [.p (fdL l)]] [] λx h=>∃V,x= .ret (.tup [.agg [V],.p (.bool (dC l))])/\(V= .p (cdL (lS l))\/(V= .nils/\lS l=[])):=by
  refine AC.go rv ?_
  simp-implicitDefEqProofs[ko]
  refine(Nm G l hz).use ?_
  by_cases h0:bT l=0
  case neg=>
   have hf:dC l=false:=by simp[dC,h0]
   have hu:lS l=[]:=by rw[lS,hf];rfl
   simp-implicitDefEqProofs[h0,hf,hu]
  have hp:=DC h0
  have hs:=kH hp
  have hM:=Mx G l (by omega) (vP hp)
  rw[Rt h0] at hM
  have hU:=vZ G (unL l) (zV h0)
  simp-implicitDefEqProofs[h0]
  refine hM.use ?_
  simp-implicitDefEqProofs[]
  refine hU.use ?_
  cases hb:unB (unL l) with
  |false=>
   have hf:dC l=false:=by simp[dC,h0,hb]
   have hu:lS l=[]:=by rw[lS,hf];rfl
   simp-implicitDefEqProofs[hf,hu]
  |true=>
   have hf:dC l=true:=by simp[dC,h0,hb]
   have hu:lS l=unL l:=by rw[lS,hf,if_pos rfl]
   simp-implicitDefEqProofs[hf,hu]
 refine key.freezeR (λt v h ⟨V,e,_⟩=>by cases e) ?_
 rintro v h ⟨V,e,hV⟩
 cases e
 refine .tup (.agg ?_ (.one (.p _) .nil)) .nil
 rcases hV with rfl|⟨rfl,hu⟩
 ·exact .one (.p _) .nil
 ·rw[hu];exact .one (View.nils 3) .nil
def uT(l:List Fd):Int:=if dC l=true then(unN (unL l):Int) else-1
theorem rq{l:List Fd}(h:dC l=true):bT l=0/\unB (unL l)=true:=by
 simpa[dC] using h
theorem vX(hK:G jl=some gY)(hS:G dU=some [.tbl opK opV])(l:List Fd)(hz:aW l<=1073741824):VF Tryz.prog G fk [.agg [.p (fdL l)]] (.p (.int .i64 (uT l))):=by
 refine AC.go vp ?_
 simp-implicitDefEqProofs[mZ]
 refine(BP G hK hS l hz).use ?_
 cases hb:dC l with
 |false=>simp-implicitDefEqProofs[uT,hb]
 |true=>
  obtain⟨h0,hu⟩:=rq hb
  have hI:=Im G (unL l) (zV h0)
  have hlu:lS l=unL l:=by rw[lS,hb,if_pos rfl]
  simp-implicitDefEqProofs[hlu]
  refine hI.use ?_
  simp-implicitDefEqProofs[uT,hb,icU,hu]
theorem vD(l:List Fd)(hz:aW l<=1073741824):VF Tryz.prog G fp [.agg [.p (fdL l)]] (.p (.int .i64 (uT l))):=by
 refine AC.go uR ?_
 simp-implicitDefEqProofs[nH]
 refine(By G l hz).use ?_
 cases hb:dC l with
 |false=>simp-implicitDefEqProofs[uT,hb]
 |true=>
  obtain⟨h0,hu⟩:=rq hb
  have hI:=Ho G (unL l) (zV h0)
  have hlu:lS l=unL l:=by rw[lS,hb,if_pos rfl]
  simp-implicitDefEqProofs[hlu]
  refine hI.use ?_
  simp-implicitDefEqProofs[uT,hb,icU,hu]
end
section
mutual
theorem Eg(sc:List UInt8->Int){fa fa':List UInt8->Int}:∀(e:Ex) (w:Lw),(∀p∈e.pre,p.op=13->fa p.name=fa' p.name)->lwE fa sc e w=lwE fa' sc e w
 | .mk o n s ks,w,h=>by
   rw[Ex.pre] at h
   have h0:=h (.mk o n s ks) (by simp)
   have hk:∀p∈cI ks,p.op=13->fa p.name=fa' p.name:=λp hp=>h p (by simp[hp])
   rw[lwE,lwE]
   split
   ·rfl
   split
   ·rfl
   split
   ·exact Rm sc ks w hk
   ·rw[Es sc ks w hk]
    by_cases h13:o=13
    ·have:=h0 h13
     simp only[Ex.name] at this
     rw[this]
    ·simp only[if_neg h13]
theorem Rm(sc:List UInt8->Int){fa fa':List UInt8->Int}:∀(l:List Ex) (w:Lw),(∀p∈cI l,p.op=13->fa p.name=fa' p.name)->lwA fa sc l w=lwA fa' sc l w
 |[],w,_=>by rw[lwA,lwA]<;>intro a b h<;>cases h
 |[a],w,_=>by rw[lwA,lwA]<;>intro a b h<;>cases h
 |a::b::c::r,w,_=>by rw[lwA,lwA]<;>intro a b h<;>cases h
 |[a,b],w,h=>by
  have ha:=Eg sc a w (λp hp=>h p (by simp[cI,hp]))
  rw[lwA,lwA,ha]
  rw[Eg sc b _ (λp hp=>h p (by simp[cI,hp]))]
theorem Es(sc:List UInt8->Int){fa fa':List UInt8->Int}:∀(l:List Ex) (w:Lw),(∀p∈cI l,p.op=13->fa p.name=fa' p.name)->bg fa sc l w=bg fa' sc l w
 |[],w,_=>by rw[bg,bg]
 |e::r,w,h=>by
  rw[bg,bg,Eg sc e w (λp hp=>h p (by simp[cI,hp])),Es sc r _ (λp hp=>h p (by simp[cI,hp]))]
end
theorem NO{fns:List Fd}{k:Nat}{ch:List Scp}{e:Ex}(h:eu fns k ch 0 e=0)(h13:e.op=13):∃j,bU (fns.take k) e.name=some j:=by
 rw[eu,if_neg (by omega),if_pos h13] at h
 cases hf:bU (fns.take k) e.name with
 |some j=>exact⟨j,rfl⟩
 |none=>rw[hf] at h;simp[fl] at h
section
variable {fa fa':List UInt8->Int} {fns:List Fd} {k:Nat} (hfa:∀s j,bU (fns.take k) s=some j->fa s=fa' s)
include hfa
theorem PX{ch:List Scp}{l:List Ex}(h:te fns k ch l 0=0):∀p∈cI l,p.op=13->fa p.name=fa' p.name:=λp hp h13=>by
 obtain⟨j,hj⟩:=NO ((BL h).2 p hp) h13
 exact hfa _ _ hj
mutual
theorem RT(d:Int):∀(s:Sm) (m m0:Scp) (up up0:List Scp) (nx:Nat) (w:Lw),(icS fns k s m0 up0 0).2=0->lwS fa d s m up nx w=lwS fa' d s m up nx w
 | .mk o n a bd el,m,m0,up,up0,nx,w,h=>by
   rw[icS] at h
   simp only at h
   obtain⟨c2,hc2⟩:∃c2,c2=opC o n m0 up0 (te fns k (m0::up0) a 0):=⟨_,rfl⟩
   rw[←hc2] at h
   have hbe:c2=0/\(o=5\/o=6->(dO fns k bd [] (opS o n m0 0::up0) 0).2=0/\(dO fns k el [] (opS o n m0 0::up0) 0).2=0):=by
    by_cases h56:o=5\/o=6
    ·rw[if_pos h56] at h
     have h1:=gO h
     rw[h1] at h
     have h2:=gO h1
     rw[h2] at h1
     exact⟨h2,λ_=>⟨h1,h⟩⟩
    ·rw[if_neg h56] at h
     exact⟨h,λh'=>(h56 h').elim⟩
   obtain⟨e2,hblk⟩:=hbe
   rw[e2] at hc2
   have hce:te fns k (m0::up0) a 0=0:=by
    by_cases hc:te fns k (m0::up0) a 0=0
    ·exact hc
    ·rw[BQ hc] at hc2;exact hc2.symm
   have hsc:=PX hfa hce
   rw[lwS,lwS]
   by_cases o6:o=6
   ·obtain⟨hb,_⟩:=hblk (.inr o6)
    simp only[if_pos o6]
    have hh:∀p∈(a.headD (.mk 0 0 [] [])).pre,p.op=13->fa p.name=fa' p.name:=by
     cases a with
     |nil=>
      intro p hp h2
      simp[Ex.pre,cI] at hp
      rw[hp] at h2
      simp[Ex.op] at h2
     |cons x r=>exact λp hp=>hsc p (by simp[cI];exact .inl hp)
    rw[Eg _ _ _ hh,tW d bd [] [] (m::up) _ nx _ hb]
   ·simp only[if_neg o6]
    rw[Es _ a w hsc]
    by_cases o5:o=5
    ·obtain⟨hb,he⟩:=hblk (.inl o5)
     simp only[if_pos o5]
     rw[tW d bd [] [] (m::up) _ nx _ hb,tW d el [] [] (m::up) _ _ _ he]
    ·simp only[if_neg o5]
theorem tW(d:Int):∀(l:List Sm) (m m0:Scp) (up up0:List Scp) (nx:Nat) (w:Lw),(dO fns k l m0 up0 0).2=0->aS fa d l m up nx w=aS fa' d l m up nx w
 |[],m,m0,up,up0,nx,w,_=>by
  have _:=hfa
  rw[aS,aS]
 |s::r,m,m0,up,up0,nx,w,h=>by
  rw[dO] at h
  have h1:=gO h
  have e1:=RT d s m m0 up up0 nx w h1
  rw[h1] at h
  rw[aS,aS,e1]
  exact tW d r _ _ up up0 _ _ h
end
end
theorem EG{fns:List Fd}:∀{l:List Fd} {k:Nat} {c:Int},gU fns k l c=0->∀(i:Nat) (f:Fd),l[i]?=some f->∃c',icF fns (k+i) f c'=0
 |[],k,c,h,i,f,hf=>by cases hf
 |g::r,k,c,h,i,f,hf=>by
  rw[gU] at h
  cases i with
  |zero=>
   cases hf
   refine⟨c,?_⟩
   by_cases hc:icF fns k g c=0
   ·exact hc
   ·rw[oq fns hc] at h;exact h
  |succ i=>
   obtain⟨c',hc'⟩:=EG h i f (by simpa using hf)
   exact⟨c',by rwa[show k+1+i=k+(i+1) by omega] at hc'⟩
theorem Nr{l:List Fd}(h:bT l=0){n k:Nat}(hkn:k<n){f:Fd}(hf:l[k]?=some f):lwF (l.take n) 0 f=lwF l 0 f:=by
 rw[sY] at h
 split at h
 case isFalse=>cases h
 obtain⟨c',hc⟩:=EG h k f hf
 rw[WT,icF] at hc
 have h0:=gO hc
 rw[h0] at hc
 have hfa:∀s j,bU (l.take k) s=some j->faI (l.take n) s=faI l s:=λs j hs=>by
  rw[zW] at hs
  cases hl:bU l s with
  |none=>rw[hl] at hs;cases hs
  |some i=>
   rw[hl] at hs
   simp only at hs
   by_cases hik:i<k
   ·have h2:=zW l n s
    rw[hl] at h2
    simp only[if_pos (show i<n by omega)] at h2
    rw[faI,faI,h2,hl]
   ·rw[if_neg hik] at hs;cases hs
 rw[lwF,lwF,tW hfa 0 f.body _ _ [] [] f.params.length _ hc]
theorem MD{l:List Fd}(h:bT l=0)(n:Nat):unL (l.take n)=(unL l).take n:=by
 refine List.ext_getElem? λi=>?_
 rw[unL,Wt]
 rcases WM i n with hi|hi
 ·rw[Xh hi,Xh hi,unL,Wt]
  cases hf:l[i]? with
  |none=>rw[Option.map_none,Option.map_none]
  |some f=>rw[Option.map_some,Option.map_some,Nr h hi hf]
 ·rw[WO (by rw[Wv];omega),WO (by rw[Wv];omega),Option.map_none]
theorem Ke{u:List Cd}{n k:Nat}(hk:k<=n)(g:Int)(x:Ii):fS (u.take n) k g x=fS u k g x:=by
 have:((inR x.n 0 ((k:Int)-1)&&decide ((x.args.length:Int)=zs (u.take n) x.n)):Bool)=(inR x.n 0 ((k:Int)-1)&&decide ((x.args.length:Int)=zs u x.n)):=by
  cases hr:inR x.n 0 ((k:Int)-1) with
  |false=>rfl
  |true=>
   simp only[inR,Wl,decide_eq_true_eq] at hr
   rw[zs,zs,Xh (by omega)]
 rw[fS,fS,this]
theorem Lk{u:List Cd}{n k:Nat}(hk:k<=n)(c:Cd):cdB (u.take n) k c=cdB u k c:=by
 have hb:∀(b:Nat) (x:Bk),bkB (u.take n) k c b x=bkB u k c b x:=λb x=>by
  have:fS (u.take n) k c.regs=fS u k c.regs:=funext λy=>Ke hk c.regs y
  rw[bkB,bkB,this]
 have:bkB (u.take n) k c=bkB u k c:=funext λb=>funext λx=>hb b x
 rw[cdB,cdB,this]
theorem Ld{u:List Cd}(h:unB u=true){n:Nat}(hn:1<=n):unB (u.take n)=true:=by
 have h2:=Ez h
 simp only[unB,Wl,decide_eq_true_eq] at h⊢
 obtain⟨⟨h1,h3⟩,h4⟩:=h
 refine⟨⟨?_,allI_iff.2 λi c hc=>?_⟩,WQ (gP cdN u n) h4⟩
 ·simp only[inR,Wl,decide_eq_true_eq,Wv] at h1⊢
  omega
 ·have hi:i<n:=by
   have:=(VZ.1 hc).1
   rw[Wv] at this
   omega
  rw[Xh hi] at hc
  rw[Lk (by omega)]
  exact allI_iff.1 h3 i c hc
theorem Hn{l:List Fd}(h:dC l=true){n:Nat}(hn:1<=n):dC (l.take n)=true:=by
 obtain⟨h0,hu⟩:=rq h
 rw[dC,LC h0 hn,MD h0,Ld hu hn];rfl
theorem Pk(l:List Fd)(q:Int)(f:Fd)(hz:f.sz<=16777216):1<=cdN (lwF l q f):=by
 have hfz:f.sz=1+f.name.length+(f.params.length+(f.params.map List.length).sum)+aD f.body:=rfl
 have hlet:=WQ (fW f.body) (gq f.body)
 have hok:(⟨f.params.length+aU f.body,[bk0],0⟩:Lw).Ok (f.sz+1):=⟨by show f.params.length+aU f.body<=_;omega,by show 1<=_;omega,λb hb=>by rw[Wh.1 hb];show 0<=_;omega,by show 0<1;omega⟩
 obtain⟨h1,h2,_,_⟩:=dh (faI l) q f.body (psS f.params [] 0) [] f.params.length _ _ hok
 rw[lwF]
 generalize aS (faI l) q f.body (psS f.params [] 0) [] f.params.length _=y at*
 obtain⟨b,hb,_⟩:=h1.cur
 have e1:(y.2.2.mk' 1 0 []).bs=y.2.2.bs.set y.2.2.pos (b.put ⟨1,y.2.2.regs,[],0⟩):=kK hb
 have hp:=h1.pos
 have e2:(y.2.2.mk' 1 0 []).bs[y.2.2.pos]?=some (b.put ⟨1,y.2.2.regs,[],0⟩):=by rw[e1];exact Wi hp
 have e3:((y.2.2.mk' 1 0 []).fin 3 y.2.2.regs 0 []).bs=(y.2.2.mk' 1 0 []).bs.set y.2.2.pos ((b.put ⟨1,y.2.2.regs,[],0⟩).fin 3 y.2.2.regs []):=kK e2
 have hm:((b.put ⟨1,y.2.2.regs,[],0⟩).fin 3 y.2.2.regs [])∈((y.2.2.mk' 1 0 []).fin 3 y.2.2.regs 0 []).bs:=by
  rw[e3];exact List.mem_set (by rw[e1];simpa using hp) _
 have h3:bkN ((b.put ⟨1,y.2.2.regs,[],0⟩).fin 3 y.2.2.regs [])<=cdN ⟨f.params.length,(y.2.2.mk' 1 0 []).regs,((y.2.2.mk' 1 0 []).fin 3 y.2.2.regs 0 []).bs⟩:=by
  obtain⟨i,hi⟩:=WF hm
  have h4:=lK bkN hi
  have h5:=gP bkN ((y.2.2.mk' 1 0 []).fin 3 y.2.2.regs 0 []).bs (i+1)
  simp only[cdN]
  omega
 have h6:1<=bkN ((b.put ⟨1,y.2.2.regs,[],0⟩).fin 3 y.2.2.regs []):=by
  have e:((b.put ⟨1,y.2.2.regs,[],0⟩).fin 3 y.2.2.regs []).ins=b.ins++[⟨1,y.2.2.regs,[],0⟩]:=rfl
  rw[bkN,e,Wq,List.length_singleton]
  omega
 exact WQ h6 h3
theorem ON{l:List Fd}(hz:∀f∈l,f.sz<=16777216)(l0:List Fd):l.length<=unN (l.map (lwF l0 0)):=by
 induction l with
 |nil=>simp
 |cons f r ih=>
  have h1:=Pk l0 0 f (hz f (by simp))
  have h2:=ih λx hx=>hz x (by simp[hx])
  simp only[unN,Wz,List.sum_cons,Wr] at h2⊢
  omega
end
section
def Byt(l:List Int):Prop:=∀n∈l,0<=n/\n<=255
def rdO(b:List Int)(p:Nat):AO:= .row 2 [[.p (vA b),.p (.int .i64 p)]]
theorem KL{a b:Int}(ha:0<=a)(ha2:a<4611686018427387904)(hb:0<=b)(hb2:b<4611686018427387904):∃n:Nat,IntKind.i64.wrap ((BitVec.ofInt IntKind.i64.bits a^^^BitVec.ofInt IntKind.i64.bits b).toNat:Int)=n:=by
 refine⟨(BitVec.ofInt IntKind.i64.bits a^^^BitVec.ofInt IntKind.i64.bits b).toNat,?_⟩
 obtain⟨x,rfl⟩:∃x:Nat,a=x:=⟨a.toNat,by omega⟩
 obtain⟨y,rfl⟩:∃y:Nat,b=y:=⟨b.toNat,by omega⟩
 have h1:(BitVec.ofInt 64 (x:Int)).toNat=x:=by simp;omega
 have h2:(BitVec.ofInt 64 (y:Int)).toNat=y:=by simp;omega
 have h3:(BitVec.ofInt 64 (x:Int)^^^BitVec.ofInt 64 (y:Int)).toNat<2^63:=by
  rw[BitVec.toNat_xor,h1,h2]
  exact Nat.xor_lt_two_pow (by omega) (by omega)
 have h4:(BitVec.ofInt IntKind.i64.bits (x:Int)^^^BitVec.ofInt IntKind.i64.bits (y:Int)).toNat<2^63:=h3
 exact ab (by omega) (by omega)
theorem Jg{a:Nat}{n:Int}(hn:1<=n):∃k:Nat,((a:Int).tmod n)=k/\(k:Int)<n:=by
 obtain⟨m,rfl⟩:∃m:Nat,n=m:=⟨n.toNat,by omega⟩
 refine⟨a%m,?_,?_⟩
 ·rfl
 ·have:a%m<m:=Nat.mod_lt _ (by omega)
  omega
variable (G:aK)
theorem Ro(l:List Int):AC Tryz.prog G lz [.p (vA l)] [] λx h=>x= .ret (.ptr 0 2 0 0)/\h=[rdO (l.take 2000) 0]:=by
 refine AC.go AM ?_
 have hbl:vA l= .lst 1 (l.map λn=>[.int .u8 n]):=rfl
 simp-implicitDefEqProofs[pI,hbl]
 refine aO (λh=>?_) (λh=>?_)
 ·simp at h
  have:2000<=l.length:=by omega
  simp-implicitDefEqProofs[this,rdO,vA,List.map_take]
 ·simp at h
  have:l.take 2000=l:=Wg (by omega)
  simp-implicitDefEqProofs[rdO,this,vA]
theorem Rh(b:List Int)(hb:Byt b)(hl:b.length<=2000)(p:Nat)(hp:p<=1099511627776)(n:Int):AC Tryz.prog G bi [.ptr 0 2 0 0,.p (.int .i64 n)] [rdO b p] λx h=>∃k:Nat,x= .ret (.p (.int .i64 k))/\h=[rdO b (p+1)]/\((k:Int)<n\/k=0):=by
 refine AC.go uu ?_
 have hbl:vA b= .lst 1 (b.map λn=>[.int .u8 n]):=rfl
 have hw:IntKind.i64.wrap ((p:Int)+1)=((p+1:Nat):Int):=w1 (by omega)
 by_cases hn:n<1
 ·simp-implicitDefEqProofs[eC,rdO,hbl,hw,hn]
  exact⟨0,rfl,.inr rfl⟩
 by_cases hbn:b=[]
 ·subst hbn
  have hb0:vA []= .lst 1 []:=rfl
  simp-implicitDefEqProofs[eC,rdO,hb0,hw,hn]
  exact⟨0,rfl,.inr rfl⟩
 have hpos:0<b.length:=Xd.2 hbn
 have hlb:¬b.length=0:=by omega
 have hn0:¬n=0:=by omega
 have hw2:IntKind.i64.wrap (p:Int)=(p:Int):=ab (by omega) (by omega)
 have at_:∀q:Nat,∃c:Int,b[q%b.length]?=some c/\0<=c/\c<=255:=λq=>by
  have h:=Nat.mod_lt q hpos
  exact⟨_,Wa h,hb _ (Wo h)⟩
 simp-implicitDefEqProofs[eC,rdO,hbl,hw,hn,hbn,hw2]
 refine aO (λh1=>?_) (λh1=>?_)
 ·simp at h1
  obtain⟨c,e1,e2,e3⟩:=at_ p
  rw[Nat.mod_eq_of_lt h1] at e1
  obtain⟨d,rfl⟩:∃d:Nat,c=d:=⟨c.toNat,by omega⟩
  obtain⟨k,q1,q2⟩:=Jg (a:=d) (n:=n) (by omega)
  have hw3:IntKind.i64.wrap (d:Int)=d:=ab (by omega) (by omega)
  simp-implicitDefEqProofs[e1,hw3,hn0,q1]
  exact⟨k,rfl,.inl q2⟩
 ·simp at h1
  obtain⟨c1,e1,e2,e3⟩:=at_ p
  obtain⟨c2,f1,f2,f3⟩:=at_ (p*7+3)
  have hq:p/b.length<=p:=Nat.div_le_self _ _
  have ht1:(p:Int).tmod (b.length:Int)=((p%b.length:Nat):Int):=rfl
  have ht2:((p:Int)*7+3).tmod (b.length:Int)=(((p*7+3)%b.length:Nat):Int):=rfl
  have ht3:(p:Int).tdiv (b.length:Int)=((p/b.length:Nat):Int):=rfl
  generalize p/b.length=q at hq ht3
  generalize p%b.length=r1 at e1 ht1
  generalize (p*7+3)%b.length=r2 at f1 ht2
  obtain⟨x1,rfl⟩:∃d:Nat,c1=d:=⟨c1.toNat,by omega⟩
  obtain⟨x2,rfl⟩:∃d:Nat,c2=d:=⟨c2.toNat,by omega⟩
  obtain⟨m,hx⟩:=KL (a:=x1*131+x2*1117+p*29+q*53) (b:=(x1*131+x2*1117+p*29+q*53)/64) (by omega) (by omega) (by omega) (by omega)
  obtain⟨k,q1,q2⟩:=Jg (a:=m) (n:=n) (by omega)
  have ht4:((x1:Int)*131+x2*1117+p*29+q*53).tdiv 64=((x1:Int)*131+x2*1117+p*29+q*53)/64:=Int.tdiv_eq_ediv_of_nonneg (by omega)
  have w1:IntKind.i64.wrap ((p:Int)*7)=(p:Int)*7:=ab (by omega) (by omega)
  have w2:IntKind.i64.wrap ((p:Int)*7+3)=(p:Int)*7+3:=ab (by omega) (by omega)
  have w3:IntKind.i64.wrap ((p:Int)*29)=(p:Int)*29:=ab (by omega) (by omega)
  have w4:IntKind.i64.wrap (x1:Int)=x1:=ab (by omega) (by omega)
  have w5:IntKind.i64.wrap (x2:Int)=x2:=ab (by omega) (by omega)
  have w6:IntKind.i64.wrap ((x1:Int)*131)=(x1:Int)*131:=ab (by omega) (by omega)
  have w7:IntKind.i64.wrap ((x2:Int)*1117)=(x2:Int)*1117:=ab (by omega) (by omega)
  have w8:IntKind.i64.wrap ((x1:Int)*131+x2*1117)=(x1:Int)*131+x2*1117:=ab (by omega) (by omega)
  have w9:IntKind.i64.wrap ((x1:Int)*131+x2*1117+p*29)=(x1:Int)*131+x2*1117+p*29:=ab (by omega) (by omega)
  have w10:IntKind.i64.wrap (q:Int)=q:=ab (by omega) (by omega)
  have w11:IntKind.i64.wrap ((q:Int)*53)=(q:Int)*53:=ab (by omega) (by omega)
  have w12:IntKind.i64.wrap ((x1:Int)*131+x2*1117+p*29+q*53)=(x1:Int)*131+x2*1117+p*29+q*53:=ab (by omega) (by omega)
  have w13:IntKind.i64.wrap (((x1:Int)*131+x2*1117+p*29+q*53)/64)=((x1:Int)*131+x2*1117+p*29+q*53)/64:=ab (by omega) (by omega)
  simp-implicitDefEqProofs[hlb,ht1,ht2,ht3,e1,f1,w1,w2,w3,w4,w5,w6,w7,w8,w9,w10,w11,w12,w13,ht4,hx,hn0,q1]
  simp-implicitDefEqProofs[] at hx
  rw[hx]
  exact⟨k,q1,.inl q2⟩
theorem bt(b:List Int)(p n:Nat):okO n (rdO b p):=by simp[okO,rdO]
theorem bc(b:List Int)(hb:Byt b)(hl:b.length<=2000)(p:Nat)(hp:p<=1099511627776)(n:Int)(rest:List AO):AC Tryz.prog G bi [.ptr 0 2 0 0,.p (.int .i64 n)] (rdO b p::rest) λx h=>∃k:Nat,x= .ret (.p (.int .i64 k))/\h=rdO b (p+1)::rest/\((k:Int)<n\/k=0):=by
 refine((Rh G b hb hl p hp n).pre rest (by simp[below]) (λo ho=>by rw[Wh.1 ho];exact bt _ _ _) ?_).mono ?_
 ·rintro x h ⟨k,_,rfl,_⟩;rfl
 ·rintro x h ⟨h1,⟨k,e1,rfl,e3⟩,rfl⟩
  exact⟨k,e1,rfl,e3⟩
theorem Qz{f:FuncId}{args:List AV}{b:List Int}{p:Nat}{o:AO}{R:AV->Nat->Prop}(H:AC Tryz.prog G f (.ptr 0 2 0 0::args) [rdO b p,o] λx h=>∃v q,x= .ret (.p v)/\h=[rdO b q,o]/\R (.p v) q)(ho:okO 0 o)
 {h:List AO}{k:Nat}{args':List AV}(hk:k≠0)(h0:h[0]?=some (rdO b p))(h1:h[k]?=some o)(hT:TW [0,k] args' args):AC Tryz.prog G f (.ptr 0 2 0 0::args') h λx h'=>∃v q,x= .ret (.p v)/\h'=h.set 0 (rdO b q)/\R (.p v) q:=by
 have nd:[0,k].Nodup:=by simp;omega
 refine(H.frame (args:= .ptr 0 2 0 0::args') [0,k] nd (by rw[zN];exact⟨.inr ⟨by simp[below],rfl⟩,hT⟩) (dA h0 (bt _ _ _) (dA h1 ho da))).mono ?_
 rintro x h' ⟨x0,h2,⟨v,q,rfl,rfl,r⟩,_,rfl,rfl⟩
 refine⟨v,q,by simp[Cf,ren],?_,r⟩
 have e1:∀σ,ij σ (rdO b q)=rdO b q:=λσ=>us (n:=0) (λi hi=>by omega) _ (bt _ _ _)
 have e2:∀σ,ij σ o=o:=λσ=>us (n:=0) (λi hi=>by omega) _ ho
 simp only[List.take,Wr,WP,Wz,WY,e1,e2,mrg,List.drop,Wu]
 refine List.ext_getElem? λi=>?_
 rw[List.getElem?_set]
 split
 ·rename_i e;subst e
  rw[Wc (Ne.symm hk)]
  split
  ·exact h1.symm
  ·rename_i hl
   have:=(VZ.1 h1).1
   simp at hl;omega
 ·rfl
theorem Rx(b:List Int)(hb:Byt b)(hl:b.length<=2000)(p:Nat)(hp:p<=1099511627776)(l:List Int)(hne:l≠[])(hll:l.length<=1099511627776):AC Tryz.prog G cG [.ptr 0 2 0 0,.sl 1 1 0 l.length] [rdO b p,Fa l] λx h=>∃v q,x= .ret (.p v)/\h=[rdO b q,Fa l]/\(∃n,v= .int .i64 n/\n∈l)/\q=p+1:=by
 refine AC.go nq ?_
 have hpos:0<l.length:=Xd.2 hne
 simp-implicitDefEqProofs[jh]
 refine(bc G b hb hl p hp l.length [Fa l]).mono ?_
 rintro r h ⟨k,rfl,rfl,hk⟩
 have hkl:k<l.length:=by omega
 have hg:=Wa hkl
 have hn:Fa l= .row 1 (l.map λn=>[.p (.int .i64 n)]):=rfl
 simp-implicitDefEqProofs[aa,hkl,hn,hg]
theorem mf{b:List Int}(hb:Byt b)(hl:b.length<=2000){p:Nat}(hp:p<=1099511627776)(l:List Int){h:List AO}{k:Nat}(hne:l≠[])(hll:l.length<=1099511627776)(hk:k≠0)(h0:h[0]?=some (rdO b p))(h1:h[k]?=some (Fa l)):
 AC Tryz.prog G cG [.ptr 0 2 0 0,.sl k 1 0 l.length] h λx h'=>∃n,n∈l/\x= .ret (.p (.int .i64 n))/\h'=h.set 0 (rdO b (p+1)):=by
 refine(Qz G (args:=[.sl 1 1 0 l.length]) (R:=λv q=>(∃n,v= .p (.int .i64 n)/\n∈l)/\q=p+1) ((Rx G b hb hl p hp l hne hll).mono ?_) (by simp[okO,Fa]) (args':=[.sl k 1 0 l.length]) hk h0 h1 (by simp[below,ren])).mono ?_
 ·rintro x h ⟨v,q,e1,e2,⟨n,rfl,e3⟩,e4⟩
  exact⟨_,q,e1,e2,⟨n,rfl,e3⟩,e4⟩
 ·rintro x h' ⟨v,q,e1,e2,⟨n,e3,e4⟩,e5⟩
  cases e3;subst e5
  exact⟨n,e4,e1,e2⟩
theorem TH(b:List Int)(hb:Byt b)(hl:b.length<=2000)(p:Nat)(hp:p<=1099511627776)(l:List (List UInt8))(hne:l≠[])(hll:l.length<=1099511627776):AC Tryz.prog G dd [.ptr 0 2 0 0,.sl 1 1 0 l.length] [rdO b p,fX l] λx h=>∃v q,x= .ret (.p v)/\h=[rdO b q,fX l]/\(∃s,v= .str s/\s∈l)/\q=p+1:=by
 refine AC.go oI ?_
 have hpos:0<l.length:=Xd.2 hne
 simp-implicitDefEqProofs[ke]
 refine(bc G b hb hl p hp l.length [fX l]).mono ?_
 rintro r h ⟨k,rfl,rfl,hk⟩
 have hkl:k<l.length:=by omega
 have hg:=Wa hkl
 have hn:fX l= .row 1 (l.map λn=>[.p (.str n)]):=rfl
 simp-implicitDefEqProofs[aa,hkl,hn,hg]
theorem Ge{b:List Int}(hb:Byt b)(hl:b.length<=2000){p:Nat}(hp:p<=1099511627776)(l:List (List UInt8)){h:List AO}{k:Nat}(hne:l≠[])(hll:l.length<=1099511627776)(hk:k≠0)(h0:h[0]?=some (rdO b p))(h1:h[k]?=some (fX l)):
 AC Tryz.prog G dd [.ptr 0 2 0 0,.sl k 1 0 l.length] h λx h'=>∃s,s∈l/\x= .ret (.p (.str s))/\h'=h.set 0 (rdO b (p+1)):=by
 refine(Qz G (args:=[.sl 1 1 0 l.length]) (R:=λv q=>(∃n,v= .p (.str n)/\n∈l)/\q=p+1) ((TH G b hb hl p hp l hne hll).mono ?_) (by simp[okO,fX]) (args':=[.sl k 1 0 l.length]) hk h0 h1 (by simp[below,ren])).mono ?_
 ·rintro x h ⟨v,q,e1,e2,⟨n,rfl,e3⟩,e4⟩
  exact⟨_,q,e1,e2,⟨n,rfl,e3⟩,e4⟩
 ·rintro x h' ⟨v,q,e1,e2,⟨n,e3,e4⟩,e5⟩
  cases e3;subst e5
  exact⟨n,e4,e1,e2⟩
theorem Je{b:List Int}(hb:Byt b)(hl:b.length<=2000){p:Nat}(hp:p<=1099511627776)(l:List (List UInt8))(hne:l≠[])(hll:l.length<=1099511627776)(rest:List AO):AC Tryz.prog G dd [.ptr 0 2 0 0,.p (aL l)] (rdO b p::rest) λx h=>∃s,s∈l/\x= .ret (.p (.str s))/\h=rdO b (p+1)::rest:=by
 have key:AC Tryz.prog G dd [.ptr 0 2 0 0,.p (aL l)] [rdO b p] λx h=>∃s,s∈l/\x= .ret (.p (.str s))/\h=[rdO b (p+1)]:=by
  refine AC.go oI ?_
  have hpos:0<l.length:=Xd.2 hne
  have hsl:aL l= .lst 1 (l.map λw=>[.str w]):=rfl
  simp-implicitDefEqProofs[ke,hsl]
  refine(bc G b hb hl p hp l.length []).mono ?_
  rintro r h ⟨k,rfl,rfl,hk⟩
  have hkl:k<l.length:=by omega
  have hg:=Wa hkl
  simp-implicitDefEqProofs[aa,hg]
 refine(key.pre rest (by simp[below]) (λo ho=>by rw[Wh.1 ho];exact bt _ _ _) ?_).mono ?_
 ·rintro x h ⟨k,_,_,rfl⟩;rfl
 ·rintro x h ⟨h1,⟨s,e1,e2,rfl⟩,rfl⟩
  exact⟨s,e1,e2,rfl⟩
def DP(b:List Int)(Q:AV->Nat->Prop)(x:ARes)(h:List AO):Prop:=∃v rest q v1,x= .ret v/\h=rdO b q::rest/\Fzs (.dead::rest) 1 [v] [v1]/\Q v1 q
theorem nQ{f:FuncId}{args:List AV}{b:List Int}{p:Nat}{Q:AV->Nat->Prop}(H:AC Tryz.prog G f args [rdO b p] (DP b Q)):AC Tryz.prog G f args [rdO b p] λx h=>∃v q,x= .ret v/\h=[rdO b q]/\Q v q:=by
 refine H.frz 1 (Wn _) (λt v h ⟨_,_,_,_,e,_⟩=>by cases e) ?_
 rintro v h ⟨v0,rest,q,v1,e,rfl,hf,r⟩
 cases e
 exact⟨v1,[rdO b q],by simp,rfl,hf,.same (bt _ _ _) (.nil _),v1,q,rfl,rfl,r⟩
theorem ka{f:FuncId}{args:List AV}{b:List Int}{p:Nat}{Q:AV->Nat->Prop}(H:AC Tryz.prog G f args [rdO b p] λx h=>∃v q,x= .ret v/\h=[rdO b q]/\Q v q)(rest:List AO)(ha:ay 1 args):AC Tryz.prog G f args (rdO b p::rest) λx h=>∃v q,x= .ret v/\h=rdO b q::rest/\Q v q:=by
 refine(H.pre rest ha (λo ho=>by rw[Wh.1 ho];exact bt _ _ _) ?_).mono ?_
 ·rintro x h ⟨k,_,_,rfl,_⟩;rfl
 ·rintro x h ⟨h1,⟨s,q,e1,rfl,e2⟩,rfl⟩
  exact⟨s,q,e1,rfl,e2⟩
end
section
def uB(l:List (List UInt8)):Prop:=l.length<=1000000/\∀s∈l,s.length<=8
theorem dW{h:List AO}{id:Nat}{l:List Ex}(e:h[id]?=some (.row 4 (l.map λx=>x.cs.map .p))):View h (.sl id 4 0 l.length) (exL l):=by
 have:=iA (h:=h) (id:=id) (sz:=4) (n:=l.length) (ls:=l.map Ex.cs) (by rw[e];simp) (by simp) (λx hx=>by obtain⟨b,_,rfl⟩:=WC.1 hx;exact b.cs_len)
 exact this
variable (G:aK)
def ExQ(p n m:Nat)(v:AV)(q:Nat):Prop:=(∃e:Ex,v= .agg (e.cs.map .p)/\e.sz<=n)/\p<=q/\q<=p+m
theorem AH{b:List Int}(hb:Byt b)(hl:b.length<=2000){p:Nat}(hp:p<=1000000000000)(names:List (List UInt8))(hn:uB names):AC Tryz.prog G dq [.ptr 0 2 0 0,.p (aL names)] [rdO b p] λx h=>∃v q,x= .ret v/\h=[rdO b q]/\ExQ p 9 2 v q:=by
 refine nQ G (AC.go rV ?_)
 have hsl:aL names= .lst 1 (names.map λw=>[.str w]):=rfl
 have fin1:∀(o n:Int) (s:List UInt8) (q:Nat) (rest:List AO),p<=q->q<=p+2->s.length<=8->DP b (ExQ p 9 2) (.ret (.agg [.p (.int .i64 o),.p (.int .i64 n),.p (.str s),.nils])) (rdO b q::rest):=λo n s q rest h1 h2 hs=>
  ⟨_,rest,q,.agg ((Ex.mk o n s []).cs.map .p),rfl,rfl,.agg (.keep (by simp) (.keep (by simp) (.keep (by simp) (.one (View.nils 4) .nil)))) .nil,⟨_,rfl,by simp[Ex.sz,aM];omega⟩,h1,h2⟩
 have num:∀(q:Nat) (h:List AO),q<=1000000000001->h[0]?=some (rdO b q)->h[2]?=some (Fa [0,1,2,3,5,7,15,16,100,255])->_:=λq h hq h0 h1=>mf G hb hl (p:=q) (by omega) [0,1,2,3,5,7,15,16,100,255] (h:=h) (k:=2) (by simp) (by simp) (by omega) h0 h1
 by_cases hne:names=[]
 ·subst hne
  have hs0:aL []= .lst 1 []:=rfl
  simp-implicitDefEqProofs[gd,hs0]
  refine(num p _ (by omega) rfl rfl).mono ?_
  rintro r h ⟨n,_,rfl,rfl⟩
  simp-implicitDefEqProofs[aa]
  exact fin1 _ _ _ _ _ (by omega) (by omega) (by simp)
 ·have hlen:¬names.length=0:=λh=>hne (Xg h)
  simp-implicitDefEqProofs[gd,hsl,hne]
  refine(bc G b hb hl p (by omega) 3 _).mono ?_
  rintro r h ⟨k,rfl,rfl,_⟩
  simp-implicitDefEqProofs[aa]
  refine aO (λhc=>?_) (λhc=>?_)
  ·simp-implicitDefEqProofs[]
   refine(num (p+1) _ (by omega) rfl rfl).mono ?_
   rintro r h ⟨n,_,rfl,rfl⟩
   simp-implicitDefEqProofs[aa]
   exact fin1 _ _ _ _ _ (by omega) (by omega) (by simp)
  ·simp-implicitDefEqProofs[]
   rw[←hsl]
   refine(Je G hb hl (by omega) names hne (by have:=hn.1;omega) _).mono ?_
   rintro r h ⟨s,hs,rfl,rfl⟩
   have:=hn.2 s hs
   simp-implicitDefEqProofs[aa]
   exact fin1 _ _ _ _ _ (by omega) (by omega) this
theorem AF{b:List Int}(hb:Byt b)(hl:b.length<=2000)(names:List (List UInt8))(hn:uB names):∀(d:Nat),d<=20->∀{p:Nat},p+6*3^d<=1000000000000->AC Tryz.prog G aX [.ptr 0 2 0 0,.p (aL names),.p (.int .i64 d)] [rdO b p] λx h=>∃v q,x= .ret v/\h=[rdO b q]/\ExQ p (10*3^d) (6*3^d) v q:=by
 intro d
 induction d with
 |zero=>
  intro _ p hp
  refine nQ G (AC.go mX ?_)
  simp-implicitDefEqProofs[ec]
  refine(ka G (AH G hb hl (by omega) names hn) _ (by simp[below])).mono ?_
  rintro r h ⟨v,q,rfl,rfl,⟨e,rfl,he⟩,h1,h2⟩
  have hec:=e.cs_eq
  simp-implicitDefEqProofs[aa,hec]
  exact⟨_,_,q,.agg (e.cs.map .p),rfl,rfl,.agg (by rw[hec];exact iE (by simp)) .nil,⟨e,rfl,by omega⟩,h1,by omega⟩
 |succ d ih=>
  intro hd p hp
  have hpow:3^(d+1)=3*3^d:=by rw[Nat.pow_succ];omega
  have h1p:1<=3^d:=Nat.one_le_pow _ _ (by omega)
  have ih:=λ{p:Nat} (hp:p+6*3^d<=1000000000000)=>ih (by omega) (p:=p) hp
  rw[hpow] at hp⊢
  generalize 3^d=t at*
  have hw:IntKind.i64.wrap (d:Int)=(d:Int):=ab (by omega) (by omega)
  have leaf:∀(q:Nat) (rest:List AO),p<=q->q<=p+3->AC Tryz.prog G dq [.ptr 0 2 0 0,.p (aL names)] (rdO b q::rest) λx h=>∃v q',x= .ret v/\h=rdO b q'::rest/\ExQ q 9 2 v q':=λq rest _ _=>ka G (AH G hb hl (by omega) names hn) rest (by simp[below])
  have sub:∀(q:Nat) (rest:List AO),p<=q->q<=p+6+6*t->AC Tryz.prog G aX [.ptr 0 2 0 0,.p (aL names),.p (.int .i64 d)] (rdO b q::rest) λx h=>∃v q',x= .ret v/\h=rdO b q'::rest/\ExQ q (10*t) (6*t) v q':=λq rest _ _=>ka G (ih (by omega)) rest (by simp[below])
  refine nQ G (AC.go mX ?_)
  have leafCase:∀(e:Ex) (q:Nat) (rest:List AO),e.sz<=9->p<=q->q<=p+5->DP b (ExQ p (10*(3*t)) (6*(3*t))) (.ret (.agg (e.cs.map .p))) (rdO b q::rest):=λe q rest h1 h2 h3=>
   ⟨_,_,q,.agg (e.cs.map .p),rfl,rfl,.agg (by rw[e.cs_eq];exact iE (by simp)) .nil,⟨e,rfl,by omega⟩,h2,by omega⟩
  have bin:∀(o:Int) (e1 e2:Ex) (q:Nat) (rest:List AO) (k:Nat),(rdO b q::rest)[k+1]?=some (.row 4 [e1.cs.map .p,e2.cs.map .p])->e1.sz<=10*t->e2.sz<=10*t->p<=q->q<=p+6*(3*t)->DP b (ExQ p (10*(3*t)) (6*(3*t))) (.ret (.agg [.p (.int .i64 o),.p (.int .i64 0),.p (.str []),.sl (k+1) 4 0 2])) (rdO b q::rest):=λo e1 e2 q rest k hk h1 h2 h3 h4=>
   ⟨_,rest,q,.agg ((Ex.mk o 0 [] [e1,e2]).cs.map .p),rfl,rfl,.agg (.keep (by simp) (.keep (by simp) (.keep (by simp) (.one (dW (l:=[e1,e2]) (by simpa using hk)) .nil)))) .nil,⟨_,rfl,by simp[Ex.sz,aM];omega⟩,h3,h4⟩
  have una:∀(o:Int) (e1:Ex) (q:Nat) (rest:List AO) (k:Nat),(rdO b q::rest)[k+1]?=some (.row 4 [e1.cs.map .p])->e1.sz<=10*t->p<=q->q<=p+6*(3*t)->DP b (ExQ p (10*(3*t)) (6*(3*t))) (.ret (.agg [.p (.int .i64 o),.p (.int .i64 0),.p (.str []),.sl (k+1) 4 0 1])) (rdO b q::rest):=λo e1 q rest k hk h1 h3 h4=>
   ⟨_,rest,q,.agg ((Ex.mk o 0 [] [e1]).cs.map .p),rfl,rfl,.agg (.keep (by simp) (.keep (by simp) (.keep (by simp) (.one (dW (l:=[e1]) (by simpa using hk)) .nil)))) .nil,⟨_,rfl,by simp[Ex.sz,aM];omega⟩,h3,h4⟩
  by_cases hd0:d=0
  ·subst hd0
   simp-implicitDefEqProofs[ec]
   refine(leaf p _ (by omega) (by omega)).mono ?_
   rintro r h ⟨v,q,rfl,rfl,⟨e,rfl,he⟩,h1,h2⟩
   have hec:=e.cs_eq
   simp-implicitDefEqProofs[aa,hec]
   have:=leafCase e q [.row 4 [e.cs.map .p]] he h1 (by omega)
   rw[hec] at this
   exact this
  have hd2:¬(d:Int)+1<2:=by omega
  simp-implicitDefEqProofs[ec,hd2]
  refine(bc G b hb hl p (by omega) 4 _).mono ?_
  rintro r h ⟨k1,rfl,rfl,_⟩
  simp-implicitDefEqProofs[aa]
  refine aO (λhc=>?_) (λhc=>?_)
  ·simp-implicitDefEqProofs[]
   refine(leaf (p+1) _ (by omega) (by omega)).mono ?_
   rintro r h ⟨v,q,rfl,rfl,⟨e,rfl,he⟩,h1,h2⟩
   have hec:=e.cs_eq
   simp-implicitDefEqProofs[aa,hec]
   have:=leafCase e q [.row 4 [e.cs.map .p]] he (by omega) (by omega)
   rw[hec] at this
   exact this
  simp-implicitDefEqProofs[]
  refine(bc G b hb hl (p+1) (by omega) 7 _).mono ?_
  rintro r h ⟨k2,rfl,rfl,_⟩
  simp-implicitDefEqProofs[aa]
  refine aO (λhc=>?_) (λhc=>?_)
  ·simp-implicitDefEqProofs[]
   refine(mf G hb hl (p:=p+2) (by omega) [11,12,11] (k:=2) (by simp) (by simp) (by omega) rfl rfl).mono ?_
   rintro r h ⟨n,_,rfl,rfl⟩
   simp-implicitDefEqProofs[aa,hw]
   refine(sub (p+3) _ (by omega) (by omega)).mono ?_
   rintro r h ⟨v,q,rfl,rfl,⟨e,rfl,he⟩,h1,h2⟩
   have hec:=e.cs_eq
   simp-implicitDefEqProofs[aa,hec]
   exact una n e q _ 2 (by rw[hec];rfl) he (by omega) (by omega)
  ·simp-implicitDefEqProofs[]
   refine(mf G hb hl (p:=p+2) (by omega) [3,3,4,5,6,7,8,9,10] (k:=2) (by simp) (by simp) (by omega) rfl rfl).mono ?_
   rintro r h ⟨n,_,rfl,rfl⟩
   simp-implicitDefEqProofs[aa,hw]
   refine(sub (p+3) _ (by omega) (by omega)).mono ?_
   rintro r h ⟨v,q,rfl,rfl,⟨e,rfl,he⟩,h1,h2⟩
   have hec:=e.cs_eq
   simp-implicitDefEqProofs[aa,hec,hw]
   refine(sub q _ (by omega) (by omega)).mono ?_
   rintro r h ⟨v,q2,rfl,rfl,⟨e2,rfl,he2⟩,h3,h4⟩
   have hec2:=e2.cs_eq
   simp-implicitDefEqProofs[aa,hec2]
   exact bin n e e2 q2 _ 2 (by rw[hec,hec2];rfl) he he2 (by omega) (by omega)
end
section
def cn(fns:List Fd)(vs:List (List UInt8))(next left:Int):List AV:=[.ptr 0 2 0 0,slE 2 3 (be fns),.p (aL vs),.p (.int .i64 next),.p (.int .i64 left)]
def HG(b:List Int)(p:Nat)(fns:List Fd)(vs:List (List UInt8))(next left:Int):List AO:=[rdO b p,.row 5 [cn fns vs next left],bQ 3 (be fns)]
def DG(b:List Int)(fns:List Fd)(Q:AV->Nat->List (List UInt8)->Int->Int->Prop)(x:ARes)(h:List AO):Prop:=
 ∃v rest q vc v1 vs next left,x= .ret v/\h=rdO b q:: .row 5 [[.ptr 0 2 0 0,slE 2 3 (be fns),vc,.p (.int .i64 next),.p (.int .i64 left)]]::bQ 3 (be fns)::rest/\
  Fzs (.dead:: .dead:: .dead::rest) 3 [vc] [.p (aL vs)]/\Fzs (.dead:: .dead:: .dead::rest) 3 [v] [v1]/\Q v1 q vs next left
def PG(b:List Int)(fns:List Fd)(Q:AV->Nat->List (List UInt8)->Int->Int->Prop)(rest:List AO)(x:ARes)(h:List AO):Prop:=
 ∃v q vs next left,x= .ret v/\h=rdO b q:: .row 5 [cn fns vs next left]::bQ 3 (be fns)::rest/\Q v q vs next left
variable (G:aK)
theorem lX{f:FuncId}{args:List AV}{b:List Int}{p:Nat}{fns:List Fd}{vs:List (List UInt8)}{next left:Int}{Q:AV->Nat->List (List UInt8)->Int->Int->Prop}(H:AC Tryz.prog G f args (HG b p fns vs next left) (DG b fns Q)):
 AC Tryz.prog G f args (HG b p fns vs next left) (PG b fns Q []):=by
 refine H.frz 3 (by simp[HG]) (λt v h ⟨_,_,_,_,_,_,_,_,e,_⟩=>by cases e) ?_
 rintro v h ⟨v0,rest,q,vc,v1,vs',n',l',e,rfl,hc,hf,r⟩
 cases e
 refine⟨v1,HG b q fns vs' n' l',by simp,rfl,hf,.same (bt _ _ _) (.one ?_ (.same (mz _ _) (.nil _))),v1,q,vs',n',l',rfl,rfl,r⟩
 exact .keep (by simp[below]) (.keep (ri (by omega)) (hc.append (.keep (by simp) (.keep (by simp) .nil))))
theorem Oq(b:List Int)(p:Nat)(fns:List Fd)(vs:List (List UInt8))(next left:Int):∀o∈HG b p fns vs next left,okO 3 o:=by
 intro o ho
 simp only[HG,Wd,WV,or_false] at ho
 rcases ho with rfl|rfl|rfl
 ·exact bt _ _ _
 ·intro e he
  rw[Wh.1 he]
  exact⟨by simp[below],ri (by omega),by simp,by simp,by simp,trivial⟩
 ·exact mz _ _
theorem cW{f:FuncId}{args:List AV}{b:List Int}{p:Nat}{fns:List Fd}{vs:List (List UInt8)}{next left:Int}{Q:AV->Nat->List (List UInt8)->Int->Int->Prop}(H:AC Tryz.prog G f args (HG b p fns vs next left) (PG b fns Q []))(rest:List AO)(ha:ay 3 args):
 AC Tryz.prog G f args (rdO b p:: .row 5 [cn fns vs next left]::bQ 3 (be fns)::rest) (PG b fns Q rest):=by
 refine(AC.pre H rest ha (Oq _ _ _ _ _ _) ?_).mono ?_
 ·rintro x h ⟨v,q,vs',n',l',_,rfl,_⟩;rfl
 ·rintro x h ⟨h1,⟨v,q,vs',n',l',e1,rfl,e2⟩,rfl⟩
  exact⟨v,q,vs',n',l',e1,rfl,e2⟩
def TE(p:Nat)(vs:List (List UInt8))(next left:Int)(v:AV)(q:Nat)(vs':List (List UInt8))(next' left':Int):Prop:=(∃s:List UInt8,v= .p (.str s)/\s.length<=8)/\p<=q/\q<=p+2/\vs'=vs/\next'=next+1/\left'=left
theorem Ix{b:List Int}(hb:Byt b)(hl:b.length<=2000){p:Nat}(hp:p+2<=1000000000000)(fns:List Fd)(vs:List (List UInt8))(hv:uB vs){next:Int}(hn: -1<=next)(hn2:next<=1000000000000)(left:Int):
 AC Tryz.prog G gJ [.ptr 1 5 0 0] (HG b p fns vs next left) (PG b fns (TE p vs next left) []):=by
 refine lX G (AC.go sH ?_)
 have hw:IntKind.i64.wrap (next+1)=next+1:=ab (by omega) (by omega)
 have hsl:aL vs= .lst 1 (vs.map λw=>[.str w]):=rfl
 simp-implicitDefEqProofs[lg,HG,cn,hw]
 refine(bc G b hb hl p (by omega) 9 _).mono ?_
 rintro r h ⟨k,rfl,rfl,_⟩
 have fin:∀(s:List UInt8) (q:Nat),s.length<=8->p<=q->q<=p+2->DG b fns (TE p vs next left) (.ret (.p (.str s))) [rdO b q,.row 5 [[.ptr 0 2 0 0,slE 2 3 (be fns),.p (aL vs),.p (.int .i64 (next+1)),.p (.int .i64 left)]],bQ 3 (be fns)]:=λs q h1 h2 h3=>
  ⟨_,[],q,_,_,vs,next+1,left,rfl,rfl,.keep (by simp) .nil,.keep (by simp) .nil,⟨s,rfl,h1⟩,h2,h3,rfl,rfl,rfl⟩
 obtain⟨N,hN⟩:∃N:Nat,next+1=N:=⟨(next+1).toNat,by omega⟩
 have hm:N%24<24:=Nat.mod_lt _ (by omega)
 have ht:(N:Int).tmod 24=((N%24:Nat):Int):=rfl
 have hw2:IntKind.i64.wrap (((N%24:Nat):Int)+1)=((N%24+1:Nat):Int):=w1 (by omega)
 rw[hN] at fin⊢
 generalize N%24=m at hm ht hw2
 have hm1:m+1<=24:=by omega
 have h0m:(0:Int)<=(m:Int)+1:=by omega
 by_cases hc:k=0/\vs≠[]
 ·obtain⟨rfl,hne⟩:=hc
  have hpos:0<vs.length:=Xd.2 hne
  simp-implicitDefEqProofs[aa,hsl,hpos]
  rw[←hsl]
  refine(Je G hb hl (by omega) vs hne (by have:=hv.1;omega) _).mono ?_
  rintro r h ⟨s,hs,rfl,rfl⟩
  simp-implicitDefEqProofs[aa]
  exact fin s _ (hv.2 s hs) (by omega) (by omega)
 ·have hcc:(k=0/\0<vs.length)=False:=by
   simp only[eq_iff_iff,iff_false]
   exact λ⟨a,c⟩=>hc ⟨a,Xd.1 c⟩
  by_cases hk:k=0
  ·have hv0:vs=[]:=by
    by_cases e:vs=[]
    ·exact e
    ·exact absurd ⟨hk,e⟩ hc
   subst hv0
   have hs0:aL []= .lst 1 []:=rfl
   simp-implicitDefEqProofs[aa,hs0,hk,ht,hw2,hm1,h0m]
   rw[←hs0]
   refine fin _ (p+1) ?_ (by omega) (by omega)
   simp
   omega
  ·simp-implicitDefEqProofs[aa,hk,ht,hw2,hm1,h0m]
   refine fin _ (p+1) ?_ (by omega) (by omega)
   simp
   omega
def Ae(fns:List Fd):Prop:=fns.length<=1000/\∀f∈fns,f.name.length<=8/\f.params.length<=3
def Ud(p:Nat)(vs:List (List UInt8))(next left:Int)(v:AV)(q:Nat)(vs':List (List UInt8))(next' left':Int):Prop:=(∃e:Ex,v= .agg (e.cs.map .p)/\e.sz<=400)/\p<=q/\q<=p+400/\vs'=vs/\next'=next/\left'=left
theorem Ig{b:List Int}(hb:Byt b)(hl:b.length<=2000){p:Nat}(hp:p<=1000000000000)(l:List Int)(hne:l≠[])(hll:l.length<=1000000000000)(rest:List AO):
 AC Tryz.prog G cG [.ptr 0 2 0 0,.p (bC l)] (rdO b p::rest) λx h=>∃n,n∈l/\x= .ret (.p (.int .i64 n))/\h=rdO b (p+1)::rest:=by
 have key:AC Tryz.prog G cG [.ptr 0 2 0 0,.p (bC l)] [rdO b p] λx h=>∃n,n∈l/\x= .ret (.p (.int .i64 n))/\h=[rdO b (p+1)]:=by
  refine AC.go nq ?_
  have hpos:0<l.length:=Xd.2 hne
  have hnl:bC l= .lst 1 (l.map λn=>[.int .i64 n]):=rfl
  simp-implicitDefEqProofs[jh,hnl]
  refine(bc G b hb hl p (by omega) l.length []).mono ?_
  rintro r h ⟨m,rfl,rfl,hm⟩
  have hml:m<l.length:=by omega
  have hg:=Wa hml
  simp-implicitDefEqProofs[aa,hg]
 refine(key.pre rest (by simp[below]) (λo ho=>by rw[Wh.1 ho];exact bt _ _ _) ?_).mono ?_
 ·rintro x h ⟨n,_,_,rfl⟩;rfl
 ·rintro x h ⟨h1,⟨n,e1,e2,rfl⟩,rfl⟩
  exact⟨n,e1,e2,rfl⟩
structure ExS where (es:List Ex) (q:Nat)
theorem mC{b:List Int}(hb:Byt b)(hl:b.length<=2000){p:Nat}(hp:p+1000<=1000000000000)(fns:List Fd)(hf:Ae fns)(vs:List (List UInt8))(hv:uB vs)(next left:Int){d:Nat}(hd:d<=3):
 AC Tryz.prog G iC [.ptr 1 5 0 0,.p (.int .i64 d)] (HG b p fns vs next left) (PG b fns (Ud p vs next left) []):=by
 refine lX G (AC.go tO ?_)
 have hpow:3^d<=27:=by
  have:3^d<=3^3:=Nat.pow_le_pow_right (by omega) hd
  omega
 have sub:∀(k:Nat),k<=3->∀(q:Nat) (rest:List AO),p<=q->q<=p+700->AC Tryz.prog G aX [.ptr 0 2 0 0,.p (aL vs),.p (.int .i64 k)] (rdO b q::rest) λx h=>∃v q',x= .ret v/\h=rdO b q'::rest/\ExQ q (10*3^k) (6*3^k) v q':=λk hk q rest _ _=>by
  have:3^k<=3^3:=Nat.pow_le_pow_right (by omega) hk
  exact ka G (AF G hb hl vs hv k (by omega) (by omega)) rest (by simp[below])
 simp-implicitDefEqProofs[mb,HG,cn]
 refine(sub d hd p _ (by omega) (by omega)).mono ?_
 rintro r h ⟨v,q0,rfl,rfl,⟨e0,rfl,he0⟩,hq1,hq2⟩
 have hec:=e0.cs_eq
 simp-implicitDefEqProofs[aa,hec]
 have finE:∀(e:Ex) (q:Nat) (rest:List AO) (v:AV),Fzs (.dead:: .dead:: .dead::rest) 3 [v] [.agg (e.cs.map .p)]->e.sz<=400->p<=q->q<=p+400->DG b fns (Ud p vs next left) (.ret v) (rdO b q:: .row 5 [[.ptr 0 2 0 0,slE 2 3 (be fns),.p (aL vs),.p (.int .i64 next),.p (.int .i64 left)]]::bQ 3 (be fns)::rest):=λe q rest v hz h1 h2 h3=>
  ⟨_,rest,q,_,_,vs,next,left,rfl,rfl,.keep (by simp) .nil,hz,⟨e,rfl,h1⟩,h2,h3,rfl,rfl,rfl⟩
 have fz0:∀rest,Fzs (.dead:: .dead:: .dead::rest) 3 [.agg [.p (.int .i64 e0.op),.p (.int .i64 e0.n),.p (.str e0.name),.p (exL e0.kids)]] [.agg (e0.cs.map .p)]:=λrest=> .agg (by rw[hec];exact iE (by simp)) .nil
 by_cases hfe:fns=[]
 ·have h0:be fns=[]:=by rw[hfe];rfl
  simp-implicitDefEqProofs[h0]
  rw[←h0]
  have:=finE e0 q0 [.row 4 [[.p (.int .i64 e0.op),.p (.int .i64 e0.n),.p (.str e0.name),.p (exL e0.kids)]],.row 4 [[.p (.int .i64 e0.op),.p (.int .i64 e0.n),.p (.str e0.name),.p (exL e0.kids)]]] _ (fz0 _) (by omega) (by omega) (by omega)
  rw[h0] at this⊢
  exact this
 have hfr:¬be fns=[]:=λh=>hfe (List.map_eq_nil_iff.1 h)
 have hfl:(be fns).length=fns.length:=by simp[be]
 have hfp:0<fns.length:=Xd.2 hfe
 simp only[fg hfr,dE hfr,hfl] at finE
 rw[show bQ 3 (be fns)= .row 3 (be fns) from fg hfr,show slE 2 3 (be fns)= .sl 2 3 0 (be fns).length from dE hfr,hfl]
 generalize hR:be fns=R at*
 simp-implicitDefEqProofs[hfr]
 refine(bc G b hb hl q0 (by omega) 4 _).mono ?_
 rintro r h ⟨k1,rfl,rfl,_⟩
 simp-implicitDefEqProofs[aa]
 refine aO (λhc=>?_) (λhc=>?_)
 ·simp-implicitDefEqProofs[]
  exact finE e0 _ _ _ (fz0 _) (by omega) (by omega) (by omega)
 simp-implicitDefEqProofs[hfl]
 refine(bc G b hb hl (q0+1) (by omega) fns.length _).mono ?_
 rintro r h ⟨k2,rfl,rfl,hk2⟩
 have hk:k2<fns.length:=by omega
 have hg:=Wa hk
 have hgr:R[k2]?=some (fns[k2].cs.map .p):=by rw[←hR,be,Wt,hg];rfl
 have hfo:=hf.2 _ (Wo hk)
 generalize fns[k2]=fd at hg hgr hfo
 have hfc:fd.cs=[.str fd.name,aL fd.params,smL fd.body]:=rfl
 have hsp:aL fd.params= .lst 1 (fd.params.map λw=>[.str w]):=rfl
 clear hfl hg
 simp-implicitDefEqProofs[aa,hgr,hk,hfc]
 have hexn:∀(es:List Ex) (e:Ex),exR (es++[e])=exR es++[e.cs.map .p]:=λes e=>by simp[exR]
 have hRp:∀x∈R,ay 0 x:=by rw[←hR];exact vt fns
 refine aN (λs:ExS=>az 99 [(8,.p (.int .i64 s.es.length)),(7,.ptr 6 4 0 0),(6,.ptr 5 3 0 0),(4,.ptr 3 4 0 0),(0,.ptr 1 5 0 0)])
  (λs=>[rdO b s.q,.row 5 [[.ptr 0 2 0 0,.sl 2 3 0 fns.length,.p (aL vs),.p (.int .i64 next),.p (.int .i64 left)]],.row 3 R,.row 4 [[.p (.int .i64 0),.p (.int .i64 0),.p (.str []),.nils]],
    .row 4 [[.p (.int .i64 e0.op),.p (.int .i64 e0.n),.p (.str e0.name),.p (exL e0.kids)]],.row 3 [[.p (.str fd.name),.p (aL fd.params),.p (smL fd.body)]],.row 4 [[.p (.int .i64 13),.p (.int .i64 0),.p (.str fd.name),slE 7 4 (exR s.es)]],bQ 4 (exR s.es)])
  (λs=>s.es.length<=fd.params.length/\aM s.es<=90*s.es.length/\q0<=s.q/\s.q<=q0+2+54*s.es.length) (λs=>fd.params.length-s.es.length) ⟨[],q0+1+1⟩ ⟨by simp,by simp[aM],by simp only;omega,by simp⟩
  (pt (by simp) (by simp) (by
    intro o h
    simp only[Wd,WV,or_false] at h
    rcases h with rfl|rfl|rfl|rfl|rfl|rfl|rfl
    ·exact bt _ _ _
    ·simp[okO,below]
    ·exact ew (λe he=>hRp e he)
    ·simp[okO,below]
    ·simp[okO,below]
    ·simp[okO,below]
    ·simp[okO,below]) (by simp[below])) ?_
 rintro⟨es,q⟩ ⟨h1,h2,h3,h4⟩
 simp only at h1 h2 h3 h4
 simp-implicitDefEqProofs[hsp]
 refine aO (λhc=>?_) (λhc=>?_)
 ·simp at hc
  have hp3:=hfo.2
  simp-implicitDefEqProofs[]
  refine(sub 2 (by omega) q _ (by omega) (by omega)).mono ?_
  rintro r h ⟨v,q2,rfl,rfl,⟨e,rfl,he⟩,hq3,hq4⟩
  have hec:=e.cs_eq
  simp-implicitDefEqProofs[aa,hec]
  have hxl:(exR es).length=es.length:=by simp[exR]
  refine⟨by rw[hxl];omega,⟨es++[e],q2⟩,⟨by simp;omega,by rw[bH];simp[aM];omega,by simp only;omega,by simp;omega⟩,by simp;omega,?_⟩
  rw[hexn,Ej _ (by simp),Ai _ (by simp),hec]
  refine fb [0,1,2,3,4,5,6,8] (by simp) (by decide) (by decide) (dA rfl (bt _ _ _) (cS (by simp[below]) (by simp[ren,bq]) (bu rfl hRp (bu rfl (by simp[below]) (bu rfl (by simp[below]) (bu rfl (by simp[below]) (cS (by simp[below]) (by simp[ren,bq]) (bu rfl (λx hx=>by
   rcases Wf.1 hx with h|h
   ·exact dY _ x h
   ·rw[Wh.1 h];simp) da)))))))) ?_
  simp[below,ren,w1 (i:=es.length) (by omega)]
 ·simp at hc
  have hp3:=hfo.2
  have hlen:es.length=fd.params.length:=by omega
  have hxl:(exR es).length=es.length:=by simp[exR]
  have hkids:∀(h:List AO),h[7]?=some (bQ 4 (exR es))->View h (slE 7 4 (exR es)) (exL es):=λh hh=>iK hh
  simp-implicitDefEqProofs[]
  refine(bc G b hb hl q (by omega) 2 _).mono ?_
  rintro r h ⟨k3,rfl,rfl,_⟩
  simp-implicitDefEqProofs[aa]
  refine aO (λhc2=>?_) (λhc2=>?_)
  ·simp-implicitDefEqProofs[]
   have hcc:(Ex.mk 13 0 fd.name es).cs=[.int .i64 13,.int .i64 0,.str fd.name,exL es]:=Ex.cs_eq _
   exact finE ⟨13,0,fd.name,es⟩ (q+1) _ _ (.agg (by rw[hcc];exact .keep (by simp) (.keep (by simp) (.keep (by simp) (.one (hkids _ rfl) .nil)))) .nil) (by simp[Ex.sz];omega) (by omega) (by omega)
  ·simp-implicitDefEqProofs[]
   refine(Ig G hb hl (p:=q+1) (by omega) [3,4,8,10] (by simp) (by simp) _).mono ?_
   rintro r h ⟨n,_,rfl,rfl⟩
   simp-implicitDefEqProofs[aa]
   refine(sub 2 (by omega) (q+1+1) _ (by omega) (by omega)).mono ?_
   rintro r h ⟨v,q2,rfl,rfl,⟨e,rfl,he⟩,hq3,hq4⟩
   have hec:=e.cs_eq
   simp-implicitDefEqProofs[aa,hec]
   have hcc:(Ex.mk 13 0 fd.name es).cs=[.int .i64 13,.int .i64 0,.str fd.name,exL es]:=Ex.cs_eq _
   exact finE ⟨n,0,[],[⟨13,0,fd.name,es⟩,e]⟩ q2 _ _ (.agg (.keep (by simp) (.keep (by simp) (.keep (by simp) (.one (ur (p0:=(Ex.mk 13 0 fd.name es).cs) (p1:=e.cs) rfl (Ex.cs_len _) (Ex.cs_len _) (λj q a e1 e2=>by
    rw[hcc] at e1
    match j,e1,e2 with
    |0,e1,e2=>cases e1;cases e2;exact .p _
    |1,e1,e2=>cases e1;cases e2;exact .p _
    |2,e1,e2=>cases e1;cases e2;exact .p _
    |3,e1,e2=>cases e1;cases e2;exact hkids _ rfl
    |j+4,e1,e2=>simp at e1) (λj q a e1 e2=>by
    rw[hec] at e1
    match j,e1,e2 with
    |0,e1,e2=>cases e1;cases e2;exact .p _
    |1,e1,e2=>cases e1;cases e2;exact .p _
    |2,e1,e2=>cases e1;cases e2;exact .p _
    |3,e1,e2=>cases e1;cases e2;exact .p _
    |j+4,e1,e2=>simp at e1)) .nil)))) .nil) (by simp[Ex.sz,aM];omega) (by omega) (by omega)
end
section
variable (G:aK)
def Vn(p:Nat)(vs:List (List UInt8))(next left:Int)(v:AV)(q:Nat)(vs':List (List UInt8))(next' left':Int):Prop:=(∃e:Ex,v= .agg (e.cs.map .p)/\e.sz<=410)/\p<=q/\q<=p+401/\vs'=vs/\next'=next/\left'=left
theorem MP{b:List Int}(hb:Byt b)(hl:b.length<=2000){p:Nat}(hp:p+2000<=1000000000000)(fns:List Fd)(hf:Ae fns)(vs:List (List UInt8))(hv:uB vs)(next left:Int):
 AC Tryz.prog G eE [.ptr 1 5 0 0] (HG b p fns vs next left) (PG b fns (Vn p vs next left) []):=by
 refine lX G (AC.go tD ?_)
 simp-implicitDefEqProofs[mj,HG,cn]
 refine(cW G (mC G hb hl (p:=p) (by omega) fns hf vs hv next left (d:=2) (by omega)) _ (by simp[below])).mono ?_
 rintro r h ⟨v,q,vs',n',l',rfl,rfl,⟨e,rfl,he⟩,h1,h2,rfl,rfl,rfl⟩
 have hec:=e.cs_eq
 simp-implicitDefEqProofs[aa,cn,hec]
 refine(Ig G hb hl (p:=q) (by omega) [16,16,16,8,17,0] (by simp) (by simp) _).mono ?_
 rintro r h ⟨n,_,rfl,rfl⟩
 simp-implicitDefEqProofs[aa]
 have hn:(Ex.mk 1 n [] []).cs=[.int .i64 1,.int .i64 n,.str [],.lst 4 []]:=Ex.cs_eq _
 refine⟨_,[_,_],q+1,_,.agg ((Ex.mk 7 0 [] [e,⟨1,n,[],[]⟩]).cs.map .p),vs',n',l',rfl,rfl,.keep (by simp) .nil,.agg (.keep (by simp) (.keep (by simp) (.keep (by simp) (.one (ur (p0:=e.cs) (p1:=(Ex.mk 1 n [] []).cs) rfl (Ex.cs_len _) (Ex.cs_len _) (λj q a e1 e2=>?_) (λj q a e1 e2=>?_)) .nil)))) .nil,⟨_,rfl,by simp[Ex.sz,aM];omega⟩,by omega,by omega,rfl,rfl,rfl⟩
 ·rw[hec] at e1
  match j,e1,e2 with
  |0,e1,e2=>cases e1;cases e2;exact .p _
  |1,e1,e2=>cases e1;cases e2;exact .p _
  |2,e1,e2=>cases e1;cases e2;exact .p _
  |3,e1,e2=>cases e1;cases e2;exact .p _
  |j+4,e1,e2=>simp at e1
 ·rw[hn] at e1
  match j,e1,e2 with
  |0,e1,e2=>cases e1;cases e2;exact .p _
  |1,e1,e2=>cases e1;cases e2;exact .p _
  |2,e1,e2=>cases e1;cases e2;exact .p _
  |3,e1,e2=>cases e1;cases e2;exact View.nils 4
  |j+4,e1,e2=>simp at e1
def Tz(p:Nat)(e:Ex)(vs:List (List UInt8))(next left:Int)(v:AV)(q:Nat)(vs':List (List UInt8))(next' left':Int):Prop:=
 ∃s:List UInt8,s.length<=8/\v= .agg ((Sm.mk 1 s [e] [] []).cs.map .p)/\p<=q/\q<=p+2/\vs'=vs++[s]/\next'=next+1/\left'=left
theorem QB{b:List Int}(hb:Byt b)(hl:b.length<=2000){p:Nat}(hp:p+2<=1000000000000)(fns:List Fd)(vs:List (List UInt8))(hv:uB vs){next:Int}(hn: -1<=next)(hn2:next<=1000000000000)(left:Int)(e:Ex):
 AC Tryz.prog G dJ [.ptr 1 5 0 0,.agg (e.cs.map .p)] (HG b p fns vs next left) (PG b fns (Tz p e vs next left) []):=by
 refine lX G (AC.go nu ?_)
 have hec:=e.cs_eq
 simp-implicitDefEqProofs[jf,HG,cn,hec]
 refine(cW G (Ix G hb hl hp fns vs hv hn hn2 left) _ (by simp[below])).mono ?_
 rintro r h ⟨v,q,vs',n',l',rfl,rfl,⟨s,rfl,hs⟩,h1,h2,rfl,rfl,rfl⟩
 have hsl:aL vs'= .lst 1 (vs'.map λw=>[.str w]):=rfl
 simp-implicitDefEqProofs[aa,cn,hsl]
 have hv1:=hv.1
 have hrow:List.take vs'.length (List.map ((λx=>List.map AV.p x)∘λw=>[PV.str w]) vs')++[[AV.p (PV.str s)]]=(vs'++[s]).map λw=>[AV.p (.str w)]:=by
  rw[Wg (by simp)];simp[Function.comp_def]
 have hlen:vs'.length+1=(vs'++[s]).length:=by simp
 refine⟨by omega,by omega,?_⟩
 rw[hrow,hlen]
 have hsm:(Sm.mk 1 s [e] [] []).cs=[.int .i64 1,.str s,exL [e],smL [],smL []]:=Sm.cs_eq _
 refine⟨_,_,q,_,.agg ((Sm.mk 1 s [e] [] []).cs.map .p),vs'++[s],next+1,l',rfl,rfl,.one (jk rfl) .nil,.agg ?_ .nil,⟨s,hs,rfl,h1,h2,rfl,rfl,rfl⟩⟩
 rw[hsm]
 refine .keep (by simp) (.keep (by simp) (.one ?_ (.one (View.nils 5) (.one (View.nils 5) .nil))))
 exact dW (l:=[e]) (by rw[List.map_singleton,hec];rfl)
theorem QQ{b:List Int}(hb:Byt b)(hl:b.length<=2000){p:Nat}(hp:p+2<=1000000000000)(fns:List Fd)(vs:List (List UInt8))(hv:uB vs){next:Int}(hn: -1<=next)(hn2:next<=1000000000000)(left:Int)(N:Int):
 AC Tryz.prog G dJ [.ptr 1 5 0 0,.agg [.p (.int .i64 1),.p (.int .i64 N),.p (.str []),.nils]] (HG b p fns vs next left) (PG b fns (Tz p ⟨1,N,[],[]⟩ vs next left) []):=by
 refine lX G (AC.go nu ?_)
 simp-implicitDefEqProofs[jf,HG,cn]
 refine(cW G (Ix G hb hl hp fns vs hv hn hn2 left) _ (by simp[below])).mono ?_
 rintro r h ⟨v,q,vs',n',l',rfl,rfl,⟨s,rfl,hs⟩,h1,h2,rfl,rfl,rfl⟩
 have hsl:aL vs'= .lst 1 (vs'.map λw=>[.str w]):=rfl
 simp-implicitDefEqProofs[aa,cn,hsl]
 have hv1:=hv.1
 have hrow:List.take vs'.length (List.map ((λx=>List.map AV.p x)∘λw=>[PV.str w]) vs')++[[AV.p (PV.str s)]]=(vs'++[s]).map λw=>[AV.p (.str w)]:=by
  rw[Wg (by simp)];simp[Function.comp_def]
 have hlen:vs'.length+1=(vs'++[s]).length:=by simp
 refine⟨by omega,by omega,?_⟩
 rw[hrow,hlen]
 have hsm:(Sm.mk 1 s [⟨1,N,[],[]⟩] [] []).cs=[.int .i64 1,.str s,exL [⟨1,N,[],[]⟩],smL [],smL []]:=Sm.cs_eq _
 refine⟨_,_,q,_,.agg ((Sm.mk 1 s [⟨1,N,[],[]⟩] [] []).cs.map .p),vs'++[s],next+1,l',rfl,rfl,.one (jk rfl) .nil,.agg ?_ .nil,⟨s,hs,rfl,h1,h2,rfl,rfl,rfl⟩⟩
 rw[hsm]
 refine .keep (by simp) (.keep (by simp) (.one ?_ (.one (View.nils 5) (.one (View.nils 5) .nil))))
 refine View.sl _ _ _ _ [(Ex.mk 1 N [] []).cs] rfl (by simp) (by simp) λi j e q e' a a1 a2 a3 a4=>?_
 rw[WT] at a3
 match i,a1,a3 with
 |0,a1,a3=>
  cases a1;cases a3
  have hn:(Ex.mk 1 N [] []).cs=[.int .i64 1,.int .i64 N,.str [],.lst 4 []]:=Ex.cs_eq _
  rw[hn] at a2
  match j,a2,a4 with
  |0,e1,e2=>cases e1;cases e2;exact .p _
  |1,e1,e2=>cases e1;cases e2;exact .p _
  |2,e1,e2=>cases e1;cases e2;exact .p _
  |3,e1,e2=>cases e1;cases e2;exact View.nils 4
  |j+4,e1,e2=>simp at e1
 |i+1,a1,a3=>simp at a1
end
section
def Pd(d:Nat):Nat:=5000*20^d
structure Bd (n:Nat) (p:Nat) (vs:List (List UInt8)) (next left:Int):Prop where
 p:p+n<=100000000000
 v:vs.length+n/50<=900000
 w:∀s∈vs,s.length<=8
 n0: -1<=next
 n1:next+n<=100000000000
 l0: -100000000000<=left-n
 l1:left<=100000000000
theorem Bd.shrt{n p:Nat}{vs:List (List UInt8)}{next left:Int}(h:Bd n p vs next left):uB vs:=⟨by have:=h.v;omega,h.w⟩
def Mv(n p q:Nat)(next next' left left':Int):Prop:=p<=q/\q<=p+n/\next<=next'/\next'<=next+n/\left-n<=left'/\left'<=left
def Ox(b:List Int)(fns:List Fd)(vs:List (List UInt8))(p n:Nat)(next left:Int)(rest:List AO)(x:ARes)(h:List AO):Prop:=
 ∃(out:List Sm) (q:Nat) (next' left':Int),x= .ret (.sl (3+rest.length) 5 0 out.length)/\h=rdO b q:: .row 5 [cn fns vs next' left']::bQ 3 (be fns)::rest++[.row 5 (smR out)]/\aD out<=n/\out.length<=100/\Mv n p q next next' left left'
def JZ(G:aK)(b:List Int)(fns:List Fd)(d:Nat):Prop:=∀{p:Nat} {vs:List (List UInt8)} {next left:Int},Bd (Pd d) p vs next left->AC Tryz.prog G aZ [.ptr 1 5 0 0,.p (.int .i64 d)] (HG b p fns vs next left) (Ox b fns vs p (Pd d) next left [])
variable (G:aK)
theorem tV{b:List Int}{fns:List Fd}{d p:Nat}{vs:List (List UInt8)}{next left:Int}(H:AC Tryz.prog G aZ [.ptr 1 5 0 0,.p (.int .i64 d)] (HG b p fns vs next left) (Ox b fns vs p (Pd d) next left []))(rest:List AO):
 AC Tryz.prog G aZ [.ptr 1 5 0 0,.p (.int .i64 d)] (rdO b p:: .row 5 [cn fns vs next left]::bQ 3 (be fns)::rest) (Ox b fns vs p (Pd d) next left rest):=by
 have H2:AC Tryz.prog G aZ [.ptr 1 5 0 0,.p (.int .i64 d)] (HG b p fns vs next left) λx h'=>∃h1 es,h'=h1++[.row 5 es]/\h1.length=(HG b p fns vs next left).length/\x= .ret (.sl (HG b p fns vs next left).length 5 0 es.length)/\(∀e∈es,ay 0 e)/\
  (∃(out:List Sm) (q:Nat) (next' left':Int),es=smR out/\h1=HG b q fns vs next' left'/\aD out<=Pd d/\out.length<=100/\Mv (Pd d) p q next next' left left'):=by
  refine H.mono ?_
  rintro x h ⟨out,q,n',l',rfl,rfl,h1,h2,h3⟩
  exact⟨HG b q fns vs n' l',smR out,rfl,rfl,by simp[HG,gt],dT out,out,q,n',l',rfl,rfl,h1,h2,h3⟩
 refine(AC.pre1 (R:=λh1 es=>∃(out:List Sm) (q:Nat) (next' left':Int),es=smR out/\h1=HG b q fns vs next' left'/\aD out<=Pd d/\out.length<=100/\Mv (Pd d) p q next next' left left') H2 rest (by simp[below,HG]) (Oq _ _ _ _ _ _) ?_).mono ?_
 ·rintro h1 es ⟨out,q,n',l',rfl,rfl,_⟩
  exact Oq _ _ _ _ _ _
 ·rintro x h ⟨h1,es,rfl,_,rfl,_,out,q,n',l',rfl,rfl,r⟩
  exact⟨out,q,n',l',by simp[HG,gt],rfl,r⟩
theorem uo:AK.whole iJ=FK.ak gZ:=rfl
def VH(n p:Nat)(vs:List (List UInt8))(next left:Int)(v:AV)(q:Nat)(vs':List (List UInt8))(next' left':Int):Prop:=
 ∃(out:List Sm) (s:List UInt8),v= .p (smL out)/\aD out<=n/\1<=out.length/\out.length<=2/\s.length<=8/\vs'=vs++[s]/\Mv n p q next next' left left'
theorem NY{b:List Int}(hb:Byt b)(hl:b.length<=2000)(fns:List Fd){d:Nat}(hd:d<=10)(hblk:JZ G b fns d){p:Nat}{vs:List (List UInt8)}{next left:Int}(hB:Bd (Pd d+60) p vs next left):
 AC Tryz.prog G ip [.ptr 1 5 0 0,.p (.int .i64 ((d:Int)+1))] (HG b p fns vs next left) (PG b fns (VH (Pd d+60) p vs next left) []):=by
 have hp:=hB.p
 have hv:=hB.v
 have hn0:=hB.n0
 have hn1:=hB.n1
 have hl0:=hB.l0
 have hl1:=hB.l1
 refine lX G (AC.goK ug uo ?_)
 simp-implicitDefEqProofs[iJ,gZ,HG,cn]
 refine(mf G hb hl (p:=p) (by omega) [2,3,1,0,5] (k:=3) (by simp) (by simp) (by omega) rfl rfl).mono ?_
 rintro r h ⟨N,hN,rfl,rfl⟩
 have hN5:0<=N/\N<=5:=by simp at hN;omega
 simp-implicitDefEqProofs[aa]
 refine(cW G (QQ G hb hl (p:=p+1) (by omega) fns vs hB.shrt hn0 (by omega) left N) _ (by simp[below])).mono ?_
 rintro r h ⟨v,q,vs',n',l',rfl,rfl,s,hs,rfl,h1,h2,rfl,rfl,rfl⟩
 have hsm:(Sm.mk 1 s [⟨1,N,[],[]⟩] [] []).cs=[.int .i64 1,.str s,exL [⟨1,N,[],[]⟩],smL [],smL []]:=Sm.cs_eq _
 have hwd:IntKind.i64.wrap ((d:Int)+1-1)=d:=by rw[ab (by omega) (by omega)];omega
 have hw2:IntKind.i64.wrap (d:Int)=d:=ab (by omega) (by omega)
 simp-implicitDefEqProofs[aa,cn,hsm,hw2]
 have hB2:Bd (Pd d) q (vs++[s]) (next+1) l':=⟨by omega,by simp;omega,λw hw=>by
  rcases Wf.1 hw with h|h
  ·exact hB.w w h
  ·rw[Wh.1 h];exact hs,by omega,by omega,by omega,by omega⟩
 refine(tV G (hblk hB2) _).mono ?_
 rintro r h ⟨out,q2,n2,l2,rfl,rfl,z1,z2,m1,m2,m3,m4,m5,m6⟩
 have hwl:IntKind.i64.wrap (l2-2)=l2-2:=ab (by omega) (by omega)
 simp-implicitDefEqProofs[aa,cn,hwl]
 have hHb:∀(l:Int),okO 7 (.row 5 [[.ptr 0 2 0 0,slE 2 3 (be fns),.p (aL (vs++[s])),.p (.int .i64 n2),.p (.int .i64 l)]]):=λl e he=>by
  rw[Wh.1 he];exact⟨by simp[below],ri (by omega),by simp,by simp,by simp,trivial⟩
 refine oX (az 50 [(0,.ptr 1 5 0 0),(5,.ptr 3 5 0 0),(6,.ptr 4 4 0 0),(7,.sl 5 5 0 out.length),(8,.ptr 6 5 0 0)])
  [rdO b q2,.row 5 [[.ptr 0 2 0 0,slE 2 3 (be fns),.p (aL (vs++[s])),.p (.int .i64 n2),.p (.int .i64 (l2-2))]],bQ 3 (be fns),
   .row 5 [[.p (.int .i64 1),.p (.str s),.p (exL [Ex.mk 1 N [] []]),.p (smL []),.p (smL [])]],.row 4 [[.p (.int .i64 2),.p (.int .i64 0),.p (.str s),.p (exL [])]],.row 5 (smR out),
   .row 5 [[.p (.int .i64 2),.p (.str s),.p (exL [Ex.mk 4 0 [] [⟨2,0,s,[]⟩,⟨1,1,[],[]⟩]]),.p (smL []),.p (smL [])]]] ?_ ?_
 ·simp-implicitDefEqProofs[hwl]
  refine Wk.trans (fb (l1:=[(0,.ptr 1 5 0 0),(5,.ptr 3 5 0 0),(6,.ptr 4 4 0 0),(7,.sl 5 5 0 out.length),(8,.ptr 6 5 0 0)])
   (h1:=[rdO b q2,.row 5 [[.ptr 0 2 0 0,slE 2 3 (be fns),.p (aL (vs++[s])),.p (.int .i64 n2),.p (.int .i64 (l2-2))]],bQ 3 (be fns),
   .row 5 [[.p (.int .i64 1),.p (.str s),.p (exL [Ex.mk 1 N [] []]),.p (smL []),.p (smL [])]],.row 4 [[.p (.int .i64 2),.p (.int .i64 0),.p (.str s),.nils]],.row 5 (smR out),
   .row 5 [[.p (.int .i64 2),.p (.str s),.sl 8 4 0 1,.nils,.nils]],.row 4 [[.p (.int .i64 2),.p (.int .i64 0),.p (.str s),.nils],[.p (.int .i64 1),.p (.int .i64 1),.p (.str []),.nils]],.row 4 [[.p (.int .i64 4),.p (.int .i64 0),.p (.str []),.sl 7 4 0 2]]])
   [0,1,2,4,5,6,9,7,8] (by simp) (by decide) (by decide) (dA rfl (bt _ _ _) (cS (by simp[below]) (by simp[ren,bq]) (dA rfl (mz _ _) (bu rfl (by simp[below]) (bu rfl (by simp[below]) (bu rfl (dT out) (cS (by simp[below]) (by simp[ren,bq]) (bu rfl (by simp[below]) (cS (by simp[below]) (by simp[ren,bq]) da))))))))) (by simp[below,ren]))
   (ou 7 (by omega) (by simp) rfl (.same (bt _ _ _) (.same (hHb _) (.same (mz _ _) (.same (by simp[okO,below]) (.one (.keep (by simp) (.keep (by simp) (.keep (by simp) (.one (View.nils 4) .nil)))) (.same (ew (dT out)) (.one (.keep (by simp) (.keep (by simp) (.one ?_ (.one (View.nils 5) (.one (View.nils 5) .nil))))) (.nil _)))))))) ?_)
  ·exact bB (p0:=(Ex.mk 4 0 [] [⟨2,0,s,[]⟩,⟨1,1,[],[]⟩]).cs) rfl (Ex.cs_len _) (ig (ur (p0:=(Ex.mk 2 0 s []).cs) (p1:=(Ex.mk 1 1 [] []).cs) rfl (Ex.cs_len _) (Ex.cs_len _) (ig (View.nils 4)) (ig (View.nils 4))))
  ·exact⟨.keep (by simp[below]) .nil,.keep (by simp[below]) .nil,.keep (by simp[below]) .nil,.keep (by simp[below]) .nil,.keep (by simp[below]) .nil,trivial⟩
 ·simp-implicitDefEqProofs[]
  have hless:(Sm.mk 2 s [Ex.mk 4 0 [] [⟨2,0,s,[]⟩,⟨1,1,[],[]⟩]] [] []).cs=[.int .i64 2,.str s,exL [Ex.mk 4 0 [] [⟨2,0,s,[]⟩,⟨1,1,[],[]⟩]],smL [],smL []]:=Sm.cs_eq _
  have hrow:List.take out.length (smR out)++[[AV.p (.int .i64 2),.p (.str s),.p (exL [Ex.mk 4 0 [] [⟨2,0,s,[]⟩,⟨1,1,[],[]⟩]]),.p (smL []),.p (smL [])]]=smR (out++[Sm.mk 2 s [Ex.mk 4 0 [] [⟨2,0,s,[]⟩,⟨1,1,[],[]⟩]] [] []]):=by
   rw[Wg (by rw[gt];exact Wn _),EB];exact congrArg (smR out++ ·) (by rw[smR,List.map_singleton,hless];rfl)
  have hlen:out.length+1=(out++[Sm.mk 2 s [Ex.mk 4 0 [] [⟨2,0,s,[]⟩,⟨1,1,[],[]⟩]] [] []]).length:=by simp
  refine⟨⟨by rw[gt];exact Wn _,by omega,by omega⟩,?_⟩
  rw[hrow,hlen]
  refine⟨_,_,q2,_,.p (smL [Sm.mk 1 s [⟨1,N,[],[]⟩] [] [],Sm.mk 6 [] [⟨2,0,s,[]⟩] (out++[Sm.mk 2 s [Ex.mk 4 0 [] [⟨2,0,s,[]⟩,⟨1,1,[],[]⟩]] [] []]) []]),vs++[s],n2,l2-2,rfl,rfl,.keep (by simp) .nil,
   .one (ur (p0:=(Sm.mk 1 s [⟨1,N,[],[]⟩] [] []).cs) (p1:=(Sm.mk 6 [] [⟨2,0,s,[]⟩] (out++[Sm.mk 2 s [Ex.mk 4 0 [] [⟨2,0,s,[]⟩,⟨1,1,[],[]⟩]] [] []]) []).cs) rfl (Sm.cs_len _) (Sm.cs_len _)
    (ce (.p _) (.p _) (.p _)) (ce ?_ (lE rfl) (View.nils 5))) .nil,_,s,rfl,?_,by simp,by simp,hs,rfl,?_⟩
  ·have h2:(Ex.mk 2 0 s []).cs=[.int .i64 2,.int .i64 0,.str s,exL []]:=Ex.cs_eq _
   have he:exL [Ex.mk 2 0 s []]= .lst 4 [[.int .i64 2,.int .i64 0,.str s,exL []]]:=by rw[exL,List.map_singleton,h2]
   rw[he]
   exact .p _
  ·simp[aD,aV,Sm.sz,Ex.sz,aM]
   omega
  ·exact⟨by omega,by omega,by omega,by omega,by omega,by omega⟩
end
section
variable (G:aK)
def TQ(n p:Nat)(vs:List (List UInt8))(next left:Int)(v:AV)(q:Nat)(vs':List (List UInt8))(next' left':Int):Prop:=
 ∃out:List Sm,v= .p (smL out)/\aD out<=n/\1<=out.length/\out.length<=2/\(vs'=vs\/∃s:List UInt8,s.length<=8/\vs'=vs++[s])/\Mv n p q next next' left left'
theorem RC{b:List Int}(hb:Byt b)(hl:b.length<=2000)(fns:List Fd)(hf:Ae fns){d:Nat}(hd:d<=10)(hblk:1<=d->JZ G b fns d){p:Nat}{vs:List (List UInt8)}{next left:Int}(hB:Bd (2*Pd d+3000) p vs next left):
 AC Tryz.prog G iw [.ptr 1 5 0 0,.p (.int .i64 ((d:Int)+1))] (HG b p fns vs next left) (PG b fns (TQ (2*Pd d+3000) p vs next left) []):=by
 have hp:=hB.p
 have hv:=hB.v
 have hn0:=hB.n0
 have hn1:=hB.n1
 have hl0:=hB.l0
 have hl1:=hB.l1
 refine lX G (AC.go tR ?_)
 have hwl:IntKind.i64.wrap (left-1)=left-1:=ab (by omega) (by omega)
 have hsl:aL vs= .lst 1 (vs.map λw=>[.str w]):=rfl
 simp-implicitDefEqProofs[mv,HG,cn,hwl]
 refine(bc G b hb hl p (by omega) 13 _).mono ?_
 rintro r h ⟨k,rfl,rfl,hk⟩
 have dP:∀(m:Sm) (q:Nat) (rest:List AO) (v:AV) (vc:AV) (vs':List (List UInt8)) (next' left':Int),Fzs (.dead:: .dead:: .dead::rest) 3 [vc] [.p (aL vs')]->Fzs (.dead:: .dead:: .dead::rest) 3 [v] [.p (smL [m])]->m.sz<=2*Pd d+3000->(vs'=vs\/∃s:List UInt8,s.length<=8/\vs'=vs++[s])->Mv (2*Pd d+3000) p q next next' left left'->
  DG b fns (TQ (2*Pd d+3000) p vs next left) (.ret v) (rdO b q:: .row 5 [[.ptr 0 2 0 0,slE 2 3 (be fns),vc,.p (.int .i64 next'),.p (.int .i64 left')]]::bQ 3 (be fns)::rest):=λm q rest v vc vs' next' left' h1 h2 h3 h4 h5=>
  ⟨_,rest,q,_,_,vs',next',left',rfl,rfl,h1,h2,[m],rfl,by simp[aD];omega,by simp,by simp,h4,h5⟩
 by_cases hc:k<3/\vs≠[]
 ·obtain⟨hc1,hne⟩:=hc
  have hpos:0<vs.length:=Xd.2 hne
  have hc1':(k:Int)<3:=by omega
  have hv1:=hB.v
  simp-implicitDefEqProofs[aa,hsl,hc1,hc1',hpos]
  rw[←hsl]
  refine(Je G hb hl (p:=p+1) (by omega) vs hne (by omega) _).mono ?_
  rintro r h ⟨w,hw,rfl,rfl⟩
  have hw8:=hB.w w hw
  simp-implicitDefEqProofs[aa]
  refine(cW G (mC G hb hl (p:=p+1+1) (by omega) fns hf vs hB.shrt next (left-1) (d:=3) (by omega)) _ (by simp[below])).mono ?_
  rintro r h ⟨v,q,vs',n',l',rfl,rfl,⟨e,rfl,he⟩,h1,h2,rfl,rfl,rfl⟩
  have hec:=e.cs_eq
  simp-implicitDefEqProofs[aa,cn,hec]
  exact dP ⟨2,w,[e],[],[]⟩ q _ _ _ vs' n' (left-1) (.keep (by simp) .nil) (.one (bB (p0:=(Sm.mk 2 w [e] [] []).cs) rfl (Sm.cs_len _) (ce (dW (l:=[e]) (by rw[List.map_singleton,hec];rfl)) (View.nils 5) (View.nils 5))) .nil) (by simp[Sm.sz,aM,aD];omega) (.inl rfl) ⟨by omega,by omega,by omega,by omega,by omega,by omega⟩
 have hcc:(k<3/\0<vs.length)=False:=by
  simp only[eq_iff_iff,iff_false]
  exact λ⟨a,c⟩=>hc ⟨a,Xd.1 c⟩
 have hvz:(k:Int)<3->vs.length=0:=λh=>by
  by_cases e:vs=[]
  ·rw[e];rfl
  ·exact absurd ⟨by omega,e⟩ hc
 have hvx:=hB.shrt
 have hvv:=hB.v
 by_cases k5:(k:Int)<5
 ·by_cases k3:(k:Int)<3
  ·have hv0:=hvz k3
   simp-implicitDefEqProofs[aa,hsl,k3,hv0,k5]
   rw[←hsl]
   refine(cW G (mC G hb hl (p:=p+1) (by omega) fns hf vs hvx next (left-1) (d:=3) (by omega)) _ (by simp[below])).mono ?_
   rintro r h ⟨v,q,vs',n',l',rfl,rfl,⟨e,rfl,he⟩,h1,h2,rfl,rfl,rfl⟩
   have hec:=e.cs_eq
   have hL:=QB G hb hl (p:=q) (by omega) fns vs' hvx hn0 (by omega) (left-1) e
   rw[hec] at hL
   simp-implicitDefEqProofs[aa,cn,hec]
   refine(cW G hL _ (by simp[below])).mono ?_
   rintro r h ⟨v,q2,vs2,n2,l2,rfl,rfl,s,hs,rfl,h3,h4,rfl,rfl,rfl⟩
   have hsm:(Sm.mk 1 s [e] [] []).cs=[.int .i64 1,.str s,exL [e],smL [],smL []]:=Sm.cs_eq _
   simp-implicitDefEqProofs[aa,cn,hsm]
   exact dP ⟨1,s,[e],[],[]⟩ q2 _ _ _ (vs'++[s]) (n'+1) (left-1) (.keep (by simp) .nil) (.one (bB (p0:=(Sm.mk 1 s [e] [] []).cs) rfl (Sm.cs_len _) (ce (.p _) (.p _) (.p _))) .nil) (by simp[Sm.sz,aM,aD];omega) (.inr ⟨s,hs,rfl⟩) ⟨by omega,by omega,by omega,by omega,by omega,by omega⟩
  ·simp-implicitDefEqProofs[aa,hsl,k3,k5]
   rw[←hsl]
   refine(cW G (mC G hb hl (p:=p+1) (by omega) fns hf vs hvx next (left-1) (d:=3) (by omega)) _ (by simp[below])).mono ?_
   rintro r h ⟨v,q,vs',n',l',rfl,rfl,⟨e,rfl,he⟩,h1,h2,rfl,rfl,rfl⟩
   have hec:=e.cs_eq
   have hL:=QB G hb hl (p:=q) (by omega) fns vs' hvx hn0 (by omega) (left-1) e
   rw[hec] at hL
   simp-implicitDefEqProofs[aa,cn,hec]
   refine(cW G hL _ (by simp[below])).mono ?_
   rintro r h ⟨v,q2,vs2,n2,l2,rfl,rfl,s,hs,rfl,h3,h4,rfl,rfl,rfl⟩
   have hsm:(Sm.mk 1 s [e] [] []).cs=[.int .i64 1,.str s,exL [e],smL [],smL []]:=Sm.cs_eq _
   simp-implicitDefEqProofs[aa,cn,hsm]
   exact dP ⟨1,s,[e],[],[]⟩ q2 _ _ _ (vs'++[s]) (n'+1) (left-1) (.keep (by simp) .nil) (.one (bB (p0:=(Sm.mk 1 s [e] [] []).cs) rfl (Sm.cs_len _) (ce (.p _) (.p _) (.p _))) .nil) (by simp[Sm.sz,aM,aD];omega) (.inr ⟨s,hs,rfl⟩) ⟨by omega,by omega,by omega,by omega,by omega,by omega⟩
 have k3:¬(k:Int)<3:=by omega
 by_cases k7:(k:Int)<7\/d=0
 ·by_cases k7':(k:Int)<7
  ·simp-implicitDefEqProofs[aa,k3,k5,k7']
   refine(cW G (mC G hb hl (p:=p+1) (by omega) fns hf vs hvx next (left-1) (d:=3) (by omega)) _ (by simp[below])).mono ?_
   rintro r h ⟨v,q,vs',n',l',rfl,rfl,⟨e,rfl,he⟩,h1,h2,rfl,rfl,rfl⟩
   have hec:=e.cs_eq
   simp-implicitDefEqProofs[aa,cn,hec]
   exact dP ⟨3,[],[e],[],[]⟩ q _ _ _ vs' n' (left-1) (.keep (by simp) .nil) (.one (bB (p0:=(Sm.mk 3 [] [e] [] []).cs) rfl (Sm.cs_len _) (ce (dW (l:=[e]) (by rw[List.map_singleton,hec];rfl)) (View.nils 5) (View.nils 5))) .nil) (by simp[Sm.sz,aM,aD];omega) (.inl rfl) ⟨by omega,by omega,by omega,by omega,by omega,by omega⟩
  ·have hdl:(d:Int)+1<2:=by omega
   simp-implicitDefEqProofs[aa,k3,k5,k7',hdl]
   refine(cW G (mC G hb hl (p:=p+1) (by omega) fns hf vs hvx next (left-1) (d:=3) (by omega)) _ (by simp[below])).mono ?_
   rintro r h ⟨v,q,vs',n',l',rfl,rfl,⟨e,rfl,he⟩,h1,h2,rfl,rfl,rfl⟩
   have hec:=e.cs_eq
   simp-implicitDefEqProofs[aa,cn,hec]
   exact dP ⟨3,[],[e],[],[]⟩ q _ _ _ vs' n' (left-1) (.keep (by simp) .nil) (.one (bB (p0:=(Sm.mk 3 [] [e] [] []).cs) rfl (Sm.cs_len _) (ce (dW (l:=[e]) (by rw[List.map_singleton,hec];rfl)) (View.nils 5) (View.nils 5))) .nil) (by simp[Sm.sz,aM,aD];omega) (.inl rfl) ⟨by omega,by omega,by omega,by omega,by omega,by omega⟩
 have k7':¬(k:Int)<7:=λh=>k7 (.inl h)
 have hd1:1<=d:=by omega
 have hd2:¬((d:Int)+1)<2:=by omega
 have hblk2:JZ G b fns d:= @hblk hd1
 by_cases e7:(k:Int)=7
 ·simp-implicitDefEqProofs[aa,k3,k5,k7',hd2,e7]
  refine(cW G (MP G hb hl (p:=p+1) (by omega) fns hf vs hvx next (left-1)) _ (by simp[below])).mono ?_
  rintro r h ⟨v,q,vs',n',l',rfl,rfl,⟨e,rfl,he⟩,h1,h2,rfl,rfl,rfl⟩
  have hec:=e.cs_eq
  simp-implicitDefEqProofs[aa,cn,hec]
  refine(cW G (mC G hb hl (p:=q) (by omega) fns hf vs' hvx n' (left-1) (d:=2) (by omega)) _ (by simp[below])).mono ?_
  rintro r h ⟨v,q2,vs2,n2,l2,rfl,rfl,⟨e2,rfl,he2⟩,h3,h4,rfl,rfl,rfl⟩
  have hec2:=e2.cs_eq
  simp-implicitDefEqProofs[aa,cn,hec2]
  exact dP ⟨4,[],[e,e2],[],[]⟩ q2 _ _ _ vs2 n2 (left-1) (.keep (by simp) .nil) (.one (bB (p0:=(Sm.mk 4 [] [e,e2] [] []).cs) rfl (Sm.cs_len _) (ce (dW (l:=[e,e2]) (by rw[Wz,List.map_singleton,hec,hec2];rfl)) (View.nils 5) (View.nils 5))) .nil) (by simp[Sm.sz,aM,aD];omega) (.inl rfl) ⟨by omega,by omega,by omega,by omega,by omega,by omega⟩
 by_cases e8:(k:Int)=8
 ·simp-implicitDefEqProofs[aa,k3,k5,k7',hd2,e7,e8]
  refine(cW G (MP G hb hl (p:=p+1) (by omega) fns hf vs hvx next (left-1)) _ (by simp[below])).mono ?_
  rintro r h ⟨v,q,vs',n',l',rfl,rfl,⟨e,rfl,he⟩,h1,h2,rfl,rfl,rfl⟩
  have hec:=e.cs_eq
  simp-implicitDefEqProofs[aa,cn,hec]
  exact dP ⟨3,[],[⟨12,0,[],[e]⟩],[],[]⟩ q _ _ _ vs' n' (left-1) (.keep (by simp) .nil) (.one (bB (p0:=(Sm.mk 3 [] [⟨12,0,[],[e]⟩] [] []).cs) rfl (Sm.cs_len _) (ce (bB (p0:=(Ex.mk 12 0 [] [e]).cs) rfl (Ex.cs_len _) (ig (dW (l:=[e]) (by rw[List.map_singleton,hec];rfl)))) (View.nils 5) (View.nils 5))) .nil) (by simp[Sm.sz,Ex.sz,aM,aD];omega) (.inl rfl) ⟨by omega,by omega,by omega,by omega,by omega,by omega⟩
 have hwd:IntKind.i64.wrap ((d:Int)+1-1)=d:=by rw[ab (by omega) (by omega)];omega
 have hwd2:IntKind.i64.wrap (d:Int)=d:=ab (by omega) (by omega)
 by_cases k11:(k:Int)<11
 ·simp-implicitDefEqProofs[aa,k3,k5,k7',hd2,e7,e8,k11]
  refine(cW G (mC G hb hl (p:=p+1) (by omega) fns hf vs hvx next (left-1) (d:=3) (by omega)) _ (by simp[below])).mono ?_
  rintro r h ⟨v,q,vs',n',l',rfl,rfl,⟨e,rfl,he⟩,h1,h2,rfl,rfl,rfl⟩
  have hec:=e.cs_eq
  simp-implicitDefEqProofs[aa,cn,hec,hwd2]
  have hB2:Bd (Pd d) q vs' n' (left-1):=⟨by omega,by omega,hB.w,by omega,by omega,by omega,by omega⟩
  refine(tV G (hblk2 hB2) _).mono ?_
  rintro r h ⟨out,q2,n2,l2,rfl,rfl,z1,z2,m1,m2,m3,m4,m5,m6⟩
  simp-implicitDefEqProofs[aa,cn]
  refine(bc G b hb hl q2 (by omega) 2 _).mono ?_
  rintro r h ⟨k2,rfl,rfl,_⟩
  simp-implicitDefEqProofs[aa]
  refine aO (λhq=>?_) (λhq=>?_)
  ·simp-implicitDefEqProofs[hwd2]
   have hB3:Bd (Pd d) (q2+1) vs' n2 l2:=⟨by omega,by omega,hB.w,by omega,by omega,by omega,by omega⟩
   refine(tV G (hblk2 hB3) _).mono ?_
   rintro r h ⟨out2,q3,n3,l3,rfl,rfl,y1,y2,w1,w2,w3,w4,w5,w6⟩
   simp-implicitDefEqProofs[aa,cn]
   exact dP ⟨5,[],[e],out,out2⟩ q3 _ _ _ vs' n3 l3 (.keep (by simp) .nil) (.one (bB (p0:=(Sm.mk 5 [] [e] out out2).cs) rfl (Sm.cs_len _) (ce (dW (l:=[e]) (by rw[List.map_singleton,hec];rfl)) (lE rfl) (lE rfl))) .nil) (by simp[Sm.sz,aM];omega) (.inl rfl) ⟨by omega,by omega,by omega,by omega,by omega,by omega⟩
  ·simp-implicitDefEqProofs[]
   exact dP ⟨5,[],[e],out,[]⟩ (q2+1) _ _ _ vs' n2 l2 (.keep (by simp) .nil) (.one (bB (p0:=(Sm.mk 5 [] [e] out []).cs) rfl (Sm.cs_len _) (ce (dW (l:=[e]) (by rw[List.map_singleton,hec];rfl)) (lE rfl) (View.nils 5))) .nil) (by simp[Sm.sz,aM,aD];omega) (.inl rfl) ⟨by omega,by omega,by omega,by omega,by omega,by omega⟩
 by_cases e11:(k:Int)=11
 ·simp-implicitDefEqProofs[aa,k3,k5,k7',hd2,e7,e8,k11,e11]
  refine(bc G b hb hl (p+1) (by omega) 3 _).mono ?_
  rintro r h ⟨k2,rfl,rfl,_⟩
  simp-implicitDefEqProofs[aa]
  refine aO (λhq=>?_) (λhq=>?_)
  ·simp-implicitDefEqProofs[]
   refine(cW G (mC G hb hl (p:=p+1+1) (by omega) fns hf vs hvx next (left-1) (d:=2) (by omega)) _ (by simp[below])).mono ?_
   rintro r h ⟨v,q,vs',n',l',rfl,rfl,⟨e,rfl,he⟩,h1,h2,rfl,rfl,rfl⟩
   have hec:=e.cs_eq
   simp-implicitDefEqProofs[aa,cn,hec]
   exact dP ⟨7,[],[e],[],[]⟩ q _ _ _ vs' n' (left-1) (.keep (by simp) .nil) (.one (bB (p0:=(Sm.mk 7 [] [e] [] []).cs) rfl (Sm.cs_len _) (ce (dW (l:=[e]) (by rw[List.map_singleton,hec];rfl)) (View.nils 5) (View.nils 5))) .nil) (by simp[Sm.sz,aM,aD];omega) (.inl rfl) ⟨by omega,by omega,by omega,by omega,by omega,by omega⟩
  ·simp-implicitDefEqProofs[]
   have hBL:Bd (Pd d+60) (p+1+1) vs next (left-1):=⟨by omega,by omega,hB.w,hn0,by omega,by omega,by omega⟩
   refine(cW G (NY G hb hl fns hd hblk2 hBL) _ (by simp[below])).mono ?_
   rintro r h ⟨v,q,vs2,n2,l2,rfl,rfl,out,s,rfl,z1,z2,z3,hs,rfl,m1,m2,m3,m4,m5,m6⟩
   simp-implicitDefEqProofs[aa,cn]
   exact⟨_,_,q,_,_,vs++[s],n2,l2,rfl,rfl,.keep (by simp) .nil,.keep (by simp) .nil,out,rfl,by omega,z2,z3,.inr ⟨s,hs,rfl⟩,by omega,by omega,by omega,by omega,by omega,by omega⟩
 ·simp-implicitDefEqProofs[aa,k3,k5,k7',hd2,e7,e8,k11,e11]
  have hBL:Bd (Pd d+60) (p+1) vs next (left-1):=⟨by omega,by omega,hB.w,hn0,by omega,by omega,by omega⟩
  refine(cW G (NY G hb hl fns hd hblk2 hBL) _ (by simp[below])).mono ?_
  rintro r h ⟨v,q,vs2,n2,l2,rfl,rfl,out,s,rfl,z1,z2,z3,hs,rfl,m1,m2,m3,m4,m5,m6⟩
  simp-implicitDefEqProofs[aa,cn]
  exact⟨_,_,q,_,_,vs++[s],n2,l2,rfl,rfl,.keep (by simp) .nil,.keep (by simp) .nil,out,rfl,by omega,z2,z3,.inr ⟨s,hs,rfl⟩,by omega,by omega,by omega,by omega,by omega,by omega⟩
end
section
variable (G:aK)
structure BkS where (j m:Nat) (out:List Sm) (q:Nat) (vs:List (List UInt8)) (next left:Int)
theorem TX(d:Nat):5000<=Pd d:=by
 have:1<=20^d:=Nat.one_le_pow _ _ (by omega)
 simp only[Pd];omega
theorem Qc(d:Nat):Pd (d+1)=20*Pd d:=by simp only[Pd,Nat.pow_succ];omega
theorem DR{b:List Int}(hb:Byt b)(hl:b.length<=2000)(fns:List Fd)(hf:Ae fns){d:Nat}(hd:d<=10)(hblk:1<=d->JZ G b fns d):JZ G b fns (d+1):=by
 intro p vs next left hB
 have hp:=hB.p
 have hv:=hB.v
 have hn0:=hB.n0
 have hn1:=hB.n1
 have hl0:=hB.l0
 have hl1:=hB.l1
 have hP:=TX d
 have hPs:=Qc d
 generalize hN:Pd d=N at*
 rw[hPs] at hp hv hn1 hl0⊢
 have hGok:∀(vs:List (List UInt8)) (nx lf:Int),okO 4 (.row 5 [cn fns vs nx lf]):=λvs nx lf e he=>by
  rw[Wh.1 he];exact⟨by simp[below],ri (by omega),by simp,by simp,by simp,trivial⟩
 refine AC.go sE ?_
 simp-implicitDefEqProofs[lN,HG,cn]
 refine(mf G hb hl (p:=p) (by omega) [2,3,1,4] (k:=4) (by simp) (by simp) (by omega) rfl rfl).mono ?_
 rintro r h ⟨I,hI,rfl,rfl⟩
 obtain⟨J,rfl,hJ⟩:∃J:Nat,I=J/\J<=4:=⟨I.toNat,by simp at hI;omega,by simp at hI;omega⟩
 simp-implicitDefEqProofs[aa]
 refine aN (λs:BkS=>az 40 [(0,.ptr 1 5 0 0),(1,.p (.int .i64 ((d:Int)+1))),(5,.p (aL vs)),(6,.sl 3 5 0 s.out.length),(7,.p (.int .i64 s.j))])
  (λs=>[rdO b s.q,.row 5 [cn fns s.vs s.next s.left],bQ 3 (be fns),.row 5 (smR s.out)])
  (λs=>s.j+s.m<=4/\aD s.out<=s.m*(2*N+3000)/\s.out.length<=2*s.m/\p<=s.q/\s.q<=p+1+s.m*(2*N+3000)/\s.vs.length<=vs.length+s.m/\(∀w∈s.vs,w.length<=8)/\next<=s.next/\s.next<=next+((s.m*(2*N+3000):Nat):Int)/\left-((s.m*(2*N+3000):Nat):Int)<=s.left/\s.left<=left)
  (λs=>s.j) ⟨J,0,[],p+1,vs,next,left⟩ ⟨by simp only;omega,by simp[aD],by simp,by simp,by simp,by simp,hB.w,by simp,by simp,by simp,by simp⟩ ?_ ?_
 ·refine di (m:=4) (by omega) (bP (h1:=[rdO b (p+1),.row 5 [cn fns vs next left],bQ 3 (be fns),.row 5 (smR [])]) rfl rfl (aC (bt _ _ _) (aC (hGok _ _ _) (aC (mz _ _) (aC (ew (dT [])) gv))))) (by simp[below])
 rintro⟨j,m,out,q,vs',nx,lf⟩ ⟨i1,i2,i3,i4,i5,i6,i7,i8,i9,i10,i11⟩
 simp only at i1 i2 i3 i4 i5 i6 i7 i8 i9 i10 i11
 simp-implicitDefEqProofs[cn]
 have hm4:m*(2*N+3000)<=4*(2*N+3000):=WZ _ (by omega)
 by_cases hc:0<j/\0<lf
 ·obtain⟨c1,c2⟩:=hc
  have hm3:m*(2*N+3000)<=3*(2*N+3000):=WZ _ (by omega)
  have hms:(m+1)*(2*N+3000)=m*(2*N+3000)+(2*N+3000):=by rw[WW,Nat.one_mul]
  have hmsI:((m+1:Nat):Int)*(2*(N:Int)+3000)=((m*(2*N+3000)+(2*N+3000):Nat):Int):=by rw[←hms];simp
  generalize m*(2*N+3000)=M at*
  have hB2:Bd (2*Pd d+3000) q vs' nx lf:=by
   rw[hN];exact⟨by omega,by omega,i7,by omega,by omega,by omega,by omega⟩
  have hS:=RC G hb hl fns hf hd hblk hB2
  rw[hN] at hS
  simp-implicitDefEqProofs[c1,c2]
  refine(cW G hS _ (by simp[below])).mono ?_
  rintro r h ⟨v,q2,vs2,n2,l2,rfl,rfl,out2,rfl,z1,z2,z3,hvs,m1,m2,m3,m4,m5,m6⟩
  have hsl:smL out2= .lst 5 (out2.map Sm.cs):=rfl
  simp-implicitDefEqProofs[aa,cn,hsl]
  have hol:(smR out).length=out.length:=gt out
  have hwj:IntKind.i64.wrap ((j:Int)-1)=((j-1:Nat):Int):=by rw[ab (by omega) (by omega)];omega
  have hrow:List.take out.length (smR out)++List.map ((λx=>List.map AV.p x)∘Sm.cs) out2=smR (out++out2):=by
   rw[Wg (by omega),EB];rfl
  refine⟨⟨by omega,by omega,by omega⟩,⟨j-1,m+1,out++out2,q2,vs2,n2,l2⟩,⟨by simp only;omega,by simp only;rw[aV,hms];omega,by simp only;rw[Wq];omega,by simp only;omega,by simp only;rw[hms];omega,?_,?_,by simp only;omega,by simp only;rw[hmsI];omega,by simp only;rw[hmsI];omega,by simp only;omega⟩,by simp only;omega,?_⟩
  ·simp only
   rcases hvs with rfl|⟨s,_,rfl⟩
   ·omega
   ·rw[Wq,List.length_singleton];omega
  ·simp only
   rcases hvs with rfl|⟨s,hs,rfl⟩
   ·exact i7
   ·intro w hw
    rcases Wf.1 hw with h|h
    ·exact i7 w h
    ·rw[Wh.1 h];exact hs
  ·rw[hrow]
   refine fb [0,1,2,4] (by simp) (by decide) (by decide) (dA rfl (bt _ _ _) (cS ?_ ?_ (dA rfl (mz _ _) (bu rfl (dT _) da)))) (by simp[below,ren,hwj])
   ·intro x hx
    rw[Wh.1 hx];exact⟨by simp[below],ri (by simp),by simp,by simp,by simp,trivial⟩
   ·simp[cn,ren,bq]
 ·have hce:(decide (0<j)&&decide (0<lf))=false:=by
   by_cases h1:0<j
   ·have h2:¬0<lf:=λh=>hc ⟨h1,h⟩
    simp[h2]
   ·simp[h1]
  have fin:Ox b fns vs p (20*N) next left [] (.ret (.sl 3 5 0 out.length)) [rdO b q,.row 5 [[.ptr 0 2 0 0,slE 2 3 (be fns),.p (aL vs),.p (.int .i64 nx),.p (.int .i64 lf)]],bQ 3 (be fns),.row 5 (smR out)]:=
   ⟨out,q,nx,lf,rfl,rfl,by omega,by omega,by omega,by omega,by omega,by omega,by omega,by omega⟩
  by_cases h1:0<j
  ·have h2:¬0<lf:=λh=>hc ⟨h1,h⟩
   simp-implicitDefEqProofs[h1,h2]
   exact fin
  ·simp-implicitDefEqProofs[h1]
   exact fin
end
section
theorem zk:AK.whole kh=FK.ak jZ:=rfl
theorem Ep{h:List AO}{id:Nat}{out:List Sm}{m:Sm}{c:List AV}(e:h[id]?=some (.row 5 (smR out++[c])))(hc:∀(j:Nat) (q:PV) (a:AV),m.cs[j]?=some q->c[j]?=some a->View h a q):View h (.sl id 5 0 (out.length+1)) (smL (out++[m])):=by
 have hl:((out++[m]).map Sm.cs).length=out.length+1:=by simp
 have:=View.sl (h:=h) id 5 0 _ ((out++[m]).map Sm.cs) e (by rw[hl];simp[gt]) (λx hx=>by obtain⟨b,_,rfl⟩:=WC.1 hx;exact b.cs_len) (λi j e q e' a a1 a2 a3 a4=>?_)
 ·rwa[hl] at this
 rw[WT] at a3
 rw[List.map_append] at a1
 rcases WM i out.length with hi|hi
 ·rw[VY (by simpa using hi),Wt,Wa hi] at a1
  rw[VY (by simpa[gt] using hi),smR,Wt,Wa hi] at a3
  cases a1;cases a3
  rw[Wt,a2] at a4
  cases a4
  exact .p _
 ·rw[We (by simpa using hi)] at a1
  rw[We (by simpa[gt] using hi),gt] at a3
  rw[WD] at a1
  cases hd:i-out.length with
  |zero=>
   rw[hd] at a1 a3
   cases a1;cases a3
   exact hc j q a a2 a4
  |succ n=>rw[hd] at a3;simp at a3
variable (G:aK)
theorem Nb{b:List Int}(hb:Byt b)(hl:b.length<=2000)(fns:List Fd)(hf:Ae fns):JZ G b fns 3:=
 DR G hb hl fns hf (d:=2) (by omega) λ_=>DR G hb hl fns hf (d:=1) (by omega) λ_=>DR G hb hl fns hf (d:=0) (by omega) λh=>absurd h (by omega)
def abcW:List (List UInt8):=[[97],[98],[99]]
def fnQ(p:Nat)(name:List UInt8)(np:Nat)(left:Int)(v:AV)(q:Nat)(vs':List (List UInt8))(next' left':Int):Prop:=
 ∃f:Fd,v= .agg (f.cs.map .p)/\f.name=name/\f.params=abcW.take np/\aD f.body<=40000500/\p<=q/\q<=p+40000500/\left-40000500<=left'/\left'<=left
theorem SU{b:List Int}(hb:Byt b)(hl:b.length<=2000){p:Nat}(hp:p<=90000000000)(fns:List Fd)(hf:Ae fns)(vs:List (List UInt8))(next left:Int)(hl0: -1000000000<=left)(hl1:left<=1000000000)(name:List UInt8)(np:Nat)(hnp:np<=3):
 AC Tryz.prog G gm [.ptr 1 5 0 0,.p (.str name),.p (.int .i64 np)] (HG b p fns vs next left) (PG b fns (fnQ p name np left) []):=by
 refine lX G (AC.goK zl zk ?_)
 have hwn:IntKind.i64.wrap ((np:Int)-1)=(np:Int)-1:=ab (by omega) (by omega)
 have h3:(np:Int)<=3:=by omega
 simp-implicitDefEqProofs[kh,jZ,HG,cn,hwn,h3,hnp]
 refine oX (az 61 [(0,.ptr 1 5 0 0),(6,.ptr 3 3 0 0),(7,.ptr 4 3 0 0)]) [rdO b p,.row 5 [cn fns (abcW.take np) ((np:Int)-1) left],bQ 3 (be fns),.row 3 [[.p (.str []),.nils,.nils]],.row 3 [[.p (.str name),.p (aL (abcW.take np)),.nils]]] ?_ ?_
 ·have hlen:(abcW.take np).length=np:=by simp[abcW];omega
  simp-implicitDefEqProofs[hnp,hlen]
  refine⟨⟨by omega,by omega⟩,?_⟩
  have hcutR:fX (abcW.take np)= .row 1 (List.take np [[AV.p (PV.str [97])],[AV.p (PV.str [98])],[AV.p (PV.str [99])]]):=by
   simp only[fX,List.map_take];rfl
  rw[←hcutR]
  refine Wk.trans (Iz (h1:=[rdO b p,.row 5 [[.ptr 0 2 0 0,slE 2 3 (be fns),.sl 4 1 0 np,.p (.int .i64 ((np:Int)-1)),.p (.int .i64 left)]],bQ 3 (be fns),.row 3 [[.p (.str []),.nils,.nils]],fX (abcW.take np),.dead,fX (abcW.take np),.row 3 [[.p (.str name),.sl 6 1 0 np,.nils]]])
   ⟨.inl rfl,.inl rfl,.inl rfl,.inl rfl,.inr ⟨1,_,np,rfl,hcutR⟩,.inl rfl,.inl rfl,.inl rfl,trivial⟩) ?_
  refine Wk.trans (fb (l1:=[(0,.ptr 1 5 0 0),(6,.ptr 3 3 0 0),(7,.ptr 4 3 0 0)])
   (h1:=[rdO b p,.row 5 [[.ptr 0 2 0 0,slE 2 3 (be fns),.sl 5 1 0 np,.p (.int .i64 ((np:Int)-1)),.p (.int .i64 left)]],bQ 3 (be fns),.row 3 [[.p (.str []),.nils,.nils]],.row 3 [[.p (.str name),.sl 6 1 0 np,.nils]],fX (abcW.take np),fX (abcW.take np)])
   [0,1,2,3,7,4,6] (by simp) (by decide) (by decide) (dA rfl (bt _ _ _) (cS (by simp[below]) (by simp[ren,bq]) (dA rfl (mz _ _) (bu rfl (by simp[below]) (cS (by simp[below]) (by simp[ren,bq]) (dA rfl (rh _) (dA rfl (rh _) da))))))) (by simp[below,ren]))
   (ou 5 (by omega) (by simp) rfl (.same (bt _ _ _) (.one (.keep (by simp[below]) (.keep (ri (by omega)) (.one ?_ (.keep (by simp) (.keep (by simp) .nil))))) (.same (mz _ _) (.same (by simp[okO,below]) (.one (.keep (by simp) (.one ?_ (.keep (by simp[below]) .nil))) (.nil _)))))) ?_)
  ·have:=jk (l:=abcW.take np) (id:=5) (h:=mQ 5 [rdO b p,.row 5 [[.ptr 0 2 0 0,slE 2 3 (be fns),.sl 5 1 0 np,.p (.int .i64 ((np:Int)-1)),.p (.int .i64 left)]],bQ 3 (be fns),.row 3 [[.p (.str []),.nils,.nils]],.row 3 [[.p (.str name),.sl 6 1 0 np,.nils]],fX (abcW.take np),fX (abcW.take np)]) rfl
   rwa[hlen] at this
  ·have:=jk (l:=abcW.take np) (id:=6) (h:=mQ 5 [rdO b p,.row 5 [[.ptr 0 2 0 0,slE 2 3 (be fns),.sl 5 1 0 np,.p (.int .i64 ((np:Int)-1)),.p (.int .i64 left)]],bQ 3 (be fns),.row 3 [[.p (.str []),.nils,.nils]],.row 3 [[.p (.str name),.sl 6 1 0 np,.nils]],fX (abcW.take np),fX (abcW.take np)]) rfl
   rwa[hlen] at this
  ·exact⟨.keep (by simp[below]) .nil,.keep (by simp[below]) .nil,.keep (by simp[below]) .nil,trivial⟩
 have hlen:(abcW.take np).length<=3:=by simp[abcW];omega
 have hw8:∀s∈abcW.take np,s.length<=8:=by
  intro s hs
  have:=Xf hs
  simp only[abcW,Wd,WV,or_false] at this
  rcases this with rfl|rfl|rfl<;>simp
 have hPd:Pd 3=40000000:=rfl
 have hB:Bd (Pd 3) p (abcW.take np) ((np:Int)-1) left:=by rw[hPd];exact⟨by omega,by omega,hw8,by omega,by omega,by omega,by omega⟩
 simp-implicitDefEqProofs[cn]
 refine(tV G (Nb G hb hl fns hf hB) _).mono ?_
 rintro r h ⟨out,q,n2,l2,rfl,rfl,z1,z2,m1,m2,m3,m4,m5,m6⟩
 rw[hPd] at z1 m2 m4 m5
 simp-implicitDefEqProofs[aa,cn]
 have fin:∀(out:List Sm) (q:Nat) (l2:Int) (rest:List AO) (v:AV) (vc:AV) (vs':List (List UInt8)) (n2:Int),Fzs (.dead:: .dead:: .dead::rest) 3 [vc] [.p (aL vs')]->Fzs (.dead:: .dead:: .dead::rest) 3 [v] [.agg ((Fd.mk name (abcW.take np) out).cs.map .p)]->aD out<=40000500->p<=q->q<=p+40000500->left-40000500<=l2->l2<=left->
  DG b fns (fnQ p name np left) (.ret v) (rdO b q:: .row 5 [[.ptr 0 2 0 0,slE 2 3 (be fns),vc,.p (.int .i64 n2),.p (.int .i64 l2)]]::bQ 3 (be fns)::rest):=λout q l2 rest v vc vs' n2 h1 h2 h3 h4 h5 h6 h7=>
  ⟨_,rest,q,_,_,vs',n2,l2,rfl,rfl,h1,h2,⟨name,abcW.take np,out⟩,rfl,rfl,rfl,h3,h4,h5,h6,h7⟩
 by_cases hl2:0<l2
 ·simp-implicitDefEqProofs[hl2]
  refine(bc G b hb hl q (by omega) 4 _).mono ?_
  rintro r h ⟨k,rfl,rfl,_⟩
  simp-implicitDefEqProofs[aa]
  refine aO (λhc=>?_) (λhc=>?_)
  ·have hwl:IntKind.i64.wrap (l2-1)=l2-1:=ab (by omega) (by omega)
   simp-implicitDefEqProofs[hwl]
   have hShrt:uB (abcW.take np):=⟨by omega,hw8⟩
   refine(cW G (mC G hb hl (p:=q+1) (by omega) fns hf (abcW.take np) hShrt n2 (l2-1) (d:=2) (by omega)) _ (by simp[below])).mono ?_
   rintro r h ⟨v,q2,vs2,n3,l3,rfl,rfl,⟨e,rfl,he⟩,h1,h2,hvs,rfl,rfl⟩
   subst hvs
   have hec:=e.cs_eq
   have hol:(smR out).length=out.length:=gt out
   simp-implicitDefEqProofs[aa,cn,hec,hol]
   refine⟨⟨by omega,by omega⟩,?_⟩
   have htk:List.take out.length (smR out)=smR out:=Wg (by omega)
   rw[htk]
   have hm:(Sm.mk 7 [] [e] [] []).cs=[.int .i64 7,.str [],.lst 4 [[.int .i64 e.op,.int .i64 e.n,.str e.name,exL e.kids]],.lst 5 [],.lst 5 []]:=by
    rw[Sm.cs_eq,←hec];rfl
   refine fin (out++[⟨7,[],[e],[],[]⟩]) q2 (l2-1) _ _ _ (abcW.take np) n3 (.keep (by simp) .nil) (.agg (.keep (by simp) (.keep (by simp) (.one (Ep rfl ?_) .nil))) .nil) (by simp[aV,aD,Sm.sz,aM];omega) (by omega) (by omega) (by omega) (by omega)
   intro j q a a1 a2
   rw[hm] at a1
   match j,a1,a2 with
   |0,a1,a2=>cases a1;cases a2;exact .p _
   |1,a1,a2=>cases a1;cases a2;exact .p _
   |2,a1,a2=>cases a1;cases a2;exact .p _
   |3,a1,a2=>cases a1;cases a2;exact View.e 0 5
   |4,a1,a2=>cases a1;cases a2;exact View.e 0 5
   |j+5,a1,a2=>simp at a1
  ·simp-implicitDefEqProofs[]
   exact fin out (q+1) l2 _ _ _ (abcW.take np) n2 (.keep (by simp) .nil) (.agg (.keep (by simp) (.keep (by simp) (.one (lE rfl) .nil))) .nil) (by omega) (by omega) (by omega) (by omega) (by omega)
 ·simp-implicitDefEqProofs[hl2]
  exact fin out q l2 _ _ _ (abcW.take np) n2 (.keep (by simp) .nil) (.agg (.keep (by simp) (.keep (by simp) (.one (lE rfl) .nil))) .nil) (by omega) (by omega) (by omega) (by omega) (by omega)
end
section
theorem Az{h:List AO}{s:List UInt8}{ps:List (List UInt8)}{bd:List Sm}{P B:AV}(hP:View h P (aL ps))(hB:View h B (smL bd)):∀(j:Nat) (q:PV) (x:AV),(Fd.mk s ps bd).cs[j]?=some q->[AV.p (.str s),P,B][j]?=some x->View h x q:=by
 intro j q x e1 e2
 match j,e1,e2 with
 |0,e1,e2=>cases e1;cases e2;exact .p _
 |1,e1,e2=>cases e1;cases e2;exact hP
 |2,e1,e2=>cases e1;cases e2;exact hB
 |j+3,e1,e2=>simp[Fd.cs] at e1
theorem vf{h:List AO}{id:Nat}{l:List Fd}(e:h[id]?=some (.row 3 (be l))):View h (.sl id 3 0 l.length) (fdL l):=by
 have:=iA (h:=h) (id:=id) (sz:=3) (n:=l.length) (ls:=l.map Fd.cs) (by rw[e,be];simp) (by simp) (λx hx=>by obtain⟨b,_,rfl⟩:=WC.1 hx;exact b.cs_len)
 exact this
theorem Fb(a b:List Fd):be (a++b)=be a++be b:=by simp[be]
theorem AE(a:List Fd):(be a).length=a.length:=by simp[be]
theorem kV(a b:List Fd):aW (a++b)=aW a+aW b:=by simp[aW]
def RI:List Fd:=[⟨[109],[],[⟨3,[],[⟨1,1,[],[]⟩],[],[]⟩]⟩]
theorem Iw:bn RI=true:=by decide
theorem Jq(k:Nat)(hk:k<=3):(abcW.take k).length+((abcW.take k).map List.length).sum<=6:=by
 have h:k=0\/k=1\/k=2\/k=3:=by omega
 rcases h with rfl|rfl|rfl|rfl<;>decide
variable (G:aK)
structure PgS where (j:Nat) (fns:List Fd) (q:Nat) (vs:List (List UInt8)) (next left:Int)
def Vy(b:List Int)(p n:Nat)(x:ARes)(h:List AO):Prop:=∃(l:List Fd) (q:Nat),x= .ret (.agg [.p (fdL l)])/\h=[rdO b q]/\bn l=true/\aW l<=200000000/\p<=q/\q<=p+n
def Vh(b:List Int)(p n:Nat)(x:ARes)(h:List AO):Prop:=∃(l:List Fd) (q:Nat) (v:AV) (rest:List AO),x= .ret (.agg [v])/\h=rdO b q::rest/\View (mQ 1 h) v (fdL l)/\bn l=true/\aW l<=200000000/\p<=q/\q<=p+n
theorem MO{b:List Int}(hb:Byt b)(hl:b.length<=2000){p:Nat}(hp:p<=10000000000):AC Tryz.prog G ed [.ptr 0 2 0 0] [rdO b p] (Vy b p 200000000):=by
 refine AC.frz (R:=Vh b p 200000000) ?_ 1 (by simp) (λt v h ⟨_,_,_,_,e,_⟩=>by cases e) ?_
 ·refine AC.go Ck ?_
  simp-implicitDefEqProofs[sw]
  refine(mf G hb hl (p:=p) (by omega) [14,20,8,26] (k:=2) (by simp) (by simp) (by omega) rfl rfl).mono ?_
  rintro r h ⟨L0,hL0,rfl,rfl⟩
  have hL:0<=L0/\L0<=26:=by simp at hL0;omega
  simp-implicitDefEqProofs[aa]
  refine(mf G hb hl (p:=p+1) (by omega) [0,1,1,2] (k:=4) (by simp) (by simp) (by omega) rfl rfl).mono ?_
  rintro r h ⟨J0,hJ0,rfl,rfl⟩
  obtain⟨J,rfl,hJ⟩:∃J:Nat,J0=J/\J<=2:=⟨J0.toNat,by simp at hJ0;omega,by simp at hJ0;omega⟩
  simp-implicitDefEqProofs[aa]
  refine aN (λs:PgS=>az 69 [(0,.ptr 0 2 0 0),(2,.ptr 3 1 0 0),(3,.ptr 1 5 0 0),(4,.p (.int .i64 s.j))])
   (λs=>[rdO b s.q,.row 5 [cn s.fns s.vs s.next s.left],bQ 3 (be s.fns),.row 1 [[.nils]]])
   (λs=>s.j+s.fns.length<=2/\Ae s.fns/\aW s.fns<=s.fns.length*40000600/\p<=s.q/\s.q<=p+2+s.fns.length*40000600/\L0-s.fns.length*40000600<=s.left/\s.left<=L0)
   (λs=>s.j) ⟨J,[],p+1+1,[],0,L0⟩ ⟨by simp only[WP];omega,⟨by simp,by simp⟩,by simp[aW],by simp only;omega,by simp,by simp,by simp⟩ ?_ ?_
  ·refine Wk.trans (fb (l1:=[(0,.ptr 0 2 0 0),(2,.ptr 3 1 0 0),(3,.ptr 1 5 0 0),(4,.p (.int .i64 J))])
    (h1:=[rdO b (p+1+1),.row 5 [[.ptr 0 2 0 0,.nils,.nils,.p (.int .i64 0),.p (.int .i64 L0)]],.dead,.row 1 [[.nils]]])
    [0,3,2,1] (by simp) (by decide) (by decide) (dA rfl (bt _ _ _) (cS (by simp[below]) (by simp[ren,bq]) (eB (by simp) (bu rfl (by simp[below]) da)))) (by simp[below,ren]))
    (ou 4 (by omega) (by simp) rfl (.same (bt _ _ _) (.one (.keep (by simp[below]) (.keep (by simp[below,be,slE]) (.one (View.nils 1) (.keep (by simp) (.keep (by simp) .nil))))) (.dead (.same (by simp[okO,below]) (.nil _))))) ?_)
   exact⟨.keep (by simp[below]) .nil,.keep (by simp[below]) .nil,.keep (by simp[below]) .nil,.keep (by simp[below]) .nil,trivial⟩
  rintro⟨j,fns,q,vs,nx,lf⟩ ⟨i1,i2,i3,i4,i5,i6,i7⟩
  simp only at i1 i2 i3 i4 i5 i6 i7
  simp-implicitDefEqProofs[cn]
  by_cases hj:0<j
  ·have hfl:fns.length<3:=by omega
   have hcl:(be fns).length=fns.length:=AE fns
   obtain⟨nm,hget,hnm⟩:∃nm:List UInt8,([[PV.str [102]],[PV.str [103]],[PV.str [104]]]:List (List PV))[fns.length]?=some [.str nm]/\nm.length<=8:=by
    have h3:fns.length=0\/fns.length=1\/fns.length=2:=by omega
    rcases h3 with h|h|h<;>rw[h]
    ·exact⟨[102],rfl,by simp⟩
    ·exact⟨[103],rfl,by simp⟩
    ·exact⟨[104],rfl,by simp⟩
   simp-implicitDefEqProofs[hj,hcl,hget]
   refine(bc G b hb hl q (by omega) 3 _).mono ?_
   rintro r h ⟨k,rfl,rfl,hk⟩
   have hk3:k<=3:=by omega
   simp-implicitDefEqProofs[aa,hcl,hget]
   refine(cW G (SU G hb hl (p:=q+1) (by omega) fns i2 vs nx lf (by omega) (by omega) nm k hk3) _ (by simp[below])).mono ?_
   rintro r h ⟨v,q2,vs2,n2,l2,rfl,rfl,f,rfl,hf1,hf2,z1,z2,z3,z4,z5⟩
   have hcs:=f.cs_len
   have hcf:f.cs=[.str f.name,aL f.params,smL f.body]:=rfl
   simp-implicitDefEqProofs[aa,cn,hcf]
   have hfs:f.sz<=40000600:=by
    have h1:f.sz=1+f.name.length+(f.params.length+(f.params.map List.length).sum)+aD f.body:=rfl
    have h2:=Jq k hk3
    rw[←hf2] at h2
    rw[hf1] at h1
    omega
   have hwj:IntKind.i64.wrap ((j:Int)-1)=((j-1:Nat):Int):=by rw[ab (by omega) (by omega)];omega
   have hfp:f.params.length<=3:=by rw[hf2];simp[abcW];omega
   have hrow:be fns++[[AV.p (.str f.name),.p (aL f.params),.p (smL f.body)]]=be (fns++[f]):=by rw[Fb];rfl
   have hne:be (fns++[f])≠[]:=by simp[be]
   have hll:(be fns).length+1=(be (fns++[f])).length:=by simp[be]
   rw[hrow,hll]
   refine⟨⟨by rw[←hll,hcl];omega,by omega⟩,⟨j-1,fns++[f],q2,vs2,n2,l2⟩,⟨by simp;omega,⟨by simp;omega,?_⟩,by simp only[kV,Wq];simp[aW] at*;omega,by simp only;omega,by simp;omega,by simp;omega,by simp only;omega⟩,by simp only;omega,?_⟩
   ·intro x hx
    rcases Wf.1 hx with h|h
    ·exact i2.2 x h
    ·rw[Wh.1 h,hf1];exact⟨hnm,hfp⟩
   ·rw[dE hne,fg hne]
    refine fb [0,1,5,3] (by simp) (by decide) (by decide) (dA rfl (bt _ _ _) (cS (by simp[below]) (by simp[ren,bq]) (bu rfl (vt _) (bu rfl (by simp[below]) da)))) (by simp[below,ren,hwj])
  ·simp-implicitDefEqProofs[hj]
   refine(mf G hb hl (p:=q) (by omega) [0,1,2,1] (k:=4) (by simp) (by simp) (by omega) rfl rfl).mono ?_
   rintro r h ⟨N0,hN0,rfl,rfl⟩
   obtain⟨np,rfl,hnp⟩:∃J:Nat,N0=J/\J<=2:=⟨N0.toNat,by simp at hN0;omega,by simp at hN0;omega⟩
   simp-implicitDefEqProofs[aa]
   refine(cW G (SU G hb hl (p:=q+1) (by omega) fns i2 vs nx lf (by omega) (by omega) [109] np (by omega)) _ (by simp[below])).mono ?_
   rintro r h ⟨v,q2,vs2,n2,l2,rfl,rfl,f,rfl,hf1,hf2,z1,z2,z3,z4,z5⟩
   have hcf:f.cs=[.str f.name,aL f.params,smL f.body]:=rfl
   have hcl:(be fns).length=fns.length:=AE fns
   have hfs:f.sz<=40000600:=by
    have h1:f.sz=1+f.name.length+(f.params.length+(f.params.map List.length).sum)+aD f.body:=rfl
    have h2:=Jq np (by omega)
    rw[←hf2] at h2
    rw[hf1] at h1
    simp at h1
    omega
   by_cases hfe:fns=[]
   ·subst hfe
    have h0:be []=[]:=rfl
    rw[h0]
    simp-implicitDefEqProofs[aa,cn,hcf,h0,zF,BC]
    have hrow:[[AV.p (.str f.name),.p (aL f.params),.p (smL f.body)]]=be [f]:=rfl
    rw[hrow]
    have vw:∀h:List AO,h[8]?=some (.row 3 (be [f]))->View h (.sl 8 3 0 1) (fdL [f]):=λh e=>vf (l:=[f]) e
    refine((kY G [f] (by simp only[aW,Wz,WY,List.sum_cons,List.sum_nil] at*;omega)).lend (.agg (.one (vw _ rfl) .nil) .nil) rfl).mono ?_
    rintro r h ⟨rfl,rfl⟩
    simp-implicitDefEqProofs[aa]
    by_cases hok:bn [f]=true
    ·simp-implicitDefEqProofs[hok]
     exact⟨[f],q2,_,_,rfl,rfl,vw _ rfl,hok,by simp only[aW,Wz,WY,List.sum_cons,List.sum_nil] at*;omega,by omega,by omega⟩
    ·have hok':bn [f]=false:=by simpa using hok
     simp-implicitDefEqProofs[hok']
     exact⟨RI,q2,_,_,rfl,rfl,bB (p0:=(Fd.mk [109] [] [⟨3,[],[⟨1,1,[],[]⟩],[],[]⟩]).cs) rfl rfl (Az (View.nils 1) (bB (p0:=(Sm.mk 3 [] [⟨1,1,[],[]⟩] [] []).cs) rfl (Sm.cs_len _) (ce (bB (p0:=(Ex.mk 1 1 [] []).cs) rfl (Ex.cs_len _) (ig (View.nils 4))) (View.nils 5) (View.nils 5)))),Iw,by decide,by omega,by omega⟩
   ·have h0:be fns≠[]:=λh=>hfe (List.map_eq_nil_iff.1 h)
    simp only[cn,fg h0,dE h0]
    simp-implicitDefEqProofs[aa,hcf,hcl]
    refine⟨⟨by omega,by omega⟩,⟨by omega,by omega⟩,?_⟩
    have hrow:List.take fns.length (List.take fns.length (be fns))++[[AV.p (.str f.name),.p (aL f.params),.p (smL f.body)]]=be (fns++[f]):=by
     rw[Wg (by rw[Wv];omega),Wg (by omega),Fb];rfl
    rw[hrow]
    have vw:∀h:List AO,h[8]?=some (.row 3 (be (fns++[f])))->View h (.sl 8 3 0 (fns.length+1)) (fdL (fns++[f])):=λh e=>by
     have:=vf e
     rwa[Wq,List.length_singleton] at this
    refine((kY G (fns++[f]) (by rw[kV];simp only[aW,Wz,WY,List.sum_cons,List.sum_nil] at*;omega)).lend (.agg (.one (vw _ rfl) .nil) .nil) rfl).mono ?_
    rintro r h ⟨rfl,rfl⟩
    simp-implicitDefEqProofs[aa]
    by_cases hok:bn (fns++[f])=true
    ·simp-implicitDefEqProofs[hok]
     exact⟨fns++[f],q2,_,_,rfl,rfl,vw _ rfl,hok,by rw[kV];simp only[aW,Wz,WY,List.sum_cons,List.sum_nil] at*;omega,by omega,by omega⟩
    ·have hok':bn (fns++[f])=false:=by simpa using hok
     simp-implicitDefEqProofs[hok']
     exact⟨RI,q2,_,_,rfl,rfl,bB (p0:=(Fd.mk [109] [] [⟨3,[],[⟨1,1,[],[]⟩],[],[]⟩]).cs) rfl rfl (Az (View.nils 1) (bB (p0:=(Sm.mk 3 [] [⟨1,1,[],[]⟩] [] []).cs) rfl (Sm.cs_len _) (ce (bB (p0:=(Ex.mk 1 1 [] []).cs) rfl (Ex.cs_len _) (ig (View.nils 4))) (View.nils 5) (View.nils 5)))),Iw,by decide,by omega,by omega⟩
 ·rintro v h ⟨l,q,v0,rest,e,rfl,hv,h1,h2,h3,h4⟩
  cases e
  exact⟨_,[rdO b q],by simp,rfl,.agg (.one hv .nil) .nil,.same (bt _ _ _) (.nil _),l,q,rfl,rfl,h1,h2,h3,h4⟩
end
end Go.Proofs.YtghpabfdmbdpfaaGreatDoor
