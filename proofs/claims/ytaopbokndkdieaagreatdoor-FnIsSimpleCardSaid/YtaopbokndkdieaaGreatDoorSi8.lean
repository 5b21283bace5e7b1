/-
  Contracts and lemmas that the card needs, part 8.
-/
import Derived.Test.YtaopbokndkdieaaGreatDoorSi7
namespace Go.Proofs.YtaopbokndkdieaaGreatDoor
open Go Go.Aw
set_option maxRecDepth 100000
set_option maxHeartbeats 4000000
variable (G:aJ)
theorem LP{f:FuncId}{args:List AV}{h h1:List AO}{v:AV}(H:AC Tryz.prog G f args h fun x h'=>x= .ret v∧∃l,h'=h1++l)(hl:h1.length=h.length)(ho:∀o∈h1,okO h.length o)(hv:below h.length v):
 AC Tryz.prog G f args h fun x h'=>x= .ret v∧h'=h1:=by
 refine H.wk (fun t v h ⟨e,_⟩=>by cases e) ?_
 rintro u h' ⟨e,l,rfl⟩
 cases e
 refine⟨v,h1,vC (n:=h.length) (Rj _) (eE ?_ hl ho) ?_,rfl,rfl⟩
 ·rw[←hl,List.take_left'];rfl
 ·simp[Fgt,hv]
theorem Mc{f:FuncId}{args:List AV}{b0:AO}{fns:List Fd}{k:Nat}{c c':Int}{ch ch':List GS}{v:AV}(H:AC Tryz.prog G f args (CH b0 fns k c ch) fun x h=>x= .ret v∧h=CH b0 fns k c' ch')(hb:okO 0 b0)(hs:xv ch)(hl:scL ch'=scL ch)(rest:List AO)(ha:ah (2+scL ch) args):
 AC Tryz.prog G f args (CH b0 fns k c ch++rest) fun x h=>x= .ret v∧h=CH b0 fns k c' ch'++rest:=by
 refine(AC.pre H rest (by rw[jb];exact ha) (by rw[jb];exact AL hb hs (Rj _)) ?_).mono ?_
 ·rintro x h ⟨_,rfl⟩;rw[jb,jb,hl]
 ·rintro x h ⟨h1,⟨rfl,rfl⟩,rfl⟩
  exact⟨rfl,rfl⟩
def bxs(ch:List GS)(q:List AV):List AO:=[.row 1 [[.ptr 1 3 0 0]],.row 4 [q],.row 1 [[upV ch]]]
def qa(b0:AO)(fns:List Fd)(k:Nat)(ch:List GS)(q:List PV)(hb:okO 0 b0)(hs:xv ch):Vis Int where
 I:=fun c=>CH b0 fns k c ch++bxs ch (q.map .p)
 n:=2+scL ch+3
 F:=cG
 caps:=[.ptr (2+scL ch+2) 1 0 0,.ptr (2+scL ch) 1 0 0]
 len:=fun c=>by rw[Rn,jb];rfl
 ok:=fun c o ho=>by
  rcases Rf.1 ho with h|h
  ·exact AL hb hs (by omega) o h
  ·simp only[bxs,Rt,List.not_mem_nil,or_false] at h
   rcases h with rfl|rfl|rfl
   ·intro e he;rw[Ri.1 he];exact⟨by simp only[below];omega,trivial⟩
   ·intro e he;rw[Ri.1 he];exact aW (Nat.zero_le _) _ (by simp)
   ·intro e he;rw[Ri.1 he];exact⟨kw ch (by omega),trivial⟩
 capsOk:=by simp[below]
def eH(b0:AO)(fns:List Fd)(k:Nat)(ch:List GS)(q:List PV)(e:Ex)(c:Int):List AO:=b0::cO fns k c::(scH ch++(bxs ch (q.map .p)++[.row 4 [[.p (.int .i64 e.op),.p (.int .i64 e.n),.p (.str e.name),.p (exL e.kids)]]]))
section
variable {b0:AO} {fns:List Fd} {k:Nat} {ch:List GS} {q:List PV} {e:Ex} {c:Int}
theorem eH_eq{hb:okO 0 b0}{hs:xv ch}:(qa b0 fns k ch q hb hs).I c++[.row 4 [[.p (.int .i64 e.op),.p (.int .i64 e.n),.p (.str e.name),.p (exL e.kids)]]]=eH b0 fns k ch q e c:=by
 simp[qa,eH,CH]
theorem Lk:(eH b0 fns k ch q e c)[1]?=some (.row 3 [[.p (fdL fns),.p (.int .i64 k),.p (.int .i64 c)]]):=rfl
theorem JO(i:Nat):(eH b0 fns k ch q e c)[2+scL ch+i]?=(bxs ch (q.map .p)++[.row 4 [[.p (.int .i64 e.op),.p (.int .i64 e.n),.p (.str e.name),.p (exL e.kids)]]])[i]?:=by
 rw[eH,show 2+scL ch+i=(scL ch+i)+1+1 by omega,Rg,Rg]
 exact JZ (lU ch) i
theorem Ge:(eH b0 fns k ch q e c)[2+scL ch]?=some (.row 1 [[.ptr 1 3 0 0]]):=JO 0
theorem NU:(eH b0 fns k ch q e c)[2+scL ch+2]?=some (.row 1 [[upV ch]]):=JO 2
theorem HE:(eH b0 fns k ch q e c)[2+scL ch+3]?=some (.row 4 [[.p (.int .i64 e.op),.p (.int .i64 e.n),.p (.str e.name),.p (exL e.kids)]]):=JO 3
end
theorem Hi{fns:List Fd}{s:List UInt8}{j:Nat}(h:dX fns s=some j):j<fns.length:=by
 rw[dX,Rv] at h;exact h.1
theorem Hv(b0:AO){fns:List Fd}{k:Nat}(hf:fns.length≤1073741824)(hk:k≤fns.length)(ch:List GS)(q:List PV)(hb:okO 0 b0)(hs:xv ch)(c:Int)(e:Ex)(he:e.sz≤1073741824):
 AC Tryz.prog G cG (.agg (e.cs.map .p)::(qa b0 fns k ch q hb hs).caps) ((qa b0 fns k ch q hb hs).I c) fun x h=>x= .ret (.tup [])∧h=(qa b0 fns k ch q hb hs).I (gR fns k (sco ch) c e):=by
 refine(qa b0 fns k ch q hb hs).trim G (AC.go nV ?_) (by simp[below])
 have hec:=e.cs_eq
 have hlen:((qa b0 fns k ch q hb hs).I c).length=2+scL ch+3:=(qa b0 fns k ch q hb hs).len c
 have hcaps:(qa b0 fns k ch q hb hs).caps=[.ptr (2+scL ch+2) 1 0 0,.ptr (2+scL ch) 1 0 0]:=rfl
 have fin:∀c',(∃l,eH b0 fns k ch q e c'=(qa b0 fns k ch q hb hs).I c'++l):=fun c'=>⟨_,eH_eq.symm⟩
 have hfail:∀n,AC Tryz.prog G aH [.ptr 1 3 0 0,.p (.int .i64 n)] (eH b0 fns k ch q e c) fun x h=>x= .ret (.tup [])∧h=eH b0 fns k ch q e (fl c n):=fun n=>zz G b0 fns k c n _
 have hkl:=bi e.kids
 have hsz:=e.sz_eq
 rw[hcaps]
 simp-implicitDefEqProofs[iM,hec,hlen]
 rw[eH_eq]
 generalize hV:(qa b0 fns k ch q hb hs).I=VI at fin⊢
 by_cases o2:e.op=2
 ·have hfind:AC Tryz.prog G cn [upV ch,.p (.str e.name)] (eH b0 fns k ch q e c) fun x h=>x= .ret (.tup [.p (.int .i64 (((ic (sco ch) e.name).getD 0:Nat):Int)),.p (.bool (ic (sco ch) e.name).isSome)])∧h=eH b0 fns k ch q e c:=GI G b0 (cO fns k c) ch _ e.name
  simp-implicitDefEqProofs[o2,Ge,NU,HE,Lk]
  refine hfind.mono ?_
  rintro r h ⟨rfl,rfl⟩
  cases hfs:ic (sco ch) e.name with
  |some n=>
   have hv:gR fns k (sco ch) c e=c:=by simp[gR,o2,hfs]
   rw[hv]
   simp-implicitDefEqProofs[aa]
   exact fin c
  |none=>
   have hv:gR fns k (sco ch) c e=fl c 3:=by simp[gR,o2,hfs]
   rw[hv]
   simp-implicitDefEqProofs[aa,Ge]
   refine(hfail 3).mono ?_
   rintro r h ⟨rfl,rfl⟩
   simp-implicitDefEqProofs[aa]
   exact fin _
 by_cases o13:e.op=13
 ·have hfl:fdL fns= .lst 3 (fns.map Fd.cs):=rfl
  have hfk:fdL (fns.take k)= .lst 3 ((fns.map Fd.cs).take k):=by rw[←List.map_take];rfl
  have hxl:exL e.kids= .lst 4 (e.kids.map Ex.cs):=rfl
  have hAt:=Hh G (fns.take k) e.name (by rw[Ru];omega)
  rw[hfk] at hAt
  simp-implicitDefEqProofs[o13,Ge,NU,HE,Lk,hfl,hk]
  refine hAt.use ?_
  cases hfa:dX (fns.take k) e.name with
  |none=>
   have hv:gR fns k (sco ch) c e=fl c 4:=by simp[gR,o13,hfa]
   rw[hv]
   simp-implicitDefEqProofs[ixI,Ge]
   refine(hfail 4).mono ?_
   rintro r h ⟨rfl,rfl⟩
   simp-implicitDefEqProofs[aa]
   exact fin _
  |some j=>
   have hj:=Hi hfa
   rw[Ru] at hj
   have hjl:j<fns.length:=by omega
   have hg:=QW hjl
   have hjn:¬(j:Int)<0:=by omega
   have hcs:fns[j].cs=[.str fns[j].name,az fns[j].params,smL fns[j].body]:=rfl
   have hst:az fns[j].params= .lst 1 (fns[j].params.map fun w=>[.str w]):=rfl
   have hpn:yg fns j=fns[j].params.length:=by simp[yg,hg]
   by_cases hp:fns[j].params.length=e.kids.length
   ·have hv:gR fns k (sco ch) c e=c:=by simp[gR,o13,hfa,hpn,hp]
    rw[hv]
    simp-implicitDefEqProofs[ixI,Ge,Lk,HE,hjn,hfl,hg,hcs,hst,hxl,hp]
    exact fin _
   ·have hv:gR fns k (sco ch) c e=fl c 5:=by simp[gR,o13,hfa,hpn,hp]
    have hp':¬(fns[j].params.length:Int)=(e.kids.length:Int):=by omega
    rw[hv]
    simp-implicitDefEqProofs[ixI,Ge,Lk,HE,hjn,hfl,hg,hcs,hst,hxl,hp']
    refine(hfail 5).mono ?_
    rintro r h ⟨rfl,rfl⟩
    simp-implicitDefEqProofs[aa]
    exact fin _
 ·have hv:gR fns k (sco ch) c e=c:=by simp[gR,o2,o13]
  rw[hv]
  simp-implicitDefEqProofs[o2,o13,HE]
  exact fin _
theorem Lw(ch:List GS):upV ch= .nilp∨∃i,upV ch= .ptr i 2 0 0:=by
 cases ch with
 |nil=>exact .inl rfl
 |cons g up=>exact .inr ⟨_,rfl⟩
theorem MZ(b0:AO){fns:List Fd}{k:Nat}(hf:fns.length≤1073741824)(hk:k≤fns.length)(ch:List GS)(hb:okO 0 b0)(hs:xv ch)(c:Int)(e:Ex)(he:e.sz≤1073741824):
 AC Tryz.prog G dk [.ptr 1 3 0 0,.agg (e.cs.map .p),upV ch] (CH b0 fns k c ch) fun x h=>x= .ret (.tup [])∧h=CH b0 fns k (e.pre.foldl (gR fns k (sco ch)) c) ch:=by
 refine LP G (h:=CH b0 fns k c ch) (AC.go qk ?_) (by rw[jb,jb]) (by rw[jb];exact AL hb hs (Rj _)) (by simp[below])
 have hec:=e.cs_eq
 have hlen:(CH b0 fns k c ch).length=2+scL ch:=jb _ _ _ _ _
 have hI:=(Kc G (qa b0 fns k ch e.cs hb hs) (gR fns k (sco ch)) (fun _=>True) 1073741824 (by omega) (fun st x _ hx=>⟨trivial,Hv G b0 hf hk ch e.cs hb hs st x hx⟩) (e.sz+1) e (by omega) he c trivial).2
 have hcaps:(qa b0 fns k ch e.cs hb hs).caps=[.ptr (2+scL ch+2) 1 0 0,.ptr (2+scL ch) 1 0 0]:=rfl
 have hF:(qa b0 fns k ch e.cs hb hs).F=cG:=rfl
 have hVI:(qa b0 fns k ch e.cs hb hs).I c=CH b0 fns k c ch++[.row 1 [[.ptr 1 3 0 0]],.row 4 [[.p (.int .i64 e.op),.p (.int .i64 e.n),.p (.str e.name),.p (exL e.kids)]],.row 1 [[upV ch]]]:=by simp[qa,bxs,hec]
 rw[hcaps,hF,hVI,hec] at hI
 have hup:=Lw ch
 generalize upV ch=u at hI hup⊢
 rcases hup with rfl|⟨i,rfl⟩
 ·simp-implicitDefEqProofs[ga,hec,hlen]
  refine hI.mono ?_
  rintro r h ⟨rfl,rfl⟩
  simp-implicitDefEqProofs[aa]
  exact⟨_,rfl⟩
 ·simp-implicitDefEqProofs[ga,hec,hlen]
  refine hI.mono ?_
  rintro r h ⟨rfl,rfl⟩
  simp-implicitDefEqProofs[aa]
  exact⟨_,rfl⟩
end Go.Proofs.YtaopbokndkdieaaGreatDoor
namespace Go.Proofs.YtaopbokndkdieaaGreatDoor
open Go Go.Aw
set_option maxRecDepth 100000
set_option maxHeartbeats 4000000
def K_impl_checker_block:AK:= .seq (.reg [oM 14 1,oJ 15 (.len false (.t 14)),oK 16 0]) (.blk 0 (.loop (.seq (.reg [oJ 17 (.bin .lss (.t 16) (.t 15))]) (.seq (.cond (.t 17) (.skip) (.exit 0)) (.seq (.blk 1 (.seq (.reg [oJ 18 (.idxS 5 (.t 14) (.t 16)),oJ 19 (.ld (some 5) (.t 18)),oJ 7 (.alloc [(.p (.int .i64 0)),(.p (.str [])),.nils,.nils,.nils]),⟨none,none,.st 5 (.t 7) (.t 19)⟩]) (.seq (.seq (.reg [oF 20 2 7,oL 21 20,oJ 22 (.len false (.t 21)),oK 23 0]) (.blk 2 (.loop (.seq (.reg [oJ 24 (.bin .lss (.t 23) (.t 22))]) (.seq (.cond (.t 24) (.skip) (.exit 2)) (.seq (.blk 3 (.seq (.reg [oJ 25 (.idxS 4 (.t 21) (.t 23)),oJ 26 (.ld (some 4) (.t 25)),oJ 9 (.alloc [(.p (.int .i64 0)),(.p (.int .i64 0)),(.p (.str [])),.nils]),⟨none,none,.st 4 (.t 9) (.t 26)⟩]) (.reg [oM 27 0,oJ 28 (.ld (some 4) (.t 9)),oM 29 2,oJ 30 (.call dk [(.t 27),(.t 28),(.t 29)])]))) (.reg [oJ 31 (.bin .add (.t 23) (.c (.p (.int .i64 1)))),oM 23 31]))))))) (.cut (.seq (.reg [oF 32 0 7,oL 33 32]) (.blk 4 (.seq (.reg [oJ 35 (.bin .eql (.t 33) (.c (.p (.int .i64 1)))),oM 34 35]) (.cond (.t 34) (.seq (.seq (.reg [oM 37 2,oN 38 37,oF 39 0 38,oF 41 1 7,oL 40 39,oL 42 41,oJ 43 (.lk 1 (.p (.int .i64 0)) true (.t 40) (.t 42)),oM 36 43,oJ 44 (.ext 0 (.t 36)),oJ 45 (.ext 1 (.t 36)),oM 10 44,oM 11 45]) (.seq (.reg [oM 46 11]) (.cond (.t 46) (.reg [oM 47 0,oJ 48 (.call aH [(.t 47),(.c (.p (.int .i64 2)))])]) (.skip)))) (.reg [oM 49 2,oN 50 49,oF 51 0 50,oF 53 1 7,oL 52 51,oL 54 53,⟨none,none,.mup 1 (.t 52) (.t 54) (.c (.p (.int .i64 0)))⟩])) (.seq (.reg [oJ 56 (.bin .eql (.t 33) (.c (.p (.int .i64 2)))),oM 55 56]) (.cond (.t 55) (.seq (.reg [oM 58 2,oF 59 1 7,oL 60 59,oJ 61 (.call cn [(.t 58),(.t 60)]),oM 57 61,oJ 62 (.ext 0 (.t 57)),oJ 63 (.ext 1 (.t 57)),oM 12 62,oM 13 63]) (.seq (.reg [oM 64 13,oJ 65 (.not (.t 64))]) (.cond (.t 65) (.reg [oM 66 0,oJ 67 (.call aH [(.t 66),(.c (.p (.int .i64 3)))])]) (.skip)))) (.skip))))))) (.seq (.reg [oF 68 0 7,oL 69 68,oJ 70 (.bin .eql (.t 69) (.c (.p (.int .i64 5)))),oM 71 70,⟨(some 72),some (71,false),.fldA 0 (.t 7)⟩,⟨(some 73),some (71,false),.ld none (.t 72)⟩,⟨(some 74),some (71,false),.bin .eql (.t 73) (.c (.p (.int .i64 6)))⟩,oJ 75 (.pick (.t 71) (.c (.p (.bool true))) (.t 74))]) (.cond (.t 75) (.seq (.reg [oM 76 0,oF 77 3 7,oM 79 2,oL 78 77,oJ 80 (.call bS [(.t 79)]),⟨none,none,.chk none 77 78⟩,oJ 81 (.call bm [(.t 76),(.t 78),(.t 80)])]) (.reg [oM 82 0,oF 83 4 7,oM 85 2,oL 84 83,oJ 86 (.call bS [(.t 85)]),⟨none,none,.chk none 83 84⟩,oJ 87 (.call bm [(.t 82),(.t 84),(.t 86)])])) (.skip))))))) (.reg [oJ 88 (.bin .add (.t 16) (.c (.p (.int .i64 1)))),oM 16 88]))))))
theorem pw:K_impl_checker_block.whole=F_impl_checker_block.ak:=rfl
theorem Bm(fns:List Fd)(k:Nat):∀(a b:List Sm) (m:Scp) (up:List Scp) (c:Int),iK fns k (a++b) m up c=iK fns k b (iK fns k a m up c).1 up (iK fns k a m up c).2
 |[],b,m,up,c=>rfl
 |s::r,b,m,up,c=>by rw[RE,iK,iK,Bm fns k r]
theorem Fg{fns:List Fd}{k:Nat}{l:List Sm}{m:Scp}{up:List Scp}{c:Int}{i:Nat}(h:i<l.length):iK fns k (l.take (i+1)) m up c=icS fns k l[i] (iK fns k (l.take i) m up c).1 up (iK fns k (l.take i) m up c).2:=by
 rw[an h,Bm];rfl
def AX(b0:AO)(fns:List Fd)(k:Nat)(up:List GS)(gap:List AO)(c:Int):List AO:=b0::cO fns k c::(scH up++gap)
theorem MP(b0:AO)(fns:List Fd)(k:Nat)(up:List GS)(gap:List AO)(c:Int):(AX b0 fns k up gap c).length=2+scL up+gap.length:=by
 simp only[AX,Rr,Rn,lU];omega
theorem GO(b0:AO)(fns:List Fd)(k:Nat)(up:List GS)(gap:List AO)(m:Scp)(c:Int)(rest:List AO):CH b0 fns k c (⟨gap,m⟩::up)++rest=AX b0 fns k up gap c++(.mp (mpE m):: .row 2 [[.mp (2+scL up+gap.length),upV up]]::rest):=by
 simp[CH,AX,scH]
theorem Ja(b0:AO)(fns:List Fd)(k:Nat)(up:List GS)(gap:List AO)(m:Scp)(c:Int):CH b0 fns k c (⟨gap,m⟩::up)=AX b0 fns k up gap c++[.mp (mpE m),.row 2 [[.mp (2+scL up+gap.length),upV up]]]:=by
 have:=GO b0 fns k up gap m c []
 rwa[RL] at this
theorem Oa{b0:AO}{fns:List Fd}{k:Nat}{up:List GS}{gap:List AO}(hb:okO 0 b0)(hs:xv up)(hg:∀o∈gap,okO (2+scL up+gap.length) o)(c:Int):∀o∈AX b0 fns k up gap c,okO (2+scL up+gap.length) o:=by
 refine ag (bP hb) (ag (by intro e he;rw[Ri.1 he];simp[below]) ?_)
 intro o ho
 rcases Rf.1 ho with h|h
 ·exact Du up hs (by omega) o h
 ·exact hg o h
theorem ve{kk L n:Nat}{A r s:List AO}{l l1:List (Nat × AV)}(hl:A.length=L)(hk:kk≤L+r.length)(ha:∀o∈A,okO L o)(hr:∀o∈r,okO (L+r.length) o)(H:FgA (L+r.length) l l1):Wk kk (am n l) (A++(r++s)) (am n l1) (A++r):=by
 have hll:(A++r).length=L+r.length:=by rw[Rn,hl]
 refine ig (m:=L+r.length) hk (eE ?_ hll ?_) H
 ·rw[←RB,←hll,List.take_left'];rfl
 ·intro o ho
  rcases Rf.1 ho with h|h
  ·exact sI (by omega) (ha o h)
  ·exact hr o h
theorem Ag(m:Scp)(n:Nat):okO n (.mp (mpE m)):=by
 intro e he
 obtain⟨x,_,rfl⟩:=Rp.1 he
 simp[below]
variable (G:aJ)
theorem Lz(b0:AO){fns:List Fd}{k:Nat}(hf:fns.length≤1073741824)(hk:k≤fns.length)(hb:okO 0 b0):∀(N:Nat) (l:List Sm),aq l<N→aq l≤1073741824→∀(gap:List AO) (m:Scp) (up:List GS) (c:Int),xv (⟨gap,m⟩::up)→
 AC Tryz.prog G bm [.ptr 1 3 0 0,.p (smL l),upV (⟨gap,m⟩::up)] (CH b0 fns k c (⟨gap,m⟩::up)) fun x h=>x= .ret (.tup [])∧h=CH b0 fns k (iK fns k l m (sco up) c).2 (⟨gap,(iK fns k l m (sco up) c).1⟩::up):=by
 intro N
 induction N with
 |zero=>intro l h;omega
 |succ N ih=>
  intro l hl hz gap m up c hs
  have hll:=bk l
  have hsl:∀l,smL l= .lst 5 (l.map Sm.cs):=fun _=>rfl
  have hs':∀m,xv (⟨gap,m⟩::up):=fun _=>hs
  have hscl:∀m,scL (⟨gap,m⟩::up)=scL up+gap.length+2:=fun _=>rfl
  refine LP G (AC.goK px pw ?_) (by rw[jb,jb];rfl) (by rw[jb];exact AL hb (hs' _) (by rw[hscl];exact Nat.le_of_eq (by rfl))) (by simp[below])
  have hup:upV (⟨gap,m⟩::up)= .ptr (2+scL up+gap.length+1) 2 0 0:=rfl
  have hlenC:∀c m,(CH b0 fns k c (⟨gap,m⟩::up)).length=2+scL up+gap.length+2:=fun c m=>by rw[jb,hscl];omega
  have hokC:∀c m,∀o∈CH b0 fns k c (⟨gap,m⟩::up),okO (2+scL up+gap.length+2) o:=fun c m=>AL hb (hs' m) (by rw[hscl];omega)
  have hlenA:∀c,(AX b0 fns k up gap c).length=2+scL up+gap.length:=MP b0 fns k up gap
  simp-implicitDefEqProofs[K_impl_checker_block,F_impl_checker_block,hsl,hup]
  refine aU (fun i:Nat=>am 89 [(0,.ptr 1 3 0 0),(2,.ptr (2+scL up+gap.length+1) 2 0 0),(14,.p (smL l)),(15,.p (.int .i64 l.length)),(16,.p (.int .i64 i))])
   (fun i=>CH b0 fns k (iK fns k (l.take i) m (sco up) c).2 (⟨gap,(iK fns k (l.take i) m (sco up) c).1⟩::up)) (fun i=>i≤l.length) (fun i=>l.length-i) 0 (by simp) ?_ ?_
  ·refine ae (h:=CH b0 fns k c (⟨gap,m⟩::up)) (Rj _) (by rw[hlenC];exact hokC _ _) ?_
   rw[hlenC]
   simp[below,hsl]
  intro i hi
  have eT:=fun h=>Fg (fns:=fns) (k:=k) (l:=l) (m:=m) (up:=sco up) (c:=c) (i:=i) h
  rw[hlenC]
  generalize hst:iK fns k (l.take i) m (sco up) c=st at eT⊢
  obtain⟨mi,ci⟩:=st
  simp only at eT⊢
  simp-implicitDefEqProofs[hsl]
  refine bf (fun h=>?_) (fun h=>?_)
  ·simp at h
   have hg:=QW h
   have hse:=l[i].cs_eq
   have hsz:=l[i].sz_eq
   have hks:=bD (Rd h)
   have eT:=eT h
   generalize l[i]=s at hg hse hsz hks eT
   obtain⟨o,nme,a,bd,el⟩:=s
   simp only[Sm.op,Sm.name,Sm.args,Sm.body,Sm.els] at hse hsz
   have hxl:exL a= .lst 4 (a.map Ex.cs):=rfl
   have hal:=bi a
   simp-implicitDefEqProofs[hg,hse,hlenC,hxl]
   have hexpr:∀(c:Int) (e:Ex) (rest:List AO),e.sz≤1073741824→AC Tryz.prog G dk [.ptr 1 3 0 0,.agg (e.cs.map .p),.ptr (2+scL up+gap.length+1) 2 0 0] (AX b0 fns k up gap c++(.mp (mpE mi):: .row 2 [[.mp (2+scL up+gap.length),upV up]]::rest)) fun x h=>x= .ret (.tup [])∧h=AX b0 fns k up gap (e.pre.foldl (gR fns k (mi::sco up)) c)++(.mp (mpE mi):: .row 2 [[.mp (2+scL up+gap.length),upV up]]::rest):=by
    intro c e rest he
    have:=Mc G (MZ G b0 hf hk (⟨gap,mi⟩::up) hb (hs' mi) c e he) hb (hs' mi) rfl rest (by refine⟨by simp only[below];omega,by simp,kw _ (Rj _),trivial⟩)
    simp only[GO] at this
    exact this
   have hfail:∀(c e:Int) (t:List AO),AC Tryz.prog G aH [.ptr 1 3 0 0,.p (.int .i64 e)] (AX b0 fns k up gap c++t) fun x h=>x= .ret (.tup [])∧h=AX b0 fns k up gap (fl c e)++t:=fun c e t=>zz G b0 fns k c e _
   have hfind:∀(c:Int) (m:Scp) (s:List UInt8) (rest:List AO),AC Tryz.prog G cn [.ptr (2+scL up+gap.length+1) 2 0 0,.p (.str s)] (AX b0 fns k up gap c++(.mp (mpE m):: .row 2 [[.mp (2+scL up+gap.length),upV up]]::rest)) fun x h=>x= .ret (.tup [.p (.int .i64 (((ic (m::sco up) s).getD 0:Nat):Int)),.p (.bool (ic (m::sco up) s).isSome)])∧h=AX b0 fns k up gap c++(.mp (mpE m):: .row 2 [[.mp (2+scL up+gap.length),upV up]]::rest):=by
    intro c m s rest
    have:=GI G b0 (cO fns k c) (⟨gap,m⟩::up) rest s
    have e:b0::cO fns k c::(scH (⟨gap,m⟩::up)++rest)=CH b0 fns k c (⟨gap,m⟩::up)++rest:=rfl
    rw[e,GO] at this
    exact this
   have hblk:∀(c:Int) (m2:Scp) (l':List Sm) (gap2:List AO),aq l'<N→aq l'≤1073741824→(∀o∈gap2,okO (2+scL up+gap.length+2+gap2.length) o)→
    AC Tryz.prog G bm [.ptr 1 3 0 0,.p (smL l'),.ptr (2+scL up+gap.length+2+gap2.length+1) 2 0 0] (AX b0 fns k up gap c++(.mp (mpE m2):: .row 2 [[.mp (2+scL up+gap.length),upV up]]::(gap2++[.mp [],.row 2 [[.mp (2+scL up+gap.length+2+gap2.length),.ptr (2+scL up+gap.length+1) 2 0 0]]])))
     fun x h=>x= .ret (.tup [])∧∃m',h=AX b0 fns k up gap (iK fns k l' [] (m2::sco up) c).2++(.mp (mpE m2):: .row 2 [[.mp (2+scL up+gap.length),upV up]]::(gap2++[.mp (mpE m'),.row 2 [[.mp (2+scL up+gap.length+2+gap2.length),.ptr (2+scL up+gap.length+1) 2 0 0]]])):=by
    intro c m2 l' gap2 h1 h2 h3
    have e1:2+scL (⟨gap,m2⟩::up)+gap2.length=2+scL up+gap.length+2+gap2.length:=by rw[hscl];omega
    have e2:∀c m',CH b0 fns k c (⟨gap2,m'⟩::⟨gap,m2⟩::up)=AX b0 fns k up gap c++(.mp (mpE m2):: .row 2 [[.mp (2+scL up+gap.length),upV up]]::(gap2++[.mp (mpE m'),.row 2 [[.mp (2+scL up+gap.length+2+gap2.length),.ptr (2+scL up+gap.length+1) 2 0 0]]])):=by
     intro c m'
     rw[←e1]
     simp[CH,AX,scH,upV]
    have:=ih l' h1 h2 gap2 [] (⟨gap,m2⟩::up) c ⟨by rw[e1];exact h3,hs' m2⟩
    rw[show upV (⟨gap2,[]⟩::⟨gap,m2⟩::up)= .ptr (2+scL up+gap.length+2+gap2.length+1) 2 0 0 by rw[←e1];rfl] at this
    rw[e2] at this
    refine this.mono ?_
    rintro x h ⟨hx,hh⟩
    exact⟨hx,(iK fns k l' [] (sco (⟨gap,m2⟩::up)) c).1,by rw[hh,e2];rfl⟩
   rw[Ja b0 fns k up gap mi ci,RB]
   simp only[RE,List.nil_append]
   have hokA:=Oa (fns:=fns) (k:=k) hb hs.2 hs.1
   generalize hL:2+scL up+gap.length=L at hexpr hfind hblk hlenA hlenC hokC hokA⊢
   have hR:okO (L+2) (.row 2 [[.mp L,upV up]]):=by
    intro e he;rw[Ri.1 he]
    exact⟨by simp only[below];omega,kw up (by omega),trivial⟩
   have hX:okO 0 (.row 5 [[AV.p (.int .i64 o),.p (.str nme),.p (.lst 4 (a.map Ex.cs)),.p (smL bd),.p (smL el)]]):=by simp[okO]
   have ok3:∀(m:Scp),∀x∈[AO.mp (mpE m),.row 2 [[.mp L,upV up]],.row 5 [[AV.p (.int .i64 o),.p (.str nme),.p (.lst 4 (a.map Ex.cs)),.p (smL bd),.p (smL el)]]],okO (L+3) x:=fun m=>
    ag (Ag _ _) (ag (sI (by omega) hR) (ag (bP hX) dM))
   refine aU (fun j:Nat=>am 89 [(0,.ptr 1 3 0 0),(2,.ptr (L+1) 2 0 0),(7,.ptr (L+2) 5 0 0),(14,.p (smL l)),(15,.p (.int .i64 l.length)),(16,.p (.int .i64 i)),(21,.p (exL a)),(22,.p (.int .i64 a.length)),(23,.p (.int .i64 j))])
    (fun j=>AX b0 fns k up gap ((eZ (a.take j)).foldl (gR fns k (mi::sco up)) ci)++[.mp (mpE mi),.row 2 [[.mp L,upV up]],.row 5 [[AV.p (.int .i64 o),.p (.str nme),.p (.lst 4 (a.map Ex.cs)),.p (smL bd),.p (smL el)]]])
    (fun j=>j≤a.length) (fun j=>a.length-j) 0 (by simp) ?_ ?_
   ·refine ve (s:=[]) (hlenA _) (by simp) (hokA _) (ok3 _) ?_
    simp[below,hsl,hxl]
   intro j hj
   simp-implicitDefEqProofs[hxl]
   refine bf (fun hc=>?_) (fun hc=>?_)
   ·simp at hc
    have hga:=QW hc
    have hka:=aS (Rd hc)
    have hkc:=a[j].cs_eq
    have hE:=hexpr ((eZ (a.take j)).foldl (gR fns k (mi::sco up)) ci) a[j] [.row 5 [[AV.p (.int .i64 o),.p (.str nme),.p (.lst 4 (a.map Ex.cs)),.p (smL bd),.p (smL el)]],.row 4 [[.p (.int .i64 a[j].op),.p (.int .i64 a[j].n),.p (.str a[j].name),.p (exL a[j].kids)]]] (by omega)
    rw[hkc] at hE
    simp-implicitDefEqProofs[hga,hkc,hlenA]
    refine hE.mono ?_
    rintro r h ⟨rfl,rfl⟩
    simp-implicitDefEqProofs[aa]
    refine⟨j+1,hc,by omega,?_⟩
    have hf2:(eZ (a.take (j+1))).foldl (gR fns k (mi::sco up)) ci=a[j].pre.foldl (gR fns k (mi::sco up)) ((eZ (a.take j)).foldl (gR fns k (mi::sco up)) ci):=by
     rw[an hc,mz,List.foldl_append,eZ,eZ,RL]
    rw[hf2]
    refine ve (r:=[_,_,_]) (s:=[_]) (hlenA _) (by simp) (hokA _) (ok3 _) ?_
    simp[below,hsl,hxl,w1 (i:=j) (by omega)]
   simp at hc
   have hje:j=a.length:=by omega
   subst hje
   rw[RA]
   have hic:icS fns k ⟨o,nme,a,bd,el⟩ mi (sco up) ci=(opS o nme mi 0,if o=5∨o=6 then(iK fns k el [] (opS o nme mi 0::sco up) (iK fns k bd [] (opS o nme mi 0::sco up) (opC o nme mi (sco up) (Cl fns k (mi::sco up) a ci))).2).2 else opC o nme mi (sco up) (Cl fns k (mi::sco up) a ci)):=rfl
   rw[hic] at eT
   clear hic
   rw[show(eZ a).foldl (gR fns k (mi::sco up)) ci=Cl fns k (mi::sco up) a ci from rfl]
   generalize Cl fns k (mi::sco up) a ci=c1 at eT⊢
   simp-implicitDefEqProofs[]
   refine kG (am 89 [(0,.ptr 1 3 0 0),(2,.ptr (L+1) 2 0 0),(7,.ptr (L+2) 5 0 0),(14,.p (smL l)),(15,.p (.int .i64 l.length)),(16,.p (.int .i64 i))])
    (AX b0 fns k up gap (opC o nme mi (sco up) c1)++[.mp (mpE (opS o nme mi 0)),.row 2 [[.mp L,upV up]],.row 5 [[AV.p (.int .i64 o),.p (.str nme),.p (.lst 4 (a.map Ex.cs)),.p (smL bd),.p (smL el)]]]) ?_ ?_
   ·have fin:∀(r1:List (Nat × AV)) (c2:Int) (m2:Scp),Aw.look r1 0= .ptr 1 3 0 0→Aw.look r1 2= .ptr (L+1) 2 0 0→Aw.look r1 7= .ptr (L+2) 5 0 0→Aw.look r1 14= .p (smL l)→Aw.look r1 15= .p (.int .i64 l.length)→Aw.look r1 16= .p (.int .i64 i)→
     Wk (L+2) (am 89 r1) (AX b0 fns k up gap c2++[.mp (mpE m2),.row 2 [[.mp L,upV up]],.row 5 [[AV.p (.int .i64 o),.p (.str nme),.p (.lst 4 (a.map Ex.cs)),.p (smL bd),.p (smL el)]]])
      (am 89 [(0,.ptr 1 3 0 0),(2,.ptr (L+1) 2 0 0),(7,.ptr (L+2) 5 0 0),(14,.p (smL l)),(15,.p (.int .i64 l.length)),(16,.p (.int .i64 i))])
      (AX b0 fns k up gap c2++[.mp (mpE m2),.row 2 [[.mp L,upV up]],.row 5 [[AV.p (.int .i64 o),.p (.str nme),.p (.lst 4 (a.map Ex.cs)),.p (smL bd),.p (smL el)]]]):=by
     intro r1 c2 m2 e0 e2 e7 e14 e15 e16
     refine ve (s:=[]) (hlenA _) (by simp) (hokA _) (ok3 _) ?_
     simp[below,e0,e2,e7,e14,e15,e16]
    by_cases o1:o=1
    ·have hmg:=rJ nme mi
     have hms:lc (.str nme) (.p (.int .i64 0)) (mpE mi)=some (mpE (kr mi nme 0)):=by simpa using we nme 0 mi
     have e2:opS o nme mi 0=kr mi nme 0:=if_pos o1
     rw[e2]
     cases hh:jl mi nme with
     |none=>
      have e1:opC o nme mi (sco up) c1=c1:=by rw[opC,if_pos o1,hh];rfl
      rw[hh] at hmg
      rw[e1]
      subst o1
      simp-implicitDefEqProofs[hlenA,hmg,hms]
      exact fin _ _ _ (by simp) (by simp) (by simp) (by simp[hsl]) (by simp) (by simp)
     |some n=>
      have e1:opC o nme mi (sco up) c1=fl c1 2:=by rw[opC,if_pos o1,hh];rfl
      rw[hh] at hmg
      rw[e1]
      subst o1
      simp-implicitDefEqProofs[hlenA,hmg,hms]
      refine(hfail c1 2 _).mono ?_
      rintro r h ⟨rfl,rfl⟩
      simp-implicitDefEqProofs[aa,hlenA,hms]
      exact fin _ _ _ (by simp) (by simp) (by simp) (by simp[hsl]) (by simp) (by simp)
    have e2:opS o nme mi 0=mi:=if_neg o1
    rw[e2]
    by_cases o2:o=2
    ·cases hh:ic (mi::sco up) nme with
     |none=>
      have e1:opC o nme mi (sco up) c1=fl c1 3:=by rw[opC,if_neg o1,if_pos o2,hh];rfl
      rw[e1]
      subst o2
      have hF:=hfind c1 mi nme [.row 5 [[AV.p (.int .i64 2),.p (.str nme),.p (.lst 4 (a.map Ex.cs)),.p (smL bd),.p (smL el)]]]
      rw[hh] at hF
      simp-implicitDefEqProofs[hlenA]
      refine hF.mono ?_
      rintro r h ⟨rfl,rfl⟩
      simp-implicitDefEqProofs[aa]
      refine(hfail c1 3 _).mono ?_
      rintro r h ⟨rfl,rfl⟩
      simp-implicitDefEqProofs[aa]
      exact fin _ _ _ (by simp) (by simp) (by simp) (by simp[hsl]) (by simp) (by simp)
     |some n=>
      have e1:opC o nme mi (sco up) c1=c1:=by rw[opC,if_neg o1,if_pos o2,hh];rfl
      rw[e1]
      subst o2
      have hF:=hfind c1 mi nme [.row 5 [[AV.p (.int .i64 2),.p (.str nme),.p (.lst 4 (a.map Ex.cs)),.p (smL bd),.p (smL el)]]]
      rw[hh] at hF
      simp-implicitDefEqProofs[hlenA]
      refine hF.mono ?_
      rintro r h ⟨rfl,rfl⟩
      simp-implicitDefEqProofs[aa]
      exact fin _ _ _ (by simp) (by simp) (by simp) (by simp[hsl]) (by simp) (by simp)
    ·have e1:opC o nme mi (sco up) c1=c1:=by rw[opC,if_neg o1,if_neg o2]
     rw[e1]
     simp-implicitDefEqProofs[hlenA,o1,o2]
     exact fin _ _ _ (by simp) (by simp) (by simp) (by simp[hsl]) (by simp) (by simp)
   generalize opC o nme mi (sco up) c1=c2 at eT⊢
   generalize opS o nme mi 0=m2 at eT⊢
   have hdrop:∀(r1:List (Nat × AV)) (c3:Int) (s:List AO),Aw.look r1 0= .ptr 1 3 0 0→Aw.look r1 2= .ptr (L+1) 2 0 0→Aw.look r1 14= .p (smL l)→Aw.look r1 15= .p (.int .i64 l.length)→Aw.look r1 16= .p (.int .i64 ((i:Int)+1))→
    Wk (L+2) (am 89 r1) (AX b0 fns k up gap c3++([.mp (mpE m2),.row 2 [[.mp L,upV up]]]++s)) (am 89 [(0,.ptr 1 3 0 0),(2,.ptr (L+1) 2 0 0),(14,.p (smL l)),(15,.p (.int .i64 l.length)),(16,.p (.int .i64 ((i:Int)+1)))]) (CH b0 fns k c3 (⟨gap,m2⟩::up)):=by
    intro r1 c3 s e0 e2 e14 e15 e16
    rw[Ja,hL]
    refine ve (hlenA _) (by simp) (hokA _) (ag (Ag _ _) (ag hR dM)) ?_
    simp[below,e0,e2,e14,e15,e16]
   by_cases ho:o=5∨o=6
   ·rw[if_pos ho] at eT
    rcases ho with o5|o6
    ·subst o5
     simp-implicitDefEqProofs[hlenA]
     refine(wo G (.ptr (L+1) 2 0 0) (.inr ⟨_,rfl⟩) _).mono ?_
     rintro r h ⟨rfl,rfl⟩
     simp-implicitDefEqProofs[aa,hlenA]
     refine(hblk c2 m2 bd [_] (by omega) (by omega) (fun x hx=>by rw[Ri.1 hx];exact bP (by simp[okO]))).mono ?_
     rintro r h ⟨rfl,m3,rfl⟩
     simp-implicitDefEqProofs[aa,hlenA]
     refine(wo G (.ptr (L+1) 2 0 0) (.inr ⟨_,rfl⟩) _).mono ?_
     rintro r h ⟨rfl,rfl⟩
     simp-implicitDefEqProofs[aa,hlenA]
     refine(hblk _ m2 el [_,_,_] (by omega) (by omega) (ag (bP (by simp[okO])) (ag (Ag _ _) (ag (by
      intro e he;rw[Ri.1 he]
      exact⟨by simp only[below];simp,by simp only[below];simp,trivial⟩) dM)))).mono ?_
     rintro r h ⟨rfl,m4,rfl⟩
     simp-implicitDefEqProofs[aa,hlenA]
     refine⟨i+1,by omega,by omega,?_⟩
     rw[eT]
     refine hdrop _ _ _ (by simp) (by simp) (by simp[hsl]) (by simp) (by simp[w1 (i:=i) (by omega)])
    ·subst o6
     simp-implicitDefEqProofs[hlenA]
     refine(wo G (.ptr (L+1) 2 0 0) (.inr ⟨_,rfl⟩) _).mono ?_
     rintro r h ⟨rfl,rfl⟩
     simp-implicitDefEqProofs[aa,hlenA]
     refine(hblk c2 m2 bd [_] (by omega) (by omega) (fun x hx=>by rw[Ri.1 hx];exact bP (by simp[okO]))).mono ?_
     rintro r h ⟨rfl,m3,rfl⟩
     simp-implicitDefEqProofs[aa,hlenA]
     refine(wo G (.ptr (L+1) 2 0 0) (.inr ⟨_,rfl⟩) _).mono ?_
     rintro r h ⟨rfl,rfl⟩
     simp-implicitDefEqProofs[aa,hlenA]
     refine(hblk _ m2 el [_,_,_] (by omega) (by omega) (ag (bP (by simp[okO])) (ag (Ag _ _) (ag (by
      intro e he;rw[Ri.1 he]
      exact⟨by simp only[below];simp,by simp only[below];simp,trivial⟩) dM)))).mono ?_
     rintro r h ⟨rfl,m4,rfl⟩
     simp-implicitDefEqProofs[aa,hlenA]
     refine⟨i+1,by omega,by omega,?_⟩
     rw[eT]
     refine hdrop _ _ _ (by simp) (by simp) (by simp[hsl]) (by simp) (by simp[w1 (i:=i) (by omega)])
   ·rw[if_neg ho] at eT
    have o5:¬o=5:=fun h=>ho (.inl h)
    have o6:¬o=6:=fun h=>ho (.inr h)
    simp-implicitDefEqProofs[hlenA,o5,o6]
    refine⟨i+1,by omega,by omega,?_⟩
    rw[eT]
    refine hdrop _ _ [_] (by simp) (by simp) (by simp[hsl]) (by simp) (by simp[w1 (i:=i) (by omega)])
  ·simp at h
   have hie:i=l.length:=by omega
   subst hie
   rw[RA] at hst
   rw[hst]
   simp-implicitDefEqProofs[]
end Go.Proofs.YtaopbokndkdieaaGreatDoor
namespace Go.Proofs.YtaopbokndkdieaaGreatDoor
open Go Go.Aw
set_option maxRecDepth 100000
set_option maxHeartbeats 4000000
def K_impl_CheckProgram:AK:= .seq (.reg [oJ 1 (.box 1 (.t 0)),oK 2 0]) (.seq (.seq (.reg [oJ 11 (.ld (some 1) (.t 1)),oJ 12 (.call eB [(.t 11)]),oJ 13 (.not (.t 12))]) (.cond (.t 13) (.seq (.reg [oK 2 1]) (.ret)) (.skip))) (.seq (.reg [oJ 14 (.ld (some 1) (.t 1)),oJ 15 (.bld [.nils,(.p (.int .i64 0)),(.p (.int .i64 0))] [(0,1,(.t 14))]),oJ 16 (.box 3 (.t 15)),oM 3 16]) (.seq (.seq (.reg [oF 17 0 1,oL 18 17,oJ 19 (.len false (.t 18)),oK 20 0]) (.blk 0 (.loop (.seq (.reg [oJ 21 (.bin .lss (.t 20) (.t 19))]) (.seq (.cond (.t 21) (.skip) (.exit 0)) (.seq (.blk 1 (.seq (.reg [oM 22 20,oJ 23 (.idxS 3 (.t 18) (.t 20)),oJ 24 (.ld (some 3) (.t 23)),oJ 5 (.alloc [(.p (.str [])),.nils,.nils]),oM 4 22,⟨none,none,.st 3 (.t 5) (.t 24)⟩]) (.seq (.reg [oM 25 3,oM 26 4,oN 27 25,oF 28 1 27,oS 28 26]) (.cut (.seq (.reg [oJ 29 (.ld (some 1) (.t 1)),oF 30 0 5,oL 31 30,oJ 32 (.call jI [(.t 29),(.t 31)]),oM 33 4,oJ 34 (.bin .lss (.t 32) (.t 33))]) (.cond (.t 34) (.reg [oM 35 3,oJ 36 (.call aH [(.t 35),(.c (.p (.int .i64 2)))])]) (.skip))) (.seq (.reg [oJ 37 (.call bS [(.c .nilp)]),oM 6 37]) (.seq (.seq (.reg [oF 38 1 5,oL 39 38,oJ 40 (.len false (.t 39)),oK 41 0]) (.blk 2 (.loop (.seq (.reg [oJ 42 (.bin .lss (.t 41) (.t 40))]) (.seq (.cond (.t 42) (.skip) (.exit 2)) (.seq (.blk 3 (.seq (.reg [oJ 43 (.idxS 1 (.t 39) (.t 41)),oL 44 43,oM 8 44]) (.seq (.seq (.reg [oM 46 6,oN 47 46,oF 48 0 47,oL 49 48,oM 50 8,oJ 51 (.lk 1 (.p (.int .i64 0)) true (.t 49) (.t 50)),oM 45 51,oJ 52 (.ext 0 (.t 45)),oJ 53 (.ext 1 (.t 45)),oM 9 52,oM 10 53]) (.seq (.reg [oM 54 10]) (.cond (.t 54) (.reg [oM 55 3,oJ 56 (.call aH [(.t 55),(.c (.p (.int .i64 2)))])]) (.skip)))) (.reg [oM 57 6,oN 58 57,oF 59 0 58,oL 60 59,oM 61 8,⟨none,none,.mup 1 (.t 60) (.t 61) (.c (.p (.int .i64 0)))⟩])))) (.reg [oJ 62 (.bin .add (.t 41) (.c (.p (.int .i64 1)))),oM 41 62]))))))) (.reg [oM 63 3,oF 64 2 5,oL 65 64,oM 66 6,oJ 67 (.call bm [(.t 63),(.t 65),(.t 66)])]))))))) (.reg [oJ 68 (.bin .add (.t 20) (.c (.p (.int .i64 1)))),oM 20 68]))))))) (.seq (.reg [oM 69 3,oN 70 69,oF 71 2 70,oL 72 71,oM 2 72]) (.ret)))))
theorem qc:K_impl_CheckProgram.whole=F_impl_CheckProgram.ak:=rfl
theorem yO(fns:List Fd):∀(a b:List Fd) (k:Nat) (c:Int),la fns k (a++b) c=la fns (k+a.length) b (la fns k a c)
 |[],b,k,c=>rfl
 |f::r,b,k,c=>by rw[RE,la,la,yO fns r];congr 1;simp only[Rr];omega
theorem Cg{fns l:List Fd}{i:Nat}{c:Int}(h:i<l.length):la fns 0 (l.take (i+1)) c=icF fns i l[i] (la fns 0 (l.take i) c):=by
 rw[an h,yO,Ru,Nat.min_eq_left (Nat.le_of_lt h),RM];rfl
theorem Jb(a b:List (List UInt8))(m:Scp)(c:Int):mo (a++b) m c=mo b (mo a m c).1 (mo a m c).2:=by simp[mo]
theorem Fm{l:List (List UInt8)}{i:Nat}{m:Scp}{c:Int}(h:i<l.length):mo (l.take (i+1)) m c=(kr (mo (l.take i) m c).1 l[i] 0,if(jl (mo (l.take i) m c).1 l[i]).isSome then fl (mo (l.take i) m c).2 2 else(mo (l.take i) m c).2):=by
 rw[an h,Jb];rfl
variable (G:aJ) (hK:G dR=some dC) (hS:G bW=some [.tbl opK opV])
include hK hS
theorem xg(l:List Fd)(hl:aL l≤1073741824):VF Tryz.prog G gd [.agg [.p (fdL l)]] (.p (.int .i64 (aT l))):=by
 have hll:=cP l
 have hfl:∀l,fdL l= .lst 3 (l.map Fd.cs):=fun _=>rfl
 rw[Dk]
 refine AC.goK qg qc ?_
 simp-implicitDefEqProofs[K_impl_CheckProgram,F_impl_CheckProgram]
 refine(xi G hK hS l hl).use ?_
 by_cases hv:bA l=true
 case neg=>
  have hv':bA l=false:=by simpa using hv
  simp-implicitDefEqProofs[hv']
 rw[if_pos hv]
 simp-implicitDefEqProofs[hv,hfl]
 refine aU (fun i:Nat=>am 73 [(1,.ptr 0 1 0 0),(3,.ptr 1 3 0 0),(18,.p (fdL l)),(19,.p (.int .i64 l.length)),(20,.p (.int .i64 i))])
  (fun i=>[.row 1 [[.p (fdL l)]],cO l (i-1) (la l 0 (l.take i) 0)]) (fun i=>i≤l.length) (fun i=>l.length-i) 0 (by simp) ?_ ?_
 ·refine ae (h:=[.row 1 [[.p (fdL l)]],cO l 0 0]) (by simp) (by simp[okO,below,cO]) (by simp[below,hfl])
 intro i hi
 have hbo:okO 0 (.row 1 [[.p (fdL l)]]):=by simp[okO]
 simp-implicitDefEqProofs[hfl]
 refine bf (fun h=>?_) (fun h=>?_)
 ·simp at h
  have hg:=QW h
  have hks:=cw (Rd h)
  have eT:=Cg (fns:=l) (c:=0) h
  obtain⟨j,ej,ejl⟩:=yy hg
  generalize l[i]=f at*
  have hcs:f.cs=[.str f.name,az f.params,smL f.body]:=rfl
  have hfz:f.sz=1+f.name.length+(f.params.length+(f.params.map List.length).sum)+aq f.body:=rfl
  have hst:az f.params= .lst 1 (f.params.map fun w=>[.str w]):=rfl
  generalize la l 0 (l.take i) 0=c0 at eT⊢
  simp-implicitDefEqProofs[hg,hcs,cO]
  have hic:icF l i f c0=(iK l i f.body (mo f.params [] (if j<i then fl c0 2 else c0)).1 [] (mo f.params [] (if j<i then fl c0 2 else c0)).2).2:=by
   rw[icF,ej];simp
  rw[hic] at eT
  clear hic
  refine kG (am 73 [(1,.ptr 0 1 0 0),(3,.ptr 1 3 0 0),(4,.p (.int .i64 i)),(5,.ptr 2 3 0 0),(18,.p (fdL l)),(19,.p (.int .i64 l.length)),(20,.p (.int .i64 i))])
   [.row 1 [[.p (fdL l)]],cO l i (if j<i then fl c0 2 else c0),.row 3 [[.p (.str f.name),.p (az f.params),.p (smL f.body)]]] ?_ ?_
  ·simp-implicitDefEqProofs[]
   refine(Hh G l f.name (by omega)).use ?_
   rw[ej]
   by_cases hj:j<i
   ·have hj':(j:Int)<(i:Int):=by omega
    rw[if_pos hj]
    simp-implicitDefEqProofs[ixI,hj']
    refine(zz G (.row 1 [[.p (fdL l)]]) l i c0 2 [.row 3 [[.p (.str f.name),.p (az f.params),.p (smL f.body)]]]).mono ?_
    rintro r h ⟨rfl,rfl⟩
    simp-implicitDefEqProofs[aa]
    exact ae (by simp) (by simp[okO,below,cO]) (by simp[below,hfl])
   ·have hj':¬(j:Int)<(i:Int):=by omega
    rw[if_neg hj]
    simp-implicitDefEqProofs[ixI,hj']
    exact ae (h:=[.row 1 [[.p (fdL l)]],cO l i c0,.row 3 [[.p (.str f.name),.p (az f.params),.p (smL f.body)]]]) (by simp) (by simp[okO,below,cO]) (by simp[below,hfl])
  generalize (if j<i then fl c0 2 else c0)=c1 at eT⊢
  have hCH:∀(c:Int) (m:Scp),CH (.row 1 [[.p (fdL l)]]) l i c [⟨[.row 3 [[.p (.str f.name),.p (az f.params),.p (smL f.body)]]],m⟩]=[.row 1 [[.p (fdL l)]],cO l i c,.row 3 [[.p (.str f.name),.p (az f.params),.p (smL f.body)]],.mp (mpE m),.row 2 [[.mp 3,.nilp]]]:=fun _ _=>rfl
  simp-implicitDefEqProofs[]
  refine(wo G .nilp (.inl rfl) _).mono ?_
  rintro r h ⟨rfl,rfl⟩
  simp-implicitDefEqProofs[aa,hst]
  refine aU (fun q:Nat=>am 73 [(1,.ptr 0 1 0 0),(3,.ptr 1 3 0 0),(4,.p (.int .i64 i)),(5,.ptr 2 3 0 0),(6,.ptr 4 2 0 0),(18,.p (fdL l)),(19,.p (.int .i64 l.length)),(20,.p (.int .i64 i)),(39,.p (az f.params)),(40,.p (.int .i64 f.params.length)),(41,.p (.int .i64 q))])
   (fun q=>[.row 1 [[.p (fdL l)]],cO l i (mo (f.params.take q) [] c1).2,.row 3 [[.p (.str f.name),.p (az f.params),.p (smL f.body)]],.mp (mpE (mo (f.params.take q) [] c1).1),.row 2 [[.mp 3,.nilp]]])
   (fun q=>q≤f.params.length) (fun q=>f.params.length-q) 0 (by simp) ?_ ?_
  ·exact ae (h:=[.row 1 [[.p (fdL l)]],cO l i c1,.row 3 [[.p (.str f.name),.p (az f.params),.p (smL f.body)]],.mp [],.row 2 [[.mp 3,.nilp]]]) (by simp) (by simp[okO,below,cO]) (by simp[below,hfl,hst])
  intro q hq
  have eP:=fun h=>Fm (l:=f.params) (i:=q) (m:=[]) (c:=c1) h
  generalize hP:mo (f.params.take q) [] c1=st at eP⊢
  obtain⟨mq,cq⟩:=st
  simp only at eP⊢
  simp-implicitDefEqProofs[hst]
  refine bf (fun hc=>?_) (fun hc=>?_)
  ·simp at hc
   have hga:=QW hc
   have eP:=eP hc
   generalize f.params[q]=nme at hga eP
   have hmg:=rJ nme mq
   have hms:lc (.str nme) (.p (.int .i64 0)) (mpE mq)=some (mpE (kr mq nme 0)):=by simpa using we nme 0 mq
   have fin:∀(r1:List (Nat × AV)) (c2:Int),Aw.look r1 1= .ptr 0 1 0 0→Aw.look r1 3= .ptr 1 3 0 0→Aw.look r1 4= .p (.int .i64 i)→Aw.look r1 5= .ptr 2 3 0 0→Aw.look r1 6= .ptr 4 2 0 0→Aw.look r1 18= .p (fdL l)→Aw.look r1 19= .p (.int .i64 l.length)→Aw.look r1 20= .p (.int .i64 i)→Aw.look r1 39= .p (az f.params)→Aw.look r1 40= .p (.int .i64 f.params.length)→Aw.look r1 41= .p (.int .i64 ((q:Int)+1))→
    Wk 0 (am 73 r1) [.row 1 [[.p (fdL l)]],cO l i c2,.row 3 [[.p (.str f.name),.p (az f.params),.p (smL f.body)]],.mp (mpE (kr mq nme 0)),.row 2 [[.mp 3,.nilp]]]
     (am 73 [(1,.ptr 0 1 0 0),(3,.ptr 1 3 0 0),(4,.p (.int .i64 i)),(5,.ptr 2 3 0 0),(6,.ptr 4 2 0 0),(18,.p (fdL l)),(19,.p (.int .i64 l.length)),(20,.p (.int .i64 i)),(39,.p (az f.params)),(40,.p (.int .i64 f.params.length)),(41,.p (.int .i64 ((q:Int)+1)))])
     [.row 1 [[.p (fdL l)]],cO l i c2,.row 3 [[.p (.str f.name),.p (az f.params),.p (smL f.body)]],.mp (mpE (kr mq nme 0)),.row 2 [[.mp 3,.nilp]]]:=by
    intro r1 c2 e1 e3 e4 e5 e6 e18 e19 e20 e39 e40 e41
    refine ae (by simp) (ag (by simp[okO]) (ag (by simp[okO,cO]) (ag (by simp[okO]) (ag (Ag _ _) (ag (by simp[okO,below]) dM))))) ?_
    simp[below,e1,e3,e4,e5,e6,e18,e19,e20,e39,e40,e41]
   cases hh:jl mq nme with
   |none=>
    rw[hh] at hmg eP
    simp-implicitDefEqProofs[hga,hmg,hms]
    refine⟨q+1,by omega,by omega,?_⟩
    rw[eP]
    exact fin _ _ (by simp) (by simp) (by simp) (by simp) (by simp) (by simp[hfl]) (by simp) (by simp) (by simp[hst]) (by simp) (by simp[w1 (i:=q) (by omega)])
   |some n=>
    rw[hh] at hmg eP
    simp-implicitDefEqProofs[hga,hmg,hms]
    refine(zz G (.row 1 [[.p (fdL l)]]) l i cq 2 _).mono ?_
    rintro r h ⟨rfl,rfl⟩
    simp-implicitDefEqProofs[aa,hms]
    refine⟨q+1,by omega,by omega,?_⟩
    rw[eP]
    exact fin _ _ (by simp) (by simp) (by simp) (by simp) (by simp) (by simp[hfl]) (by simp) (by simp) (by simp[hst]) (by simp) (by simp[w1 (i:=q) (by omega)])
  ·simp at hc
   have hqe:q=f.params.length:=by omega
   subst hqe
   rw[RA] at hP
   rw[hP] at eT
   simp only at eT
   have hB:=Lz G (.row 1 [[.p (fdL l)]]) (fns:=l) (k:=i) (by omega) (by omega) hbo (aq f.body+1) f.body (by omega) (by omega) [.row 3 [[.p (.str f.name),.p (az f.params),.p (smL f.body)]]] mq [] cq ⟨by simp[okO],trivial⟩
   rw[hCH] at hB
   simp-implicitDefEqProofs[]
   refine hB.mono ?_
   rintro r h ⟨rfl,rfl⟩
   simp-implicitDefEqProofs[aa]
   refine⟨i+1,by omega,by omega,?_⟩
   rw[eT]
   refine ig (m:=2) (by omega) (eE rfl rfl (by simp[okO,below,cO])) (by simp[below,hfl,w1 (i:=i) (by omega)])
 ·simp at h
  have hie:i=l.length:=by omega
  subst hie
  rw[RA]
  simp-implicitDefEqProofs[cO]
end Go.Proofs.YtaopbokndkdieaaGreatDoor
namespace Go.Proofs.YtaopbokndkdieaaGreatDoor
open Go Go.Aw
set_option maxRecDepth 100000
set_option maxHeartbeats 4000000
variable (G:aJ)
theorem BN(l:List Fd)(hz:aL l≤1073741824):VF Tryz.prog G mj [.agg [.p (fdL l)]] (.p (.bool (decide (aT l=0)))):=by
 refine AC.go xQ ?_
 simp-implicitDefEqProofs[qS]
 refine(wy G l hz).use ?_
 simp-implicitDefEqProofs[]
variable (hK:G dR=some dC) (hS:G bW=some [.tbl opK opV])
include hK hS
theorem tJ(l:List Fd)(hz:aL l≤1073741824):VF Tryz.prog G jD [.agg [.p (fdL l)]] (.p (.bool (decide (aT l=0)))):=by
 refine AC.go Bg ?_
 simp-implicitDefEqProofs[uv]
 refine(xg G hK hS l hz).use ?_
 simp-implicitDefEqProofs[]
end Go.Proofs.YtaopbokndkdieaaGreatDoor
namespace Go.Proofs.YtaopbokndkdieaaGreatDoor
open Go Go.Aw
set_option maxRecDepth 100000
set_option maxHeartbeats 4000000
def bv{σ α β:Type}(g:σ→α→β × σ):σ→List α→List β × σ
 |st,[]=>([],st)
 |st,x::r=>((g st x).1::(bv g (g st x).2 r).1,(bv g (g st x).2 r).2)
theorem AQ{σ α β:Type}(g:σ→α→β × σ):∀(a b:List α) (st:σ),bv g st (a++b)=((bv g st a).1++(bv g (bv g st a).2 b).1,(bv g (bv g st a).2 b).2)
 |[],b,st=>rfl
 |x::r,b,st=>by rw[RE,bv,AQ g r];rfl
theorem pM{σ α β:Type}{g:σ→α→β × σ}{l:List α}{st:σ}{i:Nat}(h:i<l.length):bv g st (l.take (i+1))=((bv g st (l.take i)).1++[(g (bv g st (l.take i)).2 l[i]).1],(g (bv g st (l.take i)).2 l[i]).2):=by
 rw[an h,AQ];rfl
theorem pc{σ α β:Type}(g:σ→α→β × σ):∀(l:List α) (st:σ),(bv g st l).1.length=l.length
 |[],st=>rfl
 |x::r,st=>by rw[bv,Rr,Rr,pc g r]
theorem oY{σ α β:Type}{g:σ→α→β × σ}{inv:Nat→σ→Prop}:∀{l:List α} {st:σ} {k:Nat},inv k st→(∀(i:Nat) st (h:i<l.length),inv (k+i) st→inv (k+i+1) (g st l[i]).2)→∀i,i≤l.length→inv (k+i) (bv g st (l.take i)).2
 |[],st,k,h0,_,i,hi=>by
  have:i=0:=by simpa using hi
  subst this;exact h0
 |x::r,st,k,h0,hs,0,_=>h0
 |x::r,st,k,h0,hs,i+1,hi=>by
  have h1:=hs 0 st (by simp) h0
  have:=oY (g:=g) (l:=r) (st:=(g st x).2) (k:=k+1) h1 (fun j st hj hv=>by
   have:=hs (j+1) st (by simp;omega) (by rw[show k+(j+1)=k+1+j by omega];exact hv)
   rw[show k+(j+1)+1=k+1+j+1 by omega] at this
   exact this) i (by simpa using hi)
  rw[List.take_succ_cons,bv,show k+(i+1)=k+1+i by omega]
  exact this
theorem Me{n k:Nat}{A:List AO}{π:List Nat}{h r1:List AO}(hl:A.length=n)(ha:∀o∈A,okO n o)(hh:∀i,i<n→h[i]?=A[i]?)(ρ:List Nat)(hρ:∀i,i<n→ρ.getD i 0=i)(hρn:n≤ρ.length)(hk:k=n)(hr:HW ρ h π r1):HW ρ h (List.range' 0 k++π) (A++r1):=by
 subst hk
 have key:∀(B:List AO) (s:Nat),(∀i:Nat,B[i]?=h[s+i]?∨B.length≤i)→s+B.length=k→(∀o∈B,okO k o)→HW ρ h (List.range' s B.length++π) (B++r1):=by
  intro B
  induction B with
  |nil=>intro s _ _ _;exact hr
  |cons o r ih=>
   intro s hb hs ho
   rw[Rr,List.range'_succ]
   have h0:h[s]?=some o:=by
    rcases hb 0 with h0|h0
    ·simpa using h0.symm
    ·simp at h0
   have hok:=ho o (by simp)
   have ih:=ih (s+1) (fun i=>by
    rcases hb (i+1) with h1|h1
    ·rw[Rg] at h1;left;rw[h1];congr 1;omega
    ·right;simpa using h1) (by simp at hs;omega) (fun o ho'=>ho o (by simp[ho']))
   have hsl:=(QX.1 h0).1
   cases o with
   |dead=>exact fy hsl ih
   |row sz es=>
    refine cK (fun x hx=>aW hρn _ (hok x hx)) ?_ ih
    rw[h0,Rq (g:=id) fun x hx=>ll hρ x (hok x hx)];simp
   |mp es=>exact⟨hsl,⟨fun x hx=>by exact(aW hρn [x.2] ⟨hok x hx,trivial⟩).1,by rw[h0,Rq (g:=id) fun x hx=>by rw[ko hρ x.2 (hok x hx)];rfl];simp⟩,ih⟩
   |sit s p=>exact⟨hsl,h0,ih⟩
 have:=key A 0 (fun i=>by
  rcases RG i A.length with hi|hi
  ·left;rw[RM];exact(hh i (by omega)).symm
  ·right;exact hi) (by omega) ha
 rwa[hl] at this
theorem zu{kk q n m d sz c:Nat}{A mid s:List AO}{es:List (List AV)}{l l1:List (Nat × AV)}(hl:A.length=n)(hm:mid.length=m)(hk:kk≤n)(ha:∀o∈A,okO n o)(he:∀x∈es,ah 0 x)(H:FgA n l l1)(hd:Aw.look l d= .sl (n+m) sz 0 c):
 Wk kk (am q l) (A++(mid++ .row sz es::s)) (am q ((d,.sl n sz 0 c)::l1)) (A++[.row sz es]):=by
 have hρ:∀i,i<n→(List.range' 0 n++[n+m]).getD i 0=i:=fun i hi=>by
  rw[Rk,QZ (by simp;exact hi)];simp[hi]
 have hρn:(List.range' 0 n++[n+m]).getD n 0=n+m:=by
  rw[Rk,Rl (by simp)];simp
 refine bO (List.range' 0 n++[n+m]) (by simp;omega) (fun i hi=>hρ i (by omega)) ?_ ?_ ?_
 ·refine RK.2 ⟨List.nodup_range',by simp,fun a ha b hb e=>?_⟩
  rw[Ri] at hb
  have:=(List.mem_range'_1.1 ha).2
  omega
 ·refine Me hl ha (fun i hi=>by rw[QZ (by omega)]) _ hρ (by simp) rfl ?_
  refine aD ?_ he bq
  rw[Rl (by omega),hl,RY,Rl (by omega),hm,Nat.sub_self];rfl
 ·refine⟨⟨by simp only[below];simp,by simp only[ren,hρn];exact hd.symm⟩,?_⟩
  clear hd
  induction l1 with
  |nil=>trivial
  |cons x r ih=>
   obtain⟨⟨a,c⟩,e⟩:=H
   exact⟨⟨(aW (by simp) [x.2] ⟨a,trivial⟩).1,by rw[ko hρ _ a,c]⟩,ih e⟩
theorem si{hF:List AO}{n:Nat}:∀{A r:List AO},(∀o∈A,okO n o)→FzO hF n (A++r) A
 |[],r,_=> .nil r
 |o::a,r,h=> .same (h o (by simp)) (si fun o ho=>h o (by simp[ho]))
theorem vr{n:Nat}{A r:List AO}{o:AO}(hl:A.length=n):(tail n (A++o::r))[n]?=some o:=by
 unfold tail
 rw[Rl (by simp),List.length_replicate,Nat.sub_self,←hl,List.drop_left']
 ·rfl
 ·rfl
variable (G:aJ)
theorem mW{σ:Type}(V:Vis σ)(g:σ→Ex→Ex × σ)(inv:Nat→σ→Prop)(l:List Ex)(hb:l.length≤1073741824)(hn:0<V.n)
 (hv:∀(i:Nat) st (h:i<l.length),inv i st→inv (i+1) (g st l[i]).2∧AC Tryz.prog G V.F (.agg (l[i].cs.map .p)::V.caps) (V.I st) fun x h'=>x= .ret (.agg ((g st l[i]).1.cs.map .p))∧h'=V.I (g st l[i]).2)(st:σ)(h0:inv 0 st):
 AC Tryz.prog G aQ [.p (exL l),.fn (.func V.F) V.caps] (V.I st) fun x h=>x= .ret (.p (exL (bv g st l).1))∧h=V.I (bv g st l).2:=by
 have hxl:∀l,exL l= .lst 4 (l.map Ex.cs):=fun _=>rfl
 have hlen:=V.len
 have hcb:=V.capsOk
 have hinv:∀i,i≤l.length→inv i (bv g st (l.take i)).2:=fun i hi=>by
  have:=oY (g:=g) (inv:=inv) (l:=l) (st:=st) (k:=0) h0 (fun i st h hi=>by
   rw[RM] at hi⊢;exact(hv i st h hi).1) i hi
  rwa[RM] at this
 have hRp:∀l:List Ex,∀x∈exR l,ah 0 x:=dI
 have hRl:∀l:List Ex,(exR l).length=l.length:=fun l=>by simp[exR]
 have hRa:∀(l:List Ex) (y:Ex),exR (l++[y])=exR l++[y.cs.map .p]:=fun l y=>by simp[exR]
 have key:AC Tryz.prog G aQ [.p (exL l),.fn (.func V.F) V.caps] (V.I st) fun x h=>x= .ret (slE V.n 4 (exR (bv g st l).1))∧h=V.I (bv g st l).2++[bw 4 (exR (bv g st l).1)]:=by
  refine AC.go mL ?_
  simp-implicitDefEqProofs[gY,hxl]
  refine aU (fun i:Nat=>am 22 [(5,slE V.n 4 (exR (bv g st (l.take i)).1)),(0,.p (exL l)),(1,.fn (.func V.F) V.caps),(8,.p (exL l)),(9,.p (.int .i64 l.length)),(10,.p (.int .i64 i))])
   (fun i=>V.I (bv g st (l.take i)).2++[bw 4 (exR (bv g st (l.take i)).1)]) (fun i=>i≤l.length) (fun i=>l.length-i) 0 (by simp) ?_ ?_
  ·have e:bw 4 (exR (bv g st (l.take 0)).1)= .dead:=rfl
   rw[e]
   exact gE (by rw[hlen];exact Rj _) (by rw[hlen];exact hn) (by rw[hlen];exact V.ok st) (by simp[below,hxl,hcb,hlen,bv,exR,lO])
  intro i hi
  have hT:=fun h=>pM (g:=g) (l:=l) (st:=st) (i:=i) h
  have hi2:=hinv i hi
  have hml:=pc g (l.take i) st
  rw[Ru,Nat.min_eq_left hi] at hml
  generalize hcur:bv g st (l.take i)=cur at hT hi2 hml⊢
  obtain⟨out,s⟩:=cur
  simp only at hT hi2 hml⊢
  simp-implicitDefEqProofs[hxl]
  refine bf (fun hc=>?_) (fun hc=>?_)
  ·simp at hc
   have hg:=QW hc
   have hT:=hT hc
   obtain⟨_,hA⟩:=hv i s hc hi2
   generalize l[i]=x at hg hT hA
   have hkc:=x.cs_eq
   have hyc:=(g s x).1.cs_eq
   rw[hkc] at hA
   simp-implicitDefEqProofs[hg,hkc,hlen]
   refine(V.pre G hA _ ⟨by simp[below],hcb⟩).mono ?_
   rintro r h ⟨rfl,rfl⟩
   rw[hyc]
   simp-implicitDefEqProofs[aa,hlen]
   have hol:=hRl out
   refine⟨⟨by omega,by omega⟩,i+1,hc,by omega,?_⟩
   rw[hT]
   simp only[hRa]
   rw[mZ _ (by simp),kH _ (by simp),hyc]
   refine zu (mid:=[_,_,_]) (s:=[]) (hlen _) rfl (Rj _) (V.ok _) ?_ ?_ ?_
   ·intro x hx
    rcases Rf.1 hx with h|h
    ·exact hRp _ x h
    ·rw[Ri.1 h];simp
   ·simp[below,hxl,hcb,w1 (i:=i) (by omega)]
   ·simp
  ·simp at hc
   have hie:i=l.length:=by omega
   subst hie
   rw[RA] at hcur
   rw[hcur]
   simp-implicitDefEqProofs[]
 refine key.frz V.n (by rw[hlen];exact Rj _) (fun t v h ⟨e,_⟩=>by cases e) ?_
 rintro v h ⟨e,rfl⟩
 cases e
 refine⟨_,V.I (bv g st l).2,by rw[Rn,hlen];omega,hlen _,.one ?_ .nil,si (V.ok _),rfl,rfl⟩
 have ht:=vr (r:=[]) (o:=bw 4 (exR (bv g st l).1)) (hlen (bv g st l).2)
 have hh:exR (bv g st l).1=((bv g st l).1.map Ex.cs).map (·.map .p):=by simp[exR]
 rw[hh] at ht⊢
 exact th ht (fun x hx=>by obtain⟨b,_,rfl⟩:=Rp.1 hx;simp)
theorem tz{σ:Type}(V:Vis σ)(g:σ→Sm→Sm × σ)(inv:Nat→σ→Prop)(l:List Sm)(hb:l.length≤1073741824)(hn:0<V.n)
 (hv:∀(i:Nat) st (h:i<l.length),inv i st→inv (i+1) (g st l[i]).2∧AC Tryz.prog G V.F (.agg (l[i].cs.map .p)::V.caps) (V.I st) fun x h'=>x= .ret (.agg ((g st l[i]).1.cs.map .p))∧h'=V.I (g st l[i]).2)(st:σ)(h0:inv 0 st):
 AC Tryz.prog G ay [.p (smL l),.fn (.func V.F) V.caps] (V.I st) fun x h=>x= .ret (.p (smL (bv g st l).1))∧h=V.I (bv g st l).2:=by
 have hxl:∀l,smL l= .lst 5 (l.map Sm.cs):=fun _=>rfl
 have hlen:=V.len
 have hcb:=V.capsOk
 have hinv:∀i,i≤l.length→inv i (bv g st (l.take i)).2:=fun i hi=>by
  have:=oY (g:=g) (inv:=inv) (l:=l) (st:=st) (k:=0) h0 (fun i st h hi=>by
   rw[RM] at hi⊢;exact(hv i st h hi).1) i hi
  rwa[RM] at this
 have hRp:∀l:List Sm,∀x∈smR l,ah 0 x:=aP
 have hRl:∀l:List Sm,(smR l).length=l.length:=fun l=>by simp[smR]
 have hRa:∀(l:List Sm) (y:Sm),smR (l++[y])=smR l++[y.cs.map .p]:=fun l y=>by simp[smR]
 have key:AC Tryz.prog G ay [.p (smL l),.fn (.func V.F) V.caps] (V.I st) fun x h=>x= .ret (slE V.n 5 (smR (bv g st l).1))∧h=V.I (bv g st l).2++[bw 5 (smR (bv g st l).1)]:=by
  refine AC.go hZ ?_
  simp-implicitDefEqProofs[eI,hxl]
  refine aU (fun i:Nat=>am 22 [(5,slE V.n 5 (smR (bv g st (l.take i)).1)),(0,.p (smL l)),(1,.fn (.func V.F) V.caps),(8,.p (smL l)),(9,.p (.int .i64 l.length)),(10,.p (.int .i64 i))])
   (fun i=>V.I (bv g st (l.take i)).2++[bw 5 (smR (bv g st (l.take i)).1)]) (fun i=>i≤l.length) (fun i=>l.length-i) 0 (by simp) ?_ ?_
  ·have e:bw 5 (smR (bv g st (l.take 0)).1)= .dead:=rfl
   rw[e]
   exact gE (by rw[hlen];exact Rj _) (by rw[hlen];exact hn) (by rw[hlen];exact V.ok st) (by simp[below,hxl,hcb,hlen,bv,smR,lO])
  intro i hi
  have hT:=fun h=>pM (g:=g) (l:=l) (st:=st) (i:=i) h
  have hi2:=hinv i hi
  have hml:=pc g (l.take i) st
  rw[Ru,Nat.min_eq_left hi] at hml
  generalize hcur:bv g st (l.take i)=cur at hT hi2 hml⊢
  obtain⟨out,s⟩:=cur
  simp only at hT hi2 hml⊢
  simp-implicitDefEqProofs[hxl]
  refine bf (fun hc=>?_) (fun hc=>?_)
  ·simp at hc
   have hg:=QW hc
   have hT:=hT hc
   obtain⟨_,hA⟩:=hv i s hc hi2
   generalize l[i]=x at hg hT hA
   have hkc:=x.cs_eq
   have hyc:=(g s x).1.cs_eq
   rw[hkc] at hA
   simp-implicitDefEqProofs[hg,hkc,hlen]
   refine(V.pre G hA _ ⟨by simp[below],hcb⟩).mono ?_
   rintro r h ⟨rfl,rfl⟩
   rw[hyc]
   simp-implicitDefEqProofs[aa,hlen]
   have hol:=hRl out
   refine⟨⟨by omega,by omega⟩,i+1,hc,by omega,?_⟩
   rw[hT]
   simp only[hRa]
   rw[mZ _ (by simp),kH _ (by simp),hyc]
   refine zu (mid:=[_,_,_]) (s:=[]) (hlen _) rfl (Rj _) (V.ok _) ?_ ?_ ?_
   ·intro x hx
    rcases Rf.1 hx with h|h
    ·exact hRp _ x h
    ·rw[Ri.1 h];simp
   ·simp[below,hxl,hcb,w1 (i:=i) (by omega)]
   ·simp
  ·simp at hc
   have hie:i=l.length:=by omega
   subst hie
   rw[RA] at hcur
   rw[hcur]
   simp-implicitDefEqProofs[]
 refine key.frz V.n (by rw[hlen];exact Rj _) (fun t v h ⟨e,_⟩=>by cases e) ?_
 rintro v h ⟨e,rfl⟩
 cases e
 refine⟨_,V.I (bv g st l).2,by rw[Rn,hlen];omega,hlen _,.one ?_ .nil,si (V.ok _),rfl,rfl⟩
 have ht:=vr (r:=[]) (o:=bw 5 (smR (bv g st l).1)) (hlen (bv g st l).2)
 have hh:smR (bv g st l).1=((bv g st l).1.map Sm.cs).map (·.map .p):=by simp[smR]
 rw[hh] at ht⊢
 exact th ht (fun x hx=>by obtain⟨b,_,rfl⟩:=Rp.1 hx;simp)
theorem Ad{σ:Type}(V:Vis σ)(g:σ→Fd→Fd × σ)(inv:Nat→σ→Prop)(l:List Fd)(hb:l.length≤1073741824)(hn:0<V.n)
 (hv:∀(i:Nat) st (h:i<l.length),inv i st→inv (i+1) (g st l[i]).2∧AC Tryz.prog G V.F (.agg (l[i].cs.map .p)::V.caps) (V.I st) fun x h'=>x= .ret (.agg ((g st l[i]).1.cs.map .p))∧h'=V.I (g st l[i]).2)(st:σ)(h0:inv 0 st):
 AC Tryz.prog G bt [.p (fdL l),.fn (.func V.F) V.caps] (V.I st) fun x h=>x= .ret (.p (fdL (bv g st l).1))∧h=V.I (bv g st l).2:=by
 have hxl:∀l,fdL l= .lst 3 (l.map Fd.cs):=fun _=>rfl
 have hlen:=V.len
 have hcb:=V.capsOk
 have hinv:∀i,i≤l.length→inv i (bv g st (l.take i)).2:=fun i hi=>by
  have:=oY (g:=g) (inv:=inv) (l:=l) (st:=st) (k:=0) h0 (fun i st h hi=>by
   rw[RM] at hi⊢;exact(hv i st h hi).1) i hi
  rwa[RM] at this
 have hRp:∀l:List Fd,∀x∈aN l,ah 0 x:=fk
 have hRl:∀l:List Fd,(aN l).length=l.length:=fun l=>by simp[aN]
 have hRa:∀(l:List Fd) (y:Fd),aN (l++[y])=aN l++[y.cs.map .p]:=fun l y=>by simp[aN]
 have key:AC Tryz.prog G bt [.p (fdL l),.fn (.func V.F) V.caps] (V.I st) fun x h=>x= .ret (slE V.n 3 (aN (bv g st l).1))∧h=V.I (bv g st l).2++[bw 3 (aN (bv g st l).1)]:=by
  refine AC.go nW ?_
  simp-implicitDefEqProofs[iN,hxl]
  refine aU (fun i:Nat=>am 22 [(5,slE V.n 3 (aN (bv g st (l.take i)).1)),(0,.p (fdL l)),(1,.fn (.func V.F) V.caps),(8,.p (fdL l)),(9,.p (.int .i64 l.length)),(10,.p (.int .i64 i))])
   (fun i=>V.I (bv g st (l.take i)).2++[bw 3 (aN (bv g st (l.take i)).1)]) (fun i=>i≤l.length) (fun i=>l.length-i) 0 (by simp) ?_ ?_
  ·have e:bw 3 (aN (bv g st (l.take 0)).1)= .dead:=rfl
   rw[e]
   exact gE (by rw[hlen];exact Rj _) (by rw[hlen];exact hn) (by rw[hlen];exact V.ok st) (by simp[below,hxl,hcb,hlen,bv,aN,lO])
  intro i hi
  have hT:=fun h=>pM (g:=g) (l:=l) (st:=st) (i:=i) h
  have hi2:=hinv i hi
  have hml:=pc g (l.take i) st
  rw[Ru,Nat.min_eq_left hi] at hml
  generalize hcur:bv g st (l.take i)=cur at hT hi2 hml⊢
  obtain⟨out,s⟩:=cur
  simp only at hT hi2 hml⊢
  simp-implicitDefEqProofs[hxl]
  refine bf (fun hc=>?_) (fun hc=>?_)
  ·simp at hc
   have hg:=QW hc
   have hT:=hT hc
   obtain⟨_,hA⟩:=hv i s hc hi2
   generalize l[i]=x at hg hT hA
   have hkc:=x.cs_eq'
   have hyc:=(g s x).1.cs_eq'
   rw[hkc] at hA
   simp-implicitDefEqProofs[hg,hkc,hlen]
   refine(V.pre G hA _ ⟨by simp[below],hcb⟩).mono ?_
   rintro r h ⟨rfl,rfl⟩
   rw[hyc]
   simp-implicitDefEqProofs[aa,hlen]
   have hol:=hRl out
   refine⟨⟨by omega,by omega⟩,i+1,hc,by omega,?_⟩
   rw[hT]
   simp only[hRa]
   rw[mZ _ (by simp),kH _ (by simp),hyc]
   refine zu (mid:=[_,_,_]) (s:=[]) (hlen _) rfl (Rj _) (V.ok _) ?_ ?_ ?_
   ·intro x hx
    rcases Rf.1 hx with h|h
    ·exact hRp _ x h
    ·rw[Ri.1 h];simp
   ·simp[below,hxl,hcb,w1 (i:=i) (by omega)]
   ·simp
  ·simp at hc
   have hie:i=l.length:=by omega
   subst hie
   rw[RA] at hcur
   rw[hcur]
   simp-implicitDefEqProofs[]
 refine key.frz V.n (by rw[hlen];exact Rj _) (fun t v h ⟨e,_⟩=>by cases e) ?_
 rintro v h ⟨e,rfl⟩
 cases e
 refine⟨_,V.I (bv g st l).2,by rw[Rn,hlen];omega,hlen _,.one ?_ .nil,si (V.ok _),rfl,rfl⟩
 have ht:=vr (r:=[]) (o:=bw 3 (aN (bv g st l).1)) (hlen (bv g st l).2)
 have hh:aN (bv g st l).1=((bv g st l).1.map Fd.cs).map (·.map .p):=by simp[aN]
 rw[hh] at ht⊢
 exact th ht (fun x hx=>by obtain⟨b,_,rfl⟩:=Rp.1 hx;simp)
end Go.Proofs.YtaopbokndkdieaaGreatDoor
namespace Go.Proofs.YtaopbokndkdieaaGreatDoor
open Go Go.Aw
set_option maxRecDepth 100000
set_option maxHeartbeats 4000000
variable (G:aJ)
theorem HY{σ:Type}(V:Vis σ)(step:σ→Ex→σ)(inv:σ→Prop)(P:Ex→Prop)(hP:∀e,P e→∀a∈e.kids,P a)(B:Nat)(hB:B≤1073741824)
 (hv:∀st e,inv st→P e→e.sz≤B→inv (step st e)∧AC Tryz.prog G V.F (.agg (e.cs.map .p)::V.caps) (V.I st) fun x h=>x= .ret (.tup [])∧h=V.I (step st e)):
 ∀(N:Nat) (e:Ex),P e→e.sz<N→e.sz≤B→∀st,inv st→inv (e.pre.foldl step st)∧AC Tryz.prog G fV [.agg (e.cs.map .p),.fn (.func V.F) V.caps] (V.I st) fun x h=>x= .ret (.tup [])∧h=V.I (e.pre.foldl step st):=by
 intro N
 induction N with
 |zero=>intro e _ h;omega
 |succ N ih=>
  intro e hpe he hz st hi
  have hec:=e.cs_eq
  have hsz:=e.sz_eq
  have hkl:=bi e.kids
  have hxl:exL e.kids= .lst 4 (e.kids.map Ex.cs):=rfl
  have hlen:=V.len
  obtain⟨i1,h1⟩:=hv st e hi hpe hz
  have hinv:∀i,i≤e.kids.length→inv ((eZ (e.kids.take i)).foldl step (step st e)):=by
   intro i
   induction i with
   |zero=>intro _;exact i1
   |succ i ihi=>
    intro hl
    have hg:i<e.kids.length:=by omega
    have hks:=aS (Rd hg)
    rw[an hg,mz,List.foldl_append,eZ,eZ,RL]
    exact(ih e.kids[i] (hP e hpe _ (Rd hg)) (by omega) (by omega) _ (ihi (by omega))).1
  refine⟨?_,?_⟩
  ·rw[Ex.pre_eq,List.foldl_cons]
   have:=hinv e.kids.length (Rj _)
   rwa[RA] at this
  refine V.trim G (AC.go sg ?_) (by simp[below])
  have hcb:=V.capsOk
  have hcb1:ah (V.n+1) V.caps:=aW (by omega) _ hcb
  rw[hec] at h1
  simp-implicitDefEqProofs[nj,hec,hlen]
  refine(V.pre G h1 _ ⟨by simp[below],hcb⟩).mono ?_
  rintro r h ⟨rfl,rfl⟩
  simp-implicitDefEqProofs[aa,hlen,hxl]
  refine aU (fun i:Nat=>am 20 [(1,.fn (.func V.F) V.caps),(2,.ptr V.n 4 0 0),(10,.p (exL e.kids)),(11,.p (.int .i64 e.kids.length)),(12,.p (.int .i64 i))])
   (fun i=>V.I ((eZ (e.kids.take i)).foldl step (step st e))++[.row 4 [[.p (.int .i64 e.op),.p (.int .i64 e.n),.p (.str e.name),.p (exL e.kids)]]]) (fun i=>i≤e.kids.length) (fun i=>e.kids.length-i) 0 (by simp) ?_ ?_
  ·refine V.same (r:=[_]) (s:=[]) _ (Rj _) (by simp[okO,below]) ?_
   simp[below,hxl,hcb1]
  intro i hil
  simp-implicitDefEqProofs[hxl]
  refine bf (fun hc=>?_) (fun hc=>?_)
  ·simp at hc
   have hg:=QW hc
   have hks:=aS (Rd hc)
   have hkc:=e.kids[i].cs_eq
   have hI:=(ih e.kids[i] (hP e hpe _ (Rd hc)) (by omega) (by omega) _ (hinv i hil)).2
   rw[hkc] at hI
   simp-implicitDefEqProofs[hg,hkc,hlen]
   refine(V.pre G hI _ ⟨by simp[below],by simp[below,hcb],trivial⟩).mono ?_
   rintro r h ⟨rfl,rfl⟩
   simp-implicitDefEqProofs[aa]
   refine⟨i+1,hc,by omega,?_⟩
   have hf:(eZ (e.kids.take (i+1))).foldl step (step st e)=e.kids[i].pre.foldl step ((eZ (e.kids.take i)).foldl step (step st e)):=by
    rw[an hc,mz,List.foldl_append,eZ,eZ,RL]
   rw[hf]
   refine V.same (r:=[_]) (s:=[_]) _ (Rj _) (by simp[okO,below]) ?_
   simp[below,hxl,hcb1,w1 (i:=i) (by omega)]
  ·simp at hc
   have hie:i=e.kids.length:=by omega
   subst hie
   rw[RA,Ex.pre_eq,List.foldl_cons]
   simp-implicitDefEqProofs[]
theorem ku(n:Int):VF Tryz.prog G cu [.p (.int .i64 n)] (.agg ((cf n).cs.map .p)):=by
 have key:AC Tryz.prog G cu [.p (.int .i64 n)] [] fun x h=>x= .ret (.agg [.p (.int .i64 1),.p (.int .i64 n),.p (.str []),.nils]):=by
  refine AC.go vJ ?_
  simp-implicitDefEqProofs[oq]
 refine key.freezeR (fun t v h e=>by cases e) fun v h e=>?_
 cases e
 exact .agg (.one (.p _) (.one (.p _) (.one (.p _) (.one (.nils 4) .nil)))) .nil
theorem ta(e:Ex)(n:Int):VF Tryz.prog G aO [.agg (e.cs.map .p),.p (.int .i64 n)] (.p (.bool (isN e n))):=by
 refine AC.go zA ?_
 by_cases h1:e.op=1
 ·simp-implicitDefEqProofs[nh,Ex.cs_eq,isN,h1]
 ·simp-implicitDefEqProofs[nh,Ex.cs_eq,isN,h1]
theorem mM(b:Bool):VF Tryz.prog G kB [.p (.bool b)] (.p (.int .i64 (tr5 b))):=by
 refine AC.go wb ?_
 cases b<;>simp-implicitDefEqProofs[pf,tr5]
def xf:Option Int→AV
 |some q=> .tup [.p (.int .i64 q),.p (.bool true)]
 |none=> .tup [.p (.int .i64 0),.p (.bool false)]
theorem Ik(a b:Int):VF Tryz.prog G il [.p (.int .i64 11),.p (.int .i64 a),.p (.int .i64 b)] (.tup [.p (.int .i64 (tr5 (decide (a=0)))),.p (.bool true)]):=by
 refine AC.go ry ?_
 simp-implicitDefEqProofs[mY]
 refine(mM G _).use ?_
 simp-implicitDefEqProofs[]
theorem KW(o a b:Int)(ho:3≤o)(h9:o≤10)(ha:V5 a)(hb:V5 b):VF Tryz.prog G il [.p (.int .i64 o),.p (.int .i64 a),.p (.int .i64 b)] (xf (ar5 o a b)):=by
 obtain⟨a0,a1⟩:=ha
 obtain⟨b0,b1⟩:=hb
 refine AC.go ry ?_
 have hm:a*b≤65025:=by
  have h1:=Int.mul_le_mul_of_nonneg_right a1 b0
  omega
 have hm0:0≤a*b:=Int.mul_nonneg a0 b0
 have ho':o=3∨o=4∨o=5∨o=6∨o=7∨o=8∨o=9∨o=10:=by omega
 rcases ho' with rfl|rfl|rfl|rfl|rfl|rfl|rfl|rfl
 all_goals simp-implicitDefEqProofs[mY,ar5,DC]
 ·rw[af (by omega) (by omega),Int.tmod_eq_emod_of_nonneg (by omega)];rfl
 ·have hw:IntKind.i64.wrap (a-b)=a-b:=af (by omega) (by omega)
  rw[hw,af (by omega) (by omega),Int.tmod_eq_emod_of_nonneg (by omega)]
  have:(a-b+256)%256=(a-b)%256:=by omega
  rw[this];rfl
 ·rw[af (by omega) (by omega),Int.tmod_eq_emod_of_nonneg (by omega)];rfl
 ·refine bf (fun h=>?_) (fun h=>?_)
  ·simp at h
   simp-implicitDefEqProofs[h,xf]
  ·simp at h
   simp-implicitDefEqProofs[h,xf]
   rw[Int.tdiv_eq_ediv_of_nonneg (by omega)]
   have h1:a/b≤a:=Int.ediv_le_self b a0
   have h2:0≤a/b:=Int.ediv_nonneg a0 b0
   exact af (by omega) (by omega)
 ·refine bf (fun h=>?_) (fun h=>?_)
  ·simp at h
   simp-implicitDefEqProofs[h,xf]
  ·simp at h
   simp-implicitDefEqProofs[h,xf]
   rw[Int.tmod_eq_emod_of_nonneg (by omega)]
 ·refine(mM G _).use ?_
  simp-implicitDefEqProofs[xf]
 ·refine(mM G _).use ?_
  simp-implicitDefEqProofs[xf]
 ·by_cases h:a=0
  ·simp-implicitDefEqProofs[h]
   refine(mM G _).use ?_
   simp-implicitDefEqProofs[xf]
  ·simp-implicitDefEqProofs[h]
   refine(mM G _).use ?_
   simp-implicitDefEqProofs[xf]
def okP(e:Ex):Bool:= !decide (e.op=12)&& !decide (e.op=13)&& !dvE e
mutual
theorem Ap:∀e:Ex,e.pre.all okP=eA e
 | .mk o n s ks=>by
   rw[Cf,Ex.pre_eq,List.all_cons,okP]
   show(_&&(eZ ks).all okP)=_
   rw[yS ks]
   rfl
theorem yS:∀l:List Ex,(eZ l).all okP=l.all eA
 |[]=>rfl
 |e::r=>by rw[eZ,List.all_append,List.all_cons,Ap e,yS r]
end
def ra(p:List PV):Vis Bool where
 I:=fun st=>[.row 4 [p.map .p],.row 1 [[.p (.bool st)]]]
 n:=2
 F:=dY
 caps:=[.ptr 1 1 0 0]
 len:=fun _=>rfl
 ok:=fun st=>by simp[okO,below]
 capsOk:=by simp[below]
theorem zn(p:List PV)(st:Bool){d:Nat}{e:Ex}(hf:bp d e=true):AC Tryz.prog G dY [.agg (e.cs.map .p),.ptr 1 1 0 0] ((ra p).I st) fun x h=>x= .ret (.tup [])∧h=(ra p).I (st&&okP e):=by
 refine(ra p).trim G (AC.go rT ?_) (by simp[below])
 have hec:=e.cs_eq
 have hxl:∀l,exL l= .lst 4 (l.map Ex.cs):=fun _=>rfl
 cases st with
 |false=>simp-implicitDefEqProofs[bH,hec,ra]
 |true=>
  by_cases o12:e.op=12
  ·simp-implicitDefEqProofs[bH,hec,ra,o12,okP]
  by_cases o13:e.op=13
  ·simp-implicitDefEqProofs[bH,hec,ra,o13,okP]
  by_cases o67:e.op=6∨e.op=7
  ·have hk:∃a b,e.kids=[a,b]:=by
    obtain⟨l1,l2,_⟩:=eG hf
    have e1:loK e.op=2∧hiK e.op=2:=by rcases o67 with h|h<;>rw[h]<;>exact⟨rfl,rfl⟩
    rw[e1.1] at l1
    rw[e1.2] at l2
    match hx:e.kids,l1,l2 with
    |[a,b],_,_=>exact⟨a,b,rfl⟩
   obtain⟨a,b,hk⟩:=hk
   have hbc:=b.cs_eq
   have hd:okP e=(decide (b.op=1)&& !decide (b.n=0)):=by
    rw[okP,dvE,hk]
    rcases o67 with h|h<;>simp[h]
   rw[hd]
   rcases o67 with o6|o7
   ·by_cases b1:b.op=1
    ·simp-implicitDefEqProofs[bH,hec,ra,o6,hxl,hk,hbc,b1]
    ·simp-implicitDefEqProofs[bH,hec,ra,o6,hxl,hk,hbc,b1]
   ·by_cases b1:b.op=1
    ·simp-implicitDefEqProofs[bH,hec,ra,o7,hxl,hk,hbc,b1]
    ·simp-implicitDefEqProofs[bH,hec,ra,o7,hxl,hk,hbc,b1]
  ·have o6:¬e.op=6:=fun h=>o67 (.inl h)
   have o7:¬e.op=7:=fun h=>o67 (.inr h)
   have hd:okP e=true:=by simp[okP,dvE,o6,o7,o12,o13]
   rw[hd]
   simp-implicitDefEqProofs[bH,hec,ra,o6,o7,o12,o13]
theorem EX(l:List Ex)(b:Bool):l.foldl (fun st e=>st&&okP e) b=(b&&l.all okP):=by
 induction l generalizing b with
 |nil=>simp
 |cons e r ih=>rw[List.foldl_cons,ih,List.all_cons,Bool.and_assoc]
theorem xp(hK:G dR=some dC)(hS:G bW=some [PV.tbl opK opV]){e:Ex}(hx:gD e=true)(hz:e.sz≤1073741824):VF Tryz.prog G dV [.agg (e.cs.map .p)] (.p (.bool (eA e))):=by
 refine AC.go uI ?_
 have hec:=e.cs_eq
 have HV:=uk G hK hS e hz
 have HP:=(HY G (ra e.cs) (fun st e=>st&&okP e) (fun _=>True) (fun e=>∃d,bp d e=true) (fun e ⟨d,h⟩ a ha=>by
  obtain⟨d,rfl⟩:=pA h
  exact⟨d,fS h ha⟩) 1073741824 (by omega) (fun st x _ ⟨d,h⟩ _=>⟨trivial,zn G e.cs st h⟩) (e.sz+1) e ⟨6,yY hx⟩ (by omega) hz true trivial).2
 rw[EX,Bool.true_and,Ap] at HP
 rw[hec] at HV HP
 have hI:∀st,(ra [.int .i64 e.op,.int .i64 e.n,.str e.name,exL e.kids]).I st=[.row 4 [[.p (.int .i64 e.op),.p (.int .i64 e.n),.p (.str e.name),.p (exL e.kids)]],.row 1 [[.p (.bool st)]]]:=fun _=>rfl
 have hF:(ra [.int .i64 e.op,.int .i64 e.n,.str e.name,exL e.kids]).F=dY:=rfl
 have hc:(ra [.int .i64 e.op,.int .i64 e.n,.str e.name,exL e.kids]).caps=[.ptr 1 1 0 0]:=rfl
 rw[hI,hI,hF,hc] at HP
 simp-implicitDefEqProofs[nO,hec]
 refine HV.use ?_
 simp-implicitDefEqProofs[hx]
 refine HP.mono ?_
 rintro r h ⟨rfl,rfl⟩
 simp-implicitDefEqProofs[aa]
end Go.Proofs.YtaopbokndkdieaaGreatDoor
namespace Go.Proofs.YtaopbokndkdieaaGreatDoor
open Go Go.Aw
set_option maxRecDepth 100000
set_option maxHeartbeats 4000000
def K_impl_foldPart:AK:= .seq (.reg [oJ 1 (.box 4 (.t 0)),oJ 2 (.alloc [(.p (.int .i64 0)),(.p (.int .i64 0)),(.p (.str [])),.nils])]) (.seq (.seq (.reg [oF 7 3 1,oL 8 7,oJ 9 (.len false (.t 8)),oJ 10 (.bin .eql (.t 9) (.c (.p (.int .i64 0)))),oM 11 10,⟨(some 12),some (11,false),.fldA 0 (.t 1)⟩,⟨(some 13),some (11,false),.ld none (.t 12)⟩,⟨(some 14),some (11,false),.bin .eql (.t 13) (.c (.p (.int .i64 13)))⟩,oJ 15 (.pick (.t 11) (.c (.p (.bool true))) (.t 14)),oM 16 15,⟨(some 17),some (16,false),.fldA 0 (.t 1)⟩,⟨(some 18),some (16,false),.ld none (.t 17)⟩,⟨(some 19),some (16,false),.bin .eql (.t 18) (.c (.p (.int .i64 12)))⟩,oJ 20 (.pick (.t 16) (.c (.p (.bool true))) (.t 19))]) (.cond (.t 20) (.seq (.reg [oJ 21 (.ld (some 4) (.t 1)),⟨none,none,.st 4 (.t 2) (.t 21)⟩]) (.ret)) (.skip))) (.cut (.ot (.one [] (.one [oF 22 3 1] (.one [oF 26 3 1] (.one [oF 28 3 1] (.one [oL 23 22] (.one [oJ 24 (.idxS 4 (.t 23) (.c (.p (.int .i64 0))))] (.one [oJ 25 (.ld (some 4) (.t 24))] (.one [oL 27 26] (.one [oL 29 28] (.one [oJ 30 (.len false (.t 29))] (.one [oJ 31 (.bin .sub (.t 30) (.c (.p (.int .i64 1))))] (.one [oJ 32 (.idxS 4 (.t 27) (.t 31))] (.one [oJ 33 (.ld (some 4) (.t 32))] (.alt (.one [oJ 3 (.alloc [(.p (.int .i64 0)),(.p (.int .i64 0)),(.p (.str [])),.nils]),⟨none,none,.chk none 22 23⟩,⟨none,none,.chk (some 4) 24 25⟩,⟨none,none,.chk none 26 27⟩,⟨none,none,.chk none 28 29⟩,⟨none,none,.chk (some 4) 32 33⟩] (.alt (.one [oJ 4 (.alloc [(.p (.int .i64 0)),(.p (.int .i64 0)),(.p (.str [])),.nils]),⟨none,none,.chk none 22 23⟩,⟨none,none,.chk (some 4) 24 25⟩,⟨none,none,.chk none 26 27⟩,⟨none,none,.chk none 28 29⟩,⟨none,none,.chk (some 4) 32 33⟩] (.alt (.one [⟨none,none,.st 4 (.t 3) (.t 25)⟩,⟨none,none,.chk none 26 27⟩,⟨none,none,.chk none 28 29⟩,⟨none,none,.chk (some 4) 32 33⟩] (.alt (.one [⟨none,none,.st 4 (.t 4) (.t 33)⟩] (.done)) (.tru))) (.tru))) (.tru))) (.alt (.one [oJ 4 (.alloc [(.p (.int .i64 0)),(.p (.int .i64 0)),(.p (.str [])),.nils]),⟨none,none,.chk none 22 23⟩,⟨none,none,.chk (some 4) 24 25⟩,⟨none,none,.chk none 26 27⟩,⟨none,none,.chk none 28 29⟩,⟨none,none,.chk (some 4) 32 33⟩] (.alt (.one [oJ 3 (.alloc [(.p (.int .i64 0)),(.p (.int .i64 0)),(.p (.str [])),.nils]),⟨none,none,.chk none 22 23⟩,⟨none,none,.chk (some 4) 24 25⟩,⟨none,none,.chk none 26 27⟩,⟨none,none,.chk none 28 29⟩,⟨none,none,.chk (some 4) 32 33⟩] (.alt (.one [⟨none,none,.st 4 (.t 3) (.t 25)⟩,⟨none,none,.chk none 26 27⟩,⟨none,none,.chk none 28 29⟩,⟨none,none,.chk (some 4) 32 33⟩] (.alt (.one [⟨none,none,.st 4 (.t 4) (.t 33)⟩] (.done)) (.tru))) (.tru))) (.tru))) (.tru))))))))))))))))) (.cut (.seq (.reg [oF 34 0 3,oL 35 34,oJ 36 (.bin .eql (.t 35) (.c (.p (.int .i64 1)))),oM 37 36,⟨(some 38),some (37,true),.fldA 0 (.t 4)⟩,⟨(some 39),some (37,true),.ld none (.t 38)⟩,⟨(some 40),some (37,true),.bin .eql (.t 39) (.c (.p (.int .i64 1)))⟩,oJ 41 (.pick (.t 37) (.t 40) (.c (.p (.bool false))))]) (.cond (.t 41) (.seq (.reg [oF 43 0 1,oL 44 43,oF 45 1 3,oL 46 45,oF 47 1 4,oL 48 47,oJ 49 (.call il [(.t 44),(.t 46),(.t 48)]),oM 42 49,oJ 50 (.ext 0 (.t 42)),oJ 51 (.ext 1 (.t 42)),oM 5 50,oM 6 51]) (.seq (.reg [oM 52 6]) (.cond (.t 52) (.seq (.reg [oM 53 5,oJ 54 (.call cu [(.t 53)]),⟨none,none,.st 4 (.t 2) (.t 54)⟩]) (.ret)) (.skip)))) (.skip))) (.seq (.seq (.reg [oF 55 0 1,oL 56 55]) (.blk 0 (.seq (.reg [oJ 58 (.bin .eql (.t 56) (.c (.p (.int .i64 11)))),oM 57 58]) (.cond (.t 57) (.seq (.reg [oF 59 0 3,oL 60 59,oJ 61 (.bin .eql (.t 60) (.c (.p (.int .i64 11)))),oM 62 61,⟨(some 63),some (62,true),.fldA 3 (.t 3)⟩,⟨(some 64),some (62,true),.ld none (.t 63)⟩,⟨(some 65),some (62,true),.idxS 4 (.t 64) (.c (.p (.int .i64 0)))⟩,⟨(some 66),some (62,true),.fldA 0 (.t 65)⟩,⟨(some 67),some (62,true),.ld none (.t 66)⟩,⟨(some 68),some (62,true),.bin .eql (.t 67) (.c (.p (.int .i64 11)))⟩,oJ 69 (.pick (.t 62) (.t 68) (.c (.p (.bool false))))]) (.cond (.t 69) (.seq (.reg [oF 70 3 3,oL 71 70,oJ 72 (.idxS 4 (.t 71) (.c (.p (.int .i64 0)))),oJ 73 (.ld (some 4) (.t 72)),⟨none,none,.st 4 (.t 2) (.t 73)⟩]) (.ret)) (.skip))) (.seq (.reg [oJ 75 (.bin .eql (.t 56) (.c (.p (.int .i64 10)))),oM 74 75]) (.cond (.t 74) (.seq (.reg [oJ 76 (.ld (some 4) (.t 3)),oJ 77 (.call aO [(.t 76),(.c (.p (.int .i64 0)))])]) (.cond (.t 77) (.seq (.reg [oJ 78 (.call cu [(.c (.p (.int .i64 0)))]),⟨none,none,.st 4 (.t 2) (.t 78)⟩]) (.ret)) (.skip))) (.seq (.reg [oJ 80 (.bin .eql (.t 56) (.c (.p (.int .i64 3)))),oM 79 80]) (.cond (.t 79) (.seq (.seq (.reg [oJ 81 (.ld (some 4) (.t 4)),oJ 82 (.call aO [(.t 81),(.c (.p (.int .i64 0)))])]) (.cond (.t 82) (.seq (.reg [oJ 83 (.ld (some 4) (.t 3)),⟨none,none,.st 4 (.t 2) (.t 83)⟩]) (.ret)) (.skip))) (.seq (.reg [oJ 84 (.ld (some 4) (.t 3)),oJ 85 (.call aO [(.t 84),(.c (.p (.int .i64 0)))])]) (.cond (.t 85) (.seq (.reg [oJ 86 (.ld (some 4) (.t 4)),⟨none,none,.st 4 (.t 2) (.t 86)⟩]) (.ret)) (.skip)))) (.seq (.reg [oJ 88 (.bin .eql (.t 56) (.c (.p (.int .i64 4)))),oM 87 88]) (.cond (.t 87) (.seq (.reg [oJ 89 (.ld (some 4) (.t 4)),oJ 90 (.call aO [(.t 89),(.c (.p (.int .i64 0)))])]) (.cond (.t 90) (.seq (.reg [oJ 91 (.ld (some 4) (.t 3)),⟨none,none,.st 4 (.t 2) (.t 91)⟩]) (.ret)) (.skip))) (.seq (.reg [oJ 93 (.bin .eql (.t 56) (.c (.p (.int .i64 5)))),oM 92 93]) (.cond (.t 92) (.blk 1 (.seq (.reg [oJ 95 (.ld (some 4) (.t 4)),oJ 96 (.call aO [(.t 95),(.c (.p (.int .i64 1)))]),oM 94 96]) (.cond (.t 94) (.seq (.reg [oJ 97 (.ld (some 4) (.t 3)),⟨none,none,.st 4 (.t 2) (.t 97)⟩]) (.ret)) (.seq (.reg [oJ 99 (.ld (some 4) (.t 3)),oJ 100 (.call aO [(.t 99),(.c (.p (.int .i64 1)))]),oM 98 100]) (.cond (.t 98) (.seq (.reg [oJ 101 (.ld (some 4) (.t 4)),⟨none,none,.st 4 (.t 2) (.t 101)⟩]) (.ret)) (.seq (.seq (.reg [oJ 103 (.ld (some 4) (.t 4)),oJ 104 (.call aO [(.t 103),(.c (.p (.int .i64 0)))]),oM 105 104,⟨(some 106),some (105,true),.ld (some 4) (.t 3)⟩,⟨(some 107),some (105,true),.call dV [(.t 106)]⟩,oJ 108 (.pick (.t 105) (.t 107) (.c (.p (.bool false)))),oM 102 108]) (.cond (.t 102) (.skip) (.reg [oJ 109 (.ld (some 4) (.t 3)),oJ 110 (.call aO [(.t 109),(.c (.p (.int .i64 0)))]),oM 111 110,⟨(some 112),some (111,true),.ld (some 4) (.t 4)⟩,⟨(some 113),some (111,true),.call dV [(.t 112)]⟩,oJ 114 (.pick (.t 111) (.t 113) (.c (.p (.bool false)))),oM 102 114]))) (.cond (.t 102) (.seq (.reg [oJ 115 (.call cu [(.c (.p (.int .i64 0)))]),⟨none,none,.st 4 (.t 2) (.t 115)⟩]) (.ret)) (.skip)))))))) (.seq (.reg [oJ 117 (.bin .eql (.t 56) (.c (.p (.int .i64 6)))),oM 116 117]) (.cond (.t 116) (.seq (.reg [oJ 118 (.ld (some 4) (.t 4)),oJ 119 (.call aO [(.t 118),(.c (.p (.int .i64 1)))])]) (.cond (.t 119) (.seq (.reg [oJ 120 (.ld (some 4) (.t 3)),⟨none,none,.st 4 (.t 2) (.t 120)⟩]) (.ret)) (.skip))) (.skip))))))))))))))) (.seq (.reg [oJ 121 (.ld (some 4) (.t 1)),⟨none,none,.st 4 (.t 2) (.t 121)⟩]) (.ret))))))
theorem uM:K_impl_foldPart.whole=F_impl_foldPart.ak:=rfl
theorem Hz{c d:Nat}{e:Ex}(h:bp c e=true)(hd:c≤d):bp d e=true:=by
 obtain⟨k,rfl⟩:=Nat.le.dest hd
 clear hd
 induction k with
 |zero=>exact h
 |succ k ih=>exact oX ih
variable (G:aJ)
theorem CN(hK:G dR=some dC)(hS:G bW=some [PV.tbl opK opV]){d:Nat}{e:Ex}(hf:bp d e=true)(hd:d≤6)(hp30:e.parts≤30)(hz:e.sz≤1073741824):VF Tryz.prog G gJ [.agg (e.cs.map .p)] (.agg ((eK e.op e.n e.name e.kids).cs.map .p)):=by
 have hc:=e.cs_eq
 have hxl:∀l,exL l= .lst 4 (l.map Ex.cs):=fun _=>rfl
 have hem:e= .mk e.op e.n e.name e.kids:=by cases e;rfl
 have hzz:=e.sz_eq
 have hpp:=e.parts_eq
 obtain⟨d,rfl⟩:=pA hf
 have hkf:∀a∈e.kids,bp d a=true:=fun a ha=>fS hf ha
 have hks:∀a∈e.kids,a.sz≤1073741824:=fun a ha=>by have:=aS ha;omega
 have hkx:∀a∈e.kids,gD a=true:=fun a ha=>by
  rw[gD,Rh,decide_eq_true_eq]
  refine⟨Hz (hkf a ha) (by omega),?_⟩
  have:=gr ha;omega
 have hnc:∀q,(cf q).cs=[.int .i64 1,.int .i64 q,.str [],.lst 4 []]:=fun q=>rfl
 refine AC.goK uD uM ?_
 have w0:IntKind.i64.wrap 0=0:=af (by omega) (by omega)
 have w1':IntKind.i64.wrap 1=1:=af (by omega) (by omega)
 by_cases he:e.kids=[]∨e.op=13∨e.op=12
 ·have hp:eK e.op e.n e.name e.kids=e:=by
   unfold eK
   split
   ·exact hem.symm
   ·rcases he with h|h|h
    ·rw[h]
     conv=>rhs;rw[hem,h]
    ·rename_i hn;exact(hn (.inr h)).elim
    ·rename_i hn;exact(hn (.inl h)).elim
  rw[hp,hc]
  rcases he with h|h|h
  ·simp-implicitDefEqProofs[K_impl_foldPart,F_impl_foldPart,hc,hxl,h]
  ·by_cases hk:e.kids=[]
   ·simp-implicitDefEqProofs[K_impl_foldPart,F_impl_foldPart,hc,hxl,h,hk]
   ·have hk':¬(e.kids.length:Int)=0:=by
     intro h0;exact hk (List.length_eq_zero_iff.1 (by omega))
    simp-implicitDefEqProofs[K_impl_foldPart,F_impl_foldPart,hc,hxl,h,hk',hk]
  ·by_cases hk:e.kids=[]
   ·simp-implicitDefEqProofs[K_impl_foldPart,F_impl_foldPart,hc,hxl,h,hk]
   ·simp-implicitDefEqProofs[K_impl_foldPart,F_impl_foldPart,hc,hxl,h,hk]
 have hne:e.kids≠[]:=fun h=>he (.inl h)
 have o13:¬e.op=13:=fun h=>he (.inr (.inl h))
 have o12:¬e.op=12:=fun h=>he (.inr (.inr h))
 by_cases o11:e.op=11
 ·obtain⟨l1,l2,_⟩:=eG hf
  rw[o11] at l1 l2
  have e1:loK 11=1:=rfl
  have e2:hiK 11=1:=rfl
  rw[e1] at l1
  rw[e2] at l2
  obtain⟨a,hk⟩:∃a,e.kids=[a]:=by
   match hx:e.kids,l1,l2 with
   |[x],_,_=>exact⟨x,rfl⟩
  have hac:=a.cs_eq
  have hp:eK e.op e.n e.name e.kids=ke e.op e.n e.name a:=by
   unfold eK
   rw[if_neg (by omega),hk]
  rw[hp]
  generalize hres:ke e.op e.n e.name a=res
  simp-implicitDefEqProofs[K_impl_foldPart,F_impl_foldPart,hc,hxl,o11,hk]
  refine kG (am 122 [(1,.ptr 0 4 0 0),(2,.ptr 1 4 0 0),(3,.ptr 2 4 0 0),(4,.ptr 3 4 0 0)])
   [.row 4 [[.p (.int .i64 11),.p (.int .i64 e.n),.p (.str e.name),.p (.lst 4 [a.cs])]],.row 4 [[.p (.int .i64 0),.p (.int .i64 0),.p (.str []),.nils]],.row 4 [[.p (.int .i64 a.op),.p (.int .i64 a.n),.p (.str a.name),.p (exL a.kids)]],.row 4 [[.p (.int .i64 a.op),.p (.int .i64 a.n),.p (.str a.name),.p (exL a.kids)]]] ?_ ?_
  ·simp-implicitDefEqProofs[hac,w0]
   exact⟨ae (by simp) (by simp[okO,below]) (by simp[below]),bO [0,1,3,2] (by simp) (by decide) (by decide) (aD rfl (by simp[below]) (aD rfl (by simp[below]) (aD rfl (by simp[below]) (aD rfl (by simp[below]) bq)))) (by simp[below,ren])⟩
  refine nZ (fun _:Unit=>am 122 [(1,.ptr 0 4 0 0),(2,.ptr 1 4 0 0),(3,.ptr 2 4 0 0),(4,.ptr 3 4 0 0)]) (fun _=>[.row 4 [[.p (.int .i64 11),.p (.int .i64 e.n),.p (.str e.name),.p (.lst 4 [a.cs])]],.row 4 [[.p (.int .i64 0),.p (.int .i64 0),.p (.str []),.nils]],.row 4 [[.p (.int .i64 a.op),.p (.int .i64 a.n),.p (.str a.name),.p (exL a.kids)]],.row 4 [[.p (.int .i64 a.op),.p (.int .i64 a.n),.p (.str a.name),.p (exL a.kids)]]]) (fun _=>¬a.op=1) ?_ ?_
  ·by_cases a1:a.op=1
   ·rw[←hres,ke,if_pos a1]
    simp-implicitDefEqProofs[hac,a1]
    refine(Ik G _ _).use ?_
    simp-implicitDefEqProofs[]
    refine(ku G _).use ?_
    simp-implicitDefEqProofs[hnc]
   ·simp-implicitDefEqProofs[hac,a1]
    exact ae (by simp) (by simp[okO,below]) (by simp[below])
  intro _ a1
  have same:(∀c,a.kids=[c]→¬(e.op=11∧a.op=11∧c.op=11))→ke e.op e.n e.name a=e:=by
   intro h
   have h0:Ex.mk e.op e.n e.name [a]=e:=by rw[←hk];exact hem.symm
   unfold ke
   rw[if_neg a1]
   split
   ·rename_i c hc'
    split
    ·rename_i h3
     exact(h c hc' ⟨o11,h3⟩).elim
    ·exact h0
   ·exact h0
  by_cases a11:a.op=11
  ·have haf:=hkf a (by rw[hk];simp)
   obtain⟨l1,l2,_⟩:=eG haf
   rw[a11,e1] at l1
   rw[a11,e2] at l2
   obtain⟨c,hkc⟩:∃c,a.kids=[c]:=by
    match hx:a.kids,l1,l2 with
    |[x],_,_=>exact⟨x,rfl⟩
   have hcc:=c.cs_eq
   by_cases c11:c.op=11
   ·have hq:ke e.op e.n e.name a=c:=by
     unfold ke
     rw[if_neg a1,hkc]
     exact if_pos ⟨a11,c11⟩
    rw[←hres,hq]
    simp-implicitDefEqProofs[hac,a11,hxl,hkc,hcc,c11]
   ·rw[←hres,same (fun x hx h=>by rw[hkc] at hx;cases hx;exact c11 h.2.2)]
    simp-implicitDefEqProofs[hc,hk,o11,hac,a11,hxl,hkc,hcc,c11]
  ·rw[←hres,same (fun x hx h=>a11 h.2.1)]
   simp-implicitDefEqProofs[hc,hk,o11,hac,a11,hxl]
 obtain⟨a,b,hk⟩:∃a b,e.kids=[a,b]:=by
  obtain⟨l1,l2,l3,l4⟩:=eG hf
  have hln:0<e.kids.length:=Sc.2 hne
  have o1:¬(e.op=1∨e.op=2):=by
   intro h
   rw[hiK,if_pos h] at l2;omega
  have e1:loK e.op=2:=by rw[loK,if_neg o1,if_neg (by omega),if_neg (by omega)]
  have e2:hiK e.op=2:=by rw[hiK,if_neg o1,if_neg (by omega),if_neg (by omega)]
  rw[e1] at l1
  rw[e2] at l2
  match hx:e.kids,l1,l2 with
  |[a,b],_,_=>exact⟨a,b,rfl⟩
 obtain⟨h3,h10⟩:=Ai hf hk (by omega)
 have hac:=a.cs_eq
 have hbc:=b.cs_eq
 have haf:=hkf a (by rw[hk];simp)
 have hbf:=hkf b (by rw[hk];simp)
 have hp:eK e.op e.n e.name e.kids=mU e.op e.n e.name a b:=by
  unfold eK
  rw[if_neg (by omega),hk]
 rw[hp]
 simp-implicitDefEqProofs[K_impl_foldPart,F_impl_foldPart,hc,hxl,o12,o13,hk]
 refine kG (am 122 [(1,.ptr 0 4 0 0),(2,.ptr 1 4 0 0),(3,.ptr 2 4 0 0),(4,.ptr 3 4 0 0)])
  [.row 4 [[.p (.int .i64 e.op),.p (.int .i64 e.n),.p (.str e.name),.p (.lst 4 [a.cs,b.cs])]],.row 4 [[.p (.int .i64 0),.p (.int .i64 0),.p (.str []),.nils]],.row 4 [[.p (.int .i64 a.op),.p (.int .i64 a.n),.p (.str a.name),.p (exL a.kids)]],.row 4 [[.p (.int .i64 b.op),.p (.int .i64 b.n),.p (.str b.name),.p (exL b.kids)]]] ?_ ?_
 ·simp-implicitDefEqProofs[hac,hbc,w1']
  exact⟨ae (by simp) (by simp[okO,below]) (by simp[below]),bO [0,1,3,2] (by simp) (by decide) (by decide) (aD rfl (by simp[below]) (aD rfl (by simp[below]) (aD rfl (by simp[below]) (aD rfl (by simp[below]) bq)))) (by simp[below,ren])⟩
 refine nZ (fun _:Unit=>am 122 [(1,.ptr 0 4 0 0),(2,.ptr 1 4 0 0),(3,.ptr 2 4 0 0),(4,.ptr 3 4 0 0)]) (fun _=>[.row 4 [[.p (.int .i64 e.op),.p (.int .i64 e.n),.p (.str e.name),.p (.lst 4 [a.cs,b.cs])]],.row 4 [[.p (.int .i64 0),.p (.int .i64 0),.p (.str []),.nils]],.row 4 [[.p (.int .i64 a.op),.p (.int .i64 a.n),.p (.str a.name),.p (exL a.kids)]],.row 4 [[.p (.int .i64 b.op),.p (.int .i64 b.n),.p (.str b.name),.p (exL b.kids)]]]) (fun _=>(if a.op=1∧b.op=1 then ar5 e.op a.n b.n else none)=none) ?_ ?_
 ·by_cases a1:a.op=1
  ·by_cases b1:b.op=1
   ·have H:=KW G e.op a.n b.n h3 h10 (sq (iZ haf)) (sq (iZ hbf))
    have hp2:∀q,ar5 e.op a.n b.n=some q→mU e.op e.n e.name a b=cf q:=by
     intro q hq
     unfold mU
     rw[if_pos ⟨a1,b1⟩,hq]
    cases hq:ar5 e.op a.n b.n with
    |none=>
     rw[hq] at H
     simp only[xf] at H
     simp-implicitDefEqProofs[a1,b1,hac,hbc]
     refine H.use ?_
     simp-implicitDefEqProofs[hq]
     exact ae (by simp) (by simp[okO,below]) (by simp[below])
    |some q=>
     rw[hq] at H
     simp only[xf] at H
     rw[hp2 q hq]
     simp-implicitDefEqProofs[a1,b1,hac,hbc]
     refine H.use ?_
     simp-implicitDefEqProofs[]
     refine(ku G _).use ?_
     simp-implicitDefEqProofs[hnc]
   ·simp-implicitDefEqProofs[a1,b1,hac,hbc]
    exact ae (by simp) (by simp[okO,below]) (by simp[below])
  ·simp-implicitDefEqProofs[a1,hac,hbc]
   exact ae (by simp) (by simp[okO,below]) (by simp[below])
 intro _ hn
 have hp2:mU e.op e.n e.name a b=if e.op=10∧isN a 0=true then cf 0 else if(e.op=3∨e.op=4)∧isN b 0=true∨(e.op=5∨e.op=6)∧isN b 1=true then a else if e.op=3∧isN a 0=true∨e.op=5∧isN a 1=true then b
  else if e.op=5∧(isN b 0=true∧eA a=true∨isN a 0=true∧eA b=true) then cf 0 else e:=by
  unfold mU
  rw[hn]
  simp only
  rw[←hk,←hem]
 rw[hp2]
 have HA0:=ta G a 0
 have HA1:=ta G a 1
 have HB0:=ta G b 0
 have HB1:=ta G b 1
 have HSA:=xp G hK hS (hkx a (by rw[hk];simp)) (hks a (by rw[hk];simp))
 have HSB:=xp G hK hS (hkx b (by rw[hk];simp)) (hks b (by rw[hk];simp))
 rw[hac] at HA0 HA1 HSA
 rw[hbc] at HB0 HB1 HSB
 simp only[Rw,List.map_nil,hxl] at HA0 HA1 HB0 HB1 HSA HSB
 simp only[hac,hbc,hxl]
 have ho:e.op=3∨e.op=4∨e.op=5∨e.op=6∨e.op=7∨e.op=8∨e.op=9∨e.op=10:=by omega
 rcases ho with ho|ho|ho|ho|ho|ho|ho|ho
 ·simp-implicitDefEqProofs[ho]
  refine HB0.use ?_
  by_cases hhb0:isN b 0=true
  ·simp-implicitDefEqProofs[hhb0,ho,hc,hxl,hk,hac,hbc]
  ·simp-implicitDefEqProofs[hhb0,ho,hc,hxl,hk,hac,hbc]
   refine HA0.use ?_
   by_cases hha0:isN a 0=true
   ·simp-implicitDefEqProofs[hha0,ho,hc,hxl,hk,hac,hbc]
   ·simp-implicitDefEqProofs[hha0,ho,hc,hxl,hk,hac,hbc]
 ·simp-implicitDefEqProofs[ho]
  refine HB0.use ?_
  by_cases hhb0:isN b 0=true
  ·simp-implicitDefEqProofs[hhb0,ho,hc,hxl,hk,hac,hbc]
  ·simp-implicitDefEqProofs[hhb0,ho,hc,hxl,hk,hac,hbc]
 ·simp-implicitDefEqProofs[ho]
  refine HB1.use ?_
  by_cases hhb1:isN b 1=true
  ·simp-implicitDefEqProofs[hhb1,ho,hc,hxl,hk,hac,hbc]
  ·simp-implicitDefEqProofs[hhb1,ho,hc,hxl,hk,hac,hbc]
   refine HA1.use ?_
   by_cases hha1:isN a 1=true
   ·simp-implicitDefEqProofs[hha1,ho,hc,hxl,hk,hac,hbc]
   ·simp-implicitDefEqProofs[hha1,ho,hc,hxl,hk,hac,hbc]
    refine HB0.use ?_
    by_cases hhb0:isN b 0=true
    ·simp-implicitDefEqProofs[hhb0,ho,hc,hxl,hk,hac,hbc]
     refine HSA.use ?_
     by_cases hhsa:eA a=true
     ·simp-implicitDefEqProofs[hhsa,ho,hc,hxl,hk,hac,hbc]
      refine(ku G _).use ?_
      simp-implicitDefEqProofs[hnc]
     ·simp-implicitDefEqProofs[hhsa,ho,hc,hxl,hk,hac,hbc]
      refine HA0.use ?_
      by_cases hha0:isN a 0=true
      ·simp-implicitDefEqProofs[hha0,ho,hc,hxl,hk,hac,hbc]
       refine HSB.use ?_
       by_cases hhsb:eA b=true
       ·simp-implicitDefEqProofs[hhsb,ho,hc,hxl,hk,hac,hbc]
        refine(ku G _).use ?_
        simp-implicitDefEqProofs[hnc]
       ·simp-implicitDefEqProofs[hhsb,ho,hc,hxl,hk,hac,hbc]
      ·simp-implicitDefEqProofs[hha0,ho,hc,hxl,hk,hac,hbc]
    ·simp-implicitDefEqProofs[hhb0,ho,hc,hxl,hk,hac,hbc]
     refine HA0.use ?_
     by_cases hha0:isN a 0=true
     ·simp-implicitDefEqProofs[hha0,ho,hc,hxl,hk,hac,hbc]
      refine HSB.use ?_
      by_cases hhsb:eA b=true
      ·simp-implicitDefEqProofs[hhsb,ho,hc,hxl,hk,hac,hbc]
       refine(ku G _).use ?_
       simp-implicitDefEqProofs[hnc]
      ·simp-implicitDefEqProofs[hhsb,ho,hc,hxl,hk,hac,hbc]
     ·simp-implicitDefEqProofs[hha0,ho,hc,hxl,hk,hac,hbc]
 ·simp-implicitDefEqProofs[ho]
  refine HB1.use ?_
  by_cases hhb1:isN b 1=true
  ·simp-implicitDefEqProofs[hhb1,ho,hc,hxl,hk,hac,hbc]
  ·simp-implicitDefEqProofs[hhb1,ho,hc,hxl,hk,hac,hbc]
 ·simp-implicitDefEqProofs[ho,hc,hxl,hk,hac,hbc]
 ·simp-implicitDefEqProofs[ho,hc,hxl,hk,hac,hbc]
 ·simp-implicitDefEqProofs[ho,hc,hxl,hk,hac,hbc]
 ·simp-implicitDefEqProofs[ho]
  refine HA0.use ?_
  by_cases hha0:isN a 0=true
  ·simp-implicitDefEqProofs[hha0,ho,hc,hxl,hk,hac,hbc]
   refine(ku G _).use ?_
   simp-implicitDefEqProofs[hnc]
  ·simp-implicitDefEqProofs[hha0,ho,hc,hxl,hk,hac,hbc]
end Go.Proofs.YtaopbokndkdieaaGreatDoor
namespace Go.Proofs.YtaopbokndkdieaaGreatDoor
open Go Go.Aw
set_option maxRecDepth 100000
set_option maxHeartbeats 4000000
theorem dz{α β:Type}(f:α→β):∀(l:List α) (u:Unit),bv (fun(st:Unit) x=>(f x,st)) u l=(l.map f,u)
 |[],u=>rfl
 |x::r,u=>by rw[bv,dz f r];rfl
def wv(f:FuncId)(h:List AO)(hh:∀o∈h,okO h.length o):Vis Unit where
 I:=fun _=>h
 n:=h.length
 F:=f
 caps:=[]
 len:=fun _=>rfl
 ok:=fun _=>hh
 capsOk:=trivial
variable (G:aJ)
theorem Mn(hK:G dR=some dC)(hS:G bW=some [PV.tbl opK opV]):∀(d:Nat) (e:Ex),bp d e=true→d≤6→e.parts≤30→e.sz≤1073741824→VF Tryz.prog G gZ [.agg (e.cs.map .p)] (.agg ((cQ e).cs.map .p)):=by
 intro d
 induction d with
 |zero=>intro e h;cases h
 |succ d ih=>
  intro e hf hd hp hz
  have hc:=e.cs_eq
  have hpp:=e.parts_eq
  have hzz:=e.sz_eq
  have hlen:=bi e.kids
  rw[BA]
  refine AC.go BC ?_
  simp-implicitDefEqProofs[uc,hc]
  have HM:=mW G (wv gZ [.row 4 [[.p (.int .i64 e.op),.p (.int .i64 e.n),.p (.str e.name),.p (exL e.kids)]],.row 4 [[.p (.int .i64 0),.p (.int .i64 0),.p (.str []),.nils]]] (by simp[okO,below])) (fun(st:Unit) x=>(cQ x,st)) (fun _ _=>True) e.kids (by omega) (by show 0<2;omega)
   (fun i st hi _=>⟨trivial,by
     have hk:=Rd hi
     have h1:=gr hk
     have h2:=aS hk
     exact(ih e.kids[i] (fS hf hk) (by omega) (by omega) (by omega)).ac (by simp[below]) (by simp[below]) _⟩) () trivial
  rw[dz,←cZ] at HM
  refine HM.mono ?_
  rintro r h ⟨rfl,rfl⟩
  have H:VF Tryz.prog G gJ [.agg [.p (.int .i64 e.op),.p (.int .i64 e.n),.p (.str e.name),.p (exL (aV e.kids))]] (.agg ((eK e.op e.n e.name (aV e.kids)).cs.map .p)):=by
   have h2:=mI e.kids
   have h3:=mN e.kids
   have H0:=CN G hK hS (wd hf) hd (by rw[Ex.parts_eq];show 1+dO (aV e.kids)≤30;omega) (by
    rw[Ex.sz_eq]
    show 1+e.name.length+bB (aV e.kids)≤_
    omega)
   rw[Ex.cs_eq (.mk e.op e.n e.name (aV e.kids))] at H0
   exact H0
  simp-implicitDefEqProofs[aa,wv]
  refine H.use ?_
  have hq:=(eK e.op e.n e.name (aV e.kids)).cs_eq
  rw[hq]
  simp-implicitDefEqProofs[]
end Go.Proofs.YtaopbokndkdieaaGreatDoor
namespace Go.Proofs.YtaopbokndkdieaaGreatDoor
open Go Go.Aw
set_option maxRecDepth 100000
set_option maxHeartbeats 4000000
def K_spec_l6Fold:AK:= .seq (.reg [oJ 1 (.box 4 (.t 0)),oJ 2 (.alloc [(.p (.int .i64 0)),(.p (.int .i64 0)),(.p (.str [])),.nils])]) (.seq (.reg [oJ 5 (.bsl 4 [(.p (.int .i64 0)),(.p (.int .i64 0)),(.p (.str [])),.nils] 0 []),oM 3 5]) (.seq (.seq (.reg [oK 4 0]) (.blk 0 (.loop (.seq (.seq (.reg [oM 6 4,oF 7 3 1,oL 8 7,oJ 9 (.len false (.t 8)),oJ 10 (.bin .lss (.t 6) (.t 9))]) (.cond (.t 10) (.skip) (.exit 0))) (.seq (.blk 1 (.reg [oM 13 3,oF 14 3 1,oL 15 14,oM 16 4,oJ 17 (.idxS 4 (.t 15) (.t 16)),oJ 18 (.ld (some 4) (.t 17)),oJ 19 (.call fg [(.t 18)]),oJ 20 (.bsl 4 [(.p (.int .i64 0)),(.p (.int .i64 0)),(.p (.str [])),.nils] 1 [(0,4,(.t 19))]),oJ 21 (.app 4 56 (.t 13) (.t 20)),oM 3 21])) (.reg [oM 11 4,oJ 12 (.bin .add (.t 11) (.c (.p (.int .i64 1)))),oM 4 12])))))) (.cut (.reg [oM 22 3,oF 23 3 1,oS 23 22]) (.seq (.reg [oJ 24 (.ld (some 4) (.t 1)),oJ 25 (.call gy [(.t 24)]),⟨none,none,.st 4 (.t 2) (.t 25)⟩]) (.ret)))))
theorem yh:K_spec_l6Fold.whole=F_spec_l6Fold.ak:=rfl
def K_spec_l6Folds:AK:= .seq (.reg [oJ 2 (.mov (.c .nils))]) (.seq (.reg [oJ 8 (.bsl 5 [(.p (.int .i64 0)),(.p (.str [])),.nils,.nils,.nils] 0 []),oM 3 8]) (.seq (.seq (.reg [oK 4 0]) (.blk 0 (.loop (.seq (.seq (.reg [oM 9 4,oM 10 0,oJ 11 (.len false (.t 10)),oJ 12 (.bin .lss (.t 9) (.t 11))]) (.cond (.t 12) (.skip) (.exit 0))) (.seq (.blk 1 (.seq (.reg [oM 15 0,oM 16 4,oJ 17 (.idxS 5 (.t 15) (.t 16)),oJ 18 (.ld (some 5) (.t 17)),oJ 5 (.alloc [(.p (.int .i64 0)),(.p (.str [])),.nils,.nils,.nils]),⟨none,none,.st 5 (.t 5) (.t 18)⟩]) (.seq (.reg [oJ 19 (.bsl 4 [(.p (.int .i64 0)),(.p (.int .i64 0)),(.p (.str [])),.nils] 0 []),oM 6 19]) (.seq (.seq (.reg [oK 7 0]) (.blk 2 (.loop (.seq (.seq (.reg [oM 20 7,oF 21 2 5,oL 22 21,oJ 23 (.len false (.t 22)),oJ 24 (.bin .lss (.t 20) (.t 23))]) (.cond (.t 24) (.skip) (.exit 2))) (.seq (.blk 3 (.reg [oM 27 6,oF 28 2 5,oL 29 28,oM 30 7,oJ 31 (.idxS 4 (.t 29) (.t 30)),oJ 32 (.ld (some 4) (.t 31)),oJ 33 (.call fg [(.t 32)]),oJ 34 (.bsl 4 [(.p (.int .i64 0)),(.p (.int .i64 0)),(.p (.str [])),.nils] 1 [(0,4,(.t 33))]),oJ 35 (.app 4 56 (.t 27) (.t 34)),oM 6 35])) (.reg [oM 25 7,oJ 26 (.bin .add (.t 25) (.c (.p (.int .i64 1)))),oM 7 26])))))) (.cut (.reg [oM 36 6,oF 37 2 5,oS 37 36]) (.seq (.reg [oF 38 3 5,oL 39 38,oJ 40 (.call bL [(.t 39)]),oF 41 3 5,oS 41 40]) (.seq (.reg [oF 42 4 5,oL 43 42,oJ 44 (.call bL [(.t 43)]),oF 45 4 5,oS 45 44]) (.reg [oM 46 3,oJ 47 (.ld (some 5) (.t 5)),oJ 48 (.bsl 5 [(.p (.int .i64 0)),(.p (.str [])),.nils,.nils,.nils] 1 [(0,5,(.t 47))]),oJ 49 (.app 5 96 (.t 46) (.t 48)),oM 3 49])))))))) (.reg [oM 13 4,oJ 14 (.bin .add (.t 13) (.c (.p (.int .i64 1)))),oM 4 14])))))) (.seq (.reg [oM 50 3,oM 2 50]) (.ret))))
theorem wR:K_spec_l6Folds.whole=F_spec_l6Folds.ak:=rfl
variable (G:aJ)
theorem tZ{l:List Ex}{j:Nat}(h:j<l.length):aV (l.take (j+1))=aV (l.take j)++[cQ l[j]]:=by
 rw[an h,cZ,cZ,List.map_append];rfl
theorem ng(l:List Ex):(aV l).length=l.length:=by rw[cZ,Rs]
theorem Hr:∀(d:Nat) (e:Ex),bp d e=true→e.sz≤1099511627776→VF Tryz.prog G fg [.agg (e.cs.map .p)] (.agg ((cQ e).cs.map .p)):=by
 intro d
 induction d with
 |zero=>intro e h;cases h
 |succ d ih=>
  intro e hf hz
  have hzz:=e.sz_eq
  have hlen:=bi e.kids
  have hc:=e.cs_eq
  have hxl:∀l,exL l= .lst 4 (l.map Ex.cs):=fun _=>rfl
  refine AC.goK yb yh ?_
  rw[BA]
  simp-implicitDefEqProofs[K_spec_l6Fold,F_spec_l6Fold,hc]
  refine aU (fun j:Nat=>am 26 [(1,.ptr 0 4 0 0),(2,.ptr 1 4 0 0),(3,.sl 2 4 0 j),(4,.p (.int .i64 j))])
   (fun j=>[.row 4 [[.p (.int .i64 e.op),.p (.int .i64 e.n),.p (.str e.name),.p (exL e.kids)]],.row 4 [[.p (.int .i64 0),.p (.int .i64 0),.p (.str []),.nils]],.row 4 (exR (aV (e.kids.take j)))])
   (fun j=>j≤e.kids.length) (fun j=>e.kids.length-j) 0 (by simp) ?_ ?_
  ·refine ae (h:=[_,_,.row 4 []]) (by simp) (by simp[okO,below]) (by simp[below])
  intro j hj
  have hrl:(exR (aV (e.kids.take j))).length=j:=by rw[vh,ng];simp;omega
  simp-implicitDefEqProofs[hxl]
  refine bf (fun h=>?_) (fun h=>?_)
  ·simp at h
   have hg:=QW h
   have hks:=aS (Rd h)
   have hkc:=(cQ e.kids[j]).cs_eq
   simp-implicitDefEqProofs[hg]
   refine(ih e.kids[j] (fS hf (Rd h)) (by omega)).use ?_
   simp-implicitDefEqProofs[hkc,hrl]
   refine⟨⟨by omega,by omega⟩,j+1,by omega,by omega,?_⟩
   have htk:List.take j (exR (aV (e.kids.take j)))=exR (aV (e.kids.take j)):=Rb (by omega)
   rw[tZ h,vu,htk]
   have h1:exR [cQ e.kids[j]]=[[.p (.int .i64 (cQ e.kids[j]).op),.p (.int .i64 (cQ e.kids[j]).n),.p (.str (cQ e.kids[j]).name),.p (exL (cQ e.kids[j]).kids)]]:=by rw[exR,RJ,hkc];rfl
   rw[h1]
   refine bO [0,1,4] (by simp) (by decide) (by decide) (aD rfl (by simp[below]) (aD rfl (by simp[below]) (aD rfl (fun x hx=>?_) bq))) (by simp[below,ren,hxl,w1 (i:=j) (by omega)])
   rcases Rf.1 hx with h|h
   ·exact dI _ x h
   ·rw[Ri.1 h];simp
  ·simp at h
   have hje:j=e.kids.length:=by omega
   subst hje
   rw[RA] at hrl⊢
   simp-implicitDefEqProofs[]
   refine kG (am 26 [(1,.ptr 0 4 0 0),(2,.ptr 1 4 0 0)]) [.row 4 [[.p (.int .i64 e.op),.p (.int .i64 e.n),.p (.str e.name),.p (exL (aV e.kids))]],.row 4 [[.p (.int .i64 0),.p (.int .i64 0),.p (.str []),.nils]]] ?_ ?_
   ·simp-implicitDefEqProofs[]
    refine fx 2 (by omega) (by simp) rfl (.one (.keep (by simp[below]) (.keep (by simp[below]) (.keep (by simp[below]) (.one ?_ .nil)))) (.same (by simp[okO,below]) (.nil _))) ?_
    ·have hl2:=ng e.kids
     rw[←hl2]
     exact rH rfl
    ·exact⟨.keep (by simp[below]) .nil,.keep (by simp[below]) .nil,trivial⟩
   have H:VF Tryz.prog G gy [.agg [.p (.int .i64 e.op),.p (.int .i64 e.n),.p (.str e.name),.p (exL (aV e.kids))]] (.agg ((eK e.op e.n e.name (aV e.kids)).cs.map .p)):=by
    have H0:=Jc G (wd hf) (by
     have h2:=mI e.kids
     rw[Ex.sz_eq]
     show 1+e.name.length+bB (aV e.kids)≤_
     omega)
    rw[Ex.cs_eq (.mk e.op e.n e.name (aV e.kids))] at H0
    exact H0
   simp-implicitDefEqProofs[]
   refine H.use ?_
   have hq:=(eK e.op e.n e.name (aV e.kids)).cs_eq
   rw[hq]
   simp-implicitDefEqProofs[]
theorem BI{l:List Sm}{j:Nat}(h:j<l.length):aG (l.take (j+1))=aG (l.take j)++[iD l[j]]:=by
 rw[an h,hY,hY,List.map_append];rfl
theorem rp(l:List Sm):(aG l).length=l.length:=by rw[hY,Rs]
theorem uf(l:List Sm)(hf:∀x∈l,∀a∈x.args,bp 6 a=true)(hz:aq l≤1099511627776)
 (ih:∀x∈l,VF Tryz.prog G bL [.p (smL x.body)] (.p (smL (aG x.body)))∧VF Tryz.prog G bL [.p (smL x.els)] (.p (smL (aG x.els)))):VF Tryz.prog G bL [.p (smL l)] (.p (smL (aG l))):=by
 have hll:=bk l
 have hsl:∀l,smL l= .lst 5 (l.map Sm.cs):=fun _=>rfl
 have hxl:∀l,exL l= .lst 4 (l.map Ex.cs):=fun _=>rfl
 have key:AC Tryz.prog G bL [.p (smL l)] [] fun x h=>∃v,x= .ret v∧View h v (smL (aG l)):=by
  refine AC.goK wj wR ?_
  simp-implicitDefEqProofs[K_spec_l6Folds,F_spec_l6Folds]
  refine aU (fun i:Nat=>am 51 [(0,.p (smL l)),(3,.sl 0 5 0 i),(4,.p (.int .i64 i))]) (fun i=>[.row 5 (smR (aG (l.take i)))])
   (fun i=>i≤l.length) (fun i=>l.length-i) 0 (by simp) ?_ ?_
  ·refine ae (h:=[.row 5 []]) (by simp) (by simp[okO,below]) (by simp[below])
  intro i hi
  have hol:(smR (aG (l.take i))).length=i:=by rw[cY,rp];simp;omega
  simp-implicitDefEqProofs[hsl]
  refine bf (fun h=>?_) (fun h=>?_)
  ·simp at h
   have hg:=QW h
   have hat:=zY h
   have hse:=l[i].cs_eq
   have hsz:=l[i].sz_eq
   have hfx:=hf l[i] (Rd h)
   have hix:=ih l[i] (Rd h)
   have eR:=BI h
   have hfc:=(iD l[i]).cs_eq
   rw[xn] at hfc
   simp only[Sm.op,Sm.name,Sm.args,Sm.body,Sm.els] at hfc
   generalize hgs:l[i]=s at hg hat hse hsz hfx hix eR hfc
   generalize aG (l.take i)=out at hol eR⊢
   simp-implicitDefEqProofs[hg,hse]
   refine aU (fun j:Nat=>am 51 [(0,.p (smL l)),(3,.sl 0 5 0 i),(4,.p (.int .i64 i)),(5,.ptr 1 5 0 0),(6,.sl 2 4 0 j),(7,.p (.int .i64 j))])
    (fun j=>[.row 5 (smR out),.row 5 [[.p (.int .i64 s.op),.p (.str s.name),.p (exL s.args),.p (smL s.body),.p (smL s.els)]],.row 4 (exR (aV (s.args.take j)))])
    (fun j=>j≤s.args.length) (fun j=>s.args.length-j) 0 (by simp) ?_ ?_
   ·refine ae (h:=[_,_,.row 4 []]) (by simp) (ag (bP (aP out)) (ag (by simp[okO,below]) (by simp[okO,below]))) (by simp[below,hsl])
   intro j hj
   have hrl:(exR (aV (s.args.take j))).length=j:=by rw[vh,ng];simp;omega
   have hal:=bi s.args
   simp-implicitDefEqProofs[hxl]
   refine bf (fun hcc=>?_) (fun hcc=>?_)
   ·simp at hcc
    have hga:=QW hcc
    have hks:=aS (Rd hcc)
    have hkc:=(cQ s.args[j]).cs_eq
    simp-implicitDefEqProofs[hga]
    refine(Hr G 6 s.args[j] (hfx _ (Rd hcc)) (by omega)).use ?_
    simp-implicitDefEqProofs[hkc,hrl]
    refine⟨⟨by omega,by omega⟩,j+1,by omega,by omega,?_⟩
    have htk:List.take j (exR (aV (s.args.take j)))=exR (aV (s.args.take j)):=Rb (by omega)
    rw[tZ hcc,vu,htk]
    have h1:exR [cQ s.args[j]]=[[.p (.int .i64 (cQ s.args[j]).op),.p (.int .i64 (cQ s.args[j]).n),.p (.str (cQ s.args[j]).name),.p (exL (cQ s.args[j]).kids)]]:=by rw[exR,RJ,hkc];rfl
    rw[h1]
    refine bO [0,1,4] (by simp) (by decide) (by decide) (aD rfl (aP out) (aD rfl (by simp[below]) (aD rfl (fun x hx=>?_) bq))) (by simp[below,ren,hxl,hsl,w1 (i:=j) (by omega)])
    rcases Rf.1 hx with h|h
    ·exact dI _ x h
    ·rw[Ri.1 h];simp
   simp at hcc
   have hje:j=s.args.length:=by omega
   subst hje
   rw[RA] at hrl⊢
   simp-implicitDefEqProofs[]
   refine kG (am 51 [(0,.p (smL l)),(3,.sl 0 5 0 i),(4,.p (.int .i64 i)),(5,.ptr 1 5 0 0)])
    [.row 5 (smR out),.row 5 [[.p (.int .i64 s.op),.p (.str s.name),.p (exL (aV s.args)),.p (smL s.body),.p (smL s.els)]]] ?_ ?_
   ·simp-implicitDefEqProofs[]
    refine fx 2 (by omega) (by simp) rfl (.same (bP (aP out)) (.one (.keep (by simp[below]) (.keep (by simp[below]) (.one ?_ (.keep (by simp[below]) (.keep (by simp[below]) .nil))))) (.nil _))) ?_
    ·have hl2:=ng s.args
     rw[←hl2]
     exact rH rfl
    ·exact⟨.keep (by simp[below]) .nil,.keep (by simp[below]) .nil,.keep (by simp[below]) .nil,.keep (by simp[below]) .nil,trivial⟩
   simp-implicitDefEqProofs[]
   refine hix.1.use ?_
   simp-implicitDefEqProofs[]
   refine hix.2.use ?_
   simp-implicitDefEqProofs[hol]
   refine⟨⟨by omega,by omega⟩,i+1,by omega,by omega,?_⟩
   have htk:List.take i (smR out)=smR out:=Rb (by omega)
   rw[eR,nk,htk]
   have h1:smR [iD s]=[[.p (.int .i64 s.op),.p (.str s.name),.p (exL (aV s.args)),.p (smL (aG s.body)),.p (smL (aG s.els))]]:=by rw[smR,RJ,xn,Sm.cs_eq];rfl
   rw[h1]
   refine bO [3] (by simp) (by decide) (by decide) (aD rfl (fun x hx=>?_) bq) (by simp[below,ren,hsl,w1 (i:=i) (by omega)])
   rcases Rf.1 hx with h|h
   ·exact aP out x h
   ·rw[Ri.1 h];simp
  ·simp at h
   have hie:i=l.length:=by omega
   subst hie
   rw[RA] at hol⊢
   simp-implicitDefEqProofs[]
   have hl2:=rp l
   rw[←hl2]
   exact eX rfl
 refine key.freezeR (fun t v h ⟨_,e,_⟩=>by cases e) fun v h ⟨u,e1,e2⟩=>?_
 cases e1
 exact .one e2 .nil
theorem Fj:∀(d:Nat) (l:List Sm),(∀x∈l,au d x=true)→aq l≤1099511627776→VF Tryz.prog G bL [.p (smL l)] (.p (smL (aG l))):=by
 intro d
 induction d with
 |zero=>
  intro l hf hz
  exact uf G l (fun x hx=>by have:=hf x hx;cases this) hz (fun x hx=>by have:=hf x hx;cases this)
 |succ d ih=>
  intro l hf hz
  refine uf G l (fun x hx=>Dd (hf x hx)) hz (fun x hx=>?_)
  have h1:=bD hx
  have h2:=x.sz_eq
  exact⟨ih x.body (ni (hf x hx)) (by omega),ih x.els (pV (hf x hx)) (by omega)⟩
end Go.Proofs.YtaopbokndkdieaaGreatDoor
namespace Go.Proofs.YtaopbokndkdieaaGreatDoor
open Go Go.Aw
set_option maxRecDepth 100000
set_option maxHeartbeats 4000000
def K_spec_l6Cuts:AK:= .seq (.reg [oJ 2 (.mov (.c .nils))]) (.seq (.reg [oJ 7 (.bsl 5 [(.p (.int .i64 0)),(.p (.str [])),.nils,.nils,.nils] 0 []),oM 3 7]) (.seq (.seq (.reg [oK 4 0]) (.blk 0 (.loop (.seq (.seq (.reg [oM 8 4,oM 9 0,oJ 10 (.len false (.t 9)),oJ 11 (.bin .lss (.t 8) (.t 10))]) (.cond (.t 11) (.skip) (.exit 0))) (.seq (.blk 1 (.seq (.reg [oM 14 0,oM 15 4,oJ 16 (.idxS 5 (.t 14) (.t 15)),oJ 17 (.ld (some 5) (.t 16)),oJ 5 (.alloc [(.p (.int .i64 0)),(.p (.str [])),.nils,.nils,.nils]),⟨none,none,.st 5 (.t 5) (.t 17)⟩]) (.seq (.reg [oF 18 2 5,oL 19 18,oJ 20 (.idxS 4 (.t 19) (.c (.p (.int .i64 0)))),oJ 21 (.ld (some 4) (.t 20)),oJ 6 (.alloc [(.p (.int .i64 0)),(.p (.int .i64 0)),(.p (.str [])),.nils]),⟨none,none,.st 4 (.t 6) (.t 21)⟩]) (.seq (.reg [oF 22 3 5,oL 23 22,oJ 24 (.call bX [(.t 23)]),oF 25 3 5,oS 25 24]) (.seq (.reg [oF 26 4 5,oL 27 26,oJ 28 (.call bX [(.t 27)]),oF 29 4 5,oS 29 28]) (.cut (.seq (.reg [oF 30 0 5,oL 31 30,oJ 32 (.bin .eql (.t 31) (.c (.p (.int .i64 6)))),oM 33 32,⟨(some 34),some (33,true),.ld (some 4) (.t 6)⟩,⟨(some 35),some (33,true),.call br [(.t 34),(.c (.p (.int .i64 0)))]⟩,oJ 36 (.pick (.t 33) (.t 35) (.c (.p (.bool false))))]) (.cond (.t 36) (.exit 1) (.skip))) (.cut (.seq (.reg [oF 37 0 5,oL 38 37,oJ 39 (.bin .eql (.t 38) (.c (.p (.int .i64 5)))),oM 40 39,⟨(some 41),some (40,true),.fldA 0 (.t 6)⟩,⟨(some 42),some (40,true),.ld none (.t 41)⟩,⟨(some 43),some (40,true),.bin .eql (.t 42) (.c (.p (.int .i64 1)))⟩,oJ 44 (.pick (.t 40) (.t 43) (.c (.p (.bool false))))]) (.cond (.t 44) (.seq (.reg [oF 45 1 6,oL 46 45,oJ 47 (.bin .neq (.t 46) (.c (.p (.int .i64 0))))]) (.cond (.t 47) (.reg [oJ 48 (.bsl 5 [(.p (.int .i64 0)),(.p (.str [])),.nils,.nils,.nils] 0 []),oF 49 4 5,oS 49 48]) (.reg [oJ 50 (.bsl 5 [(.p (.int .i64 0)),(.p (.str [])),.nils,.nils,.nils] 0 []),oF 51 3 5,oS 51 50]))) (.skip))) (.seq (.reg [oM 52 3,oJ 53 (.ld (some 5) (.t 5)),oJ 54 (.bsl 5 [(.p (.int .i64 0)),(.p (.str [])),.nils,.nils,.nils] 1 [(0,5,(.t 53))]),oJ 55 (.app 5 96 (.t 52) (.t 54)),oM 3 55]) (.seq (.reg [oF 56 0 5,oL 57 56,oJ 58 (.bin .eql (.t 57) (.c (.p (.int .i64 7))))]) (.cond (.t 58) (.exit 0) (.skip))))))))))) (.reg [oM 12 4,oJ 13 (.bin .add (.t 12) (.c (.p (.int .i64 1)))),oM 4 13])))))) (.seq (.reg [oM 59 3,oM 2 59]) (.ret))))
theorem yl:K_spec_l6Cuts.whole=F_spec_l6Cuts.ak:=rfl
def nb7(l:List Sm):Prop:=∀x∈l,x.op≠7
theorem tl:∀{a b:List Sm},nb7 a→aK (a++b)=aK a++aK b
 |[],b,_=>by rw[aK];rfl
 |x::r,b,h=>by
  have h2:=tl (a:=r) (b:=b) (fun y hy=>h y (by simp[hy]))
  rw[RE,er,er,if_neg (h x (by simp)),if_neg (h x (by simp)),h2]
  split<;>rfl
theorem tp{x:Sm}{r:List Sm}:aK (x::r)=if jE x=true then aK r else if x.op=7 then[dA x] else dA x::aK r:=by
 rw[er]
 split
 ·rfl
 ·split<;>rfl
theorem yX:∀l:List Sm,(aK l).length≤l.length
 |[]=>by rw[aK];exact Rj _
 |x::r=>by
  have h:=yX r
  rw[er]
  split
  ·simp;omega
  ·split
   ·simp
   ·simp;exact h
theorem Km(x:Sm):(dA x).cs=[.int .i64 x.op,.str x.name,exL x.args,smL (dA x).body,smL (dA x).els]:=by rw[Sm.cs_eq,KO,ET,FZ]
variable (G:aJ)
theorem wW(l:List Sm)(hf:∀x∈l,x.args≠[])(hz:aq l≤1099511627776)
 (ih:∀x∈l,VF Tryz.prog G bX [.p (smL x.body)] (.p (smL (aK x.body)))∧VF Tryz.prog G bX [.p (smL x.els)] (.p (smL (aK x.els)))):VF Tryz.prog G bX [.p (smL l)] (.p (smL (aK l))):=by
 have hll:=bk l
 have hsl:∀l,smL l= .lst 5 (l.map Sm.cs):=fun _=>rfl
 have hxl:∀l,exL l= .lst 4 (l.map Ex.cs):=fun _=>rfl
 have key:AC Tryz.prog G bX [.p (smL l)] [] fun x h=>∃v,x= .ret v∧View h v (smL (aK l)):=by
  refine AC.goK xU yl ?_
  simp-implicitDefEqProofs[K_spec_l6Cuts,F_spec_l6Cuts]
  refine aU (fun i:Nat=>am 60 [(0,.p (smL l)),(3,.sl 0 5 0 (aK (l.take i)).length),(4,.p (.int .i64 i))]) (fun i=>[.row 5 (smR (aK (l.take i)))])
   (fun i=>i≤l.length∧nb7 (l.take i)) (fun i=>l.length-i) 0 ⟨by simp,fun x hx=>by simp at hx⟩ ?_ ?_
  ·have e0:aK (l.take 0)=[]:=by rw[List.take_zero,aK]
   rw[e0]
   refine ae (h:=[.row 5 []]) (by simp) (by simp[okO,below]) (by simp[below])
  rintro i ⟨hi,hnb⟩
  have hol:(smR (aK (l.take i))).length=(aK (l.take i)).length:=by rw[cY]
  have hle:(aK (l.take i)).length≤i:=by have:=yX (l.take i);rw[Ru] at this;omega
  simp-implicitDefEqProofs[hsl]
  refine bf (fun h=>?_) (fun h=>?_)
  ·simp at h
   have hg:=QW h
   have hat:=zY h
   have hse:=l[i].cs_eq
   have hsz:=l[i].sz_eq
   have hfx:=hf l[i] (Rd h)
   have hix:=ih l[i] (Rd h)
   have htk:=an h
   have hdr:=RS h
   have hsplit:=RF i l
   generalize hgs:l[i]=s at hg hat hse hsz hfx hix htk hdr
   have hcs:=Km s
   obtain⟨a,r,ha⟩:∃a r,s.args=a::r:=by
    match hx:s.args,hfx with
    |a::r,_=>exact⟨a,r,rfl⟩
   have hac:=a.cs_eq
   have HI:=vZ G a 0
   rw[hac] at HI
   simp only[Rw,List.map_nil] at HI
   have hNa:∀n,mc s n=isN a n:=fun n=>by rw[mc,ha]
   have hCa:wB s=decide (a.op=1):=by rw[wB,ha]
   have hzl:jE s=(decide (s.op=6)&&isN a 0):=by rw[jE,hNa]
   have eall:aK l=aK (l.take i)++aK (s::l.drop (i+1)):=by
    conv=>lhs;rw[←hsplit,hdr]
    exact tl hnb
   have enxt:aK (l.take (i+1))=aK (l.take i)++aK [s]:=by rw[htk];exact tl hnb
   generalize aK (l.take i)=out at hol hle eall enxt⊢
   simp-implicitDefEqProofs[hg,hse,hxl,ha,hac]
   refine hix.1.use ?_
   simp-implicitDefEqProofs[]
   refine hix.2.use ?_
   simp-implicitDefEqProofs[]
   refine nZ (fun _:Unit=>am 60 [(0,.p (smL l)),(3,.sl 0 5 0 out.length),(4,.p (.int .i64 i)),(5,.ptr 1 5 0 0),(6,.ptr 2 4 0 0)])
    (fun _=>[AO.row 5 (smR out),.row 5 [[.p (.int .i64 s.op),.p (.str s.name),.p (.lst 4 ([.int .i64 a.op,.int .i64 a.n,.str a.name,.lst 4 (a.kids.map Ex.cs)]::r.map Ex.cs)),.p (smL (aK s.body)),.p (smL (aK s.els))]],.row 4 [[.p (.int .i64 a.op),.p (.int .i64 a.n),.p (.str a.name),.p (.lst 4 (a.kids.map Ex.cs))]]])
    (fun _=>jE s=false) ?_ ?_
   ·by_cases o6:s.op=6
    ·simp-implicitDefEqProofs[o6]
     refine HI.use ?_
     by_cases h0:isN a 0=true
     ·have ez:jE s=true:=by rw[hzl,h0,o6];rfl
      have e1:aK [s]=[]:=by rw[tp,if_pos ez,aK]
      rw[e1,RL] at enxt
      simp-implicitDefEqProofs[h0]
      refine⟨i+1,⟨by omega,?_⟩,by omega,?_⟩
      ·rw[htk]
       intro x hx
       rcases Rf.1 hx with hx|hx
       ·exact hnb x hx
       ·rw[Ri.1 hx,o6];omega
      ·rw[enxt]
       refine mA [0] rfl (by decide) (aD rfl (aP out) bq) (by simp[below,ren,hsl,w1 (i:=i) (by omega)])
     ·have h0:isN a 0=false:=by simpa using h0
      simp-implicitDefEqProofs[h0,hzl]
      exact ae (by simp) (ag (bP (aP out)) (ag (by simp[okO,below]) (ag (by simp[okO,below]) dM))) (by simp[below,hsl])
    ·simp-implicitDefEqProofs[o6,hzl]
     exact ae (by simp) (ag (bP (aP out)) (ag (by simp[okO,below]) (ag (by simp[okO,below]) dM))) (by simp[below,hsl])
   intro _ hzf
   refine kG (am 60 [(0,.p (smL l)),(3,.sl 0 5 0 out.length),(4,.p (.int .i64 i)),(5,.ptr 1 5 0 0)])
    [AO.row 5 (smR out),.row 5 [[.p (.int .i64 s.op),.p (.str s.name),.p (.lst 4 ([.int .i64 a.op,.int .i64 a.n,.str a.name,.lst 4 (a.kids.map Ex.cs)]::r.map Ex.cs)),.p (smL (dA s).body),.p (smL (dA s).els)]]] ?_ ?_
   ·rw[KH,HU,hNa,hCa]
    by_cases o5:s.op=5
    ·by_cases a1:a.op=1
     ·by_cases a0:a.n=0
      ·have hn:isN a 0=true:=isN_iff.2 ⟨a1,a0⟩
       simp-implicitDefEqProofs[o5,a1,a0,hn]
       refine fx 2 (by omega) (by simp) rfl (.same (bP (aP out)) (.one (.keep (by simp[below]) (.keep (by simp[below]) (.keep (by simp[below]) (.one ?_ (.keep (by simp[below]) .nil))))) (.nil _))) ?_
       ·exact eX (l:=[]) rfl
       ·exact⟨.keep (by simp[below,hsl]) .nil,.keep (by simp[below]) .nil,.keep (by simp[below]) .nil,.keep (by simp[below]) .nil,trivial⟩
      ·have hn:isN a 0=false:=by
        rw[isN];simp[a1,a0]
       simp-implicitDefEqProofs[o5,a1,a0,hn]
       refine fx 2 (by omega) (by simp) rfl (.same (bP (aP out)) (.one (.keep (by simp[below]) (.keep (by simp[below]) (.keep (by simp[below]) (.keep (by simp[below]) (.one ?_ .nil))))) (.nil _))) ?_
       ·exact eX (l:=[]) rfl
       ·exact⟨.keep (by simp[below,hsl]) .nil,.keep (by simp[below]) .nil,.keep (by simp[below]) .nil,.keep (by simp[below]) .nil,trivial⟩
     ·have hn:isN a 0=false:=by
       rw[isN];simp[a1]
      simp-implicitDefEqProofs[o5,a1,hn]
      exact mA [0,1] rfl (by decide) (aD rfl (aP out) (aD rfl (by simp[below]) bq)) (by simp[below,ren,hsl])
    ·simp-implicitDefEqProofs[o5]
     exact mA [0,1] rfl (by decide) (aD rfl (aP out) (aD rfl (by simp[below]) bq)) (by simp[below,ren,hsl])
   simp-implicitDefEqProofs[hol]
   refine⟨⟨by omega,by omega⟩,?_⟩
   have htk2:List.take out.length (smR out)=smR out:=Rb (by omega)
   have h1:smR [dA s]=[[.p (.int .i64 s.op),.p (.str s.name),.p (.lst 4 ([.int .i64 a.op,.int .i64 a.n,.str a.name,.lst 4 (a.kids.map Ex.cs)]::r.map Ex.cs)),.p (smL (dA s).body),.p (smL (dA s).els)]]:=by
    have e3:exL s.args= .lst 4 ([.int .i64 a.op,.int .i64 a.n,.str a.name,.lst 4 (a.kids.map Ex.cs)]::r.map Ex.cs):=by rw[ha,hxl,Rw,hac,hxl]
    rw[smR,RJ,hcs,e3];rfl
   have h2:smR out++[[.p (.int .i64 s.op),.p (.str s.name),.p (.lst 4 ([.int .i64 a.op,.int .i64 a.n,.str a.name,.lst 4 (a.kids.map Ex.cs)]::r.map Ex.cs)),.p (smL (dA s).body),.p (smL (dA s).els)]]=smR (out++[dA s]):=by rw[nk,h1]
   rw[htk2,h2]
   refine bf (fun h7=>?_) (fun h7=>?_)
   ·simp at h7
    have e1:aK l=out++[dA s]:=by rw[eall,tp,if_neg (by rw[hzf];simp),if_pos h7]
    have e2:out.length+1=(aK l).length:=by rw[e1];simp
    simp-implicitDefEqProofs[]
    rw[←e1,e2]
    exact eX rfl
   ·simp at h7
    have e1:aK [s]=[dA s]:=by rw[tp,if_neg (by rw[hzf];simp),if_neg h7,aK]
    rw[e1] at enxt
    have e2:out.length+1=(out++[dA s]).length:=by simp
    simp-implicitDefEqProofs[]
    refine⟨i+1,⟨by omega,?_⟩,by omega,?_⟩
    ·rw[htk]
     intro x hx
     rcases Rf.1 hx with hx|hx
     ·exact hnb x hx
     ·rw[Ri.1 hx];exact h7
    ·rw[enxt]
     refine bO [3] (by simp) (by decide) (by decide) (aD rfl (aP _) bq) (by simp[below,ren,hsl,w1 (i:=i) (by omega)])
  ·simp at h
   have hie:i=l.length:=by omega
   subst hie
   rw[RA] at hol⊢
   simp-implicitDefEqProofs[]
   exact eX rfl
 refine key.freezeR (fun t v h ⟨_,e,_⟩=>by cases e) fun v h ⟨u,e1,e2⟩=>?_
 cases e1
 exact .one e2 .nil
theorem Ar{d:Nat}{x:Sm}(h:au d x=true):x.args≠[]:=by
 obtain⟨d,rfl⟩:=qT h
 rw[au,Rh,Rh] at h
 have h1:=h.1.1
 simp only[eL,Rh,decide_eq_true_eq] at h1
 have h2:=h1.1.1.1.1.1.1.2
 intro e
 rw[e] at h2
 simp only[List.length_nil,iW] at h2
 split at h2<;>omega
theorem Hb:∀(d:Nat) (l:List Sm),(∀x∈l,au d x=true)→aq l≤1099511627776→VF Tryz.prog G bX [.p (smL l)] (.p (smL (aK l))):=by
 intro d
 induction d with
 |zero=>
  intro l hf hz
  exact wW G l (fun x hx=>by have:=hf x hx;cases this) hz (fun x hx=>by have:=hf x hx;cases this)
 |succ d ih=>
  intro l hf hz
  refine wW G l (fun x hx=>Ar (hf x hx)) hz (fun x hx=>?_)
  have h1:=bD hx
  have h2:=x.sz_eq
  exact⟨ih x.body (ni (hf x hx)) (by omega),ih x.els (pV (hf x hx)) (by omega)⟩
end Go.Proofs.YtaopbokndkdieaaGreatDoor
namespace Go.Proofs.YtaopbokndkdieaaGreatDoor
open Go Go.Aw
set_option maxRecDepth 100000
set_option maxHeartbeats 4000000
def K_impl_cutBlock:AK:= .seq (.reg [oJ 2 (.mov (.c .nils))]) (.seq (.reg [oJ 3 (.mov (.c .nils))]) (.seq (.seq (.reg [oM 6 0,oJ 7 (.len false (.t 6)),oK 8 0]) (.blk 0 (.loop (.seq (.reg [oJ 9 (.bin .lss (.t 8) (.t 7))]) (.seq (.cond (.t 9) (.skip) (.exit 0)) (.seq (.blk 1 (.seq (.reg [oJ 10 (.idxS 5 (.t 6) (.t 8)),oJ 11 (.ld (some 5) (.t 10)),oJ 5 (.alloc [(.p (.int .i64 0)),(.p (.str [])),.nils,.nils,.nils]),⟨none,none,.st 5 (.t 5) (.t 11)⟩]) (.cut (.blk 2 (.seq (.reg [oF 13 0 5,oL 14 13,oJ 15 (.bin .eql (.t 14) (.c (.p (.int .i64 6)))),oM 16 15,⟨(some 17),some (16,true),.fldA 2 (.t 5)⟩,⟨(some 18),some (16,true),.ld none (.t 17)⟩,⟨(some 19),some (16,true),.idxS 4 (.t 18) (.c (.p (.int .i64 0)))⟩,⟨(some 20),some (16,true),.ld (some 4) (.t 19)⟩,⟨(some 21),some (16,true),.call aO [(.t 20),(.c (.p (.int .i64 0)))]⟩,oJ 22 (.pick (.t 16) (.t 21) (.c (.p (.bool false)))),oM 12 22]) (.cond (.t 12) (.exit 1) (.seq (.reg [oF 24 0 5,oL 25 24,oJ 26 (.bin .eql (.t 25) (.c (.p (.int .i64 5)))),oM 27 26,⟨(some 28),some (27,true),.fldA 2 (.t 5)⟩,⟨(some 29),some (27,true),.ld none (.t 28)⟩,⟨(some 30),some (27,true),.idxS 4 (.t 29) (.c (.p (.int .i64 0)))⟩,⟨(some 31),some (27,true),.ld (some 4) (.t 30)⟩,⟨(some 32),some (27,true),.call aO [(.t 31),(.c (.p (.int .i64 0)))]⟩,oJ 33 (.pick (.t 27) (.t 32) (.c (.p (.bool false)))),oM 23 33]) (.cond (.t 23) (.reg [oF 34 3 5,⟨none,none,.st 1 (.t 34) (.c .nils)⟩]) (.seq (.reg [oF 36 0 5,oL 37 36,oJ 38 (.bin .eql (.t 37) (.c (.p (.int .i64 5)))),oM 39 38,⟨(some 40),some (39,true),.fldA 2 (.t 5)⟩,⟨(some 41),some (39,true),.ld none (.t 40)⟩,⟨(some 42),some (39,true),.idxS 4 (.t 41) (.c (.p (.int .i64 0)))⟩,⟨(some 43),some (39,true),.fldA 0 (.t 42)⟩,⟨(some 44),some (39,true),.ld none (.t 43)⟩,⟨(some 45),some (39,true),.bin .eql (.t 44) (.c (.p (.int .i64 1)))⟩,oJ 46 (.pick (.t 39) (.t 45) (.c (.p (.bool false)))),oM 35 46]) (.cond (.t 35) (.reg [oF 47 4 5,⟨none,none,.st 1 (.t 47) (.c .nils)⟩]) (.skip)))))))) (.seq (.reg [oM 48 3,oJ 49 (.ld (some 5) (.t 5)),oJ 50 (.bsl 5 [(.p (.int .i64 0)),(.p (.str [])),.nils,.nils,.nils] 1 [(0,5,(.t 49))]),oJ 51 (.app 5 96 (.t 48) (.t 50)),oM 3 51]) (.seq (.reg [oF 52 0 5,oL 53 52,oJ 54 (.bin .eql (.t 53) (.c (.p (.int .i64 7))))]) (.cond (.t 54) (.exit 0) (.skip))))))) (.reg [oJ 55 (.bin .add (.t 8) (.c (.p (.int .i64 1)))),oM 8 55]))))))) (.seq (.reg [oM 56 3,oM 2 56]) (.ret))))
theorem uU:K_impl_cutBlock.whole=F_impl_cutBlock.ak:=rfl
def gz(x:Sm):Sm:= .mk x.op x.name x.args (if x.op=5∧mc x 0=true then[] else x.body) (if x.op=5∧mc x 0=false∧wB x=true then[] else x.els)
def ee:List Sm→List Sm
 |[]=>[]
 |x::r=>if jE x=true then ee r else gz x::(if x.op=7 then[] else ee r)
def inS(H:List Sm→List Sm)(x:Sm):Sm:= .mk x.op x.name x.args (H x.body) (H x.els)
theorem DZ:∀l:List Sm,ee (l.map (inS aK))=aK l
 |[]=>by rw[aK];rfl
 |x::r=>by
  have hz:jE (inS aK x)=jE x:=rfl
  have ha:gz (inS aK x)=dA x:=by
   obtain⟨o,s,a,bd,el⟩:=x
   rw[dA];rfl
  rw[Rw,ee,er,DZ r,hz,ha]
  rfl
theorem xd:∀{a b:List Sm},nb7 a→ee (a++b)=ee a++ee b
 |[],b,_=>rfl
 |x::r,b,h=>by
  have h2:=xd (a:=r) (b:=b) (fun y hy=>h y (by simp[hy]))
  rw[RE,ee,ee,if_neg (h x (by simp)),if_neg (h x (by simp)),h2]
  split<;>rfl
theorem Ah:∀l:List Sm,(ee l).length≤l.length
 |[]=>Rj _
 |x::r=>by
  have h:=Ah r
  rw[ee]
  split
  ·simp;omega
  ·split
   ·simp
   ·simp;exact h
variable (G:aJ)
theorem Aq{o0:AO}(ho0:okO 0 o0)(l:List Sm)(hf:∀x∈l,x.args≠[])(hz:l.length≤1073741824):AC Tryz.prog G bu [.p (smL l)] [o0] fun x h=>∃id,1≤id∧x= .ret (slE id 5 (smR (ee l)))∧h[0]?=some o0∧h[id]?=some (bw 5 (smR (ee l))):=by
 have hsl:∀l,smL l= .lst 5 (l.map Sm.cs):=fun _=>rfl
 have hxl:∀l,exL l= .lst 4 (l.map Ex.cs):=fun _=>rfl
 ·show AC Tryz.prog G bu [.p (smL l)] [o0] fun x h=>∃id,1≤id∧x= .ret (slE id 5 (smR (ee l)))∧h[0]?=some o0∧h[id]?=some (bw 5 (smR (ee l)))
  refine AC.goK uW uU ?_
  simp-implicitDefEqProofs[K_impl_cutBlock,F_impl_cutBlock,hsl]
  refine aU (fun i:Nat=>am 57 [(3,slE 1 5 (smR (ee (l.take i)))),(6,.p (smL l)),(7,.p (.int .i64 l.length)),(8,.p (.int .i64 i))]) (fun i=>[o0,bw 5 (smR (ee (l.take i)))])
   (fun i=>i≤l.length∧nb7 (l.take i)) (fun i=>l.length-i) 0 ⟨by simp,fun x hx=>by simp at hx⟩ ?_ ?_
  ·have e1:slE 1 5 (smR (ee (l.take 0)))= .nils:=rfl
   have e2:bw 5 (smR (ee (l.take 0)))= .dead:=rfl
   rw[e1,e2]
   exact gE (h:=[o0]) (by simp) (by simp) (by simpa using bP ho0) (by simp[below,hsl])
  rintro i ⟨hi,hnb⟩
  have hle:(ee (l.take i)).length≤i:=by have:=Ah (l.take i);rw[Ru] at this;omega
  have hol:(smR (ee (l.take i))).length=(ee (l.take i)).length:=by rw[cY]
  simp-implicitDefEqProofs[hsl]
  refine bf (fun h=>?_) (fun h=>?_)
  ·simp at h
   have hg:=QW h
   have hse:=l[i].cs_eq
   have hfx:=hf l[i] (Rd h)
   have htk:=an h
   have hdr:=RS h
   have hsplit:=RF i l
   generalize hgs:l[i]=s at hg hse hfx htk hdr
   obtain⟨a,r,ha⟩:∃a r,s.args=a::r:=by
    match hx:s.args,hfx with
    |a::r,_=>exact⟨a,r,rfl⟩
   have hac:=a.cs_eq
   have HI:=ta G a 0
   rw[hac] at HI
   simp only[Rw,List.map_nil,hxl] at HI
   have hNa:∀n,mc s n=isN a n:=fun n=>by rw[mc,ha]
   have hCa:wB s=decide (a.op=1):=by rw[wB,ha]
   have hzl:jE s=(decide (s.op=6)&&isN a 0):=by rw[jE,hNa]
   have eall:ee l=ee (l.take i)++ee (s::l.drop (i+1)):=by
    conv=>lhs;rw[←hsplit,hdr]
    exact xd hnb
   have enxt:ee (l.take (i+1))=ee (l.take i)++ee [s]:=by rw[htk];exact xd hnb
   generalize ee (l.take i)=out at hol hle eall enxt⊢
   simp-implicitDefEqProofs[hg,hse,hxl,ha,hac]
   have enil:smL []= .lst 5 []:=rfl
   refine nZ (fun _:Unit=>am 57 [(3,slE 1 5 (smR out)),(5,.ptr 2 5 0 0),(6,.p (smL l)),(7,.p (.int .i64 l.length)),(8,.p (.int .i64 i))])
    (fun _=>[o0,bw 5 (smR out),.row 5 [[.p (.int .i64 s.op),.p (.str s.name),.p (.lst 4 ([.int .i64 a.op,.int .i64 a.n,.str a.name,.lst 4 (a.kids.map Ex.cs)]::r.map Ex.cs)),.p (smL (gz s).body),.p (smL (gz s).els)]]]) (fun _=>jE s=false) ?_ ?_
   ·have hb:(gz s).body=if s.op=5∧isN a 0=true then[] else s.body:=by rw[gz,←hNa];rfl
    have hee:(gz s).els=if s.op=5∧isN a 0=false∧decide (a.op=1)=true then[] else s.els:=by rw[gz,←hNa,←hCa];rfl
    by_cases o6:s.op=6
    ·have o5:¬s.op=5:=by omega
     rw[hb,hee,if_neg (by omega),if_neg (by omega)]
     simp-implicitDefEqProofs[o6]
     refine HI.use ?_
     by_cases h0:isN a 0=true
     ·have ez:jE s=true:=by rw[hzl,h0,o6];rfl
      have e1:ee [s]=[]:=by rw[ee,if_pos ez];rfl
      rw[e1,RL] at enxt
      simp-implicitDefEqProofs[h0]
      refine⟨i+1,⟨by omega,?_⟩,by omega,?_⟩
      ·rw[htk]
       intro x hx
       rcases Rf.1 hx with hx|hx
       ·exact hnb x hx
       ·rw[Ri.1 hx,o6];omega
      ·rw[enxt]
       exact bO [0,1] (by simp) (by decide) (by decide) (dx rfl ho0 (sG rfl (aP out) bq)) (by simp[below,ren,hsl,w1 (i:=i) (by omega)])
     ·have h0:isN a 0=false:=by simpa using h0
      simp-implicitDefEqProofs[h0,hzl]
      exact bO [0,1,2] (by simp) (by decide) (by decide) (dx rfl ho0 (sG rfl (aP out) (aD rfl (by simp[below]) bq))) (by simp[below,ren,hsl])
    ·have hz0:jE s=false:=by rw[hzl];simp[o6]
     by_cases o5:s.op=5
     ·rw[hb,hee]
      by_cases h0:isN a 0=true
      ·simp-implicitDefEqProofs[o5,hz0]
       refine HI.use ?_
       simp-implicitDefEqProofs[h0]
       refine fx 3 (by omega) (by simp) rfl (.same (bP ho0) (.same (bP (Bn (aP out))) (.one (.keep (by simp[below]) (.keep (by simp[below]) (.keep (by simp[below]) (.one (.nils 5) (.keep (by simp[below]) .nil))))) (.nil _)))) ?_
       exact⟨.keep (by simp[below]) .nil,.keep (by simp[below]) .nil,.keep (by simp[below,hsl]) .nil,.keep (by simp[below]) .nil,.keep (by simp[below]) .nil,trivial⟩
      ·have h0:isN a 0=false:=by simpa using h0
       simp-implicitDefEqProofs[o5,hz0]
       refine HI.use ?_
       by_cases a1:a.op=1
       ·simp-implicitDefEqProofs[h0,a1]
        refine fx 3 (by omega) (by simp) rfl (.same (bP ho0) (.same (bP (Bn (aP out))) (.one (.keep (by simp[below]) (.keep (by simp[below]) (.keep (by simp[below]) (.keep (by simp[below]) (.one (.nils 5) .nil))))) (.nil _)))) ?_
        exact⟨.keep (by simp[below]) .nil,.keep (by simp[below]) .nil,.keep (by simp[below,hsl]) .nil,.keep (by simp[below]) .nil,.keep (by simp[below]) .nil,trivial⟩
       ·simp-implicitDefEqProofs[h0,a1]
        exact bO [0,1,2] (by simp) (by decide) (by decide) (dx rfl ho0 (sG rfl (aP out) (aD rfl (by simp[below]) bq))) (by simp[below,ren,hsl])
     ·rw[hb,hee,if_neg (by omega),if_neg (by omega)]
      simp-implicitDefEqProofs[o6,o5,hz0]
      exact bO [0,1,2] (by simp) (by decide) (by decide) (dx rfl ho0 (sG rfl (aP out) (aD rfl (by simp[below]) bq))) (by simp[below,ren,hsl])
   intro _ hzf
   simp-implicitDefEqProofs[hol]
   refine⟨⟨by omega,by omega⟩,?_⟩
   have htk2:List.take out.length (smR out)=smR out:=Rb (by omega)
   have h1:smR [gz s]=[[.p (.int .i64 s.op),.p (.str s.name),.p (.lst 4 ([.int .i64 a.op,.int .i64 a.n,.str a.name,.lst 4 (a.kids.map Ex.cs)]::r.map Ex.cs)),.p (smL (gz s).body),.p (smL (gz s).els)]]:=by
    have e3:exL s.args= .lst 4 ([.int .i64 a.op,.int .i64 a.n,.str a.name,.lst 4 (a.kids.map Ex.cs)]::r.map Ex.cs):=by rw[ha,hxl,Rw,hac,hxl]
    have e4:(gz s).cs=[.int .i64 s.op,.str s.name,exL s.args,smL (gz s).body,smL (gz s).els]:=by rw[Sm.cs_eq];rfl
    rw[smR,RJ,e4,e3];rfl
   have h2:smR out++[[.p (.int .i64 s.op),.p (.str s.name),.p (.lst 4 ([.int .i64 a.op,.int .i64 a.n,.str a.name,.lst 4 (a.kids.map Ex.cs)]::r.map Ex.cs)),.p (smL (gz s).body),.p (smL (gz s).els)]]=smR (out++[gz s]):=by rw[nk,h1]
   have hne:smR (out++[gz s])≠[]:=by rw[nk];simp[smR]
   have e2:(smR (out++[gz s])).length=out.length+1:=by rw[cY];simp
   try rw[htk2]
   rw[h2]
   refine bf (fun h7=>?_) (fun h7=>?_)
   ·simp at h7
    have e1:ee l=out++[gz s]:=by rw[eall,ee,if_neg (by rw[hzf];simp),if_pos h7]
    have e3:out.length+1=(ee l).length:=by rw[e1];simp
    simp-implicitDefEqProofs[]
    rw[←e1] at hne⊢
    refine⟨4,by omega,?_,by rw[dN hne];rfl⟩
    rw[di hne,cY,e3]
   ·simp at h7
    have e1:ee [s]=[gz s]:=by rw[ee,if_neg (by rw[hzf];simp),if_neg h7];rfl
    rw[e1] at enxt
    simp-implicitDefEqProofs[]
    refine⟨i+1,⟨by omega,?_⟩,by omega,?_⟩
    ·rw[htk]
     intro x hx
     rcases Rf.1 hx with hx|hx
     ·exact hnb x hx
     ·rw[Ri.1 hx];exact h7
    ·rw[enxt,di hne,dN hne,e2]
     exact bO [0,4] (by simp) (by decide) (by decide) (dx rfl ho0 (aD rfl (aP _) bq)) (by simp[below,ren,hsl,w1 (i:=i) (by omega)])
  ·simp at h
   have hie:i=l.length:=by omega
   subst hie
   rw[RA]
   simp-implicitDefEqProofs[]
   exact⟨1,by omega,rfl,rfl⟩
theorem Dc{o0:AO}(ho0:okO 0 o0)(l:List Sm)(hf:∀x∈l,x.args≠[])(hz:l.length≤1073741824):AC Tryz.prog G bu [.p (smL l)] [o0] fun x h=>x= .ret (.p (smL (ee l)))∧h=[o0]:=by
 refine(Aq G ho0 l hf hz).frz 1 (by simp) (fun t v h ⟨_,_,e,_⟩=>by cases e) ?_
 rintro v h ⟨id,hid,e,h0,h1⟩
 cases e
 match h,h0 with
 |o::r,h0=>
  simp at h0
  subst h0
  have ht:(tail 1 (o::r))[id]?=some (bw 5 (((ee l).map Sm.cs).map (·.map .p))):=by
   have hh:smR (ee l)=((ee l).map Sm.cs).map (·.map .p):=by simp[smR]
   rw[←hh,←h1]
   obtain⟨k,rfl⟩:∃k,id=k+1:=⟨id-1,by omega⟩
   rfl
  have hv:=th ht (fun x hx=>by obtain⟨b,_,rfl⟩:=Rp.1 hx;simp)
  have hh:smR (ee l)=((ee l).map Sm.cs).map (·.map .p):=by simp[smR]
  refine⟨.p (smL (ee l)),[o],by simp,rfl,.one ?_ .nil,.same (bP ho0) (.nil _),rfl,rfl⟩
  rw[hh]
  exact hv
end Go.Proofs.YtaopbokndkdieaaGreatDoor
namespace Go.Proofs.YtaopbokndkdieaaGreatDoor
open Go Go.Aw
set_option maxRecDepth 100000
set_option maxHeartbeats 4000000
def nK(x:Sm):Sm:= .mk x.op x.name (aV x.args) x.body x.els
theorem IC(x:Sm):(nK x).cs=[.int .i64 x.op,.str x.name,exL (aV x.args),smL x.body,smL x.els]:=by rw[Sm.cs_eq];rfl
variable (G:aJ)
theorem FM(hK:G dR=some dC)(hS:G bW=some [PV.tbl opK opV])(l:List Sm)(hf:∀x∈l,∀a∈x.args,gD a=true)(hz:aq l≤1073741824):
 AC Tryz.prog G be [.sl 0 5 0 l.length] [.row 5 (smR l)] fun x h=>x= .ret (.sl 0 5 0 l.length)∧h=[.row 5 (smR (l.map nK))]:=by
 have hll:=bk l
 have hxl:∀l,exL l= .lst 4 (l.map Ex.cs):=fun _=>rfl
 let L:Nat→List Sm:=fun i=>(l.take i).map nK++l.drop i
 have hLl:∀i,i≤l.length→(L i).length=l.length:=fun i hi=>by simp[L];omega
 have hLg:∀i,i<l.length→(L i)[i]?=l[i]?:=fun i hi=>by
  have:((l.take i).map nK).length=i:=by simp;omega
  rw[Rl (by omega),this,Nat.sub_self,RU,Nat.add_zero]
 have hLs:∀i f,l[i]?=some f→(L i).set i (nK f)=L (i+1):=fun i f hi=>by
  have hil:=(QX.1 hi).1
  have hlen:((l.take i).map nK).length=i:=by simp;omega
  show((l.take i).map nK++l.drop i).set i (nK f)=(l.take (i+1)).map nK++l.drop (i+1)
  rw[List.set_append_right _ _ (by omega),hlen,Nat.sub_self,RS hil,List.set_cons_zero,an hil,List.map_append,RB]
  have:l[i]=f:=by rw[QW hil] at hi;exact Option.some.inj hi
  rw[this];rfl
 have hL0:L 0=l:=by simp[L]
 have hLe:L l.length=l.map nK:=by
  show(l.take l.length).map nK++l.drop l.length=_
  rw[RA,List.drop_length,RL]
 generalize hLL:L=L2 at hLl hLg hLs hL0 hLe
 refine AC.go jG ?_
 simp-implicitDefEqProofs[fJ]
 refine aU (fun i:Nat=>am 21 [(0,.sl 0 5 0 l.length),(5,.p (.int .i64 l.length)),(6,.p (.int .i64 i))]) (fun i=>[.row 5 (smR (L2 i))]) (fun i=>i≤l.length) (fun i=>l.length-i) 0 (by simp) ?_ ?_
 ·rw[hL0]
  exact bO [0] (by simp) (by decide) (by decide) (aD rfl (aP l) bq) (by simp[below,ren])
 intro i hi
 have hfl2:=cY (L2 i)
 rw[hLl i hi] at hfl2
 simp-implicitDefEqProofs[]
 refine bf (fun h=>?_) (fun h=>?_)
 ·simp at h
  have hg:=QW h
  have hm:=Rd h
  have hse:=l[i].cs_eq
  have hgi:(smR (L2 i))[i]?=some [.p (.int .i64 l[i].op),.p (.str l[i].name),.p (exL l[i].args),.p (smL l[i].body),.p (smL l[i].els)]:=by
   rw[smR,Rm,hLg i h,hg,Option.map_some,hse];rfl
  have hst:=hLs i l[i] hg
  have hfz:=bD hm
  have hfb:=hf l[i] hm
  generalize l[i]=s at hg hm hgi hst hfz hfb hse
  have hsz:=s.sz_eq
  have hal:=bi s.args
  have hok:∀o∈[AO.row 5 (smR (L2 i))],okO [AO.row 5 (smR (L2 i))].length o:=ag (bP (aP _)) dM
  have HM:=mW G (wv gZ [.row 5 (smR (L2 i))] hok) (fun(st:Unit) x=>(cQ x,st)) (fun _ _=>True) s.args (by omega) (by show 0<1;omega)
   (fun j st hj _=>⟨trivial,by
     have hk:=Rd hj
     have h1:=hfb _ hk
     have h2:=aS hk
     rw[gD,Rh,decide_eq_true_eq] at h1
     exact(Mn G hK hS 6 s.args[j] h1.1 (by omega) h1.2 (by omega)).ac (by simp[below]) (by simp[below]) _⟩) () trivial
  rw[dz,←cZ] at HM
  have hst2:(smR (L2 i)).set i [.p (.int .i64 s.op),.p (.str s.name),.p (exL (aV s.args)),.p (smL s.body),.p (smL s.els)]=smR (L2 (i+1)):=by
   rw[←hst,smR,smR,List.map_set,IC];rfl
  simp-implicitDefEqProofs[hfl2,hgi]
  refine⟨h,?_⟩
  refine HM.mono ?_
  rintro r h' ⟨rfl,rfl⟩
  simp-implicitDefEqProofs[aa,wv,hfl2,hgi,hst2]
  refine⟨h,i+1,by omega,by omega,bO [0] (by simp) (by decide) (by decide) (aD rfl (aP _) bq) (by simp[below,ren,w1 (i:=i) (by omega)])⟩
 ·simp at h
  have hie:i=l.length:=by omega
  subst hie
  rw[hLe]
  simp-implicitDefEqProofs[]
theorem Cv:AC Tryz.prog G be [.nils] [] fun x h=>x= .ret .nils:=by
 refine AC.go jG ?_
 simp-implicitDefEqProofs[fJ]
 refine aU (fun _:Unit=>am 21 [(0,.nils),(5,.p (.int .i64 0)),(6,.p (.int .i64 0))]) (fun _=>[]) (fun _=>True) (fun _=>0) () trivial ?_ ?_
 ·exact ae (by simp) (by simp) (by simp[below])
 intro _ _
 simp-implicitDefEqProofs[]
end Go.Proofs.YtaopbokndkdieaaGreatDoor
namespace Go.Proofs.YtaopbokndkdieaaGreatDoor
open Go Go.Aw
set_option maxRecDepth 100000
set_option maxHeartbeats 4000000
variable (G:aJ)
theorem ER(l:List Fd)(hz:aL l≤1073741824)(hne:l≠[]):AC Tryz.prog G ep [.agg [.p (fdL l)]] [] fun x h=>x= .ret (.agg [.sl 3 3 0 l.length])∧h=[.row 1 [[.p (fdL l)]],.row 1 [[.sl 3 3 0 l.length]],.row 1 [[.sl 3 3 0 l.length]],.row 3 (aN l)]:=by
 have hll:=cP l
 have hfl:∀l,fdL l= .lst 3 (l.map Fd.cs):=fun _=>rfl
 refine AC.go qM ?_
 simp-implicitDefEqProofs[mh]
 refine aU (fun i:Nat=>am 35 [(1,.ptr 0 1 0 0),(2,.ptr 1 1 0 0),(3,.ptr 2 1 0 0),(4,.p (.int .i64 i))]) (fun i=>[.row 1 [[.p (fdL l)]],.row 1 [[.nils]],.row 1 [[slE 3 3 (aN (l.take i))]],bw 3 (aN (l.take i))]) (fun i=>i≤l.length) (fun i=>l.length-i) 0 (by simp) ?_ ?_
 ·have e1:slE 3 3 (aN (l.take 0))= .nils:=rfl
  have e2:bw 3 (aN (l.take 0))= .dead:=rfl
  rw[e1,e2]
  exact gE (h:=[AO.row 1 [[.p (fdL l)]],.row 1 [[.nils]],.row 1 [[.nils]]]) (by simp) (by simp) (by simp[okO,below]) (by simp[below])
 intro i hi
 simp-implicitDefEqProofs[hfl]
 refine bf (fun h=>?_) (fun h=>?_)
 ·simp at h
  have hg:=QW h
  have hT:l.take (i+1)=l.take i++[l[i]]:=an h
  have hmem:=cw (Rd h)
  have hol:(l.take i).length=i:=by rw[Ru];omega
  generalize l[i]=f at hg hT hmem
  have hrl:(aN (l.take i)).length=i:=by rw[kF];exact hol
  have hcs:f.cs=[.str f.name,az f.params,smL f.body]:=rfl
  have hsp:az f.params= .lst 1 (f.params.map fun w=>[.str w]):=rfl
  have hfz:f.sz=1+f.name.length+(f.params.length+(f.params.map List.length).sum)+aq f.body:=rfl
  have hB:VF Tryz.prog G dE [.p (smL f.body)] (.p (smL f.body)):=AC.mkFreeze pT (tt G _ f.body (Nat.lt_succ_self _) (by omega))
  generalize l.take i=out at hT hol hrl⊢
  simp-implicitDefEqProofs[hg,hcs,hsp]
  have hpl:f.params.length≤1073741824:=by omega
  refine⟨⟨by omega,by omega⟩,?_⟩
  refine hB.use ?_
  simp-implicitDefEqProofs[hrl]
  refine⟨⟨by omega,by omega⟩,i+1,by omega,by omega,?_⟩
  have hR:aN (out++[f])=aN out++[[.p (.str f.name),.p (az f.params),.p (smL f.body)]]:=by rw[xl];rfl
  have hR1:slE 3 3 (aN (out++[f]))= .sl 3 3 0 (i+1):=by rw[hR,mZ _ (by simp),hrl];rfl
  have hR2:bw 3 (aN (out++[f]))= .row 3 (aN (out++[f])):=by rw[hR,kH _ (by simp)]
  rw[hT,hR1,hR2]
  refine Wk.trans (bO (l1:=[(1,.ptr 0 1 0 0),(2,.ptr 1 1 0 0),(3,.ptr 2 1 0 0),(4,.p (.int .i64 ((i+1:Nat):Int)))]) (h1:=[.row 1 [[.p (fdL l)]],.row 1 [[.nils]],.row 1 [[.sl 3 3 0 (i+1)]],.row 3 (aN out++[[.p (.str f.name),.sl 4 1 0 f.params.length,.p (smL f.body)]]),gm f.params]) [0,1,2,8,6] (by simp) (by decide) (by decide)
   (aD rfl (by simp[below]) (aD rfl (by simp[below]) (cK (es:=[[.sl 3 3 0 (i+1)]]) (by simp[below]) (by simp[ren,bI]) ?_))) (by simp[below,ren,hfl,w1 (i:=i) (by omega)])) (fx 4 (by omega) (by simp) rfl (.same (by simp[okO,below]) (.same (by simp[okO,below]) (.same (by simp[okO,below]) (.rows ?_ ?_ (.nil _))))) ?_)
  ·refine cK (fun x hx=>?_) ?_ (aD rfl (fun x hx=>?_) bq)
   ·rcases Rf.1 hx with hx|hx
    ·exact aW (Nat.zero_le _) _ (fk out x hx)
    ·rw[Ri.1 hx];simp[below]
   ·rw[List.map_append,Rq (g:=id) (fun x hx=>dT _ x (fk out x hx)),List.map_id]
    simp[ren,bI]
   ·obtain⟨w,_,rfl⟩:=Rp.1 hx
    simp[below]
  ·rw[hR];simp
  ·rw[hR]
   intro j e e1 he he1
   by_cases hj:j<(aN out).length
   ·rw[QZ hj] at he he1
    rw[he] at he1
    cases he1
    have:=fk out e (Re he)
    exact gF (aW (Nat.zero_le _) _ this)
   ·have hj2:j=(aN out).length:=by
     have:=(QX.1 he).1
     simp at this;omega
    subst hj2
    simp at he he1
    subst he;subst he1
    refine .keep (by simp[below]) (.one ?_ (.keep (by simp[below]) .nil))
    exact fh rfl
  ·exact⟨.keep (by simp[below]) .nil,.keep (by simp[below]) .nil,.keep (by simp[below]) .nil,.keep (by simp[below]) .nil,trivial⟩
 ·simp at h
  have hie:i=l.length:=by omega
  subst hie
  rw[RA]
  have h0:aN l≠[]:=by
   intro e;apply hne
   have:=congrArg List.length e
   rw[kF] at this
   exact List.length_eq_zero_iff.1 this
  rw[di h0,dN h0,kF]
  simp-implicitDefEqProofs[hfl]
def eaF(h:List Sm→List Sm)(f:Fd):Fd:=⟨f.name,f.params,h f.body⟩
theorem AD(cut:Bool)(l:List Fd)(hz:aL l≤1073741824)(hne:l≠[])(hf:∀f∈l,∀x∈f.body,au 4 x=true):VF Tryz.prog G cL [.agg [.p (fdL l)],.p (.bool cut)] (.agg [.p (fdL (if cut then fU l else cg l))]):=by
 have hll:=cP l
 have hfl:∀l,fdL l= .lst 3 (l.map Fd.cs):=fun _=>rfl
 have hln:0<l.length:=by
  cases l with
  |nil=>exact(hne rfl).elim
  |cons x r=>simp
 let g:Fd→Fd:=if cut then tK else nF
 have hg0:(if cut then fU l else cg l)=l.map g:=by cases cut<;>rfl
 rw[hg0]
 have key:AC Tryz.prog G cL [.agg [.p (fdL l)],.p (.bool cut)] [] fun x h=>∃v,x= .ret (.agg [v])∧View h v (fdL (l.map g)):=by
  refine AC.go xX ?_
  simp-implicitDefEqProofs[qr]
  refine(AC.lift (ER G l hz hne) (by simp[below]) (by simp[uY,sn]) ?_).mono ?_
  ·simp[Eg,sn,uY]
   intro x hx
   obtain⟨f,_,rfl⟩:=Rp.1 hx
   rfl
  rintro r h ⟨rfl,rfl⟩
  simp-implicitDefEqProofs[nH,aa,cC,dq]
  let L:Nat→List Fd:=fun i=>(l.take i).map g++l.drop i
  have hLl:∀i,i≤l.length→(L i).length=l.length:=fun i hi=>by simp[L];omega
  have hLg:∀i,i<l.length→(L i)[i]?=l[i]?:=fun i hi=>by
   have:((l.take i).map g).length=i:=by simp;omega
   rw[Rl (by omega),this,Nat.sub_self,RU,Nat.add_zero]
  have hLs:∀i f,l[i]?=some f→(L i).set i (g f)=L (i+1):=fun i f hi=>by
   have hil:=(QX.1 hi).1
   have hlen:((l.take i).map g).length=i:=by simp;omega
   show((l.take i).map g++l.drop i).set i (g f)=(l.take (i+1)).map g++l.drop (i+1)
   rw[List.set_append_right _ _ (by omega),hlen,Nat.sub_self,RS hil,List.set_cons_zero,an hil,List.map_append,RB]
   have:l[i]=f:=by rw[QW hil] at hi;exact Option.some.inj hi
   rw[this];rfl
  have hL0:L 0=l:=by simp[L]
  have hLe:L l.length=l.map g:=by
   show(l.take l.length).map g++l.drop l.length=_
   rw[RA,List.drop_length,RL]
  generalize hLL:L=L2 at hLl hLg hLs hL0 hLe
  refine aU (fun i:Nat=>am 42 [(1,.p (.bool cut)),(4,.ptr 0 1 0 0),(5,.ptr 2 1 0 0),(6,.p (.int .i64 i))]) (fun i=>[.row 1 [[.nils]],.row 3 (aN (L2 i)),.row 1 [[.sl 1 3 0 l.length]]]) (fun i=>i≤l.length) (fun i=>l.length-i) 0 (by simp) ?_ ?_
  ·rw[hL0]
   have e:db 2 (AO.row 3 (aN l))= .row 3 (aN l):=by
    have e2:(aN l).map (dq 2)=aN l:=by
     conv=>rhs;rw[←List.map_id (aN l)]
     refine Rq fun x hx=>?_
     obtain⟨f,_,rfl⟩:=Rp.1 hx
     rfl
    show AO.row 3 ((aN l).map (dq 2))=_
    rw[e2]
   rw[e]
   exact mA [1,5,6] rfl (by decide) (aD rfl (by simp[below]) (aD rfl (fk l) (cK (es:=[[.sl 1 3 0 l.length]]) (by simp[below]) (by simp[ren,bI]) bq))) (by simp[below,ren])
  intro i hi
  have hfl2:=kF (L2 i)
  rw[hLl i hi] at hfl2
  simp-implicitDefEqProofs[hfl2]
  refine bf (fun h=>?_) (fun h=>?_)
  ·simp at h
   have hg:=QW h
   have hm:=Rd h
   have hgi:(aN (L2 i))[i]?=some [.p (.str l[i].name),.p (az l[i].params),.p (smL l[i].body)]:=by
    rw[aN,Rm,hLg i h,hg];rfl
   have hst:=hLs i l[i] hg
   have hfz:=cw hm
   have hfb:=hf l[i] hm
   generalize l[i]=f at hg hm hgi hst hfz hfb
   have hfz2:f.sz=1+f.name.length+(f.params.length+(f.params.map List.length).sum)+aq f.body:=rfl
   cases cut with
   |true=>
    simp-implicitDefEqProofs[hfl2,hgi]
    refine⟨h,?_⟩
    refine(Hb G 4 f.body hfb (by omega)).use ?_
    have hst2:(aN (L2 i)).set i [.p (.str f.name),.p (az f.params),.p (smL (aK f.body))]=aN (L2 (i+1)):=by
     rw[←hst,aN,aN,List.map_set];rfl
    simp-implicitDefEqProofs[hfl2,hgi,hst2]
    refine⟨h,i+1,by omega,by omega,ae (by simp) (ag (by simp[okO,below]) (ag (bP (fk _)) (ag (by simp[okO,below]) dM))) (by simp[below,w1 (i:=i) (by omega)])⟩
   |false=>
    simp-implicitDefEqProofs[hfl2,hgi]
    refine⟨h,?_⟩
    refine(Fj G 4 f.body hfb (by omega)).use ?_
    have hst2:(aN (L2 i)).set i [.p (.str f.name),.p (az f.params),.p (smL (aG f.body))]=aN (L2 (i+1)):=by
     rw[←hst,aN,aN,List.map_set];rfl
    simp-implicitDefEqProofs[hfl2,hgi,hst2]
    refine⟨h,i+1,by omega,by omega,ae (by simp) (ag (by simp[okO,below]) (ag (bP (fk _)) (ag (by simp[okO,below]) dM))) (by simp[below,w1 (i:=i) (by omega)])⟩
  ·simp at h
   have hie:i=l.length:=by omega
   subst hie
   simp-implicitDefEqProofs[]
   rw[hLe]
   have hl2:(l.map g).length=l.length:=Rs _
   rw[←hl2]
   exact pS rfl
 refine key.freezeR (fun t v h ⟨_,e,_⟩=>by cases e) fun v h ⟨u,e1,e2⟩=>?_
 cases e1
 exact .agg (.one e2 .nil) .nil
end Go.Proofs.YtaopbokndkdieaaGreatDoor
namespace Go.Proofs.YtaopbokndkdieaaGreatDoor
open Go Go.Aw
set_option maxRecDepth 100000
set_option maxHeartbeats 4000000
theorem jg{l:List Fd}(h:aT l=0):l≠[]∧∀f∈l,∀x∈f.body,au 4 x=true:=by
 have hp:=((KR l).1 h).1
 obtain⟨h1,h2,h3⟩:=(ew l).1 hp
 refine⟨?_,fun f hf x hx=>?_⟩
 ·rintro rfl;simp at h1
 ·have:=h2 f hf
  simp only[ib,Rh,Rc] at this
  exact this.2 x hx
variable (G:aJ)
theorem Ed{l:List Fd}(hz:aL l≤1073741824)(h:aT l=0):VF Tryz.prog G cL [.agg [.p (fdL l)],.p (.bool false)] (.agg [.p (fdL (cg l))]):=AD G false l hz (jg h).1 (jg h).2
theorem EH{l:List Fd}(hz:aL l≤1073741824)(h:aT l=0):VF Tryz.prog G cL [.agg [.p (fdL l)],.p (.bool true)] (.agg [.p (fdL (fU l))]):=AD G true l hz (jg h).1 (jg h).2
def orN(b:Bool)(l:List Fd):List Fd:=if b then l else[]
theorem mF(l y:List Fd)(hz:aL l≤1073741824)(h0:aT l=0)(hy:Smp l y):VF Tryz.prog G bU [.agg [.p (fdL l)]] (.tup [.agg [.p (fdL y)],.p (.bool true)]):=by
 refine AC.go iT ?_
 simp-implicitDefEqProofs[ft]
 refine(BN G l hz).use ?_
 simp-implicitDefEqProofs[h0]
 refine(Ed G hz h0).use ?_
 simp-implicitDefEqProofs[]
 refine(EH G (l:=cg l) (RO (iX l) hz) (kj h0)).use ?_
 simp-implicitDefEqProofs[]
 refine aU (fun _:List Fd=>am 21 [(1,.ptr 0 1 0 0),(2,.ptr 1 1 0 0),(4,.ptr 2 1 0 0)]) (fun q=>[.row 1 [[.p (fdL q)]],.row 1 [[.nils]],.row 1 [[.p (fdL (fU (cg q)))]]])
  (fun q=>Smp q y∧aT q=0∧aL q≤1073741824) wP l ⟨hy,h0,hz⟩ ?_ ?_
 ·exact ae (by simp) (by simp[okO,below]) (by simp[below])
 rintro q ⟨hs,hc,hq⟩
 have z1:=RO (iX q) hq
 have z2:=RO (pN (cg q)) z1
 simp-implicitDefEqProofs[]
 refine(pq G (fU (cg q)) q z2 hq).use ?_
 by_cases he:fU (cg q)=q
 ·simp-implicitDefEqProofs[cS he]
  cases hs with
  |stop _=>rw[he]
  |go h _=>exact(h he).elim
 ·have hn:aT (fU (cg q))=0:=se hc
  simp-implicitDefEqProofs[bg he]
  refine(Ed G z2 hn).use ?_
  simp-implicitDefEqProofs[]
  refine(EH G (RO (iX _) z2) (kj hn)).use ?_
  simp-implicitDefEqProofs[]
  refine⟨fU (cg q),⟨?_,hn,z2⟩,?_,?_⟩
  ·cases hs with
   |stop h=>exact(he h).elim
   |go _ h=>exact h
  ·rcases pk q with h|h
   ·exact(he h).elim
   ·exact h
  ·exact ae (by simp) (by simp[okO,below]) (by simp[below])
theorem DD{l y:List Fd}(h:Smp l y):aL y≤aL l:=by
 induction h with
 |stop _=>exact Rj _
 |go _ _ ih=>exact RO ih (RO (pN _) (iX _))
theorem lV(l:List Fd)(hz:aL l≤1073741824)(h0:¬aT l=0):VF Tryz.prog G bU [.agg [.p (fdL l)]] (.tup [.agg [.p (fdL [])],.p (.bool false)]):=by
 have key:AC Tryz.prog G bU [.agg [.p (fdL l)]] [] fun x h=>x= .ret (.tup [.agg [.nils],.p (.bool false)]):=by
  refine AC.go iT ?_
  simp-implicitDefEqProofs[ft]
  refine(BN G l hz).use ?_
  simp-implicitDefEqProofs[h0]
 refine key.freezeR (fun t v h e=>by cases e) fun v h e=>?_
 cases e
 exact .tup (.agg (.one (.nils 3) .nil) (.keep (by simp) .nil)) .nil
theorem CP(l:List Fd)(hz:aL l≤1073741824):VF Tryz.prog G jU [.agg [.p (fdL l)]] (.p (.bool (jx l))):=by
 refine AC.go uP ?_
 simp-implicitDefEqProofs[nJ]
 by_cases h0:aT l=0
 ·obtain⟨y,hy⟩:=zD (wP l) l (Rj _)
  have hyz:aL y≤1073741824:=RO (DD hy) hz
  refine(mF G l y hz h0 hy).use ?_
  simp-implicitDefEqProofs[]
  refine(pq G y l hyz hz).use ?_
  have e:jx l=eqX y l:=by
   rw[jx,decide_eq_true h0,Bool.true_and]
   by_cases h:y=l
   ·rw[cS h,cS ((vq hy).1 h)]
   ·rw[bg h,bg (fun e=>h ((vq hy).2 e))]
  rw[e]
  simp-implicitDefEqProofs[]
 ·refine(lV G l hz h0).use ?_
  have e:jx l=false:=by rw[jx,decide_eq_false h0,Bool.false_and]
  rw[e]
  simp-implicitDefEqProofs[]
end Go.Proofs.YtaopbokndkdieaaGreatDoor
namespace Go.Proofs.YtaopbokndkdieaaGreatDoor
open Go Go.Aw
set_option maxRecDepth 100000
set_option maxHeartbeats 4000000
variable (G:aJ)
theorem sQ:∀(N:Nat) (e:Ex),e.sz≤N→e.sz≤1073741824→VF Tryz.prog G bF [.agg (e.cs.map .p)] (.agg (e.cs.map .p)):=by
 intro N
 induction N with
 |zero=>intro e h;have:=e.sz_eq;omega
 |succ N ih=>
  intro e he hz
  have hc:=e.cs_eq
  have hzz:=e.sz_eq
  have hlen:=bi e.kids
  refine AC.go tO ?_
  simp-implicitDefEqProofs[mB,hc]
  have HM:=mW G (wv bF [.row 4 [[.p (.int .i64 e.op),.p (.int .i64 e.n),.p (.str e.name),.p (exL e.kids)]],.row 4 [[.p (.int .i64 0),.p (.int .i64 0),.p (.str []),.nils]]] (by simp[okO,below])) (fun(st:Unit) x=>(x,st)) (fun _ _=>True) e.kids (by omega) (by show 0<2;omega)
   (fun i st hi _=>⟨trivial,by
     have h2:=aS (Rd hi)
     exact(ih e.kids[i] (by omega) (by omega)).ac (by simp[below]) (by simp[below]) _⟩) () trivial
  rw[show(fun(st:Unit) (x:Ex)=>(x,st))=(fun(st:Unit) x=>(id x,st)) from rfl,dz,List.map_id] at HM
  refine HM.mono ?_
  rintro r h ⟨rfl,rfl⟩
  simp-implicitDefEqProofs[aa,wv]
def cH(l:List Fd)(B:AV):List AO:=[.row 1 [[.p (fdL l)]],.row 1 [[B]],.row 1 [[.nils]],.row 1 [[.fn (.func aM) [.ptr 1 1 0 0,.ptr 3 1 0 0]]]]
theorem JH(l:List Fd){B:AV}(hB:below 0 B){m:Nat}(hm:4≤m):∀o∈cH l B,okO m o:=by
 have hb:=aW (Nat.zero_le m) [B] ⟨hB,trivial⟩
 refine ag (by simp[okO,below]) (ag (by intro e he;rw[Ri.1 he];exact hb) (ag (by simp[okO,below]) (ag ?_ dM)))
 intro e he
 rw[Ri.1 he]
 simp only[ah,below]
 exact⟨⟨by omega,by omega,trivial⟩,trivial⟩
def EM(l:List Fd)(B:AV)(hB:below 0 B)(F:FuncId)(caps:List AV)(hc:ah 4 caps):Vis Unit where
 I:=fun _=>cH l B
 n:=4
 F:=F
 caps:=caps
 len:=fun _=>rfl
 ok:=fun _=>JH l hB (Rj _)
 capsOk:=hc
def nI(l0:List Fd)(B:AV)(H:List Sm→List Sm)(l:List Sm):Prop:=AC Tryz.prog G aM [.p (smL l),.ptr 1 1 0 0,.ptr 3 1 0 0] (cH l0 B) fun x h=>x= .ret (.p (smL (H l)))∧h=cH l0 B
theorem uu(l0:List Fd){B:AV}(hB:below 0 B)(H:List Sm→List Sm)(s:Sm)(hz:s.sz≤1073741824)(hb:nI G l0 B H s.body)(he:nI G l0 B H s.els):
 AC Tryz.prog G bY [.agg (s.cs.map .p),.ptr 3 1 0 0] (cH l0 B) fun x h=>x= .ret (.agg ((inS H s).cs.map .p))∧h=cH l0 B:=by
 have hcs:=s.cs_eq
 have hzz:=s.sz_eq
 have hlen:=bi s.args
 have hic:(inS H s).cs=[.int .i64 s.op,.str s.name,exL s.args,smL (H s.body),smL (H s.els)]:=by rw[Sm.cs_eq];rfl
 let V:=EM l0 B hB aM [] trivial
 refine V.trim G (st:=()) (st':=()) (AC.go rb ?_) (by rw[hic];simp[below])
 have hI:V.I ()=cH l0 B:=rfl
 have hl4:(cH l0 B).length=4:=rfl
 have hg3:∀r:List AO,(cH l0 B++r)[3]?=some (.row 1 [[.fn (.func aM) [.ptr 1 1 0 0,.ptr 3 1 0 0]]]):=fun r=>rfl
 have hg30:∀h:3<(cH l0 B).length,(cH l0 B)[3]= .row 1 [[.fn (.func aM) [.ptr 1 1 0 0,.ptr 3 1 0 0]]]:=fun _=>rfl
 have hVp:∀(l:List Sm),nI G l0 B H l→∀rest,AC Tryz.prog G aM [.p (smL l),.ptr 1 1 0 0,.ptr 3 1 0 0] (cH l0 B++rest) fun x h=>x= .ret (.p (smL (H l)))∧h=cH l0 B++rest:=fun l w rest=>
  V.pre G (st:=()) (st':=()) w rest ⟨by simp[below],by simp only[below];show 1<4;omega,by simp only[below];show 3<4;omega,trivial⟩
 have hCl:∀rest,(∀o∈rest,okO 0 o)→AC Tryz.prog G aQ [.p (exL s.args),.fn (.func bF) []] (cH l0 B++rest) fun x h=>x= .ret (.p (exL s.args))∧h=cH l0 B++rest:=by
  intro rest hr
  have hok:∀o∈cH l0 B++rest,okO (cH l0 B++rest).length o:=by
   intro o ho
   rcases Rf.1 ho with h|h
   ·exact JH l0 hB (by rw[Rn,hl4];omega) o h
   ·exact bP (hr o h)
  have HM:=mW G (wv bF (cH l0 B++rest) hok) (fun(st:Unit) x=>(id x,st)) (fun _ _=>True) s.args (by omega) (by show 0<(cH l0 B++rest).length;rw[Rn,hl4];omega)
   (fun i st hi _=>⟨trivial,by
     have h2:=aS (Rd hi)
     exact(sQ G _ s.args[i] (Rj _) (by omega)).ac (by simp[below]) (by simp[below]) _⟩) () trivial
  rw[dz,List.map_id] at HM
  exact HM
 rw[hI]
 generalize hh:cH l0 B=C at*
 rw[hic]
 simp-implicitDefEqProofs[ln,hcs,hl4,hg30]
 refine(hCl _ (by simp[okO])).mono ?_
 rintro r h ⟨rfl,rfl⟩
 simp-implicitDefEqProofs[aa,hl4,hg30]
 refine(hVp _ hb _).mono ?_
 rintro r h ⟨rfl,rfl⟩
 simp-implicitDefEqProofs[aa,hl4,hg30]
 refine(hVp _ he _).mono ?_
 rintro r h ⟨rfl,rfl⟩
 simp-implicitDefEqProofs[aa,hl4,hg30]
def CB:AV:= .fn (.func bu) []
theorem ul(l0:List Fd)(l:List Sm)(hf:∀x∈l,x.args≠[])(hz:aq l≤1073741824)(ih:∀x∈l,nI G l0 CB aK x.body∧nI G l0 CB aK x.els):nI G l0 CB aK l:=by
 have hll:=bk l
 have hB:below 0 CB:=by simp[CB,below]
 let V:=EM l0 CB hB bY [.ptr 3 1 0 0] (by simp[below])
 refine V.trim G (st:=()) (st':=()) (AC.go mV ?_) (by simp[below])
 have hI:V.I ()=cH l0 CB:=rfl
 have hl4:(cH l0 CB).length=4:=rfl
 have hg1:(cH l0 CB)[1]?=some (.row 1 [[CB]]):=rfl
 have HM:=tz G V (fun(st:Unit) x=>(inS aK x,st)) (fun _ _=>True) l (by omega) (by show 0<4;omega)
  (fun i st hi _=>⟨trivial,by
    have hm:=Rd hi
    have h2:=bD hm
    exact uu G l0 hB aK l[i] (by omega) (ih _ hm).1 (ih _ hm).2⟩) () trivial
 rw[dz] at HM
 have HB:=Dc G (o0:= .row 1 [[.p (fdL l0)]]) (by simp[okO,below]) (l.map (inS aK)) (fun x hx=>by
  obtain⟨y,hy,rfl⟩:=Rp.1 hx
  exact hf y hy) (by rw[Rs];omega)
 rw[DZ] at HB
 have HB2:=(AC.pre HB [.row 1 [[CB]],.row 1 [[.nils]],.row 1 [[.fn (.func aM) [.ptr 1 1 0 0,.ptr 3 1 0 0]]]] (by simp[below]) (by simp[okO,below]) (by rintro x h ⟨_,rfl⟩;rfl))
 rw[hI]
 have HM2:AC Tryz.prog G ay [.p (smL l),.fn (.func bY) [.ptr 3 1 0 0]] (cH l0 CB) fun x h=>x= .ret (.p (smL (l.map (inS aK))))∧h=cH l0 CB:=HM
 have HB3:AC Tryz.prog G bu [.p (smL (l.map (inS aK)))] (cH l0 CB) fun x h=>x= .ret (.p (smL (aK l)))∧h=cH l0 CB:=by
  refine HB2.mono ?_
  rintro x h ⟨h1,⟨rfl,rfl⟩,rfl⟩
  exact⟨rfl,rfl⟩
 have hg10:∀h:1<(cH l0 CB).length,(cH l0 CB)[1]= .row 1 [[.fn (.func bu) []]]:=fun _=>rfl
 generalize hh:cH l0 CB=C at*
 simp-implicitDefEqProofs[jm,hl4,hg10]
 refine HM2.mono ?_
 rintro r h ⟨rfl,rfl⟩
 simp-implicitDefEqProofs[aa,hl4,hg10]
 refine HB3.mono ?_
 rintro r h ⟨rfl,rfl⟩
 simp-implicitDefEqProofs[aa,hl4]
 trace_state
theorem Fo(l0:List Fd):∀(d:Nat) (l:List Sm),(∀x∈l,au d x=true)→aq l≤1073741824→nI G l0 CB aK l:=by
 intro d
 induction d with
 |zero=>
  intro l hf hz
  exact ul G l0 l (fun x hx=>by have:=hf x hx;cases this) hz (fun x hx=>by have:=hf x hx;cases this)
 |succ d ih=>
  intro l hf hz
  refine ul G l0 l (fun x hx=>Ar (hf x hx)) hz (fun x hx=>?_)
  have h1:=bD hx
  have h2:=x.sz_eq
  exact⟨ih x.body (ni (hf x hx)) (by omega),ih x.els (pV (hf x hx)) (by omega)⟩
theorem BW(l:List (List UInt8))(hl:l.length≤1073741824):VF Tryz.prog G cD [.p (az l)] (.p (az l)):=by
 have hsl:az l= .lst 1 (l.map fun w=>[.str w]):=rfl
 have key:AC Tryz.prog G cD [.p (az l)] [] fun x h=>∃v,x= .ret v∧View h v (az l):=by
  refine AC.go nU ?_
  simp-implicitDefEqProofs[iL,hsl]
  cases l with
  |nil=>
   simp[DF]
   exact⟨.nils 1,fh (l:=[]) rfl⟩
  |cons w r=>
   simp only[Rr] at hl
   simp[DF]
   exact⟨⟨by omega,by omega⟩,fh (l:=w::r) rfl⟩
 refine key.freezeR (fun t v h ⟨_,e,_⟩=>by cases e) fun v h ⟨u,e1,e2⟩=>?_
 cases e1
 exact .one e2 .nil
theorem ws(l0:List Fd){B:AV}(hB:below 0 B)(H:List Sm→List Sm)(f:Fd)(hz:f.sz≤1073741824)(hb:nI G l0 B H f.body):
 AC Tryz.prog G cJ [.agg (f.cs.map .p),.ptr 3 1 0 0] (cH l0 B) fun x h=>x= .ret (.agg ((eaF H f).cs.map .p))∧h=cH l0 B:=by
 have hcs:f.cs=[.str f.name,az f.params,smL f.body]:=rfl
 have hic:(eaF H f).cs=[.str f.name,az f.params,smL (H f.body)]:=rfl
 have hfz:f.sz=1+f.name.length+(f.params.length+(f.params.map List.length).sum)+aq f.body:=rfl
 let V:=EM l0 B hB aM [] trivial
 refine V.trim G (st:=()) (st':=()) (AC.go tq ?_) (by rw[hic];simp[below])
 have hI:V.I ()=cH l0 B:=rfl
 have hl4:(cH l0 B).length=4:=rfl
 have hg30:∀h:3<(cH l0 B).length,(cH l0 B)[3]= .row 1 [[.fn (.func aM) [.ptr 1 1 0 0,.ptr 3 1 0 0]]]:=fun _=>rfl
 have hVp:∀rest,AC Tryz.prog G aM [.p (smL f.body),.ptr 1 1 0 0,.ptr 3 1 0 0] (cH l0 B++rest) fun x h=>x= .ret (.p (smL (H f.body)))∧h=cH l0 B++rest:=fun rest=>
  V.pre G (st:=()) (st':=()) hb rest ⟨by simp[below],by simp only[below];show 1<4;omega,by simp only[below];show 3<4;omega,trivial⟩
 rw[hI]
 generalize hh:cH l0 B=C at*
 rw[hic]
 simp-implicitDefEqProofs[mR,hcs,hl4,hg30]
 refine(BW G f.params (by omega)).use ?_
 simp-implicitDefEqProofs[hl4,hg30]
 refine(hVp _).mono ?_
 rintro r h ⟨rfl,rfl⟩
 simp-implicitDefEqProofs[aa,hl4,hg30]
theorem zb(l:List Fd)(hz:aL l≤1073741824)(hf:∀f∈l,∀x∈f.body,au 4 x=true):VF Tryz.prog G co [.agg [.p (fdL l)],CB] (.agg [.p (fdL (fU l))]):=by
 have hll:=cP l
 have hB:below 0 CB:=by simp[CB,below]
 let V:=EM l CB hB cJ [.ptr 3 1 0 0] (by simp[below])
 have HM:=Ad G V (fun(st:Unit) x=>(eaF aK x,st)) (fun _ _=>True) l (by omega) (by show 0<4;omega)
  (fun i st hi _=>⟨trivial,by
    have hm:=Rd hi
    have h2:=cw hm
    have h3:l[i].sz=1+l[i].name.length+(l[i].params.length+(l[i].params.map List.length).sum)+aq l[i].body:=rfl
    exact ws G l hB aK l[i] (by omega) (Fo G l 4 _ (hf _ hm) (by omega))⟩) () trivial
 rw[dz] at HM
 have HM2:AC Tryz.prog G bt [.p (fdL l),.fn (.func cJ) [.ptr 3 1 0 0]] [.row 1 [[.p (fdL l)]],.row 1 [[.fn (.func bu) []]],.row 1 [[.nils]],.row 1 [[.fn (.func aM) [.ptr 1 1 0 0,.ptr 3 1 0 0]]]] fun x h=>x= .ret (.p (fdL (fU l)))∧h=[.row 1 [[.p (fdL l)]],.row 1 [[.fn (.func bu) []]],.row 1 [[.nils]],.row 1 [[.fn (.func aM) [.ptr 1 1 0 0,.ptr 3 1 0 0]]]]:=HM
 show VF Tryz.prog G co [.agg [.p (fdL l)],.fn (.func bu) []] (.agg [.p (fdL (fU l))])
 refine AC.go oV ?_
 simp-implicitDefEqProofs[kK]
 refine HM2.mono ?_
 rintro r h ⟨rfl,rfl⟩
 simp-implicitDefEqProofs[aa]
end Go.Proofs.YtaopbokndkdieaaGreatDoor
namespace Go.Proofs.YtaopbokndkdieaaGreatDoor
open Go Go.Aw
set_option maxRecDepth 100000
set_option maxHeartbeats 4000000
variable (G:aJ)
theorem Cz{σ:Type}(V:Vis σ)(g:σ→Sm→Sm × σ)(inv:Nat→σ→Prop)(l:List Sm)(hb:l.length≤1073741824)(hn:0<V.n)
 (hv:∀(i:Nat) st (h:i<l.length),inv i st→inv (i+1) (g st l[i]).2∧AC Tryz.prog G V.F (.agg (l[i].cs.map .p)::V.caps) (V.I st) fun x h'=>x= .ret (.agg ((g st l[i]).1.cs.map .p))∧h'=V.I (g st l[i]).2)(st:σ)(h0:inv 0 st):
 AC Tryz.prog G ay [.p (smL l),.fn (.func V.F) V.caps] (V.I st) fun x h=>x= .ret (slE V.n 5 (smR (bv g st l).1))∧h=V.I (bv g st l).2++[bw 5 (smR (bv g st l).1)]:=by
 have hxl:∀l,smL l= .lst 5 (l.map Sm.cs):=fun _=>rfl
 have hlen:=V.len
 have hcb:=V.capsOk
 have hinv:∀i,i≤l.length→inv i (bv g st (l.take i)).2:=fun i hi=>by
  have:=oY (g:=g) (inv:=inv) (l:=l) (st:=st) (k:=0) h0 (fun i st h hi=>by
   rw[RM] at hi⊢;exact(hv i st h hi).1) i hi
  rwa[RM] at this
 have hRp:∀l:List Sm,∀x∈smR l,ah 0 x:=aP
 have hRl:∀l:List Sm,(smR l).length=l.length:=fun l=>by simp[smR]
 have hRa:∀(l:List Sm) (y:Sm),smR (l++[y])=smR l++[y.cs.map .p]:=fun l y=>by simp[smR]
 have key:AC Tryz.prog G ay [.p (smL l),.fn (.func V.F) V.caps] (V.I st) fun x h=>x= .ret (slE V.n 5 (smR (bv g st l).1))∧h=V.I (bv g st l).2++[bw 5 (smR (bv g st l).1)]:=by
  refine AC.go hZ ?_
  simp-implicitDefEqProofs[eI,hxl]
  refine aU (fun i:Nat=>am 22 [(5,slE V.n 5 (smR (bv g st (l.take i)).1)),(0,.p (smL l)),(1,.fn (.func V.F) V.caps),(8,.p (smL l)),(9,.p (.int .i64 l.length)),(10,.p (.int .i64 i))])
   (fun i=>V.I (bv g st (l.take i)).2++[bw 5 (smR (bv g st (l.take i)).1)]) (fun i=>i≤l.length) (fun i=>l.length-i) 0 (by simp) ?_ ?_
  ·have e:bw 5 (smR (bv g st (l.take 0)).1)= .dead:=rfl
   rw[e]
   exact gE (by rw[hlen];exact Rj _) (by rw[hlen];exact hn) (by rw[hlen];exact V.ok st) (by simp[below,hxl,hcb,hlen,bv,smR,lO])
  intro i hi
  have hT:=fun h=>pM (g:=g) (l:=l) (st:=st) (i:=i) h
  have hi2:=hinv i hi
  have hml:=pc g (l.take i) st
  rw[Ru,Nat.min_eq_left hi] at hml
  generalize hcur:bv g st (l.take i)=cur at hT hi2 hml⊢
  obtain⟨out,s⟩:=cur
  simp only at hT hi2 hml⊢
  simp-implicitDefEqProofs[hxl]
  refine bf (fun hc=>?_) (fun hc=>?_)
  ·simp at hc
   have hg:=QW hc
   have hT:=hT hc
   obtain⟨_,hA⟩:=hv i s hc hi2
   generalize l[i]=x at hg hT hA
   have hkc:=x.cs_eq
   have hyc:=(g s x).1.cs_eq
   rw[hkc] at hA
   simp-implicitDefEqProofs[hg,hkc,hlen]
   refine(V.pre G hA _ ⟨by simp[below],hcb⟩).mono ?_
   rintro r h ⟨rfl,rfl⟩
   rw[hyc]
   simp-implicitDefEqProofs[aa,hlen]
   have hol:=hRl out
   refine⟨⟨by omega,by omega⟩,i+1,hc,by omega,?_⟩
   rw[hT]
   simp only[hRa]
   rw[mZ _ (by simp),kH _ (by simp),hyc]
   refine zu (mid:=[_,_,_]) (s:=[]) (hlen _) rfl (Rj _) (V.ok _) ?_ ?_ ?_
   ·intro x hx
    rcases Rf.1 hx with h|h
    ·exact hRp _ x h
    ·rw[Ri.1 h];simp
   ·simp[below,hxl,hcb,w1 (i:=i) (by omega)]
   ·simp
  ·simp at hc
   have hie:i=l.length:=by omega
   subst hie
   rw[RA] at hcur
   rw[hcur]
   simp-implicitDefEqProofs[]
 exact key
theorem Iq(l:List Sm):(l.map (inS aG)).map nK=aG l:=by
 rw[hY,List.map_map]
 refine Rq fun x _=>?_
 rw[xn];rfl
def FB:AV:= .fn (.func be) []
theorem rP(hK:G dR=some dC)(hS:G bW=some [PV.tbl opK opV])(l0:List Fd)(l:List Sm)(hf:∀x∈l,∀a∈x.args,gD a=true)(hz:aq l≤1073741824)(hz2:aq (l.map (inS aG))≤1073741824)(ih:∀x∈l,nI G l0 FB aG x.body∧nI G l0 FB aG x.els):nI G l0 FB aG l:=by
 have hll:=bk l
 have hB:below 0 FB:=by simp[FB,below]
 let V:=EM l0 FB hB bY [.ptr 3 1 0 0] (by simp[below])
 have hl4:(cH l0 FB).length=4:=rfl
 have HM:=Cz G V (fun(st:Unit) x=>(inS aG x,st)) (fun _ _=>True) l (by omega) (by show 0<4;omega)
  (fun i st hi _=>⟨trivial,by
    have hm:=Rd hi
    have h2:=bD hm
    exact uu G l0 hB aG l[i] (by omega) (ih _ hm).1 (ih _ hm).2⟩) () trivial
 rw[dz] at HM
 have HM2:AC Tryz.prog G ay [.p (smL l),.fn (.func bY) [.ptr 3 1 0 0]] (cH l0 FB) fun x h=>x= .ret (slE 4 5 (smR (l.map (inS aG))))∧h=cH l0 FB++[bw 5 (smR (l.map (inS aG)))]:=HM
 have key:AC Tryz.prog G aM [.p (smL l),.ptr 1 1 0 0,.ptr 3 1 0 0] (cH l0 FB) fun x h=>x= .ret (slE 4 5 (smR (aG l)))∧∃r,h=cH l0 FB++bw 5 (smR (aG l))::r:=by
  refine AC.go mV ?_
  have hg10:∀h:1<(cH l0 FB).length,(cH l0 FB)[1]= .row 1 [[.fn (.func be) []]]:=fun _=>rfl
  generalize hh:cH l0 FB=C at*
  simp-implicitDefEqProofs[jm,hl4,hg10]
  refine HM2.mono ?_
  rintro r h ⟨rfl,rfl⟩
  simp-implicitDefEqProofs[aa,hl4,hg10]
  cases l with
  |nil=>
   have e0:smR (([]:List Sm).map (inS aG))=[]:=rfl
   have e1:smR (aG [])=[]:=rfl
   rw[e1]
   simp-implicitDefEqProofs[lO,sr,smR]
   refine(VF.ac (r:= .nils) (Cv G) (by simp[below]) (by simp[below]) _).mono ?_
   rintro r h ⟨rfl,rfl⟩
   simp-implicitDefEqProofs[aa]
  |cons x r=>
   have hf2:∀y∈(x::r).map (inS aG),∀a∈y.args,gD a=true:=fun y hy=>by
    obtain⟨q,hq,rfl⟩:=Rp.1 hy
    exact hf q hq
   have HB:=FM G hK hS ((x::r).map (inS aG)) hf2 hz2
   rw[Iq] at HB
   have hnl:((x::r).map (inS aG)).length=(x::r).length:=Rs _
   have hfl:=rp (x::r)
   have hne:smR ((x::r).map (inS aG))≠[]:=by simp[smR]
   have hne2:smR (aG (x::r))≠[]:=by simp[smR,aG]
   rw[di hne,dN hne,di hne2,dN hne2,cY,cY,hnl,hfl]
   rw[hnl] at HB
   generalize hq:smR ((x::r).map (inS aG))=q1 at HB
   have hp1:∀y∈q1,ah 0 y:=by rw[←hq];exact aP _
   have hp2:∀y∈smR (aG (x::r)),ah 0 y:=aP _
   generalize hq2:smR (aG (x::r))=q2 at HB hp2
   refine(AC.frame (args:=[.sl 4 5 0 (x::r).length]) (h:=C++[.row 5 q1]) HB [4] (by simp) (by simp[TW,ren,below]) (aD (by rw[Rl (by omega),hl4];rfl) hp1 bq)).mono ?_
   rintro z h' ⟨x0,h0',⟨rfl,rfl⟩,_,rfl,rfl⟩
   have hm:mrg (C++[AO.row 5 q1]) [4] [AO.row 5 q2]=C++[.row 5 q2]:=by
    simp only[mrg]
    rw[List.set_append_right _ _ (by omega),hl4];rfl
   have hrq:∀ρ,gT ρ (AO.row 5 q2)= .row 5 q2:=fun ρ=>by
    simp only[gT]
    rw[Rq (g:=id) (fun y hy=>dT ρ y (hp2 y hy)),List.map_id]
   simp-implicitDefEqProofs[aa,wA,ren,hrq,hm]
 refine key.frz 4 (by rw[hl4];exact Rj _) (fun t v h ⟨e,_⟩=>by cases e) ?_
 rintro v h ⟨e,r,rfl⟩
 cases e
 refine⟨.p (smL (aG l)),cH l0 FB,by rw[Rn,hl4];omega,hl4,.one ?_ .nil,si (JH l0 hB (Rj _)),rfl,rfl⟩
 have ht:=vr (r:=r) (o:=bw 5 (smR (aG l))) hl4
 have hh:smR (aG l)=((aG l).map Sm.cs).map (·.map .p):=by simp[smR]
 rw[hh] at ht⊢
 exact th ht (fun x hx=>by obtain⟨b,_,rfl⟩:=Rp.1 hx;simp)
theorem Ei(H:List Sm→List Sm):∀l:List Sm,(∀x∈l,aq (H x.body)≤aq x.body∧aq (H x.els)≤aq x.els)→aq (l.map (inS H))≤aq l
 |[],_=>Rj _
 |x::r,h=>by
  have h1:=h x (by simp)
  have h2:=Ei H r (fun y hy=>h y (by simp[hy]))
  have h3:=x.sz_eq
  have h4:(inS H x).sz=1+x.name.length+bB x.args+aq (H x.body)+aq (H x.els):=by rw[Sm.sz_eq];rfl
  rw[Rw,aq,aq]
  omega
theorem Bw{d:Nat}{x:Sm}(h:au d x=true):∀a∈x.args,gD a=true:=by
 obtain⟨d,rfl⟩:=qT h
 rw[au,Rh,Rh] at h
 have h1:=h.1.1
 simp only[eL,Rh,Rc] at h1
 exact h1.1.1.1.2
theorem DE(hK:G dR=some dC)(hS:G bW=some [PV.tbl opK opV])(l0:List Fd):∀(d:Nat) (l:List Sm),(∀x∈l,au d x=true)→aq l≤1073741824→nI G l0 FB aG l:=by
 intro d
 have hin:∀l:List Sm,aq l≤1073741824→aq (l.map (inS aG))≤1073741824:=fun l hz=>RO (Ei aG l fun x _=>⟨kA _,kA _⟩) hz
 induction d with
 |zero=>
  intro l hf hz
  exact rP G hK hS l0 l (fun x hx=>by have:=hf x hx;cases this) hz (hin l hz) (fun x hx=>by have:=hf x hx;cases this)
 |succ d ih=>
  intro l hf hz
  refine rP G hK hS l0 l (fun x hx=>Bw (hf x hx)) hz (hin l hz) (fun x hx=>?_)
  have h1:=bD hx
  have h2:=x.sz_eq
  exact⟨ih x.body (ni (hf x hx)) (by omega),ih x.els (pV (hf x hx)) (by omega)⟩
theorem xR(hK:G dR=some dC)(hS:G bW=some [PV.tbl opK opV])(l:List Fd)(hz:aL l≤1073741824)(hf:∀f∈l,∀x∈f.body,au 4 x=true):VF Tryz.prog G co [.agg [.p (fdL l)],FB] (.agg [.p (fdL (cg l))]):=by
 have hll:=cP l
 have hB:below 0 FB:=by simp[FB,below]
 let V:=EM l FB hB cJ [.ptr 3 1 0 0] (by simp[below])
 have HM:=Ad G V (fun(st:Unit) x=>(eaF aG x,st)) (fun _ _=>True) l (by omega) (by show 0<4;omega)
  (fun i st hi _=>⟨trivial,by
    have hm:=Rd hi
    have h2:=cw hm
    have h3:l[i].sz=1+l[i].name.length+(l[i].params.length+(l[i].params.map List.length).sum)+aq l[i].body:=rfl
    exact ws G l hB aG l[i] (by omega) (DE G hK hS l 4 _ (hf _ hm) (by omega))⟩) () trivial
 rw[dz] at HM
 have HM2:AC Tryz.prog G bt [.p (fdL l),.fn (.func cJ) [.ptr 3 1 0 0]] [.row 1 [[.p (fdL l)]],.row 1 [[.fn (.func be) []]],.row 1 [[.nils]],.row 1 [[.fn (.func aM) [.ptr 1 1 0 0,.ptr 3 1 0 0]]]] fun x h=>x= .ret (.p (fdL (cg l)))∧h=[.row 1 [[.p (fdL l)]],.row 1 [[.fn (.func be) []]],.row 1 [[.nils]],.row 1 [[.fn (.func aM) [.ptr 1 1 0 0,.ptr 3 1 0 0]]]]:=HM
 show VF Tryz.prog G co [.agg [.p (fdL l)],.fn (.func be) []] (.agg [.p (fdL (cg l))])
 refine AC.go oV ?_
 simp-implicitDefEqProofs[kK]
 refine HM2.mono ?_
 rintro r h ⟨rfl,rfl⟩
 simp-implicitDefEqProofs[aa]
end Go.Proofs.YtaopbokndkdieaaGreatDoor
namespace Go.Proofs.YtaopbokndkdieaaGreatDoor
open Go Go.Aw
set_option maxRecDepth 100000
set_option maxHeartbeats 4000000
variable (G:aJ)
theorem zQ:∀(N:Nat) (s:Sm),s.sz≤N→s.sz≤1073741824→VF Tryz.prog G bR [.agg (s.cs.map .p)] (.agg (s.cs.map .p)):=by
 intro N
 induction N with
 |zero=>intro e h;have:=e.sz_eq;omega
 |succ N ih=>
  intro s he hz
  have hc:=s.cs_eq
  have hzz:=s.sz_eq
  have hlen:=bi s.args
  have hlb:=bk s.body
  have hle:=bk s.els
  have hE:∀(h:List AO) (hok:∀o∈h,okO h.length o),0<h.length→AC Tryz.prog G aQ [.p (exL s.args),.fn (.func bF) []] h fun x h'=>x= .ret (.p (exL s.args))∧h'=h:=by
   intro h hok h0
   have HM:=mW G (wv bF h hok) (fun(st:Unit) x=>(id x,st)) (fun _ _=>True) s.args (by omega) h0
    (fun i st hi _=>⟨trivial,by
      have h2:=aS (Rd hi)
      exact(sQ G _ s.args[i] (Rj _) (by omega)).ac (by simp[below]) (by simp[below]) _⟩) () trivial
   rw[dz,List.map_id] at HM
   exact HM
  have hS:∀(l:List Sm),aq l≤N→aq l≤1073741824→∀(h:List AO) (hok:∀o∈h,okO h.length o),0<h.length→AC Tryz.prog G ay [.p (smL l),.fn (.func bR) []] h fun x h'=>x= .ret (.p (smL l))∧h'=h:=by
   intro l hl1 hl2 h hok h0
   have hll:=bk l
   have HM:=tz G (wv bR h hok) (fun(st:Unit) x=>(id x,st)) (fun _ _=>True) l (by omega) h0
    (fun i st hi _=>⟨trivial,by
      have h2:=bD (Rd hi)
      exact(ih l[i] (by omega) (by omega)).ac (by simp[below]) (by simp[below]) _⟩) () trivial
   rw[dz,List.map_id] at HM
   exact HM
  refine AC.go to ?_
  simp-implicitDefEqProofs[mD,hc]
  refine(hE _ (by simp[okO,below]) (by simp)).mono ?_
  rintro r h ⟨rfl,rfl⟩
  simp-implicitDefEqProofs[aa]
  refine(hS s.body (by omega) (by omega) _ (by simp[okO,below]) (by simp)).mono ?_
  rintro r h ⟨rfl,rfl⟩
  simp-implicitDefEqProofs[aa]
  refine(hS s.els (by omega) (by omega) _ (by simp[okO,below]) (by simp)).mono ?_
  rintro r h ⟨rfl,rfl⟩
  simp-implicitDefEqProofs[aa]
theorem CM(f:Fd)(hz:f.sz≤1073741824):VF Tryz.prog G fO [.agg (f.cs.map .p)] (.agg (f.cs.map .p)):=by
 have hcs:f.cs=[.str f.name,az f.params,smL f.body]:=rfl
 have hfz:f.sz=1+f.name.length+(f.params.length+(f.params.map List.length).sum)+aq f.body:=rfl
 have hll:=bk f.body
 have hS:∀(h:List AO) (hok:∀o∈h,okO h.length o),0<h.length→AC Tryz.prog G ay [.p (smL f.body),.fn (.func bR) []] h fun x h'=>x= .ret (.p (smL f.body))∧h'=h:=by
  intro h hok h0
  have HM:=tz G (wv bR h hok) (fun(st:Unit) x=>(id x,st)) (fun _ _=>True) f.body (by omega) h0
   (fun i st hi _=>⟨trivial,by
     have h2:=bD (Rd hi)
     exact(zQ G _ f.body[i] (Rj _) (by omega)).ac (by simp[below]) (by simp[below]) _⟩) () trivial
  rw[dz,List.map_id] at HM
  exact HM
 refine AC.go wM ?_
 simp-implicitDefEqProofs[oZ,hcs]
 refine(BW G f.params (by omega)).use ?_
 simp-implicitDefEqProofs[]
 refine(hS _ (by simp[okO,below]) (by simp)).mono ?_
 rintro r h ⟨rfl,rfl⟩
 simp-implicitDefEqProofs[aa]
theorem uG(l:List Fd)(hz:aL l≤1073741824):VF Tryz.prog G gb [.agg [.p (fdL l)]] (.agg [.p (fdL l)]):=by
 have hll:=cP l
 have hS:∀(h:List AO) (hok:∀o∈h,okO h.length o),0<h.length→AC Tryz.prog G bt [.p (fdL l),.fn (.func fO) []] h fun x h'=>x= .ret (.p (fdL l))∧h'=h:=by
  intro h hok h0
  have HM:=Ad G (wv fO h hok) (fun(st:Unit) x=>(id x,st)) (fun _ _=>True) l (by omega) h0
   (fun i st hi _=>⟨trivial,by
     have h2:=cw (Rd hi)
     exact(CM G l[i] (by omega)).ac (by simp[below]) (by simp[below]) _⟩) () trivial
  rw[dz,List.map_id] at HM
  exact HM
 refine AC.go qi ?_
 simp-implicitDefEqProofs[ka]
 refine(hS _ (by simp[okO,below]) (by simp)).mono ?_
 rintro r h ⟨rfl,rfl⟩
 simp-implicitDefEqProofs[aa]
variable (hK:G dR=some dC) (hS:G bW=some [PV.tbl opK opV])
include hK hS
theorem qO(l:List Fd)(hz:aL l≤1073741824)(h0:aT l=0):VF Tryz.prog G cI [.agg [.p (fdL l)]] (.tup [.agg [.p (fdL (cg l))],.p (.bool true)]):=by
 have HC:VF Tryz.prog G co [.agg [.p (fdL l)],.fn (.func be) []] (.agg [.p (fdL (cg l))]):=xR G hK hS l hz (jg h0).2
 refine AC.go kY ?_
 simp-implicitDefEqProofs[gP]
 refine(tJ G hK hS l hz).use ?_
 simp-implicitDefEqProofs[h0]
 refine HC.use ?_
 simp-implicitDefEqProofs[]
theorem sN(l:List Fd)(hz:aL l≤1073741824)(h0:aT l=0):VF Tryz.prog G cX [.agg [.p (fdL l)]] (.tup [.agg [.p (fdL (fU l))],.p (.bool true)]):=by
 have HC:VF Tryz.prog G co [.agg [.p (fdL l)],.fn (.func bu) []] (.agg [.p (fdL (fU l))]):=zb G l hz (jg h0).2
 refine AC.go lD ?_
 simp-implicitDefEqProofs[iF]
 refine(tJ G hK hS l hz).use ?_
 simp-implicitDefEqProofs[h0]
 refine HC.use ?_
 simp-implicitDefEqProofs[]
end Go.Proofs.YtaopbokndkdieaaGreatDoor
namespace Go.Proofs.YtaopbokndkdieaaGreatDoor
open Go Go.Aw
set_option maxRecDepth 100000
set_option maxHeartbeats 4000000
variable (G:aJ)
variable (hK:G dR=some dC) (hS:G bW=some [PV.tbl opK opV])
include hK hS
theorem tj(l y:List Fd)(hz:aL l≤1073741824)(h0:aT l=0)(hy:Smp l y):VF Tryz.prog G cF [.agg [.p (fdL l)]] (.tup [.agg [.p (fdL y)],.p (.bool true)]):=by
 refine AC.go iS ?_
 simp-implicitDefEqProofs[fq]
 refine(tJ G hK hS l hz).use ?_
 simp-implicitDefEqProofs[h0]
 refine(uG G l hz).use ?_
 simp-implicitDefEqProofs[]
 refine aU (fun _:List Fd=>am 35 [(1,.ptr 0 1 0 0),(2,.ptr 1 1 0 0),(4,.ptr 2 1 0 0)]) (fun q=>[.row 1 [[.p (fdL l)]],.row 1 [[.nils]],.row 1 [[.p (fdL q)]]])
  (fun q=>Smp q y∧aT q=0∧aL q≤1073741824) wP l ⟨hy,h0,hz⟩ ?_ ?_
 ·exact ae (by simp) (by simp[okO,below]) (by simp[below])
 rintro q ⟨hs,hc,hq⟩
 have z1:=RO (iX q) hq
 have z2:=RO (pN (cg q)) z1
 simp-implicitDefEqProofs[]
 refine(qO G hK hS q hq hc).use ?_
 simp-implicitDefEqProofs[]
 refine(sN G hK hS (cg q) z1 (kj hc)).use ?_
 simp-implicitDefEqProofs[]
 refine(ir G (fU (cg q)) q z2 hq).use ?_
 by_cases he:fU (cg q)=q
 ·simp-implicitDefEqProofs[cS he]
  cases hs with
  |stop _=>rfl
  |go h _=>exact(h he).elim
 ·have hn:aT (fU (cg q))=0:=se hc
  simp-implicitDefEqProofs[bg he]
  refine⟨fU (cg q),⟨?_,hn,z2⟩,?_,?_⟩
  ·cases hs with
   |stop h=>exact(he h).elim
   |go _ h=>exact h
  ·rcases pk q with h|h
   ·exact(he h).elim
   ·exact h
  ·exact mA [0,1,4] rfl (by decide) (aD rfl (by simp[below]) (aD rfl (by simp[below]) (aD rfl (by simp[below]) bq))) (by simp[below,ren])
theorem sj(l:List Fd)(hz:aL l≤1073741824)(h0:¬aT l=0):VF Tryz.prog G cF [.agg [.p (fdL l)]] (.tup [.agg [.p (fdL [])],.p (.bool false)]):=by
 have key:AC Tryz.prog G cF [.agg [.p (fdL l)]] [] fun x h=>x= .ret (.tup [.agg [.nils],.p (.bool false)]):=by
  refine AC.go iS ?_
  simp-implicitDefEqProofs[fq]
  refine(tJ G hK hS l hz).use ?_
  simp-implicitDefEqProofs[h0]
 refine key.freezeR (fun t v h e=>by cases e) fun v h e=>?_
 cases e
 exact .tup (.agg (.one (.nils 3) .nil) (.keep (by simp) .nil)) .nil
theorem Cy(l:List Fd)(hz:aL l≤1073741824):VF Tryz.prog G jN [.agg [.p (fdL l)]] (.p (.bool (jx l))):=by
 refine AC.go uT ?_
 simp-implicitDefEqProofs[nM]
 by_cases h0:aT l=0
 ·obtain⟨y,hy⟩:=zD (wP l) l (Rj _)
  have hyz:aL y≤1073741824:=RO (DD hy) hz
  refine(tj G hK hS l y hz h0 hy).use ?_
  simp-implicitDefEqProofs[]
  refine(ir G l y hz hyz).use ?_
  have e:jx l=eqX l y:=by
   rw[jx,decide_eq_true h0,Bool.true_and]
   by_cases h:y=l
   ·rw[cS h.symm,cS ((vq hy).1 h)]
   ·rw[bg (fun e=>h e.symm),bg (fun e=>h ((vq hy).2 e))]
  rw[e]
  simp-implicitDefEqProofs[]
 ·refine(sj G hK hS l hz h0).use ?_
  have e:jx l=false:=by rw[jx,decide_eq_false h0,Bool.false_and]
  rw[e]
  simp-implicitDefEqProofs[]
end Go.Proofs.YtaopbokndkdieaaGreatDoor
namespace Go.Proofs.YtaopbokndkdieaaGreatDoor
open Go Go.Aw
set_option maxRecDepth 100000
set_option maxHeartbeats 4000000
variable (G:aJ)
variable (hK:G dR=some dC) (hS:G bW=some [PV.tbl opK opV])
include hK hS
theorem wn(l:List Fd)(hz:aL l≤1073741824):VF Tryz.prog G cI [.agg [.p (fdL l)]] (.tup [.agg [.p (fdL (orN (decide (aT l=0)) (cg l)))],.p (.bool (decide (aT l=0)))]):=by
 by_cases h0:aT l=0
 ·rw[decide_eq_true h0]
  exact qO G hK hS l hz h0
 ·rw[decide_eq_false h0]
  have key:AC Tryz.prog G cI [.agg [.p (fdL l)]] [] fun x h=>x= .ret (.tup [.agg [.nils],.p (.bool false)]):=by
   refine AC.go kY ?_
   simp-implicitDefEqProofs[gP]
   refine(tJ G hK hS l hz).use ?_
   simp-implicitDefEqProofs[h0]
  refine key.freezeR (fun t v h e=>by cases e) fun v h e=>?_
  cases e
  exact .tup (.agg (.one (.nils 3) .nil) (.keep (by simp) .nil)) .nil
theorem yv(l:List Fd)(hz:aL l≤1073741824):VF Tryz.prog G cX [.agg [.p (fdL l)]] (.tup [.agg [.p (fdL (orN (decide (aT l=0)) (fU l)))],.p (.bool (decide (aT l=0)))]):=by
 by_cases h0:aT l=0
 ·rw[decide_eq_true h0]
  exact sN G hK hS l hz h0
 ·rw[decide_eq_false h0]
  have key:AC Tryz.prog G cX [.agg [.p (fdL l)]] [] fun x h=>x= .ret (.tup [.agg [.nils],.p (.bool false)]):=by
   refine AC.go lD ?_
   simp-implicitDefEqProofs[iF]
   refine(tJ G hK hS l hz).use ?_
   simp-implicitDefEqProofs[h0]
  refine key.freezeR (fun t v h e=>by cases e) fun v h e=>?_
  cases e
  exact .tup (.agg (.one (.nils 3) .nil) (.keep (by simp) .nil)) .nil
end Go.Proofs.YtaopbokndkdieaaGreatDoor
namespace Go.Proofs.YtaopbokndkdieaaGreatDoor
open Go Go.Aw
set_option maxRecDepth 100000
set_option maxHeartbeats 4000000
def Sml(ch:List Scp):Prop:=∀s n,ic ch s=some n→n<26
theorem Sml.getD{ch:List Scp}(h:Sml ch)(s:List UInt8):(ic ch s).getD 0<26:=by
 cases e:ic ch s with
 |none=>simp
 |some n=>exact h s n e
theorem Sml.set{m:Scp}{up:List Scp}(h:Sml (m::up))(s:List UInt8){n:Nat}(hn:n<26):Sml (kr m s n::up):=by
 intro t k e
 rw[ic,xo] at e
 by_cases hst:s=t
 ·rw[if_pos hst] at e;cases e;exact hn
 ·rw[if_neg hst] at e
  exact h t k (by rw[ic];exact e)
theorem Sml.open{ch:List Scp}(h:Sml ch):Sml ([]::ch):=fun s n e=>h s n (by rw[ic] at e;exact e)
theorem Sml.opS{m:Scp}{up:List Scp}(h:Sml (m::up))(o:Int)(s:List UInt8){n:Nat}(hn:o=1→n<26):Sml (opS o s m n::up):=by
 unfold Go.Proofs.YtaopbokndkdieaaGreatDoor.opS
 split
 ·rename_i e;exact h.set s (hn e)
 ·exact h
variable (G:aJ)
end Go.Proofs.YtaopbokndkdieaaGreatDoor
namespace Go.Proofs.YtaopbokndkdieaaGreatDoor
open Go Go.Aw
set_option maxRecDepth 100000
set_option maxHeartbeats 4000000
variable (G:aJ)
theorem Sml.base:Sml [[]]:=fun s n e=>by simp[ic,jl] at e
variable (hK:G dR=some dC) (hS:G bW=some [.tbl opK opV])
include hK hS
end Go.Proofs.YtaopbokndkdieaaGreatDoor
namespace Go.Proofs.YtaopbokndkdieaaGreatDoor
open Go Go.Aw
set_option maxRecDepth 100000
set_option maxHeartbeats 4000000
variable (G:aJ)
theorem JG{ρ:List Nat}:∀{args:List AV},ah 0 args→TW ρ args args
 |[],_=>trivial
 |v::r,h=>⟨.inr ⟨(aW (Nat.zero_le _) [v] ⟨h.1,trivial⟩).1,by have:=dT ρ [v] ⟨h.1,trivial⟩;simpa[bI] using this⟩,JG h.2⟩
theorem MJ{f:FuncId}{args:List AV}{b:List Int}{p:Nat}{Q:AV→Nat→Prop}(H:AC Tryz.prog G f (.ptr 0 2 0 0::args) [rdO b p] fun x h=>∃v q,x= .ret v∧h=[rdO b q]∧Q v q)(hq:∀v q,Q v q→below 0 v){h:List AO}{k:Nat}(hk:h[k]?=some (rdO b p))(ha:ah 0 args):
 AC Tryz.prog G f (.ptr k 2 0 0::args) h fun x h'=>∃v q,x= .ret v∧h'=h.set k (rdO b q)∧Q v q:=by
 refine(H.frame (h:=h) (args:= .ptr k 2 0 0::args) [k] (by simp) ⟨.inr ⟨by simp[below],by simp[ren]⟩,JG ha⟩ (dx hk (bQ _ _ _) bq)).mono ?_
 rintro x h' ⟨x0,h0,⟨v,q,rfl,rfl,r⟩,hl,rfl,rfl⟩
 refine⟨v,q,?_,?_,r⟩
 ·simp only[wA]
  have:=dT ([k]++List.range' h.length ([rdO b q].length-[rdO b p].length)) [v] ⟨hq v q r,trivial⟩
  simpa[bI] using this
 ·have hp2:∀σ,gT σ (rdO b q)=rdO b q:=fun σ=>by simp[rdO,gT,bI,ren]
  simp[mrg,hp2]
theorem AH{l:List Int}(h:Byt l)(n:Nat):Byt (l.take n):=fun x hx=>h x (RN hx)
def DrP(n:Nat)(x:ARes):Prop:=∃l:List Fd,x= .ret (.agg [.p (fdL l)])∧aL l≤n
theorem Je{f:FuncId}{args:List AV}{R:ARes→Prop}(H:AC Tryz.prog G f args [] fun x _=>R x)(hR:∀x,R x→∃v,x= .ret v∧below 0 v)(ha:ah 0 args)(h:List AO):AC Tryz.prog G f args h fun x h'=>R x∧h'=h:=by
 have H2:AC Tryz.prog G f args [] fun x h'=>R x∧h'=[]:=by
  refine H.wk (fun t v h' r=>by obtain⟨_,e,_⟩:=hR _ r;cases e) fun v h' r=>?_
  obtain⟨v',e,hv⟩:=hR _ r
  cases e
  exact⟨v,[],Gv rfl ⟨.inr ⟨hv,rfl⟩,trivial⟩,r,rfl⟩
 refine(H2.pre h ha (fun o ho=>by cases ho) (fun x h' r=>by rw[r.2])).mono ?_
 rintro x h' ⟨h1,⟨r,rfl⟩,rfl⟩
 exact⟨r,rfl⟩
theorem Js{n:Nat}:∀x,DrP n x→∃v,x= .ret v∧below 0 v:=fun x ⟨l,e,_⟩=>⟨_,e,by simp[below]⟩
variable (hK:G dR=some dC) (hS:G bW=some [.tbl opK opV])
include hK hS
end Go.Proofs.YtaopbokndkdieaaGreatDoor
namespace Go.Proofs.YtaopbokndkdieaaGreatDoor
open Go Go.Aw
set_option maxRecDepth 100000
set_option maxHeartbeats 4000000
variable (G:aJ)
theorem FN(code:List Int)(hb:Byt code):AC Tryz.prog G iQ [.p (sv code)] [] fun x _=>DrP 900000000 x:=by
 refine AC.go nP ?_
 simp-implicitDefEqProofs[iR]
 refine(AC.lift (GD G code) (by simp) rfl rfl).mono ?_
 rintro r h ⟨rfl,rfl⟩
 have hr:∀n,db n (rdO (code.take 2000) 0)=rdO (code.take 2000) 0:=fun n=>by simp[rdO,db,dq,cC]
 simp-implicitDefEqProofs[aa,cC,hr]
 refine(MJ G (Az G (AH hb 2000) (by rw[Ru];omega) (p:=0) (by omega)) (fun v q ⟨⟨l,e,_⟩,_⟩=>by rw[e];simp[below]) (h:=[.row 1 [[.nils]],rdO (code.take 2000) 0]) (k:=1) rfl trivial).mono ?_
 rintro r h ⟨v,q,rfl,rfl,⟨l,rfl,hz⟩,_⟩
 simp-implicitDefEqProofs[aa]
 exact⟨l,rfl,hz⟩
theorem wT(code:List Int)(hb:Byt code):AC Tryz.prog G gk [.p (sv code)] [] fun x _=>DrP 900000000 x:=by
 refine AC.go qn ?_
 simp-implicitDefEqProofs[jW]
 refine(AC.lift (GD G code) (by simp) rfl rfl).mono ?_
 rintro r h ⟨rfl,rfl⟩
 have hr:∀n,db n (rdO (code.take 2000) 0)=rdO (code.take 2000) 0:=fun n=>by simp[rdO,db,dq,cC]
 have hbt:=AH hb 2000
 have hbl:(code.take 2000).length≤2000:=by rw[Ru];omega
 generalize code.take 2000=b at hr hbt hbl
 simp-implicitDefEqProofs[aa,cC,hr]
 refine(MJ G (Az G hbt hbl (p:=0) (by omega)) (fun v q ⟨⟨l,e,_⟩,_⟩=>by rw[e];simp[below]) (h:=[.row 1 [[.nils]],rdO b 0]) (k:=1) rfl trivial).mono ?_
 rintro r h ⟨v,q,rfl,rfl,⟨l,rfl,hz⟩,hq1,hq2⟩
 simp-implicitDefEqProofs[aa]
 by_cases h0:aT l=0
 ·obtain⟨y,hy⟩:=zD (wP l) l (Rj _)
  have hyz:aL y≤900000000:=RO (DD hy) hz
  refine(mF G l y (by omega) h0 hy).use ?_
  simp-implicitDefEqProofs[]
  refine(MJ G (Q:=fun v q2=>∃k:Nat,v= .p (.int .i64 k)∧q2=q+1) ((GJ G b hbt hbl q (by omega) 2).mono fun x h ⟨k,e1,e2,_⟩=>⟨_,_,e1,e2,k,rfl,rfl⟩) (fun v q ⟨k,e,_⟩=>by rw[e];simp[below]) (k:=1) rfl (by simp[below])).mono ?_
  rintro r h ⟨v,q2,rfl,rfl,k,rfl,rfl⟩
  simp-implicitDefEqProofs[aa]
  refine bf (fun hk=>?_) (fun hk=>?_)
  ·simp-implicitDefEqProofs[]
   exact⟨_,rfl,hyz⟩
  ·simp-implicitDefEqProofs[]
   exact⟨l,rfl,hz⟩
 ·refine(lV G l (by omega) h0).use ?_
  simp-implicitDefEqProofs[]
  exact⟨l,rfl,hz⟩
variable (hK:G dR=some dC) (hS:G bW=some [.tbl opK opV])
include hK hS
theorem xy(code:List Int)(hb:Byt code)(hl:code.length≤9223372036854775807):VF Tryz.prog G lR [.p (sv code)] (.p (.bool true)):=by
 refine AC.go sb ?_
 have hbl:sv code= .lst 1 (code.map fun n=>[.int .u8 n]):=rfl
 simp-implicitDefEqProofs[lX,hbl]
 rw[←hbl]
 by_cases hc:(1048576:Int)<code.length
 ·simp-implicitDefEqProofs[hc]
 simp-implicitDefEqProofs[hc]
 refine(Je G (wT G code hb) Js (by simp) _).mono ?_
 rintro r h ⟨⟨l,rfl,hz⟩,rfl⟩
 simp-implicitDefEqProofs[aa]
 refine(Cy G hK hS l (by omega)).use ?_
 simp-implicitDefEqProofs[]
 refine(CP G l (by omega)).use ?_
 simp-implicitDefEqProofs[]
 refine(wn G hK hS l (by omega)).use ?_
 simp-implicitDefEqProofs[]
 refine(yv G hK hS l (by omega)).use ?_
 by_cases h0:aT l=0
 ·have hd:decide (aT l=0)=true:=decide_eq_true h0
  have hi:=FH l
  have hs:jx l=eqX (jz l) l:=by rw[jx,hd,Bool.true_and]
  simp-implicitDefEqProofs[hd,orN]
  refine(ir G (cg l) l (RO (iX l) (by omega)) (by omega)).use ?_
  by_cases e1:cg l=l
  ·simp-implicitDefEqProofs[cS e1]
   refine(ir G (fU l) l (RO (pN l) (by omega)) (by omega)).use ?_
   by_cases e2:fU l=l
   ·have:jx l=true:=by rw[hs,cS (hi.2 ⟨e1,e2⟩)]
    simp-implicitDefEqProofs[cS e2,this]
   ·have:jx l=false:=by rw[hs,bg (fun h=>e2 (hi.1 h).2)]
    simp-implicitDefEqProofs[bg e2,this]
  ·have:jx l=false:=by rw[hs,bg (fun h=>e1 (hi.1 h).1)]
   simp-implicitDefEqProofs[bg e1,this]
 ·have hd:decide (aT l=0)=false:=decide_eq_false h0
  have hs:jx l=false:=by rw[jx,hd,Bool.false_and]
  simp-implicitDefEqProofs[hd,orN,hs]
end Go.Proofs.YtaopbokndkdieaaGreatDoor
namespace Go.Proofs.YtaopbokndkdieaaGreatDoor
open Go Go.Aw Go.ChangeShapes Go.WideShapes Go.ChangeAt Go.RowKit
set_option maxRecDepth 100000
abbrev MK:TypeId:=24
abbrev Oo:TypeId:=22
abbrev Qc:TypeId:=70
abbrev Mx:TypeId:=59
abbrev Pf:TypeId:=9
abbrev KD:TypeId:=68
abbrev Mj:TypeId:=119
abbrev Lc:TypeId:=117
abbrev Na:TypeId:=168
abbrev LJ:TypeId:=3
abbrev Mi:TypeId:=4
abbrev DB:TypeId:=154
abbrev HN:TypeId:=178
abbrev LF:TypeId:=179
abbrev Ej:TypeId:=36
abbrev zj:TypeId:=5
theorem OV:Kids Tryz.prog (· <Tryz.prog.types.size):=kids_rows (by kernel_rfl) (by kernel_rfl)
theorem OI:∀t e,t<Tryz.prog.types.size→Tryz.prog.underlying t=some (.slice e)→0<Tryz.prog.cellsOf e:=slices_full_of Tryz.prog (by kernel_rfl)
def JR:List TypeId:=[MK,Oo,Qc,Mx,Pf,KD,Mj,Lc,Na,LJ,Mi,DB,HN]
theorem JC:Plain Tryz.prog JR=true:=by kernel_rfl
theorem QI:ownKnob Tryz.prog.godebug=none:=by kernel_rfl
theorem xD{H:Type}:∀l:List (DataW H),Rows.uptoBulkAll l=(l.map Rows.uptoBulk).sum
 |[]=>by simp[Rows.uptoBulkAll]
 |d::r=>by simp[Rows.uptoBulkAll,xD r]
theorem KM{H:Type}:BulkOk (Rows.uptoBulk (H:=H)) where
 lit:=fun l=>by cases l<;>simp[Rows.uptoBulk]
 str:=fun s=>by simp[Rows.uptoBulk]
 nil:=by simp[Rows.uptoBulk]
 slice:=fun es sp=>by simp only[Rows.uptoBulk,xD];omega
 agg:=fun ps=>by simp only[Rows.uptoBulk,xD];omega
theorem Jj{t e:TypeId}{vs:List PV}(h:Conf Tryz.prog t vs)(hu:Tryz.prog.underlying t=some (.slice e)):∃es,vs=[.lst (Tryz.prog.cellsOf e) es]∧es.length≤9223372036854775807∧∀x∈es,Conf Tryz.prog e x:=by
 cases h with
 |sl es e' hl hs=>rw[hu] at e';cases e';exact⟨es,rfl,hl,hs⟩
 |bool b e=>rw[e] at hu;cases hu
 |int n e=>rw[e] at hu;cases hu
 |str s e=>rw[e] at hu;cases hu
 |st vs e=>rw[e] at hu;cases hu
 |arr vs e=>rw[e] at hu;cases hu
def G0:aJ:=fun g=>if g=dR then some dC else if g=bW then some [.tbl opK opV] else none
theorem MF:∀k,iY Tryz.prog (k+10) DB (Rows.laid_loop_example_wholeway_impl_keys (H:=Unit))=dC:=fun k=>by kernel_rfl
theorem QA{W:World}{laid:List (String × DataW Unit)}(hL:laidMet Tryz.prog laid W)(h1:("loop.example/wholeway/impl.keys",Rows.laid_loop_example_wholeway_impl_keys)∈laid)(h2:("loop.example/wholeway/impl.opSign",Rows.laid_loop_example_wholeway_impl_opSign)∈laid):
 ∀g cs,G0 g=some cs→g<W.heap.size∧∀(j:Nat) (c:PV),cs[j]?=some c→∃v,W.cell? ⟨g,j,none⟩=some v∧PRel W (· <W.heap.size) c v:=by
 intro g cs h
 unfold G0 at h
 split at h
 ·rename_i e;subst e;cases h
  exact Gq JC hL (n:= "loop.example/wholeway/impl.keys") (d:=Rows.laid_loop_example_wholeway_impl_keys) (t:=DB) h1 (by kernel_rfl) (by kernel_rfl) (by decide) MF
 ·split at h
  ·rename_i e;subst e;cases h
   exact Ih JC hL (n:= "loop.example/wholeway/impl.opSign") h2 (t:=LF) (k:=LJ) (e:=HN) (by kernel_rfl) (by kernel_rfl) (by kernel_rfl) (.inl ⟨.i64,by kernel_rfl⟩) (by decide) (by kernel_rfl) (by kernel_rfl) (fun m=>by kernel_rfl)
  ·cases h
def Es:List TypeId:=Ej::zj::JR
theorem Ml:Plain Tryz.prog Es=true:=by kernel_rfl
theorem Ds{vs:List PV}(h:Conf Tryz.prog Ej vs):∃l:List Int,vs=[sv l]∧l.length≤9223372036854775807∧Byt l:=by
 obtain⟨es,rfl,hl,h4⟩:=Jj h (e:=zj) (by kernel_rfl)
 have hk:∀x∈es,∃n:Int,x=[PV.int .u8 n]∧(Lit.int .u8 n).wf=true:=fun x hx=>JD (h4 x hx) (by kernel_rfl)
 obtain⟨l,rfl⟩:=En (fun n:Int=>[PV.int .u8 n]) (fun x hx=>by obtain⟨n,e,_⟩:=hk x hx;exact⟨n,e⟩)
 rw[show Tryz.prog.cellsOf zj=1 by kernel_rfl]
 refine⟨l,rfl,by rwa[Rs] at hl,fun n hn=>?_⟩
 obtain⟨m,e,hw⟩:=hk [PV.int .u8 n] (Rp.2 ⟨n,hn,rfl⟩)
 cases e
 simp[Lit.wf,IntKind.min,IntKind.max,IntKind.bits,IntKind.signed] at hw
 omega
end Go.Proofs.YtaopbokndkdieaaGreatDoor
