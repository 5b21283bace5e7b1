/-
  Contracts and lemmas that the card needs, part 8.
-/
import Derived.Test.YtaopbokndkdieaaGreatDoorCa7
namespace Go.Proofs.YtaopbokndkdieaaGreatDoor
open Go Go.Aw
set_option maxRecDepth 100000
set_option maxHeartbeats 4000000
section
variable (G:aM)
theorem IU(l:List Fd)(s:List UInt8)(hl:l.length≤1073741824):VF Tryz.prog G jO [.agg [.p (fdL l)],.p (.str s)] (.p (.int .i64 (ixI (ep l s)))):=by
 have hfl:∀l,fdL l= .lst 3 (l.map Fd.cs):=fun _=>rfl
 have eZ:∀f:Fd,AC Tryz.prog G gM [.agg (f.cs.map .p),.ptr 1 1 0 0] [.row 1 [[.p (fdL l)]],.row 1 [[.p (.str s)]]] fun x h=>x= .ret (.p (.bool (decide (f.name=s))))∧h=[.row 1 [[.p (fdL l)]],.row 1 [[.p (.str s)]]]:=by
  intro f
  have hcs:f.cs=[.str f.name,aC f.params,smL f.body]:=rfl
  refine AC.trim (AC.go yJ ?_) (by simp[below])
  simp-implicitDefEqProofs[ra,hcs]
 have idx:AC Tryz.prog G dN [.p (fdL l),.fn (.func gM) [.ptr 1 1 0 0]] [.row 1 [[.p (fdL l)]],.row 1 [[.p (.str s)]]] fun x h=>x= .ret (.p (.int .i64 (ixI (ep l s))))∧h=[.row 1 [[.p (fdL l)]],.row 1 [[.p (.str s)]]]:=by
  refine AC.go lL ?_
  simp-implicitDefEqProofs[fP,hfl]
  refine aV (fun i:Nat=>am 19 [(0,.p (fdL l)),(1,.fn (.func gM) [.ptr 1 1 0 0]),(7,.p (.int .i64 l.length)),(8,.p (.int .i64 i))]) (fun _=>[.row 1 [[.p (fdL l)]],.row 1 [[.p (.str s)]]]) (fun i=>i≤l.length∧∀f∈l.take i,f.name≠s) (fun i=>l.length-i) 0 (by simp) ?_ ?_
  ·exact ae (by simp) (by simp[okO,below]) (by simp[below,aj,hfl])
  ·intro i ⟨hi,hn⟩
   simp-implicitDefEqProofs[hfl]
   refine bf (fun h1=>?_) (fun h1=>?_)
   ·simp at h1
    have hg:=RA h1
    simp-implicitDefEqProofs[hg]
    refine(eZ l[i]).mono ?_
    rintro r h ⟨rfl,rfl⟩
    by_cases he:l[i].name=s
    ·have hf:ep l s=some i:=by
      rw[ep,Sa]
      exact⟨h1,by simpa using he,fun j hj=>by have:=hn l[j] (List.mem_take_iff_getElem.2 ⟨j,by omega,rfl⟩);simpa using this⟩
     simp-implicitDefEqProofs[aa,he,hf,ixI]
     exact hfl l
    ·simp-implicitDefEqProofs[aa,he]
     refine⟨i+1,⟨h1,fun p hp=>?_⟩,by omega,ae (h:=[.row 1 [[.p (fdL l)]],.row 1 [[.p (.str s)]]]) (by simp) (by simp[okO,below]) (by simp[below,aj,hfl,w1 (i:=i) (by omega)])⟩
     rw[an h1] at hp
     rcases RJ.1 hp with hp|hp
     ·exact hn p hp
     ·rw[RM.1 hp];exact he
   ·simp at h1
    rw[RG h1] at hn
    have hf:ep l s=none:=by
     rw[ep,So];intro x hx;simpa using hn x hx
    simp-implicitDefEqProofs[hf,ixI]
 refine AC.go BV ?_
 simp-implicitDefEqProofs[uE]
 refine idx.mono ?_
 rintro r h ⟨rfl,rfl⟩
 simp-implicitDefEqProofs[aa]
structure GS where (gap:List AO) (m:Scp)
def mpE(m:Scp):List (PV × AV):=m.map fun x=>(.str x.1,.p (.int .i64 x.2))
def scL:List GS→Nat
 |[]=>0
 |g::up=>scL up+g.gap.length+2
def upV:List GS→AV
 |[]=> .nilp
 |g::up=> .ptr (2+scL up+g.gap.length+1) 2 0 0
def scH:List GS→List AO
 |[]=>[]
 |g::up=>scH up++(g.gap++[.mp (mpE g.m),.row 2 [[.mp (2+scL up+g.gap.length),upV up]]])
theorem mr:∀ch:List GS,(scH ch).length=scL ch
 |[]=>rfl
 |g::up=>by simp only[scH,scL,RR,mr up,RW,List.length_nil];omega
def cO(fns:List Fd)(k:Nat)(c:Int):AO:= .row 3 [[.p (fdL fns),.p (.int .i64 k),.p (.int .i64 c)]]
def CH(b0:AO)(fns:List Fd)(k:Nat)(c:Int)(ch:List GS):List AO:=b0::cO fns k c::scH ch
theorem jn(b0:AO)(fns:List Fd)(k:Nat)(c:Int)(ch:List GS):(CH b0 fns k c ch).length=2+scL ch:=by
 simp only[CH,RW,mr];omega
def wH:List GS→Prop
 |[]=>True
 |g::up=>(∀o∈g.gap,okO (2+scL up+g.gap.length) o)∧wH up
theorem kN:∀(ch:List GS) {n:Nat},2+scL ch≤n→below n (upV ch)
 |[],_,_=>by simp[upV,below]
 |g::up,n,h=>by simp only[scL] at h;simp only[upV,below];omega
theorem Du:∀(ch:List GS) {n:Nat},wH ch→2+scL ch≤n→∀o∈scH ch,okO n o
 |[],_,_,_,o,ho=>by cases ho
 |g::up,n,⟨h1,h2⟩,hn,o,ho=>by
  simp only[scL] at hn
  rw[scH] at ho
  rcases RJ.1 ho with h|h
  ·exact Du up h2 (by omega) o h
  ·rcases RJ.1 h with h|h
   ·exact se (by omega) (h1 o h)
   ·simp only[RY,List.not_mem_nil,or_false] at h
    rcases h with rfl|rfl
    ·intro e he
     obtain⟨x,_,rfl⟩:=RU.1 he
     simp[below]
    ·intro e he
     rw[RM.1 he]
     exact⟨by simp only[below];omega,kN up (by omega),trivial⟩
theorem Cs{b0:AO}{fns:List Fd}{k:Nat}{c:Int}{ch:List GS}(hb:okO 0 b0)(hs:wH ch){n:Nat}(hn:2+scL ch≤n):∀o∈CH b0 fns k c ch,okO n o:=
 ag (bR hb) (ag (by intro e he;rw[RM.1 he];simp[below]) (Du ch hs hn))
theorem ti(s:List UInt8):∀m:Scp,iU (.str s) (mpE m)=some ((jw m s).map fun n=>AV.p (.int .i64 n))
 |[]=>rfl
 |x::r=>by
  have ih:=ti s r
  by_cases h:x.1=s
  ·simp[mpE,iU,keq,h,jw]
  ·have h':¬s=x.1:=fun e=>h e.symm
   simp only[mpE,Sb,iU,keq,h',decide_false]
   simp only[mpE] at ih
   rw[ih];simp[jw,h]
theorem xZ(s:List UInt8)(n:Nat):∀m:Scp,lh (.str s) (.p (.int .i64 n)) (mpE m)=some (mpE (kF m s n))
 |[]=>rfl
 |x::r=>by
  have ih:=xZ s n r
  by_cases h:x.1=s
  ·simp[mpE,lh,keq,h,kF]
  ·have h':¬s=x.1:=fun e=>h e.symm
   simp only[mpE,Sb,lh,keq,h',decide_false]
   simp only[mpE] at ih
   rw[ih];simp[kF,h]
abbrev sco(ch:List GS):List Scp:=ch.map GS.m
theorem Kh:∀(pre:List GS) (g:GS) (up:List GS),(scH (pre++g::up))[scL up+g.gap.length]?=some (.mp (mpE g.m))∧(scH (pre++g::up))[scL up+g.gap.length+1]?=some (.row 2 [[.mp (2+scL up+g.gap.length),upV up]])
 |[],g,up=>by
  have hl:(scH up++g.gap).length=scL up+g.gap.length:=by rw[RR,mr]
  have e:scH (g::up)=(scH up++g.gap)++[.mp (mpE g.m),.row 2 [[.mp (2+scL up+g.gap.length),upV up]]]:=by rw[scH,Sg]
  rw[List.nil_append,e]
  exact⟨by rw[←hl,RP (RN _)];simp,by rw[←hl,RP (by omega)];simp⟩
 |p::pre,g,up=>by
  obtain⟨h1,h2⟩:=Kh pre g up
  have hm1:=(RB.1 h1).1
  have hm2:=(RB.1 h2).1
  rw[Sj,scH]
  exact⟨by rw[RD hm1];exact h1,by rw[RD hm2];exact h2⟩
theorem DD(ch:List GS):(upV ch).isCell=true:=by cases ch<;>rfl
theorem FM(ch:List GS):(upV ch).cells=[upV ch]:=by cases ch<;>rfl
attribute [simp ↓] DD FM
theorem Ai(b0:AO)(fns:List Fd)(k:Nat)(c e:Int)(r:List AO):AC Tryz.prog G aK [.ptr 1 3 0 0,.p (.int .i64 e)] (b0::cO fns k c::r) fun x h=>x= .ret (.tup [])∧h=b0::cO fns k (fl c e)::r:=by
 refine AC.go qK ?_
 by_cases h0:c=0
 ·simp-implicitDefEqProofs[gC,cO,h0,fl]
 ·simp-implicitDefEqProofs[gC,cO,h0,fl]
theorem xy(up:AV)(hu:up= .nilp∨∃i,up= .ptr i 2 0 0)(h:List AO):AC Tryz.prog G bX [up] h fun x h'=>x= .ret (.ptr (h.length+1) 2 0 0)∧h'=h++[.mp [],.row 2 [[.mp h.length,up]]]:=by
 refine AC.go tx ?_
 rcases hu with rfl|⟨i,rfl⟩
 ·simp-implicitDefEqProofs[iN]
 ·simp-implicitDefEqProofs[iN]
theorem JL(b0 c0:AO)(ch:List GS)(rest:List AO)(s:List UInt8):AC Tryz.prog G cG [upV ch,.p (.str s)] (b0::c0::(scH ch++rest)) fun x h=>x= .ret (.tup [.p (.int .i64 (((iw (sco ch) s).getD 0:Nat):Int)),.p (.bool (iw (sco ch) s).isSome)])∧h=b0::c0::(scH ch++rest):=by
 refine AC.goB sr fun hb=>?_
 simp-implicitDefEqProofs[mt]
 have hHl:(b0::c0::(scH ch++rest)).length=2+scL ch+rest.length:=by simp only[RW,RR,mr];omega
 refine aV (fun r:List GS=>am 25 [(0,upV r),(1,.p (.str s))]) (fun _=>b0::c0::(scH ch++rest)) (fun r=>∃pre,ch=pre++r∧iw (sco ch) s=iw (sco r) s) (fun r=>r.length) ch ⟨[],rfl,rfl⟩ ?_ ?_
 ·refine ww (by simp) hb ?_
  rw[hHl]
  exact⟨⟨kN ch (by omega),by simp⟩,⟨by simp,by simp⟩,trivial⟩
 rintro r ⟨pre,e1,e2⟩
 cases r with
 |nil=>
  rw[e2]
  simp-implicitDefEqProofs[upV,iw]
 |cons g up=>
  obtain⟨a1,a2⟩:=Kh pre g up
  rw[←e1] at a1 a2
  have b1:=(RB.1 a1).1
  have b2:=(RB.1 a2).1
  have l1:(b0::c0::(scH ch++rest))[2+scL up+g.gap.length]?=some (.mp (mpE g.m)):=by
   rw[show 2+scL up+g.gap.length=(scL up+g.gap.length)+1+1 by omega,RK,RK,RD b1,a1]
  have l2:(b0::c0::(scH ch++rest))[2+scL up+g.gap.length+1]?=some (.row 2 [[.mp (2+scL up+g.gap.length),upV up]]):=by
   rw[show 2+scL up+g.gap.length+1=(scL up+g.gap.length+1)+1+1 by omega,RK,RK,RD b2,a2]
  have hmg:=ti s g.m
  have hle:=mr ch
  rw[e2]
  generalize hH:b0::c0::(scH ch++rest)=H at*
  have hup:upV (g::up)= .ptr (2+scL up+g.gap.length+1) 2 0 0:=rfl
  cases hh:jw g.m s with
  |some n=>
   rw[hh] at hmg
   simp-implicitDefEqProofs[hup,l1,l2,hmg,iw,hh]
  |none=>
   rw[hh] at hmg
   simp-implicitDefEqProofs[hup,l1,l2,hmg,iw,hh]
   refine⟨up,⟨⟨pre++[g],by rw[e1];simp⟩,rfl⟩,by simp,?_⟩
   refine ww ?_ hb ?_
   ·rw[hHl,mr];omega
   ·refine⟨⟨kN up ?_,?_⟩,⟨by simp,by simp⟩,trivial⟩
    ·rw[hHl]
     have:=congrArg List.length e1
     have h3:=(RB.1 l2).1
     rw[hHl] at h3
     omega
    ·simp
end
section
variable (G:aM)
theorem Mo{f:FuncId}{args:List AV}{h h1:List AO}{v:AV}(H:AC Tryz.prog G f args h fun x h'=>x= .ret v∧∃l,h'=h1++l)(hl:h1.length=h.length)(ho:∀o∈h1,okO h.length o)(hv:below h.length v):
 AC Tryz.prog G f args h fun x h'=>x= .ret v∧h'=h1:=by
 refine H.wk (fun t v h ⟨e,_⟩=>by cases e) ?_
 rintro u h' ⟨e,l,rfl⟩
 cases e
 refine⟨v,h1,xv (n:=h.length) (RN _) (eL ?_ hl ho) ?_,rfl,rfl⟩
 ·rw[←hl,List.take_left'];rfl
 ·simp[Fgt,hv]
theorem NI{f:FuncId}{args:List AV}{b0:AO}{fns:List Fd}{k:Nat}{c c':Int}{ch ch':List GS}{v:AV}(H:AC Tryz.prog G f args (CH b0 fns k c ch) fun x h=>x= .ret v∧h=CH b0 fns k c' ch')(hb:okO 0 b0)(hs:wH ch)(hl:scL ch'=scL ch)(rest:List AO)(ha:aj (2+scL ch) args):
 AC Tryz.prog G f args (CH b0 fns k c ch++rest) fun x h=>x= .ret v∧h=CH b0 fns k c' ch'++rest:=by
 refine(AC.pre H rest (by rw[jn];exact ha) (by rw[jn];exact Cs hb hs (RN _)) ?_).mono ?_
 ·rintro x h ⟨_,rfl⟩;rw[jn,jn,hl]
 ·rintro x h ⟨h1,⟨rfl,rfl⟩,rfl⟩
  exact⟨rfl,rfl⟩
def bxs(ch:List GS)(q:List AV):List AO:=[.row 1 [[.ptr 1 3 0 0]],.row 4 [q],.row 1 [[upV ch]]]
def qD(b0:AO)(fns:List Fd)(k:Nat)(ch:List GS)(q:List PV)(hb:okO 0 b0)(hs:wH ch):Vis Int where
 I:=fun c=>CH b0 fns k c ch++bxs ch (q.map .p)
 n:=2+scL ch+3
 F:=cS
 caps:=[.ptr (2+scL ch+2) 1 0 0,.ptr (2+scL ch) 1 0 0]
 len:=fun c=>by rw[RR,jn];rfl
 ok:=fun c o ho=>by
  rcases RJ.1 ho with h|h
  ·exact Cs hb hs (by omega) o h
  ·simp only[bxs,RY,List.not_mem_nil,or_false] at h
   rcases h with rfl|rfl|rfl
   ·intro e he;rw[RM.1 he];exact⟨by simp only[below];omega,trivial⟩
   ·intro e he;rw[RM.1 he];exact aW (Nat.zero_le _) _ (by simp)
   ·intro e he;rw[RM.1 he];exact⟨kN ch (by omega),trivial⟩
 capsOk:=by simp[below]
def eH(b0:AO)(fns:List Fd)(k:Nat)(ch:List GS)(q:List PV)(e:Ex)(c:Int):List AO:=b0::cO fns k c::(scH ch++(bxs ch (q.map .p)++[.row 4 [[.p (.int .i64 e.op),.p (.int .i64 e.n),.p (.str e.name),.p (exL e.kids)]]]))
section
variable {b0:AO} {fns:List Fd} {k:Nat} {ch:List GS} {q:List PV} {e:Ex} {c:Int}
theorem eH_eq{hb:okO 0 b0}{hs:wH ch}:(qD b0 fns k ch q hb hs).I c++[.row 4 [[.p (.int .i64 e.op),.p (.int .i64 e.n),.p (.str e.name),.p (exL e.kids)]]]=eH b0 fns k ch q e c:=by
 simp[qD,eH,CH]
theorem KH:(eH b0 fns k ch q e c)[1]?=some (.row 3 [[.p (fdL fns),.p (.int .i64 k),.p (.int .i64 c)]]):=rfl
theorem Kv(i:Nat):(eH b0 fns k ch q e c)[2+scL ch+i]?=(bxs ch (q.map .p)++[.row 4 [[.p (.int .i64 e.op),.p (.int .i64 e.n),.p (.str e.name),.p (exL e.kids)]]])[i]?:=by
 rw[eH,show 2+scL ch+i=(scL ch+i)+1+1 by omega,RK,RK]
 exact Lu (mr ch) i
theorem Gv:(eH b0 fns k ch q e c)[2+scL ch]?=some (.row 1 [[.ptr 1 3 0 0]]):=Kv 0
theorem PJ:(eH b0 fns k ch q e c)[2+scL ch+2]?=some (.row 1 [[upV ch]]):=Kv 2
theorem KB:(eH b0 fns k ch q e c)[2+scL ch+3]?=some (.row 4 [[.p (.int .i64 e.op),.p (.int .i64 e.n),.p (.str e.name),.p (exL e.kids)]]):=Kv 3
end
theorem JH{fns:List Fd}{s:List UInt8}{j:Nat}(h:ep fns s=some j):j<fns.length:=by
 rw[ep,Sa] at h;exact h.1
theorem Hj(b0:AO){fns:List Fd}{k:Nat}(hf:fns.length≤1073741824)(hk:k≤fns.length)(ch:List GS)(q:List PV)(hb:okO 0 b0)(hs:wH ch)(c:Int)(e:Ex)(he:e.sz≤1073741824):
 AC Tryz.prog G cS (.agg (e.cs.map .p)::(qD b0 fns k ch q hb hs).caps) ((qD b0 fns k ch q hb hs).I c) fun x h=>x= .ret (.tup [])∧h=(qD b0 fns k ch q hb hs).I (il fns k (sco ch) c e):=by
 refine(qD b0 fns k ch q hb hs).trim G (AC.go oz ?_) (by simp[below])
 have hec:=e.cs_eq
 have hlen:((qD b0 fns k ch q hb hs).I c).length=2+scL ch+3:=(qD b0 fns k ch q hb hs).len c
 have hcaps:(qD b0 fns k ch q hb hs).caps=[.ptr (2+scL ch+2) 1 0 0,.ptr (2+scL ch) 1 0 0]:=rfl
 have fin:∀c',(∃l,eH b0 fns k ch q e c'=(qD b0 fns k ch q hb hs).I c'++l):=fun c'=>⟨_,eH_eq.symm⟩
 have hfail:∀n,AC Tryz.prog G aK [.ptr 1 3 0 0,.p (.int .i64 n)] (eH b0 fns k ch q e c) fun x h=>x= .ret (.tup [])∧h=eH b0 fns k ch q e (fl c n):=fun n=>Ai G b0 fns k c n _
 have hkl:=bh e.kids
 have hsz:=e.sz_eq
 rw[hcaps]
 simp-implicitDefEqProofs[iZ,hec,hlen]
 rw[eH_eq]
 generalize hV:(qD b0 fns k ch q hb hs).I=VI at fin⊢
 by_cases o2:e.op=2
 ·have hfind:AC Tryz.prog G cG [upV ch,.p (.str e.name)] (eH b0 fns k ch q e c) fun x h=>x= .ret (.tup [.p (.int .i64 (((iw (sco ch) e.name).getD 0:Nat):Int)),.p (.bool (iw (sco ch) e.name).isSome)])∧h=eH b0 fns k ch q e c:=JL G b0 (cO fns k c) ch _ e.name
  simp-implicitDefEqProofs[o2,Gv,PJ,KB,KH]
  refine hfind.mono ?_
  rintro r h ⟨rfl,rfl⟩
  cases hfs:iw (sco ch) e.name with
  |some n=>
   have hv:il fns k (sco ch) c e=c:=by simp[il,o2,hfs]
   rw[hv]
   simp-implicitDefEqProofs[aa]
   exact fin c
  |none=>
   have hv:il fns k (sco ch) c e=fl c 3:=by simp[il,o2,hfs]
   rw[hv]
   simp-implicitDefEqProofs[aa,Gv]
   refine(hfail 3).mono ?_
   rintro r h ⟨rfl,rfl⟩
   simp-implicitDefEqProofs[aa]
   exact fin _
 by_cases o13:e.op=13
 ·have hfl:fdL fns= .lst 3 (fns.map Fd.cs):=rfl
  have hfk:fdL (fns.take k)= .lst 3 ((fns.map Fd.cs).take k):=by rw[←List.map_take];rfl
  have hxl:exL e.kids= .lst 4 (e.kids.map Ex.cs):=rfl
  have hAt:=IU G (fns.take k) e.name (by rw[RZ];omega)
  rw[hfk] at hAt
  simp-implicitDefEqProofs[o13,Gv,PJ,KB,KH,hfl,hk]
  refine hAt.use ?_
  cases hfa:ep (fns.take k) e.name with
  |none=>
   have hv:il fns k (sco ch) c e=fl c 4:=by simp[il,o13,hfa]
   rw[hv]
   simp-implicitDefEqProofs[ixI,Gv]
   refine(hfail 4).mono ?_
   rintro r h ⟨rfl,rfl⟩
   simp-implicitDefEqProofs[aa]
   exact fin _
  |some j=>
   have hj:=JH hfa
   rw[RZ] at hj
   have hjl:j<fns.length:=by omega
   have hg:=RA hjl
   have hjn:¬(j:Int)<0:=by omega
   have hcs:fns[j].cs=[.str fns[j].name,aC fns[j].params,smL fns[j].body]:=rfl
   have hst:aC fns[j].params= .lst 1 (fns[j].params.map fun w=>[.str w]):=rfl
   have hpn:yl fns j=fns[j].params.length:=by simp[yl,hg]
   by_cases hp:fns[j].params.length=e.kids.length
   ·have hv:il fns k (sco ch) c e=c:=by simp[il,o13,hfa,hpn,hp]
    rw[hv]
    simp-implicitDefEqProofs[ixI,Gv,KH,KB,hjn,hfl,hg,hcs,hst,hxl,hp]
    exact fin _
   ·have hv:il fns k (sco ch) c e=fl c 5:=by simp[il,o13,hfa,hpn,hp]
    have hp':¬(fns[j].params.length:Int)=(e.kids.length:Int):=by omega
    rw[hv]
    simp-implicitDefEqProofs[ixI,Gv,KH,KB,hjn,hfl,hg,hcs,hst,hxl,hp']
    refine(hfail 5).mono ?_
    rintro r h ⟨rfl,rfl⟩
    simp-implicitDefEqProofs[aa]
    exact fin _
 ·have hv:il fns k (sco ch) c e=c:=by simp[il,o2,o13]
  rw[hv]
  simp-implicitDefEqProofs[o2,o13,KB]
  exact fin _
theorem KW(ch:List GS):upV ch= .nilp∨∃i,upV ch= .ptr i 2 0 0:=by
 cases ch with
 |nil=>exact .inl rfl
 |cons g up=>exact .inr ⟨_,rfl⟩
theorem Nv(b0:AO){fns:List Fd}{k:Nat}(hf:fns.length≤1073741824)(hk:k≤fns.length)(ch:List GS)(hb:okO 0 b0)(hs:wH ch)(c:Int)(e:Ex)(he:e.sz≤1073741824):
 AC Tryz.prog G dt [.ptr 1 3 0 0,.agg (e.cs.map .p),upV ch] (CH b0 fns k c ch) fun x h=>x= .ret (.tup [])∧h=CH b0 fns k (e.pre.foldl (il fns k (sco ch)) c) ch:=by
 refine Mo G (h:=CH b0 fns k c ch) (AC.go qw ?_) (by rw[jn,jn]) (by rw[jn];exact Cs hb hs (RN _)) (by simp[below])
 have hec:=e.cs_eq
 have hlen:(CH b0 fns k c ch).length=2+scL ch:=jn _ _ _ _ _
 have hI:=(LS G (qD b0 fns k ch e.cs hb hs) (il fns k (sco ch)) (fun _=>True) 1073741824 (by omega) (fun st x _ hx=>⟨trivial,Hj G b0 hf hk ch e.cs hb hs st x hx⟩) (e.sz+1) e (by omega) he c trivial).2
 have hcaps:(qD b0 fns k ch e.cs hb hs).caps=[.ptr (2+scL ch+2) 1 0 0,.ptr (2+scL ch) 1 0 0]:=rfl
 have hF:(qD b0 fns k ch e.cs hb hs).F=cS:=rfl
 have hVI:(qD b0 fns k ch e.cs hb hs).I c=CH b0 fns k c ch++[.row 1 [[.ptr 1 3 0 0]],.row 4 [[.p (.int .i64 e.op),.p (.int .i64 e.n),.p (.str e.name),.p (exL e.kids)]],.row 1 [[upV ch]]]:=by simp[qD,bxs,hec]
 rw[hcaps,hF,hVI,hec] at hI
 have hup:=KW ch
 generalize upV ch=u at hI hup⊢
 rcases hup with rfl|⟨i,rfl⟩
 ·simp-implicitDefEqProofs[gz,hec,hlen]
  refine hI.mono ?_
  rintro r h ⟨rfl,rfl⟩
  simp-implicitDefEqProofs[aa]
  exact⟨_,rfl⟩
 ·simp-implicitDefEqProofs[gz,hec,hlen]
  refine hI.mono ?_
  rintro r h ⟨rfl,rfl⟩
  simp-implicitDefEqProofs[aa]
  exact⟨_,rfl⟩
end
section
def K_impl_checker_block:AK:= .seq (.reg [oM 14 1,oJ 15 (.len false (.t 14)),oK 16 0]) (.blk 0 (.loop (.seq (.reg [oJ 17 (.bin .lss (.t 16) (.t 15))]) (.seq (.cond (.t 17) (.skip) (.exit 0)) (.seq (.blk 1 (.seq (.reg [oJ 18 (.idxS 5 (.t 14) (.t 16)),oJ 19 (.ld (some 5) (.t 18)),oJ 7 (.alloc [(.p (.int .i64 0)),(.p (.str [])),.nils,.nils,.nils]),⟨none,none,.st 5 (.t 7) (.t 19)⟩]) (.seq (.seq (.reg [oF 20 2 7,oL 21 20,oJ 22 (.len false (.t 21)),oK 23 0]) (.blk 2 (.loop (.seq (.reg [oJ 24 (.bin .lss (.t 23) (.t 22))]) (.seq (.cond (.t 24) (.skip) (.exit 2)) (.seq (.blk 3 (.seq (.reg [oJ 25 (.idxS 4 (.t 21) (.t 23)),oJ 26 (.ld (some 4) (.t 25)),oJ 9 (.alloc [(.p (.int .i64 0)),(.p (.int .i64 0)),(.p (.str [])),.nils]),⟨none,none,.st 4 (.t 9) (.t 26)⟩]) (.reg [oM 27 0,oJ 28 (.ld (some 4) (.t 9)),oM 29 2,oJ 30 (.call dt [(.t 27),(.t 28),(.t 29)])]))) (.reg [oJ 31 (.bin .add (.t 23) (.c (.p (.int .i64 1)))),oM 23 31]))))))) (.cut (.seq (.reg [oF 32 0 7,oL 33 32]) (.blk 4 (.seq (.reg [oJ 35 (.bin .eql (.t 33) (.c (.p (.int .i64 1)))),oM 34 35]) (.cond (.t 34) (.seq (.seq (.reg [oM 37 2,oN 38 37,oF 39 0 38,oF 41 1 7,oL 40 39,oL 42 41,oJ 43 (.lk 1 (.p (.int .i64 0)) true (.t 40) (.t 42)),oM 36 43,oJ 44 (.ext 0 (.t 36)),oJ 45 (.ext 1 (.t 36)),oM 10 44,oM 11 45]) (.seq (.reg [oM 46 11]) (.cond (.t 46) (.reg [oM 47 0,oJ 48 (.call aK [(.t 47),(.c (.p (.int .i64 2)))])]) (.skip)))) (.reg [oM 49 2,oN 50 49,oF 51 0 50,oF 53 1 7,oL 52 51,oL 54 53,⟨none,none,.mup 1 (.t 52) (.t 54) (.c (.p (.int .i64 0)))⟩])) (.seq (.reg [oJ 56 (.bin .eql (.t 33) (.c (.p (.int .i64 2)))),oM 55 56]) (.cond (.t 55) (.seq (.reg [oM 58 2,oF 59 1 7,oL 60 59,oJ 61 (.call cG [(.t 58),(.t 60)]),oM 57 61,oJ 62 (.ext 0 (.t 57)),oJ 63 (.ext 1 (.t 57)),oM 12 62,oM 13 63]) (.seq (.reg [oM 64 13,oJ 65 (.not (.t 64))]) (.cond (.t 65) (.reg [oM 66 0,oJ 67 (.call aK [(.t 66),(.c (.p (.int .i64 3)))])]) (.skip)))) (.skip))))))) (.seq (.reg [oF 68 0 7,oL 69 68,oJ 70 (.bin .eql (.t 69) (.c (.p (.int .i64 5)))),oM 71 70,⟨(some 72),some (71,false),.fldA 0 (.t 7)⟩,⟨(some 73),some (71,false),.ld none (.t 72)⟩,⟨(some 74),some (71,false),.bin .eql (.t 73) (.c (.p (.int .i64 6)))⟩,oJ 75 (.pick (.t 71) (.c (.p (.bool true))) (.t 74))]) (.cond (.t 75) (.seq (.reg [oM 76 0,oF 77 3 7,oM 79 2,oL 78 77,oJ 80 (.call bX [(.t 79)]),⟨none,none,.chk none 77 78⟩,oJ 81 (.call bm [(.t 76),(.t 78),(.t 80)])]) (.reg [oM 82 0,oF 83 4 7,oM 85 2,oL 84 83,oJ 86 (.call bX [(.t 85)]),⟨none,none,.chk none 83 84⟩,oJ 87 (.call bm [(.t 82),(.t 84),(.t 86)])])) (.skip))))))) (.reg [oJ 88 (.bin .add (.t 16) (.c (.p (.int .i64 1)))),oM 16 88]))))))
theorem pq:K_impl_checker_block.whole=F_impl_checker_block.ak:=rfl
theorem Ck(fns:List Fd)(k:Nat):∀(a b:List Sm) (m:Scp) (up:List Scp) (c:Int),iV fns k (a++b) m up c=iV fns k b (iV fns k a m up c).1 up (iV fns k a m up c).2
 |[],b,m,up,c=>rfl
 |s::r,b,m,up,c=>by rw[Sj,iV,iV,Ck fns k r]
theorem FR{fns:List Fd}{k:Nat}{l:List Sm}{m:Scp}{up:List Scp}{c:Int}{i:Nat}(h:i<l.length):iV fns k (l.take (i+1)) m up c=icS fns k l[i] (iV fns k (l.take i) m up c).1 up (iV fns k (l.take i) m up c).2:=by
 rw[an h,Ck];rfl
def AX(b0:AO)(fns:List Fd)(k:Nat)(up:List GS)(gap:List AO)(c:Int):List AO:=b0::cO fns k c::(scH up++gap)
theorem Na(b0:AO)(fns:List Fd)(k:Nat)(up:List GS)(gap:List AO)(c:Int):(AX b0 fns k up gap c).length=2+scL up+gap.length:=by
 simp only[AX,RW,RR,mr];omega
theorem Kl(b0:AO)(fns:List Fd)(k:Nat)(up:List GS)(gap:List AO)(m:Scp)(c:Int)(rest:List AO):CH b0 fns k c (⟨gap,m⟩::up)++rest=AX b0 fns k up gap c++(.mp (mpE m):: .row 2 [[.mp (2+scL up+gap.length),upV up]]::rest):=by
 simp[CH,AX,scH]
theorem Kq(b0:AO)(fns:List Fd)(k:Nat)(up:List GS)(gap:List AO)(m:Scp)(c:Int):CH b0 fns k c (⟨gap,m⟩::up)=AX b0 fns k up gap c++[.mp (mpE m),.row 2 [[.mp (2+scL up+gap.length),upV up]]]:=by
 have:=Kl b0 fns k up gap m c []
 rwa[Ss] at this
theorem Pk{b0:AO}{fns:List Fd}{k:Nat}{up:List GS}{gap:List AO}(hb:okO 0 b0)(hs:wH up)(hg:∀o∈gap,okO (2+scL up+gap.length) o)(c:Int):∀o∈AX b0 fns k up gap c,okO (2+scL up+gap.length) o:=by
 refine ag (bR hb) (ag (by intro e he;rw[RM.1 he];simp[below]) ?_)
 intro o ho
 rcases RJ.1 ho with h|h
 ·exact Du up hs (by omega) o h
 ·exact hg o h
theorem vV{kk L n:Nat}{A r s:List AO}{l l1:List (Nat × AV)}(hl:A.length=L)(hk:kk≤L+r.length)(ha:∀o∈A,okO L o)(hr:∀o∈r,okO (L+r.length) o)(H:FgA (L+r.length) l l1):Wk kk (am n l) (A++(r++s)) (am n l1) (A++r):=by
 have hll:(A++r).length=L+r.length:=by rw[RR,hl]
 refine iz (m:=L+r.length) hk (eL ?_ hll ?_) H
 ·rw[←Sg,←hll,List.take_left'];rfl
 ·intro o ho
  rcases RJ.1 ho with h|h
  ·exact se (by omega) (ha o h)
  ·exact hr o h
theorem Cq(m:Scp)(n:Nat):okO n (.mp (mpE m)):=by
 intro e he
 obtain⟨x,_,rfl⟩:=RU.1 he
 simp[below]
variable (G:aM)
theorem Ls(b0:AO){fns:List Fd}{k:Nat}(hf:fns.length≤1073741824)(hk:k≤fns.length)(hb:okO 0 b0):∀(N:Nat) (l:List Sm),aq l<N→aq l≤1073741824→∀(gap:List AO) (m:Scp) (up:List GS) (c:Int),wH (⟨gap,m⟩::up)→
 AC Tryz.prog G bm [.ptr 1 3 0 0,.p (smL l),upV (⟨gap,m⟩::up)] (CH b0 fns k c (⟨gap,m⟩::up)) fun x h=>x= .ret (.tup [])∧h=CH b0 fns k (iV fns k l m (sco up) c).2 (⟨gap,(iV fns k l m (sco up) c).1⟩::up):=by
 intro N
 induction N with
 |zero=>intro l h;omega
 |succ N ih=>
  intro l hl hz gap m up c hs
  have hll:=bk l
  have hsl:∀l,smL l= .lst 5 (l.map Sm.cs):=fun _=>rfl
  have hs':∀m,wH (⟨gap,m⟩::up):=fun _=>hs
  have hscl:∀m,scL (⟨gap,m⟩::up)=scL up+gap.length+2:=fun _=>rfl
  refine Mo G (AC.goK po pq ?_) (by rw[jn,jn];rfl) (by rw[jn];exact Cs hb (hs' _) (by rw[hscl];exact Nat.le_of_eq (by rfl))) (by simp[below])
  have hup:upV (⟨gap,m⟩::up)= .ptr (2+scL up+gap.length+1) 2 0 0:=rfl
  have hlenC:∀c m,(CH b0 fns k c (⟨gap,m⟩::up)).length=2+scL up+gap.length+2:=fun c m=>by rw[jn,hscl];omega
  have hokC:∀c m,∀o∈CH b0 fns k c (⟨gap,m⟩::up),okO (2+scL up+gap.length+2) o:=fun c m=>Cs hb (hs' m) (by rw[hscl];omega)
  have hlenA:∀c,(AX b0 fns k up gap c).length=2+scL up+gap.length:=Na b0 fns k up gap
  simp-implicitDefEqProofs[K_impl_checker_block,F_impl_checker_block,hsl,hup]
  refine aV (fun i:Nat=>am 89 [(0,.ptr 1 3 0 0),(2,.ptr (2+scL up+gap.length+1) 2 0 0),(14,.p (smL l)),(15,.p (.int .i64 l.length)),(16,.p (.int .i64 i))])
   (fun i=>CH b0 fns k (iV fns k (l.take i) m (sco up) c).2 (⟨gap,(iV fns k (l.take i) m (sco up) c).1⟩::up)) (fun i=>i≤l.length) (fun i=>l.length-i) 0 (by simp) ?_ ?_
  ·refine ae (h:=CH b0 fns k c (⟨gap,m⟩::up)) (RN _) (by rw[hlenC];exact hokC _ _) ?_
   rw[hlenC]
   simp[below,hsl]
  intro i hi
  have eT:=fun h=>FR (fns:=fns) (k:=k) (l:=l) (m:=m) (up:=sco up) (c:=c) (i:=i) h
  rw[hlenC]
  generalize hst:iV fns k (l.take i) m (sco up) c=st at eT⊢
  obtain⟨mi,ci⟩:=st
  simp only at eT⊢
  simp-implicitDefEqProofs[hsl]
  refine bf (fun h=>?_) (fun h=>?_)
  ·simp at h
   have hg:=RA h
   have hse:=l[i].cs_eq
   have hsz:=l[i].sz_eq
   have hks:=bD (RH h)
   have eT:=eT h
   generalize l[i]=s at hg hse hsz hks eT
   obtain⟨o,nme,a,bd,el⟩:=s
   simp only[Sm.op,Sm.name,Sm.args,Sm.body,Sm.els] at hse hsz
   have hxl:exL a= .lst 4 (a.map Ex.cs):=rfl
   have hal:=bh a
   simp-implicitDefEqProofs[hg,hse,hlenC,hxl]
   have hexpr:∀(c:Int) (e:Ex) (rest:List AO),e.sz≤1073741824→AC Tryz.prog G dt [.ptr 1 3 0 0,.agg (e.cs.map .p),.ptr (2+scL up+gap.length+1) 2 0 0] (AX b0 fns k up gap c++(.mp (mpE mi):: .row 2 [[.mp (2+scL up+gap.length),upV up]]::rest)) fun x h=>x= .ret (.tup [])∧h=AX b0 fns k up gap (e.pre.foldl (il fns k (mi::sco up)) c)++(.mp (mpE mi):: .row 2 [[.mp (2+scL up+gap.length),upV up]]::rest):=by
    intro c e rest he
    have:=NI G (Nv G b0 hf hk (⟨gap,mi⟩::up) hb (hs' mi) c e he) hb (hs' mi) rfl rest (by refine⟨by simp only[below];omega,by simp,kN _ (RN _),trivial⟩)
    simp only[Kl] at this
    exact this
   have hfail:∀(c e:Int) (t:List AO),AC Tryz.prog G aK [.ptr 1 3 0 0,.p (.int .i64 e)] (AX b0 fns k up gap c++t) fun x h=>x= .ret (.tup [])∧h=AX b0 fns k up gap (fl c e)++t:=fun c e t=>Ai G b0 fns k c e _
   have hfind:∀(c:Int) (m:Scp) (s:List UInt8) (rest:List AO),AC Tryz.prog G cG [.ptr (2+scL up+gap.length+1) 2 0 0,.p (.str s)] (AX b0 fns k up gap c++(.mp (mpE m):: .row 2 [[.mp (2+scL up+gap.length),upV up]]::rest)) fun x h=>x= .ret (.tup [.p (.int .i64 (((iw (m::sco up) s).getD 0:Nat):Int)),.p (.bool (iw (m::sco up) s).isSome)])∧h=AX b0 fns k up gap c++(.mp (mpE m):: .row 2 [[.mp (2+scL up+gap.length),upV up]]::rest):=by
    intro c m s rest
    have:=JL G b0 (cO fns k c) (⟨gap,m⟩::up) rest s
    have e:b0::cO fns k c::(scH (⟨gap,m⟩::up)++rest)=CH b0 fns k c (⟨gap,m⟩::up)++rest:=rfl
    rw[e,Kl] at this
    exact this
   have hblk:∀(c:Int) (m2:Scp) (l':List Sm) (gap2:List AO),aq l'<N→aq l'≤1073741824→(∀o∈gap2,okO (2+scL up+gap.length+2+gap2.length) o)→
    AC Tryz.prog G bm [.ptr 1 3 0 0,.p (smL l'),.ptr (2+scL up+gap.length+2+gap2.length+1) 2 0 0] (AX b0 fns k up gap c++(.mp (mpE m2):: .row 2 [[.mp (2+scL up+gap.length),upV up]]::(gap2++[.mp [],.row 2 [[.mp (2+scL up+gap.length+2+gap2.length),.ptr (2+scL up+gap.length+1) 2 0 0]]])))
     fun x h=>x= .ret (.tup [])∧∃m',h=AX b0 fns k up gap (iV fns k l' [] (m2::sco up) c).2++(.mp (mpE m2):: .row 2 [[.mp (2+scL up+gap.length),upV up]]::(gap2++[.mp (mpE m'),.row 2 [[.mp (2+scL up+gap.length+2+gap2.length),.ptr (2+scL up+gap.length+1) 2 0 0]]])):=by
    intro c m2 l' gap2 h1 h2 h3
    have e1:2+scL (⟨gap,m2⟩::up)+gap2.length=2+scL up+gap.length+2+gap2.length:=by rw[hscl];omega
    have e2:∀c m',CH b0 fns k c (⟨gap2,m'⟩::⟨gap,m2⟩::up)=AX b0 fns k up gap c++(.mp (mpE m2):: .row 2 [[.mp (2+scL up+gap.length),upV up]]::(gap2++[.mp (mpE m'),.row 2 [[.mp (2+scL up+gap.length+2+gap2.length),.ptr (2+scL up+gap.length+1) 2 0 0]]])):=by
     intro c m'
     rw[←e1]
     simp[CH,AX,scH,upV]
    have:=ih l' h1 h2 gap2 [] (⟨gap,m2⟩::up) c ⟨by rw[e1];exact h3,hs' m2⟩
    rw[show upV (⟨gap2,[]⟩::⟨gap,m2⟩::up)= .ptr (2+scL up+gap.length+2+gap2.length+1) 2 0 0 by rw[←e1];rfl] at this
    rw[e2] at this
    refine this.mono ?_
    rintro x h ⟨hx,hh⟩
    exact⟨hx,(iV fns k l' [] (sco (⟨gap,m2⟩::up)) c).1,by rw[hh,e2];rfl⟩
   rw[Kq b0 fns k up gap mi ci,Sg]
   simp only[Sj,List.nil_append]
   have hokA:=Pk (fns:=fns) (k:=k) hb hs.2 hs.1
   generalize hL:2+scL up+gap.length=L at hexpr hfind hblk hlenA hlenC hokC hokA⊢
   have hR:okO (L+2) (.row 2 [[.mp L,upV up]]):=by
    intro e he;rw[RM.1 he]
    exact⟨by simp only[below];omega,kN up (by omega),trivial⟩
   have hX:okO 0 (.row 5 [[AV.p (.int .i64 o),.p (.str nme),.p (.lst 4 (a.map Ex.cs)),.p (smL bd),.p (smL el)]]):=by simp[okO]
   have ok3:∀(m:Scp),∀x∈[AO.mp (mpE m),.row 2 [[.mp L,upV up]],.row 5 [[AV.p (.int .i64 o),.p (.str nme),.p (.lst 4 (a.map Ex.cs)),.p (smL bd),.p (smL el)]]],okO (L+3) x:=fun m=>
    ag (Cq _ _) (ag (se (by omega) hR) (ag (bR hX) dQ))
   refine aV (fun j:Nat=>am 89 [(0,.ptr 1 3 0 0),(2,.ptr (L+1) 2 0 0),(7,.ptr (L+2) 5 0 0),(14,.p (smL l)),(15,.p (.int .i64 l.length)),(16,.p (.int .i64 i)),(21,.p (exL a)),(22,.p (.int .i64 a.length)),(23,.p (.int .i64 j))])
    (fun j=>AX b0 fns k up gap ((ff (a.take j)).foldl (il fns k (mi::sco up)) ci)++[.mp (mpE mi),.row 2 [[.mp L,upV up]],.row 5 [[AV.p (.int .i64 o),.p (.str nme),.p (.lst 4 (a.map Ex.cs)),.p (smL bd),.p (smL el)]]])
    (fun j=>j≤a.length) (fun j=>a.length-j) 0 (by simp) ?_ ?_
   ·refine vV (s:=[]) (hlenA _) (by simp) (hokA _) (ok3 _) ?_
    simp[below,hsl,hxl]
   intro j hj
   simp-implicitDefEqProofs[hxl]
   refine bf (fun hc=>?_) (fun hc=>?_)
   ·simp at hc
    have hga:=RA hc
    have hka:=aT (RH hc)
    have hkc:=a[j].cs_eq
    have hE:=hexpr ((ff (a.take j)).foldl (il fns k (mi::sco up)) ci) a[j] [.row 5 [[AV.p (.int .i64 o),.p (.str nme),.p (.lst 4 (a.map Ex.cs)),.p (smL bd),.p (smL el)]],.row 4 [[.p (.int .i64 a[j].op),.p (.int .i64 a[j].n),.p (.str a[j].name),.p (exL a[j].kids)]]] (by omega)
    rw[hkc] at hE
    simp-implicitDefEqProofs[hga,hkc,hlenA]
    refine hE.mono ?_
    rintro r h ⟨rfl,rfl⟩
    simp-implicitDefEqProofs[aa]
    refine⟨j+1,hc,by omega,?_⟩
    have hf2:(ff (a.take (j+1))).foldl (il fns k (mi::sco up)) ci=a[j].pre.foldl (il fns k (mi::sco up)) ((ff (a.take j)).foldl (il fns k (mi::sco up)) ci):=by
     rw[an hc,ny,List.foldl_append,ff,ff,Ss]
    rw[hf2]
    refine vV (r:=[_,_,_]) (s:=[_]) (hlenA _) (by simp) (hokA _) (ok3 _) ?_
    simp[below,hsl,hxl,w1 (i:=j) (by omega)]
   simp at hc
   have hje:j=a.length:=by omega
   subst hje
   rw[Sf]
   have hic:icS fns k ⟨o,nme,a,bd,el⟩ mi (sco up) ci=(opS o nme mi 0,if o=5∨o=6 then(iV fns k el [] (opS o nme mi 0::sco up) (iV fns k bd [] (opS o nme mi 0::sco up) (opC o nme mi (sco up) (DL fns k (mi::sco up) a ci))).2).2 else opC o nme mi (sco up) (DL fns k (mi::sco up) a ci)):=rfl
   rw[hic] at eT
   clear hic
   rw[show(ff a).foldl (il fns k (mi::sco up)) ci=DL fns k (mi::sco up) a ci from rfl]
   generalize DL fns k (mi::sco up) a ci=c1 at eT⊢
   simp-implicitDefEqProofs[]
   refine lp (am 89 [(0,.ptr 1 3 0 0),(2,.ptr (L+1) 2 0 0),(7,.ptr (L+2) 5 0 0),(14,.p (smL l)),(15,.p (.int .i64 l.length)),(16,.p (.int .i64 i))])
    (AX b0 fns k up gap (opC o nme mi (sco up) c1)++[.mp (mpE (opS o nme mi 0)),.row 2 [[.mp L,upV up]],.row 5 [[AV.p (.int .i64 o),.p (.str nme),.p (.lst 4 (a.map Ex.cs)),.p (smL bd),.p (smL el)]]]) ?_ ?_
   ·have fin:∀(r1:List (Nat × AV)) (c2:Int) (m2:Scp),Aw.look r1 0= .ptr 1 3 0 0→Aw.look r1 2= .ptr (L+1) 2 0 0→Aw.look r1 7= .ptr (L+2) 5 0 0→Aw.look r1 14= .p (smL l)→Aw.look r1 15= .p (.int .i64 l.length)→Aw.look r1 16= .p (.int .i64 i)→
     Wk (L+2) (am 89 r1) (AX b0 fns k up gap c2++[.mp (mpE m2),.row 2 [[.mp L,upV up]],.row 5 [[AV.p (.int .i64 o),.p (.str nme),.p (.lst 4 (a.map Ex.cs)),.p (smL bd),.p (smL el)]]])
      (am 89 [(0,.ptr 1 3 0 0),(2,.ptr (L+1) 2 0 0),(7,.ptr (L+2) 5 0 0),(14,.p (smL l)),(15,.p (.int .i64 l.length)),(16,.p (.int .i64 i))])
      (AX b0 fns k up gap c2++[.mp (mpE m2),.row 2 [[.mp L,upV up]],.row 5 [[AV.p (.int .i64 o),.p (.str nme),.p (.lst 4 (a.map Ex.cs)),.p (smL bd),.p (smL el)]]]):=by
     intro r1 c2 m2 e0 e2 e7 e14 e15 e16
     refine vV (s:=[]) (hlenA _) (by simp) (hokA _) (ok3 _) ?_
     simp[below,e0,e2,e7,e14,e15,e16]
    by_cases o1:o=1
    ·have hmg:=ti nme mi
     have hms:lh (.str nme) (.p (.int .i64 0)) (mpE mi)=some (mpE (kF mi nme 0)):=by simpa using xZ nme 0 mi
     have e2:opS o nme mi 0=kF mi nme 0:=if_pos o1
     rw[e2]
     cases hh:jw mi nme with
     |none=>
      have e1:opC o nme mi (sco up) c1=c1:=by rw[opC,if_pos o1,hh];rfl
      rw[hh] at hmg
      rw[e1]
      subst o1
      simp-implicitDefEqProofs[hlenA,hmg,hms]
      exact fin _ _ _ (by simp) (by simp) (by simp) (by simp[hsl]) (by simp) (by simp)
     |some n=>
      have e1:opC o nme mi (sco up) c1=fl c1 2:=by rw[opC,if_pos o1,hh];rfl
      rw[hh] at hmg
      rw[e1]
      subst o1
      simp-implicitDefEqProofs[hlenA,hmg,hms]
      refine(hfail c1 2 _).mono ?_
      rintro r h ⟨rfl,rfl⟩
      simp-implicitDefEqProofs[aa,hlenA,hms]
      exact fin _ _ _ (by simp) (by simp) (by simp) (by simp[hsl]) (by simp) (by simp)
    have e2:opS o nme mi 0=mi:=if_neg o1
    rw[e2]
    by_cases o2:o=2
    ·cases hh:iw (mi::sco up) nme with
     |none=>
      have e1:opC o nme mi (sco up) c1=fl c1 3:=by rw[opC,if_neg o1,if_pos o2,hh];rfl
      rw[e1]
      subst o2
      have hF:=hfind c1 mi nme [.row 5 [[AV.p (.int .i64 2),.p (.str nme),.p (.lst 4 (a.map Ex.cs)),.p (smL bd),.p (smL el)]]]
      rw[hh] at hF
      simp-implicitDefEqProofs[hlenA]
      refine hF.mono ?_
      rintro r h ⟨rfl,rfl⟩
      simp-implicitDefEqProofs[aa]
      refine(hfail c1 3 _).mono ?_
      rintro r h ⟨rfl,rfl⟩
      simp-implicitDefEqProofs[aa]
      exact fin _ _ _ (by simp) (by simp) (by simp) (by simp[hsl]) (by simp) (by simp)
     |some n=>
      have e1:opC o nme mi (sco up) c1=c1:=by rw[opC,if_neg o1,if_pos o2,hh];rfl
      rw[e1]
      subst o2
      have hF:=hfind c1 mi nme [.row 5 [[AV.p (.int .i64 2),.p (.str nme),.p (.lst 4 (a.map Ex.cs)),.p (smL bd),.p (smL el)]]]
      rw[hh] at hF
      simp-implicitDefEqProofs[hlenA]
      refine hF.mono ?_
      rintro r h ⟨rfl,rfl⟩
      simp-implicitDefEqProofs[aa]
      exact fin _ _ _ (by simp) (by simp) (by simp) (by simp[hsl]) (by simp) (by simp)
    ·have e1:opC o nme mi (sco up) c1=c1:=by rw[opC,if_neg o1,if_neg o2]
     rw[e1]
     simp-implicitDefEqProofs[hlenA,o1,o2]
     exact fin _ _ _ (by simp) (by simp) (by simp) (by simp[hsl]) (by simp) (by simp)
   generalize opC o nme mi (sco up) c1=c2 at eT⊢
   generalize opS o nme mi 0=m2 at eT⊢
   have hdrop:∀(r1:List (Nat × AV)) (c3:Int) (s:List AO),Aw.look r1 0= .ptr 1 3 0 0→Aw.look r1 2= .ptr (L+1) 2 0 0→Aw.look r1 14= .p (smL l)→Aw.look r1 15= .p (.int .i64 l.length)→Aw.look r1 16= .p (.int .i64 ((i:Int)+1))→
    Wk (L+2) (am 89 r1) (AX b0 fns k up gap c3++([.mp (mpE m2),.row 2 [[.mp L,upV up]]]++s)) (am 89 [(0,.ptr 1 3 0 0),(2,.ptr (L+1) 2 0 0),(14,.p (smL l)),(15,.p (.int .i64 l.length)),(16,.p (.int .i64 ((i:Int)+1)))]) (CH b0 fns k c3 (⟨gap,m2⟩::up)):=by
    intro r1 c3 s e0 e2 e14 e15 e16
    rw[Kq,hL]
    refine vV (hlenA _) (by simp) (hokA _) (ag (Cq _ _) (ag hR dQ)) ?_
    simp[below,e0,e2,e14,e15,e16]
   by_cases ho:o=5∨o=6
   ·rw[if_pos ho] at eT
    rcases ho with o5|o6
    ·subst o5
     simp-implicitDefEqProofs[hlenA]
     refine(xy G (.ptr (L+1) 2 0 0) (.inr ⟨_,rfl⟩) _).mono ?_
     rintro r h ⟨rfl,rfl⟩
     simp-implicitDefEqProofs[aa,hlenA]
     refine(hblk c2 m2 bd [_] (by omega) (by omega) (fun x hx=>by rw[RM.1 hx];exact bR (by simp[okO]))).mono ?_
     rintro r h ⟨rfl,m3,rfl⟩
     simp-implicitDefEqProofs[aa,hlenA]
     refine(xy G (.ptr (L+1) 2 0 0) (.inr ⟨_,rfl⟩) _).mono ?_
     rintro r h ⟨rfl,rfl⟩
     simp-implicitDefEqProofs[aa,hlenA]
     refine(hblk _ m2 el [_,_,_] (by omega) (by omega) (ag (bR (by simp[okO])) (ag (Cq _ _) (ag (by
      intro e he;rw[RM.1 he]
      exact⟨by simp only[below];simp,by simp only[below];simp,trivial⟩) dQ)))).mono ?_
     rintro r h ⟨rfl,m4,rfl⟩
     simp-implicitDefEqProofs[aa,hlenA]
     refine⟨i+1,by omega,by omega,?_⟩
     rw[eT]
     refine hdrop _ _ _ (by simp) (by simp) (by simp[hsl]) (by simp) (by simp[w1 (i:=i) (by omega)])
    ·subst o6
     simp-implicitDefEqProofs[hlenA]
     refine(xy G (.ptr (L+1) 2 0 0) (.inr ⟨_,rfl⟩) _).mono ?_
     rintro r h ⟨rfl,rfl⟩
     simp-implicitDefEqProofs[aa,hlenA]
     refine(hblk c2 m2 bd [_] (by omega) (by omega) (fun x hx=>by rw[RM.1 hx];exact bR (by simp[okO]))).mono ?_
     rintro r h ⟨rfl,m3,rfl⟩
     simp-implicitDefEqProofs[aa,hlenA]
     refine(xy G (.ptr (L+1) 2 0 0) (.inr ⟨_,rfl⟩) _).mono ?_
     rintro r h ⟨rfl,rfl⟩
     simp-implicitDefEqProofs[aa,hlenA]
     refine(hblk _ m2 el [_,_,_] (by omega) (by omega) (ag (bR (by simp[okO])) (ag (Cq _ _) (ag (by
      intro e he;rw[RM.1 he]
      exact⟨by simp only[below];simp,by simp only[below];simp,trivial⟩) dQ)))).mono ?_
     rintro r h ⟨rfl,m4,rfl⟩
     simp-implicitDefEqProofs[aa,hlenA]
     refine⟨i+1,by omega,by omega,?_⟩
     rw[eT]
     refine hdrop _ _ _ (by simp) (by simp) (by simp[hsl]) (by simp) (by simp[w1 (i:=i) (by omega)])
   ·rw[if_neg ho] at eT
    have o5:¬o=5:=fun h=>ho (.inl h)
    have o6:¬o=6:=fun h=>ho (.inr h)
    simp-implicitDefEqProofs[hlenA,o5,o6]
    refine⟨i+1,by omega,by omega,?_⟩
    rw[eT]
    refine hdrop _ _ [_] (by simp) (by simp) (by simp[hsl]) (by simp) (by simp[w1 (i:=i) (by omega)])
  ·simp at h
   have hie:i=l.length:=by omega
   subst hie
   rw[Sf] at hst
   rw[hst]
   simp-implicitDefEqProofs[]
end
section
def K_impl_CheckProgram:AK:= .seq (.reg [oJ 1 (.box 1 (.t 0)),oK 2 0]) (.seq (.seq (.reg [oJ 11 (.ld (some 1) (.t 1)),oJ 12 (.call eI [(.t 11)]),oJ 13 (.not (.t 12))]) (.cond (.t 13) (.seq (.reg [oK 2 1]) (.ret)) (.skip))) (.seq (.reg [oJ 14 (.ld (some 1) (.t 1)),oJ 15 (.bld [.nils,(.p (.int .i64 0)),(.p (.int .i64 0))] [(0,1,(.t 14))]),oJ 16 (.box 3 (.t 15)),oM 3 16]) (.seq (.seq (.reg [oF 17 0 1,oL 18 17,oJ 19 (.len false (.t 18)),oK 20 0]) (.blk 0 (.loop (.seq (.reg [oJ 21 (.bin .lss (.t 20) (.t 19))]) (.seq (.cond (.t 21) (.skip) (.exit 0)) (.seq (.blk 1 (.seq (.reg [oM 22 20,oJ 23 (.idxS 3 (.t 18) (.t 20)),oJ 24 (.ld (some 3) (.t 23)),oJ 5 (.alloc [(.p (.str [])),.nils,.nils]),oM 4 22,⟨none,none,.st 3 (.t 5) (.t 24)⟩]) (.seq (.reg [oM 25 3,oM 26 4,oN 27 25,oF 28 1 27,oS 28 26]) (.cut (.seq (.reg [oJ 29 (.ld (some 1) (.t 1)),oF 30 0 5,oL 31 30,oJ 32 (.call jO [(.t 29),(.t 31)]),oM 33 4,oJ 34 (.bin .lss (.t 32) (.t 33))]) (.cond (.t 34) (.reg [oM 35 3,oJ 36 (.call aK [(.t 35),(.c (.p (.int .i64 2)))])]) (.skip))) (.seq (.reg [oJ 37 (.call bX [(.c .nilp)]),oM 6 37]) (.seq (.seq (.reg [oF 38 1 5,oL 39 38,oJ 40 (.len false (.t 39)),oK 41 0]) (.blk 2 (.loop (.seq (.reg [oJ 42 (.bin .lss (.t 41) (.t 40))]) (.seq (.cond (.t 42) (.skip) (.exit 2)) (.seq (.blk 3 (.seq (.reg [oJ 43 (.idxS 1 (.t 39) (.t 41)),oL 44 43,oM 8 44]) (.seq (.seq (.reg [oM 46 6,oN 47 46,oF 48 0 47,oL 49 48,oM 50 8,oJ 51 (.lk 1 (.p (.int .i64 0)) true (.t 49) (.t 50)),oM 45 51,oJ 52 (.ext 0 (.t 45)),oJ 53 (.ext 1 (.t 45)),oM 9 52,oM 10 53]) (.seq (.reg [oM 54 10]) (.cond (.t 54) (.reg [oM 55 3,oJ 56 (.call aK [(.t 55),(.c (.p (.int .i64 2)))])]) (.skip)))) (.reg [oM 57 6,oN 58 57,oF 59 0 58,oL 60 59,oM 61 8,⟨none,none,.mup 1 (.t 60) (.t 61) (.c (.p (.int .i64 0)))⟩])))) (.reg [oJ 62 (.bin .add (.t 41) (.c (.p (.int .i64 1)))),oM 41 62]))))))) (.reg [oM 63 3,oF 64 2 5,oL 65 64,oM 66 6,oJ 67 (.call bm [(.t 63),(.t 65),(.t 66)])]))))))) (.reg [oJ 68 (.bin .add (.t 20) (.c (.p (.int .i64 1)))),oM 20 68]))))))) (.seq (.reg [oM 69 3,oN 70 69,oF 71 2 70,oL 72 71,oM 2 72]) (.ret)))))
theorem qz:K_impl_CheckProgram.whole=F_impl_CheckProgram.ak:=rfl
theorem yV(fns:List Fd):∀(a b:List Fd) (k:Nat) (c:Int),lq fns k (a++b) c=lq fns (k+a.length) b (lq fns k a c)
 |[],b,k,c=>rfl
 |f::r,b,k,c=>by rw[Sj,lq,lq,yV fns r];congr 1;simp only[RW];omega
theorem CX{fns l:List Fd}{i:Nat}{c:Int}(h:i<l.length):lq fns 0 (l.take (i+1)) c=icF fns i l[i] (lq fns 0 (l.take i) c):=by
 rw[an h,yV,RZ,Nat.min_eq_left (Nat.le_of_lt h),Su];rfl
theorem Jx(a b:List (List UInt8))(m:Scp)(c:Int):mD (a++b) m c=mD b (mD a m c).1 (mD a m c).2:=by simp[mD]
theorem FC{l:List (List UInt8)}{i:Nat}{m:Scp}{c:Int}(h:i<l.length):mD (l.take (i+1)) m c=(kF (mD (l.take i) m c).1 l[i] 0,if(jw (mD (l.take i) m c).1 l[i]).isSome then fl (mD (l.take i) m c).2 2 else(mD (l.take i) m c).2):=by
 rw[an h,Jx];rfl
variable (G:aM) (hK:G dV=some dO) (hS:G cd=some [.tbl opK opV])
include hK hS
theorem xY(l:List Fd)(hl:aJ l≤1073741824):VF Tryz.prog G gu [.agg [.p (fdL l)]] (.p (.int .i64 (aI l))):=by
 have hll:=cW l
 have hfl:∀l,fdL l= .lst 3 (l.map Fd.cs):=fun _=>rfl
 rw[DV]
 refine AC.goK qA qz ?_
 simp-implicitDefEqProofs[K_impl_CheckProgram,F_impl_CheckProgram]
 refine(xL G hK hS l hl).use ?_
 by_cases hv:bq l=true
 case neg=>
  have hv':bq l=false:=by simpa using hv
  simp-implicitDefEqProofs[hv']
 rw[if_pos hv]
 simp-implicitDefEqProofs[hv,hfl]
 refine aV (fun i:Nat=>am 73 [(1,.ptr 0 1 0 0),(3,.ptr 1 3 0 0),(18,.p (fdL l)),(19,.p (.int .i64 l.length)),(20,.p (.int .i64 i))])
  (fun i=>[.row 1 [[.p (fdL l)]],cO l (i-1) (lq l 0 (l.take i) 0)]) (fun i=>i≤l.length) (fun i=>l.length-i) 0 (by simp) ?_ ?_
 ·refine ae (h:=[.row 1 [[.p (fdL l)]],cO l 0 0]) (by simp) (by simp[okO,below,cO]) (by simp[below,hfl])
 intro i hi
 have hbo:okO 0 (.row 1 [[.p (fdL l)]]):=by simp[okO]
 simp-implicitDefEqProofs[hfl]
 refine bf (fun h=>?_) (fun h=>?_)
 ·simp at h
  have hg:=RA h
  have hks:=cJ (RH h)
  have eT:=CX (fns:=l) (c:=0) h
  obtain⟨j,ej,ejl⟩:=zB hg
  generalize l[i]=f at*
  have hcs:f.cs=[.str f.name,aC f.params,smL f.body]:=rfl
  have hfz:f.sz=1+f.name.length+(f.params.length+(f.params.map List.length).sum)+aq f.body:=rfl
  have hst:aC f.params= .lst 1 (f.params.map fun w=>[.str w]):=rfl
  generalize lq l 0 (l.take i) 0=c0 at eT⊢
  simp-implicitDefEqProofs[hg,hcs,cO]
  have hic:icF l i f c0=(iV l i f.body (mD f.params [] (if j<i then fl c0 2 else c0)).1 [] (mD f.params [] (if j<i then fl c0 2 else c0)).2).2:=by
   rw[icF,ej];simp
  rw[hic] at eT
  clear hic
  refine lp (am 73 [(1,.ptr 0 1 0 0),(3,.ptr 1 3 0 0),(4,.p (.int .i64 i)),(5,.ptr 2 3 0 0),(18,.p (fdL l)),(19,.p (.int .i64 l.length)),(20,.p (.int .i64 i))])
   [.row 1 [[.p (fdL l)]],cO l i (if j<i then fl c0 2 else c0),.row 3 [[.p (.str f.name),.p (aC f.params),.p (smL f.body)]]] ?_ ?_
  ·simp-implicitDefEqProofs[]
   refine(IU G l f.name (by omega)).use ?_
   rw[ej]
   by_cases hj:j<i
   ·have hj':(j:Int)<(i:Int):=by omega
    rw[if_pos hj]
    simp-implicitDefEqProofs[ixI,hj']
    refine(Ai G (.row 1 [[.p (fdL l)]]) l i c0 2 [.row 3 [[.p (.str f.name),.p (aC f.params),.p (smL f.body)]]]).mono ?_
    rintro r h ⟨rfl,rfl⟩
    simp-implicitDefEqProofs[aa]
    exact ae (by simp) (by simp[okO,below,cO]) (by simp[below,hfl])
   ·have hj':¬(j:Int)<(i:Int):=by omega
    rw[if_neg hj]
    simp-implicitDefEqProofs[ixI,hj']
    exact ae (h:=[.row 1 [[.p (fdL l)]],cO l i c0,.row 3 [[.p (.str f.name),.p (aC f.params),.p (smL f.body)]]]) (by simp) (by simp[okO,below,cO]) (by simp[below,hfl])
  generalize (if j<i then fl c0 2 else c0)=c1 at eT⊢
  have hCH:∀(c:Int) (m:Scp),CH (.row 1 [[.p (fdL l)]]) l i c [⟨[.row 3 [[.p (.str f.name),.p (aC f.params),.p (smL f.body)]]],m⟩]=[.row 1 [[.p (fdL l)]],cO l i c,.row 3 [[.p (.str f.name),.p (aC f.params),.p (smL f.body)]],.mp (mpE m),.row 2 [[.mp 3,.nilp]]]:=fun _ _=>rfl
  simp-implicitDefEqProofs[]
  refine(xy G .nilp (.inl rfl) _).mono ?_
  rintro r h ⟨rfl,rfl⟩
  simp-implicitDefEqProofs[aa,hst]
  refine aV (fun q:Nat=>am 73 [(1,.ptr 0 1 0 0),(3,.ptr 1 3 0 0),(4,.p (.int .i64 i)),(5,.ptr 2 3 0 0),(6,.ptr 4 2 0 0),(18,.p (fdL l)),(19,.p (.int .i64 l.length)),(20,.p (.int .i64 i)),(39,.p (aC f.params)),(40,.p (.int .i64 f.params.length)),(41,.p (.int .i64 q))])
   (fun q=>[.row 1 [[.p (fdL l)]],cO l i (mD (f.params.take q) [] c1).2,.row 3 [[.p (.str f.name),.p (aC f.params),.p (smL f.body)]],.mp (mpE (mD (f.params.take q) [] c1).1),.row 2 [[.mp 3,.nilp]]])
   (fun q=>q≤f.params.length) (fun q=>f.params.length-q) 0 (by simp) ?_ ?_
  ·exact ae (h:=[.row 1 [[.p (fdL l)]],cO l i c1,.row 3 [[.p (.str f.name),.p (aC f.params),.p (smL f.body)]],.mp [],.row 2 [[.mp 3,.nilp]]]) (by simp) (by simp[okO,below,cO]) (by simp[below,hfl,hst])
  intro q hq
  have eP:=fun h=>FC (l:=f.params) (i:=q) (m:=[]) (c:=c1) h
  generalize hP:mD (f.params.take q) [] c1=st at eP⊢
  obtain⟨mq,cq⟩:=st
  simp only at eP⊢
  simp-implicitDefEqProofs[hst]
  refine bf (fun hc=>?_) (fun hc=>?_)
  ·simp at hc
   have hga:=RA hc
   have eP:=eP hc
   generalize f.params[q]=nme at hga eP
   have hmg:=ti nme mq
   have hms:lh (.str nme) (.p (.int .i64 0)) (mpE mq)=some (mpE (kF mq nme 0)):=by simpa using xZ nme 0 mq
   have fin:∀(r1:List (Nat × AV)) (c2:Int),Aw.look r1 1= .ptr 0 1 0 0→Aw.look r1 3= .ptr 1 3 0 0→Aw.look r1 4= .p (.int .i64 i)→Aw.look r1 5= .ptr 2 3 0 0→Aw.look r1 6= .ptr 4 2 0 0→Aw.look r1 18= .p (fdL l)→Aw.look r1 19= .p (.int .i64 l.length)→Aw.look r1 20= .p (.int .i64 i)→Aw.look r1 39= .p (aC f.params)→Aw.look r1 40= .p (.int .i64 f.params.length)→Aw.look r1 41= .p (.int .i64 ((q:Int)+1))→
    Wk 0 (am 73 r1) [.row 1 [[.p (fdL l)]],cO l i c2,.row 3 [[.p (.str f.name),.p (aC f.params),.p (smL f.body)]],.mp (mpE (kF mq nme 0)),.row 2 [[.mp 3,.nilp]]]
     (am 73 [(1,.ptr 0 1 0 0),(3,.ptr 1 3 0 0),(4,.p (.int .i64 i)),(5,.ptr 2 3 0 0),(6,.ptr 4 2 0 0),(18,.p (fdL l)),(19,.p (.int .i64 l.length)),(20,.p (.int .i64 i)),(39,.p (aC f.params)),(40,.p (.int .i64 f.params.length)),(41,.p (.int .i64 ((q:Int)+1)))])
     [.row 1 [[.p (fdL l)]],cO l i c2,.row 3 [[.p (.str f.name),.p (aC f.params),.p (smL f.body)]],.mp (mpE (kF mq nme 0)),.row 2 [[.mp 3,.nilp]]]:=by
    intro r1 c2 e1 e3 e4 e5 e6 e18 e19 e20 e39 e40 e41
    refine ae (by simp) (ag (by simp[okO]) (ag (by simp[okO,cO]) (ag (by simp[okO]) (ag (Cq _ _) (ag (by simp[okO,below]) dQ))))) ?_
    simp[below,e1,e3,e4,e5,e6,e18,e19,e20,e39,e40,e41]
   cases hh:jw mq nme with
   |none=>
    rw[hh] at hmg eP
    simp-implicitDefEqProofs[hga,hmg,hms]
    refine⟨q+1,by omega,by omega,?_⟩
    rw[eP]
    exact fin _ _ (by simp) (by simp) (by simp) (by simp) (by simp) (by simp[hfl]) (by simp) (by simp) (by simp[hst]) (by simp) (by simp[w1 (i:=q) (by omega)])
   |some n=>
    rw[hh] at hmg eP
    simp-implicitDefEqProofs[hga,hmg,hms]
    refine(Ai G (.row 1 [[.p (fdL l)]]) l i cq 2 _).mono ?_
    rintro r h ⟨rfl,rfl⟩
    simp-implicitDefEqProofs[aa,hms]
    refine⟨q+1,by omega,by omega,?_⟩
    rw[eP]
    exact fin _ _ (by simp) (by simp) (by simp) (by simp) (by simp) (by simp[hfl]) (by simp) (by simp) (by simp[hst]) (by simp) (by simp[w1 (i:=q) (by omega)])
  ·simp at hc
   have hqe:q=f.params.length:=by omega
   subst hqe
   rw[Sf] at hP
   rw[hP] at eT
   simp only at eT
   have hB:=Ls G (.row 1 [[.p (fdL l)]]) (fns:=l) (k:=i) (by omega) (by omega) hbo (aq f.body+1) f.body (by omega) (by omega) [.row 3 [[.p (.str f.name),.p (aC f.params),.p (smL f.body)]]] mq [] cq ⟨by simp[okO],trivial⟩
   rw[hCH] at hB
   simp-implicitDefEqProofs[]
   refine hB.mono ?_
   rintro r h ⟨rfl,rfl⟩
   simp-implicitDefEqProofs[aa]
   refine⟨i+1,by omega,by omega,?_⟩
   rw[eT]
   refine iz (m:=2) (by omega) (eL rfl rfl (by simp[okO,below,cO])) (by simp[below,hfl,w1 (i:=i) (by omega)])
 ·simp at h
  have hie:i=l.length:=by omega
  subst hie
  rw[Sf]
  simp-implicitDefEqProofs[cO]
end
section
variable (G:aM)
theorem wz(l:List Fd)(hz:aJ l≤1073741824):VF Tryz.prog G jH [.agg [.p (fdL l)]] (.p (.bool (decide (aI l=0)))):=by
 refine AC.go yM ?_
 simp-implicitDefEqProofs[rj]
 refine(wl G l hz).use ?_
 simp-implicitDefEqProofs[]
variable (hK:G dV=some dO) (hS:G cd=some [.tbl opK opV])
include hK hS
theorem tG(l:List Fd)(hz:aJ l≤1073741824):VF Tryz.prog G jQ [.agg [.p (fdL l)]] (.p (.bool (decide (aI l=0)))):=by
 refine AC.go Bs ?_
 simp-implicitDefEqProofs[uI]
 refine(xY G hK hS l hz).use ?_
 simp-implicitDefEqProofs[]
end
section
def bw{σ α β:Type}(g:σ→α→β × σ):σ→List α→List β × σ
 |st,[]=>([],st)
 |st,x::r=>((g st x).1::(bw g (g st x).2 r).1,(bw g (g st x).2 r).2)
theorem Bq{σ α β:Type}(g:σ→α→β × σ):∀(a b:List α) (st:σ),bw g st (a++b)=((bw g st a).1++(bw g (bw g st a).2 b).1,(bw g (bw g st a).2 b).2)
 |[],b,st=>rfl
 |x::r,b,st=>by rw[Sj,bw,Bq g r];rfl
theorem qf{σ α β:Type}{g:σ→α→β × σ}{l:List α}{st:σ}{i:Nat}(h:i<l.length):bw g st (l.take (i+1))=((bw g st (l.take i)).1++[(g (bw g st (l.take i)).2 l[i]).1],(g (bw g st (l.take i)).2 l[i]).2):=by
 rw[an h,Bq];rfl
theorem pc{σ α β:Type}(g:σ→α→β × σ):∀(l:List α) (st:σ),(bw g st l).1.length=l.length
 |[],st=>rfl
 |x::r,st=>by rw[bw,RW,RW,pc g r]
theorem pA{σ α β:Type}{g:σ→α→β × σ}{inv:Nat→σ→Prop}:∀{l:List α} {st:σ} {k:Nat},inv k st→(∀(i:Nat) st (h:i<l.length),inv (k+i) st→inv (k+i+1) (g st l[i]).2)→∀i,i≤l.length→inv (k+i) (bw g st (l.take i)).2
 |[],st,k,h0,_,i,hi=>by
  have:i=0:=by simpa using hi
  subst this;exact h0
 |x::r,st,k,h0,hs,0,_=>h0
 |x::r,st,k,h0,hs,i+1,hi=>by
  have h1:=hs 0 st (by simp) h0
  have:=pA (g:=g) (l:=r) (st:=(g st x).2) (k:=k+1) h1 (fun j st hj hv=>by
   have:=hs (j+1) st (by simp;omega) (by rw[show k+(j+1)=k+1+j by omega];exact hv)
   rw[show k+(j+1)+1=k+1+j+1 by omega] at this
   exact this) i (by simpa using hi)
  rw[List.take_succ_cons,bw,show k+(i+1)=k+1+i by omega]
  exact this
theorem Nr{n k:Nat}{A:List AO}{π:List Nat}{h r1:List AO}(hl:A.length=n)(ha:∀o∈A,okO n o)(hh:∀i,i<n→h[i]?=A[i]?)(ρ:List Nat)(hρ:∀i,i<n→ρ.getD i 0=i)(hρn:n≤ρ.length)(hk:k=n)(hr:HW ρ h π r1):HW ρ h (List.range' 0 k++π) (A++r1):=by
 subst hk
 have key:∀(B:List AO) (s:Nat),(∀i:Nat,B[i]?=h[s+i]?∨B.length≤i)→s+B.length=k→(∀o∈B,okO k o)→HW ρ h (List.range' s B.length++π) (B++r1):=by
  intro B
  induction B with
  |nil=>intro s _ _ _;exact hr
  |cons o r ih=>
   intro s hb hs ho
   rw[RW,List.range'_succ]
   have h0:h[s]?=some o:=by
    rcases hb 0 with h0|h0
    ·simpa using h0.symm
    ·simp at h0
   have hok:=ho o (by simp)
   have ih:=ih (s+1) (fun i=>by
    rcases hb (i+1) with h1|h1
    ·rw[RK] at h1;left;rw[h1];congr 1;omega
    ·right;simpa using h1) (by simp at hs;omega) (fun o ho'=>ho o (by simp[ho']))
   have hsl:=(RB.1 h0).1
   cases o with
   |dead=>exact fL hsl ih
   |row sz es=>
    refine cU (fun x hx=>aW hρn _ (hok x hx)) ?_ ih
    rw[h0,RT (g:=id) fun x hx=>kV hρ x (hok x hx)];simp
   |mp es=>exact⟨hsl,⟨fun x hx=>by exact(aW hρn [x.2] ⟨hok x hx,trivial⟩).1,by rw[h0,RT (g:=id) fun x hx=>by rw[kE hρ x.2 (hok x hx)];rfl];simp⟩,ih⟩
   |sit s p=>exact⟨hsl,h0,ih⟩
 have:=key A 0 (fun i=>by
  rcases Sl i A.length with hi|hi
  ·left;rw[Su];exact(hh i (by omega)).symm
  ·right;exact hi) (by omega) ha
 rwa[hl] at this
theorem Az{kk q n m d sz c:Nat}{A mid s:List AO}{es:List (List AV)}{l l1:List (Nat × AV)}(hl:A.length=n)(hm:mid.length=m)(hk:kk≤n)(ha:∀o∈A,okO n o)(he:∀x∈es,aj 0 x)(H:FgA n l l1)(hd:Aw.look l d= .sl (n+m) sz 0 c):
 Wk kk (am q l) (A++(mid++ .row sz es::s)) (am q ((d,.sl n sz 0 c)::l1)) (A++[.row sz es]):=by
 have hρ:∀i,i<n→(List.range' 0 n++[n+m]).getD i 0=i:=fun i hi=>by
  rw[RO,RD (by simp;exact hi)];simp[hi]
 have hρn:(List.range' 0 n++[n+m]).getD n 0=n+m:=by
  rw[RO,RP (by simp)];simp
 refine bT (List.range' 0 n++[n+m]) (by simp;omega) (fun i hi=>hρ i (by omega)) ?_ ?_ ?_
 ·refine Sr.2 ⟨List.nodup_range',by simp,fun a ha b hb e=>?_⟩
  rw[RM] at hb
  have:=(List.mem_range'_1.1 ha).2
  omega
 ·refine Nr hl ha (fun i hi=>by rw[RD (by omega)]) _ hρ (by simp) rfl ?_
  refine aG ?_ he br
  rw[RP (by omega),hl,SE,RP (by omega),hm,Nat.sub_self];rfl
 ·refine⟨⟨by simp only[below];simp,by simp only[ren,hρn];exact hd.symm⟩,?_⟩
  clear hd
  induction l1 with
  |nil=>trivial
  |cons x r ih=>
   obtain⟨⟨a,c⟩,e⟩:=H
   exact⟨⟨(aW (by simp) [x.2] ⟨a,trivial⟩).1,by rw[kE hρ _ a,c]⟩,ih e⟩
theorem sM{hF:List AO}{n:Nat}:∀{A r:List AO},(∀o∈A,okO n o)→FzO hF n (A++r) A
 |[],r,_=> .nil r
 |o::a,r,h=> .same (h o (by simp)) (sM fun o ho=>h o (by simp[ho]))
theorem vM{n:Nat}{A r:List AO}{o:AO}(hl:A.length=n):(tail n (A++o::r))[n]?=some o:=by
 unfold tail
 rw[RP (by simp),List.length_replicate,Nat.sub_self,←hl,List.drop_left']
 ·rfl
 ·rfl
variable (G:aM)
theorem mY{σ:Type}(V:Vis σ)(g:σ→Ex→Ex × σ)(inv:Nat→σ→Prop)(l:List Ex)(hb:l.length≤1073741824)(hn:0<V.n)
 (hv:∀(i:Nat) st (h:i<l.length),inv i st→inv (i+1) (g st l[i]).2∧AC Tryz.prog G V.F (.agg (l[i].cs.map .p)::V.caps) (V.I st) fun x h'=>x= .ret (.agg ((g st l[i]).1.cs.map .p))∧h'=V.I (g st l[i]).2)(st:σ)(h0:inv 0 st):
 AC Tryz.prog G aR [.p (exL l),.fn (.func V.F) V.caps] (V.I st) fun x h=>x= .ret (.p (exL (bw g st l).1))∧h=V.I (bw g st l).2:=by
 have hxl:∀l,exL l= .lst 4 (l.map Ex.cs):=fun _=>rfl
 have hlen:=V.len
 have hcb:=V.capsOk
 have hinv:∀i,i≤l.length→inv i (bw g st (l.take i)).2:=fun i hi=>by
  have:=pA (g:=g) (inv:=inv) (l:=l) (st:=st) (k:=0) h0 (fun i st h hi=>by
   rw[Su] at hi⊢;exact(hv i st h hi).1) i hi
  rwa[Su] at this
 have hRp:∀l:List Ex,∀x∈exR l,aj 0 x:=dL
 have hRl:∀l:List Ex,(exR l).length=l.length:=fun l=>by simp[exR]
 have hRa:∀(l:List Ex) (y:Ex),exR (l++[y])=exR l++[y.cs.map .p]:=fun l y=>by simp[exR]
 have key:AC Tryz.prog G aR [.p (exL l),.fn (.func V.F) V.caps] (V.I st) fun x h=>x= .ret (slE V.n 4 (exR (bw g st l).1))∧h=V.I (bw g st l).2++[bx 4 (exR (bw g st l).1)]:=by
  refine AC.go na ?_
  simp-implicitDefEqProofs[im,hxl]
  refine aV (fun i:Nat=>am 22 [(5,slE V.n 4 (exR (bw g st (l.take i)).1)),(0,.p (exL l)),(1,.fn (.func V.F) V.caps),(8,.p (exL l)),(9,.p (.int .i64 l.length)),(10,.p (.int .i64 i))])
   (fun i=>V.I (bw g st (l.take i)).2++[bx 4 (exR (bw g st (l.take i)).1)]) (fun i=>i≤l.length) (fun i=>l.length-i) 0 (by simp) ?_ ?_
  ·have e:bx 4 (exR (bw g st (l.take 0)).1)= .dead:=rfl
   rw[e]
   exact gJ (by rw[hlen];exact RN _) (by rw[hlen];exact hn) (by rw[hlen];exact V.ok st) (by simp[below,hxl,hcb,hlen,bw,exR,mw])
  intro i hi
  have hT:=fun h=>qf (g:=g) (l:=l) (st:=st) (i:=i) h
  have hi2:=hinv i hi
  have hml:=pc g (l.take i) st
  rw[RZ,Nat.min_eq_left hi] at hml
  generalize hcur:bw g st (l.take i)=cur at hT hi2 hml⊢
  obtain⟨out,s⟩:=cur
  simp only at hT hi2 hml⊢
  simp-implicitDefEqProofs[hxl]
  refine bf (fun hc=>?_) (fun hc=>?_)
  ·simp at hc
   have hg:=RA hc
   have hT:=hT hc
   obtain⟨_,hA⟩:=hv i s hc hi2
   generalize l[i]=x at hg hT hA
   have hkc:=x.cs_eq
   have hyc:=(g s x).1.cs_eq
   rw[hkc] at hA
   simp-implicitDefEqProofs[hg,hkc,hlen]
   refine(V.pre G hA _ ⟨by simp[below],hcb⟩).mono ?_
   rintro r h ⟨rfl,rfl⟩
   rw[hyc]
   simp-implicitDefEqProofs[aa,hlen]
   have hol:=hRl out
   refine⟨⟨by omega,by omega⟩,i+1,hc,by omega,?_⟩
   rw[hT]
   simp only[hRa]
   rw[nO _ (by simp),lG _ (by simp),hyc]
   refine Az (mid:=[_,_,_]) (s:=[]) (hlen _) rfl (RN _) (V.ok _) ?_ ?_ ?_
   ·intro x hx
    rcases RJ.1 hx with h|h
    ·exact hRp _ x h
    ·rw[RM.1 h];simp
   ·simp[below,hxl,hcb,w1 (i:=i) (by omega)]
   ·simp
  ·simp at hc
   have hie:i=l.length:=by omega
   subst hie
   rw[Sf] at hcur
   rw[hcur]
   simp-implicitDefEqProofs[]
 refine key.frz V.n (by rw[hlen];exact RN _) (fun t v h ⟨e,_⟩=>by cases e) ?_
 rintro v h ⟨e,rfl⟩
 cases e
 refine⟨_,V.I (bw g st l).2,by rw[RR,hlen];omega,hlen _,.one ?_ .nil,sM (V.ok _),rfl,rfl⟩
 have ht:=vM (r:=[]) (o:=bx 4 (exR (bw g st l).1)) (hlen (bw g st l).2)
 have hh:exR (bw g st l).1=((bw g st l).1.map Ex.cs).map (·.map .p):=by simp[exR]
 rw[hh] at ht⊢
 exact tJ ht (fun x hx=>by obtain⟨b,_,rfl⟩:=RU.1 hx;simp)
theorem uk{σ:Type}(V:Vis σ)(g:σ→Sm→Sm × σ)(inv:Nat→σ→Prop)(l:List Sm)(hb:l.length≤1073741824)(hn:0<V.n)
 (hv:∀(i:Nat) st (h:i<l.length),inv i st→inv (i+1) (g st l[i]).2∧AC Tryz.prog G V.F (.agg (l[i].cs.map .p)::V.caps) (V.I st) fun x h'=>x= .ret (.agg ((g st l[i]).1.cs.map .p))∧h'=V.I (g st l[i]).2)(st:σ)(h0:inv 0 st):
 AC Tryz.prog G az [.p (smL l),.fn (.func V.F) V.caps] (V.I st) fun x h=>x= .ret (.p (smL (bw g st l).1))∧h=V.I (bw g st l).2:=by
 have hxl:∀l,smL l= .lst 5 (l.map Sm.cs):=fun _=>rfl
 have hlen:=V.len
 have hcb:=V.capsOk
 have hinv:∀i,i≤l.length→inv i (bw g st (l.take i)).2:=fun i hi=>by
  have:=pA (g:=g) (inv:=inv) (l:=l) (st:=st) (k:=0) h0 (fun i st h hi=>by
   rw[Su] at hi⊢;exact(hv i st h hi).1) i hi
  rwa[Su] at this
 have hRp:∀l:List Sm,∀x∈smR l,aj 0 x:=aQ
 have hRl:∀l:List Sm,(smR l).length=l.length:=fun l=>by simp[smR]
 have hRa:∀(l:List Sm) (y:Sm),smR (l++[y])=smR l++[y.cs.map .p]:=fun l y=>by simp[smR]
 have key:AC Tryz.prog G az [.p (smL l),.fn (.func V.F) V.caps] (V.I st) fun x h=>x= .ret (slE V.n 5 (smR (bw g st l).1))∧h=V.I (bw g st l).2++[bx 5 (smR (bw g st l).1)]:=by
  refine AC.go ir ?_
  simp-implicitDefEqProofs[eM,hxl]
  refine aV (fun i:Nat=>am 22 [(5,slE V.n 5 (smR (bw g st (l.take i)).1)),(0,.p (smL l)),(1,.fn (.func V.F) V.caps),(8,.p (smL l)),(9,.p (.int .i64 l.length)),(10,.p (.int .i64 i))])
   (fun i=>V.I (bw g st (l.take i)).2++[bx 5 (smR (bw g st (l.take i)).1)]) (fun i=>i≤l.length) (fun i=>l.length-i) 0 (by simp) ?_ ?_
  ·have e:bx 5 (smR (bw g st (l.take 0)).1)= .dead:=rfl
   rw[e]
   exact gJ (by rw[hlen];exact RN _) (by rw[hlen];exact hn) (by rw[hlen];exact V.ok st) (by simp[below,hxl,hcb,hlen,bw,smR,mw])
  intro i hi
  have hT:=fun h=>qf (g:=g) (l:=l) (st:=st) (i:=i) h
  have hi2:=hinv i hi
  have hml:=pc g (l.take i) st
  rw[RZ,Nat.min_eq_left hi] at hml
  generalize hcur:bw g st (l.take i)=cur at hT hi2 hml⊢
  obtain⟨out,s⟩:=cur
  simp only at hT hi2 hml⊢
  simp-implicitDefEqProofs[hxl]
  refine bf (fun hc=>?_) (fun hc=>?_)
  ·simp at hc
   have hg:=RA hc
   have hT:=hT hc
   obtain⟨_,hA⟩:=hv i s hc hi2
   generalize l[i]=x at hg hT hA
   have hkc:=x.cs_eq
   have hyc:=(g s x).1.cs_eq
   rw[hkc] at hA
   simp-implicitDefEqProofs[hg,hkc,hlen]
   refine(V.pre G hA _ ⟨by simp[below],hcb⟩).mono ?_
   rintro r h ⟨rfl,rfl⟩
   rw[hyc]
   simp-implicitDefEqProofs[aa,hlen]
   have hol:=hRl out
   refine⟨⟨by omega,by omega⟩,i+1,hc,by omega,?_⟩
   rw[hT]
   simp only[hRa]
   rw[nO _ (by simp),lG _ (by simp),hyc]
   refine Az (mid:=[_,_,_]) (s:=[]) (hlen _) rfl (RN _) (V.ok _) ?_ ?_ ?_
   ·intro x hx
    rcases RJ.1 hx with h|h
    ·exact hRp _ x h
    ·rw[RM.1 h];simp
   ·simp[below,hxl,hcb,w1 (i:=i) (by omega)]
   ·simp
  ·simp at hc
   have hie:i=l.length:=by omega
   subst hie
   rw[Sf] at hcur
   rw[hcur]
   simp-implicitDefEqProofs[]
 refine key.frz V.n (by rw[hlen];exact RN _) (fun t v h ⟨e,_⟩=>by cases e) ?_
 rintro v h ⟨e,rfl⟩
 cases e
 refine⟨_,V.I (bw g st l).2,by rw[RR,hlen];omega,hlen _,.one ?_ .nil,sM (V.ok _),rfl,rfl⟩
 have ht:=vM (r:=[]) (o:=bx 5 (smR (bw g st l).1)) (hlen (bw g st l).2)
 have hh:smR (bw g st l).1=((bw g st l).1.map Sm.cs).map (·.map .p):=by simp[smR]
 rw[hh] at ht⊢
 exact tJ ht (fun x hx=>by obtain⟨b,_,rfl⟩:=RU.1 hx;simp)
theorem zG{σ:Type}(V:Vis σ)(g:σ→Fd→Fd × σ)(inv:Nat→σ→Prop)(l:List Fd)(hb:l.length≤1073741824)(hn:0<V.n)
 (hv:∀(i:Nat) st (h:i<l.length),inv i st→inv (i+1) (g st l[i]).2∧AC Tryz.prog G V.F (.agg (l[i].cs.map .p)::V.caps) (V.I st) fun x h'=>x= .ret (.agg ((g st l[i]).1.cs.map .p))∧h'=V.I (g st l[i]).2)(st:σ)(h0:inv 0 st):
 AC Tryz.prog G bu [.p (fdL l),.fn (.func V.F) V.caps] (V.I st) fun x h=>x= .ret (.p (fdL (bw g st l).1))∧h=V.I (bw g st l).2:=by
 have hxl:∀l,fdL l= .lst 3 (l.map Fd.cs):=fun _=>rfl
 have hlen:=V.len
 have hcb:=V.capsOk
 have hinv:∀i,i≤l.length→inv i (bw g st (l.take i)).2:=fun i hi=>by
  have:=pA (g:=g) (inv:=inv) (l:=l) (st:=st) (k:=0) h0 (fun i st h hi=>by
   rw[Su] at hi⊢;exact(hv i st h hi).1) i hi
  rwa[Su] at this
 have hRp:∀l:List Fd,∀x∈aN l,aj 0 x:=fp
 have hRl:∀l:List Fd,(aN l).length=l.length:=fun l=>by simp[aN]
 have hRa:∀(l:List Fd) (y:Fd),aN (l++[y])=aN l++[y.cs.map .p]:=fun l y=>by simp[aN]
 have key:AC Tryz.prog G bu [.p (fdL l),.fn (.func V.F) V.caps] (V.I st) fun x h=>x= .ret (slE V.n 3 (aN (bw g st l).1))∧h=V.I (bw g st l).2++[bx 3 (aN (bw g st l).1)]:=by
  refine AC.go oG ?_
  simp-implicitDefEqProofs[iY,hxl]
  refine aV (fun i:Nat=>am 22 [(5,slE V.n 3 (aN (bw g st (l.take i)).1)),(0,.p (fdL l)),(1,.fn (.func V.F) V.caps),(8,.p (fdL l)),(9,.p (.int .i64 l.length)),(10,.p (.int .i64 i))])
   (fun i=>V.I (bw g st (l.take i)).2++[bx 3 (aN (bw g st (l.take i)).1)]) (fun i=>i≤l.length) (fun i=>l.length-i) 0 (by simp) ?_ ?_
  ·have e:bx 3 (aN (bw g st (l.take 0)).1)= .dead:=rfl
   rw[e]
   exact gJ (by rw[hlen];exact RN _) (by rw[hlen];exact hn) (by rw[hlen];exact V.ok st) (by simp[below,hxl,hcb,hlen,bw,aN,mw])
  intro i hi
  have hT:=fun h=>qf (g:=g) (l:=l) (st:=st) (i:=i) h
  have hi2:=hinv i hi
  have hml:=pc g (l.take i) st
  rw[RZ,Nat.min_eq_left hi] at hml
  generalize hcur:bw g st (l.take i)=cur at hT hi2 hml⊢
  obtain⟨out,s⟩:=cur
  simp only at hT hi2 hml⊢
  simp-implicitDefEqProofs[hxl]
  refine bf (fun hc=>?_) (fun hc=>?_)
  ·simp at hc
   have hg:=RA hc
   have hT:=hT hc
   obtain⟨_,hA⟩:=hv i s hc hi2
   generalize l[i]=x at hg hT hA
   have hkc:=x.cs_eq'
   have hyc:=(g s x).1.cs_eq'
   rw[hkc] at hA
   simp-implicitDefEqProofs[hg,hkc,hlen]
   refine(V.pre G hA _ ⟨by simp[below],hcb⟩).mono ?_
   rintro r h ⟨rfl,rfl⟩
   rw[hyc]
   simp-implicitDefEqProofs[aa,hlen]
   have hol:=hRl out
   refine⟨⟨by omega,by omega⟩,i+1,hc,by omega,?_⟩
   rw[hT]
   simp only[hRa]
   rw[nO _ (by simp),lG _ (by simp),hyc]
   refine Az (mid:=[_,_,_]) (s:=[]) (hlen _) rfl (RN _) (V.ok _) ?_ ?_ ?_
   ·intro x hx
    rcases RJ.1 hx with h|h
    ·exact hRp _ x h
    ·rw[RM.1 h];simp
   ·simp[below,hxl,hcb,w1 (i:=i) (by omega)]
   ·simp
  ·simp at hc
   have hie:i=l.length:=by omega
   subst hie
   rw[Sf] at hcur
   rw[hcur]
   simp-implicitDefEqProofs[]
 refine key.frz V.n (by rw[hlen];exact RN _) (fun t v h ⟨e,_⟩=>by cases e) ?_
 rintro v h ⟨e,rfl⟩
 cases e
 refine⟨_,V.I (bw g st l).2,by rw[RR,hlen];omega,hlen _,.one ?_ .nil,sM (V.ok _),rfl,rfl⟩
 have ht:=vM (r:=[]) (o:=bx 3 (aN (bw g st l).1)) (hlen (bw g st l).2)
 have hh:aN (bw g st l).1=((bw g st l).1.map Fd.cs).map (·.map .p):=by simp[aN]
 rw[hh] at ht⊢
 exact tJ ht (fun x hx=>by obtain⟨b,_,rfl⟩:=RU.1 hx;simp)
end
section
variable (G:aM)
theorem Ii{σ:Type}(V:Vis σ)(step:σ→Ex→σ)(inv:σ→Prop)(P:Ex→Prop)(hP:∀e,P e→∀a∈e.kids,P a)(B:Nat)(hB:B≤1073741824)
 (hv:∀st e,inv st→P e→e.sz≤B→inv (step st e)∧AC Tryz.prog G V.F (.agg (e.cs.map .p)::V.caps) (V.I st) fun x h=>x= .ret (.tup [])∧h=V.I (step st e)):
 ∀(N:Nat) (e:Ex),P e→e.sz<N→e.sz≤B→∀st,inv st→inv (e.pre.foldl step st)∧AC Tryz.prog G gd [.agg (e.cs.map .p),.fn (.func V.F) V.caps] (V.I st) fun x h=>x= .ret (.tup [])∧h=V.I (e.pre.foldl step st):=by
 intro N
 induction N with
 |zero=>intro e _ h;omega
 |succ N ih=>
  intro e hpe he hz st hi
  have hec:=e.cs_eq
  have hsz:=e.sz_eq
  have hkl:=bh e.kids
  have hxl:exL e.kids= .lst 4 (e.kids.map Ex.cs):=rfl
  have hlen:=V.len
  obtain⟨i1,h1⟩:=hv st e hi hpe hz
  have hinv:∀i,i≤e.kids.length→inv ((ff (e.kids.take i)).foldl step (step st e)):=by
   intro i
   induction i with
   |zero=>intro _;exact i1
   |succ i ihi=>
    intro hl
    have hg:i<e.kids.length:=by omega
    have hks:=aT (RH hg)
    rw[an hg,ny,List.foldl_append,ff,ff,Ss]
    exact(ih e.kids[i] (hP e hpe _ (RH hg)) (by omega) (by omega) _ (ihi (by omega))).1
  refine⟨?_,?_⟩
  ·rw[Ex.pre_eq,List.foldl_cons]
   have:=hinv e.kids.length (RN _)
   rwa[Sf] at this
  refine V.trim G (AC.go rZ ?_) (by simp[below])
  have hcb:=V.capsOk
  have hcb1:aj (V.n+1) V.caps:=aW (by omega) _ hcb
  rw[hec] at h1
  simp-implicitDefEqProofs[oc,hec,hlen]
  refine(V.pre G h1 _ ⟨by simp[below],hcb⟩).mono ?_
  rintro r h ⟨rfl,rfl⟩
  simp-implicitDefEqProofs[aa,hlen,hxl]
  refine aV (fun i:Nat=>am 20 [(1,.fn (.func V.F) V.caps),(2,.ptr V.n 4 0 0),(10,.p (exL e.kids)),(11,.p (.int .i64 e.kids.length)),(12,.p (.int .i64 i))])
   (fun i=>V.I ((ff (e.kids.take i)).foldl step (step st e))++[.row 4 [[.p (.int .i64 e.op),.p (.int .i64 e.n),.p (.str e.name),.p (exL e.kids)]]]) (fun i=>i≤e.kids.length) (fun i=>e.kids.length-i) 0 (by simp) ?_ ?_
  ·refine V.same (r:=[_]) (s:=[]) _ (RN _) (by simp[okO,below]) ?_
   simp[below,hxl,hcb1]
  intro i hil
  simp-implicitDefEqProofs[hxl]
  refine bf (fun hc=>?_) (fun hc=>?_)
  ·simp at hc
   have hg:=RA hc
   have hks:=aT (RH hc)
   have hkc:=e.kids[i].cs_eq
   have hI:=(ih e.kids[i] (hP e hpe _ (RH hc)) (by omega) (by omega) _ (hinv i hil)).2
   rw[hkc] at hI
   simp-implicitDefEqProofs[hg,hkc,hlen]
   refine(V.pre G hI _ ⟨by simp[below],by simp[below,hcb],trivial⟩).mono ?_
   rintro r h ⟨rfl,rfl⟩
   simp-implicitDefEqProofs[aa]
   refine⟨i+1,hc,by omega,?_⟩
   have hf:(ff (e.kids.take (i+1))).foldl step (step st e)=e.kids[i].pre.foldl step ((ff (e.kids.take i)).foldl step (step st e)):=by
    rw[an hc,ny,List.foldl_append,ff,ff,Ss]
   rw[hf]
   refine V.same (r:=[_]) (s:=[_]) _ (RN _) (by simp[okO,below]) ?_
   simp[below,hxl,hcb1,w1 (i:=i) (by omega)]
  ·simp at hc
   have hie:i=e.kids.length:=by omega
   subst hie
   rw[Sf,Ex.pre_eq,List.foldl_cons]
   simp-implicitDefEqProofs[]
theorem kM(n:Int):VF Tryz.prog G cz [.p (.int .i64 n)] (.agg ((co n).cs.map .p)):=by
 have key:AC Tryz.prog G cz [.p (.int .i64 n)] [] fun x h=>x= .ret (.agg [.p (.int .i64 1),.p (.int .i64 n),.p (.str []),.nils]):=by
  refine AC.go xX ?_
  simp-implicitDefEqProofs[px]
 refine key.freezeR (fun t v h e=>by cases e) fun v h e=>?_
 cases e
 exact .agg (.one (.p _) (.one (.p _) (.one (.p _) (.one (.nils 4) .nil)))) .nil
theorem sk(e:Ex)(n:Int):VF Tryz.prog G aP [.agg (e.cs.map .p),.p (.int .i64 n)] (.p (.bool (isN e n))):=by
 refine AC.go Am ?_
 by_cases h1:e.op=1
 ·simp-implicitDefEqProofs[nQ,Ex.cs_eq,isN,h1]
 ·simp-implicitDefEqProofs[nQ,Ex.cs_eq,isN,h1]
theorem nr(b:Bool):VF Tryz.prog G kQ [.p (.bool b)] (.p (.int .i64 (tr5 b))):=by
 refine AC.go wN ?_
 cases b<;>simp-implicitDefEqProofs[pi,tr5]
def wK:Option Int→AV
 |some q=> .tup [.p (.int .i64 q),.p (.bool true)]
 |none=> .tup [.p (.int .i64 0),.p (.bool false)]
theorem Ht(a b:Int):VF Tryz.prog G iy [.p (.int .i64 11),.p (.int .i64 a),.p (.int .i64 b)] (.tup [.p (.int .i64 (tr5 (decide (a=0)))),.p (.bool true)]):=by
 refine AC.go sN ?_
 simp-implicitDefEqProofs[nL]
 refine(nr G _).use ?_
 simp-implicitDefEqProofs[]
theorem KY(o a b:Int)(ho:3≤o)(h9:o≤10)(ha:V5 a)(hb:V5 b):VF Tryz.prog G iy [.p (.int .i64 o),.p (.int .i64 a),.p (.int .i64 b)] (wK (ar5 o a b)):=by
 obtain⟨a0,a1⟩:=ha
 obtain⟨b0,b1⟩:=hb
 refine AC.go sN ?_
 have hm:a*b≤65025:=by
  have h1:=Int.mul_le_mul_of_nonneg_right a1 b0
  omega
 have hm0:0≤a*b:=Int.mul_nonneg a0 b0
 have ho':o=3∨o=4∨o=5∨o=6∨o=7∨o=8∨o=9∨o=10:=by omega
 rcases ho' with rfl|rfl|rfl|rfl|rfl|rfl|rfl|rfl
 all_goals simp-implicitDefEqProofs[nL,ar5,DZ]
 ·rw[af (by omega) (by omega),Int.tmod_eq_emod_of_nonneg (by omega)];rfl
 ·have hw:IntKind.i64.wrap (a-b)=a-b:=af (by omega) (by omega)
  rw[hw,af (by omega) (by omega),Int.tmod_eq_emod_of_nonneg (by omega)]
  have:(a-b+256)%256=(a-b)%256:=by omega
  rw[this];rfl
 ·rw[af (by omega) (by omega),Int.tmod_eq_emod_of_nonneg (by omega)];rfl
 ·refine bf (fun h=>?_) (fun h=>?_)
  ·simp at h
   simp-implicitDefEqProofs[h,wK]
  ·simp at h
   simp-implicitDefEqProofs[h,wK]
   rw[Int.tdiv_eq_ediv_of_nonneg (by omega)]
   have h1:a/b≤a:=Int.ediv_le_self b a0
   have h2:0≤a/b:=Int.ediv_nonneg a0 b0
   exact af (by omega) (by omega)
 ·refine bf (fun h=>?_) (fun h=>?_)
  ·simp at h
   simp-implicitDefEqProofs[h,wK]
  ·simp at h
   simp-implicitDefEqProofs[h,wK]
   rw[Int.tmod_eq_emod_of_nonneg (by omega)]
 ·refine(nr G _).use ?_
  simp-implicitDefEqProofs[wK]
 ·refine(nr G _).use ?_
  simp-implicitDefEqProofs[wK]
 ·by_cases h:a=0
  ·simp-implicitDefEqProofs[h]
   refine(nr G _).use ?_
   simp-implicitDefEqProofs[wK]
  ·simp-implicitDefEqProofs[h]
   refine(nr G _).use ?_
   simp-implicitDefEqProofs[wK]
def okP(e:Ex):Bool:= !decide (e.op=12)&& !decide (e.op=13)&& !dvE e
mutual
theorem BU:∀e:Ex,e.pre.all okP=eE e
 | .mk o n s ks=>by
   rw[Bl,Ex.pre_eq,List.all_cons,okP]
   show(_&&(ff ks).all okP)=_
   rw[zh ks]
   rfl
theorem zh:∀l:List Ex,(ff l).all okP=l.all eE
 |[]=>rfl
 |e::r=>by rw[ff,List.all_append,List.all_cons,BU e,zh r]
end
def ro(p:List PV):Vis Bool where
 I:=fun st=>[.row 4 [p.map .p],.row 1 [[.p (.bool st)]]]
 n:=2
 F:=ee
 caps:=[.ptr 1 1 0 0]
 len:=fun _=>rfl
 ok:=fun st=>by simp[okO,below]
 capsOk:=by simp[below]
theorem zR(p:List PV)(st:Bool){d:Nat}{e:Ex}(hf:bp d e=true):AC Tryz.prog G ee [.agg (e.cs.map .p),.ptr 1 1 0 0] ((ro p).I st) fun x h=>x= .ret (.tup [])∧h=(ro p).I (st&&okP e):=by
 refine(ro p).trim G (AC.go sQ ?_) (by simp[below])
 have hec:=e.cs_eq
 have hxl:∀l,exL l= .lst 4 (l.map Ex.cs):=fun _=>rfl
 cases st with
 |false=>simp-implicitDefEqProofs[bJ,hec,ro]
 |true=>
  by_cases o12:e.op=12
  ·simp-implicitDefEqProofs[bJ,hec,ro,o12,okP]
  by_cases o13:e.op=13
  ·simp-implicitDefEqProofs[bJ,hec,ro,o13,okP]
  by_cases o67:e.op=6∨e.op=7
  ·have hk:∃a b,e.kids=[a,b]:=by
    obtain⟨l1,l2,_⟩:=ed hf
    have e1:loK e.op=2∧hiK e.op=2:=by rcases o67 with h|h<;>rw[h]<;>exact⟨rfl,rfl⟩
    rw[e1.1] at l1
    rw[e1.2] at l2
    match hx:e.kids,l1,l2 with
    |[a,b],_,_=>exact⟨a,b,rfl⟩
   obtain⟨a,b,hk⟩:=hk
   have hbc:=b.cs_eq
   have hd:okP e=(decide (b.op=1)&& !decide (b.n=0)):=by
    rw[okP,dvE,hk]
    rcases o67 with h|h<;>simp[h]
   rw[hd]
   rcases o67 with o6|o7
   ·by_cases b1:b.op=1
    ·simp-implicitDefEqProofs[bJ,hec,ro,o6,hxl,hk,hbc,b1]
    ·simp-implicitDefEqProofs[bJ,hec,ro,o6,hxl,hk,hbc,b1]
   ·by_cases b1:b.op=1
    ·simp-implicitDefEqProofs[bJ,hec,ro,o7,hxl,hk,hbc,b1]
    ·simp-implicitDefEqProofs[bJ,hec,ro,o7,hxl,hk,hbc,b1]
  ·have o6:¬e.op=6:=fun h=>o67 (.inl h)
   have o7:¬e.op=7:=fun h=>o67 (.inr h)
   have hd:okP e=true:=by simp[okP,dvE,o6,o7,o12,o13]
   rw[hd]
   simp-implicitDefEqProofs[bJ,hec,ro,o6,o7,o12,o13]
theorem GD(l:List Ex)(b:Bool):l.foldl (fun st e=>st&&okP e) b=(b&&l.all okP):=by
 induction l generalizing b with
 |nil=>simp
 |cons e r ih=>rw[List.foldl_cons,ih,List.all_cons,Bool.and_assoc]
theorem wj(hK:G dV=some dO)(hS:G cd=some [PV.tbl opK opV]){e:Ex}(hx:gH e=true)(hz:e.sz≤1073741824):VF Tryz.prog G dY [.agg (e.cs.map .p)] (.p (.bool (eE e))):=by
 refine AC.go uY ?_
 have hec:=e.cs_eq
 have HV:=uC G hK hS e hz
 have HP:=(Ii G (ro e.cs) (fun st e=>st&&okP e) (fun _=>True) (fun e=>∃d,bp d e=true) (fun e ⟨d,h⟩ a ha=>by
  obtain⟨d,rfl⟩:=qn h
  exact⟨d,ga h ha⟩) 1073741824 (by omega) (fun st x _ ⟨d,h⟩ _=>⟨trivial,zR G e.cs st h⟩) (e.sz+1) e ⟨6,yW hx⟩ (by omega) hz true trivial).2
 rw[GD,Bool.true_and,BU] at HP
 rw[hec] at HV HP
 have hI:∀st,(ro [.int .i64 e.op,.int .i64 e.n,.str e.name,exL e.kids]).I st=[.row 4 [[.p (.int .i64 e.op),.p (.int .i64 e.n),.p (.str e.name),.p (exL e.kids)]],.row 1 [[.p (.bool st)]]]:=fun _=>rfl
 have hF:(ro [.int .i64 e.op,.int .i64 e.n,.str e.name,exL e.kids]).F=ee:=rfl
 have hc:(ro [.int .i64 e.op,.int .i64 e.n,.str e.name,exL e.kids]).caps=[.ptr 1 1 0 0]:=rfl
 rw[hI,hI,hF,hc] at HP
 simp-implicitDefEqProofs[oo,hec]
 refine HV.use ?_
 simp-implicitDefEqProofs[hx]
 refine HP.mono ?_
 rintro r h ⟨rfl,rfl⟩
 simp-implicitDefEqProofs[aa]
end
section
def K_impl_foldPart:AK:= .seq (.reg [oJ 1 (.box 4 (.t 0)),oJ 2 (.alloc [(.p (.int .i64 0)),(.p (.int .i64 0)),(.p (.str [])),.nils])]) (.seq (.seq (.reg [oF 7 3 1,oL 8 7,oJ 9 (.len false (.t 8)),oJ 10 (.bin .eql (.t 9) (.c (.p (.int .i64 0)))),oM 11 10,⟨(some 12),some (11,false),.fldA 0 (.t 1)⟩,⟨(some 13),some (11,false),.ld none (.t 12)⟩,⟨(some 14),some (11,false),.bin .eql (.t 13) (.c (.p (.int .i64 13)))⟩,oJ 15 (.pick (.t 11) (.c (.p (.bool true))) (.t 14)),oM 16 15,⟨(some 17),some (16,false),.fldA 0 (.t 1)⟩,⟨(some 18),some (16,false),.ld none (.t 17)⟩,⟨(some 19),some (16,false),.bin .eql (.t 18) (.c (.p (.int .i64 12)))⟩,oJ 20 (.pick (.t 16) (.c (.p (.bool true))) (.t 19))]) (.cond (.t 20) (.seq (.reg [oJ 21 (.ld (some 4) (.t 1)),⟨none,none,.st 4 (.t 2) (.t 21)⟩]) (.ret)) (.skip))) (.cut (.ot (.one [] (.one [oF 22 3 1] (.one [oF 26 3 1] (.one [oF 28 3 1] (.one [oL 23 22] (.one [oJ 24 (.idxS 4 (.t 23) (.c (.p (.int .i64 0))))] (.one [oJ 25 (.ld (some 4) (.t 24))] (.one [oL 27 26] (.one [oL 29 28] (.one [oJ 30 (.len false (.t 29))] (.one [oJ 31 (.bin .sub (.t 30) (.c (.p (.int .i64 1))))] (.one [oJ 32 (.idxS 4 (.t 27) (.t 31))] (.one [oJ 33 (.ld (some 4) (.t 32))] (.alt (.one [oJ 3 (.alloc [(.p (.int .i64 0)),(.p (.int .i64 0)),(.p (.str [])),.nils]),⟨none,none,.chk none 22 23⟩,⟨none,none,.chk (some 4) 24 25⟩,⟨none,none,.chk none 26 27⟩,⟨none,none,.chk none 28 29⟩,⟨none,none,.chk (some 4) 32 33⟩] (.alt (.one [oJ 4 (.alloc [(.p (.int .i64 0)),(.p (.int .i64 0)),(.p (.str [])),.nils]),⟨none,none,.chk none 22 23⟩,⟨none,none,.chk (some 4) 24 25⟩,⟨none,none,.chk none 26 27⟩,⟨none,none,.chk none 28 29⟩,⟨none,none,.chk (some 4) 32 33⟩] (.alt (.one [⟨none,none,.st 4 (.t 3) (.t 25)⟩,⟨none,none,.chk none 26 27⟩,⟨none,none,.chk none 28 29⟩,⟨none,none,.chk (some 4) 32 33⟩] (.alt (.one [⟨none,none,.st 4 (.t 4) (.t 33)⟩] (.done)) (.tru))) (.tru))) (.tru))) (.alt (.one [oJ 4 (.alloc [(.p (.int .i64 0)),(.p (.int .i64 0)),(.p (.str [])),.nils]),⟨none,none,.chk none 22 23⟩,⟨none,none,.chk (some 4) 24 25⟩,⟨none,none,.chk none 26 27⟩,⟨none,none,.chk none 28 29⟩,⟨none,none,.chk (some 4) 32 33⟩] (.alt (.one [oJ 3 (.alloc [(.p (.int .i64 0)),(.p (.int .i64 0)),(.p (.str [])),.nils]),⟨none,none,.chk none 22 23⟩,⟨none,none,.chk (some 4) 24 25⟩,⟨none,none,.chk none 26 27⟩,⟨none,none,.chk none 28 29⟩,⟨none,none,.chk (some 4) 32 33⟩] (.alt (.one [⟨none,none,.st 4 (.t 3) (.t 25)⟩,⟨none,none,.chk none 26 27⟩,⟨none,none,.chk none 28 29⟩,⟨none,none,.chk (some 4) 32 33⟩] (.alt (.one [⟨none,none,.st 4 (.t 4) (.t 33)⟩] (.done)) (.tru))) (.tru))) (.tru))) (.tru))))))))))))))))) (.cut (.seq (.reg [oF 34 0 3,oL 35 34,oJ 36 (.bin .eql (.t 35) (.c (.p (.int .i64 1)))),oM 37 36,⟨(some 38),some (37,true),.fldA 0 (.t 4)⟩,⟨(some 39),some (37,true),.ld none (.t 38)⟩,⟨(some 40),some (37,true),.bin .eql (.t 39) (.c (.p (.int .i64 1)))⟩,oJ 41 (.pick (.t 37) (.t 40) (.c (.p (.bool false))))]) (.cond (.t 41) (.seq (.reg [oF 43 0 1,oL 44 43,oF 45 1 3,oL 46 45,oF 47 1 4,oL 48 47,oJ 49 (.call iy [(.t 44),(.t 46),(.t 48)]),oM 42 49,oJ 50 (.ext 0 (.t 42)),oJ 51 (.ext 1 (.t 42)),oM 5 50,oM 6 51]) (.seq (.reg [oM 52 6]) (.cond (.t 52) (.seq (.reg [oM 53 5,oJ 54 (.call cz [(.t 53)]),⟨none,none,.st 4 (.t 2) (.t 54)⟩]) (.ret)) (.skip)))) (.skip))) (.seq (.seq (.reg [oF 55 0 1,oL 56 55]) (.blk 0 (.seq (.reg [oJ 58 (.bin .eql (.t 56) (.c (.p (.int .i64 11)))),oM 57 58]) (.cond (.t 57) (.seq (.reg [oF 59 0 3,oL 60 59,oJ 61 (.bin .eql (.t 60) (.c (.p (.int .i64 11)))),oM 62 61,⟨(some 63),some (62,true),.fldA 3 (.t 3)⟩,⟨(some 64),some (62,true),.ld none (.t 63)⟩,⟨(some 65),some (62,true),.idxS 4 (.t 64) (.c (.p (.int .i64 0)))⟩,⟨(some 66),some (62,true),.fldA 0 (.t 65)⟩,⟨(some 67),some (62,true),.ld none (.t 66)⟩,⟨(some 68),some (62,true),.bin .eql (.t 67) (.c (.p (.int .i64 11)))⟩,oJ 69 (.pick (.t 62) (.t 68) (.c (.p (.bool false))))]) (.cond (.t 69) (.seq (.reg [oF 70 3 3,oL 71 70,oJ 72 (.idxS 4 (.t 71) (.c (.p (.int .i64 0)))),oJ 73 (.ld (some 4) (.t 72)),⟨none,none,.st 4 (.t 2) (.t 73)⟩]) (.ret)) (.skip))) (.seq (.reg [oJ 75 (.bin .eql (.t 56) (.c (.p (.int .i64 10)))),oM 74 75]) (.cond (.t 74) (.seq (.reg [oJ 76 (.ld (some 4) (.t 3)),oJ 77 (.call aP [(.t 76),(.c (.p (.int .i64 0)))])]) (.cond (.t 77) (.seq (.reg [oJ 78 (.call cz [(.c (.p (.int .i64 0)))]),⟨none,none,.st 4 (.t 2) (.t 78)⟩]) (.ret)) (.skip))) (.seq (.reg [oJ 80 (.bin .eql (.t 56) (.c (.p (.int .i64 3)))),oM 79 80]) (.cond (.t 79) (.seq (.seq (.reg [oJ 81 (.ld (some 4) (.t 4)),oJ 82 (.call aP [(.t 81),(.c (.p (.int .i64 0)))])]) (.cond (.t 82) (.seq (.reg [oJ 83 (.ld (some 4) (.t 3)),⟨none,none,.st 4 (.t 2) (.t 83)⟩]) (.ret)) (.skip))) (.seq (.reg [oJ 84 (.ld (some 4) (.t 3)),oJ 85 (.call aP [(.t 84),(.c (.p (.int .i64 0)))])]) (.cond (.t 85) (.seq (.reg [oJ 86 (.ld (some 4) (.t 4)),⟨none,none,.st 4 (.t 2) (.t 86)⟩]) (.ret)) (.skip)))) (.seq (.reg [oJ 88 (.bin .eql (.t 56) (.c (.p (.int .i64 4)))),oM 87 88]) (.cond (.t 87) (.seq (.reg [oJ 89 (.ld (some 4) (.t 4)),oJ 90 (.call aP [(.t 89),(.c (.p (.int .i64 0)))])]) (.cond (.t 90) (.seq (.reg [oJ 91 (.ld (some 4) (.t 3)),⟨none,none,.st 4 (.t 2) (.t 91)⟩]) (.ret)) (.skip))) (.seq (.reg [oJ 93 (.bin .eql (.t 56) (.c (.p (.int .i64 5)))),oM 92 93]) (.cond (.t 92) (.blk 1 (.seq (.reg [oJ 95 (.ld (some 4) (.t 4)),oJ 96 (.call aP [(.t 95),(.c (.p (.int .i64 1)))]),oM 94 96]) (.cond (.t 94) (.seq (.reg [oJ 97 (.ld (some 4) (.t 3)),⟨none,none,.st 4 (.t 2) (.t 97)⟩]) (.ret)) (.seq (.reg [oJ 99 (.ld (some 4) (.t 3)),oJ 100 (.call aP [(.t 99),(.c (.p (.int .i64 1)))]),oM 98 100]) (.cond (.t 98) (.seq (.reg [oJ 101 (.ld (some 4) (.t 4)),⟨none,none,.st 4 (.t 2) (.t 101)⟩]) (.ret)) (.seq (.seq (.reg [oJ 103 (.ld (some 4) (.t 4)),oJ 104 (.call aP [(.t 103),(.c (.p (.int .i64 0)))]),oM 105 104,⟨(some 106),some (105,true),.ld (some 4) (.t 3)⟩,⟨(some 107),some (105,true),.call dY [(.t 106)]⟩,oJ 108 (.pick (.t 105) (.t 107) (.c (.p (.bool false)))),oM 102 108]) (.cond (.t 102) (.skip) (.reg [oJ 109 (.ld (some 4) (.t 3)),oJ 110 (.call aP [(.t 109),(.c (.p (.int .i64 0)))]),oM 111 110,⟨(some 112),some (111,true),.ld (some 4) (.t 4)⟩,⟨(some 113),some (111,true),.call dY [(.t 112)]⟩,oJ 114 (.pick (.t 111) (.t 113) (.c (.p (.bool false)))),oM 102 114]))) (.cond (.t 102) (.seq (.reg [oJ 115 (.call cz [(.c (.p (.int .i64 0)))]),⟨none,none,.st 4 (.t 2) (.t 115)⟩]) (.ret)) (.skip)))))))) (.seq (.reg [oJ 117 (.bin .eql (.t 56) (.c (.p (.int .i64 6)))),oM 116 117]) (.cond (.t 116) (.seq (.reg [oJ 118 (.ld (some 4) (.t 4)),oJ 119 (.call aP [(.t 118),(.c (.p (.int .i64 1)))])]) (.cond (.t 119) (.seq (.reg [oJ 120 (.ld (some 4) (.t 3)),⟨none,none,.st 4 (.t 2) (.t 120)⟩]) (.ret)) (.skip))) (.skip))))))))))))))) (.seq (.reg [oJ 121 (.ld (some 4) (.t 1)),⟨none,none,.st 4 (.t 2) (.t 121)⟩]) (.ret))))))
theorem vh:K_impl_foldPart.whole=F_impl_foldPart.ak:=rfl
theorem JR{c d:Nat}{e:Ex}(h:bp c e=true)(hd:c≤d):bp d e=true:=by
 obtain⟨k,rfl⟩:=Nat.le.dest hd
 clear hd
 induction k with
 |zero=>exact h
 |succ k ih=>exact pT ih
variable (G:aM)
theorem DM(hK:G dV=some dO)(hS:G cd=some [PV.tbl opK opV]){d:Nat}{e:Ex}(hf:bp d e=true)(hd:d≤6)(hp30:e.parts≤30)(hz:e.sz≤1073741824):VF Tryz.prog G gW [.agg (e.cs.map .p)] (.agg ((eG e.op e.n e.name e.kids).cs.map .p)):=by
 have hc:=e.cs_eq
 have hxl:∀l,exL l= .lst 4 (l.map Ex.cs):=fun _=>rfl
 have hem:e= .mk e.op e.n e.name e.kids:=by cases e;rfl
 have hzz:=e.sz_eq
 have hpp:=e.parts_eq
 obtain⟨d,rfl⟩:=qn hf
 have hkf:∀a∈e.kids,bp d a=true:=fun a ha=>ga hf ha
 have hks:∀a∈e.kids,a.sz≤1073741824:=fun a ha=>by have:=aT ha;omega
 have hkx:∀a∈e.kids,gH a=true:=fun a ha=>by
  rw[gH,RL,decide_eq_true_eq]
  refine⟨JR (hkf a ha) (by omega),?_⟩
  have:=gG ha;omega
 have hnc:∀q,(co q).cs=[.int .i64 1,.int .i64 q,.str [],.lst 4 []]:=fun q=>rfl
 refine AC.goK vu vh ?_
 have w0:IntKind.i64.wrap 0=0:=af (by omega) (by omega)
 have w1':IntKind.i64.wrap 1=1:=af (by omega) (by omega)
 by_cases he:e.kids=[]∨e.op=13∨e.op=12
 ·have hp:eG e.op e.n e.name e.kids=e:=by
   unfold eG
   split
   ·exact hem.symm
   ·rcases he with h|h|h
    ·rw[h]
     conv=>rhs;rw[hem,h]
    ·rename_i hn;exact(hn (.inr h)).elim
    ·rename_i hn;exact(hn (.inl h)).elim
  rw[hp,hc]
  rcases he with h|h|h
  ·simp-implicitDefEqProofs[K_impl_foldPart,F_impl_foldPart,hc,hxl,h]
  ·by_cases hk:e.kids=[]
   ·simp-implicitDefEqProofs[K_impl_foldPart,F_impl_foldPart,hc,hxl,h,hk]
   ·have hk':¬(e.kids.length:Int)=0:=by
     intro h0;exact hk (List.length_eq_zero_iff.1 (by omega))
    simp-implicitDefEqProofs[K_impl_foldPart,F_impl_foldPart,hc,hxl,h,hk',hk]
  ·by_cases hk:e.kids=[]
   ·simp-implicitDefEqProofs[K_impl_foldPart,F_impl_foldPart,hc,hxl,h,hk]
   ·simp-implicitDefEqProofs[K_impl_foldPart,F_impl_foldPart,hc,hxl,h,hk]
 have hne:e.kids≠[]:=fun h=>he (.inl h)
 have o13:¬e.op=13:=fun h=>he (.inr (.inl h))
 have o12:¬e.op=12:=fun h=>he (.inr (.inr h))
 by_cases o11:e.op=11
 ·obtain⟨l1,l2,_⟩:=ed hf
  rw[o11] at l1 l2
  have e1:loK 11=1:=rfl
  have e2:hiK 11=1:=rfl
  rw[e1] at l1
  rw[e2] at l2
  obtain⟨a,hk⟩:∃a,e.kids=[a]:=by
   match hx:e.kids,l1,l2 with
   |[x],_,_=>exact⟨x,rfl⟩
  have hac:=a.cs_eq
  have hp:eG e.op e.n e.name e.kids=kx e.op e.n e.name a:=by
   unfold eG
   rw[if_neg (by omega),hk]
  rw[hp]
  generalize hres:kx e.op e.n e.name a=res
  simp-implicitDefEqProofs[K_impl_foldPart,F_impl_foldPart,hc,hxl,o11,hk]
  refine lp (am 122 [(1,.ptr 0 4 0 0),(2,.ptr 1 4 0 0),(3,.ptr 2 4 0 0),(4,.ptr 3 4 0 0)])
   [.row 4 [[.p (.int .i64 11),.p (.int .i64 e.n),.p (.str e.name),.p (.lst 4 [a.cs])]],.row 4 [[.p (.int .i64 0),.p (.int .i64 0),.p (.str []),.nils]],.row 4 [[.p (.int .i64 a.op),.p (.int .i64 a.n),.p (.str a.name),.p (exL a.kids)]],.row 4 [[.p (.int .i64 a.op),.p (.int .i64 a.n),.p (.str a.name),.p (exL a.kids)]]] ?_ ?_
  ·simp-implicitDefEqProofs[hac,w0]
   exact⟨ae (by simp) (by simp[okO,below]) (by simp[below]),bT [0,1,3,2] (by simp) (by decide) (by decide) (aG rfl (by simp[below]) (aG rfl (by simp[below]) (aG rfl (by simp[below]) (aG rfl (by simp[below]) br)))) (by simp[below,ren])⟩
  refine ox (fun _:Unit=>am 122 [(1,.ptr 0 4 0 0),(2,.ptr 1 4 0 0),(3,.ptr 2 4 0 0),(4,.ptr 3 4 0 0)]) (fun _=>[.row 4 [[.p (.int .i64 11),.p (.int .i64 e.n),.p (.str e.name),.p (.lst 4 [a.cs])]],.row 4 [[.p (.int .i64 0),.p (.int .i64 0),.p (.str []),.nils]],.row 4 [[.p (.int .i64 a.op),.p (.int .i64 a.n),.p (.str a.name),.p (exL a.kids)]],.row 4 [[.p (.int .i64 a.op),.p (.int .i64 a.n),.p (.str a.name),.p (exL a.kids)]]]) (fun _=>¬a.op=1) ?_ ?_
  ·by_cases a1:a.op=1
   ·rw[←hres,kx,if_pos a1]
    simp-implicitDefEqProofs[hac,a1]
    refine(Ht G _ _).use ?_
    simp-implicitDefEqProofs[]
    refine(kM G _).use ?_
    simp-implicitDefEqProofs[hnc]
   ·simp-implicitDefEqProofs[hac,a1]
    exact ae (by simp) (by simp[okO,below]) (by simp[below])
  intro _ a1
  have same:(∀c,a.kids=[c]→¬(e.op=11∧a.op=11∧c.op=11))→kx e.op e.n e.name a=e:=by
   intro h
   have h0:Ex.mk e.op e.n e.name [a]=e:=by rw[←hk];exact hem.symm
   unfold kx
   rw[if_neg a1]
   split
   ·rename_i c hc'
    split
    ·rename_i h3
     exact(h c hc' ⟨o11,h3⟩).elim
    ·exact h0
   ·exact h0
  by_cases a11:a.op=11
  ·have haf:=hkf a (by rw[hk];simp)
   obtain⟨l1,l2,_⟩:=ed haf
   rw[a11,e1] at l1
   rw[a11,e2] at l2
   obtain⟨c,hkc⟩:∃c,a.kids=[c]:=by
    match hx:a.kids,l1,l2 with
    |[x],_,_=>exact⟨x,rfl⟩
   have hcc:=c.cs_eq
   by_cases c11:c.op=11
   ·have hq:kx e.op e.n e.name a=c:=by
     unfold kx
     rw[if_neg a1,hkc]
     exact if_pos ⟨a11,c11⟩
    rw[←hres,hq]
    simp-implicitDefEqProofs[hac,a11,hxl,hkc,hcc,c11]
   ·rw[←hres,same (fun x hx h=>by rw[hkc] at hx;cases hx;exact c11 h.2.2)]
    simp-implicitDefEqProofs[hc,hk,o11,hac,a11,hxl,hkc,hcc,c11]
  ·rw[←hres,same (fun x hx h=>a11 h.2.1)]
   simp-implicitDefEqProofs[hc,hk,o11,hac,a11,hxl]
 obtain⟨a,b,hk⟩:∃a b,e.kids=[a,b]:=by
  obtain⟨l1,l2,l3,l4⟩:=ed hf
  have hln:0<e.kids.length:=SI.2 hne
  have o1:¬(e.op=1∨e.op=2):=by
   intro h
   rw[hiK,if_pos h] at l2;omega
  have e1:loK e.op=2:=by rw[loK,if_neg o1,if_neg (by omega),if_neg (by omega)]
  have e2:hiK e.op=2:=by rw[hiK,if_neg o1,if_neg (by omega),if_neg (by omega)]
  rw[e1] at l1
  rw[e2] at l2
  match hx:e.kids,l1,l2 with
  |[a,b],_,_=>exact⟨a,b,rfl⟩
 obtain⟨h3,h10⟩:=Cc hf hk (by omega)
 have hac:=a.cs_eq
 have hbc:=b.cs_eq
 have haf:=hkf a (by rw[hk];simp)
 have hbf:=hkf b (by rw[hk];simp)
 have hp:eG e.op e.n e.name e.kids=mQ e.op e.n e.name a b:=by
  unfold eG
  rw[if_neg (by omega),hk]
 rw[hp]
 simp-implicitDefEqProofs[K_impl_foldPart,F_impl_foldPart,hc,hxl,o12,o13,hk]
 refine lp (am 122 [(1,.ptr 0 4 0 0),(2,.ptr 1 4 0 0),(3,.ptr 2 4 0 0),(4,.ptr 3 4 0 0)])
  [.row 4 [[.p (.int .i64 e.op),.p (.int .i64 e.n),.p (.str e.name),.p (.lst 4 [a.cs,b.cs])]],.row 4 [[.p (.int .i64 0),.p (.int .i64 0),.p (.str []),.nils]],.row 4 [[.p (.int .i64 a.op),.p (.int .i64 a.n),.p (.str a.name),.p (exL a.kids)]],.row 4 [[.p (.int .i64 b.op),.p (.int .i64 b.n),.p (.str b.name),.p (exL b.kids)]]] ?_ ?_
 ·simp-implicitDefEqProofs[hac,hbc,w1']
  exact⟨ae (by simp) (by simp[okO,below]) (by simp[below]),bT [0,1,3,2] (by simp) (by decide) (by decide) (aG rfl (by simp[below]) (aG rfl (by simp[below]) (aG rfl (by simp[below]) (aG rfl (by simp[below]) br)))) (by simp[below,ren])⟩
 refine ox (fun _:Unit=>am 122 [(1,.ptr 0 4 0 0),(2,.ptr 1 4 0 0),(3,.ptr 2 4 0 0),(4,.ptr 3 4 0 0)]) (fun _=>[.row 4 [[.p (.int .i64 e.op),.p (.int .i64 e.n),.p (.str e.name),.p (.lst 4 [a.cs,b.cs])]],.row 4 [[.p (.int .i64 0),.p (.int .i64 0),.p (.str []),.nils]],.row 4 [[.p (.int .i64 a.op),.p (.int .i64 a.n),.p (.str a.name),.p (exL a.kids)]],.row 4 [[.p (.int .i64 b.op),.p (.int .i64 b.n),.p (.str b.name),.p (exL b.kids)]]]) (fun _=>(if a.op=1∧b.op=1 then ar5 e.op a.n b.n else none)=none) ?_ ?_
 ·by_cases a1:a.op=1
  ·by_cases b1:b.op=1
   ·have H:=KY G e.op a.n b.n h3 h10 (tc (jp haf)) (tc (jp hbf))
    have hp2:∀q,ar5 e.op a.n b.n=some q→mQ e.op e.n e.name a b=co q:=by
     intro q hq
     unfold mQ
     rw[if_pos ⟨a1,b1⟩,hq]
    cases hq:ar5 e.op a.n b.n with
    |none=>
     rw[hq] at H
     simp only[wK] at H
     simp-implicitDefEqProofs[a1,b1,hac,hbc]
     refine H.use ?_
     simp-implicitDefEqProofs[hq]
     exact ae (by simp) (by simp[okO,below]) (by simp[below])
    |some q=>
     rw[hq] at H
     simp only[wK] at H
     rw[hp2 q hq]
     simp-implicitDefEqProofs[a1,b1,hac,hbc]
     refine H.use ?_
     simp-implicitDefEqProofs[]
     refine(kM G _).use ?_
     simp-implicitDefEqProofs[hnc]
   ·simp-implicitDefEqProofs[a1,b1,hac,hbc]
    exact ae (by simp) (by simp[okO,below]) (by simp[below])
  ·simp-implicitDefEqProofs[a1,hac,hbc]
   exact ae (by simp) (by simp[okO,below]) (by simp[below])
 intro _ hn
 have hp2:mQ e.op e.n e.name a b=if e.op=10∧isN a 0=true then co 0 else if(e.op=3∨e.op=4)∧isN b 0=true∨(e.op=5∨e.op=6)∧isN b 1=true then a else if e.op=3∧isN a 0=true∨e.op=5∧isN a 1=true then b
  else if e.op=5∧(isN b 0=true∧eE a=true∨isN a 0=true∧eE b=true) then co 0 else e:=by
  unfold mQ
  rw[hn]
  simp only
  rw[←hk,←hem]
 rw[hp2]
 have HA0:=sk G a 0
 have HA1:=sk G a 1
 have HB0:=sk G b 0
 have HB1:=sk G b 1
 have HSA:=wj G hK hS (hkx a (by rw[hk];simp)) (hks a (by rw[hk];simp))
 have HSB:=wj G hK hS (hkx b (by rw[hk];simp)) (hks b (by rw[hk];simp))
 rw[hac] at HA0 HA1 HSA
 rw[hbc] at HB0 HB1 HSB
 simp only[Sb,List.map_nil,hxl] at HA0 HA1 HB0 HB1 HSA HSB
 simp only[hac,hbc,hxl]
 have ho:e.op=3∨e.op=4∨e.op=5∨e.op=6∨e.op=7∨e.op=8∨e.op=9∨e.op=10:=by omega
 rcases ho with ho|ho|ho|ho|ho|ho|ho|ho
 ·simp-implicitDefEqProofs[ho]
  refine HB0.use ?_
  by_cases hhb0:isN b 0=true
  ·simp-implicitDefEqProofs[hhb0,ho,hc,hxl,hk,hac,hbc]
  ·simp-implicitDefEqProofs[hhb0,ho,hc,hxl,hk,hac,hbc]
   refine HA0.use ?_
   by_cases hha0:isN a 0=true
   ·simp-implicitDefEqProofs[hha0,ho,hc,hxl,hk,hac,hbc]
   ·simp-implicitDefEqProofs[hha0,ho,hc,hxl,hk,hac,hbc]
 ·simp-implicitDefEqProofs[ho]
  refine HB0.use ?_
  by_cases hhb0:isN b 0=true
  ·simp-implicitDefEqProofs[hhb0,ho,hc,hxl,hk,hac,hbc]
  ·simp-implicitDefEqProofs[hhb0,ho,hc,hxl,hk,hac,hbc]
 ·simp-implicitDefEqProofs[ho]
  refine HB1.use ?_
  by_cases hhb1:isN b 1=true
  ·simp-implicitDefEqProofs[hhb1,ho,hc,hxl,hk,hac,hbc]
  ·simp-implicitDefEqProofs[hhb1,ho,hc,hxl,hk,hac,hbc]
   refine HA1.use ?_
   by_cases hha1:isN a 1=true
   ·simp-implicitDefEqProofs[hha1,ho,hc,hxl,hk,hac,hbc]
   ·simp-implicitDefEqProofs[hha1,ho,hc,hxl,hk,hac,hbc]
    refine HB0.use ?_
    by_cases hhb0:isN b 0=true
    ·simp-implicitDefEqProofs[hhb0,ho,hc,hxl,hk,hac,hbc]
     refine HSA.use ?_
     by_cases hhsa:eE a=true
     ·simp-implicitDefEqProofs[hhsa,ho,hc,hxl,hk,hac,hbc]
      refine(kM G _).use ?_
      simp-implicitDefEqProofs[hnc]
     ·simp-implicitDefEqProofs[hhsa,ho,hc,hxl,hk,hac,hbc]
      refine HA0.use ?_
      by_cases hha0:isN a 0=true
      ·simp-implicitDefEqProofs[hha0,ho,hc,hxl,hk,hac,hbc]
       refine HSB.use ?_
       by_cases hhsb:eE b=true
       ·simp-implicitDefEqProofs[hhsb,ho,hc,hxl,hk,hac,hbc]
        refine(kM G _).use ?_
        simp-implicitDefEqProofs[hnc]
       ·simp-implicitDefEqProofs[hhsb,ho,hc,hxl,hk,hac,hbc]
      ·simp-implicitDefEqProofs[hha0,ho,hc,hxl,hk,hac,hbc]
    ·simp-implicitDefEqProofs[hhb0,ho,hc,hxl,hk,hac,hbc]
     refine HA0.use ?_
     by_cases hha0:isN a 0=true
     ·simp-implicitDefEqProofs[hha0,ho,hc,hxl,hk,hac,hbc]
      refine HSB.use ?_
      by_cases hhsb:eE b=true
      ·simp-implicitDefEqProofs[hhsb,ho,hc,hxl,hk,hac,hbc]
       refine(kM G _).use ?_
       simp-implicitDefEqProofs[hnc]
      ·simp-implicitDefEqProofs[hhsb,ho,hc,hxl,hk,hac,hbc]
     ·simp-implicitDefEqProofs[hha0,ho,hc,hxl,hk,hac,hbc]
 ·simp-implicitDefEqProofs[ho]
  refine HB1.use ?_
  by_cases hhb1:isN b 1=true
  ·simp-implicitDefEqProofs[hhb1,ho,hc,hxl,hk,hac,hbc]
  ·simp-implicitDefEqProofs[hhb1,ho,hc,hxl,hk,hac,hbc]
 ·simp-implicitDefEqProofs[ho,hc,hxl,hk,hac,hbc]
 ·simp-implicitDefEqProofs[ho,hc,hxl,hk,hac,hbc]
 ·simp-implicitDefEqProofs[ho,hc,hxl,hk,hac,hbc]
 ·simp-implicitDefEqProofs[ho]
  refine HA0.use ?_
  by_cases hha0:isN a 0=true
  ·simp-implicitDefEqProofs[hha0,ho,hc,hxl,hk,hac,hbc]
   refine(kM G _).use ?_
   simp-implicitDefEqProofs[hnc]
  ·simp-implicitDefEqProofs[hha0,ho,hc,hxl,hk,hac,hbc]
end
section
theorem dF{α β:Type}(f:α→β):∀(l:List α) (u:Unit),bw (fun(st:Unit) x=>(f x,st)) u l=(l.map f,u)
 |[],u=>rfl
 |x::r,u=>by rw[bw,dF f r];rfl
def xn(f:FuncId)(h:List AO)(hh:∀o∈h,okO h.length o):Vis Unit where
 I:=fun _=>h
 n:=h.length
 F:=f
 caps:=[]
 len:=fun _=>rfl
 ok:=fun _=>hh
 capsOk:=trivial
variable (G:aM)
theorem Nd(hK:G dV=some dO)(hS:G cd=some [PV.tbl opK opV]):∀(d:Nat) (e:Ex),bp d e=true→d≤6→e.parts≤30→e.sz≤1073741824→VF Tryz.prog G iq [.agg (e.cs.map .p)] (.agg ((cC e).cs.map .p)):=by
 intro d
 induction d with
 |zero=>intro e h;cases h
 |succ d ih=>
  intro e hf hd hp hz
  have hc:=e.cs_eq
  have hpp:=e.parts_eq
  have hzz:=e.sz_eq
  have hlen:=bh e.kids
  rw[BO]
  refine AC.go BR ?_
  simp-implicitDefEqProofs[uK,hc]
  have HM:=mY G (xn iq [.row 4 [[.p (.int .i64 e.op),.p (.int .i64 e.n),.p (.str e.name),.p (exL e.kids)]],.row 4 [[.p (.int .i64 0),.p (.int .i64 0),.p (.str []),.nils]]] (by simp[okO,below])) (fun(st:Unit) x=>(cC x,st)) (fun _ _=>True) e.kids (by omega) (by show 0<2;omega)
   (fun i st hi _=>⟨trivial,by
     have hk:=RH hi
     have h1:=gG hk
     have h2:=aT hk
     exact(ih e.kids[i] (ga hf hk) (by omega) (by omega) (by omega)).ac (by simp[below]) (by simp[below]) _⟩) () trivial
  rw[dF,←dc] at HM
  refine HM.mono ?_
  rintro r h ⟨rfl,rfl⟩
  have H:VF Tryz.prog G gW [.agg [.p (.int .i64 e.op),.p (.int .i64 e.n),.p (.str e.name),.p (exL (aU e.kids))]] (.agg ((eG e.op e.n e.name (aU e.kids)).cs.map .p)):=by
   have h2:=mZ e.kids
   have h3:=nC e.kids
   have H0:=DM G hK hS (xK hf) hd (by rw[Ex.parts_eq];show 1+dU (aU e.kids)≤30;omega) (by
    rw[Ex.sz_eq]
    show 1+e.name.length+bC (aU e.kids)≤_
    omega)
   rw[Ex.cs_eq (.mk e.op e.n e.name (aU e.kids))] at H0
   exact H0
  simp-implicitDefEqProofs[aa,xn]
  refine H.use ?_
  have hq:=(eG e.op e.n e.name (aU e.kids)).cs_eq
  rw[hq]
  simp-implicitDefEqProofs[]
end
section
def K_spec_l6Fold:AK:= .seq (.reg [oJ 1 (.box 4 (.t 0)),oJ 2 (.alloc [(.p (.int .i64 0)),(.p (.int .i64 0)),(.p (.str [])),.nils])]) (.seq (.reg [oJ 5 (.bsl 4 [(.p (.int .i64 0)),(.p (.int .i64 0)),(.p (.str [])),.nils] 0 []),oM 3 5]) (.seq (.seq (.reg [oK 4 0]) (.blk 0 (.loop (.seq (.seq (.reg [oM 6 4,oF 7 3 1,oL 8 7,oJ 9 (.len false (.t 8)),oJ 10 (.bin .lss (.t 6) (.t 9))]) (.cond (.t 10) (.skip) (.exit 0))) (.seq (.blk 1 (.reg [oM 13 3,oF 14 3 1,oL 15 14,oM 16 4,oJ 17 (.idxS 4 (.t 15) (.t 16)),oJ 18 (.ld (some 4) (.t 17)),oJ 19 (.call ft [(.t 18)]),oJ 20 (.bsl 4 [(.p (.int .i64 0)),(.p (.int .i64 0)),(.p (.str [])),.nils] 1 [(0,4,(.t 19))]),oJ 21 (.app 4 56 (.t 13) (.t 20)),oM 3 21])) (.reg [oM 11 4,oJ 12 (.bin .add (.t 11) (.c (.p (.int .i64 1)))),oM 4 12])))))) (.cut (.reg [oM 22 3,oF 23 3 1,oS 23 22]) (.seq (.reg [oJ 24 (.ld (some 4) (.t 1)),oJ 25 (.call gE [(.t 24)]),⟨none,none,.st 4 (.t 2) (.t 25)⟩]) (.ret)))))
theorem yk:K_spec_l6Fold.whole=F_spec_l6Fold.ak:=rfl
def K_spec_l6Folds:AK:= .seq (.reg [oJ 2 (.mov (.c .nils))]) (.seq (.reg [oJ 8 (.bsl 5 [(.p (.int .i64 0)),(.p (.str [])),.nils,.nils,.nils] 0 []),oM 3 8]) (.seq (.seq (.reg [oK 4 0]) (.blk 0 (.loop (.seq (.seq (.reg [oM 9 4,oM 10 0,oJ 11 (.len false (.t 10)),oJ 12 (.bin .lss (.t 9) (.t 11))]) (.cond (.t 12) (.skip) (.exit 0))) (.seq (.blk 1 (.seq (.reg [oM 15 0,oM 16 4,oJ 17 (.idxS 5 (.t 15) (.t 16)),oJ 18 (.ld (some 5) (.t 17)),oJ 5 (.alloc [(.p (.int .i64 0)),(.p (.str [])),.nils,.nils,.nils]),⟨none,none,.st 5 (.t 5) (.t 18)⟩]) (.seq (.reg [oJ 19 (.bsl 4 [(.p (.int .i64 0)),(.p (.int .i64 0)),(.p (.str [])),.nils] 0 []),oM 6 19]) (.seq (.seq (.reg [oK 7 0]) (.blk 2 (.loop (.seq (.seq (.reg [oM 20 7,oF 21 2 5,oL 22 21,oJ 23 (.len false (.t 22)),oJ 24 (.bin .lss (.t 20) (.t 23))]) (.cond (.t 24) (.skip) (.exit 2))) (.seq (.blk 3 (.reg [oM 27 6,oF 28 2 5,oL 29 28,oM 30 7,oJ 31 (.idxS 4 (.t 29) (.t 30)),oJ 32 (.ld (some 4) (.t 31)),oJ 33 (.call ft [(.t 32)]),oJ 34 (.bsl 4 [(.p (.int .i64 0)),(.p (.int .i64 0)),(.p (.str [])),.nils] 1 [(0,4,(.t 33))]),oJ 35 (.app 4 56 (.t 27) (.t 34)),oM 6 35])) (.reg [oM 25 7,oJ 26 (.bin .add (.t 25) (.c (.p (.int .i64 1)))),oM 7 26])))))) (.cut (.reg [oM 36 6,oF 37 2 5,oS 37 36]) (.seq (.reg [oF 38 3 5,oL 39 38,oJ 40 (.call bM [(.t 39)]),oF 41 3 5,oS 41 40]) (.seq (.reg [oF 42 4 5,oL 43 42,oJ 44 (.call bM [(.t 43)]),oF 45 4 5,oS 45 44]) (.reg [oM 46 3,oJ 47 (.ld (some 5) (.t 5)),oJ 48 (.bsl 5 [(.p (.int .i64 0)),(.p (.str [])),.nils,.nils,.nils] 1 [(0,5,(.t 47))]),oJ 49 (.app 5 96 (.t 46) (.t 48)),oM 3 49])))))))) (.reg [oM 13 4,oJ 14 (.bin .add (.t 13) (.c (.p (.int .i64 1)))),oM 4 14])))))) (.seq (.reg [oM 50 3,oM 2 50]) (.ret))))
theorem yd:K_spec_l6Folds.whole=F_spec_l6Folds.ak:=rfl
variable (G:aM)
theorem uM{l:List Ex}{j:Nat}(h:j<l.length):aU (l.take (j+1))=aU (l.take j)++[cC l[j]]:=by
 rw[an h,dc,dc,List.map_append];rfl
theorem nW(l:List Ex):(aU l).length=l.length:=by rw[dc,RX]
theorem IL:∀(d:Nat) (e:Ex),bp d e=true→e.sz≤1099511627776→VF Tryz.prog G ft [.agg (e.cs.map .p)] (.agg ((cC e).cs.map .p)):=by
 intro d
 induction d with
 |zero=>intro e h;cases h
 |succ d ih=>
  intro e hf hz
  have hzz:=e.sz_eq
  have hlen:=bh e.kids
  have hc:=e.cs_eq
  have hxl:∀l,exL l= .lst 4 (l.map Ex.cs):=fun _=>rfl
  refine AC.goK yx yk ?_
  rw[BO]
  simp-implicitDefEqProofs[K_spec_l6Fold,F_spec_l6Fold,hc]
  refine aV (fun j:Nat=>am 26 [(1,.ptr 0 4 0 0),(2,.ptr 1 4 0 0),(3,.sl 2 4 0 j),(4,.p (.int .i64 j))])
   (fun j=>[.row 4 [[.p (.int .i64 e.op),.p (.int .i64 e.n),.p (.str e.name),.p (exL e.kids)]],.row 4 [[.p (.int .i64 0),.p (.int .i64 0),.p (.str []),.nils]],.row 4 (exR (aU (e.kids.take j)))])
   (fun j=>j≤e.kids.length) (fun j=>e.kids.length-j) 0 (by simp) ?_ ?_
  ·refine ae (h:=[_,_,.row 4 []]) (by simp) (by simp[okO,below]) (by simp[below])
  intro j hj
  have hrl:(exR (aU (e.kids.take j))).length=j:=by rw[vS,nW];simp;omega
  simp-implicitDefEqProofs[hxl]
  refine bf (fun h=>?_) (fun h=>?_)
  ·simp at h
   have hg:=RA h
   have hks:=aT (RH h)
   have hkc:=(cC e.kids[j]).cs_eq
   simp-implicitDefEqProofs[hg]
   refine(ih e.kids[j] (ga hf (RH h)) (by omega)).use ?_
   simp-implicitDefEqProofs[hkc,hrl]
   refine⟨⟨by omega,by omega⟩,j+1,by omega,by omega,?_⟩
   have htk:List.take j (exR (aU (e.kids.take j)))=exR (aU (e.kids.take j)):=RG (by omega)
   rw[uM h,vT,htk]
   have h1:exR [cC e.kids[j]]=[[.p (.int .i64 (cC e.kids[j]).op),.p (.int .i64 (cC e.kids[j]).n),.p (.str (cC e.kids[j]).name),.p (exL (cC e.kids[j]).kids)]]:=by rw[exR,Sq,hkc];rfl
   rw[h1]
   refine bT [0,1,4] (by simp) (by decide) (by decide) (aG rfl (by simp[below]) (aG rfl (by simp[below]) (aG rfl (fun x hx=>?_) br))) (by simp[below,ren,hxl,w1 (i:=j) (by omega)])
   rcases RJ.1 hx with h|h
   ·exact dL _ x h
   ·rw[RM.1 h];simp
  ·simp at h
   have hje:j=e.kids.length:=by omega
   subst hje
   rw[Sf] at hrl⊢
   simp-implicitDefEqProofs[]
   refine lp (am 26 [(1,.ptr 0 4 0 0),(2,.ptr 1 4 0 0)]) [.row 4 [[.p (.int .i64 e.op),.p (.int .i64 e.n),.p (.str e.name),.p (exL (aU e.kids))]],.row 4 [[.p (.int .i64 0),.p (.int .i64 0),.p (.str []),.nils]]] ?_ ?_
   ·simp-implicitDefEqProofs[]
    refine fM 2 (by omega) (by simp) rfl (.one (.keep (by simp[below]) (.keep (by simp[below]) (.keep (by simp[below]) (.one ?_ .nil)))) (.same (by simp[okO,below]) (.nil _))) ?_
    ·have hl2:=nW e.kids
     rw[←hl2]
     exact sf rfl
    ·exact⟨.keep (by simp[below]) .nil,.keep (by simp[below]) .nil,trivial⟩
   have H:VF Tryz.prog G gE [.agg [.p (.int .i64 e.op),.p (.int .i64 e.n),.p (.str e.name),.p (exL (aU e.kids))]] (.agg ((eG e.op e.n e.name (aU e.kids)).cs.map .p)):=by
    have H0:=IY G (xK hf) (by
     have h2:=mZ e.kids
     rw[Ex.sz_eq]
     show 1+e.name.length+bC (aU e.kids)≤_
     omega)
    rw[Ex.cs_eq (.mk e.op e.n e.name (aU e.kids))] at H0
    exact H0
   simp-implicitDefEqProofs[]
   refine H.use ?_
   have hq:=(eG e.op e.n e.name (aU e.kids)).cs_eq
   rw[hq]
   simp-implicitDefEqProofs[]
theorem CC{l:List Sm}{j:Nat}(h:j<l.length):aw (l.take (j+1))=aw (l.take j)++[cQ l[j]]:=by
 rw[an h,iv,iv,List.map_append];rfl
theorem rp(l:List Sm):(aw l).length=l.length:=by rw[iv,RX]
theorem uT(l:List Sm)(hf:∀x∈l,∀a∈x.args,bp 6 a=true)(hz:aq l≤1099511627776)
 (ih:∀x∈l,VF Tryz.prog G bM [.p (smL x.body)] (.p (smL (aw x.body)))∧VF Tryz.prog G bM [.p (smL x.els)] (.p (smL (aw x.els)))):VF Tryz.prog G bM [.p (smL l)] (.p (smL (aw l))):=by
 have hll:=bk l
 have hsl:∀l,smL l= .lst 5 (l.map Sm.cs):=fun _=>rfl
 have hxl:∀l,exL l= .lst 4 (l.map Ex.cs):=fun _=>rfl
 have key:AC Tryz.prog G bM [.p (smL l)] [] fun x h=>∃v,x= .ret v∧View h v (smL (aw l)):=by
  refine AC.goK xj yd ?_
  simp-implicitDefEqProofs[K_spec_l6Folds,F_spec_l6Folds]
  refine aV (fun i:Nat=>am 51 [(0,.p (smL l)),(3,.sl 0 5 0 i),(4,.p (.int .i64 i))]) (fun i=>[.row 5 (smR (aw (l.take i)))])
   (fun i=>i≤l.length) (fun i=>l.length-i) 0 (by simp) ?_ ?_
  ·refine ae (h:=[.row 5 []]) (by simp) (by simp[okO,below]) (by simp[below])
  intro i hi
  have hol:(smR (aw (l.take i))).length=i:=by rw[dd,rp];simp;omega
  simp-implicitDefEqProofs[hsl]
  refine bf (fun h=>?_) (fun h=>?_)
  ·simp at h
   have hg:=RA h
   have hat:=AN h
   have hse:=l[i].cs_eq
   have hsz:=l[i].sz_eq
   have hfx:=hf l[i] (RH h)
   have hix:=ih l[i] (RH h)
   have eR:=CC h
   have hfc:=(cQ l[i]).cs_eq
   rw[iD] at hfc
   simp only[Sm.op,Sm.name,Sm.args,Sm.body,Sm.els] at hfc
   generalize hgs:l[i]=s at hg hat hse hsz hfx hix eR hfc
   generalize aw (l.take i)=out at hol eR⊢
   simp-implicitDefEqProofs[hg,hse]
   refine aV (fun j:Nat=>am 51 [(0,.p (smL l)),(3,.sl 0 5 0 i),(4,.p (.int .i64 i)),(5,.ptr 1 5 0 0),(6,.sl 2 4 0 j),(7,.p (.int .i64 j))])
    (fun j=>[.row 5 (smR out),.row 5 [[.p (.int .i64 s.op),.p (.str s.name),.p (exL s.args),.p (smL s.body),.p (smL s.els)]],.row 4 (exR (aU (s.args.take j)))])
    (fun j=>j≤s.args.length) (fun j=>s.args.length-j) 0 (by simp) ?_ ?_
   ·refine ae (h:=[_,_,.row 4 []]) (by simp) (ag (bR (aQ out)) (ag (by simp[okO,below]) (by simp[okO,below]))) (by simp[below,hsl])
   intro j hj
   have hrl:(exR (aU (s.args.take j))).length=j:=by rw[vS,nW];simp;omega
   have hal:=bh s.args
   simp-implicitDefEqProofs[hxl]
   refine bf (fun hcc=>?_) (fun hcc=>?_)
   ·simp at hcc
    have hga:=RA hcc
    have hks:=aT (RH hcc)
    have hkc:=(cC s.args[j]).cs_eq
    simp-implicitDefEqProofs[hga]
    refine(IL G 6 s.args[j] (hfx _ (RH hcc)) (by omega)).use ?_
    simp-implicitDefEqProofs[hkc,hrl]
    refine⟨⟨by omega,by omega⟩,j+1,by omega,by omega,?_⟩
    have htk:List.take j (exR (aU (s.args.take j)))=exR (aU (s.args.take j)):=RG (by omega)
    rw[uM hcc,vT,htk]
    have h1:exR [cC s.args[j]]=[[.p (.int .i64 (cC s.args[j]).op),.p (.int .i64 (cC s.args[j]).n),.p (.str (cC s.args[j]).name),.p (exL (cC s.args[j]).kids)]]:=by rw[exR,Sq,hkc];rfl
    rw[h1]
    refine bT [0,1,4] (by simp) (by decide) (by decide) (aG rfl (aQ out) (aG rfl (by simp[below]) (aG rfl (fun x hx=>?_) br))) (by simp[below,ren,hxl,hsl,w1 (i:=j) (by omega)])
    rcases RJ.1 hx with h|h
    ·exact dL _ x h
    ·rw[RM.1 h];simp
   simp at hcc
   have hje:j=s.args.length:=by omega
   subst hje
   rw[Sf] at hrl⊢
   simp-implicitDefEqProofs[]
   refine lp (am 51 [(0,.p (smL l)),(3,.sl 0 5 0 i),(4,.p (.int .i64 i)),(5,.ptr 1 5 0 0)])
    [.row 5 (smR out),.row 5 [[.p (.int .i64 s.op),.p (.str s.name),.p (exL (aU s.args)),.p (smL s.body),.p (smL s.els)]]] ?_ ?_
   ·simp-implicitDefEqProofs[]
    refine fM 2 (by omega) (by simp) rfl (.same (bR (aQ out)) (.one (.keep (by simp[below]) (.keep (by simp[below]) (.one ?_ (.keep (by simp[below]) (.keep (by simp[below]) .nil))))) (.nil _))) ?_
    ·have hl2:=nW s.args
     rw[←hl2]
     exact sf rfl
    ·exact⟨.keep (by simp[below]) .nil,.keep (by simp[below]) .nil,.keep (by simp[below]) .nil,.keep (by simp[below]) .nil,trivial⟩
   simp-implicitDefEqProofs[]
   refine hix.1.use ?_
   simp-implicitDefEqProofs[]
   refine hix.2.use ?_
   simp-implicitDefEqProofs[hol]
   refine⟨⟨by omega,by omega⟩,i+1,by omega,by omega,?_⟩
   have htk:List.take i (smR out)=smR out:=RG (by omega)
   rw[eR,nV,htk]
   have h1:smR [cQ s]=[[.p (.int .i64 s.op),.p (.str s.name),.p (exL (aU s.args)),.p (smL (aw s.body)),.p (smL (aw s.els))]]:=by rw[smR,Sq,iD,Sm.cs_eq];rfl
   rw[h1]
   refine bT [3] (by simp) (by decide) (by decide) (aG rfl (fun x hx=>?_) br) (by simp[below,ren,hsl,w1 (i:=i) (by omega)])
   rcases RJ.1 hx with h|h
   ·exact aQ out x h
   ·rw[RM.1 h];simp
  ·simp at h
   have hie:i=l.length:=by omega
   subst hie
   rw[Sf] at hol⊢
   simp-implicitDefEqProofs[]
   have hl2:=rp l
   rw[←hl2]
   exact fm rfl
 refine key.freezeR (fun t v h ⟨_,e,_⟩=>by cases e) fun v h ⟨u,e1,e2⟩=>?_
 cases e1
 exact .one e2 .nil
theorem GV:∀(d:Nat) (l:List Sm),(∀x∈l,au d x=true)→aq l≤1099511627776→VF Tryz.prog G bM [.p (smL l)] (.p (smL (aw l))):=by
 intro d
 induction d with
 |zero=>
  intro l hf hz
  exact uT G l (fun x hx=>by have:=hf x hx;cases this) hz (fun x hx=>by have:=hf x hx;cases this)
 |succ d ih=>
  intro l hf hz
  refine uT G l (fun x hx=>ye (hf x hx)) hz (fun x hx=>?_)
  have h1:=bD hx
  have h2:=x.sz_eq
  exact⟨ih x.body (lK (hf x hx)) (by omega),ih x.els (nq (hf x hx)) (by omega)⟩
end
section
def K_spec_l6Cuts:AK:= .seq (.reg [oJ 2 (.mov (.c .nils))]) (.seq (.reg [oJ 7 (.bsl 5 [(.p (.int .i64 0)),(.p (.str [])),.nils,.nils,.nils] 0 []),oM 3 7]) (.seq (.seq (.reg [oK 4 0]) (.blk 0 (.loop (.seq (.seq (.reg [oM 8 4,oM 9 0,oJ 10 (.len false (.t 9)),oJ 11 (.bin .lss (.t 8) (.t 10))]) (.cond (.t 11) (.skip) (.exit 0))) (.seq (.blk 1 (.seq (.reg [oM 14 0,oM 15 4,oJ 16 (.idxS 5 (.t 14) (.t 15)),oJ 17 (.ld (some 5) (.t 16)),oJ 5 (.alloc [(.p (.int .i64 0)),(.p (.str [])),.nils,.nils,.nils]),⟨none,none,.st 5 (.t 5) (.t 17)⟩]) (.seq (.reg [oF 18 2 5,oL 19 18,oJ 20 (.idxS 4 (.t 19) (.c (.p (.int .i64 0)))),oJ 21 (.ld (some 4) (.t 20)),oJ 6 (.alloc [(.p (.int .i64 0)),(.p (.int .i64 0)),(.p (.str [])),.nils]),⟨none,none,.st 4 (.t 6) (.t 21)⟩]) (.seq (.reg [oF 22 3 5,oL 23 22,oJ 24 (.call cb [(.t 23)]),oF 25 3 5,oS 25 24]) (.seq (.reg [oF 26 4 5,oL 27 26,oJ 28 (.call cb [(.t 27)]),oF 29 4 5,oS 29 28]) (.cut (.seq (.reg [oF 30 0 5,oL 31 30,oJ 32 (.bin .eql (.t 31) (.c (.p (.int .i64 6)))),oM 33 32,⟨(some 34),some (33,true),.ld (some 4) (.t 6)⟩,⟨(some 35),some (33,true),.call bs [(.t 34),(.c (.p (.int .i64 0)))]⟩,oJ 36 (.pick (.t 33) (.t 35) (.c (.p (.bool false))))]) (.cond (.t 36) (.exit 1) (.skip))) (.cut (.seq (.reg [oF 37 0 5,oL 38 37,oJ 39 (.bin .eql (.t 38) (.c (.p (.int .i64 5)))),oM 40 39,⟨(some 41),some (40,true),.fldA 0 (.t 6)⟩,⟨(some 42),some (40,true),.ld none (.t 41)⟩,⟨(some 43),some (40,true),.bin .eql (.t 42) (.c (.p (.int .i64 1)))⟩,oJ 44 (.pick (.t 40) (.t 43) (.c (.p (.bool false))))]) (.cond (.t 44) (.seq (.reg [oF 45 1 6,oL 46 45,oJ 47 (.bin .neq (.t 46) (.c (.p (.int .i64 0))))]) (.cond (.t 47) (.reg [oJ 48 (.bsl 5 [(.p (.int .i64 0)),(.p (.str [])),.nils,.nils,.nils] 0 []),oF 49 4 5,oS 49 48]) (.reg [oJ 50 (.bsl 5 [(.p (.int .i64 0)),(.p (.str [])),.nils,.nils,.nils] 0 []),oF 51 3 5,oS 51 50]))) (.skip))) (.seq (.reg [oM 52 3,oJ 53 (.ld (some 5) (.t 5)),oJ 54 (.bsl 5 [(.p (.int .i64 0)),(.p (.str [])),.nils,.nils,.nils] 1 [(0,5,(.t 53))]),oJ 55 (.app 5 96 (.t 52) (.t 54)),oM 3 55]) (.seq (.reg [oF 56 0 5,oL 57 56,oJ 58 (.bin .eql (.t 57) (.c (.p (.int .i64 7))))]) (.cond (.t 58) (.exit 0) (.skip))))))))))) (.reg [oM 12 4,oJ 13 (.bin .add (.t 12) (.c (.p (.int .i64 1)))),oM 4 13])))))) (.seq (.reg [oM 59 3,oM 2 59]) (.ret))))
theorem yy:K_spec_l6Cuts.whole=F_spec_l6Cuts.ak:=rfl
def nb7(l:List Sm):Prop:=∀x∈l,x.op≠7
theorem tT:∀{a b:List Sm},nb7 a→aH (a++b)=aH a++aH b
 |[],b,_=>by rw[aH];rfl
 |x::r,b,h=>by
  have h2:=tT (a:=r) (b:=b) (fun y hy=>h y (by simp[hy]))
  rw[Sj,bW,bW,if_neg (h x (by simp)),if_neg (h x (by simp)),h2]
  split<;>rfl
theorem tH{x:Sm}{r:List Sm}:aH (x::r)=if fb x=true then aH r else if x.op=7 then[cr x] else cr x::aH r:=by
 rw[bW]
 split
 ·rfl
 ·split<;>rfl
theorem zi:∀l:List Sm,(aH l).length≤l.length
 |[]=>by rw[aH];exact RN _
 |x::r=>by
  have h:=zi r
  rw[bW]
  split
  ·simp;omega
  ·split
   ·simp
   ·simp;exact h
theorem Me(x:Sm):(cr x).cs=[.int .i64 x.op,.str x.name,exL x.args,smL (cr x).body,smL (cr x).els]:=by rw[Sm.cs_eq,gl,mR,jx]
variable (G:aM)
theorem yc(l:List Sm)(hf:∀x∈l,x.args≠[])(hz:aq l≤1099511627776)
 (ih:∀x∈l,VF Tryz.prog G cb [.p (smL x.body)] (.p (smL (aH x.body)))∧VF Tryz.prog G cb [.p (smL x.els)] (.p (smL (aH x.els)))):VF Tryz.prog G cb [.p (smL l)] (.p (smL (aH l))):=by
 have hll:=bk l
 have hsl:∀l,smL l= .lst 5 (l.map Sm.cs):=fun _=>rfl
 have hxl:∀l,exL l= .lst 4 (l.map Ex.cs):=fun _=>rfl
 have key:AC Tryz.prog G cb [.p (smL l)] [] fun x h=>∃v,x= .ret v∧View h v (smL (aH l)):=by
  refine AC.goK yq yy ?_
  simp-implicitDefEqProofs[K_spec_l6Cuts,F_spec_l6Cuts]
  refine aV (fun i:Nat=>am 60 [(0,.p (smL l)),(3,.sl 0 5 0 (aH (l.take i)).length),(4,.p (.int .i64 i))]) (fun i=>[.row 5 (smR (aH (l.take i)))])
   (fun i=>i≤l.length∧nb7 (l.take i)) (fun i=>l.length-i) 0 ⟨by simp,fun x hx=>by simp at hx⟩ ?_ ?_
  ·have e0:aH (l.take 0)=[]:=by rw[List.take_zero,aH]
   rw[e0]
   refine ae (h:=[.row 5 []]) (by simp) (by simp[okO,below]) (by simp[below])
  rintro i ⟨hi,hnb⟩
  have hol:(smR (aH (l.take i))).length=(aH (l.take i)).length:=by rw[dd]
  have hle:(aH (l.take i)).length≤i:=by have:=zi (l.take i);rw[RZ] at this;omega
  simp-implicitDefEqProofs[hsl]
  refine bf (fun h=>?_) (fun h=>?_)
  ·simp at h
   have hg:=RA h
   have hat:=AN h
   have hse:=l[i].cs_eq
   have hsz:=l[i].sz_eq
   have hfx:=hf l[i] (RH h)
   have hix:=ih l[i] (RH h)
   have htk:=an h
   have hdr:=Sz h
   have hsplit:=Sk i l
   generalize hgs:l[i]=s at hg hat hse hsz hfx hix htk hdr
   have hcs:=Me s
   obtain⟨a,r,ha⟩:∃a r,s.args=a::r:=by
    match hx:s.args,hfx with
    |a::r,_=>exact⟨a,r,rfl⟩
   have hac:=a.cs_eq
   have HI:=wW G a 0
   rw[hac] at HI
   simp only[Sb,List.map_nil] at HI
   have hNa:∀n,fW s n=isN a n:=fun n=>by rw[fW,ha]
   have hCa:jZ s=decide (a.op=1):=by rw[jZ,ha]
   have hzl:fb s=(decide (s.op=6)&&isN a 0):=by rw[fb,hNa]
   have eall:aH l=aH (l.take i)++aH (s::l.drop (i+1)):=by
    conv=>lhs;rw[←hsplit,hdr]
    exact tT hnb
   have enxt:aH (l.take (i+1))=aH (l.take i)++aH [s]:=by rw[htk];exact tT hnb
   generalize aH (l.take i)=out at hol hle eall enxt⊢
   simp-implicitDefEqProofs[hg,hse,hxl,ha,hac]
   refine hix.1.use ?_
   simp-implicitDefEqProofs[]
   refine hix.2.use ?_
   simp-implicitDefEqProofs[]
   refine ox (fun _:Unit=>am 60 [(0,.p (smL l)),(3,.sl 0 5 0 out.length),(4,.p (.int .i64 i)),(5,.ptr 1 5 0 0),(6,.ptr 2 4 0 0)])
    (fun _=>[AO.row 5 (smR out),.row 5 [[.p (.int .i64 s.op),.p (.str s.name),.p (.lst 4 ([.int .i64 a.op,.int .i64 a.n,.str a.name,.lst 4 (a.kids.map Ex.cs)]::r.map Ex.cs)),.p (smL (aH s.body)),.p (smL (aH s.els))]],.row 4 [[.p (.int .i64 a.op),.p (.int .i64 a.n),.p (.str a.name),.p (.lst 4 (a.kids.map Ex.cs))]]])
    (fun _=>fb s=false) ?_ ?_
   ·by_cases o6:s.op=6
    ·simp-implicitDefEqProofs[o6]
     refine HI.use ?_
     by_cases h0:isN a 0=true
     ·have ez:fb s=true:=by rw[hzl,h0,o6];rfl
      have e1:aH [s]=[]:=by rw[tH,if_pos ez,aH]
      rw[e1,Ss] at enxt
      simp-implicitDefEqProofs[h0]
      refine⟨i+1,⟨by omega,?_⟩,by omega,?_⟩
      ·rw[htk]
       intro x hx
       rcases RJ.1 hx with hx|hx
       ·exact hnb x hx
       ·rw[RM.1 hx,o6];omega
      ·rw[enxt]
       refine nv [0] rfl (by decide) (aG rfl (aQ out) br) (by simp[below,ren,hsl,w1 (i:=i) (by omega)])
     ·have h0:isN a 0=false:=by simpa using h0
      simp-implicitDefEqProofs[h0,hzl]
      exact ae (by simp) (ag (bR (aQ out)) (ag (by simp[okO,below]) (ag (by simp[okO,below]) dQ))) (by simp[below,hsl])
    ·simp-implicitDefEqProofs[o6,hzl]
     exact ae (by simp) (ag (bR (aQ out)) (ag (by simp[okO,below]) (ag (by simp[okO,below]) dQ))) (by simp[below,hsl])
   intro _ hzf
   refine lp (am 60 [(0,.p (smL l)),(3,.sl 0 5 0 out.length),(4,.p (.int .i64 i)),(5,.ptr 1 5 0 0)])
    [AO.row 5 (smR out),.row 5 [[.p (.int .i64 s.op),.p (.str s.name),.p (.lst 4 ([.int .i64 a.op,.int .i64 a.n,.str a.name,.lst 4 (a.kids.map Ex.cs)]::r.map Ex.cs)),.p (smL (cr s).body),.p (smL (cr s).els)]]] ?_ ?_
   ·rw[nY,lC,hNa,hCa]
    by_cases o5:s.op=5
    ·by_cases a1:a.op=1
     ·by_cases a0:a.n=0
      ·have hn:isN a 0=true:=isN_iff.2 ⟨a1,a0⟩
       simp-implicitDefEqProofs[o5,a1,a0,hn]
       refine fM 2 (by omega) (by simp) rfl (.same (bR (aQ out)) (.one (.keep (by simp[below]) (.keep (by simp[below]) (.keep (by simp[below]) (.one ?_ (.keep (by simp[below]) .nil))))) (.nil _))) ?_
       ·exact fm (l:=[]) rfl
       ·exact⟨.keep (by simp[below,hsl]) .nil,.keep (by simp[below]) .nil,.keep (by simp[below]) .nil,.keep (by simp[below]) .nil,trivial⟩
      ·have hn:isN a 0=false:=by
        rw[isN];simp[a1,a0]
       simp-implicitDefEqProofs[o5,a1,a0,hn]
       refine fM 2 (by omega) (by simp) rfl (.same (bR (aQ out)) (.one (.keep (by simp[below]) (.keep (by simp[below]) (.keep (by simp[below]) (.keep (by simp[below]) (.one ?_ .nil))))) (.nil _))) ?_
       ·exact fm (l:=[]) rfl
       ·exact⟨.keep (by simp[below,hsl]) .nil,.keep (by simp[below]) .nil,.keep (by simp[below]) .nil,.keep (by simp[below]) .nil,trivial⟩
     ·have hn:isN a 0=false:=by
       rw[isN];simp[a1]
      simp-implicitDefEqProofs[o5,a1,hn]
      exact nv [0,1] rfl (by decide) (aG rfl (aQ out) (aG rfl (by simp[below]) br)) (by simp[below,ren,hsl])
    ·simp-implicitDefEqProofs[o5]
     exact nv [0,1] rfl (by decide) (aG rfl (aQ out) (aG rfl (by simp[below]) br)) (by simp[below,ren,hsl])
   simp-implicitDefEqProofs[hol]
   refine⟨⟨by omega,by omega⟩,?_⟩
   have htk2:List.take out.length (smR out)=smR out:=RG (by omega)
   have h1:smR [cr s]=[[.p (.int .i64 s.op),.p (.str s.name),.p (.lst 4 ([.int .i64 a.op,.int .i64 a.n,.str a.name,.lst 4 (a.kids.map Ex.cs)]::r.map Ex.cs)),.p (smL (cr s).body),.p (smL (cr s).els)]]:=by
    have e3:exL s.args= .lst 4 ([.int .i64 a.op,.int .i64 a.n,.str a.name,.lst 4 (a.kids.map Ex.cs)]::r.map Ex.cs):=by rw[ha,hxl,Sb,hac,hxl]
    rw[smR,Sq,hcs,e3];rfl
   have h2:smR out++[[.p (.int .i64 s.op),.p (.str s.name),.p (.lst 4 ([.int .i64 a.op,.int .i64 a.n,.str a.name,.lst 4 (a.kids.map Ex.cs)]::r.map Ex.cs)),.p (smL (cr s).body),.p (smL (cr s).els)]]=smR (out++[cr s]):=by rw[nV,h1]
   rw[htk2,h2]
   refine bf (fun h7=>?_) (fun h7=>?_)
   ·simp at h7
    have e1:aH l=out++[cr s]:=by rw[eall,tH,if_neg (by rw[hzf];simp),if_pos h7]
    have e2:out.length+1=(aH l).length:=by rw[e1];simp
    simp-implicitDefEqProofs[]
    rw[←e1,e2]
    exact fm rfl
   ·simp at h7
    have e1:aH [s]=[cr s]:=by rw[tH,if_neg (by rw[hzf];simp),if_neg h7,aH]
    rw[e1] at enxt
    have e2:out.length+1=(out++[cr s]).length:=by simp
    simp-implicitDefEqProofs[]
    refine⟨i+1,⟨by omega,?_⟩,by omega,?_⟩
    ·rw[htk]
     intro x hx
     rcases RJ.1 hx with hx|hx
     ·exact hnb x hx
     ·rw[RM.1 hx];exact h7
    ·rw[enxt]
     refine bT [3] (by simp) (by decide) (by decide) (aG rfl (aQ _) br) (by simp[below,ren,hsl,w1 (i:=i) (by omega)])
  ·simp at h
   have hie:i=l.length:=by omega
   subst hie
   rw[Sf] at hol⊢
   simp-implicitDefEqProofs[]
   exact fm rfl
 refine key.freezeR (fun t v h ⟨_,e,_⟩=>by cases e) fun v h ⟨u,e1,e2⟩=>?_
 cases e1
 exact .one e2 .nil
theorem CK{d:Nat}{x:Sm}(h:au d x=true):x.args≠[]:=by
 obtain⟨d,rfl⟩:=rR h
 rw[au,RL,RL] at h
 have h1:=h.1.1
 simp only[eU,RL,decide_eq_true_eq] at h1
 have h2:=h1.1.1.1.1.1.1.2
 intro e
 rw[e] at h2
 simp only[List.length_nil,jc] at h2
 split at h2<;>omega
theorem Jo:∀(d:Nat) (l:List Sm),(∀x∈l,au d x=true)→aq l≤1099511627776→VF Tryz.prog G cb [.p (smL l)] (.p (smL (aH l))):=by
 intro d
 induction d with
 |zero=>
  intro l hf hz
  exact yc G l (fun x hx=>by have:=hf x hx;cases this) hz (fun x hx=>by have:=hf x hx;cases this)
 |succ d ih=>
  intro l hf hz
  refine yc G l (fun x hx=>CK (hf x hx)) hz (fun x hx=>?_)
  have h1:=bD hx
  have h2:=x.sz_eq
  exact⟨ih x.body (lK (hf x hx)) (by omega),ih x.els (nq (hf x hx)) (by omega)⟩
end
section
def K_impl_cutBlock:AK:= .seq (.reg [oJ 2 (.mov (.c .nils))]) (.seq (.reg [oJ 3 (.mov (.c .nils))]) (.seq (.seq (.reg [oM 6 0,oJ 7 (.len false (.t 6)),oK 8 0]) (.blk 0 (.loop (.seq (.reg [oJ 9 (.bin .lss (.t 8) (.t 7))]) (.seq (.cond (.t 9) (.skip) (.exit 0)) (.seq (.blk 1 (.seq (.reg [oJ 10 (.idxS 5 (.t 6) (.t 8)),oJ 11 (.ld (some 5) (.t 10)),oJ 5 (.alloc [(.p (.int .i64 0)),(.p (.str [])),.nils,.nils,.nils]),⟨none,none,.st 5 (.t 5) (.t 11)⟩]) (.cut (.blk 2 (.seq (.reg [oF 13 0 5,oL 14 13,oJ 15 (.bin .eql (.t 14) (.c (.p (.int .i64 6)))),oM 16 15,⟨(some 17),some (16,true),.fldA 2 (.t 5)⟩,⟨(some 18),some (16,true),.ld none (.t 17)⟩,⟨(some 19),some (16,true),.idxS 4 (.t 18) (.c (.p (.int .i64 0)))⟩,⟨(some 20),some (16,true),.ld (some 4) (.t 19)⟩,⟨(some 21),some (16,true),.call aP [(.t 20),(.c (.p (.int .i64 0)))]⟩,oJ 22 (.pick (.t 16) (.t 21) (.c (.p (.bool false)))),oM 12 22]) (.cond (.t 12) (.exit 1) (.seq (.reg [oF 24 0 5,oL 25 24,oJ 26 (.bin .eql (.t 25) (.c (.p (.int .i64 5)))),oM 27 26,⟨(some 28),some (27,true),.fldA 2 (.t 5)⟩,⟨(some 29),some (27,true),.ld none (.t 28)⟩,⟨(some 30),some (27,true),.idxS 4 (.t 29) (.c (.p (.int .i64 0)))⟩,⟨(some 31),some (27,true),.ld (some 4) (.t 30)⟩,⟨(some 32),some (27,true),.call aP [(.t 31),(.c (.p (.int .i64 0)))]⟩,oJ 33 (.pick (.t 27) (.t 32) (.c (.p (.bool false)))),oM 23 33]) (.cond (.t 23) (.reg [oF 34 3 5,⟨none,none,.st 1 (.t 34) (.c .nils)⟩]) (.seq (.reg [oF 36 0 5,oL 37 36,oJ 38 (.bin .eql (.t 37) (.c (.p (.int .i64 5)))),oM 39 38,⟨(some 40),some (39,true),.fldA 2 (.t 5)⟩,⟨(some 41),some (39,true),.ld none (.t 40)⟩,⟨(some 42),some (39,true),.idxS 4 (.t 41) (.c (.p (.int .i64 0)))⟩,⟨(some 43),some (39,true),.fldA 0 (.t 42)⟩,⟨(some 44),some (39,true),.ld none (.t 43)⟩,⟨(some 45),some (39,true),.bin .eql (.t 44) (.c (.p (.int .i64 1)))⟩,oJ 46 (.pick (.t 39) (.t 45) (.c (.p (.bool false)))),oM 35 46]) (.cond (.t 35) (.reg [oF 47 4 5,⟨none,none,.st 1 (.t 47) (.c .nils)⟩]) (.skip)))))))) (.seq (.reg [oM 48 3,oJ 49 (.ld (some 5) (.t 5)),oJ 50 (.bsl 5 [(.p (.int .i64 0)),(.p (.str [])),.nils,.nils,.nils] 1 [(0,5,(.t 49))]),oJ 51 (.app 5 96 (.t 48) (.t 50)),oM 3 51]) (.seq (.reg [oF 52 0 5,oL 53 52,oJ 54 (.bin .eql (.t 53) (.c (.p (.int .i64 7))))]) (.cond (.t 54) (.exit 0) (.skip))))))) (.reg [oJ 55 (.bin .add (.t 8) (.c (.p (.int .i64 1)))),oM 8 55]))))))) (.seq (.reg [oM 56 3,oM 2 56]) (.ret))))
theorem vD:K_impl_cutBlock.whole=F_impl_cutBlock.ak:=rfl
def gO(x:Sm):Sm:= .mk x.op x.name x.args (if x.op=5∧fW x 0=true then[] else x.body) (if x.op=5∧fW x 0=false∧jZ x=true then[] else x.els)
def ey:List Sm→List Sm
 |[]=>[]
 |x::r=>if fb x=true then ey r else gO x::(if x.op=7 then[] else ey r)
def inS(H:List Sm→List Sm)(x:Sm):Sm:= .mk x.op x.name x.args (H x.body) (H x.els)
theorem EX:∀l:List Sm,ey (l.map (inS aH))=aH l
 |[]=>by rw[aH];rfl
 |x::r=>by
  have hz:fb (inS aH x)=fb x:=rfl
  have ha:gO (inS aH x)=cr x:=by
   obtain⟨o,s,a,bd,el⟩:=x
   rw[cr];rfl
  rw[Sb,ey,bW,EX r,hz,ha]
  rfl
theorem xQ:∀{a b:List Sm},nb7 a→ey (a++b)=ey a++ey b
 |[],b,_=>rfl
 |x::r,b,h=>by
  have h2:=xQ (a:=r) (b:=b) (fun y hy=>h y (by simp[hy]))
  rw[Sj,ey,ey,if_neg (h x (by simp)),if_neg (h x (by simp)),h2]
  split<;>rfl
theorem CI:∀l:List Sm,(ey l).length≤l.length
 |[]=>RN _
 |x::r=>by
  have h:=CI r
  rw[ey]
  split
  ·simp;omega
  ·split
   ·simp
   ·simp;exact h
variable (G:aM)
theorem Cy{o0:AO}(ho0:okO 0 o0)(l:List Sm)(hf:∀x∈l,x.args≠[])(hz:l.length≤1073741824):AC Tryz.prog G bv [.p (smL l)] [o0] fun x h=>∃id,1≤id∧x= .ret (slE id 5 (smR (ey l)))∧h[0]?=some o0∧h[id]?=some (bx 5 (smR (ey l))):=by
 have hsl:∀l,smL l= .lst 5 (l.map Sm.cs):=fun _=>rfl
 have hxl:∀l,exL l= .lst 4 (l.map Ex.cs):=fun _=>rfl
 ·show AC Tryz.prog G bv [.p (smL l)] [o0] fun x h=>∃id,1≤id∧x= .ret (slE id 5 (smR (ey l)))∧h[0]?=some o0∧h[id]?=some (bx 5 (smR (ey l)))
  refine AC.goK vn vD ?_
  simp-implicitDefEqProofs[K_impl_cutBlock,F_impl_cutBlock,hsl]
  refine aV (fun i:Nat=>am 57 [(3,slE 1 5 (smR (ey (l.take i)))),(6,.p (smL l)),(7,.p (.int .i64 l.length)),(8,.p (.int .i64 i))]) (fun i=>[o0,bx 5 (smR (ey (l.take i)))])
   (fun i=>i≤l.length∧nb7 (l.take i)) (fun i=>l.length-i) 0 ⟨by simp,fun x hx=>by simp at hx⟩ ?_ ?_
  ·have e1:slE 1 5 (smR (ey (l.take 0)))= .nils:=rfl
   have e2:bx 5 (smR (ey (l.take 0)))= .dead:=rfl
   rw[e1,e2]
   exact gJ (h:=[o0]) (by simp) (by simp) (by simpa using bR ho0) (by simp[below,hsl])
  rintro i ⟨hi,hnb⟩
  have hle:(ey (l.take i)).length≤i:=by have:=CI (l.take i);rw[RZ] at this;omega
  have hol:(smR (ey (l.take i))).length=(ey (l.take i)).length:=by rw[dd]
  simp-implicitDefEqProofs[hsl]
  refine bf (fun h=>?_) (fun h=>?_)
  ·simp at h
   have hg:=RA h
   have hse:=l[i].cs_eq
   have hfx:=hf l[i] (RH h)
   have htk:=an h
   have hdr:=Sz h
   have hsplit:=Sk i l
   generalize hgs:l[i]=s at hg hse hfx htk hdr
   obtain⟨a,r,ha⟩:∃a r,s.args=a::r:=by
    match hx:s.args,hfx with
    |a::r,_=>exact⟨a,r,rfl⟩
   have hac:=a.cs_eq
   have HI:=sk G a 0
   rw[hac] at HI
   simp only[Sb,List.map_nil,hxl] at HI
   have hNa:∀n,fW s n=isN a n:=fun n=>by rw[fW,ha]
   have hCa:jZ s=decide (a.op=1):=by rw[jZ,ha]
   have hzl:fb s=(decide (s.op=6)&&isN a 0):=by rw[fb,hNa]
   have eall:ey l=ey (l.take i)++ey (s::l.drop (i+1)):=by
    conv=>lhs;rw[←hsplit,hdr]
    exact xQ hnb
   have enxt:ey (l.take (i+1))=ey (l.take i)++ey [s]:=by rw[htk];exact xQ hnb
   generalize ey (l.take i)=out at hol hle eall enxt⊢
   simp-implicitDefEqProofs[hg,hse,hxl,ha,hac]
   have enil:smL []= .lst 5 []:=rfl
   refine ox (fun _:Unit=>am 57 [(3,slE 1 5 (smR out)),(5,.ptr 2 5 0 0),(6,.p (smL l)),(7,.p (.int .i64 l.length)),(8,.p (.int .i64 i))])
    (fun _=>[o0,bx 5 (smR out),.row 5 [[.p (.int .i64 s.op),.p (.str s.name),.p (.lst 4 ([.int .i64 a.op,.int .i64 a.n,.str a.name,.lst 4 (a.kids.map Ex.cs)]::r.map Ex.cs)),.p (smL (gO s).body),.p (smL (gO s).els)]]]) (fun _=>fb s=false) ?_ ?_
   ·have hb:(gO s).body=if s.op=5∧isN a 0=true then[] else s.body:=by rw[gO,←hNa];rfl
    have hee:(gO s).els=if s.op=5∧isN a 0=false∧decide (a.op=1)=true then[] else s.els:=by rw[gO,←hNa,←hCa];rfl
    by_cases o6:s.op=6
    ·have o5:¬s.op=5:=by omega
     rw[hb,hee,if_neg (by omega),if_neg (by omega)]
     simp-implicitDefEqProofs[o6]
     refine HI.use ?_
     by_cases h0:isN a 0=true
     ·have ez:fb s=true:=by rw[hzl,h0,o6];rfl
      have e1:ey [s]=[]:=by rw[ey,if_pos ez];rfl
      rw[e1,Ss] at enxt
      simp-implicitDefEqProofs[h0]
      refine⟨i+1,⟨by omega,?_⟩,by omega,?_⟩
      ·rw[htk]
       intro x hx
       rcases RJ.1 hx with hx|hx
       ·exact hnb x hx
       ·rw[RM.1 hx,o6];omega
      ·rw[enxt]
       exact bT [0,1] (by simp) (by decide) (by decide) (dB rfl ho0 (sw rfl (aQ out) br)) (by simp[below,ren,hsl,w1 (i:=i) (by omega)])
     ·have h0:isN a 0=false:=by simpa using h0
      simp-implicitDefEqProofs[h0,hzl]
      exact bT [0,1,2] (by simp) (by decide) (by decide) (dB rfl ho0 (sw rfl (aQ out) (aG rfl (by simp[below]) br))) (by simp[below,ren,hsl])
    ·have hz0:fb s=false:=by rw[hzl];simp[o6]
     by_cases o5:s.op=5
     ·rw[hb,hee]
      by_cases h0:isN a 0=true
      ·simp-implicitDefEqProofs[o5,hz0]
       refine HI.use ?_
       simp-implicitDefEqProofs[h0]
       refine fM 3 (by omega) (by simp) rfl (.same (bR ho0) (.same (bR (AU (aQ out))) (.one (.keep (by simp[below]) (.keep (by simp[below]) (.keep (by simp[below]) (.one (.nils 5) (.keep (by simp[below]) .nil))))) (.nil _)))) ?_
       exact⟨.keep (by simp[below]) .nil,.keep (by simp[below]) .nil,.keep (by simp[below,hsl]) .nil,.keep (by simp[below]) .nil,.keep (by simp[below]) .nil,trivial⟩
      ·have h0:isN a 0=false:=by simpa using h0
       simp-implicitDefEqProofs[o5,hz0]
       refine HI.use ?_
       by_cases a1:a.op=1
       ·simp-implicitDefEqProofs[h0,a1]
        refine fM 3 (by omega) (by simp) rfl (.same (bR ho0) (.same (bR (AU (aQ out))) (.one (.keep (by simp[below]) (.keep (by simp[below]) (.keep (by simp[below]) (.keep (by simp[below]) (.one (.nils 5) .nil))))) (.nil _)))) ?_
        exact⟨.keep (by simp[below]) .nil,.keep (by simp[below]) .nil,.keep (by simp[below,hsl]) .nil,.keep (by simp[below]) .nil,.keep (by simp[below]) .nil,trivial⟩
       ·simp-implicitDefEqProofs[h0,a1]
        exact bT [0,1,2] (by simp) (by decide) (by decide) (dB rfl ho0 (sw rfl (aQ out) (aG rfl (by simp[below]) br))) (by simp[below,ren,hsl])
     ·rw[hb,hee,if_neg (by omega),if_neg (by omega)]
      simp-implicitDefEqProofs[o6,o5,hz0]
      exact bT [0,1,2] (by simp) (by decide) (by decide) (dB rfl ho0 (sw rfl (aQ out) (aG rfl (by simp[below]) br))) (by simp[below,ren,hsl])
   intro _ hzf
   simp-implicitDefEqProofs[hol]
   refine⟨⟨by omega,by omega⟩,?_⟩
   have htk2:List.take out.length (smR out)=smR out:=RG (by omega)
   have h1:smR [gO s]=[[.p (.int .i64 s.op),.p (.str s.name),.p (.lst 4 ([.int .i64 a.op,.int .i64 a.n,.str a.name,.lst 4 (a.kids.map Ex.cs)]::r.map Ex.cs)),.p (smL (gO s).body),.p (smL (gO s).els)]]:=by
    have e3:exL s.args= .lst 4 ([.int .i64 a.op,.int .i64 a.n,.str a.name,.lst 4 (a.kids.map Ex.cs)]::r.map Ex.cs):=by rw[ha,hxl,Sb,hac,hxl]
    have e4:(gO s).cs=[.int .i64 s.op,.str s.name,exL s.args,smL (gO s).body,smL (gO s).els]:=by rw[Sm.cs_eq];rfl
    rw[smR,Sq,e4,e3];rfl
   have h2:smR out++[[.p (.int .i64 s.op),.p (.str s.name),.p (.lst 4 ([.int .i64 a.op,.int .i64 a.n,.str a.name,.lst 4 (a.kids.map Ex.cs)]::r.map Ex.cs)),.p (smL (gO s).body),.p (smL (gO s).els)]]=smR (out++[gO s]):=by rw[nV,h1]
   have hne:smR (out++[gO s])≠[]:=by rw[nV];simp[smR]
   have e2:(smR (out++[gO s])).length=out.length+1:=by rw[dd];simp
   try rw[htk2]
   rw[h2]
   refine bf (fun h7=>?_) (fun h7=>?_)
   ·simp at h7
    have e1:ey l=out++[gO s]:=by rw[eall,ey,if_neg (by rw[hzf];simp),if_pos h7]
    have e3:out.length+1=(ey l).length:=by rw[e1];simp
    simp-implicitDefEqProofs[]
    rw[←e1] at hne⊢
    refine⟨4,by omega,?_,by rw[dS hne];rfl⟩
    rw[di hne,dd,e3]
   ·simp at h7
    have e1:ey [s]=[gO s]:=by rw[ey,if_neg (by rw[hzf];simp),if_neg h7];rfl
    rw[e1] at enxt
    simp-implicitDefEqProofs[]
    refine⟨i+1,⟨by omega,?_⟩,by omega,?_⟩
    ·rw[htk]
     intro x hx
     rcases RJ.1 hx with hx|hx
     ·exact hnb x hx
     ·rw[RM.1 hx];exact h7
    ·rw[enxt,di hne,dS hne,e2]
     exact bT [0,4] (by simp) (by decide) (by decide) (dB rfl ho0 (aG rfl (aQ _) br)) (by simp[below,ren,hsl,w1 (i:=i) (by omega)])
  ·simp at h
   have hie:i=l.length:=by omega
   subst hie
   rw[Sf]
   simp-implicitDefEqProofs[]
   exact⟨1,by omega,rfl,rfl⟩
theorem CT{o0:AO}(ho0:okO 0 o0)(l:List Sm)(hf:∀x∈l,x.args≠[])(hz:l.length≤1073741824):AC Tryz.prog G bv [.p (smL l)] [o0] fun x h=>x= .ret (.p (smL (ey l)))∧h=[o0]:=by
 refine(Cy G ho0 l hf hz).frz 1 (by simp) (fun t v h ⟨_,_,e,_⟩=>by cases e) ?_
 rintro v h ⟨id,hid,e,h0,h1⟩
 cases e
 match h,h0 with
 |o::r,h0=>
  simp at h0
  subst h0
  have ht:(tail 1 (o::r))[id]?=some (bx 5 (((ey l).map Sm.cs).map (·.map .p))):=by
   have hh:smR (ey l)=((ey l).map Sm.cs).map (·.map .p):=by simp[smR]
   rw[←hh,←h1]
   obtain⟨k,rfl⟩:∃k,id=k+1:=⟨id-1,by omega⟩
   rfl
  have hv:=tJ ht (fun x hx=>by obtain⟨b,_,rfl⟩:=RU.1 hx;simp)
  have hh:smR (ey l)=((ey l).map Sm.cs).map (·.map .p):=by simp[smR]
  refine⟨.p (smL (ey l)),[o],by simp,rfl,.one ?_ .nil,.same (bR ho0) (.nil _),rfl,rfl⟩
  rw[hh]
  exact hv
end
section
def oe(x:Sm):Sm:= .mk x.op x.name (aU x.args) x.body x.els
theorem Kp(x:Sm):(oe x).cs=[.int .i64 x.op,.str x.name,exL (aU x.args),smL x.body,smL x.els]:=by rw[Sm.cs_eq];rfl
variable (G:aM)
theorem Gl(hK:G dV=some dO)(hS:G cd=some [PV.tbl opK opV])(l:List Sm)(hf:∀x∈l,∀a∈x.args,gH a=true)(hz:aq l≤1073741824):
 AC Tryz.prog G be [.sl 0 5 0 l.length] [.row 5 (smR l)] fun x h=>x= .ret (.sl 0 5 0 l.length)∧h=[.row 5 (smR (l.map oe))]:=by
 have hll:=bk l
 have hxl:∀l,exL l= .lst 4 (l.map Ex.cs):=fun _=>rfl
 let L:Nat→List Sm:=fun i=>(l.take i).map oe++l.drop i
 have hLl:∀i,i≤l.length→(L i).length=l.length:=fun i hi=>by simp[L];omega
 have hLg:∀i,i<l.length→(L i)[i]?=l[i]?:=fun i hi=>by
  have:((l.take i).map oe).length=i:=by simp;omega
  rw[RP (by omega),this,Nat.sub_self,SB,Nat.add_zero]
 have hLs:∀i f,l[i]?=some f→(L i).set i (oe f)=L (i+1):=fun i f hi=>by
  have hil:=(RB.1 hi).1
  have hlen:((l.take i).map oe).length=i:=by simp;omega
  show((l.take i).map oe++l.drop i).set i (oe f)=(l.take (i+1)).map oe++l.drop (i+1)
  rw[List.set_append_right _ _ (by omega),hlen,Nat.sub_self,Sz hil,List.set_cons_zero,an hil,List.map_append,Sg]
  have:l[i]=f:=by rw[RA hil] at hi;exact Option.some.inj hi
  rw[this];rfl
 have hL0:L 0=l:=by simp[L]
 have hLe:L l.length=l.map oe:=by
  show(l.take l.length).map oe++l.drop l.length=_
  rw[Sf,List.drop_length,Ss]
 generalize hLL:L=L2 at hLl hLg hLs hL0 hLe
 refine AC.go jM ?_
 simp-implicitDefEqProofs[fQ]
 refine aV (fun i:Nat=>am 21 [(0,.sl 0 5 0 l.length),(5,.p (.int .i64 l.length)),(6,.p (.int .i64 i))]) (fun i=>[.row 5 (smR (L2 i))]) (fun i=>i≤l.length) (fun i=>l.length-i) 0 (by simp) ?_ ?_
 ·rw[hL0]
  exact bT [0] (by simp) (by decide) (by decide) (aG rfl (aQ l) br) (by simp[below,ren])
 intro i hi
 have hfl2:=dd (L2 i)
 rw[hLl i hi] at hfl2
 simp-implicitDefEqProofs[]
 refine bf (fun h=>?_) (fun h=>?_)
 ·simp at h
  have hg:=RA h
  have hm:=RH h
  have hse:=l[i].cs_eq
  have hgi:(smR (L2 i))[i]?=some [.p (.int .i64 l[i].op),.p (.str l[i].name),.p (exL l[i].args),.p (smL l[i].body),.p (smL l[i].els)]:=by
   rw[smR,RQ,hLg i h,hg,Option.map_some,hse];rfl
  have hst:=hLs i l[i] hg
  have hfz:=bD hm
  have hfb:=hf l[i] hm
  generalize l[i]=s at hg hm hgi hst hfz hfb hse
  have hsz:=s.sz_eq
  have hal:=bh s.args
  have hok:∀o∈[AO.row 5 (smR (L2 i))],okO [AO.row 5 (smR (L2 i))].length o:=ag (bR (aQ _)) dQ
  have HM:=mY G (xn iq [.row 5 (smR (L2 i))] hok) (fun(st:Unit) x=>(cC x,st)) (fun _ _=>True) s.args (by omega) (by show 0<1;omega)
   (fun j st hj _=>⟨trivial,by
     have hk:=RH hj
     have h1:=hfb _ hk
     have h2:=aT hk
     rw[gH,RL,decide_eq_true_eq] at h1
     exact(Nd G hK hS 6 s.args[j] h1.1 (by omega) h1.2 (by omega)).ac (by simp[below]) (by simp[below]) _⟩) () trivial
  rw[dF,←dc] at HM
  have hst2:(smR (L2 i)).set i [.p (.int .i64 s.op),.p (.str s.name),.p (exL (aU s.args)),.p (smL s.body),.p (smL s.els)]=smR (L2 (i+1)):=by
   rw[←hst,smR,smR,List.map_set,Kp];rfl
  simp-implicitDefEqProofs[hfl2,hgi]
  refine⟨h,?_⟩
  refine HM.mono ?_
  rintro r h' ⟨rfl,rfl⟩
  simp-implicitDefEqProofs[aa,xn,hfl2,hgi,hst2]
  refine⟨h,i+1,by omega,by omega,bT [0] (by simp) (by decide) (by decide) (aG rfl (aQ _) br) (by simp[below,ren,w1 (i:=i) (by omega)])⟩
 ·simp at h
  have hie:i=l.length:=by omega
  subst hie
  rw[hLe]
  simp-implicitDefEqProofs[]
theorem Dp:AC Tryz.prog G be [.nils] [] fun x h=>x= .ret .nils:=by
 refine AC.go jM ?_
 simp-implicitDefEqProofs[fQ]
 refine aV (fun _:Unit=>am 21 [(0,.nils),(5,.p (.int .i64 0)),(6,.p (.int .i64 0))]) (fun _=>[]) (fun _=>True) (fun _=>0) () trivial ?_ ?_
 ·exact ae (by simp) (by simp) (by simp[below])
 intro _ _
 simp-implicitDefEqProofs[]
end
section
variable (G:aM)
theorem GA(l:List Fd)(hz:aJ l≤1073741824)(hne:l≠[]):AC Tryz.prog G er [.agg [.p (fdL l)]] [] fun x h=>x= .ret (.agg [.sl 3 3 0 l.length])∧h=[.row 1 [[.p (fdL l)]],.row 1 [[.sl 3 3 0 l.length]],.row 1 [[.sl 3 3 0 l.length]],.row 3 (aN l)]:=by
 have hll:=cW l
 have hfl:∀l,fdL l= .lst 3 (l.map Fd.cs):=fun _=>rfl
 refine AC.go qT ?_
 simp-implicitDefEqProofs[mC]
 refine aV (fun i:Nat=>am 35 [(1,.ptr 0 1 0 0),(2,.ptr 1 1 0 0),(3,.ptr 2 1 0 0),(4,.p (.int .i64 i))]) (fun i=>[.row 1 [[.p (fdL l)]],.row 1 [[.nils]],.row 1 [[slE 3 3 (aN (l.take i))]],bx 3 (aN (l.take i))]) (fun i=>i≤l.length) (fun i=>l.length-i) 0 (by simp) ?_ ?_
 ·have e1:slE 3 3 (aN (l.take 0))= .nils:=rfl
  have e2:bx 3 (aN (l.take 0))= .dead:=rfl
  rw[e1,e2]
  exact gJ (h:=[AO.row 1 [[.p (fdL l)]],.row 1 [[.nils]],.row 1 [[.nils]]]) (by simp) (by simp) (by simp[okO,below]) (by simp[below])
 intro i hi
 simp-implicitDefEqProofs[hfl]
 refine bf (fun h=>?_) (fun h=>?_)
 ·simp at h
  have hg:=RA h
  have hT:l.take (i+1)=l.take i++[l[i]]:=an h
  have hmem:=cJ (RH h)
  have hol:(l.take i).length=i:=by rw[RZ];omega
  generalize l[i]=f at hg hT hmem
  have hrl:(aN (l.take i)).length=i:=by rw[lv];exact hol
  have hcs:f.cs=[.str f.name,aC f.params,smL f.body]:=rfl
  have hsp:aC f.params= .lst 1 (f.params.map fun w=>[.str w]):=rfl
  have hfz:f.sz=1+f.name.length+(f.params.length+(f.params.map List.length).sum)+aq f.body:=rfl
  have hB:VF Tryz.prog G dK [.p (smL f.body)] (.p (smL f.body)):=AC.mkFreeze qo (uh G _ f.body (Nat.lt_succ_self _) (by omega))
  generalize l.take i=out at hT hol hrl⊢
  simp-implicitDefEqProofs[hg,hcs,hsp]
  have hpl:f.params.length≤1073741824:=by omega
  refine⟨⟨by omega,by omega⟩,?_⟩
  refine hB.use ?_
  simp-implicitDefEqProofs[hrl]
  refine⟨⟨by omega,by omega⟩,i+1,by omega,by omega,?_⟩
  have hR:aN (out++[f])=aN out++[[.p (.str f.name),.p (aC f.params),.p (smL f.body)]]:=by rw[xS];rfl
  have hR1:slE 3 3 (aN (out++[f]))= .sl 3 3 0 (i+1):=by rw[hR,nO _ (by simp),hrl];rfl
  have hR2:bx 3 (aN (out++[f]))= .row 3 (aN (out++[f])):=by rw[hR,lG _ (by simp)]
  rw[hT,hR1,hR2]
  refine Wk.trans (bT (l1:=[(1,.ptr 0 1 0 0),(2,.ptr 1 1 0 0),(3,.ptr 2 1 0 0),(4,.p (.int .i64 ((i+1:Nat):Int)))]) (h1:=[.row 1 [[.p (fdL l)]],.row 1 [[.nils]],.row 1 [[.sl 3 3 0 (i+1)]],.row 3 (aN out++[[.p (.str f.name),.sl 4 1 0 f.params.length,.p (smL f.body)]]),gw f.params]) [0,1,2,8,6] (by simp) (by decide) (by decide)
   (aG rfl (by simp[below]) (aG rfl (by simp[below]) (cU (es:=[[.sl 3 3 0 (i+1)]]) (by simp[below]) (by simp[ren,bL]) ?_))) (by simp[below,ren,hfl,w1 (i:=i) (by omega)])) (fM 4 (by omega) (by simp) rfl (.same (by simp[okO,below]) (.same (by simp[okO,below]) (.same (by simp[okO,below]) (.rows ?_ ?_ (.nil _))))) ?_)
  ·refine cU (fun x hx=>?_) ?_ (aG rfl (fun x hx=>?_) br)
   ·rcases RJ.1 hx with hx|hx
    ·exact aW (Nat.zero_le _) _ (fp out x hx)
    ·rw[RM.1 hx];simp[below]
   ·rw[List.map_append,RT (g:=id) (fun x hx=>dZ _ x (fp out x hx)),List.map_id]
    simp[ren,bL]
   ·obtain⟨w,_,rfl⟩:=RU.1 hx
    simp[below]
  ·rw[hR];simp
  ·rw[hR]
   intro j e e1 he he1
   by_cases hj:j<(aN out).length
   ·rw[RD hj] at he he1
    rw[he] at he1
    cases he1
    have:=fp out e (RI he)
    exact gN (aW (Nat.zero_le _) _ this)
   ·have hj2:j=(aN out).length:=by
     have:=(RB.1 he).1
     simp at this;omega
    subst hj2
    simp at he he1
    subst he;subst he1
    refine .keep (by simp[below]) (.one ?_ (.keep (by simp[below]) .nil))
    exact fu rfl
  ·exact⟨.keep (by simp[below]) .nil,.keep (by simp[below]) .nil,.keep (by simp[below]) .nil,.keep (by simp[below]) .nil,trivial⟩
 ·simp at h
  have hie:i=l.length:=by omega
  subst hie
  rw[Sf]
  have h0:aN l≠[]:=by
   intro e;apply hne
   have:=congrArg List.length e
   rw[lv] at this
   exact List.length_eq_zero_iff.1 this
  rw[di h0,dS h0,lv]
  simp-implicitDefEqProofs[hfl]
def eaF(h:List Sm→List Sm)(f:Fd):Fd:=⟨f.name,f.params,h f.body⟩
theorem Bx(cut:Bool)(l:List Fd)(hz:aJ l≤1073741824)(hne:l≠[])(hf:∀f∈l,∀x∈f.body,au 4 x=true):VF Tryz.prog G cx [.agg [.p (fdL l)],.p (.bool cut)] (.agg [.p (fdL (if cut then cA l else bK l))]):=by
 have hll:=cW l
 have hfl:∀l,fdL l= .lst 3 (l.map Fd.cs):=fun _=>rfl
 have hln:0<l.length:=by
  cases l with
  |nil=>exact(hne rfl).elim
  |cons x r=>simp
 let g:Fd→Fd:=if cut then mK else ln
 have hg0:(if cut then cA l else bK l)=l.map g:=by cases cut<;>rfl
 rw[hg0]
 have key:AC Tryz.prog G cx [.agg [.p (fdL l)],.p (.bool cut)] [] fun x h=>∃v,x= .ret (.agg [v])∧View h v (fdL (l.map g)):=by
  refine AC.go yj ?_
  simp-implicitDefEqProofs[rh]
  refine(AC.lift (GA G l hz hne) (by simp[below]) (by simp[vA,sR]) ?_).mono ?_
  ·simp[ES,sR,vA]
   intro x hx
   obtain⟨f,_,rfl⟩:=RU.1 hx
   rfl
  rintro r h ⟨rfl,rfl⟩
  simp-implicitDefEqProofs[ow,aa,cN,dy]
  let L:Nat→List Fd:=fun i=>(l.take i).map g++l.drop i
  have hLl:∀i,i≤l.length→(L i).length=l.length:=fun i hi=>by simp[L];omega
  have hLg:∀i,i<l.length→(L i)[i]?=l[i]?:=fun i hi=>by
   have:((l.take i).map g).length=i:=by simp;omega
   rw[RP (by omega),this,Nat.sub_self,SB,Nat.add_zero]
  have hLs:∀i f,l[i]?=some f→(L i).set i (g f)=L (i+1):=fun i f hi=>by
   have hil:=(RB.1 hi).1
   have hlen:((l.take i).map g).length=i:=by simp;omega
   show((l.take i).map g++l.drop i).set i (g f)=(l.take (i+1)).map g++l.drop (i+1)
   rw[List.set_append_right _ _ (by omega),hlen,Nat.sub_self,Sz hil,List.set_cons_zero,an hil,List.map_append,Sg]
   have:l[i]=f:=by rw[RA hil] at hi;exact Option.some.inj hi
   rw[this];rfl
  have hL0:L 0=l:=by simp[L]
  have hLe:L l.length=l.map g:=by
   show(l.take l.length).map g++l.drop l.length=_
   rw[Sf,List.drop_length,Ss]
  generalize hLL:L=L2 at hLl hLg hLs hL0 hLe
  refine aV (fun i:Nat=>am 42 [(1,.p (.bool cut)),(4,.ptr 0 1 0 0),(5,.ptr 2 1 0 0),(6,.p (.int .i64 i))]) (fun i=>[.row 1 [[.nils]],.row 3 (aN (L2 i)),.row 1 [[.sl 1 3 0 l.length]]]) (fun i=>i≤l.length) (fun i=>l.length-i) 0 (by simp) ?_ ?_
  ·rw[hL0]
   have e:dp 2 (AO.row 3 (aN l))= .row 3 (aN l):=by
    have e2:(aN l).map (dy 2)=aN l:=by
     conv=>rhs;rw[←List.map_id (aN l)]
     refine RT fun x hx=>?_
     obtain⟨f,_,rfl⟩:=RU.1 hx
     rfl
    show AO.row 3 ((aN l).map (dy 2))=_
    rw[e2]
   rw[e]
   exact nv [1,5,6] rfl (by decide) (aG rfl (by simp[below]) (aG rfl (fp l) (cU (es:=[[.sl 1 3 0 l.length]]) (by simp[below]) (by simp[ren,bL]) br))) (by simp[below,ren])
  intro i hi
  have hfl2:=lv (L2 i)
  rw[hLl i hi] at hfl2
  simp-implicitDefEqProofs[hfl2]
  refine bf (fun h=>?_) (fun h=>?_)
  ·simp at h
   have hg:=RA h
   have hm:=RH h
   have hgi:(aN (L2 i))[i]?=some [.p (.str l[i].name),.p (aC l[i].params),.p (smL l[i].body)]:=by
    rw[aN,RQ,hLg i h,hg];rfl
   have hst:=hLs i l[i] hg
   have hfz:=cJ hm
   have hfb:=hf l[i] hm
   generalize l[i]=f at hg hm hgi hst hfz hfb
   have hfz2:f.sz=1+f.name.length+(f.params.length+(f.params.map List.length).sum)+aq f.body:=rfl
   cases cut with
   |true=>
    simp-implicitDefEqProofs[hfl2,hgi]
    refine⟨h,?_⟩
    refine(Jo G 4 f.body hfb (by omega)).use ?_
    have hst2:(aN (L2 i)).set i [.p (.str f.name),.p (aC f.params),.p (smL (aH f.body))]=aN (L2 (i+1)):=by
     rw[←hst,aN,aN,List.map_set];rfl
    simp-implicitDefEqProofs[hfl2,hgi,hst2]
    refine⟨h,i+1,by omega,by omega,ae (by simp) (ag (by simp[okO,below]) (ag (bR (fp _)) (ag (by simp[okO,below]) dQ))) (by simp[below,w1 (i:=i) (by omega)])⟩
   |false=>
    simp-implicitDefEqProofs[hfl2,hgi]
    refine⟨h,?_⟩
    refine(GV G 4 f.body hfb (by omega)).use ?_
    have hst2:(aN (L2 i)).set i [.p (.str f.name),.p (aC f.params),.p (smL (aw f.body))]=aN (L2 (i+1)):=by
     rw[←hst,aN,aN,List.map_set];rfl
    simp-implicitDefEqProofs[hfl2,hgi,hst2]
    refine⟨h,i+1,by omega,by omega,ae (by simp) (ag (by simp[okO,below]) (ag (bR (fp _)) (ag (by simp[okO,below]) dQ))) (by simp[below,w1 (i:=i) (by omega)])⟩
  ·simp at h
   have hie:i=l.length:=by omega
   subst hie
   simp-implicitDefEqProofs[]
   rw[hLe]
   have hl2:(l.map g).length=l.length:=RX _
   rw[←hl2]
   exact qq rfl
 refine key.freezeR (fun t v h ⟨_,e,_⟩=>by cases e) fun v h ⟨u,e1,e2⟩=>?_
 cases e1
 exact .agg (.one e2 .nil) .nil
end
section
theorem jj{l:List Fd}(h:aI l=0):l≠[]∧∀f∈l,∀x∈f.body,au 4 x=true:=by
 have hp:=((LY l).1 h).1
 obtain⟨h1,h2,h3⟩:=(dH l).1 hp
 refine⟨?_,fun f hf x hx=>?_⟩
 ·rintro rfl;simp at h1
 ·have:=h2 f hf
  simp only[ia,RL,RF] at this
  exact this.2 x hx
variable (G:aM)
theorem Eu{l:List Fd}(hz:aJ l≤1073741824)(h:aI l=0):VF Tryz.prog G cx [.agg [.p (fdL l)],.p (.bool false)] (.agg [.p (fdL (bK l))]):=Bx G false l hz (jj h).1 (jj h).2
theorem Ay{l:List Fd}(hz:aJ l≤1073741824)(h:aI l=0):VF Tryz.prog G cx [.agg [.p (fdL l)],.p (.bool true)] (.agg [.p (fdL (cA l))]):=Bx G true l hz (jj h).1 (jj h).2
def orN(b:Bool)(l:List Fd):List Fd:=if b then l else[]
theorem zE(l:List Fd)(hz:aJ l≤1073741824):VF Tryz.prog G fJ [.agg [.p (fdL l)]] (.tup [.agg [.p (fdL (orN (decide (aI l=0)) (cA l)))],.p (.bool (decide (aI l=0)))]):=by
 have key:AC Tryz.prog G fJ [.agg [.p (fdL l)]] [] fun x h=>∃v,x= .ret (.tup [.agg [v],.p (.bool (decide (aI l=0)))])∧View h v (fdL (orN (decide (aI l=0)) (cA l))):=by
  refine AC.go tf ?_
  simp-implicitDefEqProofs[my]
  refine(wz G l hz).use ?_
  by_cases h0:aI l=0
  ·simp-implicitDefEqProofs[h0]
   refine(Ay G hz h0).use ?_
   simp-implicitDefEqProofs[orN]
   exact .p _
  ·simp-implicitDefEqProofs[h0,orN]
   exact .nils 3
 refine key.freezeR (fun t v h ⟨_,e,_⟩=>by cases e) fun v h ⟨u,e1,e2⟩=>?_
 cases e1
 exact .tup (.agg (.one e2 .nil) (.keep (by simp) .nil)) .nil
theorem nG(l y:List Fd)(hz:aJ l≤1073741824)(h0:aI l=0)(hy:Smp l y):VF Tryz.prog G bY [.agg [.p (fdL l)]] (.tup [.agg [.p (fdL y)],.p (.bool true)]):=by
 refine AC.go jg ?_
 simp-implicitDefEqProofs[fy]
 refine(wz G l hz).use ?_
 simp-implicitDefEqProofs[h0]
 refine(Eu G hz h0).use ?_
 simp-implicitDefEqProofs[]
 refine(Ay G (l:=bK l) (Sp (ic l) hz) (gb h0)).use ?_
 simp-implicitDefEqProofs[]
 refine aV (fun _:List Fd=>am 21 [(1,.ptr 0 1 0 0),(2,.ptr 1 1 0 0),(4,.ptr 2 1 0 0)]) (fun q=>[.row 1 [[.p (fdL q)]],.row 1 [[.nils]],.row 1 [[.p (fdL (cA (bK q)))]]])
  (fun q=>Smp q y∧aI q=0∧aJ q≤1073741824) wP l ⟨hy,h0,hz⟩ ?_ ?_
 ·exact ae (by simp) (by simp[okO,below]) (by simp[below])
 rintro q ⟨hs,hc,hq⟩
 have z1:=Sp (ic q) hq
 have z2:=Sp (nI (bK q)) z1
 simp-implicitDefEqProofs[]
 refine(fX G (cA (bK q)) q z2 hq).use ?_
 by_cases he:cA (bK q)=q
 ·simp-implicitDefEqProofs[cu he]
  cases hs with
  |stop _=>rw[he]
  |go h _=>exact(h he).elim
 ·have hn:aI (cA (bK q))=0:=sP hc
  simp-implicitDefEqProofs[bi he]
  refine(Eu G z2 hn).use ?_
  simp-implicitDefEqProofs[]
  refine(Ay G (Sp (ic _) z2) (gb hn)).use ?_
  simp-implicitDefEqProofs[]
  refine⟨cA (bK q),⟨?_,hn,z2⟩,?_,?_⟩
  ·cases hs with
   |stop h=>exact(he h).elim
   |go _ h=>exact h
  ·rcases pm q with h|h
   ·exact(he h).elim
   ·exact h
  ·exact ae (by simp) (by simp[okO,below]) (by simp[below])
theorem Ed{l y:List Fd}(h:Smp l y):aJ y≤aJ l:=by
 induction h with
 |stop _=>exact RN _
 |go _ _ ih=>exact Sp ih (Sp (nI _) (ic _))
theorem lR(l:List Fd)(hz:aJ l≤1073741824)(h0:¬aI l=0):VF Tryz.prog G bY [.agg [.p (fdL l)]] (.tup [.agg [.p (fdL [])],.p (.bool false)]):=by
 have key:AC Tryz.prog G bY [.agg [.p (fdL l)]] [] fun x h=>x= .ret (.tup [.agg [.nils],.p (.bool false)]):=by
  refine AC.go jg ?_
  simp-implicitDefEqProofs[fy]
  refine(wz G l hz).use ?_
  simp-implicitDefEqProofs[h0]
 refine key.freezeR (fun t v h e=>by cases e) fun v h e=>?_
 cases e
 exact .tup (.agg (.one (.nils 3) .nil) (.keep (by simp) .nil)) .nil
theorem Dm(l:List Fd)(hz:aJ l≤1073741824):VF Tryz.prog G kj [.agg [.p (fdL l)]] (.p (.bool (jN l))):=by
 refine AC.go vv ?_
 simp-implicitDefEqProofs[oq]
 by_cases h0:aI l=0
 ·obtain⟨y,hy⟩:=Av (wP l) l (RN _)
  have hyz:aJ y≤1073741824:=Sp (Ed hy) hz
  refine(nG G l y hz h0 hy).use ?_
  simp-implicitDefEqProofs[]
  refine(fX G y l hyz hz).use ?_
  have e:jN l=eqX y l:=by
   rw[jN,decide_eq_true h0,Bool.true_and]
   by_cases h:y=l
   ·rw[cu h,cu ((vK hy).1 h)]
   ·rw[bi h,bi (fun e=>h ((vK hy).2 e))]
  rw[e]
  simp-implicitDefEqProofs[]
 ·refine(lR G l hz h0).use ?_
  have e:jN l=false:=by rw[jN,decide_eq_false h0,Bool.false_and]
  rw[e]
  simp-implicitDefEqProofs[]
end
section
variable (G:aM)
theorem tl:∀(N:Nat) (e:Ex),e.sz≤N→e.sz≤1073741824→VF Tryz.prog G bG [.agg (e.cs.map .p)] (.agg (e.cs.map .p)):=by
 intro N
 induction N with
 |zero=>intro e h;have:=e.sz_eq;omega
 |succ N ih=>
  intro e he hz
  have hc:=e.cs_eq
  have hzz:=e.sz_eq
  have hlen:=bh e.kids
  refine AC.go tY ?_
  simp-implicitDefEqProofs[mV,hc]
  have HM:=mY G (xn bG [.row 4 [[.p (.int .i64 e.op),.p (.int .i64 e.n),.p (.str e.name),.p (exL e.kids)]],.row 4 [[.p (.int .i64 0),.p (.int .i64 0),.p (.str []),.nils]]] (by simp[okO,below])) (fun(st:Unit) x=>(x,st)) (fun _ _=>True) e.kids (by omega) (by show 0<2;omega)
   (fun i st hi _=>⟨trivial,by
     have h2:=aT (RH hi)
     exact(ih e.kids[i] (by omega) (by omega)).ac (by simp[below]) (by simp[below]) _⟩) () trivial
  rw[show(fun(st:Unit) (x:Ex)=>(x,st))=(fun(st:Unit) x=>(id x,st)) from rfl,dF,List.map_id] at HM
  refine HM.mono ?_
  rintro r h ⟨rfl,rfl⟩
  simp-implicitDefEqProofs[aa,xn]
def cH(l:List Fd)(B:AV):List AO:=[.row 1 [[.p (fdL l)]],.row 1 [[B]],.row 1 [[.nils]],.row 1 [[.fn (.func aO) [.ptr 1 1 0 0,.ptr 3 1 0 0]]]]
theorem JV(l:List Fd){B:AV}(hB:below 0 B){m:Nat}(hm:4≤m):∀o∈cH l B,okO m o:=by
 have hb:=aW (Nat.zero_le m) [B] ⟨hB,trivial⟩
 refine ag (by simp[okO,below]) (ag (by intro e he;rw[RM.1 he];exact hb) (ag (by simp[okO,below]) (ag ?_ dQ)))
 intro e he
 rw[RM.1 he]
 simp only[aj,below]
 exact⟨⟨by omega,by omega,trivial⟩,trivial⟩
def Fx(l:List Fd)(B:AV)(hB:below 0 B)(F:FuncId)(caps:List AV)(hc:aj 4 caps):Vis Unit where
 I:=fun _=>cH l B
 n:=4
 F:=F
 caps:=caps
 len:=fun _=>rfl
 ok:=fun _=>JV l hB (RN _)
 capsOk:=hc
def om(l0:List Fd)(B:AV)(H:List Sm→List Sm)(l:List Sm):Prop:=AC Tryz.prog G aO [.p (smL l),.ptr 1 1 0 0,.ptr 3 1 0 0] (cH l0 B) fun x h=>x= .ret (.p (smL (H l)))∧h=cH l0 B
theorem uy(l0:List Fd){B:AV}(hB:below 0 B)(H:List Sm→List Sm)(s:Sm)(hz:s.sz≤1073741824)(hb:om G l0 B H s.body)(he:om G l0 B H s.els):
 AC Tryz.prog G ce [.agg (s.cs.map .p),.ptr 3 1 0 0] (cH l0 B) fun x h=>x= .ret (.agg ((inS H s).cs.map .p))∧h=cH l0 B:=by
 have hcs:=s.cs_eq
 have hzz:=s.sz_eq
 have hlen:=bh s.args
 have hic:(inS H s).cs=[.int .i64 s.op,.str s.name,exL s.args,smL (H s.body),smL (H s.els)]:=by rw[Sm.cs_eq];rfl
 let V:=Fx l0 B hB aO [] trivial
 refine V.trim G (st:=()) (st':=()) (AC.go rO ?_) (by rw[hic];simp[below])
 have hI:V.I ()=cH l0 B:=rfl
 have hl4:(cH l0 B).length=4:=rfl
 have hg3:∀r:List AO,(cH l0 B++r)[3]?=some (.row 1 [[.fn (.func aO) [.ptr 1 1 0 0,.ptr 3 1 0 0]]]):=fun r=>rfl
 have hg30:∀h:3<(cH l0 B).length,(cH l0 B)[3]= .row 1 [[.fn (.func aO) [.ptr 1 1 0 0,.ptr 3 1 0 0]]]:=fun _=>rfl
 have hVp:∀(l:List Sm),om G l0 B H l→∀rest,AC Tryz.prog G aO [.p (smL l),.ptr 1 1 0 0,.ptr 3 1 0 0] (cH l0 B++rest) fun x h=>x= .ret (.p (smL (H l)))∧h=cH l0 B++rest:=fun l w rest=>
  V.pre G (st:=()) (st':=()) w rest ⟨by simp[below],by simp only[below];show 1<4;omega,by simp only[below];show 3<4;omega,trivial⟩
 have hCl:∀rest,(∀o∈rest,okO 0 o)→AC Tryz.prog G aR [.p (exL s.args),.fn (.func bG) []] (cH l0 B++rest) fun x h=>x= .ret (.p (exL s.args))∧h=cH l0 B++rest:=by
  intro rest hr
  have hok:∀o∈cH l0 B++rest,okO (cH l0 B++rest).length o:=by
   intro o ho
   rcases RJ.1 ho with h|h
   ·exact JV l0 hB (by rw[RR,hl4];omega) o h
   ·exact bR (hr o h)
  have HM:=mY G (xn bG (cH l0 B++rest) hok) (fun(st:Unit) x=>(id x,st)) (fun _ _=>True) s.args (by omega) (by show 0<(cH l0 B++rest).length;rw[RR,hl4];omega)
   (fun i st hi _=>⟨trivial,by
     have h2:=aT (RH hi)
     exact(tl G _ s.args[i] (RN _) (by omega)).ac (by simp[below]) (by simp[below]) _⟩) () trivial
  rw[dF,List.map_id] at HM
  exact HM
 rw[hI]
 generalize hh:cH l0 B=C at*
 rw[hic]
 simp-implicitDefEqProofs[lr,hcs,hl4,hg30]
 refine(hCl _ (by simp[okO])).mono ?_
 rintro r h ⟨rfl,rfl⟩
 simp-implicitDefEqProofs[aa,hl4,hg30]
 refine(hVp _ hb _).mono ?_
 rintro r h ⟨rfl,rfl⟩
 simp-implicitDefEqProofs[aa,hl4,hg30]
 refine(hVp _ he _).mono ?_
 rintro r h ⟨rfl,rfl⟩
 simp-implicitDefEqProofs[aa,hl4,hg30]
def CB:AV:= .fn (.func bv) []
theorem uL(l0:List Fd)(l:List Sm)(hf:∀x∈l,x.args≠[])(hz:aq l≤1073741824)(ih:∀x∈l,om G l0 CB aH x.body∧om G l0 CB aH x.els):om G l0 CB aH l:=by
 have hll:=bk l
 have hB:below 0 CB:=by simp[CB,below]
 let V:=Fx l0 CB hB ce [.ptr 3 1 0 0] (by simp[below])
 refine V.trim G (st:=()) (st':=()) (AC.go nH ?_) (by simp[below])
 have hI:V.I ()=cH l0 CB:=rfl
 have hl4:(cH l0 CB).length=4:=rfl
 have hg1:(cH l0 CB)[1]?=some (.row 1 [[CB]]):=rfl
 have HM:=uk G V (fun(st:Unit) x=>(inS aH x,st)) (fun _ _=>True) l (by omega) (by show 0<4;omega)
  (fun i st hi _=>⟨trivial,by
    have hm:=RH hi
    have h2:=bD hm
    exact uy G l0 hB aH l[i] (by omega) (ih _ hm).1 (ih _ hm).2⟩) () trivial
 rw[dF] at HM
 have HB:=CT G (o0:= .row 1 [[.p (fdL l0)]]) (by simp[okO,below]) (l.map (inS aH)) (fun x hx=>by
  obtain⟨y,hy,rfl⟩:=RU.1 hx
  exact hf y hy) (by rw[RX];omega)
 rw[EX] at HB
 have HB2:=(AC.pre HB [.row 1 [[CB]],.row 1 [[.nils]],.row 1 [[.fn (.func aO) [.ptr 1 1 0 0,.ptr 3 1 0 0]]]] (by simp[below]) (by simp[okO,below]) (by rintro x h ⟨_,rfl⟩;rfl))
 rw[hI]
 have HM2:AC Tryz.prog G az [.p (smL l),.fn (.func ce) [.ptr 3 1 0 0]] (cH l0 CB) fun x h=>x= .ret (.p (smL (l.map (inS aH))))∧h=cH l0 CB:=HM
 have HB3:AC Tryz.prog G bv [.p (smL (l.map (inS aH)))] (cH l0 CB) fun x h=>x= .ret (.p (smL (aH l)))∧h=cH l0 CB:=by
  refine HB2.mono ?_
  rintro x h ⟨h1,⟨rfl,rfl⟩,rfl⟩
  exact⟨rfl,rfl⟩
 have hg10:∀h:1<(cH l0 CB).length,(cH l0 CB)[1]= .row 1 [[.fn (.func bv) []]]:=fun _=>rfl
 generalize hh:cH l0 CB=C at*
 simp-implicitDefEqProofs[jq,hl4,hg10]
 refine HM2.mono ?_
 rintro r h ⟨rfl,rfl⟩
 simp-implicitDefEqProofs[aa,hl4,hg10]
 refine HB3.mono ?_
 rintro r h ⟨rfl,rfl⟩
 simp-implicitDefEqProofs[aa,hl4]
 trace_state
theorem Gy(l0:List Fd):∀(d:Nat) (l:List Sm),(∀x∈l,au d x=true)→aq l≤1073741824→om G l0 CB aH l:=by
 intro d
 induction d with
 |zero=>
  intro l hf hz
  exact uL G l0 l (fun x hx=>by have:=hf x hx;cases this) hz (fun x hx=>by have:=hf x hx;cases this)
 |succ d ih=>
  intro l hf hz
  refine uL G l0 l (fun x hx=>CK (hf x hx)) hz (fun x hx=>?_)
  have h1:=bD hx
  have h2:=x.sz_eq
  exact⟨ih x.body (lK (hf x hx)) (by omega),ih x.els (nq (hf x hx)) (by omega)⟩
theorem Bf(l:List (List UInt8))(hl:l.length≤1073741824):VF Tryz.prog G cP [.p (aC l)] (.p (aC l)):=by
 have hsl:aC l= .lst 1 (l.map fun w=>[.str w]):=rfl
 have key:AC Tryz.prog G cP [.p (aC l)] [] fun x h=>∃v,x= .ret v∧View h v (aC l):=by
  refine AC.go oD ?_
  simp-implicitDefEqProofs[jf,hsl]
  cases l with
  |nil=>
   simp[Eh]
   exact⟨.nils 1,fu (l:=[]) rfl⟩
  |cons w r=>
   simp only[RW] at hl
   simp[Eh]
   exact⟨⟨by omega,by omega⟩,fu (l:=w::r) rfl⟩
 refine key.freezeR (fun t v h ⟨_,e,_⟩=>by cases e) fun v h ⟨u,e1,e2⟩=>?_
 cases e1
 exact .one e2 .nil
theorem wv(l0:List Fd){B:AV}(hB:below 0 B)(H:List Sm→List Sm)(f:Fd)(hz:f.sz≤1073741824)(hb:om G l0 B H f.body):
 AC Tryz.prog G cT [.agg (f.cs.map .p),.ptr 3 1 0 0] (cH l0 B) fun x h=>x= .ret (.agg ((eaF H f).cs.map .p))∧h=cH l0 B:=by
 have hcs:f.cs=[.str f.name,aC f.params,smL f.body]:=rfl
 have hic:(eaF H f).cs=[.str f.name,aC f.params,smL (H f.body)]:=rfl
 have hfz:f.sz=1+f.name.length+(f.params.length+(f.params.map List.length).sum)+aq f.body:=rfl
 let V:=Fx l0 B hB aO [] trivial
 refine V.trim G (st:=()) (st':=()) (AC.go tM ?_) (by rw[hic];simp[below])
 have hI:V.I ()=cH l0 B:=rfl
 have hl4:(cH l0 B).length=4:=rfl
 have hg30:∀h:3<(cH l0 B).length,(cH l0 B)[3]= .row 1 [[.fn (.func aO) [.ptr 1 1 0 0,.ptr 3 1 0 0]]]:=fun _=>rfl
 have hVp:∀rest,AC Tryz.prog G aO [.p (smL f.body),.ptr 1 1 0 0,.ptr 3 1 0 0] (cH l0 B++rest) fun x h=>x= .ret (.p (smL (H f.body)))∧h=cH l0 B++rest:=fun rest=>
  V.pre G (st:=()) (st':=()) hb rest ⟨by simp[below],by simp only[below];show 1<4;omega,by simp only[below];show 3<4;omega,trivial⟩
 rw[hI]
 generalize hh:cH l0 B=C at*
 rw[hic]
 simp-implicitDefEqProofs[nh,hcs,hl4,hg30]
 refine(Bf G f.params (by omega)).use ?_
 simp-implicitDefEqProofs[hl4,hg30]
 refine(hVp _).mono ?_
 rintro r h ⟨rfl,rfl⟩
 simp-implicitDefEqProofs[aa,hl4,hg30]
theorem AQ(l:List Fd)(hz:aJ l≤1073741824)(hf:∀f∈l,∀x∈f.body,au 4 x=true):VF Tryz.prog G cD [.agg [.p (fdL l)],CB] (.agg [.p (fdL (cA l))]):=by
 have hll:=cW l
 have hB:below 0 CB:=by simp[CB,below]
 let V:=Fx l CB hB cT [.ptr 3 1 0 0] (by simp[below])
 have HM:=zG G V (fun(st:Unit) x=>(eaF aH x,st)) (fun _ _=>True) l (by omega) (by show 0<4;omega)
  (fun i st hi _=>⟨trivial,by
    have hm:=RH hi
    have h2:=cJ hm
    have h3:l[i].sz=1+l[i].name.length+(l[i].params.length+(l[i].params.map List.length).sum)+aq l[i].body:=rfl
    exact wv G l hB aH l[i] (by omega) (Gy G l 4 _ (hf _ hm) (by omega))⟩) () trivial
 rw[dF] at HM
 have HM2:AC Tryz.prog G bu [.p (fdL l),.fn (.func cT) [.ptr 3 1 0 0]] [.row 1 [[.p (fdL l)]],.row 1 [[.fn (.func bv) []]],.row 1 [[.nils]],.row 1 [[.fn (.func aO) [.ptr 1 1 0 0,.ptr 3 1 0 0]]]] fun x h=>x= .ret (.p (fdL (cA l)))∧h=[.row 1 [[.p (fdL l)]],.row 1 [[.fn (.func bv) []]],.row 1 [[.nils]],.row 1 [[.fn (.func aO) [.ptr 1 1 0 0,.ptr 3 1 0 0]]]]:=HM
 show VF Tryz.prog G cD [.agg [.p (fdL l)],.fn (.func bv) []] (.agg [.p (fdL (cA l))])
 refine AC.go pP ?_
 simp-implicitDefEqProofs[lz]
 refine HM2.mono ?_
 rintro r h ⟨rfl,rfl⟩
 simp-implicitDefEqProofs[aa]
end
section
variable (G:aM)
theorem DE{σ:Type}(V:Vis σ)(g:σ→Sm→Sm × σ)(inv:Nat→σ→Prop)(l:List Sm)(hb:l.length≤1073741824)(hn:0<V.n)
 (hv:∀(i:Nat) st (h:i<l.length),inv i st→inv (i+1) (g st l[i]).2∧AC Tryz.prog G V.F (.agg (l[i].cs.map .p)::V.caps) (V.I st) fun x h'=>x= .ret (.agg ((g st l[i]).1.cs.map .p))∧h'=V.I (g st l[i]).2)(st:σ)(h0:inv 0 st):
 AC Tryz.prog G az [.p (smL l),.fn (.func V.F) V.caps] (V.I st) fun x h=>x= .ret (slE V.n 5 (smR (bw g st l).1))∧h=V.I (bw g st l).2++[bx 5 (smR (bw g st l).1)]:=by
 have hxl:∀l,smL l= .lst 5 (l.map Sm.cs):=fun _=>rfl
 have hlen:=V.len
 have hcb:=V.capsOk
 have hinv:∀i,i≤l.length→inv i (bw g st (l.take i)).2:=fun i hi=>by
  have:=pA (g:=g) (inv:=inv) (l:=l) (st:=st) (k:=0) h0 (fun i st h hi=>by
   rw[Su] at hi⊢;exact(hv i st h hi).1) i hi
  rwa[Su] at this
 have hRp:∀l:List Sm,∀x∈smR l,aj 0 x:=aQ
 have hRl:∀l:List Sm,(smR l).length=l.length:=fun l=>by simp[smR]
 have hRa:∀(l:List Sm) (y:Sm),smR (l++[y])=smR l++[y.cs.map .p]:=fun l y=>by simp[smR]
 have key:AC Tryz.prog G az [.p (smL l),.fn (.func V.F) V.caps] (V.I st) fun x h=>x= .ret (slE V.n 5 (smR (bw g st l).1))∧h=V.I (bw g st l).2++[bx 5 (smR (bw g st l).1)]:=by
  refine AC.go ir ?_
  simp-implicitDefEqProofs[eM,hxl]
  refine aV (fun i:Nat=>am 22 [(5,slE V.n 5 (smR (bw g st (l.take i)).1)),(0,.p (smL l)),(1,.fn (.func V.F) V.caps),(8,.p (smL l)),(9,.p (.int .i64 l.length)),(10,.p (.int .i64 i))])
   (fun i=>V.I (bw g st (l.take i)).2++[bx 5 (smR (bw g st (l.take i)).1)]) (fun i=>i≤l.length) (fun i=>l.length-i) 0 (by simp) ?_ ?_
  ·have e:bx 5 (smR (bw g st (l.take 0)).1)= .dead:=rfl
   rw[e]
   exact gJ (by rw[hlen];exact RN _) (by rw[hlen];exact hn) (by rw[hlen];exact V.ok st) (by simp[below,hxl,hcb,hlen,bw,smR,mw])
  intro i hi
  have hT:=fun h=>qf (g:=g) (l:=l) (st:=st) (i:=i) h
  have hi2:=hinv i hi
  have hml:=pc g (l.take i) st
  rw[RZ,Nat.min_eq_left hi] at hml
  generalize hcur:bw g st (l.take i)=cur at hT hi2 hml⊢
  obtain⟨out,s⟩:=cur
  simp only at hT hi2 hml⊢
  simp-implicitDefEqProofs[hxl]
  refine bf (fun hc=>?_) (fun hc=>?_)
  ·simp at hc
   have hg:=RA hc
   have hT:=hT hc
   obtain⟨_,hA⟩:=hv i s hc hi2
   generalize l[i]=x at hg hT hA
   have hkc:=x.cs_eq
   have hyc:=(g s x).1.cs_eq
   rw[hkc] at hA
   simp-implicitDefEqProofs[hg,hkc,hlen]
   refine(V.pre G hA _ ⟨by simp[below],hcb⟩).mono ?_
   rintro r h ⟨rfl,rfl⟩
   rw[hyc]
   simp-implicitDefEqProofs[aa,hlen]
   have hol:=hRl out
   refine⟨⟨by omega,by omega⟩,i+1,hc,by omega,?_⟩
   rw[hT]
   simp only[hRa]
   rw[nO _ (by simp),lG _ (by simp),hyc]
   refine Az (mid:=[_,_,_]) (s:=[]) (hlen _) rfl (RN _) (V.ok _) ?_ ?_ ?_
   ·intro x hx
    rcases RJ.1 hx with h|h
    ·exact hRp _ x h
    ·rw[RM.1 h];simp
   ·simp[below,hxl,hcb,w1 (i:=i) (by omega)]
   ·simp
  ·simp at hc
   have hie:i=l.length:=by omega
   subst hie
   rw[Sf] at hcur
   rw[hcur]
   simp-implicitDefEqProofs[]
 exact key
theorem Hv(l:List Sm):(l.map (inS aw)).map oe=aw l:=by
 rw[iv,List.map_map]
 refine RT fun x _=>?_
 rw[iD];rfl
def FB:AV:= .fn (.func be) []
theorem sq(hK:G dV=some dO)(hS:G cd=some [PV.tbl opK opV])(l0:List Fd)(l:List Sm)(hf:∀x∈l,∀a∈x.args,gH a=true)(hz:aq l≤1073741824)(hz2:aq (l.map (inS aw))≤1073741824)(ih:∀x∈l,om G l0 FB aw x.body∧om G l0 FB aw x.els):om G l0 FB aw l:=by
 have hll:=bk l
 have hB:below 0 FB:=by simp[FB,below]
 let V:=Fx l0 FB hB ce [.ptr 3 1 0 0] (by simp[below])
 have hl4:(cH l0 FB).length=4:=rfl
 have HM:=DE G V (fun(st:Unit) x=>(inS aw x,st)) (fun _ _=>True) l (by omega) (by show 0<4;omega)
  (fun i st hi _=>⟨trivial,by
    have hm:=RH hi
    have h2:=bD hm
    exact uy G l0 hB aw l[i] (by omega) (ih _ hm).1 (ih _ hm).2⟩) () trivial
 rw[dF] at HM
 have HM2:AC Tryz.prog G az [.p (smL l),.fn (.func ce) [.ptr 3 1 0 0]] (cH l0 FB) fun x h=>x= .ret (slE 4 5 (smR (l.map (inS aw))))∧h=cH l0 FB++[bx 5 (smR (l.map (inS aw)))]:=HM
 have key:AC Tryz.prog G aO [.p (smL l),.ptr 1 1 0 0,.ptr 3 1 0 0] (cH l0 FB) fun x h=>x= .ret (slE 4 5 (smR (aw l)))∧∃r,h=cH l0 FB++bx 5 (smR (aw l))::r:=by
  refine AC.go nH ?_
  have hg10:∀h:1<(cH l0 FB).length,(cH l0 FB)[1]= .row 1 [[.fn (.func be) []]]:=fun _=>rfl
  generalize hh:cH l0 FB=C at*
  simp-implicitDefEqProofs[jq,hl4,hg10]
  refine HM2.mono ?_
  rintro r h ⟨rfl,rfl⟩
  simp-implicitDefEqProofs[aa,hl4,hg10]
  cases l with
  |nil=>
   have e0:smR (([]:List Sm).map (inS aw))=[]:=rfl
   have e1:smR (aw [])=[]:=rfl
   rw[e1]
   simp-implicitDefEqProofs[mw,rV,smR]
   refine(VF.ac (r:= .nils) (Dp G) (by simp[below]) (by simp[below]) _).mono ?_
   rintro r h ⟨rfl,rfl⟩
   simp-implicitDefEqProofs[aa]
  |cons x r=>
   have hf2:∀y∈(x::r).map (inS aw),∀a∈y.args,gH a=true:=fun y hy=>by
    obtain⟨q,hq,rfl⟩:=RU.1 hy
    exact hf q hq
   have HB:=Gl G hK hS ((x::r).map (inS aw)) hf2 hz2
   rw[Hv] at HB
   have hnl:((x::r).map (inS aw)).length=(x::r).length:=RX _
   have hfl:=rp (x::r)
   have hne:smR ((x::r).map (inS aw))≠[]:=by simp[smR]
   have hne2:smR (aw (x::r))≠[]:=by simp[smR,aw]
   rw[di hne,dS hne,di hne2,dS hne2,dd,dd,hnl,hfl]
   rw[hnl] at HB
   generalize hq:smR ((x::r).map (inS aw))=q1 at HB
   have hp1:∀y∈q1,aj 0 y:=by rw[←hq];exact aQ _
   have hp2:∀y∈smR (aw (x::r)),aj 0 y:=aQ _
   generalize hq2:smR (aw (x::r))=q2 at HB hp2
   refine(AC.frame (args:=[.sl 4 5 0 (x::r).length]) (h:=C++[.row 5 q1]) HB [4] (by simp) (by simp[TW,ren,below]) (aG (by rw[RP (by omega),hl4];rfl) hp1 br)).mono ?_
   rintro z h' ⟨x0,h0',⟨rfl,rfl⟩,_,rfl,rfl⟩
   have hm:mrg (C++[AO.row 5 q1]) [4] [AO.row 5 q2]=C++[.row 5 q2]:=by
    simp only[mrg]
    rw[List.set_append_right _ _ (by omega),hl4];rfl
   have hrq:∀ρ,ig ρ (AO.row 5 q2)= .row 5 q2:=fun ρ=>by
    simp only[ig]
    rw[RT (g:=id) (fun y hy=>dZ ρ y (hp2 y hy)),List.map_id]
   simp-implicitDefEqProofs[aa,xu,ren,hrq,hm]
 refine key.frz 4 (by rw[hl4];exact RN _) (fun t v h ⟨e,_⟩=>by cases e) ?_
 rintro v h ⟨e,r,rfl⟩
 cases e
 refine⟨.p (smL (aw l)),cH l0 FB,by rw[RR,hl4];omega,hl4,.one ?_ .nil,sM (JV l0 hB (RN _)),rfl,rfl⟩
 have ht:=vM (r:=r) (o:=bx 5 (smR (aw l))) hl4
 have hh:smR (aw l)=((aw l).map Sm.cs).map (·.map .p):=by simp[smR]
 rw[hh] at ht⊢
 exact tJ ht (fun x hx=>by obtain⟨b,_,rfl⟩:=RU.1 hx;simp)
theorem Fb(H:List Sm→List Sm):∀l:List Sm,(∀x∈l,aq (H x.body)≤aq x.body∧aq (H x.els)≤aq x.els)→aq (l.map (inS H))≤aq l
 |[],_=>RN _
 |x::r,h=>by
  have h1:=h x (by simp)
  have h2:=Fb H r (fun y hy=>h y (by simp[hy]))
  have h3:=x.sz_eq
  have h4:(inS H x).sz=1+x.name.length+bC x.args+aq (H x.body)+aq (H x.els):=by rw[Sm.sz_eq];rfl
  rw[Sb,aq,aq]
  omega
theorem BX{d:Nat}{x:Sm}(h:au d x=true):∀a∈x.args,gH a=true:=by
 obtain⟨d,rfl⟩:=rR h
 rw[au,RL,RL] at h
 have h1:=h.1.1
 simp only[eU,RL,RF] at h1
 exact h1.1.1.1.2
theorem Df(hK:G dV=some dO)(hS:G cd=some [PV.tbl opK opV])(l0:List Fd):∀(d:Nat) (l:List Sm),(∀x∈l,au d x=true)→aq l≤1073741824→om G l0 FB aw l:=by
 intro d
 have hin:∀l:List Sm,aq l≤1073741824→aq (l.map (inS aw))≤1073741824:=fun l hz=>Sp (Fb aw l fun x _=>⟨kI _,kI _⟩) hz
 induction d with
 |zero=>
  intro l hf hz
  exact sq G hK hS l0 l (fun x hx=>by have:=hf x hx;cases this) hz (hin l hz) (fun x hx=>by have:=hf x hx;cases this)
 |succ d ih=>
  intro l hf hz
  refine sq G hK hS l0 l (fun x hx=>BX (hf x hx)) hz (hin l hz) (fun x hx=>?_)
  have h1:=bD hx
  have h2:=x.sz_eq
  exact⟨ih x.body (lK (hf x hx)) (by omega),ih x.els (nq (hf x hx)) (by omega)⟩
theorem yt(hK:G dV=some dO)(hS:G cd=some [PV.tbl opK opV])(l:List Fd)(hz:aJ l≤1073741824)(hf:∀f∈l,∀x∈f.body,au 4 x=true):VF Tryz.prog G cD [.agg [.p (fdL l)],FB] (.agg [.p (fdL (bK l))]):=by
 have hll:=cW l
 have hB:below 0 FB:=by simp[FB,below]
 let V:=Fx l FB hB cT [.ptr 3 1 0 0] (by simp[below])
 have HM:=zG G V (fun(st:Unit) x=>(eaF aw x,st)) (fun _ _=>True) l (by omega) (by show 0<4;omega)
  (fun i st hi _=>⟨trivial,by
    have hm:=RH hi
    have h2:=cJ hm
    have h3:l[i].sz=1+l[i].name.length+(l[i].params.length+(l[i].params.map List.length).sum)+aq l[i].body:=rfl
    exact wv G l hB aw l[i] (by omega) (Df G hK hS l 4 _ (hf _ hm) (by omega))⟩) () trivial
 rw[dF] at HM
 have HM2:AC Tryz.prog G bu [.p (fdL l),.fn (.func cT) [.ptr 3 1 0 0]] [.row 1 [[.p (fdL l)]],.row 1 [[.fn (.func be) []]],.row 1 [[.nils]],.row 1 [[.fn (.func aO) [.ptr 1 1 0 0,.ptr 3 1 0 0]]]] fun x h=>x= .ret (.p (fdL (bK l)))∧h=[.row 1 [[.p (fdL l)]],.row 1 [[.fn (.func be) []]],.row 1 [[.nils]],.row 1 [[.fn (.func aO) [.ptr 1 1 0 0,.ptr 3 1 0 0]]]]:=HM
 show VF Tryz.prog G cD [.agg [.p (fdL l)],.fn (.func be) []] (.agg [.p (fdL (bK l))])
 refine AC.go pP ?_
 simp-implicitDefEqProofs[lz]
 refine HM2.mono ?_
 rintro r h ⟨rfl,rfl⟩
 simp-implicitDefEqProofs[aa]
end
section
variable (G:aM)
theorem zV:∀(N:Nat) (s:Sm),s.sz≤N→s.sz≤1073741824→VF Tryz.prog G bV [.agg (s.cs.map .p)] (.agg (s.cs.map .p)):=by
 intro N
 induction N with
 |zero=>intro e h;have:=e.sz_eq;omega
 |succ N ih=>
  intro s he hz
  have hc:=s.cs_eq
  have hzz:=s.sz_eq
  have hlen:=bh s.args
  have hlb:=bk s.body
  have hle:=bk s.els
  have hE:∀(h:List AO) (hok:∀o∈h,okO h.length o),0<h.length→AC Tryz.prog G aR [.p (exL s.args),.fn (.func bG) []] h fun x h'=>x= .ret (.p (exL s.args))∧h'=h:=by
   intro h hok h0
   have HM:=mY G (xn bG h hok) (fun(st:Unit) x=>(id x,st)) (fun _ _=>True) s.args (by omega) h0
    (fun i st hi _=>⟨trivial,by
      have h2:=aT (RH hi)
      exact(tl G _ s.args[i] (RN _) (by omega)).ac (by simp[below]) (by simp[below]) _⟩) () trivial
   rw[dF,List.map_id] at HM
   exact HM
  have hS:∀(l:List Sm),aq l≤N→aq l≤1073741824→∀(h:List AO) (hok:∀o∈h,okO h.length o),0<h.length→AC Tryz.prog G az [.p (smL l),.fn (.func bV) []] h fun x h'=>x= .ret (.p (smL l))∧h'=h:=by
   intro l hl1 hl2 h hok h0
   have hll:=bk l
   have HM:=uk G (xn bV h hok) (fun(st:Unit) x=>(id x,st)) (fun _ _=>True) l (by omega) h0
    (fun i st hi _=>⟨trivial,by
      have h2:=bD (RH hi)
      exact(ih l[i] (by omega) (by omega)).ac (by simp[below]) (by simp[below]) _⟩) () trivial
   rw[dF,List.map_id] at HM
   exact HM
  refine AC.go tQ ?_
  simp-implicitDefEqProofs[ng,hc]
  refine(hE _ (by simp[okO,below]) (by simp)).mono ?_
  rintro r h ⟨rfl,rfl⟩
  simp-implicitDefEqProofs[aa]
  refine(hS s.body (by omega) (by omega) _ (by simp[okO,below]) (by simp)).mono ?_
  rintro r h ⟨rfl,rfl⟩
  simp-implicitDefEqProofs[aa]
  refine(hS s.els (by omega) (by omega) _ (by simp[okO,below]) (by simp)).mono ?_
  rintro r h ⟨rfl,rfl⟩
  simp-implicitDefEqProofs[aa]
theorem Ek(f:Fd)(hz:f.sz≤1073741824):VF Tryz.prog G fT [.agg (f.cs.map .p)] (.agg (f.cs.map .p)):=by
 have hcs:f.cs=[.str f.name,aC f.params,smL f.body]:=rfl
 have hfz:f.sz=1+f.name.length+(f.params.length+(f.params.map List.length).sum)+aq f.body:=rfl
 have hll:=bk f.body
 have hS:∀(h:List AO) (hok:∀o∈h,okO h.length o),0<h.length→AC Tryz.prog G az [.p (smL f.body),.fn (.func bV) []] h fun x h'=>x= .ret (.p (smL f.body))∧h'=h:=by
  intro h hok h0
  have HM:=uk G (xn bV h hok) (fun(st:Unit) x=>(id x,st)) (fun _ _=>True) f.body (by omega) h0
   (fun i st hi _=>⟨trivial,by
     have h2:=bD (RH hi)
     exact(zV G _ f.body[i] (RN _) (by omega)).ac (by simp[below]) (by simp[below]) _⟩) () trivial
  rw[dF,List.map_id] at HM
  exact HM
 refine AC.go xq ?_
 simp-implicitDefEqProofs[pI,hcs]
 refine(Bf G f.params (by omega)).use ?_
 simp-implicitDefEqProofs[]
 refine(hS _ (by simp[okO,below]) (by simp)).mono ?_
 rintro r h ⟨rfl,rfl⟩
 simp-implicitDefEqProofs[aa]
theorem vG(l:List Fd)(hz:aJ l≤1073741824):VF Tryz.prog G gx [.agg [.p (fdL l)]] (.agg [.p (fdL l)]):=by
 have hll:=cW l
 have hS:∀(h:List AO) (hok:∀o∈h,okO h.length o),0<h.length→AC Tryz.prog G bu [.p (fdL l),.fn (.func fT) []] h fun x h'=>x= .ret (.p (fdL l))∧h'=h:=by
  intro h hok h0
  have HM:=zG G (xn fT h hok) (fun(st:Unit) x=>(id x,st)) (fun _ _=>True) l (by omega) h0
   (fun i st hi _=>⟨trivial,by
     have h2:=cJ (RH hi)
     exact(Ek G l[i] (by omega)).ac (by simp[below]) (by simp[below]) _⟩) () trivial
  rw[dF,List.map_id] at HM
  exact HM
 refine AC.go qv ?_
 simp-implicitDefEqProofs[kC]
 refine(hS _ (by simp[okO,below]) (by simp)).mono ?_
 rintro r h ⟨rfl,rfl⟩
 simp-implicitDefEqProofs[aa]
variable (hK:G dV=some dO) (hS:G cd=some [PV.tbl opK opV])
include hK hS
theorem jB(l:List Fd)(hz:aJ l≤1073741824)(h0:aI l=0):VF Tryz.prog G bP [.agg [.p (fdL l)]] (.tup [.agg [.p (fdL (bK l))],.p (.bool true)]):=by
 have HC:VF Tryz.prog G cD [.agg [.p (fdL l)],.fn (.func be) []] (.agg [.p (fdL (bK l))]):=yt G hK hS l hz (jj h0).2
 refine AC.go lb ?_
 simp-implicitDefEqProofs[ib]
 refine(tG G hK hS l hz).use ?_
 simp-implicitDefEqProofs[h0]
 refine HC.use ?_
 simp-implicitDefEqProofs[]
theorem iE(l:List Fd)(hz:aJ l≤1073741824)(h0:aI l=0):VF Tryz.prog G bz [.agg [.p (fdL l)]] (.tup [.agg [.p (fdL (cA l))],.p (.bool true)]):=by
 have HC:VF Tryz.prog G cD [.agg [.p (fdL l)],.fn (.func bv) []] (.agg [.p (fdL (cA l))]):=AQ G l hz (jj h0).2
 refine AC.go lV ?_
 simp-implicitDefEqProofs[iM]
 refine(tG G hK hS l hz).use ?_
 simp-implicitDefEqProofs[h0]
 refine HC.use ?_
 simp-implicitDefEqProofs[]
end
section
variable (G:aM)
variable (hK:G dV=some dO) (hS:G cd=some [PV.tbl opK opV])
include hK hS
theorem tW(l y:List Fd)(hz:aJ l≤1073741824)(h0:aI l=0)(hy:Smp l y):VF Tryz.prog G cR [.agg [.p (fdL l)]] (.tup [.agg [.p (fdL y)],.p (.bool true)]):=by
 refine AC.go jb ?_
 simp-implicitDefEqProofs[fx]
 refine(tG G hK hS l hz).use ?_
 simp-implicitDefEqProofs[h0]
 refine(vG G l hz).use ?_
 simp-implicitDefEqProofs[]
 refine aV (fun _:List Fd=>am 35 [(1,.ptr 0 1 0 0),(2,.ptr 1 1 0 0),(4,.ptr 2 1 0 0)]) (fun q=>[.row 1 [[.p (fdL l)]],.row 1 [[.nils]],.row 1 [[.p (fdL q)]]])
  (fun q=>Smp q y∧aI q=0∧aJ q≤1073741824) wP l ⟨hy,h0,hz⟩ ?_ ?_
 ·exact ae (by simp) (by simp[okO,below]) (by simp[below])
 rintro q ⟨hs,hc,hq⟩
 have z1:=Sp (ic q) hq
 have z2:=Sp (nI (bK q)) z1
 simp-implicitDefEqProofs[]
 refine(jB G hK hS q hq hc).use ?_
 simp-implicitDefEqProofs[]
 refine(iE G hK hS (bK q) z1 (gb hc)).use ?_
 simp-implicitDefEqProofs[]
 refine(eS G (cA (bK q)) q z2 hq).use ?_
 by_cases he:cA (bK q)=q
 ·simp-implicitDefEqProofs[cu he]
  cases hs with
  |stop _=>rfl
  |go h _=>exact(h he).elim
 ·have hn:aI (cA (bK q))=0:=sP hc
  simp-implicitDefEqProofs[bi he]
  refine⟨cA (bK q),⟨?_,hn,z2⟩,?_,?_⟩
  ·cases hs with
   |stop h=>exact(he h).elim
   |go _ h=>exact h
  ·rcases pm q with h|h
   ·exact(he h).elim
   ·exact h
  ·exact nv [0,1,4] rfl (by decide) (aG rfl (by simp[below]) (aG rfl (by simp[below]) (aG rfl (by simp[below]) br))) (by simp[below,ren])
theorem ta(l:List Fd)(hz:aJ l≤1073741824)(h0:¬aI l=0):VF Tryz.prog G cR [.agg [.p (fdL l)]] (.tup [.agg [.p (fdL [])],.p (.bool false)]):=by
 have key:AC Tryz.prog G cR [.agg [.p (fdL l)]] [] fun x h=>x= .ret (.tup [.agg [.nils],.p (.bool false)]):=by
  refine AC.go jb ?_
  simp-implicitDefEqProofs[fx]
  refine(tG G hK hS l hz).use ?_
  simp-implicitDefEqProofs[h0]
 refine key.freezeR (fun t v h e=>by cases e) fun v h e=>?_
 cases e
 exact .tup (.agg (.one (.nils 3) .nil) (.keep (by simp) .nil)) .nil
theorem DN(l:List Fd)(hz:aJ l≤1073741824):VF Tryz.prog G kg [.agg [.p (fdL l)]] (.p (.bool (jN l))):=by
 refine AC.go vq ?_
 simp-implicitDefEqProofs[ou]
 by_cases h0:aI l=0
 ·obtain⟨y,hy⟩:=Av (wP l) l (RN _)
  have hyz:aJ y≤1073741824:=Sp (Ed hy) hz
  refine(tW G hK hS l y hz h0 hy).use ?_
  simp-implicitDefEqProofs[]
  refine(eS G l y hz hyz).use ?_
  have e:jN l=eqX l y:=by
   rw[jN,decide_eq_true h0,Bool.true_and]
   by_cases h:y=l
   ·rw[cu h.symm,cu ((vK hy).1 h)]
   ·rw[bi (fun e=>h e.symm),bi (fun e=>h ((vK hy).2 e))]
  rw[e]
  simp-implicitDefEqProofs[]
 ·refine(ta G hK hS l hz h0).use ?_
  have e:jN l=false:=by rw[jN,decide_eq_false h0,Bool.false_and]
  rw[e]
  simp-implicitDefEqProofs[]
end
section
variable (G:aM)
variable (hK:G dV=some dO) (hS:G cd=some [PV.tbl opK opV])
include hK hS
theorem wQ(l:List Fd)(hz:aJ l≤1073741824):VF Tryz.prog G bP [.agg [.p (fdL l)]] (.tup [.agg [.p (fdL (orN (decide (aI l=0)) (bK l)))],.p (.bool (decide (aI l=0)))]):=by
 by_cases h0:aI l=0
 ·rw[decide_eq_true h0]
  exact jB G hK hS l hz h0
 ·rw[decide_eq_false h0]
  have key:AC Tryz.prog G bP [.agg [.p (fdL l)]] [] fun x h=>x= .ret (.tup [.agg [.nils],.p (.bool false)]):=by
   refine AC.go lb ?_
   simp-implicitDefEqProofs[ib]
   refine(tG G hK hS l hz).use ?_
   simp-implicitDefEqProofs[h0]
  refine key.freezeR (fun t v h e=>by cases e) fun v h e=>?_
  cases e
  exact .tup (.agg (.one (.nils 3) .nil) (.keep (by simp) .nil)) .nil
theorem qO(l:List Fd)(hz:aJ l≤1073741824):VF Tryz.prog G bz [.agg [.p (fdL l)]] (.tup [.agg [.p (fdL (orN (decide (aI l=0)) (cA l)))],.p (.bool (decide (aI l=0)))]):=by
 by_cases h0:aI l=0
 ·rw[decide_eq_true h0]
  exact iE G hK hS l hz h0
 ·rw[decide_eq_false h0]
  have key:AC Tryz.prog G bz [.agg [.p (fdL l)]] [] fun x h=>x= .ret (.tup [.agg [.nils],.p (.bool false)]):=by
   refine AC.go lV ?_
   simp-implicitDefEqProofs[iM]
   refine(tG G hK hS l hz).use ?_
   simp-implicitDefEqProofs[h0]
  refine key.freezeR (fun t v h e=>by cases e) fun v h e=>?_
  cases e
  exact .tup (.agg (.one (.nils 3) .nil) (.keep (by simp) .nil)) .nil
end
section
def Sml(ch:List Scp):Prop:=∀s n,iw ch s=some n→n<26
theorem Sml.getD{ch:List Scp}(h:Sml ch)(s:List UInt8):(iw ch s).getD 0<26:=by
 cases e:iw ch s with
 |none=>simp
 |some n=>exact h s n e
theorem Sml.set{m:Scp}{up:List Scp}(h:Sml (m::up))(s:List UInt8){n:Nat}(hn:n<26):Sml (kF m s n::up):=by
 intro t k e
 rw[iw,wA] at e
 by_cases hst:s=t
 ·rw[if_pos hst] at e;cases e;exact hn
 ·rw[if_neg hst] at e
  exact h t k (by rw[iw];exact e)
theorem Sml.open{ch:List Scp}(h:Sml ch):Sml ([]::ch):=fun s n e=>h s n (by rw[iw] at e;exact e)
theorem Sml.opS{m:Scp}{up:List Scp}(h:Sml (m::up))(o:Int)(s:List UInt8){n:Nat}(hn:o=1→n<26):Sml (opS o s m n::up):=by
 unfold Go.Proofs.YtaopbokndkdieaaGreatDoor.opS
 split
 ·rename_i e;exact h.set s (hn e)
 ·exact h
variable (G:aM)
end
section
variable (G:aM)
theorem Sml.base:Sml [[]]:=fun s n e=>by simp[iw,jw] at e
variable (hK:G dV=some dO) (hS:G cd=some [.tbl opK opV])
include hK hS
end
section
variable (G:aM)
theorem IJ{ρ:List Nat}:∀{args:List AV},aj 0 args→TW ρ args args
 |[],_=>trivial
 |v::r,h=>⟨.inr ⟨(aW (Nat.zero_le _) [v] ⟨h.1,trivial⟩).1,by have:=dZ ρ [v] ⟨h.1,trivial⟩;simpa[bL] using this⟩,IJ h.2⟩
theorem Nm{f:FuncId}{args:List AV}{b:List Int}{p:Nat}{Q:AV→Nat→Prop}(H:AC Tryz.prog G f (.ptr 0 2 0 0::args) [rdO b p] fun x h=>∃v q,x= .ret v∧h=[rdO b q]∧Q v q)(hq:∀v q,Q v q→below 0 v){h:List AO}{k:Nat}(hk:h[k]?=some (rdO b p))(ha:aj 0 args):
 AC Tryz.prog G f (.ptr k 2 0 0::args) h fun x h'=>∃v q,x= .ret v∧h'=h.set k (rdO b q)∧Q v q:=by
 refine(H.frame (h:=h) (args:= .ptr k 2 0 0::args) [k] (by simp) ⟨.inr ⟨by simp[below],by simp[ren]⟩,IJ ha⟩ (dB hk (bU _ _ _) br)).mono ?_
 rintro x h' ⟨x0,h0,⟨v,q,rfl,rfl,r⟩,hl,rfl,rfl⟩
 refine⟨v,q,?_,?_,r⟩
 ·simp only[xu]
  have:=dZ ([k]++List.range' h.length ([rdO b q].length-[rdO b p].length)) [v] ⟨hq v q r,trivial⟩
  simpa[bL] using this
 ·have hp2:∀σ,ig σ (rdO b q)=rdO b q:=fun σ=>by simp[rdO,ig,bL,ren]
  simp[mrg,hp2]
theorem Bb{l:List Int}(h:Byt l)(n:Nat):Byt (l.take n):=fun x hx=>h x (Sv hx)
def DrP(n:Nat)(x:ARes):Prop:=∃l:List Fd,x= .ret (.agg [.p (fdL l)])∧aJ l≤n
theorem BN{f:FuncId}{args:List AV}{R:ARes→Prop}(H:AC Tryz.prog G f args [] fun x _=>R x)(hR:∀x,R x→∃v,x= .ret v∧below 0 v)(ha:aj 0 args)(h:List AO):AC Tryz.prog G f args h fun x h'=>R x∧h'=h:=by
 have H2:AC Tryz.prog G f args [] fun x h'=>R x∧h'=[]:=by
  refine H.wk (fun t v h' r=>by obtain⟨_,e,_⟩:=hR _ r;cases e) fun v h' r=>?_
  obtain⟨v',e,hv⟩:=hR _ r
  cases e
  exact⟨v,[],JY rfl ⟨.inr ⟨hv,rfl⟩,trivial⟩,r,rfl⟩
 refine(H2.pre h ha (fun o ho=>by cases ho) (fun x h' r=>by rw[r.2])).mono ?_
 rintro x h' ⟨h1,⟨r,rfl⟩,rfl⟩
 exact⟨r,rfl⟩
theorem Cz{n:Nat}:∀x,DrP n x→∃v,x= .ret v∧below 0 v:=fun x ⟨l,e,_⟩=>⟨_,e,by simp[below]⟩
variable (hK:G dV=some dO) (hS:G cd=some [.tbl opK opV])
include hK hS
end
section
variable (G:aM)
theorem Dq{l:List Fd}(h:aI l=0):bq l=true:=by
 unfold aI at h
 cases hp:bq l with
 |true=>rfl
 |false=>rw[hp] at h;cases h
theorem tD(code:List Int)(hb:Byt code):AC Tryz.prog G fH [.p (qB code)] [] fun x _=>DrP 900000000 x:=by
 refine AC.go oy ?_
 simp-implicitDefEqProofs[jh]
 refine(AC.lift (Ih G code) (by simp) rfl rfl).mono ?_
 rintro r h ⟨rfl,rfl⟩
 have hr:∀n,dp n (rdO (code.take 2000) 0)=rdO (code.take 2000) 0:=fun n=>by simp[rdO,dp,dy,cN]
 simp-implicitDefEqProofs[aa,cN,hr]
 refine(Nm G (BB G (Bb hb 2000) (by rw[RZ];omega) (p:=0) (by omega)) (fun v q ⟨⟨l,e,_⟩,_⟩=>by rw[e];simp[below]) (h:=[.row 1 [[.nils]],rdO (code.take 2000) 0]) (k:=1) rfl trivial).mono ?_
 rintro r h ⟨v,q,rfl,rfl,⟨l,rfl,hz⟩,_⟩
 simp-implicitDefEqProofs[aa]
 exact⟨l,rfl,hz⟩
theorem yh(code:List Int)(hb:Byt code):AC Tryz.prog G gq [.p (qB code)] [] fun x _=>DrP 900000000 x:=by
 refine AC.go qr ?_
 simp-implicitDefEqProofs[kw]
 refine(AC.lift (Ih G code) (by simp) rfl rfl).mono ?_
 rintro r h ⟨rfl,rfl⟩
 have hr:∀n,dp n (rdO (code.take 2000) 0)=rdO (code.take 2000) 0:=fun n=>by simp[rdO,dp,dy,cN]
 have hbt:=Bb hb 2000
 have hbl:(code.take 2000).length≤2000:=by rw[RZ];omega
 generalize code.take 2000=b at hr hbt hbl
 simp-implicitDefEqProofs[aa,cN,hr]
 refine(Nm G (BB G hbt hbl (p:=0) (by omega)) (fun v q ⟨⟨l,e,_⟩,_⟩=>by rw[e];simp[below]) (h:=[.row 1 [[.nils]],rdO b 0]) (k:=1) rfl trivial).mono ?_
 rintro r h ⟨v,q,rfl,rfl,⟨l,rfl,hz⟩,hq1,hq2⟩
 simp-implicitDefEqProofs[aa]
 by_cases h0:aI l=0
 ·obtain⟨y,hy⟩:=Av (wP l) l (RN _)
  have hyz:aJ y≤900000000:=Sp (Ed hy) hz
  refine(nG G l y (by omega) h0 hy).use ?_
  simp-implicitDefEqProofs[]
  refine(Nm G (Q:=fun v q2=>∃k:Nat,v= .p (.int .i64 k)∧q2=q+1) ((Hy G b hbt hbl q (by omega) 2).mono fun x h ⟨k,e1,e2,_⟩=>⟨_,_,e1,e2,k,rfl,rfl⟩) (fun v q ⟨k,e,_⟩=>by rw[e];simp[below]) (k:=1) rfl (by simp[below])).mono ?_
  rintro r h ⟨v,q2,rfl,rfl,k,rfl,rfl⟩
  simp-implicitDefEqProofs[aa]
  refine bf (fun hk=>?_) (fun hk=>?_)
  ·simp-implicitDefEqProofs[]
   exact⟨_,rfl,hyz⟩
  ·simp-implicitDefEqProofs[]
   exact⟨l,rfl,hz⟩
 ·refine(lR G l (by omega) h0).use ?_
  simp-implicitDefEqProofs[]
  exact⟨l,rfl,hz⟩
variable (hK:G dV=some dO) (hS:G cd=some [.tbl opK opV])
include hK hS
theorem Hh(code:List Int)(hb:Byt code)(hl:code.length≤9223372036854775807):VF Tryz.prog G mB [.p (qB code)] (.p (.bool true)):=by
 refine AC.go sS ?_
 have hbl:qB code= .lst 1 (code.map fun n=>[.int .u8 n]):=rfl
 simp-implicitDefEqProofs[lX,hbl]
 rw[←hbl]
 by_cases hc:(1048576:Int)<code.length
 ·simp-implicitDefEqProofs[hc]
 simp-implicitDefEqProofs[hc]
 refine(BN G (yh G code hb) Cz (by simp) _).mono ?_
 rintro r h ⟨⟨l,rfl,hz⟩,rfl⟩
 simp-implicitDefEqProofs[aa]
 refine(DN G hK hS l (by omega)).use ?_
 simp-implicitDefEqProofs[]
 refine(Dm G l (by omega)).use ?_
 simp-implicitDefEqProofs[]
 refine(wQ G hK hS l (by omega)).use ?_
 simp-implicitDefEqProofs[]
 refine(qO G hK hS l (by omega)).use ?_
 by_cases h0:aI l=0
 ·have hd:decide (aI l=0)=true:=decide_eq_true h0
  have hi:=FW l
  have hs:jN l=eqX (jS l) l:=by rw[jN,hd,Bool.true_and]
  simp-implicitDefEqProofs[hd,orN]
  refine(eS G (bK l) l (Sp (ic l) (by omega)) (by omega)).use ?_
  by_cases e1:bK l=l
  ·simp-implicitDefEqProofs[cu e1]
   refine(eS G (cA l) l (Sp (nI l) (by omega)) (by omega)).use ?_
   by_cases e2:cA l=l
   ·have:jN l=true:=by rw[hs,cu (hi.2 ⟨e1,e2⟩)]
    simp-implicitDefEqProofs[cu e2,this]
   ·have:jN l=false:=by rw[hs,bi (fun h=>e2 (hi.1 h).2)]
    simp-implicitDefEqProofs[bi e2,this]
  ·have:jN l=false:=by rw[hs,bi (fun h=>e1 (hi.1 h).1)]
   simp-implicitDefEqProofs[bi e1,this]
 ·have hd:decide (aI l=0)=false:=decide_eq_false h0
  have hs:jN l=false:=by rw[jN,hd,Bool.false_and]
  simp-implicitDefEqProofs[hd,orN,hs]
theorem xP(code:List Int)(hb:Byt code)(hl:code.length≤9223372036854775807):VF Tryz.prog G mj [.p (qB code)] (.p (.bool true)):=by
 refine AC.go su ?_
 have hbl:qB code= .lst 1 (code.map fun n=>[.int .u8 n]):=rfl
 simp-implicitDefEqProofs[lP,hbl]
 rw[←hbl]
 by_cases hc:(1048576:Int)<code.length
 ·simp-implicitDefEqProofs[hc]
 simp-implicitDefEqProofs[hc]
 refine(BN G (tD G code hb) Cz (by simp) _).mono ?_
 rintro r h ⟨⟨l,rfl,hz⟩,rfl⟩
 simp-implicitDefEqProofs[aa]
 refine(qO G hK hS l (by omega)).use ?_
 simp-implicitDefEqProofs[]
 refine(zE G l (by omega)).use ?_
 have z1:∀x,aJ x≤900000000→aJ (cA x)≤900000000:=fun x h=>Sp (nI x) h
 have z2:∀x,aJ x≤900000000→aJ (bK x)≤900000000:=fun x h=>Sp (ic x) h
 by_cases h0:aI l=0
 ·have hd:decide (aI l=0)=true:=decide_eq_true h0
  simp-implicitDefEqProofs[hd,orN]
  have hcz:=z1 l hz
  refine(fX G (cA l) (cA l) (by omega) (by omega)).use ?_
  simp-implicitDefEqProofs[cu rfl]
  refine(iE G hK hS (cA l) (by omega) (mf h0)).use ?_
  simp-implicitDefEqProofs[]
  refine(jB G hK hS (cA l) (by omega) (mf h0)).use ?_
  simp-implicitDefEqProofs[]
  refine(jB G hK hS l (by omega) h0).use ?_
  simp-implicitDefEqProofs[]
  refine(iE G hK hS (bK l) (by have:=z2 l hz;omega) (gb h0)).use ?_
  simp-implicitDefEqProofs[]
  refine(iE G hK hS (bK (cA l)) (by have:=z2 _ hcz;omega) (gb (mf h0))).use ?_
  simp-implicitDefEqProofs[]
  refine(eS G (cA (cA l)) (cA l) (by have:=z1 _ hcz;omega) (by omega)).use ?_
  simp-implicitDefEqProofs[cu (FA l)]
  refine(eS G (cA (bK l)) (cA (bK (cA l))) (by have:=z1 _ (z2 l hz);omega) (by have:=z1 _ (z2 _ hcz);omega)).use ?_
  have e:=Au (Dq h0)
  simp-implicitDefEqProofs[cu e.symm]
 ·have hd:decide (aI l=0)=false:=decide_eq_false h0
  simp-implicitDefEqProofs[hd,orN]
  refine(fX G [] [] (by simp[aJ]) (by simp[aJ])).use ?_
  simp-implicitDefEqProofs[cu rfl]
  refine(fX G [] [] (by simp[aJ]) (by simp[aJ])).use ?_
  simp-implicitDefEqProofs[cu rfl]
end
end Go.Proofs.YtaopbokndkdieaaGreatDoor
