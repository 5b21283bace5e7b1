/-
  Contracts and lemmas that the card needs, part 9.
-/
import Derived.Test.YtghpabfdmbdpfaaGreatDoorKf8
namespace Go.Proofs.YtghpabfdmbdpfaaGreatDoor
open Go Go.Aw
set_option maxRecDepth 100000
set_option maxHeartbeats 4000000
section
variable (G:aK)
theorem Ur{h:List AO}{kids:List Ex}{id:Nat}(he:h[id+1]?=some (bR 4 (exR kids))):Qy h kids (slE (id+1) 4 (exR kids)):=by
 by_cases hk:kids=[]
 ·subst hk;exact .inl ⟨rfl,rfl⟩
 ·have hr:exR kids≠[]:=λh=>hk (List.map_eq_nil_iff.1 h)
  rw[fq hr] at he
  rw[dM hr]
  have hrl:(exR kids).length=kids.length:=by simp[exR]
  rw[hrl]
  exact .inr ⟨id,exR kids,List.replicate h.length .dead,rfl,hk,he,by simp,λi o e l=>(by rw[List.getElem?_replicate] at e;split at e<;>cases e;exact l.elim),λ⟨o,e,l⟩=>(by rw[List.getElem?_replicate] at e;split at e<;>cases e;exact l.elim),λ⟨o,e,l⟩=>(by rw[List.getElem?_replicate] at e;split at e<;>cases e;exact l.elim),by simp[exR],λj e e1 h1 h2=>(by rw[h1] at h2;cases h2;exact iv (aR (Xg _) _ (ec _ e (WJ h1))))⟩
theorem Sx(l:List Ex)(n:Nat):okO n (bR 4 (exR l)):=eA (Ow (ec l))
theorem LU{hF:List AO}{n id:Nat}{e:Ex}(he:hF[id]?=some (bR 4 (exR e.kids))):Fzs hF n [.p (.int .i64 e.op),.p (.int .i64 e.n),.p (.str e.name),slE id 4 (exR e.kids)] (e.cs.map .p):=by
 rw[e.cs_eq]
 exact .keep (by simp) (.keep (by simp) (.keep (by simp) (.one (ib he) .nil)))
structure KdS where (k:Nat) (es:List Ex) (q:Nat)
theorem Ew{b:List Int}(hb:Byt b)(hl:b.length<=2000){d:Nat}(hd:d+1<=7){p:Nat}(hp:p+20000<=1000000000000):AC Tryz.prog G ig [.ptr 0 2 0 0,.p (.int .i64 ((d+1:Nat):Int))] [rdO b p] (EN b (EoQ p 30000 20000)):=by
 refine GR G (AC.go DK ?_)
 have h3:3^(d+1)<=2187:=by
  have:3^(d+1)<=3^7:=Nat.pow_le_pow_right (by omega) hd
  omega
 have fin:∀(e:Ex) (q:Nat) (rest:List AO) (K:AV),Qy (rdO b q::rest) e.kids K->e.sz<=30000->p<=q->q<=p+20000->DT b (EoQ p 30000 20000) (.ret (.agg [.p (.int .i64 e.op),.p (.int .i64 e.n),.p (.str e.name),K])) (rdO b q::rest):=λe q rest K hk h1 h2 h3=>
  ⟨e,q,rest,K,rfl,rfl,hk,h1,h2,h3⟩
 have hn4:uL [[97],[98],[120],[103,111]]:=⟨by simp,by simp⟩
 have hn2:uL [[97],[98]]:=⟨by simp,by simp⟩
 simp-implicitDefEqProofs[uB]
 refine(AC.give (hX:=[.dead,.dead,bV [[97],[98],[120],[103,111]]]) (hR:=[rdO b p,.row 4 [[.p (.int .i64 0),.p (.int .i64 0),.p (.str []),.nils]],.dead]) (pargs:=[.ptr 0 2 0 0,.p (aL [[97],[98],[120],[103,111]]),.p (.int .i64 ((d+1:Nat):Int))]) (.keep _ (.keep _ (.give _ .nil))) (.keep (by simp[below]) (.one (gO (l:=[[97],[98],[120],[103,111]]) rfl) (.keep (by simp) .nil))) (zV G (KY G hb hl _ hn4 d (by omega) (by omega)) _ (by simp[below]))).mono ?_
 rintro r h ⟨e0,q,rfl,rfl,he0,h1,h2⟩
 simp-implicitDefEqProofs[aa]
 refine(bf G b hb hl q (by omega) 3 _).mono ?_
 rintro r h ⟨k1,rfl,rfl,_⟩
 simp-implicitDefEqProofs[aa]
 refine aO (λhc=>?_) (λhc=>?_)
 ·simp-implicitDefEqProofs[]
  exact fin e0 _ _ _ (Ur rfl) (by omega) (by omega) (by omega)
 simp-implicitDefEqProofs[]
 refine(GQ G hb hl (p:=q+1) (by omega) [[102],[103],[97]] (k:=5) (by simp) (by simp) (by omega) rfl rfl).mono ?_
 rintro r h ⟨s,hs,rfl,rfl⟩
 have hsl:s.length<=8:=by simp at hs;rcases hs with rfl|rfl|rfl<;>simp
 simp-implicitDefEqProofs[aa]
 refine(bf G b hb hl (q+1+1) (by omega) 4 _).mono ?_
 rintro r h ⟨k2,rfl,rfl,hk2⟩
 simp-implicitDefEqProofs[aa]
 have hexn:∀(es:List Ex) (e:Ex),exR (es++[e])=exR es++[e.cs.map .p]:=λes e=>by simp[exR]
 refine aN (λs:KdS=>az 42 [(7,.p (.int .i64 s.k)),(6,.ptr 6 4 0 0),(5,.ptr 4 4 0 0),(4,.ptr 1 4 0 0),(0,.ptr 0 2 0 0)])
  (λa=>[rdO b a.q,.row 4 [[.p (.int .i64 0),.p (.int .i64 0),.p (.str []),.nils]],.dead,bR 4 (exR e0.kids),.row 4 [[.p (.int .i64 e0.op),.p (.int .i64 e0.n),.p (.str e0.name),slE 3 4 (exR e0.kids)]],.row 1 [[.p (.str [102])],[.p (.str [103])],[.p (.str [97])]],
    .row 4 [[.p (.int .i64 13),.p (.int .i64 0),.p (.str s),slE 7 4 (exR a.es)]],bR 4 (exR a.es)])
  (λa=>a.k+a.es.length<=3/\aM a.es<=90*a.es.length/\q<=a.q/\a.q<=q+3+54*a.es.length) (λa=>a.k) ⟨k2,[],q+1+1+1⟩ ⟨by simp only[Xm];omega,by simp[aM],by simp only;omega,by simp⟩
  (pK (by simp) (by simp) (by
    intro o h
    simp only[WC,Xr,or_false] at h
    rcases h with rfl|rfl|rfl|rfl|rfl|rfl|rfl
    ·exact bw _ _ _
    ·simp[okO,below]
    ·simp[okO]
    ·exact Sx _ _
    ·simp[okO,below]
    ·simp[okO,below]
    ·simp[okO,below]) (by simp[below])) ?_
 rintro⟨k,es,q1⟩ ⟨i1,i2,i3,i4⟩
 simp only at i1 i2 i3 i4
 have hxl:(exR es).length=es.length:=by simp[exR]
 simp-implicitDefEqProofs[]
 refine aO (λhc=>?_) (λhc=>?_)
 ·simp at hc
  simp-implicitDefEqProofs[]
  have hE:=ku G (Al G hb hl _ hn2 2 (by omega) (p:=q1) (by omega)) ([.row 4 [[.p (.int .i64 0),.p (.int .i64 0),.p (.str []),.nils]],.dead,bR 4 (exR e0.kids),.row 4 [[.p (.int .i64 e0.op),.p (.int .i64 e0.n),.p (.str e0.name),slE 3 4 (exR e0.kids)]],.row 1 [[.p (.str [102])],[.p (.str [103])],[.p (.str [97])]],
   .row 4 [[.p (.int .i64 13),.p (.int .i64 0),.p (.str s),slE 7 4 (exR es)]],bR 4 (exR es)]) (by simp[below])
  refine hE.mono ?_
  rintro r h ⟨v,q2,rfl,rfl,⟨e,rfl,he⟩,hq1,hq2⟩
  have hec':=e.cs_eq
  simp-implicitDefEqProofs[aa,hec']
  refine⟨by rw[hxl];omega,⟨k-1,es++[e],q2⟩,⟨by simp;omega,by rw[bM];simp[aM];omega,by simp only;omega,by simp;omega⟩,by simp;omega,?_⟩
  have hwk:IntKind.i64.wrap ((k:Int)-1)=((k-1:Nat):Int):=by rw[ab (by omega) (by omega)];omega
  rw[hexn,EA _ (by simp),AU _ (by simp),hec']
  refine dW [0,1,2,3,4,5,6,8] (by simp) (by decide) (by decide) (cK rfl (bw _ _ _) (cW (by simp[below]) (by simp[ren,bn]) (dq (by simp) (PZ rfl (ec _) (cW (by simp[below]) (by simp[ren,bn]) (bv rfl (by simp[below]) (cW (by simp[below]) (by simp[ren,bn]) (bv rfl (λx hx=>by
   rcases WE.1 hx with h|h
   ·exact ec _ x h
   ·rw[WG.1 h];simp) cg)))))))) ?_
  simp[below,ren,hwk]
 ·simp at hc
  simp-implicitDefEqProofs[]
  refine(bf G b hb hl q1 (by omega) 2 _).mono ?_
  rintro r h ⟨k3,rfl,rfl,_⟩
  simp-implicitDefEqProofs[aa]
  refine aO (λhc2=>?_) (λhc2=>?_)
  ·simp-implicitDefEqProofs[]
   exact fin ⟨13,0,s,es⟩ (q1+1) _ _ (Ur rfl) (by simp[Ex.sz];omega) (by omega) (by omega)
  ·simp-implicitDefEqProofs[]
   have hv:∀hF:List AO,hF[3]?=some (bR 4 (exR e0.kids))->hF[7]?=some (bR 4 (exR es))->∀(n j:Nat) (x x1:List AV),[[AV.p (.int .i64 e0.op),.p (.int .i64 e0.n),.p (.str e0.name),slE 3 4 (exR e0.kids)],[.p (.int .i64 13),.p (.int .i64 0),.p (.str s),slE 7 4 (exR es)]][j]?=some x->(exR [e0,⟨13,0,s,es⟩])[j]?=some x1->Fzs hF n x x1:=by
    intro hF h3 h7 n j x x1 a1 a2
    match j,a1,a2 with
    |0,a1,a2=>cases a1;cases a2;exact LU h3
    |1,a1,a2=>cases a1;cases a2;exact LU (e:=⟨13,0,s,es⟩) h7
    |j+2,a1,a2=>simp at a1
   refine fin ⟨3,0,[],[e0,⟨13,0,s,es⟩]⟩ (q1+1) _ _ (.inr ⟨7,_,[.dead,.dead,.dead,bR 4 (exR e0.kids),.dead,.dead,.dead,bR 4 (exR es),.dead],rfl,by simp[Ex.kids],rfl,rfl,λi o e l=>?_,λ⟨o,e,l⟩=>?_,λ⟨o,e,l⟩=>?_,rfl,hv _ rfl rfl _⟩) (by simp[Ex.sz,aM];omega) (by omega) (by omega)
   ·match i,e with
    |0,e=>cases e;exact l.elim
    |1,e=>cases e;exact l.elim
    |2,e=>cases e;exact l.elim
    |3,e=>exact e
    |4,e=>cases e;exact l.elim
    |5,e=>cases e;exact l.elim
    |6,e=>cases e;exact l.elim
    |7,e=>exact e
    |8,e=>cases e;exact l.elim
    |i+9,e=>simp at e
   ·cases e;exact l
   ·cases e;exact l
theorem ON{b:List Int}(hb:Byt b)(hl:b.length<=2000){p:Nat}(hp:p+50000<=1000000000000):AC Tryz.prog G mR [.ptr 0 2 0 0] [rdO b p] λx h=>∃v q,x= .ret v/\h=[rdO b q]/\ExQ p 60000 50000 v q:=by
 refine oy G (AC.go Ct ?_)
 have fin:∀(e:Ex) (q:Nat) (rest:List AO) (v:AV),Fzs (.dead::rest) 1 [v] [.agg (e.cs.map .p)]->e.sz<=60000->p<=q->q<=p+50000->DP b (ExQ p 60000 50000) (.ret v) (rdO b q::rest):=λe q rest v hz h1 h2 h3=>
  ⟨_,rest,q,.agg (e.cs.map .p),rfl,rfl,hz,⟨e,rfl,h1⟩,h2,h3⟩
 simp-implicitDefEqProofs[sF]
 refine(zV G (Ew G hb hl (d:=3) (by omega) (by omega)) _ (by simp[below])).mono ?_
 rintro r h ⟨e0,q,rfl,rfl,he0,h1,h2⟩
 have hsz:=e0.sz_eq
 have hkl:=bL e0.kids
 have hrl:(exR e0.kids).length=e0.kids.length:=by simp[exR]
 simp-implicitDefEqProofs[aa]
 refine(bf G b hb hl q (by omega) 20 _).mono ?_
 rintro r h ⟨k1,rfl,rfl,_⟩
 by_cases k10:k1=0
 ·subst k10
  simp-implicitDefEqProofs[aa]
  refine(lY G hb hl (p:=q+1) (by omega) [-1,256,3] (k:=4) (by simp) (by simp) (by omega) rfl rfl).mono ?_
  rintro r h ⟨n,_,rfl,rfl⟩
  simp-implicitDefEqProofs[aa]
  exact fin ⟨e0.op,n,e0.name,e0.kids⟩ _ _ _ (De (ib rfl)) (by simp[Ex.sz];omega) (by omega) (by omega)
 by_cases k11:k1=1
 ·subst k11
  simp-implicitDefEqProofs[aa]
  refine(GQ G hb hl (p:=q+1) (by omega) [[],[100,111],[65],[97,98,99,100,101],[113]] (k:=4) (by simp) (by simp) (by omega) rfl rfl).mono ?_
  rintro r h ⟨s,hs,rfl,rfl⟩
  have hsl:s.length<=8:=by simp at hs;rcases hs with rfl|rfl|rfl|rfl|rfl<;>simp
  simp-implicitDefEqProofs[aa]
  exact fin ⟨e0.op,e0.n,s,e0.kids⟩ _ _ _ (De (ib rfl)) (by simp[Ex.sz];omega) (by omega) (by omega)
 by_cases k12:k1=2
 ·subst k12
  simp-implicitDefEqProofs[aa]
  refine(lY G hb hl (p:=q+1) (by omega) [0,14,-1,5,11] (k:=4) (by simp) (by simp) (by omega) rfl rfl).mono ?_
  rintro r h ⟨n,_,rfl,rfl⟩
  simp-implicitDefEqProofs[aa]
  exact fin ⟨n,e0.n,e0.name,e0.kids⟩ _ _ _ (De (ib rfl)) (by simp[Ex.sz];omega) (by omega) (by omega)
 by_cases k13:k1=3
 ·subst k13
  simp-implicitDefEqProofs[aa]
  refine(AC.give (pargs:=[.ptr 0 2 0 0,.p (aL [])]) (Spl.rest _) (.keep (by simp[below]) (.one (View.nils 1) .nil)) (ku G (Be G hb hl (p:=q+1) (by omega) [] ⟨by simp,by simp⟩) _ (by simp[below]))).mono ?_
  rintro r h ⟨v,q2,rfl,rfl,⟨e1,rfl,he1⟩,h3,h4⟩
  have hec1:=e1.cs_eq
  have hx:exR (e0.kids++[e1])=exR e0.kids++[[.p (.int .i64 e1.op),.p (.int .i64 e1.n),.p (.str e1.name),.p (exL e1.kids)]]:=by simp[exR,hec1]
  have hne:exR (e0.kids++[e1])≠[]:=by simp[exR]
  simp-implicitDefEqProofs[aa,hec1]
  refine⟨by omega,?_⟩
  rw[←hx]
  have hl2:(exR e0.kids).length+1=(exR (e0.kids++[e1])).length:=by simp[exR]
  have hv:∀h:List AO,h[4]?=some (.row 4 (exR (e0.kids++[e1])))->View h (.sl 4 4 0 ((exR e0.kids).length+1)) (exL (e0.kids++[e1])):=λh e=>by
   have:=ib (h:=h) (id:=4) (l:=e0.kids++[e1]) (by rw[fq hne];exact e)
   rwa[dM hne,←hl2] at this
  exact fin ⟨e0.op,e0.n,e0.name,e0.kids++[e1]⟩ q2 _ _ (De (hv _ rfl)) (by simp[Ex.sz,bM,aM];omega) (by omega) (by omega)
 by_cases k14:k1=4
 ·subst k14
  simp-implicitDefEqProofs[aa]
  refine(zV G (Ew G hb hl (d:=6) (by omega) (by omega)) _ (by simp[below])).mono ?_
  rintro r h ⟨e1,q2,rfl,rfl,he1,h3,h4⟩
  simp-implicitDefEqProofs[aa]
  have hs1:=e1.sz_eq
  exact fin ⟨e1.op,e1.n,e1.name,e1.kids⟩ _ _ _ (De (ib rfl)) (by simp[Ex.sz];omega) (by omega) (by omega)
 have c1:¬(k1:Int)=1:=by omega
 have c2:¬(k1:Int)=2:=by omega
 have c3:¬(k1:Int)=3:=by omega
 have c4:¬(k1:Int)=4:=by omega
 simp-implicitDefEqProofs[aa,k10,c1,c2,c3,c4]
 exact fin ⟨e0.op,e0.n,e0.name,e0.kids⟩ _ _ _ (De (ib rfl)) (by simp[Ex.sz];omega) (by omega) (by omega)
end
section
variable (G:aK)
def PgQ(p n m:Nat)(v:AV)(q:Nat):Prop:=(∃l:List Fd,v= .agg [.p (fdL l)]/\aZ l<=n)/\p<=q/\q<=p+m
theorem Df{h:List AO}{id sz:Nat}{rows:List (List AV)}{es:List (List PV)}(he:h[id]?=some (.row sz rows))(hl:rows.length=es.length)(hs:∀e∈es,e.length=sz)(hv:∀(i j:Nat) (e:List PV) (q:PV) (e':List AV) (a:AV),es[i]?=some e->e[j]?=some q->rows[i]?=some e'->e'[j]?=some a->View h a q){n:Nat}(hn:n=es.length):View h (.sl id sz 0 n) (.lst sz es):=by
 subst hn
 exact .sl id sz 0 rows es he (by omega) hs λi j e q e' a a1 a2 a3 a4=>hv i j e q e' a a1 a2 (by rwa[Xt] at a3) a4
theorem tg{h:List AO}{e:List PV}{j:Nat}{q:PV}{a:AV}(h1:e[j]?=some q)(h2:(e.map AV.p)[j]?=some a):View h a q:=by
 rw[WR,h1] at h2;cases h2;exact .p _
theorem Lf{h:List AO}{id k:Nat}{l:List Fd}{f:Fd}{P B:AV}(he:h[id]?=some (.row 3 ((bh l).set k [.p (.str f.name),P,B])))(hk:k<l.length)(hP:View h P (aL f.params))(hB:View h B (smL f.body)){n:Nat}(hn:n=l.length):View h (.sl id 3 0 n) (fdL (l.set k f)):=by
 refine Df (es:=(l.set k f).map Fd.cs) he (by simp[bh]) (λe he=>by obtain⟨x,_,rfl⟩:=Xb.1 he;simp) (λi j e q e' a a1 a2 a3 a4=>?_) (by simpa using hn)
 rw[WR] at a1
 by_cases hik:k=i
 ·subst hik
  rw[WH hk] at a1
  rw[WH (by simpa[bh] using hk)] at a3
  cases a1;cases a3
  exact AZ (s:=f.name) (ps:=f.params) (bd:=f.body) hP hB j q a a2 a4
 ·rw[WB hik] at a1 a3
  obtain⟨g,g1,g2⟩:=WA.1 a1
  subst g2
  rw[bh,WR,g1] at a3
  cases a3
  exact tg a2 a4
theorem KV{h:List AO}{id:Nat}{l:List (List UInt8)}{s:List UInt8}(he:h[id]?=some (.row 1 (List.take l.length (l.map λw=>[AV.p (.str w)])++[[.p (.str s)]]))):View h (.sl id 1 0 (l.length+1)) (aL (l++[s])):=by
 have e:h[id]?=some (bV (l++[s])):=by rw[he,WF (by simp)];simp[bV]
 have:=gO e
 rwa[WL,List.length_singleton] at this
theorem tY{h:List AO}{id:Nat}{l:List Sm}{s:Sm}{r:List AV}(he:h[id]?=some (.row 5 (List.take l.length (smR l)++[r])))(hr:∀(j:Nat) (q:PV) (a:AV),s.cs[j]?=some q->r[j]?=some a->View h a q):View h (.sl id 5 0 (l.length+1)) (smL (l++[s])):=by
 have hl:=gr l
 refine Df (es:=(l++[s]).map Sm.cs) he (by simp[hl]) (λe he=>by obtain⟨x,_,rfl⟩:=Xb.1 he;simp) (λi j e q e' a a1 a2 a3 a4=>?_) (by simp)
 rw[WF (by omega)] at a3
 rw[List.map_append] at a1
 rcases Xn i l.length with hi|hi
 ·rw[Wx (by simpa using hi)] at a1
  rw[Wx (by omega)] at a3
  rw[WR] at a1
  obtain⟨g,g1,g2⟩:=WA.1 a1
  subst g2
  rw[smR,WR,g1] at a3
  cases a3
  exact tg a2 a4
 ·rw[WD (by simpa using hi)] at a1
  rw[WD (by omega),hl] at a3
  simp only[Xc] at a1
  generalize i-l.length=k at a1 a3
  cases k with
  |zero=>cases a1;cases a3;exact hr j q a a2 a4
  |succ k=>simp at a1
theorem NT{h:List AO}{id:Nat}{l:List Fd}{f:Fd}(he:h[id]?=some (.row 3 (List.take l.length (bh l)++[f.cs.map .p]))):View h (.sl id 3 0 (l.length+1)) (fdL (l++[f])):=by
 have hl:=Bc l
 have:=vC (h:=h) (id:=id) (l:=l++[f]) (by rw[he,WF (by omega)];simp[bh])
 rwa[WL,List.length_singleton] at this
theorem GK(l:List Fd)(k:Nat)(f:Fd):aZ (l.set k f)<=aZ l+f.sz:=by
 by_cases hk:k<l.length
 ·rw[fW f hk]
  have e:l=l.take k++l.drop k:=(Xj _ _).symm
  have e2:l.drop k=l[k]::l.drop (k+1):=List.drop_eq_getElem_cons hk
  have h1:aZ l=aZ (l.take k)+aZ (l.drop k):=by rw[←nq,←e]
  rw[nq]
  have h3:aZ (f::l.drop (k+1))=f.sz+aZ (l.drop (k+1)):=by simp[aZ]
  have h4:aZ (l.drop k)=l[k].sz+aZ (l.drop (k+1)):=by rw[e2];unfold aZ;rw[WY,List.sum_cons]
  omega
 ·rw[List.set_eq_of_length_le (by omega)];omega
theorem Dy{l:List Fd}{f:Fd}(h:f∈l):f.sz<=aZ l:=by
 induction l with
 |nil=>cases h
 |cons x r ih=>
  have e:aZ (x::r)=x.sz+aZ r:=by simp[aZ]
  rcases WC.1 h with rfl|h
  ·omega
  ·have:=ih h;omega
theorem Cr:AK.whole mE=FK.ak mH:=rfl
structure NsS where (i:Nat) (o:Int) (w:List UInt8) (A B C:PV) (q:Nat)
structure BdS where (i:Nat) (bd:List Sm)
structure CfS where (f:Fd) (q:Nat)
theorem Of{b:List Int}(hb:Byt b)(hl:b.length<=2000){p:Nat}(hp:p<=10000000000):AC Tryz.prog G mL [.ptr 0 2 0 0] [rdO b p] λx h=>∃v q,x= .ret v/\h=[rdO b q]/\PgQ p 500000000 200200000 v q:=by
 refine oy G (AC.goK Cn Cr ?_)
 have hprog:AC Tryz.prog G eq [.ptr 0 2 0 0] [rdO b p] λx h=>∃v q,x= .ret v/\h=[rdO b q]/\((∃l:List Fd,v= .agg [.p (fdL l)]/\bp l=true/\aZ l<=200000000)/\p<=q/\q<=p+200000000):=
  (Mq G hb hl hp).mono λx h ⟨l,q,e1,e2,e3,e4,e5,e6⟩=>⟨_,q,e1,e2,⟨l,rfl,e3,e4⟩,e5,e6⟩
 simp-implicitDefEqProofs[mE,mH]
 refine(ku G hprog _ (by simp[below])).mono ?_
 rintro r h ⟨v,q,rfl,rfl,⟨l,rfl,hok,hz⟩,h1,h2⟩
 have hlen:=((gJ l).1 hok).1
 obtain⟨n,hn⟩:∃n,l.length=n+1:=⟨l.length-1,by omega⟩
 have hnl:n<l.length:=by omega
 have hfz:=Dy (WN hnl)
 obtain⟨f,hfe⟩:∃f,l[n]=f:=⟨_,rfl⟩
 rw[hfe] at hfz
 have hg:l[n]?=some f:=by rw[Wz hnl,hfe]
 have fin:∀(r1:List (Nat × AV)) (f':Fd) (q':Nat) (rest:List AO) (P B:AV),Aw.look r1 0= .ptr 0 2 0 0->Aw.look r1 2= .ptr 1 1 0 0->Aw.look r1 3= .ptr 2 1 0 0->Aw.look r1 4= .ptr 3 3 0 0->View (.dead:: .dead:: .dead:: .dead::rest) P (aL f'.params)->View (.dead:: .dead:: .dead:: .dead::rest) B (smL f'.body)->f'.sz<=300000000->q<=q'->q'<=q+100000->
  ∃s:CfS,(s.f.sz<=300000000/\q<=s.q/\s.q<=q+100000)/\Wk 1 (az 145 r1) (rdO b q':: .row 1 [[.nils]]:: .row 1 [[.p (.lst 3 (l.map Fd.cs))]]:: .row 3 [[.p (.str f'.name),P,B]]::rest) (az 145 [(4,.ptr 3 3 0 0),(3,.ptr 2 1 0 0),(2,.ptr 1 1 0 0),(0,.ptr 0 2 0 0)])
   [rdO b s.q,.row 1 [[.nils]],.row 1 [[.p (.lst 3 (l.map Fd.cs))]],.row 3 [[.p (.str s.f.name),.p (aL s.f.params),.p (smL s.f.body)]]]:=λr1 f' q' rest P B e0 e2 e3 e4 hP hB hz' h3 h4=>
  ⟨⟨f',q'⟩,⟨hz',h3,h4⟩,nZ 4 (by omega) (by simp) rfl (.same (bw _ _ _) (.same (by simp[okO,below]) (.same (by simp[okO,below]) (.one (.keep (by simp[below]) (.one hP (.one hB .nil))) (.nil _))))) (by
    simp only[FzA,e0,e2,e3,e4]
    exact⟨.keep (by simp[below]) .nil,.keep (by simp[below]) .nil,.keep (by simp[below]) .nil,.keep (by simp[below]) .nil,trivial⟩)⟩
 have hfsz:f.sz=1+f.name.length+(f.params.length+(f.params.map List.length).sum)+aC f.body:=rfl
 have hln:l.length<=4:=hlen.2
 have hbl:=bE f.body
 have hcs:f.cs=[.str f.name,aL f.params,smL f.body]:=rfl
 have hfl:fdL l= .lst 3 (l.map Fd.cs):=rfl
 have hw:IntKind.i64.wrap ((l.length:Int)-1)=(n:Int):=by rw[ab (by omega) (by omega)];omega
 have hsl:aL f.params= .lst 1 (f.params.map λw=>[.str w]):=rfl
 have hml:smL f.body= .lst 5 (f.body.map Sm.cs):=rfl
 simp-implicitDefEqProofs[aa,hfl,hw,hg,hcs]
 refine lV (λ_:CfS=>az 145 [(4,.ptr 3 3 0 0),(3,.ptr 2 1 0 0),(2,.ptr 1 1 0 0),(0,.ptr 0 2 0 0)]) (λs=>[rdO b s.q,.row 1 [[.nils]],.row 1 [[.p (.lst 3 (l.map Fd.cs))]],.row 3 [[.p (.str s.f.name),.p (aL s.f.params),.p (smL s.f.body)]]])
  (λs=>s.f.sz<=300000000/\q<=s.q/\s.q<=q+100000) ?_ ?_
 rotate_left
 ·rintro⟨f',q'⟩ ⟨h3,h4,h5⟩
  simp only at h3 h4 h5
  simp-implicitDefEqProofs[hw,hnl,hfe,hcs]
  exact⟨⟨by omega,by omega⟩,_,_,q',.agg [.p (fdL (l.set n f'))],rfl,rfl,.agg (.one (Lf (f:=f') rfl hnl (.p _) (.p _) rfl) .nil) .nil,⟨_,rfl,by have:=GK l n f';omega⟩,by omega,by omega⟩
 simp-implicitDefEqProofs[]
 refine(bf G b hb hl q (by omega) 32 _).mono ?_
 rintro r h ⟨k,rfl,rfl,_⟩
 by_cases k0:k=0
 ·subst k0
  simp-implicitDefEqProofs[aa]
  refine(GQ G hb hl (p:=q+1) (by omega) [[102],[100,111],[],[103]] (k:=4) (by simp) (by simp) (by omega) rfl rfl).mono ?_
  rintro r h ⟨s,hs,rfl,rfl⟩
  have hs8:s.length<=8:=by simp at hs;rcases hs with rfl|rfl|rfl|rfl<;>simp
  simp-implicitDefEqProofs[aa]
  exact fin _ ⟨s,f.params,f.body⟩ _ _ _ _ (by simp) (by simp) (by simp) (by simp) (.p _) (.p _) (by simp only[Fd.sz];omega) (by omega) (by omega)
 by_cases k1:k=1
 ·subst k1
  simp-implicitDefEqProofs[aa,hsl]
  refine⟨⟨by omega,by omega⟩,?_⟩
  refine(GQ G hb hl (p:=q+1) (by omega) [[97],[120],[105,102]] (k:=6) (by simp) (by simp) (by omega) rfl rfl).mono ?_
  rintro r h ⟨s,hs,rfl,rfl⟩
  have hs8:s.length<=8:=by simp at hs;rcases hs with rfl|rfl|rfl<;>simp
  simp-implicitDefEqProofs[aa]
  refine⟨⟨by omega,by omega⟩,?_⟩
  exact fin _ ⟨f.name,f.params++[s],f.body⟩ _ _ _ _ (by simp) (by simp) (by simp) (by simp) (KV rfl) (.p _) (by simp[Fd.sz];omega) (by omega) (by omega)
 by_cases k2:k=2
 ·subst k2
  simp-implicitDefEqProofs[aa,hml]
  refine⟨⟨by omega,by omega⟩,?_⟩
  refine(ku G (ON G hb hl (p:=q+1) (by omega)) _ (by simp[below])).mono ?_
  rintro r h ⟨v,q2,rfl,rfl,⟨e,rfl,he⟩,h3,h4⟩
  have hec:=e.cs_eq
  simp-implicitDefEqProofs[aa,hec]
  refine⟨⟨by omega,by omega⟩,?_⟩
  exact fin _ ⟨f.name,f.params,f.body++[⟨3,[],[e],[],[]⟩]⟩ _ _ _ _ (by simp) (by simp) (by simp) (by simp) (.p _) (tY rfl (cd (ep (l:=[e]) (by rw[List.map_singleton,hec];rfl)) (View.nils 5) (View.nils 5))) (by simp[Fd.sz,aX,aC,Sm.sz,aM];omega) (by omega) (by omega)
 by_cases k3:k=3
 ·subst k3
  simp-implicitDefEqProofs[aa,hml]
  refine⟨⟨by omega,by omega⟩,?_⟩
  refine(bf G b hb hl (q+1) (by omega) 10 _).mono ?_
  rintro r h ⟨o,rfl,rfl,_⟩
  simp-implicitDefEqProofs[aa]
  refine(GQ G hb hl (p:=q+1+1) (by omega) [[],[97],[122,122]] (k:=6) (by simp) (by simp) (by omega) rfl rfl).mono ?_
  rintro r h ⟨s,hs,rfl,rfl⟩
  have hs8:s.length<=8:=by simp at hs;rcases hs with rfl|rfl|rfl<;>simp
  simp-implicitDefEqProofs[aa]
  refine(zV G (Ew G hb hl (d:=1) (by omega) (p:=q+1+1+1) (by omega)) _ (by simp[below])).mono ?_
  rintro r h ⟨e,q2,rfl,rfl,he,h3,h4⟩
  simp-implicitDefEqProofs[aa]
  refine⟨⟨by omega,by omega⟩,?_⟩
  obtain⟨eo,en,es,ek⟩:=e
  exact fin _ ⟨f.name,f.params,f.body++[⟨o,s,[⟨eo,en,es,ek⟩],[],[]⟩]⟩ _ _ _ _ (by simp) (by simp) (by simp) (by simp) (.p _) (tY rfl (cd (bD (p0:=(Ex.mk eo en es ek).cs) rfl (Ex.cs_len _) (gV (ib rfl))) (View.nils 5) (View.nils 5))) (by simp[Fd.sz,aX,aC,Sm.sz,aM];omega) (by omega) (by omega)
 by_cases k5:k=5
 ·subst k5
  simp-implicitDefEqProofs[aa]
  exact⟨_,_,q+1,.agg [.p (fdL [])],rfl,rfl,.agg (.one (View.nils 3) .nil) .nil,⟨[],rfl,by simp[aZ]⟩,by omega,by omega⟩
 by_cases k7:k=7
 ·subst k7
  simp-implicitDefEqProofs[aa,hfl]
  have hl0:0<l.length:=by omega
  have hf0:=Dy (WN hl0)
  obtain⟨f0,hg0,hf0⟩:∃f0,l[0]?=some f0/\f0.sz<=aZ l:=⟨_,Wz hl0,hf0⟩
  have hc0:f0.cs=[.str f0.name,aL f0.params,smL f0.body]:=rfl
  have hfa:aZ (l++[f0])=aZ l+f0.sz:=by rw[nq];simp[aZ]
  simp-implicitDefEqProofs[hg0,hc0]
  exact⟨⟨by omega,by omega⟩,⟨by omega,by omega⟩,_,_,q+1,.agg [.p (fdL (l++[f0]))],rfl,rfl,.agg (.one (NT rfl) .nil) .nil,⟨_,rfl,by omega⟩,by omega,by omega⟩
 by_cases k4:k=4
 ·subst k4
  simp-implicitDefEqProofs[aa]
  refine lV (λ_:NsS=>az 145 [(5,.ptr 5 5 0 0),(4,.ptr 3 3 0 0),(3,.ptr 2 1 0 0),(2,.ptr 1 1 0 0),(0,.ptr 0 2 0 0)])
   (λa=>[rdO b a.q,.row 1 [[.nils]],.row 1 [[.p (.lst 3 (l.map Fd.cs))]],.row 3 [[.p (.str f.name),.p (aL f.params),.p (smL f.body)]],.dead,.row 5 [[.p (.int .i64 a.o),.p (.str a.w),.p a.A,.p a.B,.p a.C]]])
   (λa=>(∃s:Sm,s.cs=[.int .i64 a.o,.str a.w,a.A,a.B,a.C]/\aM s.args<=1/\s.sz+2*a.i<=20)/\q+2<=a.q/\a.q+a.i<=q+10) ?_ ?_
  rotate_left
  ·rintro⟨i,o,w,A,B,C,q1⟩ ⟨⟨s,hse,j1,j2⟩,j3,j4⟩
   simp only at hse j1 j2 j3 j4
   have hss:∀(h:List AO) (id:Nat),h[id]?=some (.row 5 (List.take f.body.length (smR f.body)++[[.p (.int .i64 o),.p (.str w),.p A,.p B,.p C]]))->View h (.sl id 5 0 (f.body.length+1)) (smL (f.body++[s])):=λh id e=>tY e (λj q a a1 a2=>tg (e:=[.int .i64 o,.str w,A,B,C]) (hse▸a1) a2)
   simp-implicitDefEqProofs[hml]
   refine⟨⟨by omega,by omega⟩,⟨by omega,by omega⟩,?_⟩
   exact fin _ ⟨f.name,f.params,f.body++[s]⟩ _ _ _ _ (by simp) (by simp) (by simp) (by simp) (.p _) (hss _ _ rfl) (by simp[Fd.sz,aX,aC];omega) (by omega) (by omega)
  simp-implicitDefEqProofs[]
  refine(bf G b hb hl (q+1) (by omega) 5 _).mono ?_
  rintro r h ⟨i0,rfl,rfl,hi0⟩
  simp-implicitDefEqProofs[aa]
  have hs0:(Sm.mk 6 [] [⟨1,0,[],[]⟩] [] []).cs=[.int .i64 6,.str [],exL [⟨1,0,[],[]⟩],smL [],smL []]:=Sm.cs_eq _
  refine aN (λa:NsS=>az 145 [(6,.p (.int .i64 a.i)),(5,.ptr 5 5 0 0),(4,.ptr 3 3 0 0),(3,.ptr 2 1 0 0),(2,.ptr 1 1 0 0),(0,.ptr 0 2 0 0)])
   (λa=>[rdO b a.q,.row 1 [[.nils]],.row 1 [[.p (.lst 3 (l.map Fd.cs))]],.row 3 [[.p (.str f.name),.p (aL f.params),.p (smL f.body)]],.dead,.row 5 [[.p (.int .i64 a.o),.p (.str a.w),.p a.A,.p a.B,.p a.C]]])
   (λa=>(∃s:Sm,s.cs=[.int .i64 a.o,.str a.w,a.A,a.B,a.C]/\aM s.args<=1/\s.sz+2*a.i<=20)/\q+2<=a.q/\a.q+a.i<=q+10) (λa=>a.i) ⟨i0,6,[],exL [⟨1,0,[],[]⟩],smL [],smL [],q+1+1⟩ ⟨⟨_,hs0,by simp[Sm.args,aM,Ex.sz],by simp[Sm.sz,aM,Ex.sz,aC];omega⟩,by simp only;omega,by simp only;omega⟩ ?_ ?_
  ·refine Gb (hX:=[.dead,.dead,.dead,.dead,.row 4 [[.p (.int .i64 1),.p (.int .i64 0),.p (.str []),.nils]],.dead]) (by simp)
    (.same (bw _ _ _) (.same (by simp[okO,below]) (.same (by simp[okO,below]) (.same (by simp[okO,below]) (.give (.one ?_ .nil)))))) ?_
   ·exact .keep (by simp[below]) (.keep (by simp[below]) (.one (bD (p0:=(Ex.mk 1 0 [] []).cs) rfl (Ex.cs_len _) (gV (View.nils 4))) (.one (View.nils 5) (.one (View.nils 5) .nil))))
   ·exact⟨.keep (by simp[below]) .nil,.keep (by simp[below]) .nil,.keep (by simp[below]) .nil,.keep (by simp[below]) .nil,.keep (by simp[below]) .nil,.keep (by simp[below]) .nil,trivial⟩
  rintro⟨i,o,w,A,B,C,q1⟩ ⟨⟨s,hse,j1,j2⟩,j3,j4⟩
  simp only at hse j1 j2 j3 j4
  have hcs1:∀n:Int,(Sm.mk n [] s.args [s] []).cs=[.int .i64 n,.str [],A,.lst 5 [[.int .i64 o,.str w,A,B,C]],.lst 5 []]:=λn=>by
   have hsa:=s.cs_eq
   rw[hse] at hsa
   simp only[List.cons.injEq] at hsa
   rw[Sm.cs_eq];simp only[Sm.op,Sm.name,Sm.args,Sm.body,Sm.els];rw[←hse,hsa.2.2.1];rfl
  have hsz:∀n:Int,(Sm.mk n [] s.args [s] []).sz=1+aM s.args+s.sz:=λn=>by simp[Sm.sz,aC]
  simp-implicitDefEqProofs[]
  refine aO (λhc=>?_) (λhc=>?_)
  ·simp at hc
   simp-implicitDefEqProofs[]
   refine(DI G hb hl (p:=q1) (by omega) [5,6] (by simp) (by simp) _).mono ?_
   rintro r h ⟨n1,_,rfl,rfl⟩
   have hwk:IntKind.i64.wrap ((i:Int)-1)=((i-1:Nat):Int):=by rw[ab (by omega) (by omega)];omega
   simp-implicitDefEqProofs[aa]
   refine⟨⟨i-1,n1,[],A,.lst 5 [[.int .i64 o,.str w,A,B,C]],.lst 5 [],q1+1⟩,⟨⟨_,hcs1 n1,j1,by simp only[hsz];omega⟩,by simp only;omega,by simp only;omega⟩,by simp only;omega,?_⟩
   refine Gb (hX:=[.dead,.dead,.dead,.dead,.dead,.dead]) (by simp) (.same (bw _ _ _) (.same (by simp[okO,below]) (.same (by simp[okO,below]) (.same (by simp[okO,below]) (.drop (.one (.keep (by simp[below]) (.keep (by simp[below]) (.keep (by simp[below]) (.keep (by simp[below]) (.one (View.nils 5) .nil))))) .nil)))))) ?_
   simp only[hwk]
   exact⟨.keep (by simp[below]) .nil,.keep (by simp[below]) .nil,.keep (by simp[below]) .nil,.keep (by simp[below]) .nil,.keep (by simp[below]) .nil,.keep (by simp[below]) .nil,trivial⟩
  ·simp at hc
   exact⟨⟨i,o,w,A,B,C,q1⟩,⟨⟨s,hse,j1,j2⟩,j3,j4⟩,dC (m:=6) (by simp) (bW rfl rfl (aD (bw _ _ _) (aD (by simp[okO,below]) (aD (by simp[okO,below]) (aD (by simp[okO,below]) (aD (by simp[okO]) (aD (by simp[okO,below]) gu))))))) (by simp[below])⟩
 by_cases k6:k=6
 ·subst k6
  simp-implicitDefEqProofs[aa]
  refine(lY G hb hl (p:=q+1) (by omega) [20,40,41] (k:=4) (by simp) (by simp) (by omega) rfl rfl).mono ?_
  rintro r h ⟨i0,hi0,rfl,rfl⟩
  obtain⟨i,rfl,hi⟩:∃J:Nat,i0=J/\J<=41:=⟨i0.toNat,by simp at hi0;omega,by simp at hi0;omega⟩
  simp-implicitDefEqProofs[aa]
  refine aN (λa:BdS=>az 145 [(7,.p (.int .i64 a.i)),(4,.ptr 3 3 0 0),(3,.ptr 2 1 0 0),(2,.ptr 1 1 0 0),(0,.ptr 0 2 0 0)])
   (λa=>[rdO b (q+1+1),.row 1 [[.nils]],.row 1 [[.p (.lst 3 (l.map Fd.cs))]],.row 3 [[.p (.str f.name),.p (aL f.params),.p (smL a.bd)]]])
   (λa=>a.i<=41/\aC a.bd+10*a.i<=aC f.body+500) (λa=>a.i) ⟨i,f.body⟩ ⟨hi,by simp only;omega⟩ ?_ ?_
  ·exact dC (m:=4) (by simp) (bW rfl rfl (aD (bw _ _ _) (aD (by simp[okO,below]) (aD (by simp[okO,below]) (aD (by simp[okO,below]) gu))))) (by simp[below])
  rintro⟨i1,bd⟩ ⟨j1,j2⟩
  simp only at j1 j2
  have hbl2:=bE bd
  have hml2:smL bd= .lst 5 (bd.map Sm.cs):=rfl
  simp-implicitDefEqProofs[hml2]
  refine aO (λhc=>?_) (λhc=>?_)
  ·simp at hc
   have hwk:IntKind.i64.wrap ((i1:Int)-1)=((i1-1:Nat):Int):=by rw[ab (by omega) (by omega)];omega
   simp-implicitDefEqProofs[hml2]
   refine⟨⟨by omega,by omega⟩,⟨by omega,by omega⟩,⟨i1-1,bd++[⟨3,[],[⟨1,i1,[],[]⟩],[],[]⟩]⟩,⟨by simp only;omega,by simp[aX,aC,Sm.sz,aM,Ex.sz];omega⟩,by simp only;omega,?_⟩
   refine nZ 4 (by omega) (by simp) rfl (.same (bw _ _ _) (.same (by simp[okO,below]) (.same (by simp[okO,below]) (.one (.keep (by simp[below]) (.keep (by simp[below]) (.one (tY rfl (cd (bD (p0:=(Ex.mk 1 i1 [] []).cs) rfl (Ex.cs_len _) (gV (View.nils 4))) (View.nils 5) (View.nils 5))) .nil))) (.nil _))))) ?_
   simp only[hwk]
   exact⟨.keep (by simp[below]) .nil,.keep (by simp[below]) .nil,.keep (by simp[below]) .nil,.keep (by simp[below]) .nil,.keep (by simp[below]) .nil,trivial⟩
  ·simp at hc
   exact fin _ ⟨f.name,f.params,bd⟩ _ _ _ _ (by simp) (by simp) (by simp) (by simp) (.p _) (.p _) (by simp[Fd.sz];omega) (by omega) (by omega)
 have c1:¬(k:Int)=1:=by omega
 have c2:¬(k:Int)=2:=by omega
 have c3:¬(k:Int)=3:=by omega
 have c4:¬(k:Int)=4:=by omega
 have c5:¬(k:Int)=5:=by omega
 have c6:¬(k:Int)=6:=by omega
 have c7:¬(k:Int)=7:=by omega
 simp-implicitDefEqProofs[aa,k0,c1,c2,c3,c4,c5,c6,c7]
 exact fin _ ⟨f.name,f.params,f.body⟩ _ _ _ _ (by simp) (by simp) (by simp) (by simp) (.p _) (.p _) (by simp only[Fd.sz];omega) (by omega) (by omega)
end
section
variable (G:aK)
def PshF(s:Bool)(sz:Nat)(D:List (List PV))(h0:List AO)(a:PshS):Prop:=a.i<=D.length/\h0.length<=a.id/\h0.length<=a.h.length/\(∀j,j<h0.length->a.h[j]?=h0[j]?)/\∃rows J,RowOwn s a.h a.id sz rows (D.take a.i) J/\∀j∈J,h0.length<=j
theorem An{h h2:List AO}(hl:h.length<=h2.length)(hf:∀j,j<h.length->h2[j]?=h[j]?):h2=h++h2.drop h.length:=by
 have e:h2.take h.length=h:=by
  apply List.ext_getElem?
  intro j
  by_cases hj:j<h.length
  ·rw[List.getElem?_take_of_lt hj];exact hf j hj
  ·rw[Xu (by rw[WX];omega),Xu (by omega)]
 have e2:=Xj h.length h2
 rw[e] at e2
 exact e2.symm
theorem PshF.init{s:Bool}{sz:Nat}{D:List (List PV)}(h0 os:List AO):PshF s sz D h0 ⟨0,h0.length,h0++ .row sz []::os⟩:=
 ⟨Xg _,WK _,by simp,λj hj=>Wx hj,[],[],⟨by simp,rfl,λ_ h=>(by cases h),λ_ h=>(by cases h),.nil,by simp⟩,λj hj=>by cases hj⟩
theorem PshF.step{s:Bool}{sz i id:Nat}{D:List (List PV)}{h0 h:List AO}(H:PshF s sz D h0 ⟨i,id,h⟩){e:List PV}(hi:D[i]?=some e){h2:List AO}(hl:h.length<=h2.length)(hf:∀j,j<h.length->h2[j]?=h[j]?){r':List AV}{I2:List Nat}(ho:OwnL s h2 r' e I2)(nd2:I2.Nodup)(hn:∀j∈I2,h.length<=j)(he:e.length=sz):
 ∃rows,(∀os,(h2++os)[id]?=some (.row sz rows))/\rows.length=i/\i<D.length/\id<h2.length/\∀os1 os2,PshF s sz D h0 ⟨i+1,(h2++os1).length,(h2++os1).set id .dead++ .row sz (rows++[r'])::os2⟩:=by
 obtain⟨h1,h3,h4,h5,rows,J,hr,hJ⟩:=H
 have hil:i<D.length:=(Wy.1 hi).1
 have hlen:=hr.len
 simp only at h1 h3 h4 h5 hlen hr
 rw[WX,Nat.min_eq_left h1] at hlen
 have e2:=An hl hf
 have hid:=hr.lt
 have h2e:h2[id]?=some (.row sz rows):=by rw[hf id hid];exact hr.here
 refine⟨rows,λos=>by rw[Wx (by omega)];exact h2e,hlen,hil,by omega,λos1 os2=>⟨hil,by simp only[WL];omega,by simp;omega,λj hj=>?_,rows++[r'],J++I2,?_,λj hj=>?_⟩⟩
 ·simp only
  rw[Wx (by simp only[Xq,WL,WP];omega),WB (by omega),Wx (by omega),hf j (by omega)]
  exact h5 j hj
 ·have hp:=(hr.push (h2:=h2++os1) (os:=h2.drop h.length++os1) (by rw[←Xi,←e2]) (ho.more os1) nd2 hn he).more os2
  have hd:D.take i++[e]=D.take (i+1):=by rw[List.take_add_one,hi];rfl
  rw[hd,Xi] at hp
  exact hp
 ·rcases WE.1 hj with hj|hj
  ·exact hJ j hj
  ·have:=hn j hj;omega
theorem PshF.done{s:Bool}{sz i id:Nat}{D:List (List PV)}{h0 h:List AO}(H:PshF s sz D h0 ⟨i,id,h⟩)(hi:D.length<=i):h0.length<=h.length/\(∀j,j<h0.length->h[j]?=h0[j]?)/\∃I,OwnL s h [.sl id sz 0 i] [.lst sz D] I/\I.Nodup/\∀j∈I,h0.length<=j:=by
 obtain⟨h1,h3,h4,h5,rows,J,hr,hJ⟩:=H
 simp only at h1 h3 h4 h5 hr
 rw[WF hi] at hr
 exact⟨h4,h5,id::J,hr.tree (by omega),hr.nd,λj hj=>by
  rcases WC.1 hj with rfl|hj
  ·exact h3
  ·exact hJ j hj⟩
theorem FS{s:Bool}{n:Nat}{h1 os:List AO}{a b:List AV}{c d:List PV}{I1 I2:List Nat}(H1:OwnL s h1 a c I1)(n1:I1.Nodup)(f1:∀i∈I1,n<=i)(H2:OwnL s (h1++os) b d I2)(n2:I2.Nodup)(f2:∀i∈I2,h1.length<=i)(hn:n<=h1.length):
 OwnL s (h1++os) (a++b) (c++d) (I1++I2)/\(I1++I2).Nodup/\∀i∈I1++I2,n<=i:=by
 refine⟨(H1.more os).app H2,?_,λi hi=>?_⟩
 ·rw[Xx]
  refine⟨n1,n2,λa ha b hb e=>?_⟩
  have:=H1.lt ha;have:=f2 b hb;omega
 ·rcases WE.1 hi with hi|hi
  ·exact f1 i hi
  ·have:=f2 i hi;omega
theorem Ay{α:Type}(l:List α)(a b:α):(l++[a]).set l.length b=l++[b]:=by
 rw[List.set_append_right _ _ (WK _),Nat.sub_self];rfl
theorem Ps{h:List AO}{s:Sm}{A B E:AV}{I:List Nat}(H:OwnL true h ([A]++[B]++[E]) ([exL s.args]++[smL s.body]++[smL s.els]) I):OwnL true h [.p (.int .i64 s.op),.p (.str s.name),A,B,E] s.cs I:=by
 rw[s.cs_eq]
 exact .p _ (λ_=>rfl) (.p _ (λ_=>rfl) H)
theorem kR{s:Bool}{h:List AO}{v:AV}{q:PV}{I:List Nat}(H:OwnL s h [v] [q] I):(∃q',v= .p q')\/v= .nils\/∃a b n,v= .sl a b 0 n:=by
 cases H with
 |p q=>exact .inl ⟨_,rfl⟩
 |nils=>exact .inr (.inl rfl)
 |sl id sz n=>exact .inr (.inr ⟨_,_,_,rfl⟩)
theorem PF{s:Bool}{h:List AO}{e:Ex}{K:AV}{I:List Nat}(H:OwnL s h [K] [exL e.kids] I):OwnL s h [.p (.int .i64 e.op),.p (.int .i64 e.n),.p (.str e.name),K] e.cs I:=by
 rw[e.cs_eq]
 exact .p _ (λ_=>rfl) (.p _ (λ_=>rfl) (.p _ (λ_=>rfl) H))
theorem NB:∀(N:Nat) (e:Ex),e.sz<=N->e.sz<=1073741824->AC Tryz.prog G jD [.agg (e.cs.map .p)] [] (MkW .agg true e.cs):=by
 intro N
 induction N with
 |zero=>intro e he;have:=e.sz_eq;omega
 |succ N ih=>
  intro e he hb
  have hsz:=e.sz_eq
  have hkl:=bL e.kids
  refine AC.go CM ?_
  have hec:=e.cs_eq
  have hsl:exL e.kids= .lst 4 (e.kids.map Ex.cs):=rfl
  simp-implicitDefEqProofs[sA,hec,hsl]
  obtain⟨hb0,ehb⟩:∃hb0:List AO,hb0=[.row 4 [[.p (.int .i64 e.op),.p (.int .i64 e.n),.p (.str e.name),.p (.lst 4 (e.kids.map Ex.cs))]],.row 4 [[.p (.int .i64 0),.p (.int .i64 0),.p (.str []),.nils]]]:=⟨_,rfl⟩
  have hini:PshF true 4 (e.kids.map Ex.cs) hb0 ⟨0,2,[.row 4 [[.p (.int .i64 e.op),.p (.int .i64 e.n),.p (.str e.name),.p (.lst 4 (e.kids.map Ex.cs))]],.row 4 [[.p (.int .i64 0),.p (.int .i64 0),.p (.str []),.nils]],.row 4 []]⟩:=by
   rw[ehb];exact PshF.init _ []
  refine aN (λa:PshS=>az 25 [(4,.p (.int .i64 a.i)),(3,.sl a.id 4 0 a.i),(2,.ptr 1 4 0 0),(1,.ptr 0 4 0 0)]) (λa=>a.h) (PshF true 4 (e.kids.map Ex.cs) hb0) (λa=>e.kids.length-a.i) _ hini ?_ ?_
  ·exact am (by simp) (by simp[below])
  rintro⟨i,id,h'⟩ hJ
  have hl0:hb0.length=2:=by rw[ehb];rfl
  have g0:h'[0]?=some (.row 4 [[.p (.int .i64 e.op),.p (.int .i64 e.n),.p (.str e.name),.p (.lst 4 (e.kids.map Ex.cs))]]):=by rw[hJ.2.2.2.1 0 (by omega),ehb];rfl
  have g1:h'[1]?=some (.row 4 [[.p (.int .i64 0),.p (.int .i64 0),.p (.str []),.nils]]):=by rw[hJ.2.2.2.1 1 (by omega),ehb];rfl
  have hl2:2<=h'.length:=by have:=hJ.2.2.1;simp only at this;omega
  simp-implicitDefEqProofs[g0]
  refine aO (λh1=>?_) (λh1=>?_)
  ·simp at h1
   have hg:=Wz h1
   have hm:=cQ (WN h1)
   have hH:=ih e.kids[i] (by omega) (by omega)
   have hcs:=e.kids[i].cs_eq
   have hDa:(e.kids.map Ex.cs)[i]?=some e.kids[i].cs:=by rw[WR,hg];rfl
   generalize e.kids[i]=k at hg hH hcs hDa
   have hA:=AC.mkLift uF hH (h:=h') (by rw[hcs];simp)
   rw[hcs] at hA
   simp-implicitDefEqProofs[g0,hg,hcs]
   refine hA.mono ?_
   rintro r h2 ⟨vs,I2,os,rfl,e2,ho,nd,hf⟩
   rw[←hcs] at ho
   obtain⟨rows,k1,k2,k3,k4,k5⟩:=hJ.step hDa (h2:=h2) (by rw[e2];simp) (λx hx=>by rw[e2,Wx hx]) ho nd hf k.cs_len
   obtain⟨K,rfl,hK⟩:=Hd ho
   have hwi:=w1 (i:=i) (by omega)
   rcases kR hK with⟨q1,rfl⟩|rfl|⟨x1,x2,x3,rfl⟩
   ·have k6:=k5 [.row 4 [[.p (.int .i64 k.op),.p (.int .i64 k.n),.p (.str k.name),.p q1]]] []
    simp-implicitDefEqProofs[aa,k1,k2]
    rw[WF (l:=rows) (i:=i) (by omega)]
    refine⟨⟨by omega,by omega⟩,_,k6,by simp only;omega,am (by simp) ?_⟩
    simp[below,hwi]
   ·have k6:=k5 [.row 4 [[.p (.int .i64 k.op),.p (.int .i64 k.n),.p (.str k.name),.nils]]] []
    simp-implicitDefEqProofs[aa,k1,k2]
    rw[WF (l:=rows) (i:=i) (by omega)]
    refine⟨⟨by omega,by omega⟩,_,k6,by simp only;omega,am (by simp) ?_⟩
    simp[below,hwi]
   ·have k6:=k5 [.row 4 [[.p (.int .i64 k.op),.p (.int .i64 k.n),.p (.str k.name),.sl x1 x2 0 x3]]] []
    simp-implicitDefEqProofs[aa,k1,k2]
    rw[WF (l:=rows) (i:=i) (by omega)]
    refine⟨⟨by omega,by omega⟩,_,k6,by simp only;omega,am (by simp) ?_⟩
    simp[below,hwi]
  ·simp at h1
   have hie:i=e.kids.length:=by have:=hJ.1;simp at this;omega
   obtain⟨d1,d2,I,ho,nd,hI⟩:=hJ.done (by simpa using h1)
   subst hie
   have hn0:0∉I:=λhm=>by have:=hI 0 hm;omega
   have hn1:1∉I:=λhm=>by have:=hI 1 hm;omega
   have s0:∀x,(h'.set 0 x)[0]?=some x:=λx=>WH (by omega)
   have s1:∀x,(h'.set 0 x)[1]?=some (.row 4 [[.p (.int .i64 0),.p (.int .i64 0),.p (.str []),.nils]]):=λx=>by rw[WB (by omega)];exact g1
   have s2:∀x y,((h'.set 0 x).set 1 y)[1]?=some y:=λx y=>WH (by rw[Xq];omega)
   simp-implicitDefEqProofs[g0,g1,s0,s1,s2]
   rw[←hsl,←hec]
   exact⟨_,I,rfl,PF ((ho.set_out hn0 _).set_out hn1 _),nd⟩
theorem Da:∀(N:Nat) (l:List Sm),aC l<N->aC l<=1073741824->AC Tryz.prog G dL [.p (smL l)] [] (MkW dR true [smL l]):=by
 intro N
 induction N with
 |zero=>intro l he;omega
 |succ N ih=>
  intro l hN hz
  have hsl:∀l,smL l= .lst 5 (l.map Sm.cs):=λ_=>rfl
  have hll:=bE l
  refine AC.go AF ?_
  simp-implicitDefEqProofs[po,hsl]
  refine aN (λa:PshS=>az 52 [(4,.p (.int .i64 a.i)),(3,.sl a.id 5 0 a.i),(0,.p (smL l))]) (λa=>a.h) (PshF true 5 (l.map Sm.cs) []) (λa=>l.length-a.i) ⟨0,0,[.row 5 []]⟩ (PshF.init [] []) ?_ ?_
  ·exact am (by simp) (by simp[below,hsl])
  rintro⟨i,id,hh⟩ hI
  simp-implicitDefEqProofs[hsl]
  refine aO (λh1=>?_) (λh1=>?_)
  ·simp at h1
   have hg:=Wz h1
   have hm:=fe (WN h1)
   have hcs:=l[i].cs_eq
   have hse:=l[i].sz_eq
   have hD:(l.map Sm.cs)[i]?=some l[i].cs:=by rw[WR,hg];rfl
   generalize l[i]=s at hg hm hcs hse hD
   simp-implicitDefEqProofs[hg,hcs,Ay]
   have hid:id<hh.length:=by obtain⟨_,_,_,_,_,_,hr,_⟩:=hI;exact hr.lt
   have hal:=bL s.args
   have hxl:exL s.args= .lst 4 (s.args.map Ex.cs):=rfl
   obtain⟨hb,ehb⟩:∃hb,hb=hh++[AO.row 5 [[.p (.int .i64 s.op),.p (.str s.name),.p (exL s.args),.p (smL s.body),.p (smL s.els)]]]:=⟨_,rfl⟩
   have hbl:hb.length=hh.length+1:=by rw[ehb];simp
   have hbx:hb[hh.length]?=some (.row 5 [[.p (.int .i64 s.op),.p (.str s.name),.p (exL s.args),.p (smL s.body),.p (smL s.els)]]):=by rw[ehb];simp
   have hini:PshF true 4 (s.args.map Ex.cs) hb ⟨0,hh.length+1,hh++[AO.row 5 [[.p (.int .i64 s.op),.p (.str s.name),.p (exL s.args),.p (smL s.body),.p (smL s.els)]],.row 4 []]⟩:=by
    have:=PshF.init (s:=true) (sz:=4) (D:=s.args.map Ex.cs) hb []
    rw[hbl,ehb,Xi] at this
    rw[ehb];exact this
   refine aN (λa:PshS=>az 52 [(7,.p (.int .i64 a.i)),(6,.sl a.id 4 0 a.i),(5,.ptr hh.length 5 0 0),(4,.p (.int .i64 i)),(3,.sl id 5 0 i),(0,.p (smL l))]) (λa=>a.h) (PshF true 4 (s.args.map Ex.cs) hb) (λa=>s.args.length-a.i) _ hini ?_ ?_
   ·refine am (by simp) ?_
    simp[below,hsl]
    omega
   rintro⟨j,id2,h'⟩ hJ
   have hjb:h'[hh.length]?=some (.row 5 [[.p (.int .i64 s.op),.p (.str s.name),.p (exL s.args),.p (smL s.body),.p (smL s.els)]]):=by
    rw[hJ.2.2.2.1 _ (by omega)];exact hbx
   have hlb:hh.length+1<=h'.length:=by have:=hJ.2.2.1;simp only at this;omega
   simp-implicitDefEqProofs[hjb,hxl]
   refine aO (λh2=>?_) (λh2=>?_)
   ·simp at h2
    have hga:=Wz h2
    have hma:=cQ (WN h2)
    have hC:=NB G _ s.args[j] (WK _) (by omega)
    have hka:=s.args[j].cs_eq
    have hDa:(s.args.map Ex.cs)[j]?=some s.args[j].cs:=by rw[WR,hga];rfl
    generalize s.args[j]=e at hga hma hC hka hDa
    have hA:=AC.mkLift uF hC (h:=h') (by rw[hka];simp)
    rw[hka] at hA
    simp-implicitDefEqProofs[hjb,hga,hka,hxl]
    refine hA.mono ?_
    rintro r h2 ⟨vs,I2,os,rfl,e2,ho,nd,hf⟩
    rw[←hka] at ho
    obtain⟨rows,k1,k2,k3,k4,k5⟩:=hJ.step hDa (h2:=h2) (by rw[e2];simp) (λx hx=>by rw[e2,Wx hx]) ho nd hf e.cs_len
    obtain⟨K,rfl,hK⟩:=Hd ho
    have hwj:=w1 (i:=j) (by omega)
    have hl2:h'.length<=h2.length:=by rw[e2];simp
    rcases kR hK with⟨q1,rfl⟩|rfl|⟨x1,x2,x3,rfl⟩
    ·have k6:=k5 [.row 4 [[.p (.int .i64 e.op),.p (.int .i64 e.n),.p (.str e.name),.p q1]]] []
     simp-implicitDefEqProofs[aa,k1,k2]
     rw[WF (l:=rows) (i:=j) (by omega)]
     refine⟨⟨by omega,by omega⟩,_,k6,by simp only;omega,am (by simp) ?_⟩
     simp[below,hsl,hwj]
     omega
    ·have k6:=k5 [.row 4 [[.p (.int .i64 e.op),.p (.int .i64 e.n),.p (.str e.name),.nils]]] []
     simp-implicitDefEqProofs[aa,k1,k2]
     rw[WF (l:=rows) (i:=j) (by omega)]
     refine⟨⟨by omega,by omega⟩,_,k6,by simp only;omega,am (by simp) ?_⟩
     simp[below,hsl,hwj]
     omega
    ·have k6:=k5 [.row 4 [[.p (.int .i64 e.op),.p (.int .i64 e.n),.p (.str e.name),.sl x1 x2 0 x3]]] []
     simp-implicitDefEqProofs[aa,k1,k2]
     rw[WF (l:=rows) (i:=j) (by omega)]
     refine⟨⟨by omega,by omega⟩,_,k6,by simp only;omega,am (by simp) ?_⟩
     simp[below,hsl,hwj]
     omega
   ·simp at h2
    have hjl:j=s.args.length:=by have:=hJ.1;simp at this;omega
    obtain⟨d1,d2,IA,oA,nA,fA⟩:=hJ.done (by simpa using h2)
    subst hjl
    have hB:=ih s.body (by omega) (by omega)
    have hE:=ih s.els (by omega) (by omega)
    simp-implicitDefEqProofs[hjb]
    refine(AC.mkLift tU hB (h:=h') (by simp)).mono ?_
    rintro r h3 ⟨vB,IB,o1,rfl,e3,oB,nB,fB⟩
    obtain⟨B,rfl⟩:=gw oB
    have hjb3:h3[hh.length]?=some (.row 5 [[.p (.int .i64 s.op),.p (.str s.name),.p (exL s.args),.p (smL s.body),.p (smL s.els)]]):=by
     rw[e3,Wx (by omega)];exact hjb
    simp-implicitDefEqProofs[aa,dR,hjb3]
    refine(AC.mkLift tU hE (h:=h3) (by simp)).mono ?_
    rintro r h4 ⟨vE,IE,o2,rfl,e4,oE,nE,fE⟩
    obtain⟨E,rfl⟩:=gw oE
    have hjb4:h4[hh.length]?=some (.row 5 [[.p (.int .i64 s.op),.p (.str s.name),.p (exL s.args),.p (smL s.body),.p (smL s.els)]]):=by
     have:hh.length<h3.length:=(Wy.1 hjb3).1
     rw[e4,Wx this];exact hjb3
    have cB:=kR oB
    have cE:=kR oE
    obtain⟨a1,a2,a3⟩:=FS oA nA fA (by rw[←e3];exact oB) nB fB d1
    rw[←e3] at a1
    obtain⟨b1,b2,b3⟩:=FS a1 a2 a3 (by rw[←e4];exact oE) nE fE (by rw[e3];simp;omega)
    rw[←e4] at b1
    have hS:=Ps (s:=s) b1
    obtain⟨rows,k1,k2,k3,k4,k5⟩:=hI.step hD (h2:=h4) (by rw[e4,e3];simp;omega) (λx hx=>by
     rw[e4,Wx (by rw[e3];simp;omega),e3,Wx (by omega),d2 x (by omega),ehb,Wx hx]) hS b2 (λx hx=>by have:=b3 x hx;omega) s.cs_len
    have k6:=k5 [.row 5 [[.p (.int .i64 s.op),.p (.str s.name),.sl id2 4 0 s.args.length,B,E]]] []
    have hwi:=w1 (i:=i) (by omega)
    rcases cB with⟨q1,rfl⟩|rfl|⟨x1,x2,x3,rfl⟩<;>rcases cE with⟨q2,rfl⟩|rfl|⟨y1,y2,y3,rfl⟩<;>
    ·simp-implicitDefEqProofs[aa,dR,hjb4,k1,k2]
     rw[WF (l:=rows) (i:=i) (by omega)]
     refine⟨⟨by omega,by omega⟩,_,k6,by simp only;omega,am (by simp) ?_⟩
     simp[below,hsl,hwi]
  ·simp at h1
   obtain⟨_,_,I,ho,nd,_⟩:=hI.done (by simpa using h1)
   have hie:i=l.length:=by have:=hI.1;simp at this;omega
   subst hie
   simp-implicitDefEqProofs[]
   exact⟨_,I,rfl,ho,nd⟩
def cpK(a:PshS):AV:=if a.i=0 then .nils else .sl a.id 3 0 a.i
def CpI(l:List Fd)(a:PshS):Prop:=a.i<=l.length/\a.h[0]?=some (.row 1 [[.p (fdL l)]])/\a.h[1]?=some (.row 1 [[.nils]])/\a.h[2]?=some (.row 1 [[cpK a]])/\
 (0<a.i->3<=a.id/\∃rows J,RowOwn true a.h a.id 3 rows ((l.map Fd.cs).take a.i) J/\∀j∈J,3<=j)
theorem CV:∀l:List Fd,l.length<=aZ l
 |[]=>WK _
 |f::r=>by
  have:=CV r
  have h1:aZ (f::r)=f.sz+aZ r:=by simp[aZ]
  have h2:f.sz=1+f.name.length+(f.params.length+(f.params.map List.length).sum)+aC f.body:=rfl
  simp only[WP];omega
theorem GO{h:List AO}{id:Nat}{l:List (List UInt8)}(e:h[id]?=some (bV l)){n:Nat}(hn:n=l.length):OwnL true h [.sl id 1 0 n] [aL l] [id]:=by
 have hr:RowOwn true h id 1 (l.map λw=>[AV.p (.str w)]) (l.map λw=>[PV.str w]) []:=by
  refine⟨e,by simp,λx hx=>by obtain⟨w,_,rfl⟩:=Xb.1 hx;rfl,λx hx=>by obtain⟨w,_,rfl⟩:=Xb.1 hx;rfl,?_,by simp⟩
  clear e hn
  induction l with
  |nil=>exact .nil
  |cons w r ih=>exact .p _ (λ_=>rfl) ih
 exact hr.tree (by simpa using hn)
theorem OH{h3:List AO}(hl:3<=h3.length){r:List AV}{f:Fd}{I2:List Nat}(ho:OwnL true h3 r f.cs I2)(nd:I2.Nodup)(hf:∀j∈I2,3<=j)(o x:AO):∃J,RowOwn true ((h3++[o,.row 3 [r]]).set 2 x) (h3.length+1) 3 [r] [f.cs] J/\∀j∈J,3<=j:=by
 have hr:r.length=3:=by rw[ho.len,Fd.cs_len]
 refine⟨I2,⟨?_,rfl,λe he=>by rw[WG.1 he];exact hr,λe he=>by rw[WG.1 he];exact Fd.cs_len f,?_,?_⟩,hf⟩
 ·rw[WB (by omega),WD (by omega),XB];rfl
 ·have:=(ho.more [o,.row 3 [r]]).set_out (λhm=>by have:=hf 2 hm;omega:2∉I2) x
  simpa using this
 ·rw[WW]
  exact⟨λhm=>by have:=ho.lt hm;omega,nd⟩
theorem Qf{h h3:List AO}{id:Nat}{rows:List (List AV)}{D:List (List PV)}{J:List Nat}(H:RowOwn true h id 3 rows D J)(hJ:∀j∈J,3<=j)(hid:3<=id)(hh:3<=h.length)(e3:h3=h++h3.drop h.length){r:List AV}{f:Fd}{I2:List Nat}(ho:OwnL true h3 r f.cs I2)(nd:I2.Nodup)(hf:∀j∈I2,h.length<=j)(o x:AO):
 ∃J,RowOwn true (((h3++[o]).set id .dead++[AO.row 3 (rows++[r])]).set 2 x) (h3.length+1) 3 (rows++[r]) (D++[f.cs]) J/\∀j∈J,3<=j:=by
 have hp:=H.push (h2:=h3++[o]) (os:=h3.drop h.length++[o]) (by rw[←Xi,←e3]) (ho.more [o]) nd hf (Fd.cs_len f)
 have hl:(h3++[o]).length=h3.length+1:=by simp
 rw[hl] at hp
 have hl3:h.length<=h3.length:=by rw[e3];simp
 refine⟨J++I2,hp.frame λk hk=>?_,λj hj=>?_⟩
 ·have:3<=k:=by
   rcases WC.1 hk with rfl|hk
   ·omega
   ·rcases WE.1 hk with hk|hk
    ·exact hJ k hk
    ·have:=hf k hk;omega
  rw[WB (by omega)]
 ·rcases WE.1 hj with hj|hj
  ·exact hJ j hj
  ·have:=hf j hj;omega
theorem Nv(l:List Fd)(hz:aZ l<=1073741824):AC Tryz.prog G mG [.agg [.p (fdL l)]] [] (MkW .agg true [fdL l]):=by
 have hfl:∀l,fdL l= .lst 3 (l.map Fd.cs):=λ_=>rfl
 have hll:l.length<=aZ l:=CV l
 refine AC.go Cz ?_
 simp-implicitDefEqProofs[rW,hfl]
 refine aN (λa:PshS=>az 35 [(4,.p (.int .i64 a.i)),(3,.ptr 2 1 0 0),(2,.ptr 1 1 0 0),(1,.ptr 0 1 0 0)]) (λa=>a.h) (CpI l) (λa=>l.length-a.i) ⟨0,0,[.row 1 [[.p (fdL l)]],.row 1 [[.nils]],.row 1 [[.nils]]]⟩ ⟨Xg _,rfl,rfl,rfl,λh=>by simp at h⟩ ?_ ?_
 ·exact am (by simp) (by simp[below])
 rintro⟨i,id,h⟩ ⟨i1,i2,i3,i4,i5⟩
 simp only at i1 i2 i3 i4 i5
 have hl3:3<=h.length:=by have:=(Wy.1 i4).1;omega
 have j2:∀os,(h++os)[0]?=some (.row 1 [[.p (fdL l)]]):=λos=>by rw[Wx (by omega)];exact i2
 have j4:∀os,(h++os)[2]?=some (.row 1 [[cpK ⟨i,id,h⟩]]):=λos=>by rw[Wx (by omega)];exact i4
 simp-implicitDefEqProofs[i2,hfl]
 refine aO (λh1=>?_) (λh1=>?_)
 ·simp at h1
  have hg:=Wz h1
  have hm:=dp (WN h1)
  have hD:(l.map Fd.cs)[i]?=some l[i].cs:=by rw[WR,hg];rfl
  generalize l[i]=f at hg hm hD
  have hcs:f.cs=[.str f.name,aL f.params,smL f.body]:=rfl
  have hsp:aL f.params= .lst 1 (f.params.map λw=>[.str w]):=rfl
  have hfz:f.sz=1+f.name.length+(f.params.length+(f.params.map List.length).sum)+aC f.body:=rfl
  have hB:=Da G _ f.body (Nat.lt_succ_self _) (by omega)
  by_cases hi0:i=0
  ·subst hi0
   have hk:cpK ⟨0,id,h⟩= .nils:=rfl
   rw[hk] at j4 i4
   have fin0:∀(h3:List AO) (r:List AV) (I2:List Nat) (l0:List (Nat × AV)),h.length+3<=h3.length->(∀j,j<h.length->h3[j]?=h[j]?)->OwnL true h3 r f.cs I2->I2.Nodup->(∀j∈I2,h.length<=j)->∀(o:AO) (hw:Aw.look l0 4= .p (.int .i64 (IntKind.i64.wrap 1))/\Aw.look l0 3= .ptr 2 1 0 0/\Aw.look l0 2= .ptr 1 1 0 0/\Aw.look l0 1= .ptr 0 1 0 0),
    ∃a',CpI l a'/\l.length-a'.i<l.length/\Wk 0 (az 35 l0) ((h3++[o,.row 3 [r]]).set 2 (.row 1 [[.sl (h3.length+1) 3 0 1]])) (az 35 [(4,.p (.int .i64 a'.i)),(3,.ptr 2 1 0 0),(2,.ptr 1 1 0 0),(1,.ptr 0 1 0 0)]) a'.h:=by
    intro h3 r I2 l0 hl4 hg3 oR nR fR o ⟨e4,e3,e2,e1⟩
    obtain⟨J,hJ,hJ3⟩:=OH (by omega) oR nR (λj hj=>by have:=fR j hj;omega) o (.row 1 [[.sl (h3.length+1) 3 0 1]])
    have hd:(l.map Fd.cs).take 1=[f.cs]:=by rw[List.take_add_one,hD];rfl
    refine⟨⟨1,h3.length+1,_⟩,⟨by simp only;omega,?_,?_,?_,λ_=>⟨by simp only;omega,_,J,by simp only[hd];exact hJ,hJ3⟩⟩,by simp only;omega,am (by simp) ?_⟩
    ·rw[WB (by omega),Wx (by omega),hg3 0 (by omega)];exact i2
    ·rw[WB (by omega),Wx (by omega),hg3 1 (by omega)];exact i3
    ·rw[WH (by simp;omega)];rfl
    ·simp[e1,e2,e3,e4,below]
     exact⟨by have:=w1 (i:=0) (by omega);simpa using this,by omega⟩
   simp-implicitDefEqProofs[i2,hfl,hg,hcs,hsp,Ay, ↓j2, ↓j4]
   refine⟨⟨by omega,by omega⟩,?_⟩
   refine(AC.mkLift tU hB (by simp)).mono ?_
   rintro r h3 ⟨vB,IB,o1,rfl,e3,oB,nB,fB⟩
   obtain⟨B,rfl⟩:=gw oB
   simp at fB
   have hg3:∀j,j<h.length->h3[j]?=h[j]?:=λj hj=>by rw[e3,Xi,Wx hj]
   have p0:h3[h.length]?=some (.row 3 [[.p (.str f.name),.p (.lst 1 (f.params.map λw=>[.str w])),.p (smL f.body)]]):=by
    rw[e3,Xi,WD (WK _),Nat.sub_self];rfl
   have p2:h3[h.length+2]?=some (bV f.params):=by
    rw[e3,Xi,WD (by omega),XB]
    simp[bV,Function.comp_def]
   have oP:=GO p2 (n:=f.params.length) rfl
   have hl4:h.length+3<=h3.length:=by rw[e3];simp
   have q0:∀os,(h3++os)[2]?=some (.row 1 [[.nils]]):=λos=>by rw[Wx (by omega),hg3 2 (by omega)];exact i4
   have q1:h3[2]?=some (.row 1 [[.nils]]):=by rw[hg3 2 (by omega)];exact i4
   have q2:∀os,(h3++os)[h.length]?=some (.row 3 [[.p (.str f.name),.p (.lst 1 (f.params.map λw=>[.str w])),.p (smL f.body)]]):=λos=>by rw[Wx (by omega)];exact p0
   clear p2
   have hfR:∀j∈[h.length+2]++IB,h.length<=j:=λj hj=>by
    rcases WE.1 hj with hj|hj
    ·rw[WG.1 hj];omega
    ·have:=fB j hj;omega
   have hnR:([h.length+2]++IB).Nodup:=WW.2 ⟨λhm=>by have:=fB _ hm;omega,nB⟩
   rcases kR oB with⟨b1,rfl⟩|rfl|⟨x1,x2,x3,rfl⟩
   ·have oR:=sN (s:=true) (w:=f.name) oP oB
    simp-implicitDefEqProofs[aa,dR, ↓q1, ↓p0, ↓q0, ↓q2]
    exact fin0 h3 _ _ _ hl4 hg3 oR hnR hfR _ (by simp)
   ·have oR:=sN (s:=true) (w:=f.name) oP oB
    simp-implicitDefEqProofs[aa,dR, ↓q1, ↓p0, ↓q0, ↓q2]
    exact fin0 h3 _ _ _ hl4 hg3 oR hnR hfR _ (by simp)
   ·have oR:=sN (s:=true) (w:=f.name) oP oB
    simp-implicitDefEqProofs[aa,dR, ↓q1, ↓p0, ↓q0, ↓q2]
    exact fin0 h3 _ _ _ hl4 hg3 oR hnR hfR _ (by simp)
  ·have hk:cpK ⟨i,id,h⟩= .sl id 3 0 i:=if_neg hi0
   rw[hk] at j4 i4
   obtain⟨hid3,rows,J,hr,hJ3⟩:=i5 (by omega)
   have hrl:rows.length=i:=by have:=hr.len;rw[WX,Xc] at this;omega
   have hidl:=hr.lt
   have fin0:∀(h3:List AO) (r:List AV) (I2:List Nat) (l0:List (Nat × AV)),h.length+3<=h3.length->(∀j,j<h.length->h3[j]?=h[j]?)->OwnL true h3 r f.cs I2->I2.Nodup->(∀j∈I2,h.length<=j)->∀(o:AO) (hw:Aw.look l0 4= .p (.int .i64 (IntKind.i64.wrap ((i:Int)+1)))/\Aw.look l0 3= .ptr 2 1 0 0/\Aw.look l0 2= .ptr 1 1 0 0/\Aw.look l0 1= .ptr 0 1 0 0),
    ∃a',CpI l a'/\l.length-a'.i<l.length-i/\Wk 0 (az 35 l0) (((h3++[o]).set id .dead++[AO.row 3 (rows++[r])]).set 2 (.row 1 [[.sl (h3.length+1) 3 0 (i+1)]])) (az 35 [(4,.p (.int .i64 a'.i)),(3,.ptr 2 1 0 0),(2,.ptr 1 1 0 0),(1,.ptr 0 1 0 0)]) a'.h:=by
    intro h3 r I2 l0 hl4 hg3 oR nR fR o ⟨e4,e3,e2,e1⟩
    obtain⟨J2,hJ,hJ4⟩:=Qf hr hJ3 hid3 hl3 (An (by omega) hg3) oR nR fR o (.row 1 [[.sl (h3.length+1) 3 0 (i+1)]])
    have hd:(l.map Fd.cs).take i++[f.cs]=(l.map Fd.cs).take (i+1):=by rw[List.take_add_one,hD];rfl
    rw[hd] at hJ
    refine⟨⟨i+1,h3.length+1,_⟩,⟨by simp only;omega,?_,?_,?_,λ_=>⟨by simp only;omega,_,J2,hJ,hJ4⟩⟩,by simp only;omega,am (by simp) ?_⟩
    ·rw[WB (by omega),Wx (by simp only[Xq,WL,WP];omega),WB (by omega),Wx (by omega),hg3 0 (by omega)];exact i2
    ·rw[WB (by omega),Wx (by simp only[Xq,WL,WP];omega),WB (by omega),Wx (by omega),hg3 1 (by omega)];exact i3
    ·rw[WH (by simp;omega),cpK,if_neg (show¬(i+1=0) by omega)]
    ·simp[e1,e2,e3,e4,below]
     exact⟨w1 (i:=i) (by omega),by omega⟩
   simp-implicitDefEqProofs[i2,hfl,hg,hcs,hsp,Ay, ↓j2, ↓j4]
   refine⟨⟨by omega,by omega⟩,?_⟩
   refine(AC.mkLift tU hB (by simp)).mono ?_
   rintro r h3 ⟨vB,IB,o1,rfl,e3,oB,nB,fB⟩
   obtain⟨B,rfl⟩:=gw oB
   simp at fB
   have hg3:∀j,j<h.length->h3[j]?=h[j]?:=λj hj=>by rw[e3,Xi,Wx hj]
   have p0:h3[h.length]?=some (.row 3 [[.p (.str f.name),.p (.lst 1 (f.params.map λw=>[.str w])),.p (smL f.body)]]):=by
    rw[e3,Xi,WD (WK _),Nat.sub_self];rfl
   have p2:h3[h.length+2]?=some (bV f.params):=by
    rw[e3,Xi,WD (by omega),XB]
    simp[bV,Function.comp_def]
   have oP:=GO p2 (n:=f.params.length) rfl
   have hl4:h.length+3<=h3.length:=by rw[e3];simp
   have q0:∀os,(h3++os)[2]?=some (.row 1 [[.sl id 3 0 i]]):=λos=>by rw[Wx (by omega),hg3 2 (by omega)];exact i4
   have q1:h3[2]?=some (.row 1 [[.sl id 3 0 i]]):=by rw[hg3 2 (by omega)];exact i4
   have q2:∀os,(h3++os)[h.length]?=some (.row 3 [[.p (.str f.name),.p (.lst 1 (f.params.map λw=>[.str w])),.p (smL f.body)]]):=λos=>by rw[Wx (by omega)];exact p0
   clear p2
   have q4:∀x o y,((h3++x).set id o++y)[2]?=some (.row 1 [[.sl id 3 0 i]]):=λx o y=>by
    rw[Wx (by simp only[Xq,WL];omega),WB (by omega),Wx (by omega),hg3 2 (by omega)];exact i4
   have q3:∀os,(h3++os)[id]?=some (.row 3 rows):=λos=>by rw[Wx (by omega),hg3 id hidl];exact hr.here
   have hfR:∀j∈[h.length+2]++IB,h.length<=j:=λj hj=>by
    rcases WE.1 hj with hj|hj
    ·rw[WG.1 hj];omega
    ·have:=fB j hj;omega
   have hnR:([h.length+2]++IB).Nodup:=WW.2 ⟨λhm=>by have:=fB _ hm;omega,nB⟩
   rcases kR oB with⟨b1,rfl⟩|rfl|⟨x1,x2,x3,rfl⟩
   ·have oR:=sN (s:=true) (w:=f.name) oP oB
    simp-implicitDefEqProofs[aa,dR, ↓q1, ↓p0, ↓q0, ↓q2, ↓q3, ↓q4,hrl]
    rw[WF (l:=rows) (i:=i) (by omega)]
    refine⟨⟨by omega,by omega⟩,?_⟩
    exact fin0 h3 _ _ _ hl4 hg3 oR hnR hfR _ (by simp)
   ·have oR:=sN (s:=true) (w:=f.name) oP oB
    simp-implicitDefEqProofs[aa,dR, ↓q1, ↓p0, ↓q0, ↓q2, ↓q3, ↓q4,hrl]
    rw[WF (l:=rows) (i:=i) (by omega)]
    refine⟨⟨by omega,by omega⟩,?_⟩
    exact fin0 h3 _ _ _ hl4 hg3 oR hnR hfR _ (by simp)
   ·have oR:=sN (s:=true) (w:=f.name) oP oB
    simp-implicitDefEqProofs[aa,dR, ↓q1, ↓p0, ↓q0, ↓q2, ↓q3, ↓q4,hrl]
    rw[WF (l:=rows) (i:=i) (by omega)]
    refine⟨⟨by omega,by omega⟩,?_⟩
    exact fin0 h3 _ _ _ hl4 hg3 oR hnR hfR _ (by simp)
 ·simp at h1
  have hie:i=l.length:=by omega
  subst hie
  have s1:∀x,(h.set 1 x)[1]?=some x:=λx=>WH (by omega)
  by_cases hi0:l.length=0
  ·have hk:cpK ⟨l.length,id,h⟩= .nils:=if_pos hi0
   rw[hk] at i4
   simp-implicitDefEqProofs[i4,i3,s1]
   obtain rfl:=XF hi0
   exact⟨[.nils],[],rfl,.nils 3 .nil,by simp⟩
  ·have hk:cpK ⟨l.length,id,h⟩= .sl id 3 0 l.length:=if_neg hi0
   rw[hk] at i4
   obtain⟨hid3,rows,J,hr,hJ3⟩:=i5 (by omega)
   rw[WF (by simp)] at hr
   simp-implicitDefEqProofs[i4,i3,s1]
   have ho:=hr.tree (n:=l.length) (by simp)
   exact⟨[.sl id 3 0 l.length],id::J,rfl,ho.set_out (λhm=>by
    rcases WC.1 hm with hm|hm
    ·omega
    ·have:=hJ3 _ hm;omega) _,hr.nd⟩
end
section
variable (G:aK)
theorem Me{s:Bool}{b:List Int}{q:Nat}{T:List AO}{vs:List AV}{qs:List PV}{I:List Nat}(H:OwnL s (rdO b q::T) vs qs I)(hI:∀i∈I,1<=i)(o:AO):OwnL s (o::T) vs qs I:=
 H.frame λi hi=>by
  have:=hI i hi
  obtain⟨k,rfl⟩:∃k,i=k+1:=⟨i-1,by omega⟩
  rfl
theorem MY{b:List Int}{p q:Nat}{T:List AO}{v:AV}{l:List Fd}{I:List Nat}(H:OwnL true (rdO b q::T) [v] [fdL l] I)(hI:∀i∈I,1<=i)(hz:aZ l<=900000000)(h1:p<=q)(h2:q<=p+400500000):DP b (PgQ p 900000000 400500000) (.ret (.agg [v])) (rdO b q::T):=
 ⟨_,T,q,.agg [.p (fdL l)],rfl,rfl,.agg (.one ((Me H hI .dead).view 0 v _ rfl rfl) .nil) .nil,⟨l,rfl,hz⟩,h1,h2⟩
theorem Mm{l:List Sm}{k:Nat}{s0:Sm}(s:Sm)(h:l[k]?=some s0):aC (l.set k s)+s0.sz=aC l+s.sz:=by
 obtain⟨hk,h⟩:=Wy.1 h
 subst h
 ·rw[fW s hk,aX]
  have e:l=l.take k++l.drop k:=(Xj _ _).symm
  have h1:aC l=aC (l.take k)+aC (l.drop k):=by rw[←aX,←e]
  have h4:aC (l.drop k)=l[k].sz+aC (l.drop (k+1)):=by rw[List.drop_eq_getElem_cons hk];rfl
  simp only[aC]
  omega
theorem Nj(l:List Ex)(k:Nat)(s:Ex):aM (l.set k s)<=aM l+s.sz:=by
 by_cases hk:k<l.length
 ·rw[fW s hk,bM]
  have e:l=l.take k++l.drop k:=(Xj _ _).symm
  have h1:aM l=aM (l.take k)+aM (l.drop k):=by rw[←bM,←e]
  have h4:aM (l.drop k)=l[k].sz+aM (l.drop (k+1)):=by rw[List.drop_eq_getElem_cons hk];rfl
  simp only[aM]
  omega
 ·rw[List.set_eq_of_length_le (by omega)];omega
theorem FB{α:Type}{l:List α}{k:Nat}{x:α}(h:l[k]?=some x):l.set k x=l:=by
 apply List.ext_getElem?
 intro i
 by_cases hi:k=i
 ·subst hi;rw[WH (Wy.1 h).1,h]
 ·rw[WB hi]
theorem MU{h:List AO}{id sz n m:Nat}{es:List (List PV)}(H:View h (.sl id sz 0 n) (.lst sz es))(hm:m<=es.length):View h (.sl id sz 0 m) (.lst sz (es.take m)):=by
 cases H with
 |sl _ _ _ rows _ e1 e2 e3 e4=>
  have hl:(es.take m).length=m:=by rw[WX];omega
  have:=View.sl id sz 0 rows (es.take m) e1 (by omega) (λe he=>e3 e (List.mem_of_mem_take he)) (λi j e q e' a a1 a2 a3 a4=>by
   have hi:i<m:=by have:=(Wy.1 a1).1;omega
   rw[List.getElem?_take_of_lt hi] at a1
   exact e4 i j e q e' a a1 a2 a3 a4)
  rwa[hl] at this
 |fl _ sz' _ rows ps e1 e2=>
  have hl:(ps.take m).length=m:=by rw[WX];rw[Xc] at hm;omega
  have:=View.fl id sz' 0 rows (ps.take m) e1 (λi q hq=>by
   have hi:i<m:=by have:=(Wy.1 hq).1;omega
   rw[List.getElem?_take_of_lt hi] at hq
   exact e2 i q hq)
  rw[hl,List.map_take] at this
  exact this
theorem NX{b:List Int}(hb:Byt b)(hl:b.length<=2000){p:Nat}(hp:p<=5000000000):AC Tryz.prog G na [.ptr 0 2 0 0] [rdO b p] λx h=>∃v q,x= .ret v/\h=[rdO b q]/\PgQ p 900000000 400500000 v q:=by
 refine oy G (AC.go Cl ?_)
 have hprog:AC Tryz.prog G eq [.ptr 0 2 0 0] [rdO b p] λx h=>∃v q,x= .ret v/\h=[rdO b q]/\((∃l:List Fd,v= .agg [.p (fdL l)]/\bp l=true/\aZ l<=200000000)/\p<=q/\q<=p+200000000):=
  (Mq G hb hl (by omega)).mono λx h ⟨l,q,e1,e2,e3,e4,e5,e6⟩=>⟨_,q,e1,e2,⟨l,rfl,e3,e4⟩,e5,e6⟩
 simp-implicitDefEqProofs[sB]
 refine(ku G hprog _ (by simp[below])).mono ?_
 rintro r h ⟨v,q,rfl,rfl,⟨l,rfl,hok,hz⟩,h1,h2⟩
 have hlen:=((gJ l).1 hok).1
 have hfd:=((gJ l).1 hok).2.1
 simp-implicitDefEqProofs[aa]
 refine(bf G b hb hl q (by omega) 5 _).mono ?_
 rintro r h ⟨k1,rfl,rfl,_⟩
 simp-implicitDefEqProofs[aa]
 refine aO (λhc=>?_) (λhc=>?_)
 ·simp-implicitDefEqProofs[]
  exact⟨_,_,q+1,.agg [.p (fdL l)],rfl,rfl,.keep (by simp) .nil,⟨l,rfl,by omega⟩,by omega,by omega⟩
 simp-implicitDefEqProofs[]
 refine(bf G b hb hl (q+1) (by omega) 6 _).mono ?_
 rintro r h ⟨k2,rfl,rfl,_⟩
 simp-implicitDefEqProofs[aa]
 refine aO (λhc2=>?_) (λhc2=>?_)
 ·simp-implicitDefEqProofs[]
  refine(ku G (Of G hb hl (p:=q+1+1) (by omega)) _ (by simp[below])).mono ?_
  rintro r h ⟨v,q2,rfl,rfl,⟨l2,rfl,hz2⟩,h3,h4⟩
  simp-implicitDefEqProofs[aa]
  exact⟨_,_,q2,.agg [.p (fdL l2)],rfl,rfl,.keep (by simp) .nil,⟨l2,rfl,by omega⟩,by omega,by omega⟩
 simp-implicitDefEqProofs[]
 refine(AC.mkLift uF (Nv G l (by omega)) (by simp)).mono ?_
 rintro r h ⟨vs,I,os,rfl,rfl,ho,nd,hI⟩
 obtain⟨v,rfl⟩:=gw ho
 have hne:l.map Fd.cs≠[]:=by intro h;rw[List.map_eq_nil_iff] at h;rw[h] at hlen;simp at hlen
 simp at hI
 rcases ho.inv nd with⟨h0,_⟩|⟨h0,_⟩|⟨id,rowsF,JF,rfl,rfl,hF⟩
 ·exact absurd h0 hne
 ·cases h0
 have hid3:3<=id:=hI id (by simp)
 obtain⟨fF,rfl⟩:∃fF,id=fF+1:=⟨id-1,by omega⟩
 rw[Xc]
 simp-implicitDefEqProofs[aa]
 have hF2:∀q',RowOwn true (rdO b q':: .row 1 [[.nils]]:: .row 1 [[.sl (fF+1) 3 0 l.length]]::os) (fF+1) 3 rowsF (l.map Fd.cs) JF:=λq'=>hF.frame λi hi=>by
  have:=hI i (by simpa using hi)
  obtain⟨k,rfl⟩:∃k,i=k+3:=⟨i-3,by omega⟩
  rfl
 have hI3:∀j∈JF,3<=j:=λj hj=>hI j (by simp[hj])
 have hnF:=hF.nd
 clear hF ho
 obtain⟨T,hT⟩:∃T,T= .row 1 [[.nils]]:: .row 1 [[AV.sl (fF+1) 3 0 l.length]]::os:=⟨_,rfl⟩
 rw[←hT] at hF2⊢
 have t0:T[0]?=some (.row 1 [[.nils]]):=by rw[hT];rfl
 have t1:T[1]?=some (.row 1 [[.sl (fF+1) 3 0 l.length]]):=by rw[hT];rfl
 have tF:T[fF]?=some (.row 3 rowsF):=(hF2 0).here
 clear hT
 refine(bf G b hb hl (q+1+1) (by omega) l.length _).mono ?_
 rintro r h ⟨k,rfl,rfl,hk⟩
 have hkl:k<l.length:=by omega
 have hgk:=Wz hkl
 have hfk:=hfd _ (WN hkl)
 have hzk:=dp (WN hkl)
 have hDk:(l.map Fd.cs)[k]?=some l[k].cs:=by rw[WR,hgk];rfl
 generalize l[k]=f at hgk hfk hzk hDk
 obtain⟨rF,J1,Jk,J2,r1,rfl,r2,r5⟩:=(hF2 (q+1+1+1)).own.put (hF2 0).len (hF2 0).rl (hF2 0).dl hDk
 obtain⟨A,B,IA,IB,rfl,rfl,oA,oB⟩:=RF r2
 have hltJ:∀j∈J1++(IA++IB++J2),j<T.length+1:=λj hj=>by have:=(hF2 0).own.lt hj;simpa using this
 have hnd:=hnF
 rw[WW] at hnd
 have hn1:fF+1∉J1++(IA++IB++J2):=hnd.1
 have hn2:=hnd.2
 have hIB:∀j∈IB,3<=j:=λj hj=>hI3 j (by simp[hj])
 have nIB:IB.Nodup:=(Xx.1 (Xx.1 (Xx.1 hn2).2.1).1).2.1
 have hDl:(l.map Fd.cs).length=l.length:=by simp
 have finG:∀(U:List AO) (q':Nat) (B':AV) (I':List Nat) (sl':List Sm),(∀i,2<=i->i<T.length->i≠fF->i+1∉IB->U[i]?=T[i]?)->U[fF]?=some (.row 3 (rowsF.set k [.p (.str f.name),A,B']))->OwnL true (rdO b q'::U) [B'] [smL sl'] I'->(∀i∈I',1<=i)->
  aC sl'<=450000000->p<=q'->q'<=p+400500000->DP b (PgQ p 900000000 400500000) (.ret (.agg [.sl (fF+1) 3 0 l.length])) (rdO b q'::U):=by
  intro U q' B' I' sl' hU hUF oB' hI' hz' h3 h4
  have hfr:∀j∈J1++J2++IA,(rdO b q'::U)[j]?=(rdO b (q+1+1+1)::T)[j]?:=λj hj=>by
   have hjm:j∈J1++(IA++IB++J2):=by simp only[WE] at hj⊢;rcases hj with(hj|hj)|hj<;>simp[hj]
   have hj3:=hI3 j hjm
   have hjl:=hltJ j hjm
   obtain⟨i,rfl⟩:∃i,j=i+1:=⟨j-1,by omega⟩
   rw[WQ,WQ]
   refine hU i (by omega) (by omega) (λe=>hn1 (e▸hjm)) λhm=>?_
   simp only[Xx,WE] at hn2
   obtain⟨n1,⟨⟨n2,n3,n4⟩,n5,n6⟩,n7⟩:=hn2
   simp only[WE] at hj
   rcases hj with(hj|hj)|hj
   ·exact n7 _ hj _ (.inl (.inr hm)) rfl
   ·exact n6 _ (.inr hm) _ hj rfl
   ·exact n4 _ hj _ hm rfl
  have oR:=sN (s:=true) (w:=f.name) (oA.frame λi hi=>hfr i (by simp[hi])) oB'
  have oW:=r5 (rdO b q'::U) _ _ _ (λj hj=>hfr j (by simp only[WE] at hj⊢;exact .inl hj)) oR
  have hD':(l.map Fd.cs).set k (Fd.mk f.name f.params sl').cs=(l.set k ⟨f.name,f.params,sl'⟩).map Fd.cs:=by rw[List.map_set]
  have tree:=OwnL.sl (s:=true) (h:=rdO b q'::U) (fF+1) 3 l.length (rowsF.set k [.p (.str f.name),A,B']) ((l.map Fd.cs).set k (Fd.mk f.name f.params sl').cs) hUF (by simp) (by have:=(hF2 0).len;simpa using this) (λe he=>by
   rcases Xl he with h|rfl
   ·exact(hF2 0).rl e h
   ·rfl) (λe he=>by
   rcases Xl he with h|rfl
   ·exact(hF2 0).dl e h
   ·rfl) oW .nil
  rw[hD'] at tree
  have hsz:=GK l k ⟨f.name,f.params,sl'⟩
  have hfz:f.sz=1+f.name.length+(f.params.length+(f.params.map List.length).sum)+aC f.body:=rfl
  have hfz':(Fd.mk f.name f.params sl').sz=1+f.name.length+(f.params.length+(f.params.map List.length).sum)+aC sl':=rfl
  refine MY (l:=l.set k ⟨f.name,f.params,sl'⟩) tree (λi hi=>?_) (by omega) h3 h4
  simp only[WC,WE,Xr,or_false] at hi
  rcases hi with rfl|hi|(hi|hi)|hi
  ·omega
  ·have:=hI3 i (by simp[hi]);omega
  ·have:=hI3 i (by simp[hi]);omega
  ·exact hI' i hi
  ·have:=hI3 i (by simp[hi]);omega
 have hset:rowsF.set k [.p (.str f.name),A,B]=rowsF:=by
  apply List.ext_getElem?
  intro i
  by_cases hi:k=i
  ·subst hi;rw[WH (Wy.1 r1).1,r1]
  ·rw[WB hi]
 have hf2:2<=fF:=by omega
 have s0:∀x,(T.set 0 x)[0]?=some x:=λx=>WH (by have:=(Wy.1 t0).1;omega)
 have hbz:f.sz=1+f.name.length+(f.params.length+(f.params.map List.length).sum)+aC f.body:=rfl
 simp-implicitDefEqProofs[aa,t0,t1,tF,r1,hkl]
 have fin0:∀q' x,p<=q'->q'<=p+400500000->DP b (PgQ p 900000000 400500000) (.ret (.agg [.sl (fF+1) 3 0 l.length])) (rdO b q'::T.set 0 x):=λq' x h3 h4=>
  finG (T.set 0 x) q' B IB f.body (λi h1 _ _ _=>WB (by omega)) (by rw[WB (by omega),hset];exact tF) (oB.frame λj hj=>by
   have:=hIB j hj
   obtain⟨i,rfl⟩:∃i,j=i+1:=⟨j-1,by omega⟩
   rw[WQ,WQ,WB (by omega)]) (λi hi=>by have:=hIB i hi;omega) (by omega) h3 h4
 rcases oB.inv nIB with⟨h0,_,rfl|rfl⟩|⟨h0,_⟩|⟨idB,rowsB,JB,rfl,rfl,hB⟩
 ·simp-implicitDefEqProofs[t0,t1,s0]
  exact fin0 _ _ (by omega) (by omega)
 ·simp-implicitDefEqProofs[t0,t1,s0]
  exact fin0 _ _ (by omega) (by omega)
 ·cases h0
 rw[Xc] at*
 by_cases hbe:f.body.length=0
 ·simp-implicitDefEqProofs[hbe,t0,t1,s0]
  have:=fin0 (q+1+1+1) (.row 1 [[.sl (fF+1) 3 0 l.length]]) (by omega) (by omega)
  exact this
 simp-implicitDefEqProofs[hbe,t0,t1,tF,r1]
 refine(bf G b hb hl (q+1+1+1) (by omega) f.body.length _).mono ?_
 rintro r h ⟨j,rfl,rfl,hj⟩
 have hjl:j<f.body.length:=by omega
 obtain⟨fB,rfl⟩:∃fB,idB=fB+1:=⟨idB-1,by have:=hIB idB (by simp);omega⟩
 have hB3:=hIB (fB+1) (by simp)
 have tB:T[fB]?=some (.row 5 rowsB):=hB.here
 have hgj:=Wz hjl
 have hzj:=fe (WN hjl)
 have hok5:aJ 4 f.body[j]=true:=by
  simp only[jX,WM] at hfk
  exact WI.1 hfk.2 _ (WN hjl)
 have hDj:(f.body.map Sm.cs)[j]?=some f.body[j].cs:=by rw[WR,hgj];rfl
 generalize f.body[j]=sm at hgj hzj hok5 hDj
 obtain⟨rB,K1,Kj,K2,u1,rfl,u2,u5⟩:=hB.own.put hB.len hB.rl hB.dl hDj
 obtain⟨A1,B1,E1,I1,I2,I3,rfl,rfl,oA1,oB1,oE1⟩:=Su u2
 simp-implicitDefEqProofs[aa,hjl,t0,t1,tF,r1,tB,u1]
 refine(GQ G hb hl (p:=q+1+1+1+1) (by omega) [[122,122],[97],[98],[99],[100]] (k:=T.length+1) (by simp) (by simp) (by omega) rfl (by simp[bV])).mono ?_
 rintro r h ⟨s,hs,rfl,rfl⟩
 have hs8:s.length<=8:=by simp at hs;rcases hs with rfl|rfl|rfl|rfl|rfl<;>simp
 have nB:=nIB
 rw[WW] at nB
 have finS:∀(U:List AO) (q':Nat) (o':Int) (nm':List UInt8) (A':AV) (I':List Nat) (ar':List Ex),(∀i,2<=i->i<T.length->i≠fB->i+1∉I1->U[i]?=T[i]?)->U[fB]?=some (.row 5 (rowsB.set j [.p (.int .i64 o'),.p (.str nm'),A',B1,E1]))->OwnL true (rdO b q'::U) [A'] [exL ar'] I'->(∀i∈I',1<=i)->
  aM ar'+nm'.length<=aM sm.args+sm.name.length+1000->p<=q'->q'<=p+400500000->DP b (PgQ p 900000000 400500000) (.ret (.agg [.sl (fF+1) 3 0 l.length])) (rdO b q'::U):=by
  intro U q' o' nm' A' I' ar' hU hUB oA' hI' hz' h3 h4
  have hmem:∀x∈K1++K2++I2++I3,x∈K1++(I1++(I2++I3)++K2):=λx hx=>by
   simp only[WE] at hx⊢
   rcases hx with((hx|hx)|hx)|hx<;>simp[hx]
  have hltB:∀x∈K1++(I1++(I2++I3)++K2),x<T.length+1:=λx hx=>by have:=hB.own.lt hx;simpa using this
  have hfr:∀x∈K1++K2++I2++I3,(rdO b q'::U)[x]?=(rdO b (q+1+1+1)::T)[x]?:=λx hx=>by
   have hm:=hmem x hx
   have hx3:=hIB x (WV _ hm)
   have hxl:=hltB x hm
   obtain⟨i,rfl⟩:∃i,x=i+1:=⟨x-1,by omega⟩
   rw[WQ,WQ]
   refine hU i (by omega) (by omega) (λe=>nB.1 (e▸hm)) λhm1=>?_
   have hn:=nB.2
   simp only[Xx,WE] at hn
   obtain⟨n1,⟨⟨n2,⟨n3,n3',n3''⟩,n4⟩,n5,n6⟩,n7⟩:=hn
   simp only[WE] at hx
   rcases hx with((hx|hx)|hx)|hx
   ·exact n7 _ hx _ (.inl (.inl hm1)) rfl
   ·exact n6 _ (.inl hm1) _ hx rfl
   ·exact n4 _ hm1 _ (.inl hx) rfl
   ·exact n4 _ hm1 _ (.inr hx) rfl
  have oS:=Ss (s:=true) (o:=o') (w:=nm') oA' (oB1.frame λi hi=>hfr i (by simp[hi])) (oE1.frame λi hi=>hfr i (by simp[hi]))
  have oW:=u5 (rdO b q'::U) _ _ _ (λx hx=>hfr x (by simp only[WE] at hx⊢;exact .inl (.inl hx))) oS
  have hD':(f.body.map Sm.cs).set j (Sm.mk o' nm' ar' sm.body sm.els).cs=(f.body.set j ⟨o',nm',ar',sm.body,sm.els⟩).map Sm.cs:=by rw[List.map_set]
  have tree:=OwnL.sl (s:=true) (h:=rdO b q'::U) (fB+1) 5 f.body.length (rowsB.set j [.p (.int .i64 o'),.p (.str nm'),A',B1,E1]) ((f.body.map Sm.cs).set j (Sm.mk o' nm' ar' sm.body sm.els).cs) hUB (by simp) (by have:=hB.len;simpa using this) (λe he=>by
   rcases Xl he with h|rfl
   ·exact hB.rl e h
   ·rfl) (λe he=>by
   rcases Xl he with h|rfl
   ·exact hB.dl e h
   ·exact Sm.cs_len _) oW .nil
  rw[hD'] at tree
  have hsz:=Mm (s:=⟨o',nm',ar',sm.body,sm.els⟩) hgj
  have hsm:=sm.sz_eq
  have hsm':(Sm.mk o' nm' ar' sm.body sm.els).sz=1+nm'.length+aM ar'+aC sm.body+aC sm.els:=rfl
  have hFB:fF≠fB:=λe=>hn1 (by rw[e];simp)
  have hFI:fF+1∉I1:=λhm=>hn1 (by simp[hm])
  have hFT:fF<T.length:=(Wy.1 tF).1
  refine finG U q' (.sl (fB+1) 5 0 f.body.length) _ (f.body.set j ⟨o',nm',ar',sm.body,sm.els⟩) (λi g1 g2 g3 g4=>hU i g1 g2 (λe=>g4 (by rw[e];simp)) λhm=>g4 (by simp[hm])) (by rw[hU fF hf2 hFT hFB hFI,hset];exact tF) tree (λi hi=>?_) (by omega) h3 h4
  simp only[WC,WE,Xr,or_false] at hi
  rcases hi with rfl|hi|(hi|hi|hi)|hi
  ·omega
  ·have:=hIB i (by simp[hi]);omega
  ·exact hI' i hi
  ·have:=hIB i (by simp[hi]);omega
  ·have:=hIB i (by simp[hi]);omega
  ·have:=hIB i (by simp[hi]);omega
 have hTl:2<=T.length:=by have:=(Wy.1 t1).1;omega
 have hBT:fB<T.length:=(Wy.1 tB).1
 have hI1:∀i∈I1,3<=i/\i<T.length+1:=λi hi=>⟨hIB i (by simp[hi]),by have:=oA1.lt hi;simpa using this⟩
 have oA1u:∀(U:List AO) (q':Nat),(∀i,2<=i->i<T.length->i+1∈I1->U[i]?=T[i]?)->OwnL true (rdO b q'::U) [A1] [exL sm.args] I1:=λU q' hU=>oA1.frame λx hx=>by
  obtain⟨h3,h4⟩:=hI1 x hx
  obtain⟨i,rfl⟩:∃i,x=i+1:=⟨x-1,by omega⟩
  rw[WQ,WQ]
  exact hU i (by omega) (by omega) hx
 have hsmz:=sm.sz_eq
 have finU:∀(U:List AO) (q':Nat),(∀i,2<=i->i<T.length->U[i]?=T[i]?)->p<=q'->q'<=p+400500000->DP b (PgQ p 900000000 400500000) (.ret (.agg [.sl (fF+1) 3 0 l.length])) (rdO b q'::U):=λU q' hU h3 h4=>
  finS U q' sm.op sm.name A1 I1 sm.args (λi a1 a2 _ _=>hU i a1 a2) (by rw[hU fB (by omega) hBT,FB u1];exact tB) (oA1u U q' λi a1 a2 _=>hU i a1 a2) (λi hi=>by have:=(hI1 i hi).1;omega) (by omega) h3 h4
 have a0:∀os,(T++os)[0]?=some (.row 1 [[.nils]]):=λos=>by rw[Wx (Wy.1 t0).1];exact t0
 have a1:∀os,(T++os)[1]?=some (.row 1 [[.sl (fF+1) 3 0 l.length]]):=λos=>by rw[Wx (Wy.1 t1).1];exact t1
 have aF:∀os,(T++os)[fF]?=some (.row 3 rowsF):=λos=>by rw[Wx (Wy.1 tF).1];exact tF
 have aB:∀os,(T++os)[fB]?=some (.row 5 (rowsB)):=λos=>by rw[Wx (Wy.1 tB).1];exact tB
 simp-implicitDefEqProofs[aa]
 refine(bf G b hb hl (q+1+1+1+1+1) (by omega) 4 _).mono ?_
 rintro r h ⟨k3,rfl,rfl,_⟩
 have nI1:I1.Nodup:=(Xx.1 (Xx.1 (Xx.1 nB.2).2.1).1).1
 have hargs:0<sm.args.length:=by
  simp only[aJ,fV,WM,decide_eq_true_eq] at hok5
  have:=hok5.1.1.1.1.1.1.1.1.2
  rw[this];unfold jS;split<;>omega
 have hA0:sm.args.map Ex.cs≠[]:=by intro h;rw[List.map_eq_nil_iff] at h;rw[h] at hargs;simp at hargs
 obtain⟨idA,rowsA,JA,rfl,rfl,hA⟩:∃id rows J,A1= .sl id 4 0 sm.args.length/\I1=id::J/\RowOwn true (rdO b (q+1+1+1)::T) id 4 rows (sm.args.map Ex.cs) J:=by
  rcases oA1.inv nI1 with⟨h0,_⟩|⟨h0,_⟩|⟨id,rows,J,e1,e2,e3⟩
  ·exact absurd h0 hA0
  ·cases h0
  ·rw[Xc] at e1;exact⟨id,rows,J,e1,e2,e3⟩
 obtain⟨fA,rfl⟩:∃fA,idA=fA+1:=⟨idA-1,by have:=(hI1 idA (by simp)).1;omega⟩
 have hA3:=hI1 (fA+1) (by simp)
 have tA:T[fA]?=some (.row 4 rowsA):=hA.here
 have aA:∀os,(T++os)[fA]?=some (.row 4 rowsA):=λos=>by rw[Wx (by omega)];exact tA
 have hg0:=Wz hargs
 have hz0:=cQ (WN hargs)
 have hD0:(sm.args.map Ex.cs)[0]?=some sm.args[0].cs:=by rw[WR,hg0];rfl
 generalize sm.args[0]=e0 at hg0 hz0 hD0
 obtain⟨r0,L1,L0,L2,g1,rfl,g3,g5⟩:=hA.own.put hA.len hA.rl hA.dl hD0
 obtain⟨K0,rfl,_⟩:=Hd g3
 have nA:=nI1
 rw[WW] at nA
 have finA:∀(U:List AO) (q':Nat) (o n:Int) (w:List UInt8) (K:AV) (IK:List Nat) (ks:List Ex),(∀i,2<=i->i<T.length->i≠fA->U[i]?=T[i]?)->U[fA]?=some (.row 4 (rowsA.set 0 [.p (.int .i64 o),.p (.int .i64 n),.p (.str w),K]))->OwnL true (rdO b q'::U) [K] [exL ks] IK->(∀i∈IK,1<=i)->
  (Ex.mk o n w ks).sz<=500->p<=q'->q'<=p+400500000->DP b (PgQ p 900000000 400500000) (.ret (.agg [.sl (fF+1) 3 0 l.length])) (rdO b q'::U):=by
  intro U q' o n w K IK ks hU hUA oK hIK hz' h3 h4
  have hfr:∀x∈L1++L2,(rdO b q'::U)[x]?=(rdO b (q+1+1+1)::T)[x]?:=λx hx=>by
   have hm:x∈L1++(L0++L2):=by
    simp only[WE] at hx⊢
    rcases hx with hx|hx
    ·exact .inl hx
    ·exact .inr (.inr hx)
   obtain⟨hx3,hx4⟩:=hI1 x (WV _ hm)
   obtain⟨i,rfl⟩:∃i,x=i+1:=⟨x-1,by omega⟩
   rw[WQ,WQ]
   exact hU i (by omega) (by omega) λe=>nA.1 (e▸hm)
  have oW:=g5 (rdO b q'::U) _ _ _ hfr (MR (o:=o) (n:=n) (w:=w) oK)
  have hD':(sm.args.map Ex.cs).set 0 (Ex.mk o n w ks).cs=(sm.args.set 0 ⟨o,n,w,ks⟩).map Ex.cs:=by rw[List.map_set]
  have tree:=OwnL.sl (s:=true) (h:=rdO b q'::U) (fA+1) 4 sm.args.length (rowsA.set 0 [.p (.int .i64 o),.p (.int .i64 n),.p (.str w),K]) ((sm.args.map Ex.cs).set 0 (Ex.mk o n w ks).cs) hUA (by simp) (by have:=hA.len;simpa using this) (λe he=>by
   rcases Xl he with h|rfl
   ·exact hA.rl e h
   ·rfl) (λe he=>by
   rcases Xl he with h|rfl
   ·exact hA.dl e h
   ·exact Ex.cs_len _) oW .nil
  rw[hD'] at tree
  have hsz:=Nj sm.args 0 ⟨o,n,w,ks⟩
  have hBA:fB≠fA:=λe=>nB.1 (by rw[e];simp)
  refine finS U q' sm.op sm.name (.sl (fA+1) 4 0 sm.args.length) _ (sm.args.set 0 ⟨o,n,w,ks⟩) (λi g1 g2 _ g4=>hU i g1 g2 λe=>g4 (by rw[e];simp)) (by rw[hU fB (by omega) hBT hBA,FB u1];exact tB) tree (λi hi=>?_) (by omega) h3 h4
  simp only[WC,WE,Xr,or_false] at hi
  rcases hi with rfl|hi|hi|hi
  ·omega
  ·have:=(hI1 i (by simp[hi])).1;omega
  ·exact hIK i hi
  ·have:=(hI1 i (by simp[hi])).1;omega
 have w0:∀os x,((T++os).set 0 x)[0]?=some x:=λos x=>WH (by simp only[WL];omega)
 have v0:∀os x,((T++os).set fA x)[0]?=some (.row 1 [[.nils]]):=λos x=>by rw[WB (by omega)];exact a0 os
 have v1:∀os x,((T++os).set fA x)[1]?=some (.row 1 [[.sl (fF+1) 3 0 l.length]]):=λos x=>by rw[WB (by omega)];exact a1 os
 have v2:∀os x y,(((T++os).set fA x).set 0 y)[0]?=some y:=λos x y=>WH (by simp only[Xq,WL];omega)
 have hv:∀os x y (i:Nat),2<=i->i<T.length->i≠fA->(((T++os).set fA x).set 0 y)[i]?=T[i]?:=λos x y i h1 h2 h3=>by
  rw[WB (by omega),WB (by omega),Wx h2]
 have aE:∀x y os,(T++x::y::os)[T.length+1]?=some y:=λx y os=>by rw[WD (by omega),XB];rfl
 have aE2:∀x y z os,(T++x::y::os).set (T.length+1) z=T++x::z::os:=λx y z os=>by rw[List.set_append_right _ _ (by omega),XB];rfl
 by_cases c1:k3=1
 ·subst c1
  simp-implicitDefEqProofs[aa, ↓a0, ↓a1, ↓aF, ↓aB,u1,hjl]
  refine aO (λhn=>?_) (λhn=>?_)
  ·simp-implicitDefEqProofs[]
   refine(GQ G hb hl (p:=q+1+1+1+1+1+1) (by omega) [[97],[98],[122,122],[99],[100]] (k:=T.length+2+1) (by simp) (by simp) (by omega) rfl (by simp[bV])).mono ?_
   rintro r h ⟨s2,hs2,rfl,rfl⟩
   have hs28:s2.length<=8:=by simp at hs2;rcases hs2 with rfl|rfl|rfl|rfl|rfl<;>simp
   have v0:∀os x,((T++os).set fB x)[0]?=some (.row 1 [[.nils]]):=λos x=>by rw[WB (by omega)];exact a0 os
   have v1:∀os x,((T++os).set fB x)[1]?=some (.row 1 [[.sl (fF+1) 3 0 l.length]]):=λos x=>by rw[WB (by omega)];exact a1 os
   have v2:∀os x y,(((T++os).set fB x).set 0 y)[0]?=some y:=λos x y=>WH (by simp only[Xq,WL];omega)
   simp-implicitDefEqProofs[aa, ↓a0, ↓a1, ↓aF, ↓aB,u1,hjl, ↓v0, ↓v1, ↓v2,-getElem?_pos,List.getElem?_cons_zero,WQ]
   have hv:∀os x y (i:Nat),2<=i->i<T.length->i≠fB->(((T++os).set fB x).set 0 y)[i]?=T[i]?:=λos x y i h1 h2 h3=>by
    rw[WB (by omega),WB (by omega),Wx h2]
   refine finS _ _ sm.op s2 (.sl (fA+1) 4 0 sm.args.length) _ sm.args ?_ ?_ (oA1u _ _ ?_) (λi hi=>by have:=(hI1 i hi).1;omega) (by omega) (by omega) (by omega)
   ·intro i h1 h2 h3 _;exact hv _ _ _ i h1 h2 h3
   ·rw[WB (by omega),WH (by simp only[WL];omega)]
   ·intro i h1 h2 h3
    exact hv _ _ _ i h1 h2 (λe=>nB.1 (by rw[←e];simp only[WE];exact .inr (.inl (.inl h3))))
  ·simp-implicitDefEqProofs[↓a0, ↓a1, ↓w0,-getElem?_pos,List.getElem?_cons_zero,WQ]
   refine finU _ _ ?_ (by omega) (by omega)
   intro i h1 h2
   rw[WB (by omega),Wx h2]
 by_cases c2:k3=2
 ·subst c2
  have hw:∀(q':Nat) (os:List AO),OwnL true (rdO b q'::(T++os)) [.sl (fB+1) 5 0 f.body.length] [smL f.body] ((fB+1)::(K1++(((fA+1)::(L1++(L0++L2)))++(I2++I3)++K2))):=λq' os=>oB.frame λx hx=>by
   have h3:=hIB x hx
   have h4:x<T.length+1:=by have:=oB.lt hx;simpa using this
   obtain⟨i,rfl⟩:∃i,x=i+1:=⟨x-1,by omega⟩
   rw[WQ,WQ,Wx (by omega)]
  have hv1:∀(q':Nat) (os:List AO),View (rdO b q'::(T++os)) (.sl (fB+1) 5 0 1) (smL (f.body.take 1)):=λq' os=>by
   have:=MU (m:=1) ((hw q' os).view 0 _ _ rfl rfl) (by simp;omega)
   rw[←List.map_take] at this
   exact this
  have hz1:aC (f.body.take 1)<=aC f.body:=by
   have e:f.body=f.body.take 1++f.body.drop 1:=(Xj _ _).symm
   have:aC f.body=aC (f.body.take 1)+aC (f.body.drop 1):=by rw[←aX,←e]
   omega
  have hS:=Da G _ (f.body.take 1) (Nat.lt_succ_self _) (by omega)
  simp-implicitDefEqProofs[aa, ↓a0, ↓a1, ↓aF, ↓aB,r1,hkl]
  refine⟨by omega,?_⟩
  refine(AC.mkLend tU hS (.one (hv1 _ _) .nil)).mono ?_
  rintro r h ⟨vs,IN,os2,rfl,rfl,oN,nN,hN⟩
  obtain⟨vN,rfl⟩:=gw oN
  have hl1:(f.body.take 1).length=1:=by rw[WX];omega
  have hneN:(f.body.take 1).map Sm.cs≠[]:=by intro h;rw[List.map_eq_nil_iff] at h;rw[h] at hl1;simp at hl1
  obtain⟨idN,rowsN,JN,rfl,rfl,hRN⟩:∃id rows J,vN= .sl id 5 0 1/\IN=id::J/\RowOwn true _ id 5 rows ((f.body.take 1).map Sm.cs) J:=by
   rcases oN.inv nN with⟨h0,_⟩|⟨h0,_⟩|⟨id,rows,J,e1,e2,e3⟩
   ·exact absurd h0 hneN
   ·cases h0
   ·rw[Xc,hl1] at e1;exact⟨id,rows,J,e1,e2,e3⟩
  have hidN:=hN idN (by simp)
  simp at hidN
  obtain⟨fN,rfl⟩:∃fN,idN=fN+1:=⟨idN-1,by omega⟩
  have hFT:fF<T.length:=(Wy.1 tF).1
  have tN:=hRN.here
  simp only[Xk,Xi,WQ,List.nil_append] at tN
  have hrN:rowsN.length=1:=by have:=hRN.len;rw[Xc,hl1] at this;exact this
  have hrB:rowsB.length=f.body.length:=by have:=hB.len;simpa using this
  have z1:∀os o y,((T++os).set fB o++y)[fF]?=some (.row 3 rowsF):=λos o y=>by
   rw[Wx (by simp only[Xq,WL];omega),WB (λe=>hn1 (by rw[←e];simp))];exact aF os
  have z2:∀os o y x,(((T++os).set fB o++y).set fF x)[0]?=some (.row 1 [[.nils]]):=λos o y x=>by
   rw[WB (by omega),Wx (by simp only[Xq,WL];omega),WB (by omega)];exact a0 os
  have z3:∀os o y x,(((T++os).set fB o++y).set fF x)[1]?=some (.row 1 [[.sl (fF+1) 3 0 l.length]]):=λos o y x=>by
   rw[WB (by omega),Wx (by simp only[Xq,WL];omega),WB (by omega)];exact a1 os
  have z4:∀os o y x w,((((T++os).set fB o++y).set fF x).set 0 w)[0]?=some w:=λos o y x w=>WH (by simp only[Xq,WL];omega)
  simp-implicitDefEqProofs[aa,dR, ↓a0, ↓a1, ↓aF, ↓aB, ↓tN, ↓z1, ↓z2, ↓z3, ↓z4,r1,hkl,hrN,hrB,-getElem?_pos,List.getElem?_cons_zero,WQ]
  rw[WF (l:=rowsB) (by omega),WF (l:=rowsN) (by omega)]
  have hbl:=bE f.body
  refine⟨⟨by omega,by omega⟩,?_⟩
  have hJB:∀x∈K1++(((fA+1)::(L1++(L0++L2)))++(I2++I3)++K2),3<=x/\x<T.length+1/\x≠fF+1/\x≠fB+1:=λx hx=>⟨hIB x (WV _ hx),by have:=hB.own.lt hx;simpa using this,λe=>hn1 (by rw[←e];simp only[WE];exact .inr (.inl (.inr (WV _ hx)))),λe=>nB.1 (e▸hx)⟩
  have hJN:∀x∈JN,T.length+3<=x/\x<T.length+3+os2.length:=λx hx=>⟨by have:=hN x (by simp[hx]);simp at this;omega,by have:=hRN.own.lt hx;simp at this;omega⟩
  have nle:∀(W:List AO) (fo bo:AO) (x y:AO),∀i,2<=i->i<T.length->i≠fF->i≠fB->(((((T++W).set fB bo)++[y]).set fF fo).set 0 x)[i]?=T[i]?:=λW fo bo x y i h1 h2 h3 h4=>by
   rw[WB (by omega),WB (by omega),Wx (by simp only[Xq,WL];omega),WB (by omega),Wx h2]
  have nri:∀(W:List AO) (fo bo:AO) (x y:AO),∀i,T.length<=i->i<(T++W).length->(((((T++W).set fB bo)++[y]).set fF fo).set 0 x)[i]?=(T++W)[i]?:=λW fo bo x y i h1 h2=>by
   rw[WB (by omega),WB (by omega),Wx (by simpa using h2),WB (by omega)]
  have hbl2:=bE f.body
  have hzN:aC (f.body++f.body.take 1)<=400000000:=by rw[aX];omega
  refine finG _ _ (.sl (T.length+(os2.length+1+1)+1) 5 0 (f.body.length+1)) ((T.length+(os2.length+1+1)+1)::((K1++(((fA+1)::(L1++(L0++L2)))++(I2++I3)++K2))++JN++[])) (f.body++f.body.take 1) (λi g1 g2 g3 g4=>nle _ _ _ _ _ i g1 g2 g3 (λe=>g4 (by rw[e];simp))) ?_ ?_ ?_ (by omega) (by omega) (by omega)
  ·rw[WB (by omega),WH (by simp only[Xq,WL];omega)]
  ·refine OwnL.sl _ 5 (f.body.length+1) (rowsB++rowsN) ((f.body++f.body.take 1).map Sm.cs) ?_ (by rw[Xc,WL,hl1]) (by rw[WL,Xc,WL,hl1,hrB,hrN]) (λe he=>?_) (λe he=>by obtain⟨x,_,rfl⟩:=Xb.1 he;simp) ?_ .nil
   ·rw[WQ,WB (by omega),WB (by omega),WD (by simp)]
    simp
   ·rcases WE.1 he with h|h
    ·exact hB.rl e h
    ·exact hRN.rl e h
   ·rw[List.map_append,Xz,Xz]
    refine(hB.own.frame λx hx=>?_).app (hRN.own.frame λx hx=>?_)
    ·obtain⟨x1,x2,x3,x4⟩:=hJB x hx
     obtain⟨i,rfl⟩:∃i,x=i+1:=⟨x-1,by omega⟩
     rw[WQ,WQ]
     exact nle _ _ _ _ _ i (by omega) (by omega) (by omega) (by omega)
    ·obtain⟨x1,x2⟩:=hJN x hx
     obtain⟨i,rfl⟩:∃i,x=i+1:=⟨x-1,by omega⟩
     simp only[Xk,Xi,WQ,List.nil_append]
     exact nri _ _ _ _ _ i (by omega) (by simp;omega)
  ·intro i hi
   simp only[WC,WE,Xr,or_false] at hi
   rcases hi with rfl|hi|hi
   ·omega
   ·have:=(hJB i (by simp only[WC,WE];exact hi)).1;omega
   ·have:=(hJN i hi).1;omega
 by_cases c0:k3=0
 ·subst c0
  simp-implicitDefEqProofs[aa]
  refine(GQ G hb hl (p:=q+1+1+1+1+1+1) (by omega) [[102],[103],[109],[113]] (k:=T.length+2+1) (by simp) (by simp) (by omega) rfl (by simp[bV])).mono ?_
  rintro r h ⟨s2,hs2,rfl,rfl⟩
  have hs28:s2.length<=8:=by simp at hs2;rcases hs2 with rfl|rfl|rfl|rfl<;>simp
  simp-implicitDefEqProofs[aa, ↓a0, ↓a1, ↓aB,u1,hjl, ↓aE, ↓aE2,-getElem?_pos,List.getElem?_cons_zero,WQ]
  refine aO (λhn=>?_) (λhn=>?_)
  ·simp-implicitDefEqProofs[↓a0, ↓a1, ↓aB, ↓aA,u1,hjl,g1,hargs, ↓v0, ↓v1, ↓v2, ↓aE,-getElem?_pos,List.getElem?_cons_zero,WQ]
   refine finA _ _ 13 0 s2 (.sl (T.length+3+1) 4 0 1) [T.length+3+1] [⟨1,1,[],[]⟩] (λi h1 h2 h3=>hv _ _ _ i h1 h2 h3) ?_ ?_ (by simp) (by simp[Ex.sz,aM];omega) (by omega) (by omega)
   ·rw[WB (by omega),WH (by simp only[WL];omega)]
   ·refine RowOwn.tree (rows:=[[.p (.int .i64 1),.p (.int .i64 1),.p (.str []),.nils]]) (J:=[]) ⟨?_,rfl,by simp,by simp,?_,by simp⟩ rfl
    ·rw[WQ,WB (by omega),WB (by omega),WD (by omega),XB];rfl
    ·simpa using MR (s:=true) (o:=1) (n:=1) (w:=[]) (k:=[]) (.nils 4 .nil)
  ·simp-implicitDefEqProofs[↓a0, ↓a1, ↓w0,-getElem?_pos,List.getElem?_cons_zero,WQ]
   refine finU _ _ ?_ (by omega) (by omega)
   intro i h1 h2
   rw[WB (by omega),Wx h2]
 have d1:¬(k3:Int)=1:=by omega
 have d2:¬(k3:Int)=2:=by omega
 simp-implicitDefEqProofs[aa,c0,d1,d2, ↓a0, ↓a1, ↓aF, ↓aB,u1,hjl]
 refine aO (λhn=>?_) (λhn=>?_)
 ·simp-implicitDefEqProofs[↓a0, ↓a1, ↓aB, ↓aA,u1,hjl,g1,hargs, ↓v0, ↓v1, ↓v2, ↓aE,-getElem?_pos,List.getElem?_cons_zero,WQ]
  refine finA _ _ 2 0 s .nils [] [] (λi h1 h2 h3=>hv _ _ _ i h1 h2 h3) ?_ (.nils 4 .nil) (by simp) (by simp[Ex.sz,aM];omega) (by omega) (by omega)
  rw[WB (by omega),WH (by simp only[WL];omega)]
 ·simp-implicitDefEqProofs[↓a0, ↓a1, ↓w0,-getElem?_pos,List.getElem?_cons_zero,WQ]
  refine finU _ _ ?_ (by omega) (by omega)
  intro i h1 h2
  rw[WB (by omega),Wx h2]
end
section
variable (G:aK)
theorem Mn{ρ:List Nat}:∀{args:List AV},ay 0 args->TW ρ args args
 |[],_=>trivial
 |v::r,h=>⟨.inr ⟨(aR (Xg _) [v] ⟨h.1,trivial⟩).1,by have:=dF ρ [v] ⟨h.1,trivial⟩;simpa[bn] using this⟩,Mn h.2⟩
theorem Sr{f:FuncId}{args:List AV}{b:List Int}{p:Nat}{Q:AV->Nat->Prop}(H:AC Tryz.prog G f (.ptr 0 2 0 0::args) [rdO b p] λx h=>∃v q,x= .ret v/\h=[rdO b q]/\Q v q)(hq:∀v q,Q v q->below 0 v){h:List AO}{k:Nat}(hk:h[k]?=some (rdO b p))(ha:ay 0 args):
 AC Tryz.prog G f (.ptr k 2 0 0::args) h λx h'=>∃v q,x= .ret v/\h'=h.set k (rdO b q)/\Q v q:=by
 refine(H.frame (h:=h) (args:= .ptr k 2 0 0::args) [k] (by simp) ⟨.inr ⟨by simp[below],by simp[ren]⟩,Mn ha⟩ (cK hk (bw _ _ _) cg)).mono ?_
 rintro x h' ⟨x0,h0,⟨v,q,rfl,rfl,r⟩,hl,rfl,rfl⟩
 refine⟨v,q,?_,?_,r⟩
 ·simp only[BX]
  have:=dF ([k]++List.range' h.length ([rdO b q].length-[rdO b p].length)) [v] ⟨hq v q r,trivial⟩
  simpa[bn] using this
 ·have hp2:∀σ,gy σ (rdO b q)=rdO b q:=λσ=>by simp[rdO,gy,bn,ren]
  simp[mrg,hp2]
theorem Nu{l:List Int}(h:Byt l)(n:Nat):Byt (l.take n):=λx hx=>h x (List.mem_of_mem_take hx)
theorem NF{f:FuncId}{args:List AV}{R:ARes->Prop}(H:AC Tryz.prog G f args [] λx _=>R x)(hR:∀x,R x->∃v,x= .ret v/\below 0 v)(ha:ay 0 args)(h:List AO):AC Tryz.prog G f args h λx h'=>R x/\h'=h:=by
 have H2:AC Tryz.prog G f args [] λx h'=>R x/\h'=[]:=by
  refine H.wk (λt v h' r=>by obtain⟨_,e,_⟩:=hR _ r;cases e) λv h' r=>?_
  obtain⟨v',e,hv⟩:=hR _ r
  cases e
  exact⟨v,[],OA rfl ⟨.inr ⟨hv,rfl⟩,trivial⟩,r,rfl⟩
 refine(H2.pre h ha (λo ho=>by cases ho) (λx h' r=>by rw[r.2])).mono ?_
 rintro x h' ⟨h1,⟨r,rfl⟩,rfl⟩
 exact⟨r,rfl⟩
variable (hK:G jg=some iA) (hS:G dX=some [.tbl opK opV])
include hK hS
end
section
theorem Kn(p:List UInt8)(r:List (List UInt8))(m:Scp)(c:Int):jQ (p::r) m c=jQ r (eQ m p 0) (if(eD m p).isSome then fl c 2 else c):=rfl
theorem DB:∀(ps:List (List UInt8)) (m:Scp) (c:Int),(jQ ps m c).2=0->c=0/\ps.Pairwise (· ≠ ·)/\∀p∈ps,eD m p=none
 |[],m,c,h=>⟨h,.nil,λp hp=>by cases hp⟩
 |p::r,m,c,h=>by
  rw[Kn] at h
  obtain⟨h1,h2,h3⟩:=DB r _ _ h
  have hm:eD m p=none:=by
   cases hs:eD m p with
   |none=>rfl
   |some n=>
    rw[hs] at h1
    by_cases hc:c=0
    ·rw[hc] at h1;simp[fl] at h1
    ·simp[fl,hc] at h1
  rw[hm] at h1
  refine⟨by simpa using h1,.cons (λq hq e=>?_) h2,λq hq=>?_⟩
  ·have:=h3 q hq
   rw[ip,if_pos e] at this
   cases this
  ·rcases WC.1 hq with rfl|hq
   ·exact hm
   ·have:=h3 q hq
    rw[ip] at this
    split at this
    ·cases this
    ·exact this
theorem Ip{l:List Fd}(h:bZ l=0){k:Nat}{f:Fd}(hf:l[k]?=some f):f.params.Pairwise (· ≠ ·):=by
 rw[sR] at h
 split at h
 case isFalse=>cases h
 obtain⟨c',hc⟩:=EJ h k f hf
 rw[icF] at hc
 exact(DB _ _ _ (nj hc)).2.1
theorem Nq{ps b:Wds}(h:ps.Pairwise (· ≠ ·)){i:Nat}(hi:i<ps.length):idxS (ps++b) ps[i]=i:=by
 have:(ps++b).findIdx? (λw=>w==ps[i])=some i:=by
  rw[WU]
  refine⟨by rw[WL];omega,by rw[List.getElem_append_left hi];simp,λj hj=>?_⟩
  rw[List.getElem_append_left (by omega)]
  have:=List.pairwise_iff_getElem.1 h j i (by omega) hi hj
  simpa using this
 rw[idxS,this]
theorem PJ(l:Wds)(s:List UInt8):idxS l s<l.length:=by
 unfold idxS
 cases h:l.findIdx? (λw=>w==s) with
 |none=>show(-1:Int)<_;omega
 |some i=>
  have:=(WU.1 h).1
  show(i:Int)<_
  omega
theorem PX(f:Fd):(vrN f).length=f.params.length+aS f.body:=by rw[vrN,WL,pm]
variable (G:aK)
def DrV(n:Nat)(x:ARes):Prop:=∃(l:List Fd) (k:Int) (s:List UInt8),x= .ret (.tup [.agg [.p (fdL l)],.p (.int .i64 k),.p (.str s)])/\aZ l<=n
theorem Mp{n:Nat}:∀x,DrV n x->∃v,x= .ret v/\below 0 v:=λx ⟨l,k,s,e,_⟩=>⟨_,e,by simp[below]⟩
theorem DH(code:List Int)(hb:Byt code):AC Tryz.prog G iH [.p (vH code)] [] λx _=>DrV 900000000 x:=by
 refine AC.go tv ?_
 simp-implicitDefEqProofs[md]
 refine(AC.lift (Sd G code) (by simp) rfl rfl).mono ?_
 rintro r h ⟨rfl,rfl⟩
 have hr:∀n,dd n (rdO (code.take 2000) 0)=rdO (code.take 2000) 0:=λn=>by simp[rdO,dd,dJ,cn]
 have hbt:=Nu hb 2000
 have hbl:(code.take 2000).length<=2000:=by rw[WX];omega
 generalize code.take 2000=b at hr hbt hbl
 simp-implicitDefEqProofs[aa,cn,hr]
 refine(Sr G (NX G hbt hbl (p:=0) (by omega)) (λv q ⟨⟨l,e,_⟩,_⟩=>by rw[e];simp[below]) (h:=[.row 1 [[.nils]],rdO b 0]) (k:=1) rfl trivial).mono ?_
 rintro r h ⟨v,q,rfl,rfl,⟨l,rfl,hz⟩,hq1,hq2⟩
 have hll:=dK l
 have hfl:fdL l= .lst 3 (l.map Fd.cs):=rfl
 have hw:IntKind.i64.wrap ((l.length:Int)-1)=(l.length:Int)-1:=ab (by omega) (by omega)
 simp-implicitDefEqProofs[aa,hfl,hw]
 refine(Sr G (args:=[.p (bF [(l.length:Int)-1,0,-1,l.length])]) (Q:=λv q2=>∃n:Int,v= .p (.int .i64 n)/\q2=q+1) ((DI G hbt hbl (p:=q) (by omega) _ (by simp) (by simp) []).mono λx h ⟨n,_,e1,e2⟩=>⟨_,_,e1,e2,n,rfl,rfl⟩) (λv q ⟨k,e,_⟩=>by rw[e];simp[below]) (k:=1) rfl (by simp[below])).mono ?_
 rintro r h ⟨v,q2,rfl,rfl,n,rfl,rfl⟩
 simp-implicitDefEqProofs[aa]
 refine(Sr G (args:=[.p (aL [[97],[98],[99],[100],[101],[103],[122,122],[]])]) (Q:=λv q2=>∃n:List UInt8,v= .p (.str n)) ((EP G hbt hbl (p:=q+1) (by omega) _ (by simp) (by simp) []).mono λx h ⟨n,_,e1,e2⟩=>⟨_,_,e1,e2,n,rfl⟩) (λv q ⟨k,e⟩=>by rw[e];simp[below]) (k:=1) rfl (by simp[below])).mono ?_
 rintro r h ⟨v,q3,rfl,rfl,s,rfl⟩
 simp-implicitDefEqProofs[aa]
 exact⟨l,n,s,rfl,hz⟩
variable (hK:G jg=some iA) (hS:G dX=some [.tbl opK opV])
include hK hS
theorem In(code:List Int)(hb:Byt code)(hl:code.length<=9223372036854775807):VF Tryz.prog G oQ [.p (vH code)] (.p (.bool true)):=by
 have hbl:vH code= .lst 1 (code.map λn=>[.int .u8 n]):=rfl
 refine AC.go zz ?_
 simp-implicitDefEqProofs[oD,hbl]
 refine aO (λ_=>?_) (λ_=>?_)
 ·simp-implicitDefEqProofs[]
 simp-implicitDefEqProofs[]
 have hd:=NF G (DH G code hb) Mp (by simp) []
 rw[hbl] at hd
 refine hd.mono ?_
 rintro r h ⟨⟨l,k,s,rfl,hz⟩,rfl⟩
 simp-implicitDefEqProofs[aa]
 refine(Fe G hK hS l (by omega) k s).use ?_
 simp-implicitDefEqProofs[]
 refine(GP G l (by omega) k s).use ?_
 by_cases hneg:vrR l k s<0
 ·have hm1:vrR l k s= -1:=by
   by_cases hc:eL l=true/\inR k 0 ((l.length:Int)-1)=true
   ·rw[vrR,if_pos hc] at hneg⊢
    split at hneg
    ·rename_i f _
     unfold idxS at hneg⊢
     split at hneg
     ·omega
     ·rfl
    ·rfl
   ·rw[vrR,if_neg hc]
  simp-implicitDefEqProofs[hneg]
  refine(GP G l (by omega) k s).use ?_
  simp-implicitDefEqProofs[hm1]
 ·have hc:eL l=true/\inR k 0 ((l.length:Int)-1)=true:=by
   refine Classical.byContradiction λhc=>hneg ?_
   rw[vrR,if_neg hc];omega
  obtain⟨h0,hu⟩:=CZ hc.1
  have hk2:=hc.2
  simp only[inR,WM,decide_eq_true_eq] at hk2
  obtain⟨m,rfl⟩:∃m:Nat,k=m:=⟨k.toNat,by omega⟩
  have hlt:m<l.length:=by omega
  obtain⟨f,hf⟩:∃f,l[m]?=some f:=⟨_,Wz hlt⟩
  have hfc:=f.cs_eq'
  have hfm:=WJ hf
  have hp:=Ck h0
  have hcnt:=PH l 0 f (pT hp f hfm)
  have hs:=iu hp
  have hfz:=dp hfm
  have hfz2:f.sz=1+f.name.length+(f.params.length+(f.params.map List.length).sum)+aC f.body:=rfl
  have hap:=Ip h0 hf
  have hvl:=PX f
  have hrs:=PJ (vrN f) s
  have hvr:∀s,vrR l m s=idxS (vrN f) s:=λs=>by
   rw[vrR,if_pos hc]
   simp only[Int.toNat_natCast,hf]
  have hcv:Iv l m=(f.params.length+aS f.body:Nat):=by
   rw[Iv,if_pos ⟨h0,hc.2⟩]
   simp only[Int.toNat_natCast,hf,DR]
  have hum:(unL l)[m]?=some (lwF l 0 f):=by rw[unL,WR,hf];rfl
  have hfl:fdL l= .lst 3 (l.map Fd.cs):=rfl
  have hst:aL f.params= .lst 1 (f.params.map λw=>[.str w]):=rfl
  clear hlt
  rw[hvr] at hneg⊢
  obtain⟨r,hr⟩:∃r,r=idxS (vrN f) s:=⟨_,rfl⟩
  rw[←hr] at hneg hrs⊢
  simp-implicitDefEqProofs[hneg]
  refine(Gp G hK hS l (by omega) m).use ?_
  rw[hcv]
  simp-implicitDefEqProofs[hfl,hf,hfc,hst]
  refine aN (λi:Nat=>az 88 [(55,.p (.int .i64 i)),(54,.p (.int .i64 f.params.length)),(53,.p (.lst 1 (f.params.map λw=>[.str w]))),(7,.p (.int .i64 ((f.params.length+aS f.body:Nat)))),(6,.p (.int .i64 r)),(4,.p (.int .i64 m)),(3,.ptr 0 1 0 0)]) (λ_=>[.row 1 [[.p (.lst 3 (l.map Fd.cs))]]]) (λi=>i<=f.params.length) (λi=>f.params.length-i) 0 (Xg _) (am (by simp) (by simp[below])) ?_
  intro i hi
  simp-implicitDefEqProofs[]
  refine aO (λhc1=>?_) (λhc1=>?_)
  ·simp at hc1
   have hg:=Wz hc1
   have hpar:=Nq (b:=ji f.body) hap hc1
   have hv2:=Fe G hK hS l (by omega) m f.params[i]
   rw[hvr] at hv2
   generalize f.params[i]=a at hg hpar hv2
   have hpar2:idxS (vrN f) a=i:=hpar
   rw[hpar2,hfl] at hv2
   simp-implicitDefEqProofs[hg]
   refine hv2.use ?_
   simp-implicitDefEqProofs[]
   exact⟨i+1,by omega,by omega,am (by simp) (by simp[below,w1 (i:=i) (by omega)])⟩
  ·simp at hc1
   have hL:=pW G hK hS l (by omega)
   have hlu:lv l=unL l:=by rw[lv,hc.1,if_pos rfl]
   have hul:cdL (unL l)= .lst 3 ((unL l).map Cd.cs):=rfl
   obtain⟨c,hcc⟩:∃c,c=lwF l 0 f:=⟨_,rfl⟩
   rw[←hcc] at hum hcnt
   have hcs:=c.cs_eq2
   rw[hlu,hc.1,hul,hfl] at hL
   have h1:r<(f.params.length:Int)+(aS f.body:Int):=by omega
   have h2:(f.params.length:Int)+(aS f.body:Int)<c.regs:=by have:=hcnt.2.1;omega
   simp-implicitDefEqProofs[]
   refine hL.use ?_
   simp-implicitDefEqProofs[h1,h2,hum,hcs]
end
end Go.Proofs.YtghpabfdmbdpfaaGreatDoor
namespace Go.Proofs.YtghpabfdmbdpfaaGreatDoor
open Go Go.Aw Go.ChangeShapes Go.WideShapes Go.ChangeAt Go.RowKit
set_option maxRecDepth 100000
abbrev Ru:TypeId:=37
abbrev TV:TypeId:=35
abbrev VM:TypeId:=91
abbrev RT:TypeId:=30
abbrev UH:TypeId:=9
abbrev Px:TypeId:=89
abbrev SA:TypeId:=177
abbrev Pu:TypeId:=175
abbrev Rl:TypeId:=221
abbrev QV:TypeId:=3
abbrev Rm:TypeId:=4
abbrev Ia:TypeId:=205
abbrev NR:TypeId:=236
abbrev Qq:TypeId:=237
abbrev Kc:TypeId:=22
abbrev DV:TypeId:=5
theorem Uz:Kids Tryz.prog (· <Tryz.prog.types.size):=kids_rows (by kernel_rfl) (by kernel_rfl)
theorem TY:∀t e,t<Tryz.prog.types.size->Tryz.prog.underlying t=some (.slice e)->0<Tryz.prog.cellsOf e:=slices_full_of Tryz.prog (by kernel_rfl)
def OP:List TypeId:=[Ru,TV,VM,RT,UH,Px,SA,Pu,Rl,QV,Rm,Ia,NR]
theorem Nr:Plain Tryz.prog OP=true:=by kernel_rfl
theorem We:ownKnob Tryz.prog.godebug=none:=by kernel_rfl
theorem Ai{H:Type}:∀l:List (DataW H),Rows.uptoBulkAll l=(l.map Rows.uptoBulk).sum
 |[]=>by simp[Rows.uptoBulkAll]
 |d::r=>by simp[Rows.uptoBulkAll,Ai r]
theorem QG{H:Type}:BulkOk (Rows.uptoBulk (H:=H)) where
 lit:=λl=>by cases l<;>simp[Rows.uptoBulk]
 str:=λs=>by simp[Rows.uptoBulk]
 nil:=by simp[Rows.uptoBulk]
 slice:=λes sp=>by simp only[Rows.uptoBulk,Ai];omega
 agg:=λps=>by simp only[Rows.uptoBulk,Ai];omega
theorem OK{t e:TypeId}{vs:List PV}(h:Conf Tryz.prog t vs)(hu:Tryz.prog.underlying t=some (.slice e)):∃es,vs=[.lst (Tryz.prog.cellsOf e) es]/\es.length<=9223372036854775807/\∀x∈es,Conf Tryz.prog e x:=by
 cases h with
 |sl es e' hl hs=>rw[hu] at e';cases e';exact⟨es,rfl,hl,hs⟩
 |bool b e=>rw[e] at hu;cases hu
 |int n e=>rw[e] at hu;cases hu
 |str s e=>rw[e] at hu;cases hu
 |st vs e=>rw[e] at hu;cases hu
 |arr vs e=>rw[e] at hu;cases hu
def G0:aK:=λg=>if g=jg then some iA else if g=dX then some [.tbl opK opV] else none
theorem RU:∀k,jk Tryz.prog (k+10) Ia (Rows.laid_loop_example_wholeway_impl_keys (H:=Unit))=iA:=λk=>by kernel_rfl
theorem Vy{W:World}{laid:List (String × DataW Unit)}(hL:laidMet Tryz.prog laid W)(h1:("loop.example/wholeway/impl.keys",Rows.laid_loop_example_wholeway_impl_keys)∈laid)(h2:("loop.example/wholeway/impl.opSign",Rows.laid_loop_example_wholeway_impl_opSign)∈laid):
 ∀g cs,G0 g=some cs->g<W.heap.size/\∀(j:Nat) (c:PV),cs[j]?=some c->∃v,W.cell? ⟨g,j,none⟩=some v/\PRel W (· <W.heap.size) c v:=by
 intro g cs h
 unfold G0 at h
 split at h
 ·rename_i e;subst e;cases h
  exact Ld Nr hL (n:= "loop.example/wholeway/impl.keys") (d:=Rows.laid_loop_example_wholeway_impl_keys) (t:=Ia) h1 (by kernel_rfl) (by kernel_rfl) (by decide) RU
 ·split at h
  ·rename_i e;subst e;cases h
   exact Na Nr hL (n:= "loop.example/wholeway/impl.opSign") h2 (t:=Qq) (k:=QV) (e:=NR) (by kernel_rfl) (by kernel_rfl) (by kernel_rfl) (.inl ⟨.i64,by kernel_rfl⟩) (by decide) (by kernel_rfl) (by kernel_rfl) (λm=>by kernel_rfl)
  ·cases h
def JO:List TypeId:=Kc::DV::OP
theorem RW:Plain Tryz.prog JO=true:=by kernel_rfl
theorem HZ{vs:List PV}(h:Conf Tryz.prog Kc vs):∃l:List Int,vs=[vH l]/\l.length<=9223372036854775807/\Byt l:=by
 obtain⟨es,rfl,hl,h4⟩:=OK h (e:=DV) (by kernel_rfl)
 have hk:∀x∈es,∃n:Int,x=[PV.int .u8 n]/\(Lit.int .u8 n).wf=true:=λx hx=>OE (h4 x hx) (by kernel_rfl)
 obtain⟨l,rfl⟩:=JL (λn:Int=>[PV.int .u8 n]) (λx hx=>by obtain⟨n,e,_⟩:=hk x hx;exact⟨n,e⟩)
 rw[show Tryz.prog.cellsOf DV=1 by kernel_rfl]
 refine⟨l,rfl,by rwa[Xc] at hl,λn hn=>?_⟩
 obtain⟨m,e,hw⟩:=hk [PV.int .u8 n] (Xb.2 ⟨n,hn,rfl⟩)
 cases e
 simp[Lit.wf,IntKind.min,IntKind.max,IntKind.bits,IntKind.signed] at hw
 omega
end Go.Proofs.YtghpabfdmbdpfaaGreatDoor
