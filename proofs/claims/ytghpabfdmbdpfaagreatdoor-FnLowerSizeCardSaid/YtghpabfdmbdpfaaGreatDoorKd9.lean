/-
  Contracts and lemmas that the card needs, part 9.
-/
import Derived.Test.YtghpabfdmbdpfaaGreatDoorKd8
namespace Go.Proofs.YtghpabfdmbdpfaaGreatDoor
open Go Go.Aw
set_option maxRecDepth 100000
set_option maxHeartbeats 4000000
section
variable (G:aK)
theorem Dq{hF:List AO}{n:Nat}{o k:Int}{w:List UInt8}{ks:List Ex}{K:AV}(hk:View hF K (exL ks)):Fzs hF n [.agg [.p (.int .i64 o),.p (.int .i64 k),.p (.str w),K]] [.agg ((Ex.mk o k w ks).cs.map .p)]:=by
 rw[Ex.cs_eq]
 exact .agg (.keep (by simp) (.keep (by simp) (.keep (by simp) (.one hk .nil)))) .nil
def OV(h:List AO)(kids:List Ex)(K:AV):Prop:=(K= .nils/\kids=[])\/∃id rows hX,K= .sl (id+1) 4 0 kids.length/\kids≠[]/\h[id+1]?=some (.row 4 rows)/\hX.length=h.length/\(∀(i:Nat) o,hX[i]?=some o->o.live->h[i]?=some o)/\¬Live hX 0/\¬Live hX (id+1)/\
 rows.length=kids.length/\∀(j:Nat) (e e1:List AV),rows[j]?=some e->(exR kids)[j]?=some e1->Fzs hX h.length e e1
def DT(b:List Int)(Q:Ex->Nat->Prop)(x:ARes)(h:List AO):Prop:=∃(e:Ex) (q:Nat) (rest:List AO) (K:AV),x= .ret (.agg [.p (.int .i64 e.op),.p (.int .i64 e.n),.p (.str e.name),K])/\h=rdO b q::rest/\OV h e.kids K/\Q e q
def EN(b:List Int)(Q:Ex->Nat->Prop)(x:ARes)(h:List AO):Prop:=∃(e:Ex) (q:Nat),x= .ret (.agg [.p (.int .i64 e.op),.p (.int .i64 e.n),.p (.str e.name),slE 1 4 (exR e.kids)])/\h=[rdO b q,bQ 4 (exR e.kids)]/\Q e q
def EoQ(p n m:Nat)(e:Ex)(q:Nat):Prop:=e.sz<=n/\p<=q/\q<=p+m
theorem Fl{hF:List AO}{n:Nat}:∀h:List AO,FzO hF n h (List.replicate h.length .dead)
 |[]=> .nil _
 |o::r=>by rw[Wr,List.replicate_succ];exact .dead (Fl r)
theorem Gy{hF:List AO}{n sz:Nat}{es es1:List (List AV)}(hl:es.length=es1.length)(hv:∀(j:Nat) (e e1:List AV),es[j]?=some e->es1[j]?=some e1->Fzs hF n e e1):∀(h:List AO) (id:Nat),h[id]?=some (.row sz es)->FzO hF n h ((List.replicate h.length .dead).set id (.row sz es1))
 |[],id,e=>by simp at e
 |o::r,0,e=>by
  cases e
  rw[Wr,List.replicate_succ,List.set_cons_zero]
  exact .rows hl hv (Fl r)
 |o::r,id+1,e=>by
  rw[Wr,List.replicate_succ,List.set_cons_succ]
  exact .dead (Gy hl hv r id (by simpa using e))
theorem EZ{f:FuncId}{args:List AV}{b:List Int}{p:Nat}{Q:Ex->Nat->Prop}(H:AC Tryz.prog G f args [rdO b p] (DT b Q)):AC Tryz.prog G f args [rdO b p] (EN b Q):=by
 refine H.wk (λt v h ⟨_,_,_,_,e,_⟩=>by cases e) ?_
 rintro v h ⟨e,q,rest,K,ev,rfl,hk,hq⟩
 cases ev
 rcases hk with⟨rfl,hk⟩|⟨id,rows,hX,rfl,hne,he,x1,x2,x3,x4,x5,x6⟩
 ·refine⟨_,_,?_,e,q,rfl,rfl,hq⟩
  have h0:exR e.kids=[]:=by rw[hk];rfl
  rw[h0,zF,BC]
  exact Wk.ofL [0,0] (by simp) (by simp) (by simp[rdO,jO]) (by simp[below,ay,ren,bq]) (dA rfl (bt _ _ _) (eB (by simp) da))
 ·have hr:exR e.kids≠[]:=λh=>hne (List.map_eq_nil_iff.1 h)
  have hrl:(exR e.kids).length=e.kids.length:=by simp[exR]
  rw[Ws] at he
  have hid:id<rest.length:=(VZ.1 he).1
  refine⟨.agg [.p (.int .i64 e.op),.p (.int .i64 e.n),.p (.str e.name),slE 1 4 (exR e.kids)],[rdO b q,bQ 4 (exR e.kids)],?_,e,q,rfl,rfl,hq⟩
  rw[dE hr,fg hr,hrl]
  refine Wk.trans (ts1:=[.agg [.p (.int .i64 e.op),.p (.int .i64 e.n),.p (.str e.name),.sl (id+1) 4 0 e.kids.length]]) (h1:=rdO b q::(List.replicate rest.length .dead).set id (.row 4 (exR e.kids))) (ID (hX:=hX) (by simp) x1 x2 (λi ⟨o,e1,l1⟩ ⟨o2,e2,l2⟩=>?_) (by simp) rfl (λi u hi=>?_) (.same (bt _ _ _) (Gy (by rw[hrl];exact x5) x6 rest id he))) ?_
  ·cases i with
   |zero=>exact x3 ⟨o,e1,l1⟩
   |succ i=>
    by_cases hi:i=id
    ·subst hi;exact x4 ⟨o,e1,l1⟩
    ·rw[Ws,Wc (Ne.symm hi),List.getElem?_replicate] at e2
     split at e2
     ·cases e2;exact l2
     ·cases e2
  ·cases i with
   |zero=>cases hi;exact .inr ⟨_,rfl,iE (by simp[below,ay];exact hid)⟩
   |succ i=>simp at hi
  ·refine Wk.of [0,id+1] (by simp) (by simp) (by simp) (by simp[below,ay,ren,bq]) (dA rfl (bt _ _ _) (bu ?_ (dY _) da))
   rw[Ws,Wi (by simpa using hid)]
theorem zU{f:FuncId}{args:List AV}{b:List Int}{p:Nat}{Q:Ex->Nat->Prop}(H:AC Tryz.prog G f args [rdO b p] (EN b Q))(rest:List AO)(ha:ay 1 args):
 AC Tryz.prog G f args (rdO b p::rest) λx h=>∃(e:Ex) (q:Nat),x= .ret (.agg [.p (.int .i64 e.op),.p (.int .i64 e.n),.p (.str e.name),slE (rest.length+1) 4 (exR e.kids)])/\h=rdO b q::(rest++[bQ 4 (exR e.kids)])/\Q e q:=by
 refine(H.frame (h:=rdO b p::rest) [0] (by simp) (Fo (n:=1) ha) (dA rfl (bt _ _ _) da)).mono ?_
 rintro x h ⟨x0,h0,⟨e,q,rfl,rfl,hq⟩,hl,rfl,rfl⟩
 have hp:∀σ,ij σ (bQ 4 (exR e.kids))=bQ 4 (exR e.kids):=λσ=>by
  unfold bQ
  split
  ·rfl
  ·simp only[ij]
   rw[WB (g:=id) λx hx=>ep _ x (dY _ x hx)];simp
 have hp2:∀σ,ij σ (rdO b q)=rdO b q:=λσ=>by simp[rdO,ij,bq,ren]
 refine⟨e,q,?_,?_,hq⟩
 ·simp[Cf,ren,bq]
 ·have hl2:([rdO b q,bQ 4 (exR e.kids)]:List AO).length-[rdO b p].length=1:=rfl
  rw[hl2]
  simp only[Wr,WP,WT,List.take_succ_cons,List.take_zero,Wz,WY,hp2,List.drop_succ_cons,List.drop_zero,mrg,List.set_cons_zero,WR,hp]
def LfQ(p:Nat)(v:AV)(q:Nat):Prop:=(∃(o n:Int) (s:List UInt8),v= .agg [.p (.int .i64 o),.p (.int .i64 n),.p (.str s),.nils]/\s.length<=8)/\p<=q/\q<=p+2
theorem KM{b:List Int}(hb:Byt b)(hl:b.length<=2000){p:Nat}(hp:p<=1000000000000)(names:List (List UInt8))(hn:uB names):AC Tryz.prog G dq [.ptr 0 2 0 0,.p (aL names)] [rdO b p] λx h=>∃v q,x= .ret v/\h=[rdO b q]/\LfQ p v q:=by
 refine nQ G (AC.go rV ?_)
 have hsl:aL names= .lst 1 (names.map λw=>[.str w]):=rfl
 have fin1:∀(o n:Int) (s:List UInt8) (q:Nat) (rest:List AO),p<=q->q<=p+2->s.length<=8->DP b (LfQ p) (.ret (.agg [.p (.int .i64 o),.p (.int .i64 n),.p (.str s),.nils])) (rdO b q::rest):=λo n s q rest h1 h2 hs=>
  ⟨_,rest,q,_,rfl,rfl,iE (by simp),⟨o,n,s,rfl,hs⟩,h1,h2⟩
 have num:∀(q:Nat) (h:List AO),q<=1000000000001->h[0]?=some (rdO b q)->h[2]?=some (Fa [0,1,2,3,5,7,15,16,100,255])->_:=λq h hq h0 h1=>mf G hb hl (p:=q) (by omega) [0,1,2,3,5,7,15,16,100,255] (h:=h) (k:=2) (by simp) (by simp) (by omega) h0 h1
 by_cases hne:names=[]
 ·subst hne
  have hs0:aL []= .lst 1 []:=rfl
  simp-implicitDefEqProofs[gd,hs0]
  refine(num p _ (by omega) rfl rfl).mono ?_
  rintro r h ⟨n,_,rfl,rfl⟩
  simp-implicitDefEqProofs[aa]
  exact fin1 _ _ _ _ _ (by omega) (by omega) (by simp)
 ·have hlen:¬names.length=0:=λh=>hne (Xg h)
  simp-implicitDefEqProofs[gd,hsl,hne]
  refine(bc G b hb hl p (by omega) 3 _).mono ?_
  rintro r h ⟨k,rfl,rfl,_⟩
  simp-implicitDefEqProofs[aa]
  refine aO (λhc=>?_) (λhc=>?_)
  ·simp-implicitDefEqProofs[]
   refine(num (p+1) _ (by omega) rfl rfl).mono ?_
   rintro r h ⟨n,_,rfl,rfl⟩
   simp-implicitDefEqProofs[aa]
   exact fin1 _ _ _ _ _ (by omega) (by omega) (by simp)
  ·simp-implicitDefEqProofs[]
   rw[←hsl]
   refine(Je G hb hl (by omega) names hne (by have:=hn.1;omega) _).mono ?_
   rintro r h ⟨s,hs,rfl,rfl⟩
   have:=hn.2 s hs
   simp-implicitDefEqProofs[aa]
   exact fin1 _ _ _ _ _ (by omega) (by omega) this
theorem KC{b:List Int}(hb:Byt b)(hl:b.length<=2000)(names:List (List UInt8))(hn:uB names)(d:Nat)(hd:d+1<=20){p:Nat}(hp:p+6*3^(d+1)<=1000000000000):AC Tryz.prog G aX [.ptr 0 2 0 0,.p (aL names),.p (.int .i64 ((d+1:Nat):Int))] [rdO b p] (EN b (EoQ p (10*3^(d+1)) (6*3^(d+1)))):=by
 have hpow:3^(d+1)=3*3^d:=by rw[Nat.pow_succ];omega
 have h1p:1<=3^d:=Nat.one_le_pow _ _ (by omega)
 have ih:=λ{p:Nat} (hp:p+6*3^d<=1000000000000)=>AF G hb hl names hn d (by omega) (p:=p) hp
 rw[hpow] at hp⊢
 generalize 3^d=t at*
 have hw:IntKind.i64.wrap (d:Int)=(d:Int):=ab (by omega) (by omega)
 have leaf:∀(q:Nat) (rest:List AO),p<=q->q<=p+3->AC Tryz.prog G dq [.ptr 0 2 0 0,.p (aL names)] (rdO b q::rest) λx h=>∃v q',x= .ret v/\h=rdO b q'::rest/\LfQ q v q':=λq rest _ _=>ka G (KM G hb hl (by omega) names hn) rest (by simp[below])
 have sub:∀(q:Nat) (rest:List AO),p<=q->q<=p+6+6*t->AC Tryz.prog G aX [.ptr 0 2 0 0,.p (aL names),.p (.int .i64 d)] (rdO b q::rest) λx h=>∃v q',x= .ret v/\h=rdO b q'::rest/\ExQ q (10*t) (6*t) v q':=λq rest _ _=>ka G (ih (by omega)) rest (by simp[below])
 refine EZ G (AC.go mX ?_)
 have leafCase:∀(o n:Int) (s:List UInt8) (q:Nat) (rest:List AO),s.length<=8->p<=q->q<=p+5->DT b (EoQ p (10*(3*t)) (6*(3*t))) (.ret (.agg [.p (.int .i64 o),.p (.int .i64 n),.p (.str s),.nils])) (rdO b q::rest):=λo n s q rest h1 h2 h3=>
  ⟨⟨o,n,s,[]⟩,q,rest,_,rfl,rfl,.inl ⟨rfl,rfl⟩,by simp[Ex.sz,aM];omega,h2,by omega⟩
 have top:∀(kids:List Ex) (h:List AO) (k:Nat),h[k+1]?=some (.row 4 (exR kids))->kids≠[]->OV h kids (.sl (k+1) 4 0 kids.length):=λkids h k hk hne=>
  .inr ⟨k,exR kids,List.replicate h.length .dead,rfl,hne,hk,by simp,λi o e l=>(by rw[List.getElem?_replicate] at e;split at e<;>cases e;exact l.elim),λ⟨o,e,l⟩=>(by rw[List.getElem?_replicate] at e;split at e<;>cases e;exact l.elim),λ⟨o,e,l⟩=>(by rw[List.getElem?_replicate] at e;split at e<;>cases e;exact l.elim),by simp[exR],λj e e1 h1 h2=>(by rw[h1] at h2;cases h2;exact iE (aT (WH _) _ (dY _ e (Wm h1))))⟩
 have bin:∀(o:Int) (e1 e2:Ex) (q:Nat) (rest:List AO) (k:Nat),(rdO b q::rest)[k+1]?=some (.row 4 [e1.cs.map .p,e2.cs.map .p])->e1.sz<=10*t->e2.sz<=10*t->p<=q->q<=p+6*(3*t)->DT b (EoQ p (10*(3*t)) (6*(3*t))) (.ret (.agg [.p (.int .i64 o),.p (.int .i64 0),.p (.str []),.sl (k+1) 4 0 2])) (rdO b q::rest):=λo e1 e2 q rest k hk h1 h2 h3 h4=>
  ⟨⟨o,0,[],[e1,e2]⟩,q,rest,_,rfl,rfl,top [e1,e2] _ k hk (by simp),by simp[Ex.sz,aM];omega,h3,h4⟩
 have una:∀(o:Int) (e1:Ex) (q:Nat) (rest:List AO) (k:Nat),(rdO b q::rest)[k+1]?=some (.row 4 [e1.cs.map .p])->e1.sz<=10*t->p<=q->q<=p+6*(3*t)->DT b (EoQ p (10*(3*t)) (6*(3*t))) (.ret (.agg [.p (.int .i64 o),.p (.int .i64 0),.p (.str []),.sl (k+1) 4 0 1])) (rdO b q::rest):=λo e1 q rest k hk h1 h3 h4=>
  ⟨⟨o,0,[],[e1]⟩,q,rest,_,rfl,rfl,top [e1] _ k hk (by simp),by simp[Ex.sz,aM];omega,h3,h4⟩
 by_cases hd0:d=0
 ·subst hd0
  simp-implicitDefEqProofs[ec]
  refine(leaf p _ (by omega) (by omega)).mono ?_
  rintro r h ⟨v,q,rfl,rfl,⟨o,n,s,rfl,he⟩,h1,h2⟩
  simp-implicitDefEqProofs[aa]
  exact leafCase o n s q _ he (by omega) (by omega)
 have hd2:¬(d:Int)+1<2:=by omega
 simp-implicitDefEqProofs[ec,hd2]
 refine(bc G b hb hl p (by omega) 4 _).mono ?_
 rintro r h ⟨k1,rfl,rfl,_⟩
 simp-implicitDefEqProofs[aa]
 refine aO (λhc=>?_) (λhc=>?_)
 ·simp-implicitDefEqProofs[]
  refine(leaf (p+1) _ (by omega) (by omega)).mono ?_
  rintro r h ⟨v,q,rfl,rfl,⟨o,n,s,rfl,he⟩,h1,h2⟩
  simp-implicitDefEqProofs[aa]
  exact leafCase o n s q _ he (by omega) (by omega)
 simp-implicitDefEqProofs[]
 refine(bc G b hb hl (p+1) (by omega) 7 _).mono ?_
 rintro r h ⟨k2,rfl,rfl,_⟩
 simp-implicitDefEqProofs[aa]
 refine aO (λhc=>?_) (λhc=>?_)
 ·simp-implicitDefEqProofs[]
  refine(mf G hb hl (p:=p+2) (by omega) [11,12,11] (k:=2) (by simp) (by simp) (by omega) rfl rfl).mono ?_
  rintro r h ⟨n,_,rfl,rfl⟩
  simp-implicitDefEqProofs[aa,hw]
  refine(sub (p+3) _ (by omega) (by omega)).mono ?_
  rintro r h ⟨v,q,rfl,rfl,⟨e,rfl,he⟩,h1,h2⟩
  have hec:=e.cs_eq
  simp-implicitDefEqProofs[aa,hec]
  exact una n e q _ 2 (by rw[hec];rfl) he (by omega) (by omega)
 ·simp-implicitDefEqProofs[]
  refine(mf G hb hl (p:=p+2) (by omega) [3,3,4,5,6,7,8,9,10] (k:=2) (by simp) (by simp) (by omega) rfl rfl).mono ?_
  rintro r h ⟨n,_,rfl,rfl⟩
  simp-implicitDefEqProofs[aa,hw]
  refine(sub (p+3) _ (by omega) (by omega)).mono ?_
  rintro r h ⟨v,q,rfl,rfl,⟨e,rfl,he⟩,h1,h2⟩
  have hec:=e.cs_eq
  simp-implicitDefEqProofs[aa,hec,hw]
  refine(sub q _ (by omega) (by omega)).mono ?_
  rintro r h ⟨v,q2,rfl,rfl,⟨e2,rfl,he2⟩,h3,h4⟩
  have hec2:=e2.cs_eq
  simp-implicitDefEqProofs[aa,hec2]
  exact bin n e e2 q2 _ 2 (by rw[hec,hec2];rfl) he he2 (by omega) (by omega)
end
section
variable (G:aK)
theorem Ug{h:List AO}{kids:List Ex}{id:Nat}(he:h[id+1]?=some (bQ 4 (exR kids))):OV h kids (slE (id+1) 4 (exR kids)):=by
 by_cases hk:kids=[]
 ·subst hk;exact .inl ⟨rfl,rfl⟩
 ·have hr:exR kids≠[]:=λh=>hk (List.map_eq_nil_iff.1 h)
  rw[fg hr] at he
  rw[dE hr]
  have hrl:(exR kids).length=kids.length:=by simp[exR]
  rw[hrl]
  exact .inr ⟨id,exR kids,List.replicate h.length .dead,rfl,hk,he,by simp,λi o e l=>(by rw[List.getElem?_replicate] at e;split at e<;>cases e;exact l.elim),λ⟨o,e,l⟩=>(by rw[List.getElem?_replicate] at e;split at e<;>cases e;exact l.elim),λ⟨o,e,l⟩=>(by rw[List.getElem?_replicate] at e;split at e<;>cases e;exact l.elim),by simp[exR],λj e e1 h1 h2=>(by rw[h1] at h2;cases h2;exact iE (aT (WH _) _ (dY _ e (Wm h1))))⟩
theorem QV(l:List Ex)(n:Nat):okO n (bQ 4 (exR l)):=ew (MC (dY l))
theorem Lg{hF:List AO}{n id:Nat}{e:Ex}(he:hF[id]?=some (bQ 4 (exR e.kids))):Fzs hF n [.p (.int .i64 e.op),.p (.int .i64 e.n),.p (.str e.name),slE id 4 (exR e.kids)] (e.cs.map .p):=by
 rw[e.cs_eq]
 exact .keep (by simp) (.keep (by simp) (.keep (by simp) (.one (iK he) .nil)))
structure KdS where (k:Nat) (es:List Ex) (q:Nat)
theorem Et{b:List Int}(hb:Byt b)(hl:b.length<=2000){d:Nat}(hd:d+1<=7){p:Nat}(hp:p+20000<=1000000000000):AC Tryz.prog G iB [.ptr 0 2 0 0,.p (.int .i64 ((d+1:Nat):Int))] [rdO b p] (EN b (EoQ p 30000 20000)):=by
 refine EZ G (AC.go Dz ?_)
 have h3:3^(d+1)<=2187:=by
  have:3^(d+1)<=3^7:=Nat.pow_le_pow_right (by omega) hd
  omega
 have fin:∀(e:Ex) (q:Nat) (rest:List AO) (K:AV),OV (rdO b q::rest) e.kids K->e.sz<=30000->p<=q->q<=p+20000->DT b (EoQ p 30000 20000) (.ret (.agg [.p (.int .i64 e.op),.p (.int .i64 e.n),.p (.str e.name),K])) (rdO b q::rest):=λe q rest K hk h1 h2 h3=>
  ⟨e,q,rest,K,rfl,rfl,hk,h1,h2,h3⟩
 have hn4:uB [[97],[98],[120],[103,111]]:=⟨by simp,by simp⟩
 have hn2:uB [[97],[98]]:=⟨by simp,by simp⟩
 simp-implicitDefEqProofs[tU]
 refine(AC.give (hX:=[.dead,.dead,fX [[97],[98],[120],[103,111]]]) (hR:=[rdO b p,.row 4 [[.p (.int .i64 0),.p (.int .i64 0),.p (.str []),.nils]],.dead]) (pargs:=[.ptr 0 2 0 0,.p (aL [[97],[98],[120],[103,111]]),.p (.int .i64 ((d+1:Nat):Int))]) (.keep _ (.keep _ (.give _ .nil))) (.keep (by simp[below]) (.one (jk (l:=[[97],[98],[120],[103,111]]) rfl) (.keep (by simp) .nil))) (zU G (KC G hb hl _ hn4 d (by omega) (by omega)) _ (by simp[below]))).mono ?_
 rintro r h ⟨e0,q,rfl,rfl,he0,h1,h2⟩
 simp-implicitDefEqProofs[aa]
 refine(bc G b hb hl q (by omega) 3 _).mono ?_
 rintro r h ⟨k1,rfl,rfl,_⟩
 simp-implicitDefEqProofs[aa]
 refine aO (λhc=>?_) (λhc=>?_)
 ·simp-implicitDefEqProofs[]
  exact fin e0 _ _ _ (Ug rfl) (by omega) (by omega) (by omega)
 simp-implicitDefEqProofs[]
 refine(Ge G hb hl (p:=q+1) (by omega) [[102],[103],[97]] (k:=5) (by simp) (by simp) (by omega) rfl rfl).mono ?_
 rintro r h ⟨s,hs,rfl,rfl⟩
 have hsl:s.length<=8:=by simp at hs;rcases hs with rfl|rfl|rfl<;>simp
 simp-implicitDefEqProofs[aa]
 refine(bc G b hb hl (q+1+1) (by omega) 4 _).mono ?_
 rintro r h ⟨k2,rfl,rfl,hk2⟩
 simp-implicitDefEqProofs[aa]
 have hexn:∀(es:List Ex) (e:Ex),exR (es++[e])=exR es++[e.cs.map .p]:=λes e=>by simp[exR]
 refine aN (λs:KdS=>az 42 [(7,.p (.int .i64 s.k)),(6,.ptr 6 4 0 0),(5,.ptr 4 4 0 0),(4,.ptr 1 4 0 0),(0,.ptr 0 2 0 0)])
  (λa=>[rdO b a.q,.row 4 [[.p (.int .i64 0),.p (.int .i64 0),.p (.str []),.nils]],.dead,bQ 4 (exR e0.kids),.row 4 [[.p (.int .i64 e0.op),.p (.int .i64 e0.n),.p (.str e0.name),slE 3 4 (exR e0.kids)]],.row 1 [[.p (.str [102])],[.p (.str [103])],[.p (.str [97])]],
    .row 4 [[.p (.int .i64 13),.p (.int .i64 0),.p (.str s),slE 7 4 (exR a.es)]],bQ 4 (exR a.es)])
  (λa=>a.k+a.es.length<=3/\aM a.es<=90*a.es.length/\q<=a.q/\a.q<=q+3+54*a.es.length) (λa=>a.k) ⟨k2,[],q+1+1+1⟩ ⟨by simp only[WP];omega,by simp[aM],by simp only;omega,by simp⟩
  (pt (by simp) (by simp) (by
    intro o h
    simp only[Wd,WV,or_false] at h
    rcases h with rfl|rfl|rfl|rfl|rfl|rfl|rfl
    ·exact bt _ _ _
    ·simp[okO,below]
    ·simp[okO]
    ·exact QV _ _
    ·simp[okO,below]
    ·simp[okO,below]
    ·simp[okO,below]) (by simp[below])) ?_
 rintro⟨k,es,q1⟩ ⟨i1,i2,i3,i4⟩
 simp only at i1 i2 i3 i4
 have hxl:(exR es).length=es.length:=by simp[exR]
 simp-implicitDefEqProofs[]
 refine aO (λhc=>?_) (λhc=>?_)
 ·simp at hc
  simp-implicitDefEqProofs[]
  have hE:=ka G (AF G hb hl _ hn2 2 (by omega) (p:=q1) (by omega)) ([.row 4 [[.p (.int .i64 0),.p (.int .i64 0),.p (.str []),.nils]],.dead,bQ 4 (exR e0.kids),.row 4 [[.p (.int .i64 e0.op),.p (.int .i64 e0.n),.p (.str e0.name),slE 3 4 (exR e0.kids)]],.row 1 [[.p (.str [102])],[.p (.str [103])],[.p (.str [97])]],
   .row 4 [[.p (.int .i64 13),.p (.int .i64 0),.p (.str s),slE 7 4 (exR es)]],bQ 4 (exR es)]) (by simp[below])
  refine hE.mono ?_
  rintro r h ⟨v,q2,rfl,rfl,⟨e,rfl,he⟩,hq1,hq2⟩
  have hec':=e.cs_eq
  simp-implicitDefEqProofs[aa,hec']
  refine⟨by rw[hxl];omega,⟨k-1,es++[e],q2⟩,⟨by simp;omega,by rw[bH];simp[aM];omega,by simp only;omega,by simp;omega⟩,by simp;omega,?_⟩
  have hwk:IntKind.i64.wrap ((k:Int)-1)=((k-1:Nat):Int):=by rw[ab (by omega) (by omega)];omega
  rw[hexn,Ej _ (by simp),Ai _ (by simp),hec']
  refine fb [0,1,2,3,4,5,6,8] (by simp) (by decide) (by decide) (dA rfl (bt _ _ _) (cS (by simp[below]) (by simp[ren,bq]) (eB (by simp) (Pz rfl (dY _) (cS (by simp[below]) (by simp[ren,bq]) (bu rfl (by simp[below]) (cS (by simp[below]) (by simp[ren,bq]) (bu rfl (λx hx=>by
   rcases Wf.1 hx with h|h
   ·exact dY _ x h
   ·rw[Wh.1 h];simp) da)))))))) ?_
  simp[below,ren,hwk]
 ·simp at hc
  simp-implicitDefEqProofs[]
  refine(bc G b hb hl q1 (by omega) 2 _).mono ?_
  rintro r h ⟨k3,rfl,rfl,_⟩
  simp-implicitDefEqProofs[aa]
  refine aO (λhc2=>?_) (λhc2=>?_)
  ·simp-implicitDefEqProofs[]
   exact fin ⟨13,0,s,es⟩ (q1+1) _ _ (Ug rfl) (by simp[Ex.sz];omega) (by omega) (by omega)
  ·simp-implicitDefEqProofs[]
   have hv:∀hF:List AO,hF[3]?=some (bQ 4 (exR e0.kids))->hF[7]?=some (bQ 4 (exR es))->∀(n j:Nat) (x x1:List AV),[[AV.p (.int .i64 e0.op),.p (.int .i64 e0.n),.p (.str e0.name),slE 3 4 (exR e0.kids)],[.p (.int .i64 13),.p (.int .i64 0),.p (.str s),slE 7 4 (exR es)]][j]?=some x->(exR [e0,⟨13,0,s,es⟩])[j]?=some x1->Fzs hF n x x1:=by
    intro hF h3 h7 n j x x1 a1 a2
    match j,a1,a2 with
    |0,a1,a2=>cases a1;cases a2;exact Lg h3
    |1,a1,a2=>cases a1;cases a2;exact Lg (e:=⟨13,0,s,es⟩) h7
    |j+2,a1,a2=>simp at a1
   refine fin ⟨3,0,[],[e0,⟨13,0,s,es⟩]⟩ (q1+1) _ _ (.inr ⟨7,_,[.dead,.dead,.dead,bQ 4 (exR e0.kids),.dead,.dead,.dead,bQ 4 (exR es),.dead],rfl,by simp[Ex.kids],rfl,rfl,λi o e l=>?_,λ⟨o,e,l⟩=>?_,λ⟨o,e,l⟩=>?_,rfl,hv _ rfl rfl _⟩) (by simp[Ex.sz,aM];omega) (by omega) (by omega)
   ·match i,e with
    |0,e=>cases e;exact l.elim
    |1,e=>cases e;exact l.elim
    |2,e=>cases e;exact l.elim
    |3,e=>exact e
    |4,e=>cases e;exact l.elim
    |5,e=>cases e;exact l.elim
    |6,e=>cases e;exact l.elim
    |7,e=>exact e
    |8,e=>cases e;exact l.elim
    |i+9,e=>simp at e
   ·cases e;exact l
   ·cases e;exact l
theorem Ly{b:List Int}(hb:Byt b)(hl:b.length<=2000){p:Nat}(hp:p+50000<=1000000000000):AC Tryz.prog G mS [.ptr 0 2 0 0] [rdO b p] λx h=>∃v q,x= .ret v/\h=[rdO b q]/\ExQ p 60000 50000 v q:=by
 refine nQ G (AC.go Cy ?_)
 have fin:∀(e:Ex) (q:Nat) (rest:List AO) (v:AV),Fzs (.dead::rest) 1 [v] [.agg (e.cs.map .p)]->e.sz<=60000->p<=q->q<=p+50000->DP b (ExQ p 60000 50000) (.ret v) (rdO b q::rest):=λe q rest v hz h1 h2 h3=>
  ⟨_,rest,q,.agg (e.cs.map .p),rfl,rfl,hz,⟨e,rfl,h1⟩,h2,h3⟩
 simp-implicitDefEqProofs[sf]
 refine(zU G (Et G hb hl (d:=3) (by omega) (by omega)) _ (by simp[below])).mono ?_
 rintro r h ⟨e0,q,rfl,rfl,he0,h1,h2⟩
 have hsz:=e0.sz_eq
 have hkl:=bK e0.kids
 have hrl:(exR e0.kids).length=e0.kids.length:=by simp[exR]
 simp-implicitDefEqProofs[aa]
 refine(bc G b hb hl q (by omega) 20 _).mono ?_
 rintro r h ⟨k1,rfl,rfl,_⟩
 by_cases k10:k1=0
 ·subst k10
  simp-implicitDefEqProofs[aa]
  refine(mf G hb hl (p:=q+1) (by omega) [-1,256,3] (k:=4) (by simp) (by simp) (by omega) rfl rfl).mono ?_
  rintro r h ⟨n,_,rfl,rfl⟩
  simp-implicitDefEqProofs[aa]
  exact fin ⟨e0.op,n,e0.name,e0.kids⟩ _ _ _ (Dq (iK rfl)) (by simp[Ex.sz];omega) (by omega) (by omega)
 by_cases k11:k1=1
 ·subst k11
  simp-implicitDefEqProofs[aa]
  refine(Ge G hb hl (p:=q+1) (by omega) [[],[100,111],[65],[97,98,99,100,101],[113]] (k:=4) (by simp) (by simp) (by omega) rfl rfl).mono ?_
  rintro r h ⟨s,hs,rfl,rfl⟩
  have hsl:s.length<=8:=by simp at hs;rcases hs with rfl|rfl|rfl|rfl|rfl<;>simp
  simp-implicitDefEqProofs[aa]
  exact fin ⟨e0.op,e0.n,s,e0.kids⟩ _ _ _ (Dq (iK rfl)) (by simp[Ex.sz];omega) (by omega) (by omega)
 by_cases k12:k1=2
 ·subst k12
  simp-implicitDefEqProofs[aa]
  refine(mf G hb hl (p:=q+1) (by omega) [0,14,-1,5,11] (k:=4) (by simp) (by simp) (by omega) rfl rfl).mono ?_
  rintro r h ⟨n,_,rfl,rfl⟩
  simp-implicitDefEqProofs[aa]
  exact fin ⟨n,e0.n,e0.name,e0.kids⟩ _ _ _ (Dq (iK rfl)) (by simp[Ex.sz];omega) (by omega) (by omega)
 by_cases k13:k1=3
 ·subst k13
  simp-implicitDefEqProofs[aa]
  refine(AC.give (pargs:=[.ptr 0 2 0 0,.p (aL [])]) (Spl.rest _) (.keep (by simp[below]) (.one (View.nils 1) .nil)) (ka G (AH G hb hl (p:=q+1) (by omega) [] ⟨by simp,by simp⟩) _ (by simp[below]))).mono ?_
  rintro r h ⟨v,q2,rfl,rfl,⟨e1,rfl,he1⟩,h3,h4⟩
  have hec1:=e1.cs_eq
  have hx:exR (e0.kids++[e1])=exR e0.kids++[[.p (.int .i64 e1.op),.p (.int .i64 e1.n),.p (.str e1.name),.p (exL e1.kids)]]:=by simp[exR,hec1]
  have hne:exR (e0.kids++[e1])≠[]:=by simp[exR]
  simp-implicitDefEqProofs[aa,hec1]
  refine⟨by omega,?_⟩
  rw[←hx]
  have hl2:(exR e0.kids).length+1=(exR (e0.kids++[e1])).length:=by simp[exR]
  have hv:∀h:List AO,h[4]?=some (.row 4 (exR (e0.kids++[e1])))->View h (.sl 4 4 0 ((exR e0.kids).length+1)) (exL (e0.kids++[e1])):=λh e=>by
   have:=iK (h:=h) (id:=4) (l:=e0.kids++[e1]) (by rw[fg hne];exact e)
   rwa[dE hne,←hl2] at this
  exact fin ⟨e0.op,e0.n,e0.name,e0.kids++[e1]⟩ q2 _ _ (Dq (hv _ rfl)) (by simp[Ex.sz,bH,aM];omega) (by omega) (by omega)
 by_cases k14:k1=4
 ·subst k14
  simp-implicitDefEqProofs[aa]
  refine(zU G (Et G hb hl (d:=6) (by omega) (by omega)) _ (by simp[below])).mono ?_
  rintro r h ⟨e1,q2,rfl,rfl,he1,h3,h4⟩
  simp-implicitDefEqProofs[aa]
  have hs1:=e1.sz_eq
  exact fin ⟨e1.op,e1.n,e1.name,e1.kids⟩ _ _ _ (Dq (iK rfl)) (by simp[Ex.sz];omega) (by omega) (by omega)
 have c1:¬(k1:Int)=1:=by omega
 have c2:¬(k1:Int)=2:=by omega
 have c3:¬(k1:Int)=3:=by omega
 have c4:¬(k1:Int)=4:=by omega
 simp-implicitDefEqProofs[aa,k10,c1,c2,c3,c4]
 exact fin ⟨e0.op,e0.n,e0.name,e0.kids⟩ _ _ _ (Dq (iK rfl)) (by simp[Ex.sz];omega) (by omega) (by omega)
end
section
variable (G:aK)
def PgQ(p n m:Nat)(v:AV)(q:Nat):Prop:=(∃l:List Fd,v= .agg [.p (fdL l)]/\aW l<=n)/\p<=q/\q<=p+m
theorem Dk{h:List AO}{id sz:Nat}{rows:List (List AV)}{es:List (List PV)}(he:h[id]?=some (.row sz rows))(hl:rows.length=es.length)(hs:∀e∈es,e.length=sz)(hv:∀(i j:Nat) (e:List PV) (q:PV) (e':List AV) (a:AV),es[i]?=some e->e[j]?=some q->rows[i]?=some e'->e'[j]?=some a->View h a q){n:Nat}(hn:n=es.length):View h (.sl id sz 0 n) (.lst sz es):=by
 subst hn
 exact .sl id sz 0 rows es he (by omega) hs λi j e q e' a a1 a2 a3 a4=>hv i j e q e' a a1 a2 (by rwa[WT] at a3) a4
theorem sW{h:List AO}{e:List PV}{j:Nat}{q:PV}{a:AV}(h1:e[j]?=some q)(h2:(e.map AV.p)[j]?=some a):View h a q:=by
 rw[Wt,h1] at h2;cases h2;exact .p _
theorem KO{h:List AO}{id k:Nat}{l:List Fd}{f:Fd}{P B:AV}(he:h[id]?=some (.row 3 ((be l).set k [.p (.str f.name),P,B])))(hk:k<l.length)(hP:View h P (aL f.params))(hB:View h B (smL f.body)){n:Nat}(hn:n=l.length):View h (.sl id 3 0 n) (fdL (l.set k f)):=by
 refine Dk (es:=(l.set k f).map Fd.cs) he (by simp[be]) (λe he=>by obtain⟨x,_,rfl⟩:=WC.1 he;simp) (λi j e q e' a a1 a2 a3 a4=>?_) (by simpa using hn)
 rw[Wt] at a1
 by_cases hik:k=i
 ·subst hik
  rw[Wi hk] at a1
  rw[Wi (by simpa[be] using hk)] at a3
  cases a1;cases a3
  exact Az (s:=f.name) (ps:=f.params) (bd:=f.body) hP hB j q a a2 a4
 ·rw[Wc hik] at a1 a3
  obtain⟨g,g1,g2⟩:=Wb.1 a1
  subst g2
  rw[be,Wt,g1] at a3
  cases a3
  exact sW a2 a4
theorem JT{h:List AO}{id:Nat}{l:List (List UInt8)}{s:List UInt8}(he:h[id]?=some (.row 1 (List.take l.length (l.map λw=>[AV.p (.str w)])++[[.p (.str s)]]))):View h (.sl id 1 0 (l.length+1)) (aL (l++[s])):=by
 have e:h[id]?=some (fX (l++[s])):=by rw[he,Wg (by simp)];simp[fX]
 have:=jk e
 rwa[Wq,List.length_singleton] at this
theorem uq{h:List AO}{id:Nat}{l:List Sm}{s:Sm}{r:List AV}(he:h[id]?=some (.row 5 (List.take l.length (smR l)++[r])))(hr:∀(j:Nat) (q:PV) (a:AV),s.cs[j]?=some q->r[j]?=some a->View h a q):View h (.sl id 5 0 (l.length+1)) (smL (l++[s])):=by
 have hl:=gt l
 refine Dk (es:=(l++[s]).map Sm.cs) he (by simp[hl]) (λe he=>by obtain⟨x,_,rfl⟩:=WC.1 he;simp) (λi j e q e' a a1 a2 a3 a4=>?_) (by simp)
 rw[Wg (by omega)] at a3
 rw[List.map_append] at a1
 rcases WM i l.length with hi|hi
 ·rw[VY (by simpa using hi)] at a1
  rw[VY (by omega)] at a3
  rw[Wt] at a1
  obtain⟨g,g1,g2⟩:=Wb.1 a1
  subst g2
  rw[smR,Wt,g1] at a3
  cases a3
  exact sW a2 a4
 ·rw[We (by simpa using hi)] at a1
  rw[We (by omega),hl] at a3
  simp only[WD] at a1
  generalize i-l.length=k at a1 a3
  cases k with
  |zero=>cases a1;cases a3;exact hr j q a a2 a4
  |succ k=>simp at a1
theorem Og{h:List AO}{id:Nat}{l:List Fd}{f:Fd}(he:h[id]?=some (.row 3 (List.take l.length (be l)++[f.cs.map .p]))):View h (.sl id 3 0 (l.length+1)) (fdL (l++[f])):=by
 have hl:=AE l
 have:=vf (h:=h) (id:=id) (l:=l++[f]) (by rw[he,Wg (by omega)];simp[be])
 rwa[Wq,List.length_singleton] at this
theorem Gi(l:List Fd)(k:Nat)(f:Fd):aW (l.set k f)<=aW l+f.sz:=by
 by_cases hk:k<l.length
 ·rw[gb f hk]
  have e:l=l.take k++l.drop k:=(WI _ _).symm
  have e2:l.drop k=l[k]::l.drop (k+1):=List.drop_eq_getElem_cons hk
  have h1:aW l=aW (l.take k)+aW (l.drop k):=by rw[←kV,←e]
  rw[kV]
  have h3:aW (f::l.drop (k+1))=f.sz+aW (l.drop (k+1)):=by simp[aW]
  have h4:aW (l.drop k)=l[k].sz+aW (l.drop (k+1)):=by rw[e2];unfold aW;rw[Wz,List.sum_cons]
  omega
 ·rw[List.set_eq_of_length_le (by omega)];omega
theorem Ds{l:List Fd}{f:Fd}(h:f∈l):f.sz<=aW l:=by
 induction l with
 |nil=>cases h
 |cons x r ih=>
  have e:aW (x::r)=x.sz+aW r:=by simp[aW]
  rcases Wd.1 h with rfl|h
  ·omega
  ·have:=ih h;omega
theorem Cv:AK.whole mI=FK.ak mD:=rfl
structure NsS where (i:Nat) (o:Int) (w:List UInt8) (A B C:PV) (q:Nat)
structure BdS where (i:Nat) (bd:List Sm)
structure CfS where (f:Fd) (q:Nat)
theorem Nk{b:List Int}(hb:Byt b)(hl:b.length<=2000){p:Nat}(hp:p<=10000000000):AC Tryz.prog G mF [.ptr 0 2 0 0] [rdO b p] λx h=>∃v q,x= .ret v/\h=[rdO b q]/\PgQ p 500000000 200200000 v q:=by
 refine nQ G (AC.goK Cs Cv ?_)
 have hprog:AC Tryz.prog G ed [.ptr 0 2 0 0] [rdO b p] λx h=>∃v q,x= .ret v/\h=[rdO b q]/\((∃l:List Fd,v= .agg [.p (fdL l)]/\bn l=true/\aW l<=200000000)/\p<=q/\q<=p+200000000):=
  (MO G hb hl hp).mono λx h ⟨l,q,e1,e2,e3,e4,e5,e6⟩=>⟨_,q,e1,e2,⟨l,rfl,e3,e4⟩,e5,e6⟩
 simp-implicitDefEqProofs[mI,mD]
 refine(ka G hprog _ (by simp[below])).mono ?_
 rintro r h ⟨v,q,rfl,rfl,⟨l,rfl,hok,hz⟩,h1,h2⟩
 have hlen:=((dM l).1 hok).1
 obtain⟨n,hn⟩:∃n,l.length=n+1:=⟨l.length-1,by omega⟩
 have hnl:n<l.length:=by omega
 have hfz:=Ds (Wo hnl)
 obtain⟨f,hfe⟩:∃f,l[n]=f:=⟨_,rfl⟩
 rw[hfe] at hfz
 have hg:l[n]?=some f:=by rw[Wa hnl,hfe]
 have fin:∀(r1:List (Nat × AV)) (f':Fd) (q':Nat) (rest:List AO) (P B:AV),Aw.look r1 0= .ptr 0 2 0 0->Aw.look r1 2= .ptr 1 1 0 0->Aw.look r1 3= .ptr 2 1 0 0->Aw.look r1 4= .ptr 3 3 0 0->View (.dead:: .dead:: .dead:: .dead::rest) P (aL f'.params)->View (.dead:: .dead:: .dead:: .dead::rest) B (smL f'.body)->f'.sz<=300000000->q<=q'->q'<=q+100000->
  ∃s:CfS,(s.f.sz<=300000000/\q<=s.q/\s.q<=q+100000)/\Wk 1 (az 145 r1) (rdO b q':: .row 1 [[.nils]]:: .row 1 [[.p (.lst 3 (l.map Fd.cs))]]:: .row 3 [[.p (.str f'.name),P,B]]::rest) (az 145 [(4,.ptr 3 3 0 0),(3,.ptr 2 1 0 0),(2,.ptr 1 1 0 0),(0,.ptr 0 2 0 0)])
   [rdO b s.q,.row 1 [[.nils]],.row 1 [[.p (.lst 3 (l.map Fd.cs))]],.row 3 [[.p (.str s.f.name),.p (aL s.f.params),.p (smL s.f.body)]]]:=λr1 f' q' rest P B e0 e2 e3 e4 hP hB hz' h3 h4=>
  ⟨⟨f',q'⟩,⟨hz',h3,h4⟩,ou 4 (by omega) (by simp) rfl (.same (bt _ _ _) (.same (by simp[okO,below]) (.same (by simp[okO,below]) (.one (.keep (by simp[below]) (.one hP (.one hB .nil))) (.nil _))))) (by
    simp only[FzA,e0,e2,e3,e4]
    exact⟨.keep (by simp[below]) .nil,.keep (by simp[below]) .nil,.keep (by simp[below]) .nil,.keep (by simp[below]) .nil,trivial⟩)⟩
 have hfsz:f.sz=1+f.name.length+(f.params.length+(f.params.map List.length).sum)+aD f.body:=rfl
 have hln:l.length<=4:=hlen.2
 have hbl:=bM f.body
 have hcs:f.cs=[.str f.name,aL f.params,smL f.body]:=rfl
 have hfl:fdL l= .lst 3 (l.map Fd.cs):=rfl
 have hw:IntKind.i64.wrap ((l.length:Int)-1)=(n:Int):=by rw[ab (by omega) (by omega)];omega
 have hsl:aL f.params= .lst 1 (f.params.map λw=>[.str w]):=rfl
 have hml:smL f.body= .lst 5 (f.body.map Sm.cs):=rfl
 simp-implicitDefEqProofs[aa,hfl,hw,hg,hcs]
 refine lT (λ_:CfS=>az 145 [(4,.ptr 3 3 0 0),(3,.ptr 2 1 0 0),(2,.ptr 1 1 0 0),(0,.ptr 0 2 0 0)]) (λs=>[rdO b s.q,.row 1 [[.nils]],.row 1 [[.p (.lst 3 (l.map Fd.cs))]],.row 3 [[.p (.str s.f.name),.p (aL s.f.params),.p (smL s.f.body)]]])
  (λs=>s.f.sz<=300000000/\q<=s.q/\s.q<=q+100000) ?_ ?_
 rotate_left
 ·rintro⟨f',q'⟩ ⟨h3,h4,h5⟩
  simp only at h3 h4 h5
  simp-implicitDefEqProofs[hw,hnl,hfe,hcs]
  exact⟨⟨by omega,by omega⟩,_,_,q',.agg [.p (fdL (l.set n f'))],rfl,rfl,.agg (.one (KO (f:=f') rfl hnl (.p _) (.p _) rfl) .nil) .nil,⟨_,rfl,by have:=Gi l n f';omega⟩,by omega,by omega⟩
 simp-implicitDefEqProofs[]
 refine(bc G b hb hl q (by omega) 32 _).mono ?_
 rintro r h ⟨k,rfl,rfl,_⟩
 by_cases k0:k=0
 ·subst k0
  simp-implicitDefEqProofs[aa]
  refine(Ge G hb hl (p:=q+1) (by omega) [[102],[100,111],[],[103]] (k:=4) (by simp) (by simp) (by omega) rfl rfl).mono ?_
  rintro r h ⟨s,hs,rfl,rfl⟩
  have hs8:s.length<=8:=by simp at hs;rcases hs with rfl|rfl|rfl|rfl<;>simp
  simp-implicitDefEqProofs[aa]
  exact fin _ ⟨s,f.params,f.body⟩ _ _ _ _ (by simp) (by simp) (by simp) (by simp) (.p _) (.p _) (by simp only[Fd.sz];omega) (by omega) (by omega)
 by_cases k1:k=1
 ·subst k1
  simp-implicitDefEqProofs[aa,hsl]
  refine⟨⟨by omega,by omega⟩,?_⟩
  refine(Ge G hb hl (p:=q+1) (by omega) [[97],[120],[105,102]] (k:=6) (by simp) (by simp) (by omega) rfl rfl).mono ?_
  rintro r h ⟨s,hs,rfl,rfl⟩
  have hs8:s.length<=8:=by simp at hs;rcases hs with rfl|rfl|rfl<;>simp
  simp-implicitDefEqProofs[aa]
  refine⟨⟨by omega,by omega⟩,?_⟩
  exact fin _ ⟨f.name,f.params++[s],f.body⟩ _ _ _ _ (by simp) (by simp) (by simp) (by simp) (JT rfl) (.p _) (by simp[Fd.sz];omega) (by omega) (by omega)
 by_cases k2:k=2
 ·subst k2
  simp-implicitDefEqProofs[aa,hml]
  refine⟨⟨by omega,by omega⟩,?_⟩
  refine(ka G (Ly G hb hl (p:=q+1) (by omega)) _ (by simp[below])).mono ?_
  rintro r h ⟨v,q2,rfl,rfl,⟨e,rfl,he⟩,h3,h4⟩
  have hec:=e.cs_eq
  simp-implicitDefEqProofs[aa,hec]
  refine⟨⟨by omega,by omega⟩,?_⟩
  exact fin _ ⟨f.name,f.params,f.body++[⟨3,[],[e],[],[]⟩]⟩ _ _ _ _ (by simp) (by simp) (by simp) (by simp) (.p _) (uq rfl (ce (dW (l:=[e]) (by rw[List.map_singleton,hec];rfl)) (View.nils 5) (View.nils 5))) (by simp[Fd.sz,aV,aD,Sm.sz,aM];omega) (by omega) (by omega)
 by_cases k3:k=3
 ·subst k3
  simp-implicitDefEqProofs[aa,hml]
  refine⟨⟨by omega,by omega⟩,?_⟩
  refine(bc G b hb hl (q+1) (by omega) 10 _).mono ?_
  rintro r h ⟨o,rfl,rfl,_⟩
  simp-implicitDefEqProofs[aa]
  refine(Ge G hb hl (p:=q+1+1) (by omega) [[],[97],[122,122]] (k:=6) (by simp) (by simp) (by omega) rfl rfl).mono ?_
  rintro r h ⟨s,hs,rfl,rfl⟩
  have hs8:s.length<=8:=by simp at hs;rcases hs with rfl|rfl|rfl<;>simp
  simp-implicitDefEqProofs[aa]
  refine(zU G (Et G hb hl (d:=1) (by omega) (p:=q+1+1+1) (by omega)) _ (by simp[below])).mono ?_
  rintro r h ⟨e,q2,rfl,rfl,he,h3,h4⟩
  simp-implicitDefEqProofs[aa]
  refine⟨⟨by omega,by omega⟩,?_⟩
  obtain⟨eo,en,es,ek⟩:=e
  exact fin _ ⟨f.name,f.params,f.body++[⟨o,s,[⟨eo,en,es,ek⟩],[],[]⟩]⟩ _ _ _ _ (by simp) (by simp) (by simp) (by simp) (.p _) (uq rfl (ce (bB (p0:=(Ex.mk eo en es ek).cs) rfl (Ex.cs_len _) (ig (iK rfl))) (View.nils 5) (View.nils 5))) (by simp[Fd.sz,aV,aD,Sm.sz,aM];omega) (by omega) (by omega)
 by_cases k5:k=5
 ·subst k5
  simp-implicitDefEqProofs[aa]
  exact⟨_,_,q+1,.agg [.p (fdL [])],rfl,rfl,.agg (.one (View.nils 3) .nil) .nil,⟨[],rfl,by simp[aW]⟩,by omega,by omega⟩
 by_cases k7:k=7
 ·subst k7
  simp-implicitDefEqProofs[aa,hfl]
  have hl0:0<l.length:=by omega
  have hf0:=Ds (Wo hl0)
  obtain⟨f0,hg0,hf0⟩:∃f0,l[0]?=some f0/\f0.sz<=aW l:=⟨_,Wa hl0,hf0⟩
  have hc0:f0.cs=[.str f0.name,aL f0.params,smL f0.body]:=rfl
  have hfa:aW (l++[f0])=aW l+f0.sz:=by rw[kV];simp[aW]
  simp-implicitDefEqProofs[hg0,hc0]
  exact⟨⟨by omega,by omega⟩,⟨by omega,by omega⟩,_,_,q+1,.agg [.p (fdL (l++[f0]))],rfl,rfl,.agg (.one (Og rfl) .nil) .nil,⟨_,rfl,by omega⟩,by omega,by omega⟩
 by_cases k4:k=4
 ·subst k4
  simp-implicitDefEqProofs[aa]
  refine lT (λ_:NsS=>az 145 [(5,.ptr 5 5 0 0),(4,.ptr 3 3 0 0),(3,.ptr 2 1 0 0),(2,.ptr 1 1 0 0),(0,.ptr 0 2 0 0)])
   (λa=>[rdO b a.q,.row 1 [[.nils]],.row 1 [[.p (.lst 3 (l.map Fd.cs))]],.row 3 [[.p (.str f.name),.p (aL f.params),.p (smL f.body)]],.dead,.row 5 [[.p (.int .i64 a.o),.p (.str a.w),.p a.A,.p a.B,.p a.C]]])
   (λa=>(∃s:Sm,s.cs=[.int .i64 a.o,.str a.w,a.A,a.B,a.C]/\aM s.args<=1/\s.sz+2*a.i<=20)/\q+2<=a.q/\a.q+a.i<=q+10) ?_ ?_
  rotate_left
  ·rintro⟨i,o,w,A,B,C,q1⟩ ⟨⟨s,hse,j1,j2⟩,j3,j4⟩
   simp only at hse j1 j2 j3 j4
   have hss:∀(h:List AO) (id:Nat),h[id]?=some (.row 5 (List.take f.body.length (smR f.body)++[[.p (.int .i64 o),.p (.str w),.p A,.p B,.p C]]))->View h (.sl id 5 0 (f.body.length+1)) (smL (f.body++[s])):=λh id e=>uq e (λj q a a1 a2=>sW (e:=[.int .i64 o,.str w,A,B,C]) (hse▸a1) a2)
   simp-implicitDefEqProofs[hml]
   refine⟨⟨by omega,by omega⟩,⟨by omega,by omega⟩,?_⟩
   exact fin _ ⟨f.name,f.params,f.body++[s]⟩ _ _ _ _ (by simp) (by simp) (by simp) (by simp) (.p _) (hss _ _ rfl) (by simp[Fd.sz,aV,aD];omega) (by omega) (by omega)
  simp-implicitDefEqProofs[]
  refine(bc G b hb hl (q+1) (by omega) 5 _).mono ?_
  rintro r h ⟨i0,rfl,rfl,hi0⟩
  simp-implicitDefEqProofs[aa]
  have hs0:(Sm.mk 6 [] [⟨1,0,[],[]⟩] [] []).cs=[.int .i64 6,.str [],exL [⟨1,0,[],[]⟩],smL [],smL []]:=Sm.cs_eq _
  refine aN (λa:NsS=>az 145 [(6,.p (.int .i64 a.i)),(5,.ptr 5 5 0 0),(4,.ptr 3 3 0 0),(3,.ptr 2 1 0 0),(2,.ptr 1 1 0 0),(0,.ptr 0 2 0 0)])
   (λa=>[rdO b a.q,.row 1 [[.nils]],.row 1 [[.p (.lst 3 (l.map Fd.cs))]],.row 3 [[.p (.str f.name),.p (aL f.params),.p (smL f.body)]],.dead,.row 5 [[.p (.int .i64 a.o),.p (.str a.w),.p a.A,.p a.B,.p a.C]]])
   (λa=>(∃s:Sm,s.cs=[.int .i64 a.o,.str a.w,a.A,a.B,a.C]/\aM s.args<=1/\s.sz+2*a.i<=20)/\q+2<=a.q/\a.q+a.i<=q+10) (λa=>a.i) ⟨i0,6,[],exL [⟨1,0,[],[]⟩],smL [],smL [],q+1+1⟩ ⟨⟨_,hs0,by simp[Sm.args,aM,Ex.sz],by simp[Sm.sz,aM,Ex.sz,aD];omega⟩,by simp only;omega,by simp only;omega⟩ ?_ ?_
  ·refine EL (hX:=[.dead,.dead,.dead,.dead,.row 4 [[.p (.int .i64 1),.p (.int .i64 0),.p (.str []),.nils]],.dead]) (by simp)
    (.same (bt _ _ _) (.same (by simp[okO,below]) (.same (by simp[okO,below]) (.same (by simp[okO,below]) (.give (.one ?_ .nil)))))) ?_
   ·exact .keep (by simp[below]) (.keep (by simp[below]) (.one (bB (p0:=(Ex.mk 1 0 [] []).cs) rfl (Ex.cs_len _) (ig (View.nils 4))) (.one (View.nils 5) (.one (View.nils 5) .nil))))
   ·exact⟨.keep (by simp[below]) .nil,.keep (by simp[below]) .nil,.keep (by simp[below]) .nil,.keep (by simp[below]) .nil,.keep (by simp[below]) .nil,.keep (by simp[below]) .nil,trivial⟩
  rintro⟨i,o,w,A,B,C,q1⟩ ⟨⟨s,hse,j1,j2⟩,j3,j4⟩
  simp only at hse j1 j2 j3 j4
  have hcs1:∀n:Int,(Sm.mk n [] s.args [s] []).cs=[.int .i64 n,.str [],A,.lst 5 [[.int .i64 o,.str w,A,B,C]],.lst 5 []]:=λn=>by
   have hsa:=s.cs_eq
   rw[hse] at hsa
   simp only[List.cons.injEq] at hsa
   rw[Sm.cs_eq];simp only[Sm.op,Sm.name,Sm.args,Sm.body,Sm.els];rw[←hse,hsa.2.2.1];rfl
  have hsz:∀n:Int,(Sm.mk n [] s.args [s] []).sz=1+aM s.args+s.sz:=λn=>by simp[Sm.sz,aD]
  simp-implicitDefEqProofs[]
  refine aO (λhc=>?_) (λhc=>?_)
  ·simp at hc
   simp-implicitDefEqProofs[]
   refine(Ig G hb hl (p:=q1) (by omega) [5,6] (by simp) (by simp) _).mono ?_
   rintro r h ⟨n1,_,rfl,rfl⟩
   have hwk:IntKind.i64.wrap ((i:Int)-1)=((i-1:Nat):Int):=by rw[ab (by omega) (by omega)];omega
   simp-implicitDefEqProofs[aa]
   refine⟨⟨i-1,n1,[],A,.lst 5 [[.int .i64 o,.str w,A,B,C]],.lst 5 [],q1+1⟩,⟨⟨_,hcs1 n1,j1,by simp only[hsz];omega⟩,by simp only;omega,by simp only;omega⟩,by simp only;omega,?_⟩
   refine EL (hX:=[.dead,.dead,.dead,.dead,.dead,.dead]) (by simp) (.same (bt _ _ _) (.same (by simp[okO,below]) (.same (by simp[okO,below]) (.same (by simp[okO,below]) (.drop (.one (.keep (by simp[below]) (.keep (by simp[below]) (.keep (by simp[below]) (.keep (by simp[below]) (.one (View.nils 5) .nil))))) .nil)))))) ?_
   simp only[hwk]
   exact⟨.keep (by simp[below]) .nil,.keep (by simp[below]) .nil,.keep (by simp[below]) .nil,.keep (by simp[below]) .nil,.keep (by simp[below]) .nil,.keep (by simp[below]) .nil,trivial⟩
  ·simp at hc
   exact⟨⟨i,o,w,A,B,C,q1⟩,⟨⟨s,hse,j1,j2⟩,j3,j4⟩,di (m:=6) (by simp) (bP rfl rfl (aC (bt _ _ _) (aC (by simp[okO,below]) (aC (by simp[okO,below]) (aC (by simp[okO,below]) (aC (by simp[okO]) (aC (by simp[okO,below]) gv))))))) (by simp[below])⟩
 by_cases k6:k=6
 ·subst k6
  simp-implicitDefEqProofs[aa]
  refine(mf G hb hl (p:=q+1) (by omega) [20,40,41] (k:=4) (by simp) (by simp) (by omega) rfl rfl).mono ?_
  rintro r h ⟨i0,hi0,rfl,rfl⟩
  obtain⟨i,rfl,hi⟩:∃J:Nat,i0=J/\J<=41:=⟨i0.toNat,by simp at hi0;omega,by simp at hi0;omega⟩
  simp-implicitDefEqProofs[aa]
  refine aN (λa:BdS=>az 145 [(7,.p (.int .i64 a.i)),(4,.ptr 3 3 0 0),(3,.ptr 2 1 0 0),(2,.ptr 1 1 0 0),(0,.ptr 0 2 0 0)])
   (λa=>[rdO b (q+1+1),.row 1 [[.nils]],.row 1 [[.p (.lst 3 (l.map Fd.cs))]],.row 3 [[.p (.str f.name),.p (aL f.params),.p (smL a.bd)]]])
   (λa=>a.i<=41/\aD a.bd+10*a.i<=aD f.body+500) (λa=>a.i) ⟨i,f.body⟩ ⟨hi,by simp only;omega⟩ ?_ ?_
  ·exact di (m:=4) (by simp) (bP rfl rfl (aC (bt _ _ _) (aC (by simp[okO,below]) (aC (by simp[okO,below]) (aC (by simp[okO,below]) gv))))) (by simp[below])
  rintro⟨i1,bd⟩ ⟨j1,j2⟩
  simp only at j1 j2
  have hbl2:=bM bd
  have hml2:smL bd= .lst 5 (bd.map Sm.cs):=rfl
  simp-implicitDefEqProofs[hml2]
  refine aO (λhc=>?_) (λhc=>?_)
  ·simp at hc
   have hwk:IntKind.i64.wrap ((i1:Int)-1)=((i1-1:Nat):Int):=by rw[ab (by omega) (by omega)];omega
   simp-implicitDefEqProofs[hml2]
   refine⟨⟨by omega,by omega⟩,⟨by omega,by omega⟩,⟨i1-1,bd++[⟨3,[],[⟨1,i1,[],[]⟩],[],[]⟩]⟩,⟨by simp only;omega,by simp[aV,aD,Sm.sz,aM,Ex.sz];omega⟩,by simp only;omega,?_⟩
   refine ou 4 (by omega) (by simp) rfl (.same (bt _ _ _) (.same (by simp[okO,below]) (.same (by simp[okO,below]) (.one (.keep (by simp[below]) (.keep (by simp[below]) (.one (uq rfl (ce (bB (p0:=(Ex.mk 1 i1 [] []).cs) rfl (Ex.cs_len _) (ig (View.nils 4))) (View.nils 5) (View.nils 5))) .nil))) (.nil _))))) ?_
   simp only[hwk]
   exact⟨.keep (by simp[below]) .nil,.keep (by simp[below]) .nil,.keep (by simp[below]) .nil,.keep (by simp[below]) .nil,.keep (by simp[below]) .nil,trivial⟩
  ·simp at hc
   exact fin _ ⟨f.name,f.params,bd⟩ _ _ _ _ (by simp) (by simp) (by simp) (by simp) (.p _) (.p _) (by simp[Fd.sz];omega) (by omega) (by omega)
 have c1:¬(k:Int)=1:=by omega
 have c2:¬(k:Int)=2:=by omega
 have c3:¬(k:Int)=3:=by omega
 have c4:¬(k:Int)=4:=by omega
 have c5:¬(k:Int)=5:=by omega
 have c6:¬(k:Int)=6:=by omega
 have c7:¬(k:Int)=7:=by omega
 simp-implicitDefEqProofs[aa,k0,c1,c2,c3,c4,c5,c6,c7]
 exact fin _ ⟨f.name,f.params,f.body⟩ _ _ _ _ (by simp) (by simp) (by simp) (by simp) (.p _) (.p _) (by simp only[Fd.sz];omega) (by omega) (by omega)
end
section
variable (G:aK)
def PshF(s:Bool)(sz:Nat)(D:List (List PV))(h0:List AO)(a:PshS):Prop:=a.i<=D.length/\h0.length<=a.id/\h0.length<=a.h.length/\(∀j,j<h0.length->a.h[j]?=h0[j]?)/\∃rows J,RowOwn s a.h a.id sz rows (D.take a.i) J/\∀j∈J,h0.length<=j
theorem BH{h h2:List AO}(hl:h.length<=h2.length)(hf:∀j,j<h.length->h2[j]?=h[j]?):h2=h++h2.drop h.length:=by
 have e:h2.take h.length=h:=by
  apply List.ext_getElem?
  intro j
  by_cases hj:j<h.length
  ·rw[Xh hj];exact hf j hj
  ·rw[WO (by rw[Wv];omega),WO (by omega)]
 have e2:=WI h.length h2
 rw[e] at e2
 exact e2.symm
theorem PshF.init{s:Bool}{sz:Nat}{D:List (List PV)}(h0 os:List AO):PshF s sz D h0 ⟨0,h0.length,h0++ .row sz []::os⟩:=
 ⟨WH _,Wn _,by simp,λj hj=>VY hj,[],[],⟨by simp,rfl,λ_ h=>(by cases h),λ_ h=>(by cases h),.nil,by simp⟩,λj hj=>by cases hj⟩
theorem PshF.step{s:Bool}{sz i id:Nat}{D:List (List PV)}{h0 h:List AO}(H:PshF s sz D h0 ⟨i,id,h⟩){e:List PV}(hi:D[i]?=some e){h2:List AO}(hl:h.length<=h2.length)(hf:∀j,j<h.length->h2[j]?=h[j]?){r':List AV}{I2:List Nat}(ho:OwnL s h2 r' e I2)(nd2:I2.Nodup)(hn:∀j∈I2,h.length<=j)(he:e.length=sz):
 ∃rows,(∀os,(h2++os)[id]?=some (.row sz rows))/\rows.length=i/\i<D.length/\id<h2.length/\∀os1 os2,PshF s sz D h0 ⟨i+1,(h2++os1).length,(h2++os1).set id .dead++ .row sz (rows++[r'])::os2⟩:=by
 obtain⟨h1,h3,h4,h5,rows,J,hr,hJ⟩:=H
 have hil:i<D.length:=(VZ.1 hi).1
 have hlen:=hr.len
 simp only at h1 h3 h4 h5 hlen hr
 rw[Wv,Nat.min_eq_left h1] at hlen
 have e2:=BH hl hf
 have hid:=hr.lt
 have h2e:h2[id]?=some (.row sz rows):=by rw[hf id hid];exact hr.here
 refine⟨rows,λos=>by rw[VY (by omega)];exact h2e,hlen,hil,by omega,λos1 os2=>⟨hil,by simp only[Wq];omega,by simp;omega,λj hj=>?_,rows++[r'],J++I2,?_,λj hj=>?_⟩⟩
 ·simp only
  rw[VY (by simp only[WU,Wq,Wr];omega),Wc (by omega),VY (by omega),hf j (by omega)]
  exact h5 j hj
 ·have hp:=(hr.push (h2:=h2++os1) (os:=h2.drop h.length++os1) (by rw[←WL,←e2]) (ho.more os1) nd2 hn he).more os2
  have hd:D.take i++[e]=D.take (i+1):=by rw[List.take_add_one,hi];rfl
  rw[hd,WL] at hp
  exact hp
 ·rcases Wf.1 hj with hj|hj
  ·exact hJ j hj
  ·have:=hn j hj;omega
theorem PshF.done{s:Bool}{sz i id:Nat}{D:List (List PV)}{h0 h:List AO}(H:PshF s sz D h0 ⟨i,id,h⟩)(hi:D.length<=i):h0.length<=h.length/\(∀j,j<h0.length->h[j]?=h0[j]?)/\∃I,OwnL s h [.sl id sz 0 i] [.lst sz D] I/\I.Nodup/\∀j∈I,h0.length<=j:=by
 obtain⟨h1,h3,h4,h5,rows,J,hr,hJ⟩:=H
 simp only at h1 h3 h4 h5 hr
 rw[Wg hi] at hr
 exact⟨h4,h5,id::J,hr.tree (by omega),hr.nd,λj hj=>by
  rcases Wd.1 hj with rfl|hj
  ·exact h3
  ·exact hJ j hj⟩
theorem Gk{s:Bool}{n:Nat}{h1 os:List AO}{a b:List AV}{c d:List PV}{I1 I2:List Nat}(H1:OwnL s h1 a c I1)(n1:I1.Nodup)(f1:∀i∈I1,n<=i)(H2:OwnL s (h1++os) b d I2)(n2:I2.Nodup)(f2:∀i∈I2,h1.length<=i)(hn:n<=h1.length):
 OwnL s (h1++os) (a++b) (c++d) (I1++I2)/\(I1++I2).Nodup/\∀i∈I1++I2,n<=i:=by
 refine⟨(H1.more os).app H2,?_,λi hi=>?_⟩
 ·rw[WX]
  refine⟨n1,n2,λa ha b hb e=>?_⟩
  have:=H1.lt ha;have:=f2 b hb;omega
 ·rcases Wf.1 hi with hi|hi
  ·exact f1 i hi
  ·have:=f2 i hi;omega
theorem Ac{α:Type}(l:List α)(a b:α):(l++[a]).set l.length b=l++[b]:=by
 rw[List.set_append_right _ _ (Wn _),Nat.sub_self];rfl
theorem Qi{h:List AO}{s:Sm}{A B E:AV}{I:List Nat}(H:OwnL true h ([A]++[B]++[E]) ([exL s.args]++[smL s.body]++[smL s.els]) I):OwnL true h [.p (.int .i64 s.op),.p (.str s.name),A,B,E] s.cs I:=by
 rw[s.cs_eq]
 exact .p _ (λ_=>rfl) (.p _ (λ_=>rfl) H)
theorem kO{s:Bool}{h:List AO}{v:AV}{q:PV}{I:List Nat}(H:OwnL s h [v] [q] I):(∃q',v= .p q')\/v= .nils\/∃a b n,v= .sl a b 0 n:=by
 cases H with
 |p q=>exact .inl ⟨_,rfl⟩
 |nils=>exact .inr (.inl rfl)
 |sl id sz n=>exact .inr (.inr ⟨_,_,_,rfl⟩)
theorem PI{s:Bool}{h:List AO}{e:Ex}{K:AV}{I:List Nat}(H:OwnL s h [K] [exL e.kids] I):OwnL s h [.p (.int .i64 e.op),.p (.int .i64 e.n),.p (.str e.name),K] e.cs I:=by
 rw[e.cs_eq]
 exact .p _ (λ_=>rfl) (.p _ (λ_=>rfl) (.p _ (λ_=>rfl) H))
theorem LW:∀(N:Nat) (e:Ex),e.sz<=N->e.sz<=1073741824->AC Tryz.prog G ju [.agg (e.cs.map .p)] [] (MkW .agg true e.cs):=by
 intro N
 induction N with
 |zero=>intro e he;have:=e.sz_eq;omega
 |succ N ih=>
  intro e he hb
  have hsz:=e.sz_eq
  have hkl:=bK e.kids
  refine AC.go Cl ?_
  have hec:=e.cs_eq
  have hsl:exL e.kids= .lst 4 (e.kids.map Ex.cs):=rfl
  simp-implicitDefEqProofs[su,hec,hsl]
  obtain⟨hb0,ehb⟩:∃hb0:List AO,hb0=[.row 4 [[.p (.int .i64 e.op),.p (.int .i64 e.n),.p (.str e.name),.p (.lst 4 (e.kids.map Ex.cs))]],.row 4 [[.p (.int .i64 0),.p (.int .i64 0),.p (.str []),.nils]]]:=⟨_,rfl⟩
  have hini:PshF true 4 (e.kids.map Ex.cs) hb0 ⟨0,2,[.row 4 [[.p (.int .i64 e.op),.p (.int .i64 e.n),.p (.str e.name),.p (.lst 4 (e.kids.map Ex.cs))]],.row 4 [[.p (.int .i64 0),.p (.int .i64 0),.p (.str []),.nils]],.row 4 []]⟩:=by
   rw[ehb];exact PshF.init _ []
  refine aN (λa:PshS=>az 25 [(4,.p (.int .i64 a.i)),(3,.sl a.id 4 0 a.i),(2,.ptr 1 4 0 0),(1,.ptr 0 4 0 0)]) (λa=>a.h) (PshF true 4 (e.kids.map Ex.cs) hb0) (λa=>e.kids.length-a.i) _ hini ?_ ?_
  ·exact al (by simp) (by simp[below])
  rintro⟨i,id,h'⟩ hJ
  have hl0:hb0.length=2:=by rw[ehb];rfl
  have g0:h'[0]?=some (.row 4 [[.p (.int .i64 e.op),.p (.int .i64 e.n),.p (.str e.name),.p (.lst 4 (e.kids.map Ex.cs))]]):=by rw[hJ.2.2.2.1 0 (by omega),ehb];rfl
  have g1:h'[1]?=some (.row 4 [[.p (.int .i64 0),.p (.int .i64 0),.p (.str []),.nils]]):=by rw[hJ.2.2.2.1 1 (by omega),ehb];rfl
  have hl2:2<=h'.length:=by have:=hJ.2.2.1;simp only at this;omega
  simp-implicitDefEqProofs[g0]
  refine aO (λh1=>?_) (λh1=>?_)
  ·simp at h1
   have hg:=Wa h1
   have hm:=cJ (Wo h1)
   have hH:=ih e.kids[i] (by omega) (by omega)
   have hcs:=e.kids[i].cs_eq
   have hDa:(e.kids.map Ex.cs)[i]?=some e.kids[i].cs:=by rw[Wt,hg];rfl
   generalize e.kids[i]=k at hg hH hcs hDa
   have hA:=AC.mkLift tJ hH (h:=h') (by rw[hcs];simp)
   rw[hcs] at hA
   simp-implicitDefEqProofs[g0,hg,hcs]
   refine hA.mono ?_
   rintro r h2 ⟨vs,I2,os,rfl,e2,ho,nd,hf⟩
   rw[←hcs] at ho
   obtain⟨rows,k1,k2,k3,k4,k5⟩:=hJ.step hDa (h2:=h2) (by rw[e2];simp) (λx hx=>by rw[e2,VY hx]) ho nd hf k.cs_len
   obtain⟨K,rfl,hK⟩:=Hp ho
   have hwi:=w1 (i:=i) (by omega)
   rcases kO hK with⟨q1,rfl⟩|rfl|⟨x1,x2,x3,rfl⟩
   ·have k6:=k5 [.row 4 [[.p (.int .i64 k.op),.p (.int .i64 k.n),.p (.str k.name),.p q1]]] []
    simp-implicitDefEqProofs[aa,k1,k2]
    rw[Wg (l:=rows) (i:=i) (by omega)]
    refine⟨⟨by omega,by omega⟩,_,k6,by simp only;omega,al (by simp) ?_⟩
    simp[below,hwi]
   ·have k6:=k5 [.row 4 [[.p (.int .i64 k.op),.p (.int .i64 k.n),.p (.str k.name),.nils]]] []
    simp-implicitDefEqProofs[aa,k1,k2]
    rw[Wg (l:=rows) (i:=i) (by omega)]
    refine⟨⟨by omega,by omega⟩,_,k6,by simp only;omega,al (by simp) ?_⟩
    simp[below,hwi]
   ·have k6:=k5 [.row 4 [[.p (.int .i64 k.op),.p (.int .i64 k.n),.p (.str k.name),.sl x1 x2 0 x3]]] []
    simp-implicitDefEqProofs[aa,k1,k2]
    rw[Wg (l:=rows) (i:=i) (by omega)]
    refine⟨⟨by omega,by omega⟩,_,k6,by simp only;omega,al (by simp) ?_⟩
    simp[below,hwi]
  ·simp at h1
   have hie:i=e.kids.length:=by have:=hJ.1;simp at this;omega
   obtain⟨d1,d2,I,ho,nd,hI⟩:=hJ.done (by simpa using h1)
   subst hie
   have hn0:0∉I:=λhm=>by have:=hI 0 hm;omega
   have hn1:1∉I:=λhm=>by have:=hI 1 hm;omega
   have s0:∀x,(h'.set 0 x)[0]?=some x:=λx=>Wi (by omega)
   have s1:∀x,(h'.set 0 x)[1]?=some (.row 4 [[.p (.int .i64 0),.p (.int .i64 0),.p (.str []),.nils]]):=λx=>by rw[Wc (by omega)];exact g1
   have s2:∀x y,((h'.set 0 x).set 1 y)[1]?=some y:=λx y=>Wi (by rw[WU];omega)
   simp-implicitDefEqProofs[g0,g1,s0,s1,s2]
   rw[←hsl,←hec]
   exact⟨_,I,rfl,PI ((ho.set_out hn0 _).set_out hn1 _),nd⟩
theorem Dl:∀(N:Nat) (l:List Sm),aD l<N->aD l<=1073741824->AC Tryz.prog G dy [.p (smL l)] [] (MkW dP true [smL l]):=by
 intro N
 induction N with
 |zero=>intro l he;omega
 |succ N ih=>
  intro l hN hz
  have hsl:∀l,smL l= .lst 5 (l.map Sm.cs):=λ_=>rfl
  have hll:=bM l
  refine AC.go Au ?_
  simp-implicitDefEqProofs[pu,hsl]
  refine aN (λa:PshS=>az 52 [(4,.p (.int .i64 a.i)),(3,.sl a.id 5 0 a.i),(0,.p (smL l))]) (λa=>a.h) (PshF true 5 (l.map Sm.cs) []) (λa=>l.length-a.i) ⟨0,0,[.row 5 []]⟩ (PshF.init [] []) ?_ ?_
  ·exact al (by simp) (by simp[below,hsl])
  rintro⟨i,id,hh⟩ hI
  simp-implicitDefEqProofs[hsl]
  refine aO (λh1=>?_) (λh1=>?_)
  ·simp at h1
   have hg:=Wa h1
   have hm:=fV (Wo h1)
   have hcs:=l[i].cs_eq
   have hse:=l[i].sz_eq
   have hD:(l.map Sm.cs)[i]?=some l[i].cs:=by rw[Wt,hg];rfl
   generalize l[i]=s at hg hm hcs hse hD
   simp-implicitDefEqProofs[hg,hcs,Ac]
   have hid:id<hh.length:=by obtain⟨_,_,_,_,_,_,hr,_⟩:=hI;exact hr.lt
   have hal:=bK s.args
   have hxl:exL s.args= .lst 4 (s.args.map Ex.cs):=rfl
   obtain⟨hb,ehb⟩:∃hb,hb=hh++[AO.row 5 [[.p (.int .i64 s.op),.p (.str s.name),.p (exL s.args),.p (smL s.body),.p (smL s.els)]]]:=⟨_,rfl⟩
   have hbl:hb.length=hh.length+1:=by rw[ehb];simp
   have hbx:hb[hh.length]?=some (.row 5 [[.p (.int .i64 s.op),.p (.str s.name),.p (exL s.args),.p (smL s.body),.p (smL s.els)]]):=by rw[ehb];simp
   have hini:PshF true 4 (s.args.map Ex.cs) hb ⟨0,hh.length+1,hh++[AO.row 5 [[.p (.int .i64 s.op),.p (.str s.name),.p (exL s.args),.p (smL s.body),.p (smL s.els)]],.row 4 []]⟩:=by
    have:=PshF.init (s:=true) (sz:=4) (D:=s.args.map Ex.cs) hb []
    rw[hbl,ehb,WL] at this
    rw[ehb];exact this
   refine aN (λa:PshS=>az 52 [(7,.p (.int .i64 a.i)),(6,.sl a.id 4 0 a.i),(5,.ptr hh.length 5 0 0),(4,.p (.int .i64 i)),(3,.sl id 5 0 i),(0,.p (smL l))]) (λa=>a.h) (PshF true 4 (s.args.map Ex.cs) hb) (λa=>s.args.length-a.i) _ hini ?_ ?_
   ·refine al (by simp) ?_
    simp[below,hsl]
    omega
   rintro⟨j,id2,h'⟩ hJ
   have hjb:h'[hh.length]?=some (.row 5 [[.p (.int .i64 s.op),.p (.str s.name),.p (exL s.args),.p (smL s.body),.p (smL s.els)]]):=by
    rw[hJ.2.2.2.1 _ (by omega)];exact hbx
   have hlb:hh.length+1<=h'.length:=by have:=hJ.2.2.1;simp only at this;omega
   simp-implicitDefEqProofs[hjb,hxl]
   refine aO (λh2=>?_) (λh2=>?_)
   ·simp at h2
    have hga:=Wa h2
    have hma:=cJ (Wo h2)
    have hC:=LW G _ s.args[j] (Wn _) (by omega)
    have hka:=s.args[j].cs_eq
    have hDa:(s.args.map Ex.cs)[j]?=some s.args[j].cs:=by rw[Wt,hga];rfl
    generalize s.args[j]=e at hga hma hC hka hDa
    have hA:=AC.mkLift tJ hC (h:=h') (by rw[hka];simp)
    rw[hka] at hA
    simp-implicitDefEqProofs[hjb,hga,hka,hxl]
    refine hA.mono ?_
    rintro r h2 ⟨vs,I2,os,rfl,e2,ho,nd,hf⟩
    rw[←hka] at ho
    obtain⟨rows,k1,k2,k3,k4,k5⟩:=hJ.step hDa (h2:=h2) (by rw[e2];simp) (λx hx=>by rw[e2,VY hx]) ho nd hf e.cs_len
    obtain⟨K,rfl,hK⟩:=Hp ho
    have hwj:=w1 (i:=j) (by omega)
    have hl2:h'.length<=h2.length:=by rw[e2];simp
    rcases kO hK with⟨q1,rfl⟩|rfl|⟨x1,x2,x3,rfl⟩
    ·have k6:=k5 [.row 4 [[.p (.int .i64 e.op),.p (.int .i64 e.n),.p (.str e.name),.p q1]]] []
     simp-implicitDefEqProofs[aa,k1,k2]
     rw[Wg (l:=rows) (i:=j) (by omega)]
     refine⟨⟨by omega,by omega⟩,_,k6,by simp only;omega,al (by simp) ?_⟩
     simp[below,hsl,hwj]
     omega
    ·have k6:=k5 [.row 4 [[.p (.int .i64 e.op),.p (.int .i64 e.n),.p (.str e.name),.nils]]] []
     simp-implicitDefEqProofs[aa,k1,k2]
     rw[Wg (l:=rows) (i:=j) (by omega)]
     refine⟨⟨by omega,by omega⟩,_,k6,by simp only;omega,al (by simp) ?_⟩
     simp[below,hsl,hwj]
     omega
    ·have k6:=k5 [.row 4 [[.p (.int .i64 e.op),.p (.int .i64 e.n),.p (.str e.name),.sl x1 x2 0 x3]]] []
     simp-implicitDefEqProofs[aa,k1,k2]
     rw[Wg (l:=rows) (i:=j) (by omega)]
     refine⟨⟨by omega,by omega⟩,_,k6,by simp only;omega,al (by simp) ?_⟩
     simp[below,hsl,hwj]
     omega
   ·simp at h2
    have hjl:j=s.args.length:=by have:=hJ.1;simp at this;omega
    obtain⟨d1,d2,IA,oA,nA,fA⟩:=hJ.done (by simpa using h2)
    subst hjl
    have hB:=ih s.body (by omega) (by omega)
    have hE:=ih s.els (by omega) (by omega)
    simp-implicitDefEqProofs[hjb]
    refine(AC.mkLift tH hB (h:=h') (by simp)).mono ?_
    rintro r h3 ⟨vB,IB,o1,rfl,e3,oB,nB,fB⟩
    obtain⟨B,rfl⟩:=gA oB
    have hjb3:h3[hh.length]?=some (.row 5 [[.p (.int .i64 s.op),.p (.str s.name),.p (exL s.args),.p (smL s.body),.p (smL s.els)]]):=by
     rw[e3,VY (by omega)];exact hjb
    simp-implicitDefEqProofs[aa,dP,hjb3]
    refine(AC.mkLift tH hE (h:=h3) (by simp)).mono ?_
    rintro r h4 ⟨vE,IE,o2,rfl,e4,oE,nE,fE⟩
    obtain⟨E,rfl⟩:=gA oE
    have hjb4:h4[hh.length]?=some (.row 5 [[.p (.int .i64 s.op),.p (.str s.name),.p (exL s.args),.p (smL s.body),.p (smL s.els)]]):=by
     have:hh.length<h3.length:=(VZ.1 hjb3).1
     rw[e4,VY this];exact hjb3
    have cB:=kO oB
    have cE:=kO oE
    obtain⟨a1,a2,a3⟩:=Gk oA nA fA (by rw[←e3];exact oB) nB fB d1
    rw[←e3] at a1
    obtain⟨b1,b2,b3⟩:=Gk a1 a2 a3 (by rw[←e4];exact oE) nE fE (by rw[e3];simp;omega)
    rw[←e4] at b1
    have hS:=Qi (s:=s) b1
    obtain⟨rows,k1,k2,k3,k4,k5⟩:=hI.step hD (h2:=h4) (by rw[e4,e3];simp;omega) (λx hx=>by
     rw[e4,VY (by rw[e3];simp;omega),e3,VY (by omega),d2 x (by omega),ehb,VY hx]) hS b2 (λx hx=>by have:=b3 x hx;omega) s.cs_len
    have k6:=k5 [.row 5 [[.p (.int .i64 s.op),.p (.str s.name),.sl id2 4 0 s.args.length,B,E]]] []
    have hwi:=w1 (i:=i) (by omega)
    rcases cB with⟨q1,rfl⟩|rfl|⟨x1,x2,x3,rfl⟩<;>rcases cE with⟨q2,rfl⟩|rfl|⟨y1,y2,y3,rfl⟩<;>
    ·simp-implicitDefEqProofs[aa,dP,hjb4,k1,k2]
     rw[Wg (l:=rows) (i:=i) (by omega)]
     refine⟨⟨by omega,by omega⟩,_,k6,by simp only;omega,al (by simp) ?_⟩
     simp[below,hsl,hwi]
  ·simp at h1
   obtain⟨_,_,I,ho,nd,_⟩:=hI.done (by simpa using h1)
   have hie:i=l.length:=by have:=hI.1;simp at this;omega
   subst hie
   simp-implicitDefEqProofs[]
   exact⟨_,I,rfl,ho,nd⟩
def cpK(a:PshS):AV:=if a.i=0 then .nils else .sl a.id 3 0 a.i
def CpI(l:List Fd)(a:PshS):Prop:=a.i<=l.length/\a.h[0]?=some (.row 1 [[.p (fdL l)]])/\a.h[1]?=some (.row 1 [[.nils]])/\a.h[2]?=some (.row 1 [[cpK a]])/\
 (0<a.i->3<=a.id/\∃rows J,RowOwn true a.h a.id 3 rows ((l.map Fd.cs).take a.i) J/\∀j∈J,3<=j)
theorem Da:∀l:List Fd,l.length<=aW l
 |[]=>Wn _
 |f::r=>by
  have:=Da r
  have h1:aW (f::r)=f.sz+aW r:=by simp[aW]
  have h2:f.sz=1+f.name.length+(f.params.length+(f.params.map List.length).sum)+aD f.body:=rfl
  simp only[Wr];omega
theorem Fk{h:List AO}{id:Nat}{l:List (List UInt8)}(e:h[id]?=some (fX l)){n:Nat}(hn:n=l.length):OwnL true h [.sl id 1 0 n] [aL l] [id]:=by
 have hr:RowOwn true h id 1 (l.map λw=>[AV.p (.str w)]) (l.map λw=>[PV.str w]) []:=by
  refine⟨e,by simp,λx hx=>by obtain⟨w,_,rfl⟩:=WC.1 hx;rfl,λx hx=>by obtain⟨w,_,rfl⟩:=WC.1 hx;rfl,?_,by simp⟩
  clear e hn
  induction l with
  |nil=>exact .nil
  |cons w r ih=>exact .p _ (λ_=>rfl) ih
 exact hr.tree (by simpa using hn)
theorem NB{h3:List AO}(hl:3<=h3.length){r:List AV}{f:Fd}{I2:List Nat}(ho:OwnL true h3 r f.cs I2)(nd:I2.Nodup)(hf:∀j∈I2,3<=j)(o x:AO):∃J,RowOwn true ((h3++[o,.row 3 [r]]).set 2 x) (h3.length+1) 3 [r] [f.cs] J/\∀j∈J,3<=j:=by
 have hr:r.length=3:=by rw[ho.len,Fd.cs_len]
 refine⟨I2,⟨?_,rfl,λe he=>by rw[Wh.1 he];exact hr,λe he=>by rw[Wh.1 he];exact Fd.cs_len f,?_,?_⟩,hf⟩
 ·rw[Wc (by omega),We (by omega),Xb];rfl
 ·have:=(ho.more [o,.row 3 [r]]).set_out (λhm=>by have:=hf 2 hm;omega:2∉I2) x
  simpa using this
 ·rw[Wy]
  exact⟨λhm=>by have:=ho.lt hm;omega,nd⟩
theorem PO{h h3:List AO}{id:Nat}{rows:List (List AV)}{D:List (List PV)}{J:List Nat}(H:RowOwn true h id 3 rows D J)(hJ:∀j∈J,3<=j)(hid:3<=id)(hh:3<=h.length)(e3:h3=h++h3.drop h.length){r:List AV}{f:Fd}{I2:List Nat}(ho:OwnL true h3 r f.cs I2)(nd:I2.Nodup)(hf:∀j∈I2,h.length<=j)(o x:AO):
 ∃J,RowOwn true (((h3++[o]).set id .dead++[AO.row 3 (rows++[r])]).set 2 x) (h3.length+1) 3 (rows++[r]) (D++[f.cs]) J/\∀j∈J,3<=j:=by
 have hp:=H.push (h2:=h3++[o]) (os:=h3.drop h.length++[o]) (by rw[←WL,←e3]) (ho.more [o]) nd hf (Fd.cs_len f)
 have hl:(h3++[o]).length=h3.length+1:=by simp
 rw[hl] at hp
 have hl3:h.length<=h3.length:=by rw[e3];simp
 refine⟨J++I2,hp.frame λk hk=>?_,λj hj=>?_⟩
 ·have:3<=k:=by
   rcases Wd.1 hk with rfl|hk
   ·omega
   ·rcases Wf.1 hk with hk|hk
    ·exact hJ k hk
    ·have:=hf k hk;omega
  rw[Wc (by omega)]
 ·rcases Wf.1 hj with hj|hj
  ·exact hJ j hj
  ·have:=hf j hj;omega
theorem MJ(l:List Fd)(hz:aW l<=1073741824):AC Tryz.prog G mK [.agg [.p (fdL l)]] [] (MkW .agg true [fdL l]):=by
 have hfl:∀l,fdL l= .lst 3 (l.map Fd.cs):=λ_=>rfl
 have hll:l.length<=aW l:=Da l
 refine AC.go CN ?_
 simp-implicitDefEqProofs[rU,hfl]
 refine aN (λa:PshS=>az 35 [(4,.p (.int .i64 a.i)),(3,.ptr 2 1 0 0),(2,.ptr 1 1 0 0),(1,.ptr 0 1 0 0)]) (λa=>a.h) (CpI l) (λa=>l.length-a.i) ⟨0,0,[.row 1 [[.p (fdL l)]],.row 1 [[.nils]],.row 1 [[.nils]]]⟩ ⟨WH _,rfl,rfl,rfl,λh=>by simp at h⟩ ?_ ?_
 ·exact al (by simp) (by simp[below])
 rintro⟨i,id,h⟩ ⟨i1,i2,i3,i4,i5⟩
 simp only at i1 i2 i3 i4 i5
 have hl3:3<=h.length:=by have:=(VZ.1 i4).1;omega
 have j2:∀os,(h++os)[0]?=some (.row 1 [[.p (fdL l)]]):=λos=>by rw[VY (by omega)];exact i2
 have j4:∀os,(h++os)[2]?=some (.row 1 [[cpK ⟨i,id,h⟩]]):=λos=>by rw[VY (by omega)];exact i4
 simp-implicitDefEqProofs[i2,hfl]
 refine aO (λh1=>?_) (λh1=>?_)
 ·simp at h1
  have hg:=Wa h1
  have hm:=gf (Wo h1)
  have hD:(l.map Fd.cs)[i]?=some l[i].cs:=by rw[Wt,hg];rfl
  generalize l[i]=f at hg hm hD
  have hcs:f.cs=[.str f.name,aL f.params,smL f.body]:=rfl
  have hsp:aL f.params= .lst 1 (f.params.map λw=>[.str w]):=rfl
  have hfz:f.sz=1+f.name.length+(f.params.length+(f.params.map List.length).sum)+aD f.body:=rfl
  have hB:=Dl G _ f.body (Nat.lt_succ_self _) (by omega)
  by_cases hi0:i=0
  ·subst hi0
   have hk:cpK ⟨0,id,h⟩= .nils:=rfl
   rw[hk] at j4 i4
   have fin0:∀(h3:List AO) (r:List AV) (I2:List Nat) (l0:List (Nat × AV)),h.length+3<=h3.length->(∀j,j<h.length->h3[j]?=h[j]?)->OwnL true h3 r f.cs I2->I2.Nodup->(∀j∈I2,h.length<=j)->∀(o:AO) (hw:Aw.look l0 4= .p (.int .i64 (IntKind.i64.wrap 1))/\Aw.look l0 3= .ptr 2 1 0 0/\Aw.look l0 2= .ptr 1 1 0 0/\Aw.look l0 1= .ptr 0 1 0 0),
    ∃a',CpI l a'/\l.length-a'.i<l.length/\Wk 0 (az 35 l0) ((h3++[o,.row 3 [r]]).set 2 (.row 1 [[.sl (h3.length+1) 3 0 1]])) (az 35 [(4,.p (.int .i64 a'.i)),(3,.ptr 2 1 0 0),(2,.ptr 1 1 0 0),(1,.ptr 0 1 0 0)]) a'.h:=by
    intro h3 r I2 l0 hl4 hg3 oR nR fR o ⟨e4,e3,e2,e1⟩
    obtain⟨J,hJ,hJ3⟩:=NB (by omega) oR nR (λj hj=>by have:=fR j hj;omega) o (.row 1 [[.sl (h3.length+1) 3 0 1]])
    have hd:(l.map Fd.cs).take 1=[f.cs]:=by rw[List.take_add_one,hD];rfl
    refine⟨⟨1,h3.length+1,_⟩,⟨by simp only;omega,?_,?_,?_,λ_=>⟨by simp only;omega,_,J,by simp only[hd];exact hJ,hJ3⟩⟩,by simp only;omega,al (by simp) ?_⟩
    ·rw[Wc (by omega),VY (by omega),hg3 0 (by omega)];exact i2
    ·rw[Wc (by omega),VY (by omega),hg3 1 (by omega)];exact i3
    ·rw[Wi (by simp;omega)];rfl
    ·simp[e1,e2,e3,e4,below]
     exact⟨by have:=w1 (i:=0) (by omega);simpa using this,by omega⟩
   simp-implicitDefEqProofs[i2,hfl,hg,hcs,hsp,Ac, ↓j2, ↓j4]
   refine⟨⟨by omega,by omega⟩,?_⟩
   refine(AC.mkLift tH hB (by simp)).mono ?_
   rintro r h3 ⟨vB,IB,o1,rfl,e3,oB,nB,fB⟩
   obtain⟨B,rfl⟩:=gA oB
   simp at fB
   have hg3:∀j,j<h.length->h3[j]?=h[j]?:=λj hj=>by rw[e3,WL,VY hj]
   have p0:h3[h.length]?=some (.row 3 [[.p (.str f.name),.p (.lst 1 (f.params.map λw=>[.str w])),.p (smL f.body)]]):=by
    rw[e3,WL,We (Wn _),Nat.sub_self];rfl
   have p2:h3[h.length+2]?=some (fX f.params):=by
    rw[e3,WL,We (by omega),Xb]
    simp[fX,Function.comp_def]
   have oP:=Fk p2 (n:=f.params.length) rfl
   have hl4:h.length+3<=h3.length:=by rw[e3];simp
   have q0:∀os,(h3++os)[2]?=some (.row 1 [[.nils]]):=λos=>by rw[VY (by omega),hg3 2 (by omega)];exact i4
   have q1:h3[2]?=some (.row 1 [[.nils]]):=by rw[hg3 2 (by omega)];exact i4
   have q2:∀os,(h3++os)[h.length]?=some (.row 3 [[.p (.str f.name),.p (.lst 1 (f.params.map λw=>[.str w])),.p (smL f.body)]]):=λos=>by rw[VY (by omega)];exact p0
   clear p2
   have hfR:∀j∈[h.length+2]++IB,h.length<=j:=λj hj=>by
    rcases Wf.1 hj with hj|hj
    ·rw[Wh.1 hj];omega
    ·have:=fB j hj;omega
   have hnR:([h.length+2]++IB).Nodup:=Wy.2 ⟨λhm=>by have:=fB _ hm;omega,nB⟩
   rcases kO oB with⟨b1,rfl⟩|rfl|⟨x1,x2,x3,rfl⟩
   ·have oR:=sA (s:=true) (w:=f.name) oP oB
    simp-implicitDefEqProofs[aa,dP, ↓q1, ↓p0, ↓q0, ↓q2]
    exact fin0 h3 _ _ _ hl4 hg3 oR hnR hfR _ (by simp)
   ·have oR:=sA (s:=true) (w:=f.name) oP oB
    simp-implicitDefEqProofs[aa,dP, ↓q1, ↓p0, ↓q0, ↓q2]
    exact fin0 h3 _ _ _ hl4 hg3 oR hnR hfR _ (by simp)
   ·have oR:=sA (s:=true) (w:=f.name) oP oB
    simp-implicitDefEqProofs[aa,dP, ↓q1, ↓p0, ↓q0, ↓q2]
    exact fin0 h3 _ _ _ hl4 hg3 oR hnR hfR _ (by simp)
  ·have hk:cpK ⟨i,id,h⟩= .sl id 3 0 i:=if_neg hi0
   rw[hk] at j4 i4
   obtain⟨hid3,rows,J,hr,hJ3⟩:=i5 (by omega)
   have hrl:rows.length=i:=by have:=hr.len;rw[Wv,WD] at this;omega
   have hidl:=hr.lt
   have fin0:∀(h3:List AO) (r:List AV) (I2:List Nat) (l0:List (Nat × AV)),h.length+3<=h3.length->(∀j,j<h.length->h3[j]?=h[j]?)->OwnL true h3 r f.cs I2->I2.Nodup->(∀j∈I2,h.length<=j)->∀(o:AO) (hw:Aw.look l0 4= .p (.int .i64 (IntKind.i64.wrap ((i:Int)+1)))/\Aw.look l0 3= .ptr 2 1 0 0/\Aw.look l0 2= .ptr 1 1 0 0/\Aw.look l0 1= .ptr 0 1 0 0),
    ∃a',CpI l a'/\l.length-a'.i<l.length-i/\Wk 0 (az 35 l0) (((h3++[o]).set id .dead++[AO.row 3 (rows++[r])]).set 2 (.row 1 [[.sl (h3.length+1) 3 0 (i+1)]])) (az 35 [(4,.p (.int .i64 a'.i)),(3,.ptr 2 1 0 0),(2,.ptr 1 1 0 0),(1,.ptr 0 1 0 0)]) a'.h:=by
    intro h3 r I2 l0 hl4 hg3 oR nR fR o ⟨e4,e3,e2,e1⟩
    obtain⟨J2,hJ,hJ4⟩:=PO hr hJ3 hid3 hl3 (BH (by omega) hg3) oR nR fR o (.row 1 [[.sl (h3.length+1) 3 0 (i+1)]])
    have hd:(l.map Fd.cs).take i++[f.cs]=(l.map Fd.cs).take (i+1):=by rw[List.take_add_one,hD];rfl
    rw[hd] at hJ
    refine⟨⟨i+1,h3.length+1,_⟩,⟨by simp only;omega,?_,?_,?_,λ_=>⟨by simp only;omega,_,J2,hJ,hJ4⟩⟩,by simp only;omega,al (by simp) ?_⟩
    ·rw[Wc (by omega),VY (by simp only[WU,Wq,Wr];omega),Wc (by omega),VY (by omega),hg3 0 (by omega)];exact i2
    ·rw[Wc (by omega),VY (by simp only[WU,Wq,Wr];omega),Wc (by omega),VY (by omega),hg3 1 (by omega)];exact i3
    ·rw[Wi (by simp;omega),cpK,if_neg (show¬(i+1=0) by omega)]
    ·simp[e1,e2,e3,e4,below]
     exact⟨w1 (i:=i) (by omega),by omega⟩
   simp-implicitDefEqProofs[i2,hfl,hg,hcs,hsp,Ac, ↓j2, ↓j4]
   refine⟨⟨by omega,by omega⟩,?_⟩
   refine(AC.mkLift tH hB (by simp)).mono ?_
   rintro r h3 ⟨vB,IB,o1,rfl,e3,oB,nB,fB⟩
   obtain⟨B,rfl⟩:=gA oB
   simp at fB
   have hg3:∀j,j<h.length->h3[j]?=h[j]?:=λj hj=>by rw[e3,WL,VY hj]
   have p0:h3[h.length]?=some (.row 3 [[.p (.str f.name),.p (.lst 1 (f.params.map λw=>[.str w])),.p (smL f.body)]]):=by
    rw[e3,WL,We (Wn _),Nat.sub_self];rfl
   have p2:h3[h.length+2]?=some (fX f.params):=by
    rw[e3,WL,We (by omega),Xb]
    simp[fX,Function.comp_def]
   have oP:=Fk p2 (n:=f.params.length) rfl
   have hl4:h.length+3<=h3.length:=by rw[e3];simp
   have q0:∀os,(h3++os)[2]?=some (.row 1 [[.sl id 3 0 i]]):=λos=>by rw[VY (by omega),hg3 2 (by omega)];exact i4
   have q1:h3[2]?=some (.row 1 [[.sl id 3 0 i]]):=by rw[hg3 2 (by omega)];exact i4
   have q2:∀os,(h3++os)[h.length]?=some (.row 3 [[.p (.str f.name),.p (.lst 1 (f.params.map λw=>[.str w])),.p (smL f.body)]]):=λos=>by rw[VY (by omega)];exact p0
   clear p2
   have q4:∀x o y,((h3++x).set id o++y)[2]?=some (.row 1 [[.sl id 3 0 i]]):=λx o y=>by
    rw[VY (by simp only[WU,Wq];omega),Wc (by omega),VY (by omega),hg3 2 (by omega)];exact i4
   have q3:∀os,(h3++os)[id]?=some (.row 3 rows):=λos=>by rw[VY (by omega),hg3 id hidl];exact hr.here
   have hfR:∀j∈[h.length+2]++IB,h.length<=j:=λj hj=>by
    rcases Wf.1 hj with hj|hj
    ·rw[Wh.1 hj];omega
    ·have:=fB j hj;omega
   have hnR:([h.length+2]++IB).Nodup:=Wy.2 ⟨λhm=>by have:=fB _ hm;omega,nB⟩
   rcases kO oB with⟨b1,rfl⟩|rfl|⟨x1,x2,x3,rfl⟩
   ·have oR:=sA (s:=true) (w:=f.name) oP oB
    simp-implicitDefEqProofs[aa,dP, ↓q1, ↓p0, ↓q0, ↓q2, ↓q3, ↓q4,hrl]
    rw[Wg (l:=rows) (i:=i) (by omega)]
    refine⟨⟨by omega,by omega⟩,?_⟩
    exact fin0 h3 _ _ _ hl4 hg3 oR hnR hfR _ (by simp)
   ·have oR:=sA (s:=true) (w:=f.name) oP oB
    simp-implicitDefEqProofs[aa,dP, ↓q1, ↓p0, ↓q0, ↓q2, ↓q3, ↓q4,hrl]
    rw[Wg (l:=rows) (i:=i) (by omega)]
    refine⟨⟨by omega,by omega⟩,?_⟩
    exact fin0 h3 _ _ _ hl4 hg3 oR hnR hfR _ (by simp)
   ·have oR:=sA (s:=true) (w:=f.name) oP oB
    simp-implicitDefEqProofs[aa,dP, ↓q1, ↓p0, ↓q0, ↓q2, ↓q3, ↓q4,hrl]
    rw[Wg (l:=rows) (i:=i) (by omega)]
    refine⟨⟨by omega,by omega⟩,?_⟩
    exact fin0 h3 _ _ _ hl4 hg3 oR hnR hfR _ (by simp)
 ·simp at h1
  have hie:i=l.length:=by omega
  subst hie
  have s1:∀x,(h.set 1 x)[1]?=some x:=λx=>Wi (by omega)
  by_cases hi0:l.length=0
  ·have hk:cpK ⟨l.length,id,h⟩= .nils:=if_pos hi0
   rw[hk] at i4
   simp-implicitDefEqProofs[i4,i3,s1]
   obtain rfl:=Xg hi0
   exact⟨[.nils],[],rfl,.nils 3 .nil,by simp⟩
  ·have hk:cpK ⟨l.length,id,h⟩= .sl id 3 0 l.length:=if_neg hi0
   rw[hk] at i4
   obtain⟨hid3,rows,J,hr,hJ3⟩:=i5 (by omega)
   rw[Wg (by simp)] at hr
   simp-implicitDefEqProofs[i4,i3,s1]
   have ho:=hr.tree (n:=l.length) (by simp)
   exact⟨[.sl id 3 0 l.length],id::J,rfl,ho.set_out (λhm=>by
    rcases Wd.1 hm with hm|hm
    ·omega
    ·have:=hJ3 _ hm;omega) _,hr.nd⟩
end
section
variable (G:aK)
theorem Mi{s:Bool}{b:List Int}{q:Nat}{T:List AO}{vs:List AV}{qs:List PV}{I:List Nat}(H:OwnL s (rdO b q::T) vs qs I)(hI:∀i∈I,1<=i)(o:AO):OwnL s (o::T) vs qs I:=
 H.frame λi hi=>by
  have:=hI i hi
  obtain⟨k,rfl⟩:∃k,i=k+1:=⟨i-1,by omega⟩
  rfl
theorem MN{b:List Int}{p q:Nat}{T:List AO}{v:AV}{l:List Fd}{I:List Nat}(H:OwnL true (rdO b q::T) [v] [fdL l] I)(hI:∀i∈I,1<=i)(hz:aW l<=900000000)(h1:p<=q)(h2:q<=p+400500000):DP b (PgQ p 900000000 400500000) (.ret (.agg [v])) (rdO b q::T):=
 ⟨_,T,q,.agg [.p (fdL l)],rfl,rfl,.agg (.one ((Mi H hI .dead).view 0 v _ rfl rfl) .nil) .nil,⟨l,rfl,hz⟩,h1,h2⟩
theorem LK{l:List Sm}{k:Nat}{s0:Sm}(s:Sm)(h:l[k]?=some s0):aD (l.set k s)+s0.sz=aD l+s.sz:=by
 obtain⟨hk,h⟩:=VZ.1 h
 subst h
 ·rw[gb s hk,aV]
  have e:l=l.take k++l.drop k:=(WI _ _).symm
  have h1:aD l=aD (l.take k)+aD (l.drop k):=by rw[←aV,←e]
  have h4:aD (l.drop k)=l[k].sz+aD (l.drop (k+1)):=by rw[List.drop_eq_getElem_cons hk];rfl
  simp only[aD]
  omega
theorem LU(l:List Ex)(k:Nat)(s:Ex):aM (l.set k s)<=aM l+s.sz:=by
 by_cases hk:k<l.length
 ·rw[gb s hk,bH]
  have e:l=l.take k++l.drop k:=(WI _ _).symm
  have h1:aM l=aM (l.take k)+aM (l.drop k):=by rw[←bH,←e]
  have h4:aM (l.drop k)=l[k].sz+aM (l.drop (k+1)):=by rw[List.drop_eq_getElem_cons hk];rfl
  simp only[aM]
  omega
 ·rw[List.set_eq_of_length_le (by omega)];omega
theorem EY{α:Type}{l:List α}{k:Nat}{x:α}(h:l[k]?=some x):l.set k x=l:=by
 apply List.ext_getElem?
 intro i
 by_cases hi:k=i
 ·subst hi;rw[Wi (VZ.1 h).1,h]
 ·rw[Wc hi]
theorem Ml{h:List AO}{id sz n m:Nat}{es:List (List PV)}(H:View h (.sl id sz 0 n) (.lst sz es))(hm:m<=es.length):View h (.sl id sz 0 m) (.lst sz (es.take m)):=by
 cases H with
 |sl _ _ _ rows _ e1 e2 e3 e4=>
  have hl:(es.take m).length=m:=by rw[Wv];omega
  have:=View.sl id sz 0 rows (es.take m) e1 (by omega) (λe he=>e3 e (Xf he)) (λi j e q e' a a1 a2 a3 a4=>by
   have hi:i<m:=by have:=(VZ.1 a1).1;omega
   rw[Xh hi] at a1
   exact e4 i j e q e' a a1 a2 a3 a4)
  rwa[hl] at this
 |fl _ sz' _ rows ps e1 e2=>
  have hl:(ps.take m).length=m:=by rw[Wv];rw[WD] at hm;omega
  have:=View.fl id sz' 0 rows (ps.take m) e1 (λi q hq=>by
   have hi:i<m:=by have:=(VZ.1 hq).1;omega
   rw[Xh hi] at hq
   exact e2 i q hq)
  rw[hl,List.map_take] at this
  exact this
theorem NQ{b:List Int}(hb:Byt b)(hl:b.length<=2000){p:Nat}(hp:p<=5000000000):AC Tryz.prog G mT [.ptr 0 2 0 0] [rdO b p] λx h=>∃v q,x= .ret v/\h=[rdO b q]/\PgQ p 900000000 400500000 v q:=by
 refine nQ G (AC.go CF ?_)
 have hprog:AC Tryz.prog G ed [.ptr 0 2 0 0] [rdO b p] λx h=>∃v q,x= .ret v/\h=[rdO b q]/\((∃l:List Fd,v= .agg [.p (fdL l)]/\bn l=true/\aW l<=200000000)/\p<=q/\q<=p+200000000):=
  (MO G hb hl (by omega)).mono λx h ⟨l,q,e1,e2,e3,e4,e5,e6⟩=>⟨_,q,e1,e2,⟨l,rfl,e3,e4⟩,e5,e6⟩
 simp-implicitDefEqProofs[si]
 refine(ka G hprog _ (by simp[below])).mono ?_
 rintro r h ⟨v,q,rfl,rfl,⟨l,rfl,hok,hz⟩,h1,h2⟩
 have hlen:=((dM l).1 hok).1
 have hfd:=((dM l).1 hok).2.1
 simp-implicitDefEqProofs[aa]
 refine(bc G b hb hl q (by omega) 5 _).mono ?_
 rintro r h ⟨k1,rfl,rfl,_⟩
 simp-implicitDefEqProofs[aa]
 refine aO (λhc=>?_) (λhc=>?_)
 ·simp-implicitDefEqProofs[]
  exact⟨_,_,q+1,.agg [.p (fdL l)],rfl,rfl,.keep (by simp) .nil,⟨l,rfl,by omega⟩,by omega,by omega⟩
 simp-implicitDefEqProofs[]
 refine(bc G b hb hl (q+1) (by omega) 6 _).mono ?_
 rintro r h ⟨k2,rfl,rfl,_⟩
 simp-implicitDefEqProofs[aa]
 refine aO (λhc2=>?_) (λhc2=>?_)
 ·simp-implicitDefEqProofs[]
  refine(ka G (Nk G hb hl (p:=q+1+1) (by omega)) _ (by simp[below])).mono ?_
  rintro r h ⟨v,q2,rfl,rfl,⟨l2,rfl,hz2⟩,h3,h4⟩
  simp-implicitDefEqProofs[aa]
  exact⟨_,_,q2,.agg [.p (fdL l2)],rfl,rfl,.keep (by simp) .nil,⟨l2,rfl,by omega⟩,by omega,by omega⟩
 simp-implicitDefEqProofs[]
 refine(AC.mkLift tJ (MJ G l (by omega)) (by simp)).mono ?_
 rintro r h ⟨vs,I,os,rfl,rfl,ho,nd,hI⟩
 obtain⟨v,rfl⟩:=gA ho
 have hne:l.map Fd.cs≠[]:=by intro h;rw[List.map_eq_nil_iff] at h;rw[h] at hlen;simp at hlen
 simp at hI
 rcases ho.inv nd with⟨h0,_⟩|⟨h0,_⟩|⟨id,rowsF,JF,rfl,rfl,hF⟩
 ·exact absurd h0 hne
 ·cases h0
 have hid3:3<=id:=hI id (by simp)
 obtain⟨fF,rfl⟩:∃fF,id=fF+1:=⟨id-1,by omega⟩
 rw[WD]
 simp-implicitDefEqProofs[aa]
 have hF2:∀q',RowOwn true (rdO b q':: .row 1 [[.nils]]:: .row 1 [[.sl (fF+1) 3 0 l.length]]::os) (fF+1) 3 rowsF (l.map Fd.cs) JF:=λq'=>hF.frame λi hi=>by
  have:=hI i (by simpa using hi)
  obtain⟨k,rfl⟩:∃k,i=k+3:=⟨i-3,by omega⟩
  rfl
 have hI3:∀j∈JF,3<=j:=λj hj=>hI j (by simp[hj])
 have hnF:=hF.nd
 clear hF ho
 obtain⟨T,hT⟩:∃T,T= .row 1 [[.nils]]:: .row 1 [[AV.sl (fF+1) 3 0 l.length]]::os:=⟨_,rfl⟩
 rw[←hT] at hF2⊢
 have t0:T[0]?=some (.row 1 [[.nils]]):=by rw[hT];rfl
 have t1:T[1]?=some (.row 1 [[.sl (fF+1) 3 0 l.length]]):=by rw[hT];rfl
 have tF:T[fF]?=some (.row 3 rowsF):=(hF2 0).here
 clear hT
 refine(bc G b hb hl (q+1+1) (by omega) l.length _).mono ?_
 rintro r h ⟨k,rfl,rfl,hk⟩
 have hkl:k<l.length:=by omega
 have hgk:=Wa hkl
 have hfk:=hfd _ (Wo hkl)
 have hzk:=gf (Wo hkl)
 have hDk:(l.map Fd.cs)[k]?=some l[k].cs:=by rw[Wt,hgk];rfl
 generalize l[k]=f at hgk hfk hzk hDk
 obtain⟨rF,J1,Jk,J2,r1,rfl,r2,r5⟩:=(hF2 (q+1+1+1)).own.put (hF2 0).len (hF2 0).rl (hF2 0).dl hDk
 obtain⟨A,B,IA,IB,rfl,rfl,oA,oB⟩:=QT r2
 have hltJ:∀j∈J1++(IA++IB++J2),j<T.length+1:=λj hj=>by have:=(hF2 0).own.lt hj;simpa using this
 have hnd:=hnF
 rw[Wy] at hnd
 have hn1:fF+1∉J1++(IA++IB++J2):=hnd.1
 have hn2:=hnd.2
 have hIB:∀j∈IB,3<=j:=λj hj=>hI3 j (by simp[hj])
 have nIB:IB.Nodup:=(WX.1 (WX.1 (WX.1 hn2).2.1).1).2.1
 have hDl:(l.map Fd.cs).length=l.length:=by simp
 have finG:∀(U:List AO) (q':Nat) (B':AV) (I':List Nat) (sl':List Sm),(∀i,2<=i->i<T.length->i≠fF->i+1∉IB->U[i]?=T[i]?)->U[fF]?=some (.row 3 (rowsF.set k [.p (.str f.name),A,B']))->OwnL true (rdO b q'::U) [B'] [smL sl'] I'->(∀i∈I',1<=i)->
  aD sl'<=450000000->p<=q'->q'<=p+400500000->DP b (PgQ p 900000000 400500000) (.ret (.agg [.sl (fF+1) 3 0 l.length])) (rdO b q'::U):=by
  intro U q' B' I' sl' hU hUF oB' hI' hz' h3 h4
  have hfr:∀j∈J1++J2++IA,(rdO b q'::U)[j]?=(rdO b (q+1+1+1)::T)[j]?:=λj hj=>by
   have hjm:j∈J1++(IA++IB++J2):=by simp only[Wf] at hj⊢;rcases hj with(hj|hj)|hj<;>simp[hj]
   have hj3:=hI3 j hjm
   have hjl:=hltJ j hjm
   obtain⟨i,rfl⟩:∃i,j=i+1:=⟨j-1,by omega⟩
   rw[Ws,Ws]
   refine hU i (by omega) (by omega) (λe=>hn1 (e▸hjm)) λhm=>?_
   simp only[WX,Wf] at hn2
   obtain⟨n1,⟨⟨n2,n3,n4⟩,n5,n6⟩,n7⟩:=hn2
   simp only[Wf] at hj
   rcases hj with(hj|hj)|hj
   ·exact n7 _ hj _ (.inl (.inr hm)) rfl
   ·exact n6 _ (.inr hm) _ hj rfl
   ·exact n4 _ hj _ hm rfl
  have oR:=sA (s:=true) (w:=f.name) (oA.frame λi hi=>hfr i (by simp[hi])) oB'
  have oW:=r5 (rdO b q'::U) _ _ _ (λj hj=>hfr j (by simp only[Wf] at hj⊢;exact .inl hj)) oR
  have hD':(l.map Fd.cs).set k (Fd.mk f.name f.params sl').cs=(l.set k ⟨f.name,f.params,sl'⟩).map Fd.cs:=by rw[List.map_set]
  have tree:=OwnL.sl (s:=true) (h:=rdO b q'::U) (fF+1) 3 l.length (rowsF.set k [.p (.str f.name),A,B']) ((l.map Fd.cs).set k (Fd.mk f.name f.params sl').cs) hUF (by simp) (by have:=(hF2 0).len;simpa using this) (λe he=>by
   rcases WK he with h|rfl
   ·exact(hF2 0).rl e h
   ·rfl) (λe he=>by
   rcases WK he with h|rfl
   ·exact(hF2 0).dl e h
   ·rfl) oW .nil
  rw[hD'] at tree
  have hsz:=Gi l k ⟨f.name,f.params,sl'⟩
  have hfz:f.sz=1+f.name.length+(f.params.length+(f.params.map List.length).sum)+aD f.body:=rfl
  have hfz':(Fd.mk f.name f.params sl').sz=1+f.name.length+(f.params.length+(f.params.map List.length).sum)+aD sl':=rfl
  refine MN (l:=l.set k ⟨f.name,f.params,sl'⟩) tree (λi hi=>?_) (by omega) h3 h4
  simp only[Wd,Wf,WV,or_false] at hi
  rcases hi with rfl|hi|(hi|hi)|hi
  ·omega
  ·have:=hI3 i (by simp[hi]);omega
  ·have:=hI3 i (by simp[hi]);omega
  ·exact hI' i hi
  ·have:=hI3 i (by simp[hi]);omega
 have hset:rowsF.set k [.p (.str f.name),A,B]=rowsF:=by
  apply List.ext_getElem?
  intro i
  by_cases hi:k=i
  ·subst hi;rw[Wi (VZ.1 r1).1,r1]
  ·rw[Wc hi]
 have hf2:2<=fF:=by omega
 have s0:∀x,(T.set 0 x)[0]?=some x:=λx=>Wi (by have:=(VZ.1 t0).1;omega)
 have hbz:f.sz=1+f.name.length+(f.params.length+(f.params.map List.length).sum)+aD f.body:=rfl
 simp-implicitDefEqProofs[aa,t0,t1,tF,r1,hkl]
 have fin0:∀q' x,p<=q'->q'<=p+400500000->DP b (PgQ p 900000000 400500000) (.ret (.agg [.sl (fF+1) 3 0 l.length])) (rdO b q'::T.set 0 x):=λq' x h3 h4=>
  finG (T.set 0 x) q' B IB f.body (λi h1 _ _ _=>Wc (by omega)) (by rw[Wc (by omega),hset];exact tF) (oB.frame λj hj=>by
   have:=hIB j hj
   obtain⟨i,rfl⟩:∃i,j=i+1:=⟨j-1,by omega⟩
   rw[Ws,Ws,Wc (by omega)]) (λi hi=>by have:=hIB i hi;omega) (by omega) h3 h4
 rcases oB.inv nIB with⟨h0,_,rfl|rfl⟩|⟨h0,_⟩|⟨idB,rowsB,JB,rfl,rfl,hB⟩
 ·simp-implicitDefEqProofs[t0,t1,s0]
  exact fin0 _ _ (by omega) (by omega)
 ·simp-implicitDefEqProofs[t0,t1,s0]
  exact fin0 _ _ (by omega) (by omega)
 ·cases h0
 rw[WD] at*
 by_cases hbe:f.body.length=0
 ·simp-implicitDefEqProofs[hbe,t0,t1,s0]
  have:=fin0 (q+1+1+1) (.row 1 [[.sl (fF+1) 3 0 l.length]]) (by omega) (by omega)
  exact this
 simp-implicitDefEqProofs[hbe,t0,t1,tF,r1]
 refine(bc G b hb hl (q+1+1+1) (by omega) f.body.length _).mono ?_
 rintro r h ⟨j,rfl,rfl,hj⟩
 have hjl:j<f.body.length:=by omega
 obtain⟨fB,rfl⟩:∃fB,idB=fB+1:=⟨idB-1,by have:=hIB idB (by simp);omega⟩
 have hB3:=hIB (fB+1) (by simp)
 have tB:T[fB]?=some (.row 5 rowsB):=hB.here
 have hgj:=Wa hjl
 have hzj:=fV (Wo hjl)
 have hok5:aJ 4 f.body[j]=true:=by
  simp only[jP,Wl] at hfk
  exact Wj.1 hfk.2 _ (Wo hjl)
 have hDj:(f.body.map Sm.cs)[j]?=some f.body[j].cs:=by rw[Wt,hgj];rfl
 generalize f.body[j]=sm at hgj hzj hok5 hDj
 obtain⟨rB,K1,Kj,K2,u1,rfl,u2,u5⟩:=hB.own.put hB.len hB.rl hB.dl hDj
 obtain⟨A1,B1,E1,I1,I2,I3,rfl,rfl,oA1,oB1,oE1⟩:=RU u2
 simp-implicitDefEqProofs[aa,hjl,t0,t1,tF,r1,tB,u1]
 refine(Ge G hb hl (p:=q+1+1+1+1) (by omega) [[122,122],[97],[98],[99],[100]] (k:=T.length+1) (by simp) (by simp) (by omega) rfl (by simp[fX])).mono ?_
 rintro r h ⟨s,hs,rfl,rfl⟩
 have hs8:s.length<=8:=by simp at hs;rcases hs with rfl|rfl|rfl|rfl|rfl<;>simp
 have nB:=nIB
 rw[Wy] at nB
 have finS:∀(U:List AO) (q':Nat) (o':Int) (nm':List UInt8) (A':AV) (I':List Nat) (ar':List Ex),(∀i,2<=i->i<T.length->i≠fB->i+1∉I1->U[i]?=T[i]?)->U[fB]?=some (.row 5 (rowsB.set j [.p (.int .i64 o'),.p (.str nm'),A',B1,E1]))->OwnL true (rdO b q'::U) [A'] [exL ar'] I'->(∀i∈I',1<=i)->
  aM ar'+nm'.length<=aM sm.args+sm.name.length+1000->p<=q'->q'<=p+400500000->DP b (PgQ p 900000000 400500000) (.ret (.agg [.sl (fF+1) 3 0 l.length])) (rdO b q'::U):=by
  intro U q' o' nm' A' I' ar' hU hUB oA' hI' hz' h3 h4
  have hmem:∀x∈K1++K2++I2++I3,x∈K1++(I1++(I2++I3)++K2):=λx hx=>by
   simp only[Wf] at hx⊢
   rcases hx with((hx|hx)|hx)|hx<;>simp[hx]
  have hltB:∀x∈K1++(I1++(I2++I3)++K2),x<T.length+1:=λx hx=>by have:=hB.own.lt hx;simpa using this
  have hfr:∀x∈K1++K2++I2++I3,(rdO b q'::U)[x]?=(rdO b (q+1+1+1)::T)[x]?:=λx hx=>by
   have hm:=hmem x hx
   have hx3:=hIB x (Wx _ hm)
   have hxl:=hltB x hm
   obtain⟨i,rfl⟩:∃i,x=i+1:=⟨x-1,by omega⟩
   rw[Ws,Ws]
   refine hU i (by omega) (by omega) (λe=>nB.1 (e▸hm)) λhm1=>?_
   have hn:=nB.2
   simp only[WX,Wf] at hn
   obtain⟨n1,⟨⟨n2,⟨n3,n3',n3''⟩,n4⟩,n5,n6⟩,n7⟩:=hn
   simp only[Wf] at hx
   rcases hx with((hx|hx)|hx)|hx
   ·exact n7 _ hx _ (.inl (.inl hm1)) rfl
   ·exact n6 _ (.inl hm1) _ hx rfl
   ·exact n4 _ hm1 _ (.inl hx) rfl
   ·exact n4 _ hm1 _ (.inr hx) rfl
  have oS:=RN (s:=true) (o:=o') (w:=nm') oA' (oB1.frame λi hi=>hfr i (by simp[hi])) (oE1.frame λi hi=>hfr i (by simp[hi]))
  have oW:=u5 (rdO b q'::U) _ _ _ (λx hx=>hfr x (by simp only[Wf] at hx⊢;exact .inl (.inl hx))) oS
  have hD':(f.body.map Sm.cs).set j (Sm.mk o' nm' ar' sm.body sm.els).cs=(f.body.set j ⟨o',nm',ar',sm.body,sm.els⟩).map Sm.cs:=by rw[List.map_set]
  have tree:=OwnL.sl (s:=true) (h:=rdO b q'::U) (fB+1) 5 f.body.length (rowsB.set j [.p (.int .i64 o'),.p (.str nm'),A',B1,E1]) ((f.body.map Sm.cs).set j (Sm.mk o' nm' ar' sm.body sm.els).cs) hUB (by simp) (by have:=hB.len;simpa using this) (λe he=>by
   rcases WK he with h|rfl
   ·exact hB.rl e h
   ·rfl) (λe he=>by
   rcases WK he with h|rfl
   ·exact hB.dl e h
   ·exact Sm.cs_len _) oW .nil
  rw[hD'] at tree
  have hsz:=LK (s:=⟨o',nm',ar',sm.body,sm.els⟩) hgj
  have hsm:=sm.sz_eq
  have hsm':(Sm.mk o' nm' ar' sm.body sm.els).sz=1+nm'.length+aM ar'+aD sm.body+aD sm.els:=rfl
  have hFB:fF≠fB:=λe=>hn1 (by rw[e];simp)
  have hFI:fF+1∉I1:=λhm=>hn1 (by simp[hm])
  have hFT:fF<T.length:=(VZ.1 tF).1
  refine finG U q' (.sl (fB+1) 5 0 f.body.length) _ (f.body.set j ⟨o',nm',ar',sm.body,sm.els⟩) (λi g1 g2 g3 g4=>hU i g1 g2 (λe=>g4 (by rw[e];simp)) λhm=>g4 (by simp[hm])) (by rw[hU fF hf2 hFT hFB hFI,hset];exact tF) tree (λi hi=>?_) (by omega) h3 h4
  simp only[Wd,Wf,WV,or_false] at hi
  rcases hi with rfl|hi|(hi|hi|hi)|hi
  ·omega
  ·have:=hIB i (by simp[hi]);omega
  ·exact hI' i hi
  ·have:=hIB i (by simp[hi]);omega
  ·have:=hIB i (by simp[hi]);omega
  ·have:=hIB i (by simp[hi]);omega
 have hTl:2<=T.length:=by have:=(VZ.1 t1).1;omega
 have hBT:fB<T.length:=(VZ.1 tB).1
 have hI1:∀i∈I1,3<=i/\i<T.length+1:=λi hi=>⟨hIB i (by simp[hi]),by have:=oA1.lt hi;simpa using this⟩
 have oA1u:∀(U:List AO) (q':Nat),(∀i,2<=i->i<T.length->i+1∈I1->U[i]?=T[i]?)->OwnL true (rdO b q'::U) [A1] [exL sm.args] I1:=λU q' hU=>oA1.frame λx hx=>by
  obtain⟨h3,h4⟩:=hI1 x hx
  obtain⟨i,rfl⟩:∃i,x=i+1:=⟨x-1,by omega⟩
  rw[Ws,Ws]
  exact hU i (by omega) (by omega) hx
 have hsmz:=sm.sz_eq
 have finU:∀(U:List AO) (q':Nat),(∀i,2<=i->i<T.length->U[i]?=T[i]?)->p<=q'->q'<=p+400500000->DP b (PgQ p 900000000 400500000) (.ret (.agg [.sl (fF+1) 3 0 l.length])) (rdO b q'::U):=λU q' hU h3 h4=>
  finS U q' sm.op sm.name A1 I1 sm.args (λi a1 a2 _ _=>hU i a1 a2) (by rw[hU fB (by omega) hBT,EY u1];exact tB) (oA1u U q' λi a1 a2 _=>hU i a1 a2) (λi hi=>by have:=(hI1 i hi).1;omega) (by omega) h3 h4
 have a0:∀os,(T++os)[0]?=some (.row 1 [[.nils]]):=λos=>by rw[VY (VZ.1 t0).1];exact t0
 have a1:∀os,(T++os)[1]?=some (.row 1 [[.sl (fF+1) 3 0 l.length]]):=λos=>by rw[VY (VZ.1 t1).1];exact t1
 have aF:∀os,(T++os)[fF]?=some (.row 3 rowsF):=λos=>by rw[VY (VZ.1 tF).1];exact tF
 have aB:∀os,(T++os)[fB]?=some (.row 5 (rowsB)):=λos=>by rw[VY (VZ.1 tB).1];exact tB
 simp-implicitDefEqProofs[aa]
 refine(bc G b hb hl (q+1+1+1+1+1) (by omega) 4 _).mono ?_
 rintro r h ⟨k3,rfl,rfl,_⟩
 have nI1:I1.Nodup:=(WX.1 (WX.1 (WX.1 nB.2).2.1).1).1
 have hargs:0<sm.args.length:=by
  simp only[aJ,fU,Wl,decide_eq_true_eq] at hok5
  have:=hok5.1.1.1.1.1.1.1.1.2
  rw[this];unfold jF;split<;>omega
 have hA0:sm.args.map Ex.cs≠[]:=by intro h;rw[List.map_eq_nil_iff] at h;rw[h] at hargs;simp at hargs
 obtain⟨idA,rowsA,JA,rfl,rfl,hA⟩:∃id rows J,A1= .sl id 4 0 sm.args.length/\I1=id::J/\RowOwn true (rdO b (q+1+1+1)::T) id 4 rows (sm.args.map Ex.cs) J:=by
  rcases oA1.inv nI1 with⟨h0,_⟩|⟨h0,_⟩|⟨id,rows,J,e1,e2,e3⟩
  ·exact absurd h0 hA0
  ·cases h0
  ·rw[WD] at e1;exact⟨id,rows,J,e1,e2,e3⟩
 obtain⟨fA,rfl⟩:∃fA,idA=fA+1:=⟨idA-1,by have:=(hI1 idA (by simp)).1;omega⟩
 have hA3:=hI1 (fA+1) (by simp)
 have tA:T[fA]?=some (.row 4 rowsA):=hA.here
 have aA:∀os,(T++os)[fA]?=some (.row 4 rowsA):=λos=>by rw[VY (by omega)];exact tA
 have hg0:=Wa hargs
 have hz0:=cJ (Wo hargs)
 have hD0:(sm.args.map Ex.cs)[0]?=some sm.args[0].cs:=by rw[Wt,hg0];rfl
 generalize sm.args[0]=e0 at hg0 hz0 hD0
 obtain⟨r0,L1,L0,L2,g1,rfl,g3,g5⟩:=hA.own.put hA.len hA.rl hA.dl hD0
 obtain⟨K0,rfl,_⟩:=Hp g3
 have nA:=nI1
 rw[Wy] at nA
 have finA:∀(U:List AO) (q':Nat) (o n:Int) (w:List UInt8) (K:AV) (IK:List Nat) (ks:List Ex),(∀i,2<=i->i<T.length->i≠fA->U[i]?=T[i]?)->U[fA]?=some (.row 4 (rowsA.set 0 [.p (.int .i64 o),.p (.int .i64 n),.p (.str w),K]))->OwnL true (rdO b q'::U) [K] [exL ks] IK->(∀i∈IK,1<=i)->
  (Ex.mk o n w ks).sz<=500->p<=q'->q'<=p+400500000->DP b (PgQ p 900000000 400500000) (.ret (.agg [.sl (fF+1) 3 0 l.length])) (rdO b q'::U):=by
  intro U q' o n w K IK ks hU hUA oK hIK hz' h3 h4
  have hfr:∀x∈L1++L2,(rdO b q'::U)[x]?=(rdO b (q+1+1+1)::T)[x]?:=λx hx=>by
   have hm:x∈L1++(L0++L2):=by
    simp only[Wf] at hx⊢
    rcases hx with hx|hx
    ·exact .inl hx
    ·exact .inr (.inr hx)
   obtain⟨hx3,hx4⟩:=hI1 x (Wx _ hm)
   obtain⟨i,rfl⟩:∃i,x=i+1:=⟨x-1,by omega⟩
   rw[Ws,Ws]
   exact hU i (by omega) (by omega) λe=>nA.1 (e▸hm)
  have oW:=g5 (rdO b q'::U) _ _ _ hfr (Li (o:=o) (n:=n) (w:=w) oK)
  have hD':(sm.args.map Ex.cs).set 0 (Ex.mk o n w ks).cs=(sm.args.set 0 ⟨o,n,w,ks⟩).map Ex.cs:=by rw[List.map_set]
  have tree:=OwnL.sl (s:=true) (h:=rdO b q'::U) (fA+1) 4 sm.args.length (rowsA.set 0 [.p (.int .i64 o),.p (.int .i64 n),.p (.str w),K]) ((sm.args.map Ex.cs).set 0 (Ex.mk o n w ks).cs) hUA (by simp) (by have:=hA.len;simpa using this) (λe he=>by
   rcases WK he with h|rfl
   ·exact hA.rl e h
   ·rfl) (λe he=>by
   rcases WK he with h|rfl
   ·exact hA.dl e h
   ·exact Ex.cs_len _) oW .nil
  rw[hD'] at tree
  have hsz:=LU sm.args 0 ⟨o,n,w,ks⟩
  have hBA:fB≠fA:=λe=>nB.1 (by rw[e];simp)
  refine finS U q' sm.op sm.name (.sl (fA+1) 4 0 sm.args.length) _ (sm.args.set 0 ⟨o,n,w,ks⟩) (λi g1 g2 _ g4=>hU i g1 g2 λe=>g4 (by rw[e];simp)) (by rw[hU fB (by omega) hBT hBA,EY u1];exact tB) tree (λi hi=>?_) (by omega) h3 h4
  simp only[Wd,Wf,WV,or_false] at hi
  rcases hi with rfl|hi|hi|hi
  ·omega
  ·have:=(hI1 i (by simp[hi])).1;omega
  ·exact hIK i hi
  ·have:=(hI1 i (by simp[hi])).1;omega
 have w0:∀os x,((T++os).set 0 x)[0]?=some x:=λos x=>Wi (by simp only[Wq];omega)
 have v0:∀os x,((T++os).set fA x)[0]?=some (.row 1 [[.nils]]):=λos x=>by rw[Wc (by omega)];exact a0 os
 have v1:∀os x,((T++os).set fA x)[1]?=some (.row 1 [[.sl (fF+1) 3 0 l.length]]):=λos x=>by rw[Wc (by omega)];exact a1 os
 have v2:∀os x y,(((T++os).set fA x).set 0 y)[0]?=some y:=λos x y=>Wi (by simp only[WU,Wq];omega)
 have hv:∀os x y (i:Nat),2<=i->i<T.length->i≠fA->(((T++os).set fA x).set 0 y)[i]?=T[i]?:=λos x y i h1 h2 h3=>by
  rw[Wc (by omega),Wc (by omega),VY h2]
 have aE:∀x y os,(T++x::y::os)[T.length+1]?=some y:=λx y os=>by rw[We (by omega),Xb];rfl
 have aE2:∀x y z os,(T++x::y::os).set (T.length+1) z=T++x::z::os:=λx y z os=>by rw[List.set_append_right _ _ (by omega),Xb];rfl
 by_cases c1:k3=1
 ·subst c1
  simp-implicitDefEqProofs[aa, ↓a0, ↓a1, ↓aF, ↓aB,u1,hjl]
  refine aO (λhn=>?_) (λhn=>?_)
  ·simp-implicitDefEqProofs[]
   refine(Ge G hb hl (p:=q+1+1+1+1+1+1) (by omega) [[97],[98],[122,122],[99],[100]] (k:=T.length+2+1) (by simp) (by simp) (by omega) rfl (by simp[fX])).mono ?_
   rintro r h ⟨s2,hs2,rfl,rfl⟩
   have hs28:s2.length<=8:=by simp at hs2;rcases hs2 with rfl|rfl|rfl|rfl|rfl<;>simp
   have v0:∀os x,((T++os).set fB x)[0]?=some (.row 1 [[.nils]]):=λos x=>by rw[Wc (by omega)];exact a0 os
   have v1:∀os x,((T++os).set fB x)[1]?=some (.row 1 [[.sl (fF+1) 3 0 l.length]]):=λos x=>by rw[Wc (by omega)];exact a1 os
   have v2:∀os x y,(((T++os).set fB x).set 0 y)[0]?=some y:=λos x y=>Wi (by simp only[WU,Wq];omega)
   simp-implicitDefEqProofs[aa, ↓a0, ↓a1, ↓aF, ↓aB,u1,hjl, ↓v0, ↓v1, ↓v2,-getElem?_pos,List.getElem?_cons_zero,Ws]
   have hv:∀os x y (i:Nat),2<=i->i<T.length->i≠fB->(((T++os).set fB x).set 0 y)[i]?=T[i]?:=λos x y i h1 h2 h3=>by
    rw[Wc (by omega),Wc (by omega),VY h2]
   refine finS _ _ sm.op s2 (.sl (fA+1) 4 0 sm.args.length) _ sm.args ?_ ?_ (oA1u _ _ ?_) (λi hi=>by have:=(hI1 i hi).1;omega) (by omega) (by omega) (by omega)
   ·intro i h1 h2 h3 _;exact hv _ _ _ i h1 h2 h3
   ·rw[Wc (by omega),Wi (by simp only[Wq];omega)]
   ·intro i h1 h2 h3
    exact hv _ _ _ i h1 h2 (λe=>nB.1 (by rw[←e];simp only[Wf];exact .inr (.inl (.inl h3))))
  ·simp-implicitDefEqProofs[↓a0, ↓a1, ↓w0,-getElem?_pos,List.getElem?_cons_zero,Ws]
   refine finU _ _ ?_ (by omega) (by omega)
   intro i h1 h2
   rw[Wc (by omega),VY h2]
 by_cases c2:k3=2
 ·subst c2
  have hw:∀(q':Nat) (os:List AO),OwnL true (rdO b q'::(T++os)) [.sl (fB+1) 5 0 f.body.length] [smL f.body] ((fB+1)::(K1++(((fA+1)::(L1++(L0++L2)))++(I2++I3)++K2))):=λq' os=>oB.frame λx hx=>by
   have h3:=hIB x hx
   have h4:x<T.length+1:=by have:=oB.lt hx;simpa using this
   obtain⟨i,rfl⟩:∃i,x=i+1:=⟨x-1,by omega⟩
   rw[Ws,Ws,VY (by omega)]
  have hv1:∀(q':Nat) (os:List AO),View (rdO b q'::(T++os)) (.sl (fB+1) 5 0 1) (smL (f.body.take 1)):=λq' os=>by
   have:=Ml (m:=1) ((hw q' os).view 0 _ _ rfl rfl) (by simp;omega)
   rw[←List.map_take] at this
   exact this
  have hz1:aD (f.body.take 1)<=aD f.body:=by
   have e:f.body=f.body.take 1++f.body.drop 1:=(WI _ _).symm
   have:aD f.body=aD (f.body.take 1)+aD (f.body.drop 1):=by rw[←aV,←e]
   omega
  have hS:=Dl G _ (f.body.take 1) (Nat.lt_succ_self _) (by omega)
  simp-implicitDefEqProofs[aa, ↓a0, ↓a1, ↓aF, ↓aB,r1,hkl]
  refine⟨by omega,?_⟩
  refine(AC.mkLend tH hS (.one (hv1 _ _) .nil)).mono ?_
  rintro r h ⟨vs,IN,os2,rfl,rfl,oN,nN,hN⟩
  obtain⟨vN,rfl⟩:=gA oN
  have hl1:(f.body.take 1).length=1:=by rw[Wv];omega
  have hneN:(f.body.take 1).map Sm.cs≠[]:=by intro h;rw[List.map_eq_nil_iff] at h;rw[h] at hl1;simp at hl1
  obtain⟨idN,rowsN,JN,rfl,rfl,hRN⟩:∃id rows J,vN= .sl id 5 0 1/\IN=id::J/\RowOwn true _ id 5 rows ((f.body.take 1).map Sm.cs) J:=by
   rcases oN.inv nN with⟨h0,_⟩|⟨h0,_⟩|⟨id,rows,J,e1,e2,e3⟩
   ·exact absurd h0 hneN
   ·cases h0
   ·rw[WD,hl1] at e1;exact⟨id,rows,J,e1,e2,e3⟩
  have hidN:=hN idN (by simp)
  simp at hidN
  obtain⟨fN,rfl⟩:∃fN,idN=fN+1:=⟨idN-1,by omega⟩
  have hFT:fF<T.length:=(VZ.1 tF).1
  have tN:=hRN.here
  simp only[WR,WL,Ws,List.nil_append] at tN
  have hrN:rowsN.length=1:=by have:=hRN.len;rw[WD,hl1] at this;exact this
  have hrB:rowsB.length=f.body.length:=by have:=hB.len;simpa using this
  have z1:∀os o y,((T++os).set fB o++y)[fF]?=some (.row 3 rowsF):=λos o y=>by
   rw[VY (by simp only[WU,Wq];omega),Wc (λe=>hn1 (by rw[←e];simp))];exact aF os
  have z2:∀os o y x,(((T++os).set fB o++y).set fF x)[0]?=some (.row 1 [[.nils]]):=λos o y x=>by
   rw[Wc (by omega),VY (by simp only[WU,Wq];omega),Wc (by omega)];exact a0 os
  have z3:∀os o y x,(((T++os).set fB o++y).set fF x)[1]?=some (.row 1 [[.sl (fF+1) 3 0 l.length]]):=λos o y x=>by
   rw[Wc (by omega),VY (by simp only[WU,Wq];omega),Wc (by omega)];exact a1 os
  have z4:∀os o y x w,((((T++os).set fB o++y).set fF x).set 0 w)[0]?=some w:=λos o y x w=>Wi (by simp only[WU,Wq];omega)
  simp-implicitDefEqProofs[aa,dP, ↓a0, ↓a1, ↓aF, ↓aB, ↓tN, ↓z1, ↓z2, ↓z3, ↓z4,r1,hkl,hrN,hrB,-getElem?_pos,List.getElem?_cons_zero,Ws]
  rw[Wg (l:=rowsB) (by omega),Wg (l:=rowsN) (by omega)]
  have hbl:=bM f.body
  refine⟨⟨by omega,by omega⟩,?_⟩
  have hJB:∀x∈K1++(((fA+1)::(L1++(L0++L2)))++(I2++I3)++K2),3<=x/\x<T.length+1/\x≠fF+1/\x≠fB+1:=λx hx=>⟨hIB x (Wx _ hx),by have:=hB.own.lt hx;simpa using this,λe=>hn1 (by rw[←e];simp only[Wf];exact .inr (.inl (.inr (Wx _ hx)))),λe=>nB.1 (e▸hx)⟩
  have hJN:∀x∈JN,T.length+3<=x/\x<T.length+3+os2.length:=λx hx=>⟨by have:=hN x (by simp[hx]);simp at this;omega,by have:=hRN.own.lt hx;simp at this;omega⟩
  have nle:∀(W:List AO) (fo bo:AO) (x y:AO),∀i,2<=i->i<T.length->i≠fF->i≠fB->(((((T++W).set fB bo)++[y]).set fF fo).set 0 x)[i]?=T[i]?:=λW fo bo x y i h1 h2 h3 h4=>by
   rw[Wc (by omega),Wc (by omega),VY (by simp only[WU,Wq];omega),Wc (by omega),VY h2]
  have nri:∀(W:List AO) (fo bo:AO) (x y:AO),∀i,T.length<=i->i<(T++W).length->(((((T++W).set fB bo)++[y]).set fF fo).set 0 x)[i]?=(T++W)[i]?:=λW fo bo x y i h1 h2=>by
   rw[Wc (by omega),Wc (by omega),VY (by simpa using h2),Wc (by omega)]
  have hbl2:=bM f.body
  have hzN:aD (f.body++f.body.take 1)<=400000000:=by rw[aV];omega
  refine finG _ _ (.sl (T.length+(os2.length+1+1)+1) 5 0 (f.body.length+1)) ((T.length+(os2.length+1+1)+1)::((K1++(((fA+1)::(L1++(L0++L2)))++(I2++I3)++K2))++JN++[])) (f.body++f.body.take 1) (λi g1 g2 g3 g4=>nle _ _ _ _ _ i g1 g2 g3 (λe=>g4 (by rw[e];simp))) ?_ ?_ ?_ (by omega) (by omega) (by omega)
  ·rw[Wc (by omega),Wi (by simp only[WU,Wq];omega)]
  ·refine OwnL.sl _ 5 (f.body.length+1) (rowsB++rowsN) ((f.body++f.body.take 1).map Sm.cs) ?_ (by rw[WD,Wq,hl1]) (by rw[Wq,WD,Wq,hl1,hrB,hrN]) (λe he=>?_) (λe he=>by obtain⟨x,_,rfl⟩:=WC.1 he;simp) ?_ .nil
   ·rw[Ws,Wc (by omega),Wc (by omega),We (by simp)]
    simp
   ·rcases Wf.1 he with h|h
    ·exact hB.rl e h
    ·exact hRN.rl e h
   ·rw[List.map_append,Xa,Xa]
    refine(hB.own.frame λx hx=>?_).app (hRN.own.frame λx hx=>?_)
    ·obtain⟨x1,x2,x3,x4⟩:=hJB x hx
     obtain⟨i,rfl⟩:∃i,x=i+1:=⟨x-1,by omega⟩
     rw[Ws,Ws]
     exact nle _ _ _ _ _ i (by omega) (by omega) (by omega) (by omega)
    ·obtain⟨x1,x2⟩:=hJN x hx
     obtain⟨i,rfl⟩:∃i,x=i+1:=⟨x-1,by omega⟩
     simp only[WR,WL,Ws,List.nil_append]
     exact nri _ _ _ _ _ i (by omega) (by simp;omega)
  ·intro i hi
   simp only[Wd,Wf,WV,or_false] at hi
   rcases hi with rfl|hi|hi
   ·omega
   ·have:=(hJB i (by simp only[Wd,Wf];exact hi)).1;omega
   ·have:=(hJN i hi).1;omega
 by_cases c0:k3=0
 ·subst c0
  simp-implicitDefEqProofs[aa]
  refine(Ge G hb hl (p:=q+1+1+1+1+1+1) (by omega) [[102],[103],[109],[113]] (k:=T.length+2+1) (by simp) (by simp) (by omega) rfl (by simp[fX])).mono ?_
  rintro r h ⟨s2,hs2,rfl,rfl⟩
  have hs28:s2.length<=8:=by simp at hs2;rcases hs2 with rfl|rfl|rfl|rfl<;>simp
  simp-implicitDefEqProofs[aa, ↓a0, ↓a1, ↓aB,u1,hjl, ↓aE, ↓aE2,-getElem?_pos,List.getElem?_cons_zero,Ws]
  refine aO (λhn=>?_) (λhn=>?_)
  ·simp-implicitDefEqProofs[↓a0, ↓a1, ↓aB, ↓aA,u1,hjl,g1,hargs, ↓v0, ↓v1, ↓v2, ↓aE,-getElem?_pos,List.getElem?_cons_zero,Ws]
   refine finA _ _ 13 0 s2 (.sl (T.length+3+1) 4 0 1) [T.length+3+1] [⟨1,1,[],[]⟩] (λi h1 h2 h3=>hv _ _ _ i h1 h2 h3) ?_ ?_ (by simp) (by simp[Ex.sz,aM];omega) (by omega) (by omega)
   ·rw[Wc (by omega),Wi (by simp only[Wq];omega)]
   ·refine RowOwn.tree (rows:=[[.p (.int .i64 1),.p (.int .i64 1),.p (.str []),.nils]]) (J:=[]) ⟨?_,rfl,by simp,by simp,?_,by simp⟩ rfl
    ·rw[Ws,Wc (by omega),Wc (by omega),We (by omega),Xb];rfl
    ·simpa using Li (s:=true) (o:=1) (n:=1) (w:=[]) (k:=[]) (.nils 4 .nil)
  ·simp-implicitDefEqProofs[↓a0, ↓a1, ↓w0,-getElem?_pos,List.getElem?_cons_zero,Ws]
   refine finU _ _ ?_ (by omega) (by omega)
   intro i h1 h2
   rw[Wc (by omega),VY h2]
 have d1:¬(k3:Int)=1:=by omega
 have d2:¬(k3:Int)=2:=by omega
 simp-implicitDefEqProofs[aa,c0,d1,d2, ↓a0, ↓a1, ↓aF, ↓aB,u1,hjl]
 refine aO (λhn=>?_) (λhn=>?_)
 ·simp-implicitDefEqProofs[↓a0, ↓a1, ↓aB, ↓aA,u1,hjl,g1,hargs, ↓v0, ↓v1, ↓v2, ↓aE,-getElem?_pos,List.getElem?_cons_zero,Ws]
  refine finA _ _ 2 0 s .nils [] [] (λi h1 h2 h3=>hv _ _ _ i h1 h2 h3) ?_ (.nils 4 .nil) (by simp) (by simp[Ex.sz,aM];omega) (by omega) (by omega)
  rw[Wc (by omega),Wi (by simp only[Wq];omega)]
 ·simp-implicitDefEqProofs[↓a0, ↓a1, ↓w0,-getElem?_pos,List.getElem?_cons_zero,Ws]
  refine finU _ _ ?_ (by omega) (by omega)
  intro i h1 h2
  rw[Wc (by omega),VY h2]
end
section
variable (G:aK)
theorem MG{ρ:List Nat}:∀{args:List AV},ay 0 args->TW ρ args args
 |[],_=>trivial
 |v::r,h=>⟨.inr ⟨(aT (WH _) [v] ⟨h.1,trivial⟩).1,by have:=ep ρ [v] ⟨h.1,trivial⟩;simpa[bq] using this⟩,MG h.2⟩
theorem Vw{f:FuncId}{args:List AV}{b:List Int}{p:Nat}{Q:AV->Nat->Prop}(H:AC Tryz.prog G f (.ptr 0 2 0 0::args) [rdO b p] λx h=>∃v q,x= .ret v/\h=[rdO b q]/\Q v q)(hq:∀v q,Q v q->below 0 v){h:List AO}{k:Nat}(hk:h[k]?=some (rdO b p))(ha:ay 0 args):
 AC Tryz.prog G f (.ptr k 2 0 0::args) h λx h'=>∃v q,x= .ret v/\h'=h.set k (rdO b q)/\Q v q:=by
 refine(H.frame (h:=h) (args:= .ptr k 2 0 0::args) [k] (by simp) ⟨.inr ⟨by simp[below],by simp[ren]⟩,MG ha⟩ (dA hk (bt _ _ _) da)).mono ?_
 rintro x h' ⟨x0,h0,⟨v,q,rfl,rfl,r⟩,hl,rfl,rfl⟩
 refine⟨v,q,?_,?_,r⟩
 ·simp only[Cf]
  have:=ep ([k]++List.range' h.length ([rdO b q].length-[rdO b p].length)) [v] ⟨hq v q r,trivial⟩
  simpa[bq] using this
 ·have hp2:∀σ,ij σ (rdO b q)=rdO b q:=λσ=>by simp[rdO,ij,bq,ren]
  simp[mrg,hp2]
theorem MM{l:List Int}(h:Byt l)(n:Nat):Byt (l.take n):=λx hx=>h x (Xf hx)
def DrP(n:Nat)(x:ARes):Prop:=∃l:List Fd,x= .ret (.agg [.p (fdL l)])/\aW l<=n
theorem Le{f:FuncId}{args:List AV}{R:ARes->Prop}(H:AC Tryz.prog G f args [] λx _=>R x)(hR:∀x,R x->∃v,x= .ret v/\below 0 v)(ha:ay 0 args)(h:List AO):AC Tryz.prog G f args h λx h'=>R x/\h'=h:=by
 have H2:AC Tryz.prog G f args [] λx h'=>R x/\h'=[]:=by
  refine H.wk (λt v h' r=>by obtain⟨_,e,_⟩:=hR _ r;cases e) λv h' r=>?_
  obtain⟨v',e,hv⟩:=hR _ r
  cases e
  exact⟨v,[],Ni rfl ⟨.inr ⟨hv,rfl⟩,trivial⟩,r,rfl⟩
 refine(H2.pre h ha (λo ho=>by cases ho) (λx h' r=>by rw[r.2])).mono ?_
 rintro x h' ⟨h1,⟨r,rfl⟩,rfl⟩
 exact⟨r,rfl⟩
theorem NA{n:Nat}:∀x,DrP n x->∃v,x= .ret v/\below 0 v:=λx ⟨l,e,_⟩=>⟨_,e,by simp[below]⟩
variable (hK:G jl=some gY) (hS:G dU=some [.tbl opK opV])
include hK hS
omit hK hS in
theorem DY(l:List Fd)(n:Nat):aW (l.take n)<=aW l:=by
 have e:aW l=aW (l.take n)+aW (l.drop n):=by rw[←kV,WI]
 omega
end
section
variable (G:aK)
theorem zx(code:List Int)(hb:Byt code):AC Tryz.prog G eU [.p (vA code)] [] λx _=>DrP 900000000 x:=by
 refine AC.go pL ?_
 simp-implicitDefEqProofs[jN]
 refine(AC.lift (Ro G code) (by simp) rfl rfl).mono ?_
 rintro r h ⟨rfl,rfl⟩
 have hr:∀n,db n (rdO (code.take 2000) 0)=rdO (code.take 2000) 0:=λn=>by simp[rdO,db,dH,cm]
 have hbt:=MM hb 2000
 have hbl:(code.take 2000).length<=2000:=by rw[Wv];omega
 generalize code.take 2000=b at hr hbt hbl
 simp-implicitDefEqProofs[aa,cm,hr]
 refine(Vw G (NQ G hbt hbl (p:=0) (by omega)) (λv q ⟨⟨l,e,_⟩,_⟩=>by rw[e];simp[below]) (h:=[.row 1 [[.nils]],rdO b 0]) (k:=1) rfl trivial).mono ?_
 rintro r h ⟨v,q,rfl,rfl,⟨l,rfl,hz⟩,hq1,hq2⟩
 simp-implicitDefEqProofs[aa]
 exact⟨l,rfl,hz⟩
variable (hK:G jl=some gY) (hS:G dU=some [.tbl opK opV])
include hK hS
theorem Jb{l:List Fd}(h:dC l=true):uT l=unN (unL l):=by
 have _:=hK
 have _:=hS
 rw[uT,if_pos h]
theorem Cj(code:List Int)(hb:Byt code)(hl:code.length<=9223372036854775807):VF Tryz.prog G lb [.p (vA code)] (.p (.bool true)):=by
 have hbl:vA code= .lst 1 (code.map λn=>[.int .u8 n]):=rfl
 refine AC.go sT ?_
 simp-implicitDefEqProofs[lO,hbl]
 refine aO (λ_=>?_) (λ_=>?_)
 ·simp-implicitDefEqProofs[]
 simp-implicitDefEqProofs[]
 have hd:=Le G (zx G code hb) NA (by simp) []
 rw[hbl] at hd
 refine hd.mono ?_
 rintro r h ⟨⟨l,rfl,hz⟩,rfl⟩
 simp-implicitDefEqProofs[aa]
 refine(vX G hK hS l (by omega)).use ?_
 simp-implicitDefEqProofs[]
 refine(vD G l (by omega)).use ?_
 cases hok:dC l with
 |false=>
  have hm:uT l= -1:=by rw[uT,if_neg (by simp[hok])]
  simp-implicitDefEqProofs[hm]
  refine(vD G l (by omega)).use ?_
  simp-implicitDefEqProofs[hm]
 |true=>
 obtain⟨h0,hu⟩:=rq hok
 have hp:=DC h0
 have hs:=kH hp
 have hl4:1<=l.length/\l.length<=4:=((dM l).1 hp).1
 have hn:uT l=unN (unL l):=Jb G hK hS hok
 have h8:=(Ez hu).1
 have hins:=ON (l:=l) (λf hf=>by have:=rg hf;omega) l
 have hins2:l.length<=unN (unL l):=hins
 have hfl:∀l,fdL l= .lst 3 (l.map Fd.cs):=λ_=>rfl
 obtain⟨N,hN⟩:∃N:Nat,N=unN (unL l):=⟨_,rfl⟩
 rw[←hN] at hn h8 hins2
 have hnn:¬(N:Int)<0:=by omega
 rw[hn]
 simp-implicitDefEqProofs[hnn,hfl]
 refine aN (λi:Nat=>az 60 [(33,.p (.int .i64 i)),(32,.p (.int .i64 l.length)),(5,.p (.int .i64 (if i=0 then 0 else uT (l.take i)))),(4,.p (.int .i64 N)),(3,.ptr 0 1 0 0)]) (λ_=>[.row 1 [[.p (.lst 3 (l.map Fd.cs))]]]) (λi=>i<=l.length) (λi=>l.length-i) 0 (WH _) (al (by simp) (by simp[below])) ?_
 intro i hi
 simp-implicitDefEqProofs[]
 refine aO (λhc=>?_) (λhc=>?_)
 ·simp at hc
  have hwi:=w1 (i:=i) (by omega)
  have htk:=Hn hok (n:=i+1) (by omega)
  have hcall:=vX G hK hS (l.take (i+1)) (by have:=DY l (i+1);omega)
  have hl2:uT (l.take (i+1))=unN (unL (l.take (i+1))):=Jb G hK hS htk
  obtain⟨M,hM⟩:∃M:Nat,M=unN (unL (l.take (i+1))):=⟨_,rfl⟩
  rw[←hM] at hl2
  rw[hl2,hfl,List.map_take] at hcall
  have hMn:¬(M:Int)<0:=by omega
  have h0i:(0:Int)<=(i:Int)+1:=by omega
  have h1i:i+1<=l.length:=by omega
  simp-implicitDefEqProofs[hwi,h0i,h1i]
  refine hcall.use ?_
  simp-implicitDefEqProofs[hMn]
  refine⟨i+1,by omega,by omega,al (by simp) ?_⟩
  simp[below,hwi,hl2]
 ·simp at hc
  have hie:i=l.length:=by omega
  subst hie
  have hne:¬l.length=0:=by omega
  rw[if_neg hne,WA,hn]
  have hge:(l.length:Int)<=(N:Int):=by omega
  have h8':(N:Int)<=800:=by omega
  simp-implicitDefEqProofs[hge,h8']
end
end Go.Proofs.YtghpabfdmbdpfaaGreatDoor
namespace Go.Proofs.YtghpabfdmbdpfaaGreatDoor
open Go Go.Aw Go.ChangeShapes Go.WideShapes Go.ChangeAt Go.RowKit
set_option maxRecDepth 100000
abbrev RQ:TypeId:=37
abbrev TL:TypeId:=35
abbrev Vv:TypeId:=91
abbrev QJ:TypeId:=30
abbrev TF:TypeId:=9
abbrev PC:TypeId:=89
abbrev Rb:TypeId:=177
abbrev Pe:TypeId:=175
abbrev Re:TypeId:=221
abbrev Qw:TypeId:=3
abbrev Se:TypeId:=4
abbrev GO:TypeId:=205
abbrev Lp:TypeId:=236
abbrev OZ:TypeId:=237
abbrev Jw:TypeId:=22
abbrev ED:TypeId:=5
theorem TO:Kids Tryz.prog (· <Tryz.prog.types.size):=kids_rows (by kernel_rfl) (by kernel_rfl)
theorem Tu:∀t e,t<Tryz.prog.types.size->Tryz.prog.underlying t=some (.slice e)->0<Tryz.prog.cellsOf e:=slices_full_of Tryz.prog (by kernel_rfl)
def Ls:List TypeId:=[RQ,TL,Vv,QJ,TF,PC,Rb,Pe,Re,Qw,Se,GO,Lp]
theorem MR:Plain Tryz.prog Ls=true:=by kernel_rfl
theorem Vd:ownKnob Tryz.prog.godebug=none:=by kernel_rfl
theorem zZ{H:Type}:∀l:List (DataW H),Rows.uptoBulkAll l=(l.map Rows.uptoBulk).sum
 |[]=>by simp[Rows.uptoBulkAll]
 |d::r=>by simp[Rows.uptoBulkAll,zZ r]
theorem PQ{H:Type}:BulkOk (Rows.uptoBulk (H:=H)) where
 lit:=λl=>by cases l<;>simp[Rows.uptoBulk]
 str:=λs=>by simp[Rows.uptoBulk]
 nil:=by simp[Rows.uptoBulk]
 slice:=λes sp=>by simp only[Rows.uptoBulk,zZ];omega
 agg:=λps=>by simp only[Rows.uptoBulk,zZ];omega
theorem Oh{t e:TypeId}{vs:List PV}(h:Conf Tryz.prog t vs)(hu:Tryz.prog.underlying t=some (.slice e)):∃es,vs=[.lst (Tryz.prog.cellsOf e) es]/\es.length<=9223372036854775807/\∀x∈es,Conf Tryz.prog e x:=by
 cases h with
 |sl es e' hl hs=>rw[hu] at e';cases e';exact⟨es,rfl,hl,hs⟩
 |bool b e=>rw[e] at hu;cases hu
 |int n e=>rw[e] at hu;cases hu
 |str s e=>rw[e] at hu;cases hu
 |st vs e=>rw[e] at hu;cases hu
 |arr vs e=>rw[e] at hu;cases hu
def G0:aK:=λg=>if g=jl then some gY else if g=dU then some [.tbl opK opV] else none
theorem Rj:∀k,jg Tryz.prog (k+10) GO (Rows.laid_loop_example_wholeway_impl_keys (H:=Unit))=gY:=λk=>by kernel_rfl
theorem Vi{W:World}{laid:List (String × DataW Unit)}(hL:laidMet Tryz.prog laid W)(h1:("loop.example/wholeway/impl.keys",Rows.laid_loop_example_wholeway_impl_keys)∈laid)(h2:("loop.example/wholeway/impl.opSign",Rows.laid_loop_example_wholeway_impl_opSign)∈laid):
 ∀g cs,G0 g=some cs->g<W.heap.size/\∀(j:Nat) (c:PV),cs[j]?=some c->∃v,W.cell? ⟨g,j,none⟩=some v/\PRel W (· <W.heap.size) c v:=by
 intro g cs h
 unfold G0 at h
 split at h
 ·rename_i e;subst e;cases h
  exact JP MR hL (n:= "loop.example/wholeway/impl.keys") (d:=Rows.laid_loop_example_wholeway_impl_keys) (t:=GO) h1 (by kernel_rfl) (by kernel_rfl) (by decide) Rj
 ·split at h
  ·rename_i e;subst e;cases h
   exact Lh MR hL (n:= "loop.example/wholeway/impl.opSign") h2 (t:=OZ) (k:=Qw) (e:=Lp) (by kernel_rfl) (by kernel_rfl) (by kernel_rfl) (.inl ⟨.i64,by kernel_rfl⟩) (by decide) (by kernel_rfl) (by kernel_rfl) (λm=>by kernel_rfl)
  ·cases h
def Jd:List TypeId:=Jw::ED::Ls
theorem Rs:Plain Tryz.prog Jd=true:=by kernel_rfl
theorem Hz{vs:List PV}(h:Conf Tryz.prog Jw vs):∃l:List Int,vs=[vA l]/\l.length<=9223372036854775807/\Byt l:=by
 obtain⟨es,rfl,hl,h4⟩:=Oh h (e:=ED) (by kernel_rfl)
 have hk:∀x∈es,∃n:Int,x=[PV.int .u8 n]/\(Lit.int .u8 n).wf=true:=λx hx=>Ns (h4 x hx) (by kernel_rfl)
 obtain⟨l,rfl⟩:=JI (λn:Int=>[PV.int .u8 n]) (λx hx=>by obtain⟨n,e,_⟩:=hk x hx;exact⟨n,e⟩)
 rw[show Tryz.prog.cellsOf ED=1 by kernel_rfl]
 refine⟨l,rfl,by rwa[WD] at hl,λn hn=>?_⟩
 obtain⟨m,e,hw⟩:=hk [PV.int .u8 n] (WC.2 ⟨n,hn,rfl⟩)
 cases e
 simp[Lit.wf,IntKind.min,IntKind.max,IntKind.bits,IntKind.signed] at hw
 omega
end Go.Proofs.YtghpabfdmbdpfaaGreatDoor
