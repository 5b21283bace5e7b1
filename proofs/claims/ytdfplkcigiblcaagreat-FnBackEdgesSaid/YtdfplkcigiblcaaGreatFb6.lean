/-
  Contracts and lemmas that the card needs, part 6.
-/
import Derived.Test.YtdfplkcigiblcaaGreatFb5
namespace Go.Proofs.YtdfplkcigiblcaaGreat
open Go Go.Aw
set_option maxRecDepth 100000
set_option maxHeartbeats 4000000
section
def uy(l:List (List UInt8)):Prop:=l.length<=1000000/\∀s∈l,s.length<=8
theorem cB{h:List AO}{id:Nat}{l:List Ex}(e:h[id]?=some (.row 4 (l.map λx=>x.cs.map .p))):View h (.sl id 4 0 l.length) (exL l):=by
 have:=eS (h:=h) (id:=id) (sz:=4) (n:=l.length) (ls:=l.map Ex.cs) (by rw[e];simp) (by simp) (λx hx=>by obtain⟨b,_,rfl⟩:=List.mem_map.1 hx;exact b.cs_len)
 exact this
variable (G:aB)
def ExQ(p n m:Nat)(v:AV)(q:Nat):Prop:=(∃e:Ex,v= .agg (e.cs.map .p)/\e.sz<=n)/\p<=q/\q<=p+m
theorem yk{b:List Int}(hb:Byt b)(hl:b.length<=2000){p:Nat}(hp:p<=1000000000000)(names:List (List UInt8))(hn:uy names):AC Tryz.prog G eI [.ptr 0 2 0 0,.p (bB names)] [rdO b p] λx h=>∃v q,x= .ret v/\h=[rdO b q]/\ExQ p 9 2 v q:=by
 refine gy G (AC.go td ?_)
 have hsl:bB names= .lst 1 (names.map λw=>[.str w]):=rfl
 have fin1:∀(o n:Int) (s:List UInt8) (q:Nat) (rest:List AO),p<=q->q<=p+2->s.length<=8->DP b (ExQ p 9 2) (.ret (.agg [.p (.int .i64 o),.p (.int .i64 n),.p (.str s),.nils])) (rdO b q::rest):=λo n s q rest h1 h2 hs=>
  ⟨_,rest,q,.agg ((Ex.mk o n s []).cs.map .p),rfl,rfl,.agg (.keep (by simp) (.keep (by simp) (.keep (by simp) (.one (View.nils 4) .nil)))) .nil,⟨_,rfl,by simp[Ex.sz,aP];omega⟩,h1,h2⟩
 have num:∀(q:Nat) (h:List AO),q<=1000000000001->h[0]?=some (rdO b q)->h[2]?=some (vS [0,1,2,3,5,7,15,16,100,255])->_:=λq h hq h0 h1=>iZ G hb hl (p:=q) (by omega) [0,1,2,3,5,7,15,16,100,255] (h:=h) (k:=2) (by simp) (by simp) (by omega) h0 h1
 by_cases hne:names=[]
 ·subst hne
  have hs0:bB []= .lst 1 []:=rfl
  simp-implicitDefEqProofs[gX,hs0]
  refine(num p _ (by omega) rfl rfl).mono ?_
  rintro r h ⟨n,_,rfl,rfl⟩
  simp-implicitDefEqProofs[aa]
  exact fin1 _ _ _ _ _ (by omega) (by omega) (by simp)
 ·have hlen:¬names.length=0:=λh=>hne (List.eq_nil_of_length_eq_zero h)
  simp-implicitDefEqProofs[gX,hsl,hne]
  refine(aI G b hb hl p (by omega) 3 _).mono ?_
  rintro r h ⟨k,rfl,rfl,_⟩
  simp-implicitDefEqProofs[aa]
  refine aG (λhc=>?_) (λhc=>?_)
  ·simp-implicitDefEqProofs[]
   refine(num (p+1) _ (by omega) rfl rfl).mono ?_
   rintro r h ⟨n,_,rfl,rfl⟩
   simp-implicitDefEqProofs[aa]
   exact fin1 _ _ _ _ _ (by omega) (by omega) (by simp)
  ·simp-implicitDefEqProofs[]
   rw[←hsl]
   refine(CX G hb hl (by omega) names hne (by have:=hn.1;omega) _).mono ?_
   rintro r h ⟨s,hs,rfl,rfl⟩
   have:=hn.2 s hs
   simp-implicitDefEqProofs[aa]
   exact fin1 _ _ _ _ _ (by omega) (by omega) this
theorem CM{b:List Int}(hb:Byt b)(hl:b.length<=2000)(names:List (List UInt8))(hn:uy names):∀(d:Nat),d<=20->∀{p:Nat},p+6*3^d<=1000000000000->AC Tryz.prog G be [.ptr 0 2 0 0,.p (bB names),.p (.int .i64 d)] [rdO b p] λx h=>∃v q,x= .ret v/\h=[rdO b q]/\ExQ p (10*3^d) (6*3^d) v q:=by
 intro d
 induction d with
 |zero=>
  intro _ p hp
  refine gy G (AC.go lh ?_)
  simp-implicitDefEqProofs[eA]
  refine(iD G (yk G hb hl (by omega) names hn) _ (by simp[below])).mono ?_
  rintro r h ⟨v,q,rfl,rfl,⟨e,rfl,he⟩,h1,h2⟩
  have hec:=e.cs_eq
  simp-implicitDefEqProofs[aa,hec]
  exact⟨_,_,q,.agg (e.cs.map .p),rfl,rfl,.agg (by rw[hec];exact kB (by simp)) .nil,⟨e,rfl,by omega⟩,h1,by omega⟩
 |succ d ih=>
  intro hd p hp
  have hpow:3^(d+1)=3*3^d:=by rw[Nat.pow_succ];omega
  have h1p:1<=3^d:=Nat.one_le_pow _ _ (by omega)
  have ih:=λ{p:Nat} (hp:p+6*3^d<=1000000000000)=>ih (by omega) (p:=p) hp
  rw[hpow] at hp⊢
  generalize 3^d=t at*
  have hw:IntKind.i64.wrap (d:Int)=(d:Int):=ae (by omega) (by omega)
  have leaf:∀(q:Nat) (rest:List AO),p<=q->q<=p+3->AC Tryz.prog G eI [.ptr 0 2 0 0,.p (bB names)] (rdO b q::rest) λx h=>∃v q',x= .ret v/\h=rdO b q'::rest/\ExQ q 9 2 v q':=λq rest _ _=>iD G (yk G hb hl (by omega) names hn) rest (by simp[below])
  have sub:∀(q:Nat) (rest:List AO),p<=q->q<=p+6+6*t->AC Tryz.prog G be [.ptr 0 2 0 0,.p (bB names),.p (.int .i64 d)] (rdO b q::rest) λx h=>∃v q',x= .ret v/\h=rdO b q'::rest/\ExQ q (10*t) (6*t) v q':=λq rest _ _=>iD G (ih (by omega)) rest (by simp[below])
  refine gy G (AC.go lh ?_)
  have leafCase:∀(e:Ex) (q:Nat) (rest:List AO),e.sz<=9->p<=q->q<=p+5->DP b (ExQ p (10*(3*t)) (6*(3*t))) (.ret (.agg (e.cs.map .p))) (rdO b q::rest):=λe q rest h1 h2 h3=>
   ⟨_,_,q,.agg (e.cs.map .p),rfl,rfl,.agg (by rw[e.cs_eq];exact kB (by simp)) .nil,⟨e,rfl,by omega⟩,h2,by omega⟩
  have bin:∀(o:Int) (e1 e2:Ex) (q:Nat) (rest:List AO) (k:Nat),(rdO b q::rest)[k+1]?=some (.row 4 [e1.cs.map .p,e2.cs.map .p])->e1.sz<=10*t->e2.sz<=10*t->p<=q->q<=p+6*(3*t)->DP b (ExQ p (10*(3*t)) (6*(3*t))) (.ret (.agg [.p (.int .i64 o),.p (.int .i64 0),.p (.str []),.sl (k+1) 4 0 2])) (rdO b q::rest):=λo e1 e2 q rest k hk h1 h2 h3 h4=>
   ⟨_,rest,q,.agg ((Ex.mk o 0 [] [e1,e2]).cs.map .p),rfl,rfl,.agg (.keep (by simp) (.keep (by simp) (.keep (by simp) (.one (cB (l:=[e1,e2]) (by simpa using hk)) .nil)))) .nil,⟨_,rfl,by simp[Ex.sz,aP];omega⟩,h3,h4⟩
  have una:∀(o:Int) (e1:Ex) (q:Nat) (rest:List AO) (k:Nat),(rdO b q::rest)[k+1]?=some (.row 4 [e1.cs.map .p])->e1.sz<=10*t->p<=q->q<=p+6*(3*t)->DP b (ExQ p (10*(3*t)) (6*(3*t))) (.ret (.agg [.p (.int .i64 o),.p (.int .i64 0),.p (.str []),.sl (k+1) 4 0 1])) (rdO b q::rest):=λo e1 q rest k hk h1 h3 h4=>
   ⟨_,rest,q,.agg ((Ex.mk o 0 [] [e1]).cs.map .p),rfl,rfl,.agg (.keep (by simp) (.keep (by simp) (.keep (by simp) (.one (cB (l:=[e1]) (by simpa using hk)) .nil)))) .nil,⟨_,rfl,by simp[Ex.sz,aP];omega⟩,h3,h4⟩
  by_cases hd0:d=0
  ·subst hd0
   simp-implicitDefEqProofs[eA]
   refine(leaf p _ (by omega) (by omega)).mono ?_
   rintro r h ⟨v,q,rfl,rfl,⟨e,rfl,he⟩,h1,h2⟩
   have hec:=e.cs_eq
   simp-implicitDefEqProofs[aa,hec]
   have:=leafCase e q [.row 4 [e.cs.map .p]] he h1 (by omega)
   rw[hec] at this
   exact this
  have hd2:¬(d:Int)+1<2:=by omega
  simp-implicitDefEqProofs[eA,hd2]
  refine(aI G b hb hl p (by omega) 4 _).mono ?_
  rintro r h ⟨k1,rfl,rfl,_⟩
  simp-implicitDefEqProofs[aa]
  refine aG (λhc=>?_) (λhc=>?_)
  ·simp-implicitDefEqProofs[]
   refine(leaf (p+1) _ (by omega) (by omega)).mono ?_
   rintro r h ⟨v,q,rfl,rfl,⟨e,rfl,he⟩,h1,h2⟩
   have hec:=e.cs_eq
   simp-implicitDefEqProofs[aa,hec]
   have:=leafCase e q [.row 4 [e.cs.map .p]] he (by omega) (by omega)
   rw[hec] at this
   exact this
  simp-implicitDefEqProofs[]
  refine(aI G b hb hl (p+1) (by omega) 7 _).mono ?_
  rintro r h ⟨k2,rfl,rfl,_⟩
  simp-implicitDefEqProofs[aa]
  refine aG (λhc=>?_) (λhc=>?_)
  ·simp-implicitDefEqProofs[]
   refine(iZ G hb hl (p:=p+2) (by omega) [11,12,11] (k:=2) (by simp) (by simp) (by omega) rfl rfl).mono ?_
   rintro r h ⟨n,_,rfl,rfl⟩
   simp-implicitDefEqProofs[aa,hw]
   refine(sub (p+3) _ (by omega) (by omega)).mono ?_
   rintro r h ⟨v,q,rfl,rfl,⟨e,rfl,he⟩,h1,h2⟩
   have hec:=e.cs_eq
   simp-implicitDefEqProofs[aa,hec]
   exact una n e q _ 2 (by rw[hec];rfl) he (by omega) (by omega)
  ·simp-implicitDefEqProofs[]
   refine(iZ G hb hl (p:=p+2) (by omega) [3,3,4,5,6,7,8,9,10] (k:=2) (by simp) (by simp) (by omega) rfl rfl).mono ?_
   rintro r h ⟨n,_,rfl,rfl⟩
   simp-implicitDefEqProofs[aa,hw]
   refine(sub (p+3) _ (by omega) (by omega)).mono ?_
   rintro r h ⟨v,q,rfl,rfl,⟨e,rfl,he⟩,h1,h2⟩
   have hec:=e.cs_eq
   simp-implicitDefEqProofs[aa,hec,hw]
   refine(sub q _ (by omega) (by omega)).mono ?_
   rintro r h ⟨v,q2,rfl,rfl,⟨e2,rfl,he2⟩,h3,h4⟩
   have hec2:=e2.cs_eq
   simp-implicitDefEqProofs[aa,hec2]
   exact bin n e e2 q2 _ 2 (by rw[hec,hec2];rfl) he he2 (by omega) (by omega)
end
section
def bx(fns:List Fd)(vs:List (List UInt8))(next left:Int):List AV:=[.ptr 0 2 0 0,slE 2 3 (aR fns),.p (bB vs),.p (.int .i64 next),.p (.int .i64 left)]
def HG(b:List Int)(p:Nat)(fns:List Fd)(vs:List (List UInt8))(next left:Int):List AO:=[rdO b p,.row 5 [bx fns vs next left],cK 3 (aR fns)]
def DG(b:List Int)(fns:List Fd)(Q:AV->Nat->List (List UInt8)->Int->Int->Prop)(x:ARes)(h:List AO):Prop:=
 ∃v rest q vc v1 vs next left,x= .ret v/\h=rdO b q:: .row 5 [[.ptr 0 2 0 0,slE 2 3 (aR fns),vc,.p (.int .i64 next),.p (.int .i64 left)]]::cK 3 (aR fns)::rest/\
  Fzs (.dead:: .dead:: .dead::rest) 3 [vc] [.p (bB vs)]/\Fzs (.dead:: .dead:: .dead::rest) 3 [v] [v1]/\Q v1 q vs next left
def PG(b:List Int)(fns:List Fd)(Q:AV->Nat->List (List UInt8)->Int->Int->Prop)(rest:List AO)(x:ARes)(h:List AO):Prop:=
 ∃v q vs next left,x= .ret v/\h=rdO b q:: .row 5 [bx fns vs next left]::cK 3 (aR fns)::rest/\Q v q vs next left
variable (G:aB)
theorem gL{f:FuncId}{args:List AV}{b:List Int}{p:Nat}{fns:List Fd}{vs:List (List UInt8)}{next left:Int}{Q:AV->Nat->List (List UInt8)->Int->Int->Prop}(H:AC Tryz.prog G f args (HG b p fns vs next left) (DG b fns Q)):
 AC Tryz.prog G f args (HG b p fns vs next left) (PG b fns Q []):=by
 refine H.frz 3 (by simp[HG]) (λt v h ⟨_,_,_,_,_,_,_,_,e,_⟩=>by cases e) ?_
 rintro v h ⟨v0,rest,q,vc,v1,vs',n',l',e,rfl,hc,hf,r⟩
 cases e
 refine⟨v1,HG b q fns vs' n' l',by simp,rfl,hf,.same (bL _ _ _) (.one ?_ (.same (gC _ _) (.nil _))),v1,q,vs',n',l',rfl,rfl,r⟩
 exact .keep (by simp[below]) (.keep (kL (by omega)) (hc.append (.keep (by simp) (.keep (by simp) .nil))))
theorem CB(b:List Int)(p:Nat)(fns:List Fd)(vs:List (List UInt8))(next left:Int):∀o∈HG b p fns vs next left,okO 3 o:=by
 intro o ho
 simp only[HG,List.mem_cons,List.not_mem_nil,or_false] at ho
 rcases ho with rfl|rfl|rfl
 ·exact bL _ _ _
 ·intro e he
  rw[List.mem_singleton.1 he]
  exact⟨by simp[below],kL (by omega),by simp,by simp,by simp,trivial⟩
 ·exact gC _ _
theorem bM{f:FuncId}{args:List AV}{b:List Int}{p:Nat}{fns:List Fd}{vs:List (List UInt8)}{next left:Int}{Q:AV->Nat->List (List UInt8)->Int->Int->Prop}(H:AC Tryz.prog G f args (HG b p fns vs next left) (PG b fns Q []))(rest:List AO)(ha:au 3 args):
 AC Tryz.prog G f args (rdO b p:: .row 5 [bx fns vs next left]::cK 3 (aR fns)::rest) (PG b fns Q rest):=by
 refine(AC.pre H rest ha (CB _ _ _ _ _ _) ?_).mono ?_
 ·rintro x h ⟨v,q,vs',n',l',_,rfl,_⟩;rfl
 ·rintro x h ⟨h1,⟨v,q,vs',n',l',e1,rfl,e2⟩,rfl⟩
  exact⟨v,q,vs',n',l',e1,rfl,e2⟩
def Kf(p:Nat)(vs:List (List UInt8))(next left:Int)(v:AV)(q:Nat)(vs':List (List UInt8))(next' left':Int):Prop:=(∃s:List UInt8,v= .p (.str s)/\s.length<=8)/\p<=q/\q<=p+2/\vs'=vs/\next'=next+1/\left'=left
theorem AB{b:List Int}(hb:Byt b)(hl:b.length<=2000){p:Nat}(hp:p+2<=1000000000000)(fns:List Fd)(vs:List (List UInt8))(hv:uy vs){next:Int}(hn: -1<=next)(hn2:next<=1000000000000)(left:Int):
 AC Tryz.prog G dg [.ptr 1 5 0 0] (HG b p fns vs next left) (PG b fns (Kf p vs next left) []):=by
 refine gL G (AC.go lK ?_)
 have hw:IntKind.i64.wrap (next+1)=next+1:=ae (by omega) (by omega)
 have hsl:bB vs= .lst 1 (vs.map λw=>[.str w]):=rfl
 simp-implicitDefEqProofs[gf,HG,bx,hw]
 refine(aI G b hb hl p (by omega) 9 _).mono ?_
 rintro r h ⟨k,rfl,rfl,_⟩
 have fin:∀(s:List UInt8) (q:Nat),s.length<=8->p<=q->q<=p+2->DG b fns (Kf p vs next left) (.ret (.p (.str s))) [rdO b q,.row 5 [[.ptr 0 2 0 0,slE 2 3 (aR fns),.p (bB vs),.p (.int .i64 (next+1)),.p (.int .i64 left)]],cK 3 (aR fns)]:=λs q h1 h2 h3=>
  ⟨_,[],q,_,_,vs,next+1,left,rfl,rfl,.keep (by simp) .nil,.keep (by simp) .nil,⟨s,rfl,h1⟩,h2,h3,rfl,rfl,rfl⟩
 obtain⟨N,hN⟩:∃N:Nat,next+1=N:=⟨(next+1).toNat,by omega⟩
 have hm:N%24<24:=Nat.mod_lt _ (by omega)
 have ht:(N:Int).tmod 24=((N%24:Nat):Int):=rfl
 have hw2:IntKind.i64.wrap (((N%24:Nat):Int)+1)=((N%24+1:Nat):Int):=w1 (by omega)
 rw[hN] at fin⊢
 generalize N%24=m at hm ht hw2
 have hm1:m+1<=24:=by omega
 have h0m:(0:Int)<=(m:Int)+1:=by omega
 by_cases hc:k=0/\vs≠[]
 ·obtain⟨rfl,hne⟩:=hc
  have hpos:0<vs.length:=List.length_pos_iff.2 hne
  simp-implicitDefEqProofs[aa,hsl,hpos]
  rw[←hsl]
  refine(CX G hb hl (by omega) vs hne (by have:=hv.1;omega) _).mono ?_
  rintro r h ⟨s,hs,rfl,rfl⟩
  simp-implicitDefEqProofs[aa]
  exact fin s _ (hv.2 s hs) (by omega) (by omega)
 ·have hcc:(k=0/\0<vs.length)=False:=by
   simp only[eq_iff_iff,iff_false]
   exact λ⟨a,c⟩=>hc ⟨a,List.length_pos_iff.1 c⟩
  by_cases hk:k=0
  ·have hv0:vs=[]:=by
    by_cases e:vs=[]
    ·exact e
    ·exact absurd ⟨hk,e⟩ hc
   subst hv0
   have hs0:bB []= .lst 1 []:=rfl
   simp-implicitDefEqProofs[aa,hs0,hk,ht,hw2,hm1,h0m]
   rw[←hs0]
   refine fin _ (p+1) ?_ (by omega) (by omega)
   simp
   omega
  ·simp-implicitDefEqProofs[aa,hk,ht,hw2,hm1,h0m]
   refine fin _ (p+1) ?_ (by omega) (by omega)
   simp
   omega
def rq(fns:List Fd):Prop:=fns.length<=1000/\∀f∈fns,f.name.length<=8/\f.params.length<=3
def Kk(p:Nat)(vs:List (List UInt8))(next left:Int)(v:AV)(q:Nat)(vs':List (List UInt8))(next' left':Int):Prop:=(∃e:Ex,v= .agg (e.cs.map .p)/\e.sz<=400)/\p<=q/\q<=p+400/\vs'=vs/\next'=next/\left'=left
theorem EE{b:List Int}(hb:Byt b)(hl:b.length<=2000){p:Nat}(hp:p<=1000000000000)(l:List Int)(hne:l≠[])(hll:l.length<=1000000000000)(rest:List AO):
 AC Tryz.prog G aY [.ptr 0 2 0 0,.p (ay l)] (rdO b p::rest) λx h=>∃n,n∈l/\x= .ret (.p (.int .i64 n))/\h=rdO b (p+1)::rest:=by
 have key:AC Tryz.prog G aY [.ptr 0 2 0 0,.p (ay l)] [rdO b p] λx h=>∃n,n∈l/\x= .ret (.p (.int .i64 n))/\h=[rdO b (p+1)]:=by
  refine AC.go en ?_
  have hpos:0<l.length:=List.length_pos_iff.2 hne
  have hnl:ay l= .lst 1 (l.map λn=>[.int .i64 n]):=rfl
  simp-implicitDefEqProofs[cQ,hnl]
  refine(aI G b hb hl p (by omega) l.length []).mono ?_
  rintro r h ⟨m,rfl,rfl,hm⟩
  have hml:m<l.length:=by omega
  have hg:=List.getElem?_eq_getElem hml
  simp-implicitDefEqProofs[aa,hg]
 refine(key.pre rest (by simp[below]) (λo ho=>by rw[List.mem_singleton.1 ho];exact bL _ _ _) ?_).mono ?_
 ·rintro x h ⟨n,_,_,rfl⟩;rfl
 ·rintro x h ⟨h1,⟨n,e1,e2,rfl⟩,rfl⟩
  exact⟨n,e1,e2,rfl⟩
structure ExS where (es:List Ex) (q:Nat)
theorem gV{b:List Int}(hb:Byt b)(hl:b.length<=2000){p:Nat}(hp:p+1000<=1000000000000)(fns:List Fd)(hf:rq fns)(vs:List (List UInt8))(hv:uy vs)(next left:Int){d:Nat}(hd:d<=3):
 AC Tryz.prog G dR [.ptr 1 5 0 0,.p (.int .i64 d)] (HG b p fns vs next left) (PG b fns (Kk p vs next left) []):=by
 refine gL G (AC.go mI ?_)
 have hpow:3^d<=27:=by
  have:3^d<=3^3:=Nat.pow_le_pow_right (by omega) hd
  omega
 have sub:∀(k:Nat),k<=3->∀(q:Nat) (rest:List AO),p<=q->q<=p+700->AC Tryz.prog G be [.ptr 0 2 0 0,.p (bB vs),.p (.int .i64 k)] (rdO b q::rest) λx h=>∃v q',x= .ret v/\h=rdO b q'::rest/\ExQ q (10*3^k) (6*3^k) v q':=λk hk q rest _ _=>by
  have:3^k<=3^3:=Nat.pow_le_pow_right (by omega) hk
  exact iD G (CM G hb hl vs hv k (by omega) (by omega)) rest (by simp[below])
 simp-implicitDefEqProofs[gT,HG,bx]
 refine(sub d hd p _ (by omega) (by omega)).mono ?_
 rintro r h ⟨v,q0,rfl,rfl,⟨e0,rfl,he0⟩,hq1,hq2⟩
 have hec:=e0.cs_eq
 simp-implicitDefEqProofs[aa,hec]
 have finE:∀(e:Ex) (q:Nat) (rest:List AO) (v:AV),Fzs (.dead:: .dead:: .dead::rest) 3 [v] [.agg (e.cs.map .p)]->e.sz<=400->p<=q->q<=p+400->DG b fns (Kk p vs next left) (.ret v) (rdO b q:: .row 5 [[.ptr 0 2 0 0,slE 2 3 (aR fns),.p (bB vs),.p (.int .i64 next),.p (.int .i64 left)]]::cK 3 (aR fns)::rest):=λe q rest v hz h1 h2 h3=>
  ⟨_,rest,q,_,_,vs,next,left,rfl,rfl,.keep (by simp) .nil,hz,⟨e,rfl,h1⟩,h2,h3,rfl,rfl,rfl⟩
 have fz0:∀rest,Fzs (.dead:: .dead:: .dead::rest) 3 [.agg [.p (.int .i64 e0.op),.p (.int .i64 e0.n),.p (.str e0.name),.p (exL e0.kids)]] [.agg (e0.cs.map .p)]:=λrest=> .agg (by rw[hec];exact kB (by simp)) .nil
 by_cases hfe:fns=[]
 ·have h0:aR fns=[]:=by rw[hfe];rfl
  simp-implicitDefEqProofs[h0]
  rw[←h0]
  have:=finE e0 q0 [.row 4 [[.p (.int .i64 e0.op),.p (.int .i64 e0.n),.p (.str e0.name),.p (exL e0.kids)]],.row 4 [[.p (.int .i64 e0.op),.p (.int .i64 e0.n),.p (.str e0.name),.p (exL e0.kids)]]] _ (fz0 _) (by omega) (by omega) (by omega)
  rw[h0] at this⊢
  exact this
 have hfr:¬aR fns=[]:=λh=>hfe (List.map_eq_nil_iff.1 h)
 have hfl:(aR fns).length=fns.length:=by simp[aR]
 have hfp:0<fns.length:=List.length_pos_iff.2 hfe
 simp only[eC hfr,cI hfr,hfl] at finE
 rw[show cK 3 (aR fns)= .row 3 (aR fns) from eC hfr,show slE 2 3 (aR fns)= .sl 2 3 0 (aR fns).length from cI hfr,hfl]
 generalize hR:aR fns=R at*
 simp-implicitDefEqProofs[hfr]
 refine(aI G b hb hl q0 (by omega) 4 _).mono ?_
 rintro r h ⟨k1,rfl,rfl,_⟩
 simp-implicitDefEqProofs[aa]
 refine aG (λhc=>?_) (λhc=>?_)
 ·simp-implicitDefEqProofs[]
  exact finE e0 _ _ _ (fz0 _) (by omega) (by omega) (by omega)
 simp-implicitDefEqProofs[hfl]
 refine(aI G b hb hl (q0+1) (by omega) fns.length _).mono ?_
 rintro r h ⟨k2,rfl,rfl,hk2⟩
 have hk:k2<fns.length:=by omega
 have hg:=List.getElem?_eq_getElem hk
 have hgr:R[k2]?=some (fns[k2].cs.map .p):=by rw[←hR,aR,List.getElem?_map,hg];rfl
 have hfo:=hf.2 _ (List.getElem_mem hk)
 generalize fns[k2]=fd at hg hgr hfo
 have hfc:fd.cs=[.str fd.name,bB fd.params,smL fd.body]:=rfl
 have hsp:bB fd.params= .lst 1 (fd.params.map λw=>[.str w]):=rfl
 clear hfl hg
 simp-implicitDefEqProofs[aa,hgr,hk,hfc]
 have hexn:∀(es:List Ex) (e:Ex),exR (es++[e])=exR es++[e.cs.map .p]:=λes e=>by simp[exR]
 have hRp:∀x∈R,au 0 x:=by rw[←hR];exact oq fns
 refine aH (λs:ExS=>aC 99 [(8,.p (.int .i64 s.es.length)),(7,.ptr 6 4 0 0),(6,.ptr 5 3 0 0),(4,.ptr 3 4 0 0),(0,.ptr 1 5 0 0)])
  (λs=>[rdO b s.q,.row 5 [[.ptr 0 2 0 0,.sl 2 3 0 fns.length,.p (bB vs),.p (.int .i64 next),.p (.int .i64 left)]],.row 3 R,.row 4 [[.p (.int .i64 0),.p (.int .i64 0),.p (.str []),.nils]],
    .row 4 [[.p (.int .i64 e0.op),.p (.int .i64 e0.n),.p (.str e0.name),.p (exL e0.kids)]],.row 3 [[.p (.str fd.name),.p (bB fd.params),.p (smL fd.body)]],.row 4 [[.p (.int .i64 13),.p (.int .i64 0),.p (.str fd.name),slE 7 4 (exR s.es)]],cK 4 (exR s.es)])
  (λs=>s.es.length<=fd.params.length/\aP s.es<=90*s.es.length/\q0<=s.q/\s.q<=q0+2+54*s.es.length) (λs=>fd.params.length-s.es.length) ⟨[],q0+1+1⟩ ⟨by simp,by simp[aP],by simp only;omega,by simp⟩
  (Dv (by simp) (by simp) (by
    intro o h
    simp only[List.mem_cons,List.not_mem_nil,or_false] at h
    rcases h with rfl|rfl|rfl|rfl|rfl|rfl|rfl
    ·exact bL _ _ _
    ·simp[okO,below]
    ·exact uh (λe he=>hRp e he)
    ·simp[okO,below]
    ·simp[okO,below]
    ·simp[okO,below]
    ·simp[okO,below]) (by simp[below])) ?_
 rintro⟨es,q⟩ ⟨h1,h2,h3,h4⟩
 simp only at h1 h2 h3 h4
 simp-implicitDefEqProofs[hsp]
 refine aG (λhc=>?_) (λhc=>?_)
 ·simp at hc
  have hp3:=hfo.2
  simp-implicitDefEqProofs[]
  refine(sub 2 (by omega) q _ (by omega) (by omega)).mono ?_
  rintro r h ⟨v,q2,rfl,rfl,⟨e,rfl,he⟩,hq3,hq4⟩
  have hec:=e.cs_eq
  simp-implicitDefEqProofs[aa,hec]
  have hxl:(exR es).length=es.length:=by simp[exR]
  refine⟨by rw[hxl];omega,⟨es++[e],q2⟩,⟨by simp;omega,by rw[dv];simp[aP];omega,by simp only;omega,by simp;omega⟩,by simp;omega,?_⟩
  rw[hexn,Fw _ (by simp),Dw _ (by simp),hec]
  refine kU [0,1,2,3,4,5,6,8] (by simp) (by decide) (by decide) (gE rfl (bL _ _ _) (dS (by simp[below]) (by simp[ren,bf]) (cG rfl hRp (cG rfl (by simp[below]) (cG rfl (by simp[below]) (cG rfl (by simp[below]) (dS (by simp[below]) (by simp[ren,bf]) (cG rfl (λx hx=>by
   rcases List.mem_append.1 hx with h|h
   ·exact Eu _ x h
   ·rw[List.mem_singleton.1 h];simp) gn)))))))) ?_
  simp[below,ren,w1 (i:=es.length) (by omega)]
 ·simp at hc
  have hp3:=hfo.2
  have hlen:es.length=fd.params.length:=by omega
  have hxl:(exR es).length=es.length:=by simp[exR]
  have hkids:∀(h:List AO),h[7]?=some (cK 4 (exR es))->View h (slE 7 4 (exR es)) (exL es):=λh hh=>EJ hh
  simp-implicitDefEqProofs[]
  refine(aI G b hb hl q (by omega) 2 _).mono ?_
  rintro r h ⟨k3,rfl,rfl,_⟩
  simp-implicitDefEqProofs[aa]
  refine aG (λhc2=>?_) (λhc2=>?_)
  ·simp-implicitDefEqProofs[]
   have hcc:(Ex.mk 13 0 fd.name es).cs=[.int .i64 13,.int .i64 0,.str fd.name,exL es]:=Ex.cs_eq _
   exact finE ⟨13,0,fd.name,es⟩ (q+1) _ _ (.agg (by rw[hcc];exact .keep (by simp) (.keep (by simp) (.keep (by simp) (.one (hkids _ rfl) .nil)))) .nil) (by simp[Ex.sz];omega) (by omega) (by omega)
  ·simp-implicitDefEqProofs[]
   refine(EE G hb hl (p:=q+1) (by omega) [3,4,8,10] (by simp) (by simp) _).mono ?_
   rintro r h ⟨n,_,rfl,rfl⟩
   simp-implicitDefEqProofs[aa]
   refine(sub 2 (by omega) (q+1+1) _ (by omega) (by omega)).mono ?_
   rintro r h ⟨v,q2,rfl,rfl,⟨e,rfl,he⟩,hq3,hq4⟩
   have hec:=e.cs_eq
   simp-implicitDefEqProofs[aa,hec]
   have hcc:(Ex.mk 13 0 fd.name es).cs=[.int .i64 13,.int .i64 0,.str fd.name,exL es]:=Ex.cs_eq _
   exact finE ⟨n,0,[],[⟨13,0,fd.name,es⟩,e]⟩ q2 _ _ (.agg (.keep (by simp) (.keep (by simp) (.keep (by simp) (.one (nk (p0:=(Ex.mk 13 0 fd.name es).cs) (p1:=e.cs) rfl (Ex.cs_len _) (Ex.cs_len _) (λj q a e1 e2=>by
    rw[hcc] at e1
    match j,e1,e2 with
    |0,e1,e2=>cases e1;cases e2;exact .p _
    |1,e1,e2=>cases e1;cases e2;exact .p _
    |2,e1,e2=>cases e1;cases e2;exact .p _
    |3,e1,e2=>cases e1;cases e2;exact hkids _ rfl
    |j+4,e1,e2=>simp at e1) (λj q a e1 e2=>by
    rw[hec] at e1
    match j,e1,e2 with
    |0,e1,e2=>cases e1;cases e2;exact .p _
    |1,e1,e2=>cases e1;cases e2;exact .p _
    |2,e1,e2=>cases e1;cases e2;exact .p _
    |3,e1,e2=>cases e1;cases e2;exact .p _
    |j+4,e1,e2=>simp at e1)) .nil)))) .nil) (by simp[Ex.sz,aP];omega) (by omega) (by omega)
end
section
variable (G:aB)
def Lv(p:Nat)(vs:List (List UInt8))(next left:Int)(v:AV)(q:Nat)(vs':List (List UInt8))(next' left':Int):Prop:=(∃e:Ex,v= .agg (e.cs.map .p)/\e.sz<=410)/\p<=q/\q<=p+401/\vs'=vs/\next'=next/\left'=left
theorem Ez{b:List Int}(hb:Byt b)(hl:b.length<=2000){p:Nat}(hp:p+2000<=1000000000000)(fns:List Fd)(hf:rq fns)(vs:List (List UInt8))(hv:uy vs)(next left:Int):
 AC Tryz.prog G cy [.ptr 1 5 0 0] (HG b p fns vs next left) (PG b fns (Lv p vs next left) []):=by
 refine gL G (AC.go mQ ?_)
 simp-implicitDefEqProofs[gQ,HG,bx]
 refine(bM G (gV G hb hl (p:=p) (by omega) fns hf vs hv next left (d:=2) (by omega)) _ (by simp[below])).mono ?_
 rintro r h ⟨v,q,vs',n',l',rfl,rfl,⟨e,rfl,he⟩,h1,h2,rfl,rfl,rfl⟩
 have hec:=e.cs_eq
 simp-implicitDefEqProofs[aa,bx,hec]
 refine(EE G hb hl (p:=q) (by omega) [16,16,16,8,17,0] (by simp) (by simp) _).mono ?_
 rintro r h ⟨n,_,rfl,rfl⟩
 simp-implicitDefEqProofs[aa]
 have hn:(Ex.mk 1 n [] []).cs=[.int .i64 1,.int .i64 n,.str [],.lst 4 []]:=Ex.cs_eq _
 refine⟨_,[_,_],q+1,_,.agg ((Ex.mk 7 0 [] [e,⟨1,n,[],[]⟩]).cs.map .p),vs',n',l',rfl,rfl,.keep (by simp) .nil,.agg (.keep (by simp) (.keep (by simp) (.keep (by simp) (.one (nk (p0:=e.cs) (p1:=(Ex.mk 1 n [] []).cs) rfl (Ex.cs_len _) (Ex.cs_len _) (λj q a e1 e2=>?_) (λj q a e1 e2=>?_)) .nil)))) .nil,⟨_,rfl,by simp[Ex.sz,aP];omega⟩,by omega,by omega,rfl,rfl,rfl⟩
 ·rw[hec] at e1
  match j,e1,e2 with
  |0,e1,e2=>cases e1;cases e2;exact .p _
  |1,e1,e2=>cases e1;cases e2;exact .p _
  |2,e1,e2=>cases e1;cases e2;exact .p _
  |3,e1,e2=>cases e1;cases e2;exact .p _
  |j+4,e1,e2=>simp at e1
 ·rw[hn] at e1
  match j,e1,e2 with
  |0,e1,e2=>cases e1;cases e2;exact .p _
  |1,e1,e2=>cases e1;cases e2;exact .p _
  |2,e1,e2=>cases e1;cases e2;exact .p _
  |3,e1,e2=>cases e1;cases e2;exact View.nils 4
  |j+4,e1,e2=>simp at e1
def JC(p:Nat)(e:Ex)(vs:List (List UInt8))(next left:Int)(v:AV)(q:Nat)(vs':List (List UInt8))(next' left':Int):Prop:=
 ∃s:List UInt8,s.length<=8/\v= .agg ((Sm.mk 1 s [e] [] []).cs.map .p)/\p<=q/\q<=p+2/\vs'=vs++[s]/\next'=next+1/\left'=left
theorem GA{b:List Int}(hb:Byt b)(hl:b.length<=2000){p:Nat}(hp:p+2<=1000000000000)(fns:List Fd)(vs:List (List UInt8))(hv:uy vs){next:Int}(hn: -1<=next)(hn2:next<=1000000000000)(left:Int)(e:Ex):
 AC Tryz.prog G bZ [.ptr 1 5 0 0,.agg (e.cs.map .p)] (HG b p fns vs next left) (PG b fns (JC p e vs next left) []):=by
 refine gL G (AC.go iG ?_)
 have hec:=e.cs_eq
 simp-implicitDefEqProofs[ef,HG,bx,hec]
 refine(bM G (AB G hb hl hp fns vs hv hn hn2 left) _ (by simp[below])).mono ?_
 rintro r h ⟨v,q,vs',n',l',rfl,rfl,⟨s,rfl,hs⟩,h1,h2,rfl,rfl,rfl⟩
 have hsl:bB vs'= .lst 1 (vs'.map λw=>[.str w]):=rfl
 simp-implicitDefEqProofs[aa,bx,hsl]
 have hv1:=hv.1
 have hrow:List.take vs'.length (List.map ((λx=>List.map AV.p x)∘λw=>[PV.str w]) vs')++[[AV.p (PV.str s)]]=(vs'++[s]).map λw=>[AV.p (.str w)]:=by
  rw[List.take_of_length_le (by simp)];simp[Function.comp_def]
 have hlen:vs'.length+1=(vs'++[s]).length:=by simp
 refine⟨by omega,by omega,?_⟩
 rw[hrow,hlen]
 have hsm:(Sm.mk 1 s [e] [] []).cs=[.int .i64 1,.str s,exL [e],smL [],smL []]:=Sm.cs_eq _
 refine⟨_,_,q,_,.agg ((Sm.mk 1 s [e] [] []).cs.map .p),vs'++[s],next+1,l',rfl,rfl,.one (kS rfl) .nil,.agg ?_ .nil,⟨s,hs,rfl,h1,h2,rfl,rfl,rfl⟩⟩
 rw[hsm]
 refine .keep (by simp) (.keep (by simp) (.one ?_ (.one (View.nils 5) (.one (View.nils 5) .nil))))
 exact cB (l:=[e]) (by rw[List.map_singleton,hec];rfl)
theorem Hp{b:List Int}(hb:Byt b)(hl:b.length<=2000){p:Nat}(hp:p+2<=1000000000000)(fns:List Fd)(vs:List (List UInt8))(hv:uy vs){next:Int}(hn: -1<=next)(hn2:next<=1000000000000)(left:Int)(N:Int):
 AC Tryz.prog G bZ [.ptr 1 5 0 0,.agg [.p (.int .i64 1),.p (.int .i64 N),.p (.str []),.nils]] (HG b p fns vs next left) (PG b fns (JC p ⟨1,N,[],[]⟩ vs next left) []):=by
 refine gL G (AC.go iG ?_)
 simp-implicitDefEqProofs[ef,HG,bx]
 refine(bM G (AB G hb hl hp fns vs hv hn hn2 left) _ (by simp[below])).mono ?_
 rintro r h ⟨v,q,vs',n',l',rfl,rfl,⟨s,rfl,hs⟩,h1,h2,rfl,rfl,rfl⟩
 have hsl:bB vs'= .lst 1 (vs'.map λw=>[.str w]):=rfl
 simp-implicitDefEqProofs[aa,bx,hsl]
 have hv1:=hv.1
 have hrow:List.take vs'.length (List.map ((λx=>List.map AV.p x)∘λw=>[PV.str w]) vs')++[[AV.p (PV.str s)]]=(vs'++[s]).map λw=>[AV.p (.str w)]:=by
  rw[List.take_of_length_le (by simp)];simp[Function.comp_def]
 have hlen:vs'.length+1=(vs'++[s]).length:=by simp
 refine⟨by omega,by omega,?_⟩
 rw[hrow,hlen]
 have hsm:(Sm.mk 1 s [⟨1,N,[],[]⟩] [] []).cs=[.int .i64 1,.str s,exL [⟨1,N,[],[]⟩],smL [],smL []]:=Sm.cs_eq _
 refine⟨_,_,q,_,.agg ((Sm.mk 1 s [⟨1,N,[],[]⟩] [] []).cs.map .p),vs'++[s],next+1,l',rfl,rfl,.one (kS rfl) .nil,.agg ?_ .nil,⟨s,hs,rfl,h1,h2,rfl,rfl,rfl⟩⟩
 rw[hsm]
 refine .keep (by simp) (.keep (by simp) (.one ?_ (.one (View.nils 5) (.one (View.nils 5) .nil))))
 refine View.sl _ _ _ _ [(Ex.mk 1 N [] []).cs] rfl (by simp) (by simp) λi j e q e' a a1 a2 a3 a4=>?_
 rw[Nat.zero_add] at a3
 match i,a1,a3 with
 |0,a1,a3=>
  cases a1;cases a3
  have hn:(Ex.mk 1 N [] []).cs=[.int .i64 1,.int .i64 N,.str [],.lst 4 []]:=Ex.cs_eq _
  rw[hn] at a2
  match j,a2,a4 with
  |0,e1,e2=>cases e1;cases e2;exact .p _
  |1,e1,e2=>cases e1;cases e2;exact .p _
  |2,e1,e2=>cases e1;cases e2;exact .p _
  |3,e1,e2=>cases e1;cases e2;exact View.nils 4
  |j+4,e1,e2=>simp at e1
 |i+1,a1,a3=>simp at a1
end
section
def Pd(d:Nat):Nat:=5000*20^d
structure Bd (n:Nat) (p:Nat) (vs:List (List UInt8)) (next left:Int):Prop where
 p:p+n<=100000000000
 v:vs.length+n/50<=900000
 w:∀s∈vs,s.length<=8
 n0: -1<=next
 n1:next+n<=100000000000
 l0: -100000000000<=left-n
 l1:left<=100000000000
theorem Bd.shrt{n p:Nat}{vs:List (List UInt8)}{next left:Int}(h:Bd n p vs next left):uy vs:=⟨by have:=h.v;omega,h.w⟩
def Mv(n p q:Nat)(next next' left left':Int):Prop:=p<=q/\q<=p+n/\next<=next'/\next'<=next+n/\left-n<=left'/\left'<=left
def FG(b:List Int)(fns:List Fd)(vs:List (List UInt8))(p n:Nat)(next left:Int)(rest:List AO)(x:ARes)(h:List AO):Prop:=
 ∃(out:List Sm) (q:Nat) (next' left':Int),x= .ret (.sl (3+rest.length) 5 0 out.length)/\h=rdO b q:: .row 5 [bx fns vs next' left']::cK 3 (aR fns)::rest++[.row 5 (smR out)]/\aM out<=n/\out.length<=100/\Mv n p q next next' left left'
def BF(G:aB)(b:List Int)(fns:List Fd)(d:Nat):Prop:=∀{p:Nat} {vs:List (List UInt8)} {next left:Int},Bd (Pd d) p vs next left->AC Tryz.prog G aN [.ptr 1 5 0 0,.p (.int .i64 d)] (HG b p fns vs next left) (FG b fns vs p (Pd d) next left [])
variable (G:aB)
theorem ni{b:List Int}{fns:List Fd}{d p:Nat}{vs:List (List UInt8)}{next left:Int}(H:AC Tryz.prog G aN [.ptr 1 5 0 0,.p (.int .i64 d)] (HG b p fns vs next left) (FG b fns vs p (Pd d) next left []))(rest:List AO):
 AC Tryz.prog G aN [.ptr 1 5 0 0,.p (.int .i64 d)] (rdO b p:: .row 5 [bx fns vs next left]::cK 3 (aR fns)::rest) (FG b fns vs p (Pd d) next left rest):=by
 have H2:AC Tryz.prog G aN [.ptr 1 5 0 0,.p (.int .i64 d)] (HG b p fns vs next left) λx h'=>∃h1 es,h'=h1++[.row 5 es]/\h1.length=(HG b p fns vs next left).length/\x= .ret (.sl (HG b p fns vs next left).length 5 0 es.length)/\(∀e∈es,au 0 e)/\
  (∃(out:List Sm) (q:Nat) (next' left':Int),es=smR out/\h1=HG b q fns vs next' left'/\aM out<=Pd d/\out.length<=100/\Mv (Pd d) p q next next' left left'):=by
  refine H.mono ?_
  rintro x h ⟨out,q,n',l',rfl,rfl,h1,h2,h3⟩
  exact⟨HG b q fns vs n' l',smR out,rfl,rfl,by simp[HG,eq],jX out,out,q,n',l',rfl,rfl,h1,h2,h3⟩
 refine(AC.pre1 (R:=λh1 es=>∃(out:List Sm) (q:Nat) (next' left':Int),es=smR out/\h1=HG b q fns vs next' left'/\aM out<=Pd d/\out.length<=100/\Mv (Pd d) p q next next' left left') H2 rest (by simp[below,HG]) (CB _ _ _ _ _ _) ?_).mono ?_
 ·rintro h1 es ⟨out,q,n',l',rfl,rfl,_⟩
  exact CB _ _ _ _ _ _
 ·rintro x h ⟨h1,es,rfl,_,rfl,_,out,q,n',l',rfl,rfl,r⟩
  exact⟨out,q,n',l',by simp[HG,eq],rfl,r⟩
theorem nC:AK.whole dB=FK.ak dw:=rfl
def Le(n p:Nat)(vs:List (List UInt8))(next left:Int)(v:AV)(q:Nat)(vs':List (List UInt8))(next' left':Int):Prop:=
 ∃(out:List Sm) (s:List UInt8),v= .p (smL out)/\aM out<=n/\1<=out.length/\out.length<=2/\s.length<=8/\vs'=vs++[s]/\Mv n p q next next' left left'
theorem CA{b:List Int}(hb:Byt b)(hl:b.length<=2000)(fns:List Fd){d:Nat}(hd:d<=10)(hblk:BF G b fns d){p:Nat}{vs:List (List UInt8)}{next left:Int}(hB:Bd (Pd d+60) p vs next left):
 AC Tryz.prog G dz [.ptr 1 5 0 0,.p (.int .i64 ((d:Int)+1))] (HG b p fns vs next left) (PG b fns (Le (Pd d+60) p vs next left) []):=by
 have hp:=hB.p
 have hv:=hB.v
 have hn0:=hB.n0
 have hn1:=hB.n1
 have hl0:=hB.l0
 have hl1:=hB.l1
 refine gL G (AC.goK mB nC ?_)
 simp-implicitDefEqProofs[dB,dw,HG,bx]
 refine(iZ G hb hl (p:=p) (by omega) [2,3,1,0,5] (k:=3) (by simp) (by simp) (by omega) rfl rfl).mono ?_
 rintro r h ⟨N,hN,rfl,rfl⟩
 have hN5:0<=N/\N<=5:=by simp at hN;omega
 simp-implicitDefEqProofs[aa]
 refine(bM G (Hp G hb hl (p:=p+1) (by omega) fns vs hB.shrt hn0 (by omega) left N) _ (by simp[below])).mono ?_
 rintro r h ⟨v,q,vs',n',l',rfl,rfl,s,hs,rfl,h1,h2,rfl,rfl,rfl⟩
 have hsm:(Sm.mk 1 s [⟨1,N,[],[]⟩] [] []).cs=[.int .i64 1,.str s,exL [⟨1,N,[],[]⟩],smL [],smL []]:=Sm.cs_eq _
 have hwd:IntKind.i64.wrap ((d:Int)+1-1)=d:=by rw[ae (by omega) (by omega)];omega
 have hw2:IntKind.i64.wrap (d:Int)=d:=ae (by omega) (by omega)
 simp-implicitDefEqProofs[aa,bx,hsm,hw2]
 have hB2:Bd (Pd d) q (vs++[s]) (next+1) l':=⟨by omega,by simp;omega,λw hw=>by
  rcases List.mem_append.1 hw with h|h
  ·exact hB.w w h
  ·rw[List.mem_singleton.1 h];exact hs,by omega,by omega,by omega,by omega⟩
 refine(ni G (hblk hB2) _).mono ?_
 rintro r h ⟨out,q2,n2,l2,rfl,rfl,z1,z2,m1,m2,m3,m4,m5,m6⟩
 have hwl:IntKind.i64.wrap (l2-2)=l2-2:=ae (by omega) (by omega)
 simp-implicitDefEqProofs[aa,bx,hwl]
 have hHb:∀(l:Int),okO 7 (.row 5 [[.ptr 0 2 0 0,slE 2 3 (aR fns),.p (bB (vs++[s])),.p (.int .i64 n2),.p (.int .i64 l)]]):=λl e he=>by
  rw[List.mem_singleton.1 he];exact⟨by simp[below],kL (by omega),by simp,by simp,by simp,trivial⟩
 refine Ik (aC 50 [(0,.ptr 1 5 0 0),(5,.ptr 3 5 0 0),(6,.ptr 4 4 0 0),(7,.sl 5 5 0 out.length),(8,.ptr 6 5 0 0)])
  [rdO b q2,.row 5 [[.ptr 0 2 0 0,slE 2 3 (aR fns),.p (bB (vs++[s])),.p (.int .i64 n2),.p (.int .i64 (l2-2))]],cK 3 (aR fns),
   .row 5 [[.p (.int .i64 1),.p (.str s),.p (exL [Ex.mk 1 N [] []]),.p (smL []),.p (smL [])]],.row 4 [[.p (.int .i64 2),.p (.int .i64 0),.p (.str s),.p (exL [])]],.row 5 (smR out),
   .row 5 [[.p (.int .i64 2),.p (.str s),.p (exL [Ex.mk 4 0 [] [⟨2,0,s,[]⟩,⟨1,1,[],[]⟩]]),.p (smL []),.p (smL [])]]] ?_ ?_
 ·simp-implicitDefEqProofs[hwl]
  refine Wk.trans (kU (l1:=[(0,.ptr 1 5 0 0),(5,.ptr 3 5 0 0),(6,.ptr 4 4 0 0),(7,.sl 5 5 0 out.length),(8,.ptr 6 5 0 0)])
   (h1:=[rdO b q2,.row 5 [[.ptr 0 2 0 0,slE 2 3 (aR fns),.p (bB (vs++[s])),.p (.int .i64 n2),.p (.int .i64 (l2-2))]],cK 3 (aR fns),
   .row 5 [[.p (.int .i64 1),.p (.str s),.p (exL [Ex.mk 1 N [] []]),.p (smL []),.p (smL [])]],.row 4 [[.p (.int .i64 2),.p (.int .i64 0),.p (.str s),.nils]],.row 5 (smR out),
   .row 5 [[.p (.int .i64 2),.p (.str s),.sl 8 4 0 1,.nils,.nils]],.row 4 [[.p (.int .i64 2),.p (.int .i64 0),.p (.str s),.nils],[.p (.int .i64 1),.p (.int .i64 1),.p (.str []),.nils]],.row 4 [[.p (.int .i64 4),.p (.int .i64 0),.p (.str []),.sl 7 4 0 2]]])
   [0,1,2,4,5,6,9,7,8] (by simp) (by decide) (by decide) (gE rfl (bL _ _ _) (dS (by simp[below]) (by simp[ren,bf]) (gE rfl (gC _ _) (cG rfl (by simp[below]) (cG rfl (by simp[below]) (cG rfl (jX out) (dS (by simp[below]) (by simp[ren,bf]) (cG rfl (by simp[below]) (dS (by simp[below]) (by simp[ren,bf]) gn))))))))) (by simp[below,ren]))
   (mN 7 (by omega) (by simp) rfl (.same (bL _ _ _) (.same (hHb _) (.same (gC _ _) (.same (by simp[okO,below]) (.one (.keep (by simp) (.keep (by simp) (.keep (by simp) (.one (View.nils 4) .nil)))) (.same (uh (jX out)) (.one (.keep (by simp) (.keep (by simp) (.one ?_ (.one (View.nils 5) (.one (View.nils 5) .nil))))) (.nil _)))))))) ?_)
  ·exact bj (p0:=(Ex.mk 4 0 [] [⟨2,0,s,[]⟩,⟨1,1,[],[]⟩]).cs) rfl (Ex.cs_len _) (iO (nk (p0:=(Ex.mk 2 0 s []).cs) (p1:=(Ex.mk 1 1 [] []).cs) rfl (Ex.cs_len _) (Ex.cs_len _) (iO (View.nils 4)) (iO (View.nils 4))))
  ·exact⟨.keep (by simp[below]) .nil,.keep (by simp[below]) .nil,.keep (by simp[below]) .nil,.keep (by simp[below]) .nil,.keep (by simp[below]) .nil,trivial⟩
 ·simp-implicitDefEqProofs[]
  have hless:(Sm.mk 2 s [Ex.mk 4 0 [] [⟨2,0,s,[]⟩,⟨1,1,[],[]⟩]] [] []).cs=[.int .i64 2,.str s,exL [Ex.mk 4 0 [] [⟨2,0,s,[]⟩,⟨1,1,[],[]⟩]],smL [],smL []]:=Sm.cs_eq _
  have hrow:List.take out.length (smR out)++[[AV.p (.int .i64 2),.p (.str s),.p (exL [Ex.mk 4 0 [] [⟨2,0,s,[]⟩,⟨1,1,[],[]⟩]]),.p (smL []),.p (smL [])]]=smR (out++[Sm.mk 2 s [Ex.mk 4 0 [] [⟨2,0,s,[]⟩,⟨1,1,[],[]⟩]] [] []]):=by
   rw[List.take_of_length_le (by rw[eq];exact Nat.le_refl _),Ao];exact congrArg (smR out++ ·) (by rw[smR,List.map_singleton,hless];rfl)
  have hlen:out.length+1=(out++[Sm.mk 2 s [Ex.mk 4 0 [] [⟨2,0,s,[]⟩,⟨1,1,[],[]⟩]] [] []]).length:=by simp
  refine⟨⟨by rw[eq];exact Nat.le_refl _,by omega,by omega⟩,?_⟩
  rw[hrow,hlen]
  refine⟨_,_,q2,_,.p (smL [Sm.mk 1 s [⟨1,N,[],[]⟩] [] [],Sm.mk 6 [] [⟨2,0,s,[]⟩] (out++[Sm.mk 2 s [Ex.mk 4 0 [] [⟨2,0,s,[]⟩,⟨1,1,[],[]⟩]] [] []]) []]),vs++[s],n2,l2-2,rfl,rfl,.keep (by simp) .nil,
   .one (nk (p0:=(Sm.mk 1 s [⟨1,N,[],[]⟩] [] []).cs) (p1:=(Sm.mk 6 [] [⟨2,0,s,[]⟩] (out++[Sm.mk 2 s [Ex.mk 4 0 [] [⟨2,0,s,[]⟩,⟨1,1,[],[]⟩]] [] []]) []).cs) rfl (Sm.cs_len _) (Sm.cs_len _)
    (bQ (.p _) (.p _) (.p _)) (bQ ?_ (iT rfl) (View.nils 5))) .nil,_,s,rfl,?_,by simp,by simp,hs,rfl,?_⟩
  ·have h2:(Ex.mk 2 0 s []).cs=[.int .i64 2,.int .i64 0,.str s,exL []]:=Ex.cs_eq _
   have he:exL [Ex.mk 2 0 s []]= .lst 4 [[.int .i64 2,.int .i64 0,.str s,exL []]]:=by rw[exL,List.map_singleton,h2]
   rw[he]
   exact .p _
  ·simp[aM,ce,Sm.sz,Ex.sz,aP]
   omega
  ·exact⟨by omega,by omega,by omega,by omega,by omega,by omega⟩
end
section
variable (G:aB)
def JI(n p:Nat)(vs:List (List UInt8))(next left:Int)(v:AV)(q:Nat)(vs':List (List UInt8))(next' left':Int):Prop:=
 ∃out:List Sm,v= .p (smL out)/\aM out<=n/\1<=out.length/\out.length<=2/\(vs'=vs\/∃s:List UInt8,s.length<=8/\vs'=vs++[s])/\Mv n p q next next' left left'
theorem HQ{b:List Int}(hb:Byt b)(hl:b.length<=2000)(fns:List Fd)(hf:rq fns){d:Nat}(hd:d<=10)(hblk:1<=d->BF G b fns d){p:Nat}{vs:List (List UInt8)}{next left:Int}(hB:Bd (2*Pd d+3000) p vs next left):
 AC Tryz.prog G dM [.ptr 1 5 0 0,.p (.int .i64 ((d:Int)+1))] (HG b p fns vs next left) (PG b fns (JI (2*Pd d+3000) p vs next left) []):=by
 have hp:=hB.p
 have hv:=hB.v
 have hn0:=hB.n0
 have hn1:=hB.n1
 have hl0:=hB.l0
 have hl1:=hB.l1
 refine gL G (AC.go mz ?_)
 have hwl:IntKind.i64.wrap (left-1)=left-1:=ae (by omega) (by omega)
 have hsl:bB vs= .lst 1 (vs.map λw=>[.str w]):=rfl
 simp-implicitDefEqProofs[gJ,HG,bx,hwl]
 refine(aI G b hb hl p (by omega) 13 _).mono ?_
 rintro r h ⟨k,rfl,rfl,hk⟩
 have gu:∀(m:Sm) (q:Nat) (rest:List AO) (v:AV) (vc:AV) (vs':List (List UInt8)) (next' left':Int),Fzs (.dead:: .dead:: .dead::rest) 3 [vc] [.p (bB vs')]->Fzs (.dead:: .dead:: .dead::rest) 3 [v] [.p (smL [m])]->m.sz<=2*Pd d+3000->(vs'=vs\/∃s:List UInt8,s.length<=8/\vs'=vs++[s])->Mv (2*Pd d+3000) p q next next' left left'->
  DG b fns (JI (2*Pd d+3000) p vs next left) (.ret v) (rdO b q:: .row 5 [[.ptr 0 2 0 0,slE 2 3 (aR fns),vc,.p (.int .i64 next'),.p (.int .i64 left')]]::cK 3 (aR fns)::rest):=λm q rest v vc vs' next' left' h1 h2 h3 h4 h5=>
  ⟨_,rest,q,_,_,vs',next',left',rfl,rfl,h1,h2,[m],rfl,by simp[aM];omega,by simp,by simp,h4,h5⟩
 by_cases hc:k<3/\vs≠[]
 ·obtain⟨hc1,hne⟩:=hc
  have hpos:0<vs.length:=List.length_pos_iff.2 hne
  have hc1':(k:Int)<3:=by omega
  have hv1:=hB.v
  simp-implicitDefEqProofs[aa,hsl,hc1,hc1',hpos]
  rw[←hsl]
  refine(CX G hb hl (p:=p+1) (by omega) vs hne (by omega) _).mono ?_
  rintro r h ⟨w,hw,rfl,rfl⟩
  have hw8:=hB.w w hw
  simp-implicitDefEqProofs[aa]
  refine(bM G (gV G hb hl (p:=p+1+1) (by omega) fns hf vs hB.shrt next (left-1) (d:=3) (by omega)) _ (by simp[below])).mono ?_
  rintro r h ⟨v,q,vs',n',l',rfl,rfl,⟨e,rfl,he⟩,h1,h2,rfl,rfl,rfl⟩
  have hec:=e.cs_eq
  simp-implicitDefEqProofs[aa,bx,hec]
  exact gu ⟨2,w,[e],[],[]⟩ q _ _ _ vs' n' (left-1) (.keep (by simp) .nil) (.one (bj (p0:=(Sm.mk 2 w [e] [] []).cs) rfl (Sm.cs_len _) (bQ (cB (l:=[e]) (by rw[List.map_singleton,hec];rfl)) (View.nils 5) (View.nils 5))) .nil) (by simp[Sm.sz,aP,aM];omega) (.inl rfl) ⟨by omega,by omega,by omega,by omega,by omega,by omega⟩
 have hcc:(k<3/\0<vs.length)=False:=by
  simp only[eq_iff_iff,iff_false]
  exact λ⟨a,c⟩=>hc ⟨a,List.length_pos_iff.1 c⟩
 have hvz:(k:Int)<3->vs.length=0:=λh=>by
  by_cases e:vs=[]
  ·rw[e];rfl
  ·exact absurd ⟨by omega,e⟩ hc
 have hvx:=hB.shrt
 have hvv:=hB.v
 by_cases k5:(k:Int)<5
 ·by_cases k3:(k:Int)<3
  ·have hv0:=hvz k3
   simp-implicitDefEqProofs[aa,hsl,k3,hv0,k5]
   rw[←hsl]
   refine(bM G (gV G hb hl (p:=p+1) (by omega) fns hf vs hvx next (left-1) (d:=3) (by omega)) _ (by simp[below])).mono ?_
   rintro r h ⟨v,q,vs',n',l',rfl,rfl,⟨e,rfl,he⟩,h1,h2,rfl,rfl,rfl⟩
   have hec:=e.cs_eq
   have hL:=GA G hb hl (p:=q) (by omega) fns vs' hvx hn0 (by omega) (left-1) e
   rw[hec] at hL
   simp-implicitDefEqProofs[aa,bx,hec]
   refine(bM G hL _ (by simp[below])).mono ?_
   rintro r h ⟨v,q2,vs2,n2,l2,rfl,rfl,s,hs,rfl,h3,h4,rfl,rfl,rfl⟩
   have hsm:(Sm.mk 1 s [e] [] []).cs=[.int .i64 1,.str s,exL [e],smL [],smL []]:=Sm.cs_eq _
   simp-implicitDefEqProofs[aa,bx,hsm]
   exact gu ⟨1,s,[e],[],[]⟩ q2 _ _ _ (vs'++[s]) (n'+1) (left-1) (.keep (by simp) .nil) (.one (bj (p0:=(Sm.mk 1 s [e] [] []).cs) rfl (Sm.cs_len _) (bQ (.p _) (.p _) (.p _))) .nil) (by simp[Sm.sz,aP,aM];omega) (.inr ⟨s,hs,rfl⟩) ⟨by omega,by omega,by omega,by omega,by omega,by omega⟩
  ·simp-implicitDefEqProofs[aa,hsl,k3,k5]
   rw[←hsl]
   refine(bM G (gV G hb hl (p:=p+1) (by omega) fns hf vs hvx next (left-1) (d:=3) (by omega)) _ (by simp[below])).mono ?_
   rintro r h ⟨v,q,vs',n',l',rfl,rfl,⟨e,rfl,he⟩,h1,h2,rfl,rfl,rfl⟩
   have hec:=e.cs_eq
   have hL:=GA G hb hl (p:=q) (by omega) fns vs' hvx hn0 (by omega) (left-1) e
   rw[hec] at hL
   simp-implicitDefEqProofs[aa,bx,hec]
   refine(bM G hL _ (by simp[below])).mono ?_
   rintro r h ⟨v,q2,vs2,n2,l2,rfl,rfl,s,hs,rfl,h3,h4,rfl,rfl,rfl⟩
   have hsm:(Sm.mk 1 s [e] [] []).cs=[.int .i64 1,.str s,exL [e],smL [],smL []]:=Sm.cs_eq _
   simp-implicitDefEqProofs[aa,bx,hsm]
   exact gu ⟨1,s,[e],[],[]⟩ q2 _ _ _ (vs'++[s]) (n'+1) (left-1) (.keep (by simp) .nil) (.one (bj (p0:=(Sm.mk 1 s [e] [] []).cs) rfl (Sm.cs_len _) (bQ (.p _) (.p _) (.p _))) .nil) (by simp[Sm.sz,aP,aM];omega) (.inr ⟨s,hs,rfl⟩) ⟨by omega,by omega,by omega,by omega,by omega,by omega⟩
 have k3:¬(k:Int)<3:=by omega
 by_cases k7:(k:Int)<7\/d=0
 ·by_cases k7':(k:Int)<7
  ·simp-implicitDefEqProofs[aa,k3,k5,k7']
   refine(bM G (gV G hb hl (p:=p+1) (by omega) fns hf vs hvx next (left-1) (d:=3) (by omega)) _ (by simp[below])).mono ?_
   rintro r h ⟨v,q,vs',n',l',rfl,rfl,⟨e,rfl,he⟩,h1,h2,rfl,rfl,rfl⟩
   have hec:=e.cs_eq
   simp-implicitDefEqProofs[aa,bx,hec]
   exact gu ⟨3,[],[e],[],[]⟩ q _ _ _ vs' n' (left-1) (.keep (by simp) .nil) (.one (bj (p0:=(Sm.mk 3 [] [e] [] []).cs) rfl (Sm.cs_len _) (bQ (cB (l:=[e]) (by rw[List.map_singleton,hec];rfl)) (View.nils 5) (View.nils 5))) .nil) (by simp[Sm.sz,aP,aM];omega) (.inl rfl) ⟨by omega,by omega,by omega,by omega,by omega,by omega⟩
  ·have hdl:(d:Int)+1<2:=by omega
   simp-implicitDefEqProofs[aa,k3,k5,k7',hdl]
   refine(bM G (gV G hb hl (p:=p+1) (by omega) fns hf vs hvx next (left-1) (d:=3) (by omega)) _ (by simp[below])).mono ?_
   rintro r h ⟨v,q,vs',n',l',rfl,rfl,⟨e,rfl,he⟩,h1,h2,rfl,rfl,rfl⟩
   have hec:=e.cs_eq
   simp-implicitDefEqProofs[aa,bx,hec]
   exact gu ⟨3,[],[e],[],[]⟩ q _ _ _ vs' n' (left-1) (.keep (by simp) .nil) (.one (bj (p0:=(Sm.mk 3 [] [e] [] []).cs) rfl (Sm.cs_len _) (bQ (cB (l:=[e]) (by rw[List.map_singleton,hec];rfl)) (View.nils 5) (View.nils 5))) .nil) (by simp[Sm.sz,aP,aM];omega) (.inl rfl) ⟨by omega,by omega,by omega,by omega,by omega,by omega⟩
 have k7':¬(k:Int)<7:=λh=>k7 (.inl h)
 have hd1:1<=d:=by omega
 have hd2:¬((d:Int)+1)<2:=by omega
 have hblk2:BF G b fns d:= @hblk hd1
 by_cases e7:(k:Int)=7
 ·simp-implicitDefEqProofs[aa,k3,k5,k7',hd2,e7]
  refine(bM G (Ez G hb hl (p:=p+1) (by omega) fns hf vs hvx next (left-1)) _ (by simp[below])).mono ?_
  rintro r h ⟨v,q,vs',n',l',rfl,rfl,⟨e,rfl,he⟩,h1,h2,rfl,rfl,rfl⟩
  have hec:=e.cs_eq
  simp-implicitDefEqProofs[aa,bx,hec]
  refine(bM G (gV G hb hl (p:=q) (by omega) fns hf vs' hvx n' (left-1) (d:=2) (by omega)) _ (by simp[below])).mono ?_
  rintro r h ⟨v,q2,vs2,n2,l2,rfl,rfl,⟨e2,rfl,he2⟩,h3,h4,rfl,rfl,rfl⟩
  have hec2:=e2.cs_eq
  simp-implicitDefEqProofs[aa,bx,hec2]
  exact gu ⟨4,[],[e,e2],[],[]⟩ q2 _ _ _ vs2 n2 (left-1) (.keep (by simp) .nil) (.one (bj (p0:=(Sm.mk 4 [] [e,e2] [] []).cs) rfl (Sm.cs_len _) (bQ (cB (l:=[e,e2]) (by rw[List.map_cons,List.map_singleton,hec,hec2];rfl)) (View.nils 5) (View.nils 5))) .nil) (by simp[Sm.sz,aP,aM];omega) (.inl rfl) ⟨by omega,by omega,by omega,by omega,by omega,by omega⟩
 by_cases e8:(k:Int)=8
 ·simp-implicitDefEqProofs[aa,k3,k5,k7',hd2,e7,e8]
  refine(bM G (Ez G hb hl (p:=p+1) (by omega) fns hf vs hvx next (left-1)) _ (by simp[below])).mono ?_
  rintro r h ⟨v,q,vs',n',l',rfl,rfl,⟨e,rfl,he⟩,h1,h2,rfl,rfl,rfl⟩
  have hec:=e.cs_eq
  simp-implicitDefEqProofs[aa,bx,hec]
  exact gu ⟨3,[],[⟨12,0,[],[e]⟩],[],[]⟩ q _ _ _ vs' n' (left-1) (.keep (by simp) .nil) (.one (bj (p0:=(Sm.mk 3 [] [⟨12,0,[],[e]⟩] [] []).cs) rfl (Sm.cs_len _) (bQ (bj (p0:=(Ex.mk 12 0 [] [e]).cs) rfl (Ex.cs_len _) (iO (cB (l:=[e]) (by rw[List.map_singleton,hec];rfl)))) (View.nils 5) (View.nils 5))) .nil) (by simp[Sm.sz,Ex.sz,aP,aM];omega) (.inl rfl) ⟨by omega,by omega,by omega,by omega,by omega,by omega⟩
 have hwd:IntKind.i64.wrap ((d:Int)+1-1)=d:=by rw[ae (by omega) (by omega)];omega
 have hwd2:IntKind.i64.wrap (d:Int)=d:=ae (by omega) (by omega)
 by_cases k11:(k:Int)<11
 ·simp-implicitDefEqProofs[aa,k3,k5,k7',hd2,e7,e8,k11]
  refine(bM G (gV G hb hl (p:=p+1) (by omega) fns hf vs hvx next (left-1) (d:=3) (by omega)) _ (by simp[below])).mono ?_
  rintro r h ⟨v,q,vs',n',l',rfl,rfl,⟨e,rfl,he⟩,h1,h2,rfl,rfl,rfl⟩
  have hec:=e.cs_eq
  simp-implicitDefEqProofs[aa,bx,hec,hwd2]
  have hB2:Bd (Pd d) q vs' n' (left-1):=⟨by omega,by omega,hB.w,by omega,by omega,by omega,by omega⟩
  refine(ni G (hblk2 hB2) _).mono ?_
  rintro r h ⟨out,q2,n2,l2,rfl,rfl,z1,z2,m1,m2,m3,m4,m5,m6⟩
  simp-implicitDefEqProofs[aa,bx]
  refine(aI G b hb hl q2 (by omega) 2 _).mono ?_
  rintro r h ⟨k2,rfl,rfl,_⟩
  simp-implicitDefEqProofs[aa]
  refine aG (λhq=>?_) (λhq=>?_)
  ·simp-implicitDefEqProofs[hwd2]
   have hB3:Bd (Pd d) (q2+1) vs' n2 l2:=⟨by omega,by omega,hB.w,by omega,by omega,by omega,by omega⟩
   refine(ni G (hblk2 hB3) _).mono ?_
   rintro r h ⟨out2,q3,n3,l3,rfl,rfl,y1,y2,w1,w2,w3,w4,w5,w6⟩
   simp-implicitDefEqProofs[aa,bx]
   exact gu ⟨5,[],[e],out,out2⟩ q3 _ _ _ vs' n3 l3 (.keep (by simp) .nil) (.one (bj (p0:=(Sm.mk 5 [] [e] out out2).cs) rfl (Sm.cs_len _) (bQ (cB (l:=[e]) (by rw[List.map_singleton,hec];rfl)) (iT rfl) (iT rfl))) .nil) (by simp[Sm.sz,aP];omega) (.inl rfl) ⟨by omega,by omega,by omega,by omega,by omega,by omega⟩
  ·simp-implicitDefEqProofs[]
   exact gu ⟨5,[],[e],out,[]⟩ (q2+1) _ _ _ vs' n2 l2 (.keep (by simp) .nil) (.one (bj (p0:=(Sm.mk 5 [] [e] out []).cs) rfl (Sm.cs_len _) (bQ (cB (l:=[e]) (by rw[List.map_singleton,hec];rfl)) (iT rfl) (View.nils 5))) .nil) (by simp[Sm.sz,aP,aM];omega) (.inl rfl) ⟨by omega,by omega,by omega,by omega,by omega,by omega⟩
 by_cases e11:(k:Int)=11
 ·simp-implicitDefEqProofs[aa,k3,k5,k7',hd2,e7,e8,k11,e11]
  refine(aI G b hb hl (p+1) (by omega) 3 _).mono ?_
  rintro r h ⟨k2,rfl,rfl,_⟩
  simp-implicitDefEqProofs[aa]
  refine aG (λhq=>?_) (λhq=>?_)
  ·simp-implicitDefEqProofs[]
   refine(bM G (gV G hb hl (p:=p+1+1) (by omega) fns hf vs hvx next (left-1) (d:=2) (by omega)) _ (by simp[below])).mono ?_
   rintro r h ⟨v,q,vs',n',l',rfl,rfl,⟨e,rfl,he⟩,h1,h2,rfl,rfl,rfl⟩
   have hec:=e.cs_eq
   simp-implicitDefEqProofs[aa,bx,hec]
   exact gu ⟨7,[],[e],[],[]⟩ q _ _ _ vs' n' (left-1) (.keep (by simp) .nil) (.one (bj (p0:=(Sm.mk 7 [] [e] [] []).cs) rfl (Sm.cs_len _) (bQ (cB (l:=[e]) (by rw[List.map_singleton,hec];rfl)) (View.nils 5) (View.nils 5))) .nil) (by simp[Sm.sz,aP,aM];omega) (.inl rfl) ⟨by omega,by omega,by omega,by omega,by omega,by omega⟩
  ·simp-implicitDefEqProofs[]
   have hBL:Bd (Pd d+60) (p+1+1) vs next (left-1):=⟨by omega,by omega,hB.w,hn0,by omega,by omega,by omega⟩
   refine(bM G (CA G hb hl fns hd hblk2 hBL) _ (by simp[below])).mono ?_
   rintro r h ⟨v,q,vs2,n2,l2,rfl,rfl,out,s,rfl,z1,z2,z3,hs,rfl,m1,m2,m3,m4,m5,m6⟩
   simp-implicitDefEqProofs[aa,bx]
   exact⟨_,_,q,_,_,vs++[s],n2,l2,rfl,rfl,.keep (by simp) .nil,.keep (by simp) .nil,out,rfl,by omega,z2,z3,.inr ⟨s,hs,rfl⟩,by omega,by omega,by omega,by omega,by omega,by omega⟩
 ·simp-implicitDefEqProofs[aa,k3,k5,k7',hd2,e7,e8,k11,e11]
  have hBL:Bd (Pd d+60) (p+1) vs next (left-1):=⟨by omega,by omega,hB.w,hn0,by omega,by omega,by omega⟩
  refine(bM G (CA G hb hl fns hd hblk2 hBL) _ (by simp[below])).mono ?_
  rintro r h ⟨v,q,vs2,n2,l2,rfl,rfl,out,s,rfl,z1,z2,z3,hs,rfl,m1,m2,m3,m4,m5,m6⟩
  simp-implicitDefEqProofs[aa,bx]
  exact⟨_,_,q,_,_,vs++[s],n2,l2,rfl,rfl,.keep (by simp) .nil,.keep (by simp) .nil,out,rfl,by omega,z2,z3,.inr ⟨s,hs,rfl⟩,by omega,by omega,by omega,by omega,by omega,by omega⟩
end
section
variable (G:aB)
structure BkS where (j m:Nat) (out:List Sm) (q:Nat) (vs:List (List UInt8)) (next left:Int)
theorem JD(d:Nat):5000<=Pd d:=by
 have:1<=20^d:=Nat.one_le_pow _ _ (by omega)
 simp only[Pd];omega
theorem ET(d:Nat):Pd (d+1)=20*Pd d:=by simp only[Pd,Nat.pow_succ];omega
theorem ul{b:List Int}(hb:Byt b)(hl:b.length<=2000)(fns:List Fd)(hf:rq fns){d:Nat}(hd:d<=10)(hblk:1<=d->BF G b fns d):BF G b fns (d+1):=by
 intro p vs next left hB
 have hp:=hB.p
 have hv:=hB.v
 have hn0:=hB.n0
 have hn1:=hB.n1
 have hl0:=hB.l0
 have hl1:=hB.l1
 have hP:=JD d
 have hPs:=ET d
 generalize hN:Pd d=N at*
 rw[hPs] at hp hv hn1 hl0⊢
 have hGok:∀(vs:List (List UInt8)) (nx lf:Int),okO 4 (.row 5 [bx fns vs nx lf]):=λvs nx lf e he=>by
  rw[List.mem_singleton.1 he];exact⟨by simp[below],kL (by omega),by simp,by simp,by simp,trivial⟩
 refine AC.go lW ?_
 simp-implicitDefEqProofs[fS,HG,bx]
 refine(iZ G hb hl (p:=p) (by omega) [2,3,1,4] (k:=4) (by simp) (by simp) (by omega) rfl rfl).mono ?_
 rintro r h ⟨I,hI,rfl,rfl⟩
 obtain⟨J,rfl,hJ⟩:∃J:Nat,I=J/\J<=4:=⟨I.toNat,by simp at hI;omega,by simp at hI;omega⟩
 simp-implicitDefEqProofs[aa]
 refine aH (λs:BkS=>aC 40 [(0,.ptr 1 5 0 0),(1,.p (.int .i64 ((d:Int)+1))),(5,.p (bB vs)),(6,.sl 3 5 0 s.out.length),(7,.p (.int .i64 s.j))])
  (λs=>[rdO b s.q,.row 5 [bx fns s.vs s.next s.left],cK 3 (aR fns),.row 5 (smR s.out)])
  (λs=>s.j+s.m<=4/\aM s.out<=s.m*(2*N+3000)/\s.out.length<=2*s.m/\p<=s.q/\s.q<=p+1+s.m*(2*N+3000)/\s.vs.length<=vs.length+s.m/\(∀w∈s.vs,w.length<=8)/\next<=s.next/\s.next<=next+((s.m*(2*N+3000):Nat):Int)/\left-((s.m*(2*N+3000):Nat):Int)<=s.left/\s.left<=left)
  (λs=>s.j) ⟨J,0,[],p+1,vs,next,left⟩ ⟨by simp only;omega,by simp[aM],by simp,by simp,by simp,by simp,hB.w,by simp,by simp,by simp,by simp⟩ ?_ ?_
 ·refine ua (m:=4) (by omega) (nu (h1:=[rdO b (p+1),.row 5 [bx fns vs next left],cK 3 (aR fns),.row 5 (smR [])]) rfl rfl (nw (bL _ _ _) (nw (hGok _ _ _) (nw (gC _ _) (nw (uh (jX [])) Gm))))) (by simp[below])
 rintro⟨j,m,out,q,vs',nx,lf⟩ ⟨i1,i2,i3,i4,i5,i6,i7,i8,i9,i10,i11⟩
 simp only at i1 i2 i3 i4 i5 i6 i7 i8 i9 i10 i11
 simp-implicitDefEqProofs[bx]
 have hm4:m*(2*N+3000)<=4*(2*N+3000):=Nat.mul_le_mul_right _ (by omega)
 by_cases hc:0<j/\0<lf
 ·obtain⟨c1,c2⟩:=hc
  have hm3:m*(2*N+3000)<=3*(2*N+3000):=Nat.mul_le_mul_right _ (by omega)
  have hms:(m+1)*(2*N+3000)=m*(2*N+3000)+(2*N+3000):=by rw[Nat.add_mul,Nat.one_mul]
  have hmsI:((m+1:Nat):Int)*(2*(N:Int)+3000)=((m*(2*N+3000)+(2*N+3000):Nat):Int):=by rw[←hms];simp
  generalize m*(2*N+3000)=M at*
  have hB2:Bd (2*Pd d+3000) q vs' nx lf:=by
   rw[hN];exact⟨by omega,by omega,i7,by omega,by omega,by omega,by omega⟩
  have hS:=HQ G hb hl fns hf hd hblk hB2
  rw[hN] at hS
  simp-implicitDefEqProofs[c1,c2]
  refine(bM G hS _ (by simp[below])).mono ?_
  rintro r h ⟨v,q2,vs2,n2,l2,rfl,rfl,out2,rfl,z1,z2,z3,hvs,m1,m2,m3,m4,m5,m6⟩
  have hsl:smL out2= .lst 5 (out2.map Sm.cs):=rfl
  simp-implicitDefEqProofs[aa,bx,hsl]
  have hol:(smR out).length=out.length:=eq out
  have hwj:IntKind.i64.wrap ((j:Int)-1)=((j-1:Nat):Int):=by rw[ae (by omega) (by omega)];omega
  have hrow:List.take out.length (smR out)++List.map ((λx=>List.map AV.p x)∘Sm.cs) out2=smR (out++out2):=by
   rw[List.take_of_length_le (by omega),Ao];rfl
  refine⟨⟨by omega,by omega,by omega⟩,⟨j-1,m+1,out++out2,q2,vs2,n2,l2⟩,⟨by simp only;omega,by simp only;rw[ce,hms];omega,by simp only;rw[List.length_append];omega,by simp only;omega,by simp only;rw[hms];omega,?_,?_,by simp only;omega,by simp only;rw[hmsI];omega,by simp only;rw[hmsI];omega,by simp only;omega⟩,by simp only;omega,?_⟩
  ·simp only
   rcases hvs with rfl|⟨s,_,rfl⟩
   ·omega
   ·rw[List.length_append,List.length_singleton];omega
  ·simp only
   rcases hvs with rfl|⟨s,hs,rfl⟩
   ·exact i7
   ·intro w hw
    rcases List.mem_append.1 hw with h|h
    ·exact i7 w h
    ·rw[List.mem_singleton.1 h];exact hs
  ·rw[hrow]
   refine kU [0,1,2,4] (by simp) (by decide) (by decide) (gE rfl (bL _ _ _) (dS ?_ ?_ (gE rfl (gC _ _) (cG rfl (jX _) gn)))) (by simp[below,ren,hwj])
   ·intro x hx
    rw[List.mem_singleton.1 hx];exact⟨by simp[below],kL (by simp),by simp,by simp,by simp,trivial⟩
   ·simp[bx,ren,bf]
 ·have hce:(decide (0<j)&&decide (0<lf))=false:=by
   by_cases h1:0<j
   ·have h2:¬0<lf:=λh=>hc ⟨h1,h⟩
    simp[h2]
   ·simp[h1]
  have fin:FG b fns vs p (20*N) next left [] (.ret (.sl 3 5 0 out.length)) [rdO b q,.row 5 [[.ptr 0 2 0 0,slE 2 3 (aR fns),.p (bB vs),.p (.int .i64 nx),.p (.int .i64 lf)]],cK 3 (aR fns),.row 5 (smR out)]:=
   ⟨out,q,nx,lf,rfl,rfl,by omega,by omega,by omega,by omega,by omega,by omega,by omega,by omega⟩
  by_cases h1:0<j
  ·have h2:¬0<lf:=λh=>hc ⟨h1,h⟩
   simp-implicitDefEqProofs[h1,h2]
   exact fin
  ·simp-implicitDefEqProofs[h1]
   exact fin
end
section
theorem pf:AK.whole eZ=FK.ak eV:=rfl
theorem tW{h:List AO}{id:Nat}{out:List Sm}{m:Sm}{c:List AV}(e:h[id]?=some (.row 5 (smR out++[c])))(hc:∀(j:Nat) (q:PV) (a:AV),m.cs[j]?=some q->c[j]?=some a->View h a q):View h (.sl id 5 0 (out.length+1)) (smL (out++[m])):=by
 have hl:((out++[m]).map Sm.cs).length=out.length+1:=by simp
 have:=View.sl (h:=h) id 5 0 _ ((out++[m]).map Sm.cs) e (by rw[hl];simp[eq]) (λx hx=>by obtain⟨b,_,rfl⟩:=List.mem_map.1 hx;exact b.cs_len) (λi j e q e' a a1 a2 a3 a4=>?_)
 ·rwa[hl] at this
 rw[Nat.zero_add] at a3
 rw[List.map_append] at a1
 rcases Nat.lt_or_ge i out.length with hi|hi
 ·rw[List.getElem?_append_left (by simpa using hi),List.getElem?_map,List.getElem?_eq_getElem hi] at a1
  rw[List.getElem?_append_left (by simpa[eq] using hi),smR,List.getElem?_map,List.getElem?_eq_getElem hi] at a3
  cases a1;cases a3
  rw[List.getElem?_map,a2] at a4
  cases a4
  exact .p _
 ·rw[List.getElem?_append_right (by simpa using hi)] at a1
  rw[List.getElem?_append_right (by simpa[eq] using hi),eq] at a3
  rw[List.length_map] at a1
  cases hd:i-out.length with
  |zero=>
   rw[hd] at a1 a3
   cases a1;cases a3
   exact hc j q a a2 a4
  |succ n=>rw[hd] at a3;simp at a3
variable (G:aB)
theorem Ec{b:List Int}(hb:Byt b)(hl:b.length<=2000)(fns:List Fd)(hf:rq fns):BF G b fns 3:=
 ul G hb hl fns hf (d:=2) (by omega) λ_=>ul G hb hl fns hf (d:=1) (by omega) λ_=>ul G hb hl fns hf (d:=0) (by omega) λh=>absurd h (by omega)
def abcW:List (List UInt8):=[[97],[98],[99]]
def fnQ(p:Nat)(name:List UInt8)(np:Nat)(left:Int)(v:AV)(q:Nat)(vs':List (List UInt8))(next' left':Int):Prop:=
 ∃f:Fd,v= .agg (f.cs.map .p)/\f.name=name/\f.params=abcW.take np/\aM f.body<=40000500/\p<=q/\q<=p+40000500/\left-40000500<=left'/\left'<=left
theorem Jm{b:List Int}(hb:Byt b)(hl:b.length<=2000){p:Nat}(hp:p<=90000000000)(fns:List Fd)(hf:rq fns)(vs:List (List UInt8))(next left:Int)(hl0: -1000000000<=left)(hl1:left<=1000000000)(name:List UInt8)(np:Nat)(hnp:np<=3):
 AC Tryz.prog G de [.ptr 1 5 0 0,.p (.str name),.p (.int .i64 np)] (HG b p fns vs next left) (PG b fns (fnQ p name np left) []):=by
 refine gL G (AC.goK oW pf ?_)
 have hwn:IntKind.i64.wrap ((np:Int)-1)=(np:Int)-1:=ae (by omega) (by omega)
 have h3:(np:Int)<=3:=by omega
 simp-implicitDefEqProofs[eZ,eV,HG,bx,hwn,h3,hnp]
 refine Ik (aC 61 [(0,.ptr 1 5 0 0),(6,.ptr 3 3 0 0),(7,.ptr 4 3 0 0)]) [rdO b p,.row 5 [bx fns (abcW.take np) ((np:Int)-1) left],cK 3 (aR fns),.row 3 [[.p (.str []),.nils,.nils]],.row 3 [[.p (.str name),.p (bB (abcW.take np)),.nils]]] ?_ ?_
 ·have hlen:(abcW.take np).length=np:=by simp[abcW];omega
  simp-implicitDefEqProofs[hnp,hlen]
  refine⟨⟨by omega,by omega⟩,?_⟩
  have hcutR:kW (abcW.take np)= .row 1 (List.take np [[AV.p (PV.str [97])],[AV.p (PV.str [98])],[AV.p (PV.str [99])]]):=by
   simp only[kW,List.map_take];rfl
  rw[←hcutR]
  refine Wk.trans (FI (h1:=[rdO b p,.row 5 [[.ptr 0 2 0 0,slE 2 3 (aR fns),.sl 4 1 0 np,.p (.int .i64 ((np:Int)-1)),.p (.int .i64 left)]],cK 3 (aR fns),.row 3 [[.p (.str []),.nils,.nils]],kW (abcW.take np),.dead,kW (abcW.take np),.row 3 [[.p (.str name),.sl 6 1 0 np,.nils]]])
   ⟨.inl rfl,.inl rfl,.inl rfl,.inl rfl,.inr ⟨1,_,np,rfl,hcutR⟩,.inl rfl,.inl rfl,.inl rfl,trivial⟩) ?_
  refine Wk.trans (kU (l1:=[(0,.ptr 1 5 0 0),(6,.ptr 3 3 0 0),(7,.ptr 4 3 0 0)])
   (h1:=[rdO b p,.row 5 [[.ptr 0 2 0 0,slE 2 3 (aR fns),.sl 5 1 0 np,.p (.int .i64 ((np:Int)-1)),.p (.int .i64 left)]],cK 3 (aR fns),.row 3 [[.p (.str []),.nils,.nils]],.row 3 [[.p (.str name),.sl 6 1 0 np,.nils]],kW (abcW.take np),kW (abcW.take np)])
   [0,1,2,3,7,4,6] (by simp) (by decide) (by decide) (gE rfl (bL _ _ _) (dS (by simp[below]) (by simp[ren,bf]) (gE rfl (gC _ _) (cG rfl (by simp[below]) (dS (by simp[below]) (by simp[ren,bf]) (gE rfl (th _) (gE rfl (th _) gn))))))) (by simp[below,ren]))
   (mN 5 (by omega) (by simp) rfl (.same (bL _ _ _) (.one (.keep (by simp[below]) (.keep (kL (by omega)) (.one ?_ (.keep (by simp) (.keep (by simp) .nil))))) (.same (gC _ _) (.same (by simp[okO,below]) (.one (.keep (by simp) (.one ?_ (.keep (by simp[below]) .nil))) (.nil _)))))) ?_)
  ·have:=kS (l:=abcW.take np) (id:=5) (h:=jr 5 [rdO b p,.row 5 [[.ptr 0 2 0 0,slE 2 3 (aR fns),.sl 5 1 0 np,.p (.int .i64 ((np:Int)-1)),.p (.int .i64 left)]],cK 3 (aR fns),.row 3 [[.p (.str []),.nils,.nils]],.row 3 [[.p (.str name),.sl 6 1 0 np,.nils]],kW (abcW.take np),kW (abcW.take np)]) rfl
   rwa[hlen] at this
  ·have:=kS (l:=abcW.take np) (id:=6) (h:=jr 5 [rdO b p,.row 5 [[.ptr 0 2 0 0,slE 2 3 (aR fns),.sl 5 1 0 np,.p (.int .i64 ((np:Int)-1)),.p (.int .i64 left)]],cK 3 (aR fns),.row 3 [[.p (.str []),.nils,.nils]],.row 3 [[.p (.str name),.sl 6 1 0 np,.nils]],kW (abcW.take np),kW (abcW.take np)]) rfl
   rwa[hlen] at this
  ·exact⟨.keep (by simp[below]) .nil,.keep (by simp[below]) .nil,.keep (by simp[below]) .nil,trivial⟩
 have hlen:(abcW.take np).length<=3:=by simp[abcW];omega
 have hw8:∀s∈abcW.take np,s.length<=8:=by
  intro s hs
  have:=List.mem_of_mem_take hs
  simp only[abcW,List.mem_cons,List.not_mem_nil,or_false] at this
  rcases this with rfl|rfl|rfl<;>simp
 have hPd:Pd 3=40000000:=rfl
 have hB:Bd (Pd 3) p (abcW.take np) ((np:Int)-1) left:=by rw[hPd];exact⟨by omega,by omega,hw8,by omega,by omega,by omega,by omega⟩
 simp-implicitDefEqProofs[bx]
 refine(ni G (Ec G hb hl fns hf hB) _).mono ?_
 rintro r h ⟨out,q,n2,l2,rfl,rfl,z1,z2,m1,m2,m3,m4,m5,m6⟩
 rw[hPd] at z1 m2 m4 m5
 simp-implicitDefEqProofs[aa,bx]
 have fin:∀(out:List Sm) (q:Nat) (l2:Int) (rest:List AO) (v:AV) (vc:AV) (vs':List (List UInt8)) (n2:Int),Fzs (.dead:: .dead:: .dead::rest) 3 [vc] [.p (bB vs')]->Fzs (.dead:: .dead:: .dead::rest) 3 [v] [.agg ((Fd.mk name (abcW.take np) out).cs.map .p)]->aM out<=40000500->p<=q->q<=p+40000500->left-40000500<=l2->l2<=left->
  DG b fns (fnQ p name np left) (.ret v) (rdO b q:: .row 5 [[.ptr 0 2 0 0,slE 2 3 (aR fns),vc,.p (.int .i64 n2),.p (.int .i64 l2)]]::cK 3 (aR fns)::rest):=λout q l2 rest v vc vs' n2 h1 h2 h3 h4 h5 h6 h7=>
  ⟨_,rest,q,_,_,vs',n2,l2,rfl,rfl,h1,h2,⟨name,abcW.take np,out⟩,rfl,rfl,rfl,h3,h4,h5,h6,h7⟩
 by_cases hl2:0<l2
 ·simp-implicitDefEqProofs[hl2]
  refine(aI G b hb hl q (by omega) 4 _).mono ?_
  rintro r h ⟨k,rfl,rfl,_⟩
  simp-implicitDefEqProofs[aa]
  refine aG (λhc=>?_) (λhc=>?_)
  ·have hwl:IntKind.i64.wrap (l2-1)=l2-1:=ae (by omega) (by omega)
   simp-implicitDefEqProofs[hwl]
   have hShrt:uy (abcW.take np):=⟨by omega,hw8⟩
   refine(bM G (gV G hb hl (p:=q+1) (by omega) fns hf (abcW.take np) hShrt n2 (l2-1) (d:=2) (by omega)) _ (by simp[below])).mono ?_
   rintro r h ⟨v,q2,vs2,n3,l3,rfl,rfl,⟨e,rfl,he⟩,h1,h2,hvs,rfl,rfl⟩
   subst hvs
   have hec:=e.cs_eq
   have hol:(smR out).length=out.length:=eq out
   simp-implicitDefEqProofs[aa,bx,hec,hol]
   refine⟨⟨by omega,by omega⟩,?_⟩
   have htk:List.take out.length (smR out)=smR out:=List.take_of_length_le (by omega)
   rw[htk]
   have hm:(Sm.mk 7 [] [e] [] []).cs=[.int .i64 7,.str [],.lst 4 [[.int .i64 e.op,.int .i64 e.n,.str e.name,exL e.kids]],.lst 5 [],.lst 5 []]:=by
    rw[Sm.cs_eq,←hec];rfl
   refine fin (out++[⟨7,[],[e],[],[]⟩]) q2 (l2-1) _ _ _ (abcW.take np) n3 (.keep (by simp) .nil) (.agg (.keep (by simp) (.keep (by simp) (.one (tW rfl ?_) .nil))) .nil) (by simp[ce,aM,Sm.sz,aP];omega) (by omega) (by omega) (by omega) (by omega)
   intro j q a a1 a2
   rw[hm] at a1
   match j,a1,a2 with
   |0,a1,a2=>cases a1;cases a2;exact .p _
   |1,a1,a2=>cases a1;cases a2;exact .p _
   |2,a1,a2=>cases a1;cases a2;exact .p _
   |3,a1,a2=>cases a1;cases a2;exact View.e 0 5
   |4,a1,a2=>cases a1;cases a2;exact View.e 0 5
   |j+5,a1,a2=>simp at a1
  ·simp-implicitDefEqProofs[]
   exact fin out (q+1) l2 _ _ _ (abcW.take np) n2 (.keep (by simp) .nil) (.agg (.keep (by simp) (.keep (by simp) (.one (iT rfl) .nil))) .nil) (by omega) (by omega) (by omega) (by omega) (by omega)
 ·simp-implicitDefEqProofs[hl2]
  exact fin out q l2 _ _ _ (abcW.take np) n2 (.keep (by simp) .nil) (.agg (.keep (by simp) (.keep (by simp) (.one (iT rfl) .nil))) .nil) (by omega) (by omega) (by omega) (by omega) (by omega)
end
section
theorem vI{h:List AO}{s:List UInt8}{ps:List (List UInt8)}{bd:List Sm}{P B:AV}(hP:View h P (bB ps))(hB:View h B (smL bd)):∀(j:Nat) (q:PV) (x:AV),(Fd.mk s ps bd).cs[j]?=some q->[AV.p (.str s),P,B][j]?=some x->View h x q:=by
 intro j q x e1 e2
 match j,e1,e2 with
 |0,e1,e2=>cases e1;cases e2;exact .p _
 |1,e1,e2=>cases e1;cases e2;exact hP
 |2,e1,e2=>cases e1;cases e2;exact hB
 |j+3,e1,e2=>simp[Fd.cs] at e1
theorem tj{h:List AO}{id:Nat}{l:List Fd}(e:h[id]?=some (.row 3 (aR l))):View h (.sl id 3 0 l.length) (fdL l):=by
 have:=eS (h:=h) (id:=id) (sz:=3) (n:=l.length) (ls:=l.map Fd.cs) (by rw[e,aR];simp) (by simp) (λx hx=>by obtain⟨b,_,rfl⟩:=List.mem_map.1 hx;exact b.cs_len)
 exact this
theorem vB(a b:List Fd):aR (a++b)=aR a++aR b:=by simp[aR]
theorem yA(a:List Fd):(aR a).length=a.length:=by simp[aR]
theorem sr(a b:List Fd):cd (a++b)=cd a+cd b:=by simp[cd]
def Hx:List Fd:=[⟨[109],[],[⟨3,[],[⟨1,1,[],[]⟩],[],[]⟩]⟩]
theorem AA:cx Hx=true:=by decide
theorem Az(k:Nat)(hk:k<=3):(abcW.take k).length+((abcW.take k).map List.length).sum<=6:=by
 have h:k=0\/k=1\/k=2\/k=3:=by omega
 rcases h with rfl|rfl|rfl|rfl<;>decide
variable (G:aB)
structure PgS where (j:Nat) (fns:List Fd) (q:Nat) (vs:List (List UInt8)) (next left:Int)
def LN(b:List Int)(p n:Nat)(x:ARes)(h:List AO):Prop:=∃(l:List Fd) (q:Nat),x= .ret (.agg [.p (fdL l)])/\h=[rdO b q]/\cx l=true/\cd l<=200000000/\p<=q/\q<=p+n
def LJ(b:List Int)(p n:Nat)(x:ARes)(h:List AO):Prop:=∃(l:List Fd) (q:Nat) (v:AV) (rest:List AO),x= .ret (.agg [v])/\h=rdO b q::rest/\View (jr 1 h) v (fdL l)/\cx l=true/\cd l<=200000000/\p<=q/\q<=p+n
theorem Hn{b:List Int}(hb:Byt b)(hl:b.length<=2000){p:Nat}(hp:p<=10000000000):AC Tryz.prog G eB [.ptr 0 2 0 0] [rdO b p] (LN b p 200000000):=by
 refine AC.frz (R:=LJ b p 200000000) ?_ 1 (by simp) (λt v h ⟨_,_,_,_,e,_⟩=>by cases e) ?_
 ·refine AC.go tc ?_
  simp-implicitDefEqProofs[lg]
  refine(iZ G hb hl (p:=p) (by omega) [14,20,8,26] (k:=2) (by simp) (by simp) (by omega) rfl rfl).mono ?_
  rintro r h ⟨L0,hL0,rfl,rfl⟩
  have hL:0<=L0/\L0<=26:=by simp at hL0;omega
  simp-implicitDefEqProofs[aa]
  refine(iZ G hb hl (p:=p+1) (by omega) [0,1,1,2] (k:=4) (by simp) (by simp) (by omega) rfl rfl).mono ?_
  rintro r h ⟨J0,hJ0,rfl,rfl⟩
  obtain⟨J,rfl,hJ⟩:∃J:Nat,J0=J/\J<=2:=⟨J0.toNat,by simp at hJ0;omega,by simp at hJ0;omega⟩
  simp-implicitDefEqProofs[aa]
  refine aH (λs:PgS=>aC 69 [(0,.ptr 0 2 0 0),(2,.ptr 3 1 0 0),(3,.ptr 1 5 0 0),(4,.p (.int .i64 s.j))])
   (λs=>[rdO b s.q,.row 5 [bx s.fns s.vs s.next s.left],cK 3 (aR s.fns),.row 1 [[.nils]]])
   (λs=>s.j+s.fns.length<=2/\rq s.fns/\cd s.fns<=s.fns.length*40000600/\p<=s.q/\s.q<=p+2+s.fns.length*40000600/\L0-s.fns.length*40000600<=s.left/\s.left<=L0)
   (λs=>s.j) ⟨J,[],p+1+1,[],0,L0⟩ ⟨by simp only[List.length_nil];omega,⟨by simp,by simp⟩,by simp[cd],by simp only;omega,by simp,by simp,by simp⟩ ?_ ?_
  ·refine Wk.trans (kU (l1:=[(0,.ptr 0 2 0 0),(2,.ptr 3 1 0 0),(3,.ptr 1 5 0 0),(4,.p (.int .i64 J))])
    (h1:=[rdO b (p+1+1),.row 5 [[.ptr 0 2 0 0,.nils,.nils,.p (.int .i64 0),.p (.int .i64 L0)]],.dead,.row 1 [[.nils]]])
    [0,3,2,1] (by simp) (by decide) (by decide) (gE rfl (bL _ _ _) (dS (by simp[below]) (by simp[ren,bf]) (pD (by simp) (cG rfl (by simp[below]) gn)))) (by simp[below,ren]))
    (mN 4 (by omega) (by simp) rfl (.same (bL _ _ _) (.one (.keep (by simp[below]) (.keep (by simp[below,aR,slE]) (.one (View.nils 1) (.keep (by simp) (.keep (by simp) .nil))))) (.dead (.same (by simp[okO,below]) (.nil _))))) ?_)
   exact⟨.keep (by simp[below]) .nil,.keep (by simp[below]) .nil,.keep (by simp[below]) .nil,.keep (by simp[below]) .nil,trivial⟩
  rintro⟨j,fns,q,vs,nx,lf⟩ ⟨i1,i2,i3,i4,i5,i6,i7⟩
  simp only at i1 i2 i3 i4 i5 i6 i7
  simp-implicitDefEqProofs[bx]
  by_cases hj:0<j
  ·have hfl:fns.length<3:=by omega
   have hcl:(aR fns).length=fns.length:=yA fns
   obtain⟨nm,hget,hnm⟩:∃nm:List UInt8,([[PV.str [102]],[PV.str [103]],[PV.str [104]]]:List (List PV))[fns.length]?=some [.str nm]/\nm.length<=8:=by
    have h3:fns.length=0\/fns.length=1\/fns.length=2:=by omega
    rcases h3 with h|h|h<;>rw[h]
    ·exact⟨[102],rfl,by simp⟩
    ·exact⟨[103],rfl,by simp⟩
    ·exact⟨[104],rfl,by simp⟩
   simp-implicitDefEqProofs[hj,hcl,hget]
   refine(aI G b hb hl q (by omega) 3 _).mono ?_
   rintro r h ⟨k,rfl,rfl,hk⟩
   have hk3:k<=3:=by omega
   simp-implicitDefEqProofs[aa,hcl,hget]
   refine(bM G (Jm G hb hl (p:=q+1) (by omega) fns i2 vs nx lf (by omega) (by omega) nm k hk3) _ (by simp[below])).mono ?_
   rintro r h ⟨v,q2,vs2,n2,l2,rfl,rfl,f,rfl,hf1,hf2,z1,z2,z3,z4,z5⟩
   have hcs:=f.cs_len
   have hcf:f.cs=[.str f.name,bB f.params,smL f.body]:=rfl
   simp-implicitDefEqProofs[aa,bx,hcf]
   have hfs:f.sz<=40000600:=by
    have h1:f.sz=1+f.name.length+(f.params.length+(f.params.map List.length).sum)+aM f.body:=rfl
    have h2:=Az k hk3
    rw[←hf2] at h2
    rw[hf1] at h1
    omega
   have hwj:IntKind.i64.wrap ((j:Int)-1)=((j-1:Nat):Int):=by rw[ae (by omega) (by omega)];omega
   have hfp:f.params.length<=3:=by rw[hf2];simp[abcW];omega
   have hrow:aR fns++[[AV.p (.str f.name),.p (bB f.params),.p (smL f.body)]]=aR (fns++[f]):=by rw[vB];rfl
   have hne:aR (fns++[f])≠[]:=by simp[aR]
   have hll:(aR fns).length+1=(aR (fns++[f])).length:=by simp[aR]
   rw[hrow,hll]
   refine⟨⟨by rw[←hll,hcl];omega,by omega⟩,⟨j-1,fns++[f],q2,vs2,n2,l2⟩,⟨by simp;omega,⟨by simp;omega,?_⟩,by simp only[sr,List.length_append];simp[cd] at*;omega,by simp only;omega,by simp;omega,by simp;omega,by simp only;omega⟩,by simp only;omega,?_⟩
   ·intro x hx
    rcases List.mem_append.1 hx with h|h
    ·exact i2.2 x h
    ·rw[List.mem_singleton.1 h,hf1];exact⟨hnm,hfp⟩
   ·rw[cI hne,eC hne]
    refine kU [0,1,5,3] (by simp) (by decide) (by decide) (gE rfl (bL _ _ _) (dS (by simp[below]) (by simp[ren,bf]) (cG rfl (oq _) (cG rfl (by simp[below]) gn)))) (by simp[below,ren,hwj])
  ·simp-implicitDefEqProofs[hj]
   refine(iZ G hb hl (p:=q) (by omega) [0,1,2,1] (k:=4) (by simp) (by simp) (by omega) rfl rfl).mono ?_
   rintro r h ⟨N0,hN0,rfl,rfl⟩
   obtain⟨np,rfl,hnp⟩:∃J:Nat,N0=J/\J<=2:=⟨N0.toNat,by simp at hN0;omega,by simp at hN0;omega⟩
   simp-implicitDefEqProofs[aa]
   refine(bM G (Jm G hb hl (p:=q+1) (by omega) fns i2 vs nx lf (by omega) (by omega) [109] np (by omega)) _ (by simp[below])).mono ?_
   rintro r h ⟨v,q2,vs2,n2,l2,rfl,rfl,f,rfl,hf1,hf2,z1,z2,z3,z4,z5⟩
   have hcf:f.cs=[.str f.name,bB f.params,smL f.body]:=rfl
   have hcl:(aR fns).length=fns.length:=yA fns
   have hfs:f.sz<=40000600:=by
    have h1:f.sz=1+f.name.length+(f.params.length+(f.params.map List.length).sum)+aM f.body:=rfl
    have h2:=Az np (by omega)
    rw[←hf2] at h2
    rw[hf1] at h1
    simp at h1
    omega
   by_cases hfe:fns=[]
   ·subst hfe
    have h0:aR []=[]:=rfl
    rw[h0]
    simp-implicitDefEqProofs[aa,bx,hcf,h0,zW,yt]
    have hrow:[[AV.p (.str f.name),.p (bB f.params),.p (smL f.body)]]=aR [f]:=rfl
    rw[hrow]
    have vw:∀h:List AO,h[8]?=some (.row 3 (aR [f]))->View h (.sl 8 3 0 1) (fdL [f]):=λh e=>tj (l:=[f]) e
    refine((kx G [f] (by simp only[cd,List.map_cons,List.map_nil,List.sum_cons,List.sum_nil] at*;omega)).lend (.agg (.one (vw _ rfl) .nil) .nil) rfl).mono ?_
    rintro r h ⟨rfl,rfl⟩
    simp-implicitDefEqProofs[aa]
    by_cases hok:cx [f]=true
    ·simp-implicitDefEqProofs[hok]
     exact⟨[f],q2,_,_,rfl,rfl,vw _ rfl,hok,by simp only[cd,List.map_cons,List.map_nil,List.sum_cons,List.sum_nil] at*;omega,by omega,by omega⟩
    ·have hok':cx [f]=false:=by simpa using hok
     simp-implicitDefEqProofs[hok']
     exact⟨Hx,q2,_,_,rfl,rfl,bj (p0:=(Fd.mk [109] [] [⟨3,[],[⟨1,1,[],[]⟩],[],[]⟩]).cs) rfl rfl (vI (View.nils 1) (bj (p0:=(Sm.mk 3 [] [⟨1,1,[],[]⟩] [] []).cs) rfl (Sm.cs_len _) (bQ (bj (p0:=(Ex.mk 1 1 [] []).cs) rfl (Ex.cs_len _) (iO (View.nils 4))) (View.nils 5) (View.nils 5)))),AA,by decide,by omega,by omega⟩
   ·have h0:aR fns≠[]:=λh=>hfe (List.map_eq_nil_iff.1 h)
    simp only[bx,eC h0,cI h0]
    simp-implicitDefEqProofs[aa,hcf,hcl]
    refine⟨⟨by omega,by omega⟩,⟨by omega,by omega⟩,?_⟩
    have hrow:List.take fns.length (List.take fns.length (aR fns))++[[AV.p (.str f.name),.p (bB f.params),.p (smL f.body)]]=aR (fns++[f]):=by
     rw[List.take_of_length_le (by rw[List.length_take];omega),List.take_of_length_le (by omega),vB];rfl
    rw[hrow]
    have vw:∀h:List AO,h[8]?=some (.row 3 (aR (fns++[f])))->View h (.sl 8 3 0 (fns.length+1)) (fdL (fns++[f])):=λh e=>by
     have:=tj e
     rwa[List.length_append,List.length_singleton] at this
    refine((kx G (fns++[f]) (by rw[sr];simp only[cd,List.map_cons,List.map_nil,List.sum_cons,List.sum_nil] at*;omega)).lend (.agg (.one (vw _ rfl) .nil) .nil) rfl).mono ?_
    rintro r h ⟨rfl,rfl⟩
    simp-implicitDefEqProofs[aa]
    by_cases hok:cx (fns++[f])=true
    ·simp-implicitDefEqProofs[hok]
     exact⟨fns++[f],q2,_,_,rfl,rfl,vw _ rfl,hok,by rw[sr];simp only[cd,List.map_cons,List.map_nil,List.sum_cons,List.sum_nil] at*;omega,by omega,by omega⟩
    ·have hok':cx (fns++[f])=false:=by simpa using hok
     simp-implicitDefEqProofs[hok']
     exact⟨Hx,q2,_,_,rfl,rfl,bj (p0:=(Fd.mk [109] [] [⟨3,[],[⟨1,1,[],[]⟩],[],[]⟩]).cs) rfl rfl (vI (View.nils 1) (bj (p0:=(Sm.mk 3 [] [⟨1,1,[],[]⟩] [] []).cs) rfl (Sm.cs_len _) (bQ (bj (p0:=(Ex.mk 1 1 [] []).cs) rfl (Ex.cs_len _) (iO (View.nils 4))) (View.nils 5) (View.nils 5)))),AA,by decide,by omega,by omega⟩
 ·rintro v h ⟨l,q,v0,rest,e,rfl,hv,h1,h2,h3,h4⟩
  cases e
  exact⟨_,[rdO b q],by simp,rfl,.agg (.one hv .nil) .nil,.same (bL _ _ _) (.nil _),l,q,rfl,rfl,h1,h2,h3,h4⟩
end
section
theorem ma(l:List Fd):cx l=true↔(1<=l.length/\l.length<=4)/\(∀f∈l,jH f=true)/\oz l<=40:=by
 simp only[cx,inR,Bool.and_eq_true,decide_eq_true_eq,List.all_eq_true]
 constructor
 ·rintro⟨⟨⟨h1,h2⟩,h3⟩,h4⟩;exact⟨⟨by omega,by omega⟩,h3,h4⟩
 ·rintro⟨⟨h1,h2⟩,h3,h4⟩;exact⟨⟨⟨by omega,by omega⟩,h3⟩,h4⟩
def Fd.cut(f:Fd)(n:Nat):Fd:=⟨f.name,f.params,f.body.take n⟩
end
section
variable (G:aB)
theorem Bq{h:List AO}{id sz:Nat}{rows:List (List AV)}{es:List (List PV)}(he:h[id]?=some (.row sz rows))(hl:rows.length=es.length)(hs:∀e∈es,e.length=sz)(hv:∀(i j:Nat) (e:List PV) (q:PV) (e':List AV) (a:AV),es[i]?=some e->e[j]?=some q->rows[i]?=some e'->e'[j]?=some a->View h a q){n:Nat}(hn:n=es.length):View h (.sl id sz 0 n) (.lst sz es):=by
 subst hn
 exact .sl id sz 0 rows es he (by omega) hs λi j e q e' a a1 a2 a3 a4=>hv i j e q e' a a1 a2 (by rwa[Nat.zero_add] at a3) a4
end
section
noncomputable def Gb (bs:List Bk):List Bool:=(List.range bs.length).map (jD bs)
noncomputable def rwL (bs:List Bk) (a:Nat):List Bool:=(List.range bs.length).map (rwB bs a)
theorem yr{a b:List Bool}(hl:a.length=b.length)(h:∀x,x<a.length->sn a x=sn b x):a=b:=by
 refine List.ext_getElem? λi=>?_
 by_cases hi:i<a.length
 ·rw[nW hi,nW (by omega),h i hi]
 ·rw[List.getElem?_eq_none (by omega),List.getElem?_eq_none (by omega)]
theorem EH{n:Nat}{f:Nat->Bool}{x:Nat}(h:x<n):sn ((List.range n).map f) x=f x:=by
 simp[sn,List.getD_eq_getElem?_getD,h]
theorem Ey(bs:List Bk):(Gb bs).length=bs.length:=by simp[Gb]
theorem Gh(bs:List Bk)(a:Nat):(rwL bs a).length=bs.length:=by simp[rwL]
theorem GH(n:Nat):List.replicate n [AV.p (PV.bool false)]=dW (List.replicate n false):=by simp[dW]
variable (G:aB)
end
section
def mG(xs:List Int)(k:Nat)(x:Int):List Int:=if xs[k]?=some x then xs else xs.take k++x::xs.drop k
theorem Gr(xs:List Int)(i:Nat)(x:Int)(hi:i<=xs.length):List.take (i+1) (List.take i (List.take i (List.map ((λx=>List.map AV.p x)∘λn=>[PV.int IntKind.i64 n]) xs))++[[AV.p (PV.int IntKind.i64 x)]])++List.drop i (List.take xs.length (List.map ((λx=>List.map AV.p x)∘λn=>[PV.int IntKind.i64 n]) xs))=aq (xs.take i++x::xs.drop i):=by
 have e0:List.map ((λx=>List.map AV.p x)∘λn=>[PV.int IntKind.i64 n]) xs=aq xs:=rfl
 have hl:=tw xs
 have ht:∀z,List.take (i+1) (List.take i (aq xs)++[z])=List.take i (aq xs)++[z]:=λz=>List.take_of_length_le (by simp;omega)
 rw[e0,List.take_take,Nat.min_self,ht,List.take_of_length_le (l:=aq xs) (i:=xs.length) (by omega)]
 simp[aq,List.map_take,List.map_drop]
theorem Dy(xs:List Int)(x:Int):List.take (xs.length+1) (List.take xs.length (List.take xs.length (List.map ((λx=>List.map AV.p x)∘λn=>[PV.int IntKind.i64 n]) xs))++[[AV.p (PV.int IntKind.i64 x)]])=aq (xs++[x]):=by
 have e0:List.map ((λx=>List.map AV.p x)∘λn=>[PV.int IntKind.i64 n]) xs=aq xs:=rfl
 have hl:=tw xs
 rw[e0,List.take_of_length_le (l:=aq xs) (by omega),List.take_of_length_le (l:=aq xs) (by omega),List.take_of_length_le (by simp[hl])]
 simp[aq]
variable (G:aB)
theorem yj(xs:List Int)(k:Nat)(x:Int)(hl:xs.length<=1073741824)(hk:k<=xs.length)(h1:∀y∈xs.take k,y<x)(h2:∀y,xs[k]?=some y->¬y<x):VF Tryz.prog G bO [.p (ay xs),.p (.int .i64 x)] (.p (ay (mG xs k x))):=by
 have hnl:ay xs= .lst 1 (xs.map λn=>[.int .i64 n]):=rfl
 have key:AC Tryz.prog G bO [.p (ay xs),.p (.int .i64 x)] [] λr h=>∃v,r= .ret v/\View h v (ay (mG xs k x)):=by
  refine AC.go oU ?_
  simp-implicitDefEqProofs[jx,hnl]
  refine aH (λi:Nat=>aC 47 [(5,.p (.int .i64 i)),(0,.p (.lst 1 (xs.map λn=>[.int .i64 n]))),(1,.p (.int .i64 x))]) (λ_=>[]) (λi=>i<=k) (λi=>xs.length-i) 0 (Nat.zero_le _) (aV rfl (by simp[below])) ?_
  intro i hi
  by_cases hik:i=k
  ·subst hik
   by_cases hil:i<xs.length
   ·obtain⟨y,hge⟩:∃y,xs[i]=y:=⟨_,rfl⟩
    have hg:xs[i]?=some y:=by rw[List.getElem?_eq_getElem hil,hge]
    have hy:=h2 y hg
    by_cases hxy:y=x
    ·subst hxy
     have hI:mG xs i y=xs:=by rw[mG,if_pos hg]
     rw[hI]
     simp-implicitDefEqProofs[hil,hge]
     exact .p _
    ·have hI:mG xs i x=xs.take i++x::xs.drop i:=by rw[mG,hg,if_neg (λe=>hxy (Option.some.inj e))]
     have hmi:min i xs.length=i:=by omega
     simp-implicitDefEqProofs[hil,hge,hy,hxy,hmi]
     refine⟨by omega,⟨by omega,by omega⟩,by omega,⟨by omega,by omega⟩,⟨by omega,by omega⟩,?_⟩
     have hn:i+1+(xs.length-i)=(mG xs i x).length:=by rw[hI];simp;omega
     rw[hn]
     refine cN ?_
     rw[hI]
     exact congrArg (λr=>some (AO.row 1 r)) (Gr xs i x hk)
   ·have hie:i=xs.length:=by omega
    have hI:mG xs i x=xs++[x]:=by rw[mG,hie,if_neg (by simp),List.take_length,List.drop_length]
    subst hie
    simp-implicitDefEqProofs[]
    refine⟨⟨by omega,by omega⟩,⟨by omega,by omega⟩,?_⟩
    have hn:xs.length+1=(mG xs xs.length x).length:=by rw[hI];simp
    have hr:=Dy xs x
    rw[hr,hn]
    exact cN (by rw[hI];rfl)
  ·have hil:i<xs.length:=by omega
   have hm:xs[i]∈xs.take k:=List.mem_take_iff_getElem.2 ⟨i,by omega,rfl⟩
   obtain⟨y,hge⟩:∃y,xs[i]=y:=⟨_,rfl⟩
   rw[hge] at hm
   have hy:=h1 y hm
   simp-implicitDefEqProofs[hil,hge,hy]
   exact⟨i+1,by omega,by omega,aV rfl (by simp[below,w1 (i:=i) (by omega)])⟩
 exact key.freezeR (λt v h ⟨_,e,_⟩=>by cases e) λv h ⟨_,e1,e2⟩=>by
  cases e1
  exact .one e2 .nil
def bv(p:Nat->Bool)(n:Nat):List Int:=((List.range n).filter p).map Int.ofNat
theorem Cj(p:Nat->Bool)(n:Nat):bv p (n+1)=bv p n++if p n then[(n:Int)] else[]:=by
 rw[bv,List.range_succ,List.filter_append,List.map_append]
 cases h:p n<;>simp[bv,h]
theorem iU(p:Nat->Bool)(n:Nat):(bv p n).length<=n:=by
 rw[bv,List.length_map]
 exact Nat.le_trans (List.length_filter_le _ _) (by simp)
def bI(b:Bool)(i:Nat):List Int:=if b then[(i:Int)] else[]
theorem mR{f:FuncId}{args:List AV}{p:PV}(H:AC Tryz.prog G f args [] λr h=>∃v,r= .ret v/\View h v p):VF Tryz.prog G f args (.p p):=
 H.freezeR (λt v h ⟨_,e,_⟩=>by cases e) λv h ⟨_,e1,e2⟩=>by
  cases e1
  exact .one e2 .nil
end
section
variable (G:aB)
theorem HY(l:List Int)(v:Int)(hl:l.length<=1073741824):VF Tryz.prog G fW [.p (ay l),.p (.int .i64 v)] (.p (.int .i64 (ixI (l.findIdx? λx=>decide (v=x))))):=by
 have hnl:ay l= .lst 1 (l.map λn=>[.int .i64 n]):=rfl
 refine AC.go mb ?_
 simp-implicitDefEqProofs[fy,hnl]
 refine aH (λi:Nat=>aC 19 [(8,.p (.int .i64 i)),(7,.p (.int .i64 l.length)),(0,.p (.lst 1 (l.map λn=>[.int .i64 n]))),(1,.p (.int .i64 v))]) (λ_=>[]) (λi=>i<=l.length/\∀x∈l.take i,¬v=x) (λi=>l.length-i) 0 (by simp) (aV rfl (by simp[below])) ?_
 rintro i ⟨hi,hp⟩
 simp-implicitDefEqProofs[]
 refine aG (λhc=>?_) (λhc=>?_)
 ·simp at hc
  have hg:=List.getElem?_eq_getElem hc
  have htk:=az hc
  have hfi:v=l[i]->(l.findIdx? λx=>decide (v=x))=some i:=λe=>by
   rw[List.findIdx?_eq_some_iff_getElem]
   exact⟨hc,by simpa using e,λj hj=>by have:=hp l[j] (List.mem_take_iff_getElem.2 ⟨j,by omega,rfl⟩);simpa using this⟩
  generalize l[i]=x at hg htk hfi
  simp-implicitDefEqProofs[hg]
  refine aG (λhe=>?_) (λhe=>?_)
  ·have he:v=x:=by simpa using he
   rw[hfi he]
   simp-implicitDefEqProofs[ixI]
  ·have he:¬v=x:=by simpa using he
   simp-implicitDefEqProofs[]
   refine⟨i+1,⟨by omega,λy hy=>?_⟩,by omega,aV rfl (by simp[below,w1 (i:=i) (by omega)])⟩
   rw[htk] at hy
   rcases List.mem_append.1 hy with hy|hy
   ·exact hp y hy
   ·rw[List.mem_singleton.1 hy];exact he
 ·simp at hc
  rw[List.take_of_length_le hc] at hp
  have hf:(l.findIdx? λx=>decide (v=x))=none:=by
   rw[List.findIdx?_eq_none_iff]
   intro x hx
   simpa using hp x hx
  rw[hf]
  simp-implicitDefEqProofs[ixI]
theorem As{α:Type}(l:List α)(p:α->Bool):decide (0<=ixI (l.findIdx? p))=l.any p:=by
 cases hf:l.findIdx? p with
 |none=>
  rw[List.findIdx?_eq_none_iff] at hf
  have:l.any p=false:=by rw[List.any_eq_false];intro x hx;simp[hf x hx]
  simp[ixI,this]
 |some i=>
  rw[List.findIdx?_eq_some_iff_getElem] at hf
  obtain⟨h1,h2,_⟩:=hf
  have:l.any p=true:=by rw[List.any_eq_true];exact⟨_,List.getElem_mem h1,h2⟩
  simp[ixI,this]
section
variable {h:List AO} {f:FuncId} {caps:List AV}
theorem vl(xs:List Int)(p:Int->Bool)(hl:xs.length<=1073741824)(hcap:au h.length caps)
 (hcall:∀x∈xs,AC Tryz.prog G f (.p (.int .i64 x)::caps) h λr h'=>r= .ret (.p (.bool (p x)))/\h'=h):
 AC Tryz.prog G ck [.p (ay xs),.fn (.func f) caps] h λr h'=>r= .ret (.p (.int .i64 (ixI (xs.findIdx? p))))/\h'=h:=by
 have hnl:ay xs= .lst 1 (xs.map λn=>[.int .i64 n]):=rfl
 refine AC.go ji ?_
 simp-implicitDefEqProofs[dH,hnl]
 refine aH (λi:Nat=>aC 19 [(8,.p (.int .i64 i)),(7,.p (.int .i64 xs.length)),(0,.p (.lst 1 (xs.map λn=>[.int .i64 n]))),(1,.fn (.func f) caps)]) (λ_=>h) (λi=>i<=xs.length/\∀x∈xs.take i,p x=false) (λi=>xs.length-i) 0 (by simp) (ab (Nat.le_refl _) (by simp[below,hcap])) ?_
 rintro i ⟨hi,hp⟩
 simp-implicitDefEqProofs[]
 refine aG (λhc=>?_) (λhc=>?_)
 ·simp at hc
  have hg:=List.getElem?_eq_getElem hc
  have htk:=az hc
  have hfi:p xs[i]=true->xs.findIdx? p=some i:=λe=>by
   rw[List.findIdx?_eq_some_iff_getElem]
   exact⟨hc,e,λj hj=>by have:=hp xs[j] (List.mem_take_iff_getElem.2 ⟨j,by omega,rfl⟩);simp[this]⟩
  have hcl:=hcall _ (List.getElem_mem hc)
  generalize xs[i]=x at hg htk hfi hcl
  simp-implicitDefEqProofs[hg]
  refine hcl.mono ?_
  rintro r h' ⟨rfl,rfl⟩
  cases hpx:p x with
  |true=>
   rw[hfi hpx]
   simp-implicitDefEqProofs[aa,ixI]
  |false=>
   simp-implicitDefEqProofs[aa]
   refine⟨i+1,⟨by omega,λy hy=>?_⟩,by omega,ab (Nat.le_refl _) (by simp[below,hcap,w1 (i:=i) (by omega)])⟩
   rw[htk] at hy
   rcases List.mem_append.1 hy with hy|hy
   ·exact hp y hy
   ·rw[List.mem_singleton.1 hy];exact hpx
 ·simp at hc
  rw[List.take_of_length_le hc] at hp
  have hf:xs.findIdx? p=none:=by rw[List.findIdx?_eq_none_iff];exact hp
  rw[hf]
  simp-implicitDefEqProofs[ixI]
theorem zo(xs:List Int)(p:Int->Bool)(hl:xs.length<=1073741824)(hcap:au h.length caps)
 (hcall:∀x∈xs,AC Tryz.prog G f (.p (.int .i64 x)::caps) h λr h'=>r= .ret (.p (.bool (p x)))/\h'=h):
 AC Tryz.prog G bK [.p (ay xs),.fn (.func f) caps] h λr h'=>r= .ret (.p (.bool (xs.any p)))/\h'=h:=by
 refine AC.go gx ?_
 simp-implicitDefEqProofs[cS]
 refine(vl G xs p hl hcap hcall).mono ?_
 rintro r h' ⟨rfl,rfl⟩
 simp-implicitDefEqProofs[aa,As]
end
theorem Ad{α:Type}(l:List α)(p:α->Bool):l.any (λx=> !p x)= !l.all p:=by
 rw[List.not_all_eq_any_not]
end
section
variable (G:aB)
section
variable {h:List AO} {f:FuncId} {caps:List AV}
theorem yZ(xs:List Bk)(p:Bk->Bool)(hl:xs.length<=1073741824)(hcap:au h.length caps)
 (hcall:∀x∈xs,AC Tryz.prog G f (.agg (x.cs.map .p)::caps) h λr h'=>r= .ret (.p (.bool (p x)))/\h'=h):
 AC Tryz.prog G bp [.p (bkL xs),.fn (.func f) caps] h λr h'=>r= .ret (.p (.int .i64 (ixI (xs.findIdx? p))))/\h'=h:=by
 have hnl:bkL xs= .lst 5 (xs.map Bk.cs):=rfl
 refine AC.go eT ?_
 simp-implicitDefEqProofs[cf,hnl]
 refine aH (λi:Nat=>aC 19 [(8,.p (.int .i64 i)),(7,.p (.int .i64 xs.length)),(0,.p (.lst 5 (xs.map Bk.cs))),(1,.fn (.func f) caps)]) (λ_=>h) (λi=>i<=xs.length/\∀x∈xs.take i,p x=false) (λi=>xs.length-i) 0 (by simp) (ab (Nat.le_refl _) (by simp[below,hcap])) ?_
 rintro i ⟨hi,hp⟩
 simp-implicitDefEqProofs[]
 refine aG (λhc=>?_) (λhc=>?_)
 ·simp at hc
  have hg:=List.getElem?_eq_getElem hc
  have htk:=az hc
  have hfi:p xs[i]=true->xs.findIdx? p=some i:=λe=>by
   rw[List.findIdx?_eq_some_iff_getElem]
   exact⟨hc,e,λj hj=>by have:=hp xs[j] (List.mem_take_iff_getElem.2 ⟨j,by omega,rfl⟩);simp[this]⟩
  have hcl:=hcall _ (List.getElem_mem hc)
  generalize xs[i]=x at hg htk hfi hcl
  have hxs:=x.cs_eq2
  rw[hxs] at hcl
  simp-implicitDefEqProofs[hg,hxs]
  refine hcl.mono ?_
  rintro r h' ⟨rfl,rfl⟩
  cases hpx:p x with
  |true=>
   rw[hfi hpx]
   simp-implicitDefEqProofs[aa,ixI]
  |false=>
   simp-implicitDefEqProofs[aa]
   refine⟨i+1,⟨by omega,λy hy=>?_⟩,by omega,ab (Nat.le_refl _) (by simp[below,hcap,w1 (i:=i) (by omega)])⟩
   rw[htk] at hy
   rcases List.mem_append.1 hy with hy|hy
   ·exact hp y hy
   ·rw[List.mem_singleton.1 hy];exact hpx
 ·simp at hc
  rw[List.take_of_length_le hc] at hp
  have hf:xs.findIdx? p=none:=by rw[List.findIdx?_eq_none_iff];exact hp
  rw[hf]
  simp-implicitDefEqProofs[ixI]
theorem BC(xs:List Bk)(p:Bk->Bool)(hl:xs.length<=1073741824)(hcap:au h.length caps)
 (hcall:∀x∈xs,AC Tryz.prog G f (.agg (x.cs.map .p)::caps) h λr h'=>r= .ret (.p (.bool (p x)))/\h'=h):
 AC Tryz.prog G bh [.p (bkL xs),.fn (.func f) caps] h λr h'=>r= .ret (.p (.bool (xs.any p)))/\h'=h:=by
 refine AC.go dJ ?_
 simp-implicitDefEqProofs[bS]
 refine(yZ G xs p hl hcap hcall).mono ?_
 rintro r h' ⟨rfl,rfl⟩
 simp-implicitDefEqProofs[aa,As]
end
theorem sR{h:List AO}{c:Cd}{q:Nat}(hq:h[q]?=some (.row 3 [[.p (.int .i64 c.params),.p (.int .i64 c.regs),.p (bkL c.blocks)]]))(hl:c.blocks.length<=1073741824)(r:Int):AC Tryz.prog G dm [.p (.int .i64 r),.ptr q 3 0 0] h λx h'=>x= .ret (.p (.bool (!inR r 0 ((c.blocks.length:Int)-1))))/\h'=h:=by
 have hbl:bkL c.blocks= .lst 5 (c.blocks.map Bk.cs):=rfl
 have hwb:IntKind.i64.wrap ((c.blocks.length:Int)-1)=(c.blocks.length:Int)-1:=ae (by omega) (by omega)
 refine AC.go lF ?_
 simp-implicitDefEqProofs[fT,hq,hbl,hwb]
 refine(DL G r 0 ((c.blocks.length:Int)-1)).use ?_
 simp-implicitDefEqProofs[]
theorem uS{h:List AO}{c:Cd}{q:Nat}(hq:h[q]?=some (.row 3 [[.p (.int .i64 c.params),.p (.int .i64 c.regs),.p (bkL c.blocks)]]))(hl:c.blocks.length<=1073741824)(x:Bk)(hx:x.next.length<=1073741824):AC Tryz.prog G cL [.agg (x.cs.map .p),.ptr q 3 0 0] h λr h'=>r= .ret (.p (.bool (!rZ c.blocks.length x.next)))/\h'=h:=by
 have hxs:=x.cs_eq2
 have hql:=(List.getElem?_eq_some_iff.1 hq).1
 have hfn:rZ c.blocks.length x.next=x.next.all λn=>inR n 0 ((c.blocks.length:Int)-1):=rfl
 have hm:∀t,(h++t)[q]?=some (.row 3 [[.p (.int .i64 c.params),.p (.int .i64 c.regs),.p (bkL c.blocks)]]):=λt=>by rw[List.getElem?_append_left hql];exact hq
 refine AC.trim (AC.go nR ?_) (by simp[below])
 simp-implicitDefEqProofs[iJ,hxs]
 refine(zo G x.next (λn=> !inR n 0 ((c.blocks.length:Int)-1)) hx (by simp[below];omega) (λn _=>sR G (hm _) hl n)).mono ?_
 rintro r h' ⟨rfl,rfl⟩
 simp-implicitDefEqProofs[aa,Ad,hfn]
theorem BQ(c:Cd)(hc:CBd c):VF Tryz.prog G gk [.agg (c.cs.map .p)] (.p (.bool (bF c.blocks))):=by
 have hcs:=c.cs_eq2
 have hl1:=hc.1
 have hbl:bkL c.blocks= .lst 5 (c.blocks.map Bk.cs):=rfl
 refine AC.go rm ?_
 rw[um]
 by_cases hp:0<c.blocks.length
 ·have hcf:=BC (h:=[.row 3 [[.p (.int .i64 c.params),.p (.int .i64 c.regs),.p (bkL c.blocks)]]]) (f:=cL) (caps:=[.ptr 0 3 0 0]) G c.blocks (λx=> !rZ c.blocks.length x.next) hl1 (by simp[below]) (λx hx=>uS G rfl hl1 x (hc.2 x hx))
  rw[hbl] at hcf
  simp-implicitDefEqProofs[fx,hcs,hbl,hp]
  refine hcf.mono ?_
  rintro r h' ⟨rfl,rfl⟩
  simp-implicitDefEqProofs[aa,Ad,uv]
 ·simp-implicitDefEqProofs[fx,hcs,hbl,hp]
def CSm(c:Cd):Prop:=CBd c/\(c.blocks.map λx=>x.next.length).sum<=1099511627776
structure RwS (bs:List Bk) (no:Int) (S:List Bool) (T:List Nat):Prop where
 len:S.length=bs.length
 sound:∀x,x<bs.length->sn S x=true->RW (stC bs) (λy=>(y:Int)=no) x
 todo:∀x∈T,x<bs.length/\((x:Int)≠no->RW (stC bs) (λy=>(y:Int)=no) x)
 clo:∀x,x<bs.length->sn S x=true->∀y∈nxC bs x,(y:Int)=no\/sn S y=true\/y∈T
 root:(0:Int)=no\/sn S 0=true\/0∈T
theorem RwS.start{bs:List Bk}(hfit:bF bs=true)(no:Int):RwS bs no (List.replicate bs.length false) [0] where
 len:=List.length_replicate
 sound x hx h:=by rw[nT,decide_eq_true_eq] at h;omega
 todo x hx:=by
  rw[List.mem_singleton.1 hx]
  exact⟨fG hfit,λh=> .zero h⟩
 clo x hx h:=by rw[nT,decide_eq_true_eq] at h;omega
 root:= .inr (.inr (by simp))
theorem RwS.skip{bs:List Bk}{no:Int}{S:List Bool}{T:List Nat}{b:Nat}(h:RwS bs no S (T++[b]))(hb:(b:Int)=no\/sn S b=true):RwS bs no S T where
 len:=h.len
 sound:=h.sound
 todo x hx:=h.todo x (by simp[hx])
 clo x hx hs y hy:=by
  rcases h.clo x hx hs y hy with h1|h1|h1
  ·exact .inl h1
  ·exact .inr (.inl h1)
  ·rcases List.mem_append.1 h1 with h1|h1
   ·exact .inr (.inr h1)
   ·rw[List.mem_singleton.1 h1];exact hb.imp id .inl
 root:=by
  rcases h.root with h1|h1|h1
  ·exact .inl h1
  ·exact .inr (.inl h1)
  ·rcases List.mem_append.1 h1 with h1|h1
   ·exact .inr (.inr h1)
   ·have:=List.mem_singleton.1 h1
    subst this
    exact hb.imp id .inl
theorem RwS.visit{bs:List Bk}{no:Int}{S:List Bool}{T:List Nat}{b:Nat}(hfit:bF bs=true)(h:RwS bs no S (T++[b]))(hb:(b:Int)≠no):RwS bs no (S.set b true) (T++nxC bs b):=by
 have hbR:=(h.todo b (by simp)).2 hb
 have hbl:=(h.todo b (by simp)).1
 have hup:∀y:Nat,(y:Int)=no\/sn S y=true\/y∈T++[b]->(y:Int)=no\/sn (S.set b true) y=true\/y∈T++nxC bs b:=λy hy=>by
  rw[jF]
  rcases hy with h1|h1|h1
  ·exact .inl h1
  ·exact .inr (.inl (by rw[h1];rfl))
  ·rcases List.mem_append.1 h1 with h1|h1
   ·exact .inr (.inr (List.mem_append_left _ h1))
   ·rw[List.mem_singleton.1 h1];exact .inr (.inl (by simp))
 refine⟨by rw[List.length_set];exact h.len,λx hx hs=>?_,λx hx=>?_,λx hx hs y hy=>?_,by have:=hup 0 (by simpa using h.root);simpa using this⟩
 ·rw[jF,Bool.or_eq_true,decide_eq_true_eq] at hs
  rcases hs with hs|rfl
  ·exact h.sound x hx hs
  ·exact hbR
 ·rcases List.mem_append.1 hx with hx|hx
  ·exact h.todo x (by simp[hx])
  ·exact⟨(uj hfit hx).2,λhn=> .step hbR hx hn⟩
 ·rw[jF,Bool.or_eq_true,decide_eq_true_eq] at hs
  rcases hs with hs|rfl
  ·exact hup y (h.clo x hx hs y hy)
  ·exact .inr (.inr (List.mem_append_right _ hy))
theorem RwS.done{bs:List Bk}{no:Int}{S:List Bool}(hfit:bF bs=true)(h:RwS bs no S []){x:Nat}(hx:x<bs.length):sn S x=true↔RW (stC bs) (λy=>(y:Int)=no) x:=by
 refine⟨h.sound x hx,λhr=>?_⟩
 clear hx
 induction hr with
 |zero h0=>
  rcases h.root with h1|h1|h1
  ·exact absurd h1 h0
  ·exact h1
  ·cases h1
 | @step p m hp e hn ih=>
   have hpl:p<bs.length:=(uj hfit e).1
   rcases h.clo p hpl ih m e with h1|h1|h1
   ·exact absurd h1 hn
   ·exact h1
   ·cases h1
theorem RwS.rch{bs:List Bk}{S:List Bool}(hfit:bF bs=true)(h:RwS bs (-1) S []):S=Gb bs:=by
 refine yr (by rw[h.len,Ey]) λx hx=>?_
 rw[h.len] at hx
 rw[Gb,EH hx,Bool.eq_iff_iff,h.done hfit hx,rchB_iff,Rch]
 have e:(λy:Nat=>(y:Int)= -1)=λ_=>False:=funext λy=>propext ⟨λh=>by omega,λh=>h.elim⟩
 rw[e]
theorem RwS.rw{bs:List Bk}{S:List Bool}{a:Nat}(hfit:bF bs=true)(h:RwS bs a S []):S=rwL bs a:=by
 refine yr (by rw[h.len,Gh]) λx hx=>?_
 rw[h.len] at hx
 rw[rwL,EH hx,Bool.eq_iff_iff,h.done hfit hx,Gd]
 have e:(λy:Nat=>(y:Int)=(a:Int))=λy=>y=a:=funext λy=>propext (by omega)
 rw[e]
end
section
theorem JH{α:Type}{l:List α}{i:Nat}{x:α}(h:l[i]?=some x)(hh:i<l.length):l[i]'hh=x:=by
 rw[List.getElem?_eq_getElem hh] at h
 exact Option.some.inj h
variable (G:aB)
end
section
def vN:AV->Bool
 | .p (.lst _ _)=>false
 |_=>true
def NoL(h:List AO)(I:List Nat):Prop:=∀j∈I,∀(sz:Nat) (rows:List (List AV)),h[j]?=some (.row sz rows)->∀r∈rows,∀v∈r,vN v=true
theorem NoL.frame{h h':List AO}{I:List Nat}(H:NoL h I)(e:∀i∈I,h'[i]?=h[i]?):NoL h' I:=λj hj sz rows hg=>H j hj sz rows (by rw[←e j hj];exact hg)
theorem NoL.app{h:List AO}{I J:List Nat}(a:NoL h I)(b:NoL h J):NoL h (I++J):=λj hj=>(List.mem_append.1 hj).elim (a j) (b j)
theorem NoL.sub{h:List AO}{I J:List Nat}(a:NoL h I)(s:∀j∈J,j∈I):NoL h J:=λj hj=>a j (s j hj)
theorem NoL.cons{h:List AO}{id sz:Nat}{rows:List (List AV)}{J:List Nat}(e:h[id]?=some (.row sz rows))(hr:∀r∈rows,∀v∈r,vN v=true)(b:NoL h J):NoL h (id::J):=λj hj=>by
 rcases List.mem_cons.1 hj with rfl|hj
 ·intro sz2 rows2 e2
  rw[e] at e2;cases e2
  exact hr
 ·exact b j hj
structure Own (n:Nat) (h:List AO) (vs:List AV) (qs:List PV) (I:List Nat):Prop where
 own:OwnL true h vs qs I
 nd:I.Nodup
 no:NoL h I
 nv:∀v∈vs,vN v=true
 ge:∀j∈I,n<=j
section
variable {n:Nat} {h h2:List AO} {vs:List AV} {qs:List PV} {I:List Nat} {V:AV} {sz:Nat} {D:List (List PV)}
theorem Own.frame(H:Own n h vs qs I)(e:∀i∈I,h2[i]?=h[i]?):Own n h2 vs qs I:=⟨H.own.frame e,H.nd,H.no.frame e,H.nv,H.ge⟩
theorem Own.lt(H:Own n h vs qs I):∀i∈I,i<h.length:=λ_ hi=>H.own.lt hi
theorem Own.more(H:Own n h vs qs I)(os:List AO):Own n (h++os) vs qs I:=H.frame λi hi=>List.getElem?_append_left (H.lt i hi)
theorem Own.low{m:Nat}(H:Own n h vs qs I)(hm:∀j∈I,m<=j):Own m h vs qs I:=⟨H.own,H.nd,H.no,H.nv,hm⟩
theorem Own.fr{K:List Nat}(H:Own n h vs qs I)(f:Fr K h h2)(hK:∀j∈I,j∉K):Own n h2 vs qs I:=H.frame λi hi=>f.2 i (H.lt i hi) (hK i hi)
theorem Own.nil(n:Nat)(h:List AO)(sz:Nat):Own n h [.nils] [.lst sz []] []:=⟨.nils sz .nil,List.nodup_nil,(λj hj=>by cases hj),(λv hv=>by rw[List.mem_singleton.1 hv];rfl),(λj hj=>by cases hj)⟩
theorem Own.nix(n:Nat)(h:List AO):Own n h [] [] []:=⟨.nil,List.nodup_nil,(λj hj=>by cases hj),(λv hv=>by cases hv),(λj hj=>by cases hj)⟩
theorem Own.sc(H:Own n h vs qs I)(q:PV)(hq:EN q=true)(hn:vN (.p q)=true):Own n h (.p q::vs) (q::qs) I:=⟨.p q (λ_=>hq) H.own,H.nd,H.no,λv hv=>by
 rcases List.mem_cons.1 hv with rfl|hv
 ·exact hn
 ·exact H.nv v hv,H.ge⟩
theorem Own.app{us:List AV}{rs:List PV}{J:List Nat}(H:Own n h vs qs I)(H2:Own n h us rs J)(hd:∀j∈I,j∉J):Own n h (vs++us) (qs++rs) (I++J):=
 ⟨H.own.app H2.own,List.nodup_append.2 ⟨H.nd,H2.nd,λa ha b hb e=>hd a ha (e▸hb)⟩,H.no.app H2.no,λv hv=>(List.mem_append.1 hv).elim (H.nv v) (H2.nv v),λj hj=>(List.mem_append.1 hj).elim (H.ge j) (H2.ge j)⟩
theorem Own.one{q:PV}(H:Own n h vs (q::qs) I):∃v us I1 I2,vs=v::us/\I=I1++I2/\Own n h [v] [q] I1/\Own n h us qs I2:=by
 obtain⟨v,us,rfl⟩:∃v us,vs=v::us:=by
  have:=H.own.len
  cases vs with
  |nil=>simp at this
  |cons v us=>exact⟨v,us,rfl⟩
 obtain⟨I1,I2,rfl,h1,h2⟩:=H.own.one
 have hn:=List.nodup_append.1 H.nd
 exact⟨v,us,I1,I2,rfl,rfl,⟨h1,hn.1,H.no.sub λj hj=>by simp[hj],λx hx=>H.nv x (by rw[List.mem_singleton.1 hx];simp),λj hj=>H.ge j (by simp[hj])⟩,⟨h2,hn.2.1,H.no.sub λj hj=>by simp[hj],λx hx=>H.nv x (by simp[hx]),λj hj=>H.ge j (by simp[hj])⟩⟩
theorem Own.row(H:Own n h [V] [.lst sz D] I):(V= .nils/\D=[]/\I=[])\/∃id rows J,V= .sl id sz 0 D.length/\I=id::J/\RowOwn true h id sz rows D J/\∀r∈rows,∀v∈r,vN v=true:=by
 rcases H.own.inv H.nd with⟨h1,h2,h3|h3⟩|⟨h1,_⟩|⟨id,rows,J,h1,h2,h3⟩
 ·exact .inl ⟨h3,h1,h2⟩
 ·have:=H.nv V (by simp)
  rw[h3] at this;cases this
 ·cases h1
 ·exact .inr ⟨id,rows,J,h1,h2,h3,H.no id (by rw[h2];simp) sz rows h3.here⟩
theorem Own.of{id:Nat}{rows:List (List AV)}{J:List Nat}(H:RowOwn true h id sz rows D J)(hn:∀r∈rows,∀v∈r,vN v=true)(hJ:NoL h J)(hg:∀j∈id::J,n<=j){m:Nat}(hm:m=D.length):Own n h [.sl id sz 0 m] [.lst sz D] (id::J):=
 ⟨H.tree hm,H.nd,hJ.cons H.here hn,λv hv=>by rw[List.mem_singleton.1 hv];rfl,hg⟩
theorem Own.view(H:Own n h [V] [.lst sz D] I):View h V (.lst sz D):=H.own.view 0 V _ rfl rfl
theorem Own.cell{q:PV}(H:Own n h [V] [q] I):V.cells=[V]/\V.isCell=true:=by
 cases H.own with
 |p _ _ _=>exact⟨rfl,rfl⟩
 |nils _ _=>exact⟨rfl,rfl⟩
 |sl id sz n rows es _ _ _ _ _ _ _=>exact⟨rfl,rfl⟩
theorem Own.first{r:List AV}{e:List PV}{J:List Nat}(H2:Own n h2 r e J)(he:e.length=sz)(hn:n<=h2.length):Own n (h2++[.row sz [r]]) [.sl h2.length sz 0 1] [.lst sz [e]] (h2.length::J):=by
 have hl:∀j∈J,j<h2.length:=H2.lt
 refine Own.of (rows:=[r]) ⟨by rw[List.getElem?_append_right (Nat.le_refl _)];simp,rfl,λx hx=>by rw[List.mem_singleton.1 hx,H2.own.len,he],λx hx=>by rw[List.mem_singleton.1 hx,he],by simpa using H2.own.more [.row sz [r]],List.nodup_cons.2 ⟨λhm=>by have:=hl _ hm;omega,H2.nd⟩⟩ (λx hx=>by rw[List.mem_singleton.1 hx];exact H2.nv) (H2.more _).no (λj hj=>by
  rcases List.mem_cons.1 hj with rfl|hj
  ·exact hn
  ·exact H2.ge j hj) rfl
theorem Own.push{id:Nat}{rows:List (List AV)}{J:List Nat}(H:Own n h [.sl id sz 0 D.length] [.lst sz D] (id::J))(hr:RowOwn true h id sz rows D J){os:List AO}(e2:h2=h++os){r:List AV}{e:List PV}{J2:List Nat}(H2:Own n h2 r e J2)(he:e.length=sz)(hd:∀j∈J2,j≠id/\j∉J):
 Own n (h2.set id .dead++[.row sz (rows++[r])]) [.sl h2.length sz 0 (D.length+1)] [.lst sz (D++[e])] (h2.length::(J++J2)):=by
 have R:=zg hr (rs:=[r]) (es:=[e]) e2 (by simpa using H2.own) rfl (λx hx=>by rw[List.mem_singleton.1 hx,H2.own.len,he]) (λx hx=>by rw[List.mem_singleton.1 hx,he]) H2.nd hd
 have hid:=hr.lt
 have hnJ:id∉J:=(List.nodup_cons.1 hr.nd).1
 have hlJ:∀j∈J,j<h.length:=λj hj=>hr.own.lt hj
 have hl2:h.length<=h2.length:=by rw[e2];simp
 have hr0:=H.no id (by simp) sz rows hr.here
 refine Own.of R (λx hx=>?_) ?_ (λj hj=>?_) (by simp)
 ·rcases List.mem_append.1 hx with h1|h1
  ·exact hr0 x h1
  ·rw[List.mem_singleton.1 h1];exact H2.nv
 ·refine NoL.app ((H.no.sub (J:=J) λj hj=>by simp[hj]).frame λi hi=>?_) (H2.no.frame λi hi=>?_)
  ·have hil:=hlJ i hi
   have hne:id≠i:=λe=>hnJ (e▸hi)
   rw[List.getElem?_append_left (by rw[List.length_set];omega),List.getElem?_set_ne hne,e2,List.getElem?_append_left hil]
  ·rw[List.getElem?_append_left (by rw[List.length_set];exact H2.lt i hi),List.getElem?_set_ne (Ne.symm (hd i hi).1)]
 ·rcases List.mem_cons.1 hj with rfl|hj
  ·have:=H.ge id (by simp);omega
  ·rcases List.mem_append.1 hj with hj|hj
   ·exact H.ge j (by simp[hj])
   ·exact H2.ge j hj
theorem Own.upd{id:Nat}{rows:List (List AV)}{J:List Nat}(H:Own n h [.sl id sz 0 D.length] [.lst sz D] (id::J))(hr:RowOwn true h id sz rows D J){i:Nat}{e:List PV}(hi:D[i]?=some e):
 ∃r Ji,rows[i]?=some r/\Own n h r e Ji/\(∀j∈Ji,j∈J/\j≠id)/\∀(h2:List AO) (r':List AV) (e':List PV) (I2:List Nat),h2[id]?=some (.row sz (rows.set i r'))->(∀j∈J,j∉Ji->h2[j]?=h[j]?)->Own n h2 r' e' I2->(∀j∈I2,j∈Ji\/(j≠id/\j∉J))->e'.length=sz->
  ∃J',Own n h2 [.sl id sz 0 D.length] [.lst sz (D.set i e')] (id::J')/\∀j∈J',j∈J\/j∈I2:=by
 have hr0:=H.no id (by simp) sz rows hr.here
 have hnJ:id∉J:=(List.nodup_cons.1 hr.nd).1
 have hNo:NoL h J:=H.no.sub λj hj=>by simp[hj]
 obtain⟨r,J1,Ji,J2,g1,rfl,g3,g4⟩:=hr.own.put hr.len hr.rl hr.dl hi
 have hn:=hr.nd
 simp only[List.nodup_cons,List.nodup_append,List.mem_append,not_or] at hn
 obtain⟨⟨n1,n2,n3⟩,m1,⟨m2,m3,m4⟩,m5⟩:=hn
 refine⟨r,Ji,g1,⟨g3,m2,hNo.sub λj hj=>by simp[hj],hr0 r (List.mem_of_getElem? g1),λj hj=>H.ge j (by simp[hj])⟩,λj hj=>⟨by simp[hj],λe=>hnJ (by rw[←e];simp[hj])⟩,λh2 r' e' I2 k1 k2 k3 k4 k5=>?_⟩
 simp only[List.mem_append,not_or] at k4
 have hs1:∀j∈J1,h2[j]?=h[j]?:=λj hj=>k2 j (by simp[hj]) λhm=>m5 j hj j (.inl hm) rfl
 have hs2:∀j∈J2,h2[j]?=h[j]?:=λj hj=>k2 j (by simp[hj]) λhm=>m4 j hm j hj rfl
 have hid2:id∉I2:=λhm=>by
  rcases k4 _ hm with h|h
  ·exact n2 h
  ·exact h.1 rfl
 refine⟨J1++(I2++J2),⟨?_,?_,?_,λv hv=>by rw[List.mem_singleton.1 hv];rfl,λj hj=>?_⟩,λj hj=>?_⟩
 ·have:=OwnL.sl (s:=true) (h:=h2) id sz D.length (rows.set i r') (D.set i e') k1 (by simp) (by simp[hr.len]) (λx hx=>by
   rcases List.mem_or_eq_of_mem_set hx with h1|rfl
   ·exact hr.rl x h1
   ·rw[k3.own.len,k5]) (λx hx=>by
   rcases List.mem_or_eq_of_mem_set hx with h1|rfl
   ·exact hr.dl x h1
   ·exact k5) (g4 h2 r' e' I2 (λj hj=>(List.mem_append.1 hj).elim (hs1 j) (hs2 j)) k3.own) .nil
  rwa[List.append_nil] at this
 ·simp only[List.nodup_cons,List.nodup_append,List.mem_append,not_or]
  refine⟨⟨n1,hid2,n3⟩,m1,⟨k3.nd,m3,λa ha b hb e=>?_⟩,λa ha b hb e=>?_⟩
  ·subst e
   rcases k4 _ ha with h|h
   ·exact m4 a h a hb rfl
   ·exact h.2.2.2 hb
  ·subst e
   rcases hb with hb|hb
   ·rcases k4 _ hb with h|h
    ·exact m5 a ha a (.inl h) rfl
    ·exact h.2.1 ha
   ·exact m5 a ha a (.inr hb) rfl
 ·refine NoL.cons k1 (λx hx=>?_) (((hNo.sub (J:=J1) λj hj=>by simp[hj]).frame hs1).app (k3.no.app ((hNo.sub (J:=J2) λj hj=>by simp[hj]).frame hs2)))
  rcases List.mem_or_eq_of_mem_set hx with h1|rfl
  ·exact hr0 x h1
  ·exact k3.nv
 ·simp only[List.mem_cons,List.mem_append] at hj
  rcases hj with rfl|hj|hj|hj
  ·exact H.ge _ (by simp)
  ·exact H.ge j (by simp[hj])
  ·exact k3.ge j hj
  ·exact H.ge j (by simp[hj])
 ·simp only[List.mem_append] at hj⊢
  rcases hj with hj|hj|hj
  ·exact .inl (.inl hj)
  ·exact .inr hj
  ·exact .inl (.inr (.inr hj))
end
variable (G:aB)
end
section
section
variable {n:Nat} {h h2:List AO} {vs:List AV} {qs:List PV} {I:List Nat} {V:AV}
theorem Own.int{k:Int}(H:Own n h vs (.int .i64 k::qs) I):∃us,vs= .p (.int .i64 k)::us/\Own n h us qs I:=by
 obtain⟨v,us,I1,I2,rfl,rfl,h1,h2⟩:=H.one
 cases h1.own with
 |p _ _ hh=>cases hh;exact⟨us,rfl,h2⟩
theorem Own.single{q:PV}(H:Own n h vs [q] I):∃v,vs=[v]/\Own n h [v] [q] I:=by
 obtain⟨v,rfl⟩:=zS H.own
 exact⟨v,rfl,H⟩
theorem Own.putI(H:Own n h vs qs I)(k:Int):Own n h (.p (.int .i64 k)::vs) (.int .i64 k::qs) I:=H.sc _ rfl rfl
theorem uc{b:Bk}(H:Own n h vs b.cs I):∃P N X IP IN IX,vs=[P,N,.p (.int .i64 b.jump),.p (.int .i64 b.on),X]/\I=IP++(IN++IX)/\Own n h [P] [phL b.phis] IP/\Own n h [N] [inL b.ins] IN/\Own n h [X] [ay b.next] IX:=by
 rw[show b.cs=[phL b.phis,inL b.ins,.int .i64 b.jump,.int .i64 b.on,ay b.next] from rfl] at H
 obtain⟨P,u1,IP,I1,rfl,rfl,hP,H⟩:=H.one
 obtain⟨N,u2,IN,I2,rfl,rfl,hN,H⟩:=H.one
 obtain⟨u3,rfl,H3⟩:=H.int
 obtain⟨u4,rfl,H4⟩:=H3.int
 obtain⟨X,rfl,H5⟩:=H4.single
 exact⟨P,N,X,IP,IN,I2,rfl,rfl,hP,hN,H5⟩
theorem pA{b:Bk}{P N X:AV}{IP IN IX:List Nat}(hP:Own n h [P] [phL b.phis] IP)(hN:Own n h [N] [inL b.ins] IN)(hX:Own n h [X] [ay b.next] IX)(d1:∀j∈IP,j∉IN/\j∉IX)(d2:∀j∈IN,j∉IX):Own n h [P,N,.p (.int .i64 b.jump),.p (.int .i64 b.on),X] b.cs (IP++(IN++IX)):=by
 rw[show b.cs=[phL b.phis,inL b.ins,.int .i64 b.jump,.int .i64 b.on,ay b.next] from rfl]
 exact hP.app (hN.app ((hX.putI b.on).putI b.jump) d2) λj hj hm=>(List.mem_append.1 hm).elim (d1 j hj).1 (d1 j hj).2
theorem EW{x:Ii}(H:Own n h vs x.cs I):∃A,vs=[.p (.int .i64 x.op),.p (.int .i64 x.to),A,.p (.int .i64 x.n)]/\Own n h [A] [ay x.args] I:=by
 rw[show x.cs=[.int .i64 x.op,.int .i64 x.to,ay x.args,.int .i64 x.n] from rfl] at H
 obtain⟨u1,rfl,H1⟩:=H.int
 obtain⟨u2,rfl,H2⟩:=H1.int
 obtain⟨A,u3,IA,I2,rfl,rfl,hA,H3⟩:=H2.one
 obtain⟨u4,rfl,H4⟩:=H3.int
 have:=H4.own
 cases this
 exact⟨A,rfl,by rw[List.append_nil];exact hA⟩
theorem ut{x:Ii}{A:AV}(H:Own n h [A] [ay x.args] I):Own n h [.p (.int .i64 x.op),.p (.int .i64 x.to),A,.p (.int .i64 x.n)] x.cs I:=by
 have h2:Own n h ([A]++[.p (.int .i64 x.n)]) ([ay x.args]++[.int .i64 x.n]) (I++[]):=H.app ((Own.nix n h).putI _) λj _ hm=>by cases hm
 rw[List.append_nil] at h2
 exact(h2.putI x.to).putI x.op
theorem ug{x:Ph}{A:AV}(H:Own n h [A] [ay x.args] I):Own n h [.p (.int .i64 x.to),A] x.cs I:=H.putI _
theorem Av{c:Cd}(H:Own n h vs c.cs I):∃A,vs=[.p (.int .i64 c.params),.p (.int .i64 c.regs),A]/\Own n h [A] [bkL c.blocks] I:=by
 rw[show c.cs=[.int .i64 c.params,.int .i64 c.regs,bkL c.blocks] from rfl] at H
 obtain⟨u1,rfl,H1⟩:=H.int
 obtain⟨u2,rfl,H2⟩:=H1.int
 obtain⟨A,rfl,H3⟩:=H2.single
 exact⟨A,rfl,H3⟩
theorem pu{c:Cd}{A:AV}(H:Own n h [A] [bkL c.blocks] I):Own n h [.p (.int .i64 c.params),.p (.int .i64 c.regs),A] c.cs I:=(H.putI _).putI _
theorem bX{id m:Nat}{l:List Int}(hg:h[id]?=some (.row 1 (l.map λn=>[AV.p (.int .i64 n)])))(hn:n<=id)(hm:m=l.length):Own n h [.sl id 1 0 m] [ay l] [id]:=by
 have hf:∀l:List Int,OwnL true h (l.map λn=>[AV.p (.int .i64 n)]).flatten (l.map λn=>[PV.int .i64 n]).flatten []:=λl=>by
  induction l with
  |nil=>exact .nil
  |cons x r ih=>exact .p _ (λ_=>rfl) ih
 refine Own.of (D:=l.map λn=>[PV.int .i64 n]) ⟨hg,by simp,λe he=>by obtain⟨w,_,rfl⟩:=List.mem_map.1 he;rfl,λe he=>by obtain⟨w,_,rfl⟩:=List.mem_map.1 he;rfl,hf l,by simp⟩ (λr hr v hv=>?_) (λj hj=>by cases hj) (λj hj=>by rw[List.mem_singleton.1 hj];exact hn) (by simp[hm])
 obtain⟨w,_,rfl⟩:=List.mem_map.1 hr
 rw[List.mem_singleton.1 hv];rfl
end
end
section
theorem sE:AK.whole iq=FK.ak gY:=rfl
theorem AU{h h2:List AO}(hl:h.length<=h2.length)(hf:∀j,j<h.length->h2[j]?=h[j]?):∃os,h2=h++os:=by
 refine⟨h2.drop h.length,List.ext_getElem? λi=>?_⟩
 rcases Nat.lt_or_ge i h.length with hi|hi
 ·rw[List.getElem?_append_left hi,hf i hi]
 ·rw[List.getElem?_append_right hi,List.getElem?_drop];congr 1;omega
variable (G:aB)
theorem Lr{b:List Int}{q:Nat}{R os:List AO}{k j:Nat}{o:AO}(hk:k=R.length+j+1)(h:os[j]?=some o):(rdO b q::(R++os))[k]?=some o:=by
 rw[hk,List.getElem?_cons_succ,List.getElem?_append_right (by omega),Nat.add_sub_cancel_left];exact h
theorem rz{b:List Int}(hb:Byt b)(hl:b.length<=2000){p:Nat}(hp:p<=1099511627776)(l:List Int){R os:List AO}{k:Nat}(j:Nat)(hk:k=R.length+j+1)(h1:os[j]?=some (vS l))(hne:l≠[])(hll:l.length<=1099511627776):
 AC Tryz.prog G aY [.ptr 0 2 0 0,.sl k 1 0 l.length] (rdO b p::(R++os)) λx h'=>∃n,n∈l/\x= .ret (.p (.int .i64 n))/\h'=rdO b (p+1)::(R++os):=
 iZ G hb hl hp l hne hll (by omega) rfl (Lr hk h1)
theorem zt{b:List Int}(hb:Byt b)(hl:b.length<=2000){p:Nat}(hp:p<=1000000000000)(R:List AO)(i n:Nat)(hn:n<=100)(hi:i<n):AC Tryz.prog G eL [.ptr 0 2 0 0,.p (.int .i64 i),.p (.int .i64 n)] (rdO b p::R) λx h=>∃(k:Int) (q:Nat),x= .ret (.p (.int .i64 k))/\h=rdO b q::R/\p<=q/\q<=p+2:=by
 refine AC.go vR ?_
 have hw:IntKind.i64.wrap ((n:Int)-1)=(n:Int)-1:=ae (by omega) (by omega)
 have key:∀q,p<=q->q<=p+1->AC Tryz.prog G bt [.ptr 0 2 0 0,.p (.int .i64 ((n:Int)-1))] (rdO b q::R) λx h=>∃k:Nat,x= .ret (.p (.int .i64 k))/\h=rdO b (q+1)::R/\((k:Int)<(n:Int)-1\/k=0):=λq _ _=>aI G b hb hl q (by omega) _ R
 by_cases hc:(i:Int)<(n:Int)-1
 ·simp-implicitDefEqProofs[ki,hw,hc]
  refine(aI G b hb hl p (by omega) _ R).mono ?_
  rintro r h ⟨k,rfl,rfl,hk⟩
  simp-implicitDefEqProofs[aa]
  have hw2:IntKind.i64.wrap ((i:Int)+1)=(i:Int)+1:=ae (by omega) (by omega)
  refine aG (λh0=>?_) (λh0=>?_)
  ·simp-implicitDefEqProofs[hw,hw2]
   refine(aI G b hb hl (p+1) (by omega) _ R).mono ?_
   rintro r h ⟨k2,rfl,rfl,hk2⟩
   simp-implicitDefEqProofs[aa]
   exact⟨p+1+1,rfl,by omega,by omega⟩
  ·simp-implicitDefEqProofs[hw]
   refine(aI G b hb hl (p+1) (by omega) _ R).mono ?_
   rintro r h ⟨k2,rfl,rfl,hk2⟩
   simp-implicitDefEqProofs[aa]
   exact⟨p+1+1,rfl,by omega,by omega⟩
 ·simp-implicitDefEqProofs[ki,hw,hc]
  refine(aI G b hb hl p (by omega) _ R).mono ?_
  rintro r h ⟨k,rfl,rfl,hk⟩
  simp-implicitDefEqProofs[aa]
  exact⟨p+1,rfl,by omega,by omega⟩
def CdsAt(R:List AO)(U:AV)(cs:List Cd):Prop:=(U= .nils/\cs=[])\/∃u rows,cs≠[]/\U= .sl (u+1) 3 0 cs.length/\R[u]?=some (.row 3 rows)/\∀(k:Nat) (c:Cd),cs[k]?=some c->∃V,rows[k]?=some [.p (.int .i64 c.params),.p (.int .i64 c.regs),V]/\c.params<=3
theorem CdsAt.cell{R:List AO}{U:AV}{cs:List Cd}(H:CdsAt R U cs):U.cells=[U]/\U.isCell=true:=by rcases H with⟨rfl,_⟩|⟨u,rows,_,rfl,_⟩<;>exact⟨rfl,rfl⟩
theorem HE{n:Nat}{o o':AO}{W:List AO}{vs:List AV}{qs:List PV}{I:List Nat}(H:Own (n+1) (o::W) vs qs I):Own (n+1) (o'::W) vs qs I:=H.frame λi hi=>by
 have:=H.ge i hi
 obtain⟨k,rfl⟩:∃k,i=k+1:=⟨i-1,by omega⟩
 rfl
structure SmI (R:List AO) (op to n:Int) (W:List AO) (A:AV) (args:List Int) (I:List Nat):Prop where
 len:R.length+4<=W.length
 pre:∀i,i<R.length->W[i]?=R[i]?
 res:W[R.length+1]?=some (.row 4 [[.p (.int .i64 0),.p (.int .i64 0),.nils,.p (.int .i64 0)]])
 x:W[R.length+3]?=some (.row 4 [[.p (.int .i64 op),.p (.int .i64 to),A,.p (.int .i64 n)]])
 own:Own (R.length+5) (.dead::W) [A] [ay args] I
structure SmT where (i q:Nat) (W:List AO)
theorem SmI.first{R:List AO}{op to n:Int}{W:List AO}{I:List Nat}(H:SmI R op to n W .nils [] I)(k:Int):SmI R op to n ((W++[AO.row 1 [[.p (.int .i64 k)]]]).set (R.length+3) (.row 4 [[.p (.int .i64 op),.p (.int .i64 to),.sl (W.length+1) 1 0 1,.p (.int .i64 n)]])) (.sl (W.length+1) 1 0 1) [k] [W.length+1]:=by
 have hl:=H.len
 refine⟨by simp;omega,λi hi=>?_,?_,?_,?_⟩
 ·rw[List.getElem?_set_ne (by omega),List.getElem?_append_left (by omega)];exact H.pre i hi
 ·rw[List.getElem?_set_ne (by omega),List.getElem?_append_left (by omega)];exact H.res
 ·exact List.getElem?_set_self (by simp;omega)
 ·refine bX (l:=[k]) ?_ (by omega) rfl
  rw[List.getElem?_cons_succ,List.getElem?_set_ne (by omega),List.getElem?_append_right (Nat.le_refl _)];simp
theorem SmI.more{R:List AO}{op to n:Int}{W:List AO}{I:List Nat}{id:Nat}{args:List Int}(H:SmI R op to n W (.sl (id+1) 1 0 args.length) args I)(hid:R.length+4<=id)(hg:W[id]?=some (.row 1 (args.map λn=>[AV.p (.int .i64 n)])))(k:Int):SmI R op to n ((W.set id .dead++[AO.row 1 ((args.map λn=>[AV.p (.int .i64 n)])++[[.p (.int .i64 k)]])]).set (R.length+3) (.row 4 [[.p (.int .i64 op),.p (.int .i64 to),.sl (W.length+1) 1 0 (args.length+1),.p (.int .i64 n)]])) (.sl (W.length+1) 1 0 (args.length+1)) (args++[k]) [W.length+1]:=by
 have hl:=H.len
 refine⟨by simp;omega,λi hi=>?_,?_,?_,?_⟩
 ·rw[List.getElem?_set_ne (by omega),List.getElem?_append_left (by simp;omega),List.getElem?_set_ne (by omega)];exact H.pre i hi
 ·rw[List.getElem?_set_ne (by omega),List.getElem?_append_left (by simp;omega),List.getElem?_set_ne (by omega)];exact H.res
 ·exact List.getElem?_set_self (by simp;omega)
 ·refine bX (l:=args++[k]) ?_ (by omega) (by simp)
  rw[List.getElem?_cons_succ,List.getElem?_set_ne (by omega),List.getElem?_append_right (by simp)];simp
theorem nj{h:List AO}{n id m:Nat}{l:List Int}{I:List Nat}(H:Own n h [.sl id 1 0 m] [ay l] I):m=l.length/\I=[id]/\n<=id/\h[id]?=some (.row 1 (l.map λn=>[AV.p (.int .i64 n)])):=by
 have hge:=H.ge
 rcases H.row with⟨h1,_⟩|⟨id2,rows,J,e1,e2,hr,_⟩
 ·cases h1
 ·rw[List.length_map] at e1
  cases e1
  have key:∀(rows:List (List AV)) (l:List Int) (J:List Nat),rows.length=l.length->(∀e∈rows,e.length=1)->OwnL true h rows.flatten (l.map λw=>[PV.int .i64 w]).flatten J->rows=(l.map λn=>[AV.p (.int .i64 n)])/\J=[]:=by
   intro rows
   induction rows with
   |nil=>
    intro l J hl _ ho
    cases l with
    |nil=>cases ho;exact⟨rfl,rfl⟩
    |cons _ _=>simp at hl
   |cons r rs ih=>
    intro l J hl h1 ho
    cases l with
    |nil=>simp at hl
    |cons w ws=>
     obtain⟨v,rfl⟩:∃v,r=[v]:=by
      have:=h1 r (by simp)
      match r,this with
      |[v],_=>exact⟨v,rfl⟩
     have ho2:OwnL true h (v::rs.flatten) (PV.int .i64 w::(ws.map λw=>[PV.int .i64 w]).flatten) J:=ho
     cases ho2 with
     |p _ _ ho3=>
      obtain⟨a,b⟩:=ih ws J (by simpa using hl) (λe he=>h1 e (by simp[he])) ho3
      exact⟨by rw[a];rfl,b⟩
  obtain⟨a,b⟩:=key rows l J (by have:=hr.len;simpa using this) hr.rl hr.own
  subst b;subst e2
  exact⟨rfl,rfl,hge id (by simp),by rw[hr.here,a]⟩
structure SmC where (to n many:Int) (q:Nat) (W:List AO)
theorem DU{b:List Int}(hb:Byt b)(hl:b.length<=2000){p:Nat}(hp:p<=1000000000000)(R:List AO)(U:AV)(cs:List Cd)(hU:CdsAt R U cs)(regs:Int):AC Tryz.prog G iy [.ptr 0 2 0 0,.agg [U],.p (.int .i64 regs)] (rdO b p::R) λx h=>∃(y:Ii) (A:AV) (I:List Nat) (q:Nat) (os:List AO),x= .ret (.agg [.p (.int .i64 y.op),.p (.int .i64 y.to),A,.p (.int .i64 y.n)])/\h=rdO b q::(R++os)/\Own (R.length+1) h [A] [ay y.args] I/\y.args.length<=3/\p<=q/\q<=p+10:=by
 obtain⟨u1,u2⟩:=hU.cell
 have hRR:∀(t:List AO) (i:Nat),i<R.length->(R++t)[i]?=R[i]?:=λt i hi=>List.getElem?_append_left hi
 refine AC.goK sM sE ?_
 simp-implicitDefEqProofs[-AV.cells,-AV.isCell,aE,ag,ah,an,al,aD,af,am,aj,u1,u2,iq,gY]
 refine(rz G hb hl (by omega) [1,1,2,3,4,5,8,9,10,13,3,6,7,11,12,14] 2 (by omega) rfl (by simp) (by simp)).mono ?_
 rintro r h ⟨op,hop,rfl,rfl⟩
 simp-implicitDefEqProofs[-AV.cells,-AV.isCell,aE,ag,ah,an,al,aD,af,am,aj,u1,u2,aa]
 refine(aI G b hb hl (p+1) (by omega) regs _).mono ?_
 rintro r h ⟨k1,rfl,rfl,_⟩
 simp-implicitDefEqProofs[-AV.cells,-AV.isCell,aE,ag,ah,an,al,aD,af,am,aj,u1,u2,aa]
 refine(ru G op).use ?_
 simp-implicitDefEqProofs[-AV.cells,-AV.isCell,aE,ag,ah,an,al,aD,af,am,aj,u1,u2]
 have h7:op≠14->l7N op<=3:=by
  simp at hop
  rcases hop with rfl|rfl|rfl|rfl|rfl|rfl|rfl|rfl|rfl|rfl|rfl|rfl|rfl|rfl|rfl|rfl<;>simp[l7N,inR]
 refine gm (λs:SmC=>aC 69 [(9,.p (.int .i64 s.many)),(8,.ptr (R.length+3+1) 4 0 0),(7,.p (.int .i64 op)),(6,.ptr (R.length+1+1) 4 0 0),(2,.p (.int .i64 regs)),(0,.ptr 0 2 0 0)]) (λs=>rdO b s.q::s.W) (λs=>SmI R op s.to s.n s.W .nils [] []/\s.many<=3/\p<=s.q/\s.q<=p+4) ?_ ?_
 ·simp-implicitDefEqProofs[]
  refine aG (λh14=>?_) (λh14=>?_)
  ·have h14:op=14:=by simpa using h14
   subst h14
   rcases hU with⟨rfl,rfl⟩|⟨u,rows,hc0,rfl,hg,hrow⟩
   ·simp-implicitDefEqProofs[]
    refine(aI G b hb hl (p+1+1) (by omega) regs _).mono ?_
    rintro r h ⟨k2,rfl,rfl,_⟩
    simp-implicitDefEqProofs[aa]
    refine⟨⟨13,-1,[(k2:Int)],0⟩,_,⟨rfl,rfl,rfl,rfl⟩,[R.length+4+1],p+1+1+1,rfl,bX ?_ (by omega) rfl,by simp,by omega,by omega⟩
    rw[List.getElem?_cons_succ,List.getElem?_append_right (by omega),Nat.add_sub_cancel_left];rfl
   ·have hul:=(List.getElem?_eq_some_iff.1 hg).1
    have hgm:∀t,(R++t)[u]?=some (.row 3 rows):=λt=>by rw[hRR t u hul];exact hg
    simp-implicitDefEqProofs[hgm,hc0]
    refine(aI G b hb hl (p+1+1) (by omega) _ _).mono ?_
    rintro r h ⟨k2,rfl,rfl,hk2⟩
    have hk2l:k2<cs.length:=by
     have:=List.length_pos_iff.2 hc0
     omega
    have hgc:=List.getElem?_eq_getElem hk2l
    generalize cs[k2]=c at hgc
    obtain⟨V,hr,hc3⟩:=hrow k2 c hgc
    simp-implicitDefEqProofs[aa,hgm,hr,hk2l]
    refine⟨⟨k1,k2,c.params,p+1+1+1,_⟩,⟨⟨?_,?_,?_,?_,?_⟩,hc3,by simp only;omega,by simp only;omega⟩,ab ?_ ?_⟩
    rotate_left 5
    ·simp
    ·simp[below]
     try omega
    ·simp
    ·exact λi hi=>List.getElem?_append_left hi
    ·rw[List.getElem?_append_right (by omega),Nat.add_sub_cancel_left];rfl
    ·rw[List.getElem?_append_right (by omega),Nat.add_sub_cancel_left];rfl
    ·exact Own.nil _ _ 1
  ·have h14:¬op=14:=by simpa using h14
   refine⟨⟨k1,0,l7N op,p+1+1,_⟩,⟨⟨?_,?_,?_,?_,?_⟩,h7 h14,by simp only;omega,by simp only;omega⟩,ab ?_ ?_⟩
   rotate_left 5
   ·simp
   ·simp[below]
    try omega
   ·simp
   ·exact λi hi=>List.getElem?_append_left hi
   ·rw[List.getElem?_append_right (by omega),Nat.add_sub_cancel_left];rfl
   ·rw[List.getElem?_append_right (by omega),Nat.add_sub_cancel_left];rfl
   ·exact Own.nil _ _ 1
 rintro⟨to,n,many,q,W⟩ ⟨hS,hm,hq1,hq2⟩
 simp only at hS hm hq1 hq2⊢
 have hWl:=hS.len
 refine gm (λs:SmC=>aC 69 [(9,.p (.int .i64 many)),(8,.ptr (R.length+3+1) 4 0 0),(7,.p (.int .i64 op)),(6,.ptr (R.length+1+1) 4 0 0),(2,.p (.int .i64 regs)),(0,.ptr 0 2 0 0)]) (λs=>rdO b s.q::s.W) (λs=>SmI R op s.to s.n s.W .nils [] []/\p<=s.q/\s.q<=p+5) ?_ ?_
 ·simp-implicitDefEqProofs[]
  refine aG (λh1=>?_) (λh1=>?_)
  ·have hx:∀t,(W++t)[R.length+3]?=some (.row 4 [[.p (.int .i64 op),.p (.int .i64 to),.nils,.p (.int .i64 n)]]):=λt=>by rw[List.getElem?_append_left (by omega)];exact hS.x
   simp-implicitDefEqProofs[]
   refine(iZ G hb hl (by omega) [0,1,2,3,15,16,255] (by simp) (by simp) (by omega) rfl (by rw[List.getElem?_cons_succ,List.getElem?_append_right (Nat.le_refl _),Nat.sub_self];rfl)).mono ?_
   rintro r h ⟨m,_,rfl,rfl⟩
   simp-implicitDefEqProofs[aa,hx]
   refine⟨⟨to,m,0,q+1,_⟩,⟨⟨?_,?_,?_,?_,?_⟩,by simp only;omega,by simp only;omega⟩,ab ?_ ?_⟩
   rotate_left 5
   ·simp;omega
   ·simp[below]
    omega
   ·simp;omega
   ·intro i hi
    rw[List.getElem?_set_ne (by omega),List.getElem?_append_left (by omega)];exact hS.pre i hi
   ·rw[List.getElem?_set_ne (by omega),List.getElem?_append_left (by omega)];exact hS.res
   ·exact List.getElem?_set_self (by simp;omega)
   ·exact Own.nil _ _ 1
  ·refine⟨⟨to,n,0,q,W⟩,⟨hS,hq1,by simp only;omega⟩,ab ?_ ?_⟩
   ·simp;omega
   ·simp[below]
    omega
 clear hWl hS hq2
 rintro⟨to,n,_,q,W⟩ ⟨hS,hq1,hq2⟩
 simp only at hS hq1 hq2⊢
 have hWl:=hS.len
 refine gm (λs:SmC=>aC 69 [(9,.p (.int .i64 many)),(8,.ptr (R.length+3+1) 4 0 0),(7,.p (.int .i64 op)),(6,.ptr (R.length+1+1) 4 0 0),(2,.p (.int .i64 regs)),(0,.ptr 0 2 0 0)]) (λs=>rdO b s.q::s.W) (λs=>SmI R op s.to s.n s.W .nils [] []/\p<=s.q/\s.q<=p+5) ?_ ?_
 ·simp-implicitDefEqProofs[]
  refine(iW G op).use ?_
  simp-implicitDefEqProofs[]
  refine aG (λh1=>?_) (λh1=>?_)
  ·simp-implicitDefEqProofs[hS.x]
   refine⟨⟨-1,n,0,q,_⟩,⟨⟨?_,?_,?_,?_,?_⟩,by simp only;omega,by simp only;omega⟩,ab ?_ ?_⟩
   rotate_left 5
   ·simp;omega
   ·simp[below]
    omega
   ·simp;omega
   ·intro i hi
    rw[List.getElem?_set_ne (by omega)];exact hS.pre i hi
   ·rw[List.getElem?_set_ne (by omega)];exact hS.res
   ·exact List.getElem?_set_self (by omega)
   ·exact Own.nil _ _ 1
  ·refine⟨⟨to,n,0,q,W⟩,⟨hS,hq1,by simp only;omega⟩,ab ?_ ?_⟩
   ·simp;omega
   ·simp[below]
    omega
 clear hWl hS hq2
 rintro⟨to,n,_,q,W⟩ ⟨hS,hq1,hq2⟩
 simp only at hS hq1 hq2⊢
 simp-implicitDefEqProofs[]
 refine aH (λs:SmT=>aC 69 [(10,.p (.int .i64 s.i)),(9,.p (.int .i64 many)),(8,.ptr (R.length+3+1) 4 0 0),(6,.ptr (R.length+1+1) 4 0 0),(2,.p (.int .i64 regs)),(0,.ptr 0 2 0 0)]) (λs=>rdO b s.q::s.W) (λs=>s.i<=3/\p<=s.q/\s.q<=p+5+s.i/\∃A args I,SmI R op to n s.W A args I/\args.length=s.i) (λs=>3-s.i) ⟨0,q,W⟩ ⟨by simp,hq1,by simpa using hq2,_,_,_,hS,rfl⟩ (ab (by have:=hS.len;simp;omega) (by have:=hS.len;simp[below];omega)) ?_
 clear hS hq1 hq2 W q
 rintro⟨i,q,W⟩ ⟨hi,hq1,hq2,A,args,I,hS,hal⟩
 simp only at hi hq1 hq2 hS hal⊢
 have hWl:=hS.len
 obtain⟨v1,v2⟩:=hS.own.cell
 simp-implicitDefEqProofs[]
 refine aG (λhc=>?_) (λhc=>?_)
 ·simp at hc
  have hw1:=w1 (i:=i) (by omega)
  simp-implicitDefEqProofs[-AV.cells,-AV.isCell,aE,ag,ah,an,al,aD,af,am,aj,v1,v2,hS.x]
  refine(aI G b hb hl q (by omega) _ _).mono ?_
  rintro r h ⟨k,rfl,rfl,_⟩
  have hm3:i<3:=by omega
  rcases hS.own.row with⟨rfl,h2,rfl⟩|⟨id,rows,J,hA,_⟩
  ·have h0:args=[]:=List.map_eq_nil_iff.1 h2
   subst h0
   have h0:i=0:=hal.symm
   subst h0
   have hx:∀t,(W++t)[R.length+3]?=some (.row 4 [[.p (.int .i64 op),.p (.int .i64 to),.nils,.p (.int .i64 n)]]):=λt=>by rw[List.getElem?_append_left (by omega)];exact hS.x
   simp-implicitDefEqProofs[aa,hx,hS.x]
   have hw11:IntKind.i64.wrap 1=1:=ae (by omega) (by omega)
   refine⟨⟨1,q+1,_⟩,⟨by simp,by simp only;omega,by simp only;omega,_,_,⟨_,hS.first k⟩,rfl⟩,by simp,ab ?_ ?_⟩
   ·simp;omega
   ·simp[below,hw11]
    omega
  ·rw[List.length_map] at hA
   subst hA
   obtain⟨_,_,hid5,hg⟩:=nj hS.own
   obtain⟨f,rfl⟩:∃f,id=f+1:=⟨id-1,by omega⟩
   rw[List.getElem?_cons_succ] at hg
   have hfl:=(List.getElem?_eq_some_iff.1 hg).1
   have hx:∀t,(W.set f .dead++t)[R.length+3]?=some (.row 4 [[.p (.int .i64 op),.p (.int .i64 to),.sl (f+1) 1 0 args.length,.p (.int .i64 n)]]):=λt=>by rw[List.getElem?_append_left (by simp;omega),List.getElem?_set_ne (by omega)];exact hS.x
   have htk:List.take args.length (args.map λn=>[AV.p (.int .i64 n)])=args.map λn=>[AV.p (.int .i64 n)]:=List.take_of_length_le (by simp)
   have hmr:=hS.more (by omega) hg k
   simp-implicitDefEqProofs[aa,hS.x,hg,hx,htk]
   refine⟨by omega,⟨i+1,q+1,_⟩,⟨by simp only;omega,by simp only;omega,by simp only;omega,_,_,⟨_,hmr⟩,by simp[hal]⟩,by simp only;omega,ab ?_ ?_⟩
   ·simp;omega
   ·simp[below,hw1]
    omega
 ·have hs1:∀o,(W.set (R.length+1) o)[R.length+1]?=some o:=λo=>List.getElem?_set_self (by omega)
  simp-implicitDefEqProofs[-AV.cells,-AV.isCell,aE,ag,ah,an,al,aD,af,am,aj,v1,v2,hS.x,hS.res,hs1]
  refine⟨⟨op,to,args,n⟩,A,⟨rfl,rfl,rfl,rfl⟩,I,q,⟨rfl,AU (by simp;omega) λj hj=>?_⟩,?_,by simp only;omega,hq1,by omega⟩
  ·rw[List.getElem?_set_ne (by omega)];exact hS.pre j hj
  ·refine((HE (o':=rdO b q) hS.own).frame λj hj=>?_).low λj hj=>by have:=hS.own.ge j hj;omega
   have:=hS.own.ge j hj
   obtain⟨f,rfl⟩:∃f,j=f+1:=⟨j-1,by omega⟩
   rw[List.getElem?_cons_succ,List.getElem?_cons_succ,List.getElem?_set_ne (by omega)]
end
section
def Psh(H:List AO)(V:AV)(sz:Nat)(r:List AV)(H':List AO)(V':AV):Prop:=
 (V= .nils/\H'=H++[.row sz [r]]/\V'= .sl H.length sz 0 1)\/∃id rows m,V= .sl id sz 0 m/\H[id]?=some (.row sz rows)/\rows.length=m/\H'=H.set id .dead++[.row sz (rows++[r])]/\V'= .sl H.length sz 0 (m+1)
section
variable {n:Nat} {H H':List AO} {V V':AV} {sz:Nat} {D:List (List PV)} {r:List AV} {e:List PV} {IV IR:List Nat}
theorem Own.psh(hV:Own n H [V] [.lst sz D] IV)(hr:Own n H r e IR)(hd:∀j∈IV,j∉IR)(he:e.length=sz)(hn:n<=H.length)(hp:Psh H V sz r H' V'):
 ∃IV',Own n H' [V'] [.lst sz (D++[e])] IV'/\(∀j∈IV',j∈IV\/j∈IR\/j=H.length)/\(∀i,i<H.length->i∉IV->H'[i]?=H[i]?)/\H'.length=H.length+1:=by
 rcases hp with⟨rfl,rfl,rfl⟩|⟨id,rows,m,rfl,hg,hm,rfl,rfl⟩
 ·rcases hV.row with⟨_,rfl,rfl⟩|⟨_,_,_,e1,_⟩
  ·exact⟨_,hr.first he hn,λj hj=>by rcases List.mem_cons.1 hj with h|h;exact .inr (.inr h);exact .inr (.inl h),λi hi _=>List.getElem?_append_left hi,by simp⟩
  ·cases e1
 ·rcases hV.row with⟨e1,_⟩|⟨id2,rows2,J,e1,e2,hro,_⟩
  ·cases e1
  ·cases e1
   subst e2
   rw[hro.here] at hg
   cases hg
   have hpu:=hV.push hro (h2:=H) (os:=[]) (by simp) hr he λj hj=>⟨λe=>hd _ (by simp) (e▸hj),λhm=>hd j (by simp[hm]) hj⟩
   refine⟨_,hpu,λj hj=>?_,λi hi hn=>?_,by simp⟩
   ·simp only[List.mem_cons,List.mem_append] at hj⊢
    rcases hj with h|h|h
    ·exact .inr (.inr h)
    ·exact .inl (.inr h)
    ·exact .inr (.inl h)
   ·rw[List.getElem?_append_left (by simpa using hi),List.getElem?_set_ne λe=>hn (by simp[e])]
end
structure XI (W0 W:List AO) (xw:Nat) (pm rg:Int) (V N X:AV) (j o:Int) (bs:List Bk) (ins:List Ii) (nx:List Int) (I:List Nat):Prop where
 len:W0.length+2<=W.length
 pre:∀i,i<W0.length->W[i]?=W0[i]?
 c:W[W0.length+1]?=some (.row 3 [[.p (.int .i64 pm),.p (.int .i64 rg),V]])
 xge:W0.length+2<=xw
 x:W[xw]?=some (.row 5 [[.nils,N,.p (.int .i64 j),.p (.int .i64 o),X]])
 own:Own (W0.length+3) (.dead::W) [V,N,X] [bkL bs,inL ins,ay nx] I
 xn:xw+1∉I
structure CI (W0 W:List AO) (pm rg:Int) (V:AV) (bs:List Bk) (I:List Nat):Prop where
 len:W0.length+2<=W.length
 pre:∀i,i<W0.length->W[i]?=W0[i]?
 c:W[W0.length+1]?=some (.row 3 [[.p (.int .i64 pm),.p (.int .i64 rg),V]])
 own:Own (W0.length+3) (.dead::W) [V] [bkL bs] I
section
variable {W0 W W2:List AO} {xw:Nat} {pm rg:Int} {V N X:AV} {j o:Int} {bs:List Bk} {ins:List Ii} {nx:List Int} {I:List Nat}
theorem Own.hd1{n:Nat}{o o':AO}{W W':List AO}{vs:List AV}{qs:List PV}{I:List Nat}(H:Own (n+1) (o::W) vs qs I)(e:∀i,i+1∈I->W'[i]?=W[i]?):Own (n+1) (o'::W') vs qs I:=H.frame λi hi=>by
 have:=H.ge i hi
 obtain⟨k,rfl⟩:∃k,i=k+1:=⟨i-1,by omega⟩
 exact e k hi
theorem XI.lt(H:XI W0 W xw pm rg V N X j o bs ins nx I):xw<W.length:=(List.getElem?_eq_some_iff.1 H.x).1
theorem XI.fr(H:XI W0 W xw pm rg V N X j o bs ins nx I)(f:∀i,i<W.length->W2[i]?=W[i]?)(hl:W.length<=W2.length):XI W0 W2 xw pm rg V N X j o bs ins nx I:=
 ⟨by have:=H.len;omega,λi hi=>by have:=H.len;rw[f i (by omega)];exact H.pre i hi,by rw[f _ (by have:=H.len;omega)];exact H.c,H.xge,by rw[f _ H.lt];exact H.x,H.own.hd1 λi hi=>f i (by have:=H.own.lt _ hi;simpa using this),H.xn⟩
theorem XI.more(H:XI W0 W xw pm rg V N X j o bs ins nx I)(os:List AO):XI W0 (W++os) xw pm rg V N X j o bs ins nx I:=H.fr (λi hi=>List.getElem?_append_left hi) (by simp)
theorem CI.block(H:CI W0 W pm rg V bs I):XI W0 (W++[.row 5 [[.nils,.nils,.p (.int .i64 0),.p (.int .i64 0),.nils]]]) W.length pm rg V .nils .nils 0 0 bs [] [] I:=by
 have hl:=H.len
 refine⟨by simp;omega,λi hi=>by rw[List.getElem?_append_left (by omega)];exact H.pre i hi,by rw[List.getElem?_append_left (by omega)];exact H.c,hl,by rw[List.getElem?_append_right (Nat.le_refl _)];simp,?_,λhm=>?_⟩
 ·have h1:Own (W0.length+3) (.dead::(W++[.row 5 [[.nils,.nils,.p (.int .i64 0),.p (.int .i64 0),.nils]]])) [V] [bkL bs] I:=H.own.hd1 λi hi=>List.getElem?_append_left (by have:=H.own.lt _ hi;simpa using this)
  have h2:=h1.app ((Own.nil (W0.length+3) _ 4).app (Own.nil (W0.length+3) _ 1) λ_ h=>by cases h) λ_ _ h=>by cases h
  rw[List.append_nil,List.append_nil] at h2
  exact h2
 ·have:=H.own.lt _ hm
  simp at this
theorem XI.jump(H:XI W0 W xw pm rg V N X j o bs ins nx I)(j' o':Int):XI W0 (W.set xw (.row 5 [[.nils,N,.p (.int .i64 j'),.p (.int .i64 o'),X]])) xw pm rg V N X j' o' bs ins nx I:=by
 have hl:=H.len
 have hx:=H.xge
 refine⟨by simpa using hl,λi hi=>by rw[List.getElem?_set_ne (by omega)];exact H.pre i hi,by rw[List.getElem?_set_ne (by omega)];exact H.c,hx,List.getElem?_set_self H.lt,H.own.hd1 λi hi=>List.getElem?_set_ne λe=>H.xn (by rw[e];exact hi),H.xn⟩
theorem XI.ins1(H:XI W0 W xw pm rg V N X j o bs ins nx I){os:List AO}{A:AV}{IA:List Nat}{y:Ii}{h0:AO}(hA:Own (W.length+1) (h0::(W++os)) [A] [ay y.args] IA){lit:AO}{W3:List AO}{N':AV}
 (hp:Psh (.dead::(W++os++[lit])) N 4 [.p (.int .i64 y.op),.p (.int .i64 y.to),A,.p (.int .i64 y.n)] (.dead::W3) N'):
 ∃I',XI W0 (W3.set xw (.row 5 [[.nils,N',.p (.int .i64 j),.p (.int .i64 o),X]])) xw pm rg V N' X j o bs (ins++[y]) nx I':=by
 have hl:=H.len
 have hx:=H.xge
 have hxl:=H.lt
 have hlt:∀i∈I,i<W.length+1:=λi hi=>by have:=H.own.lt i hi;simpa using this
 have H2:=(H.more (os++[lit])).own
 rw[←List.append_assoc] at H2
 have hA1:Own (W0.length+3) (.dead::(W++os++[lit])) [A] [ay y.args] IA:=(hA.hd1 λi hi=>List.getElem?_append_left (by have:=hA.lt _ hi;simp at this⊢;omega)).low λi hi=>by have:=hA.ge i hi;omega
 obtain⟨_,_,IV,I',e1,rfl,hV,H2⟩:=H2.one
 cases e1
 obtain⟨_,_,IN,I'',e1,rfl,hN,H2⟩:=H2.one
 cases e1
 have hnd:=H.own.nd
 have hxn:=H.xn
 simp only[List.nodup_append,List.mem_append,not_or] at hnd hxn
 have hAd:∀i∈IA,W.length+1<=i:=hA.ge
 obtain⟨IN',n1,n2,n3,n4⟩:=hN.psh (ut hA1) (λi hi hm=>by have:=hlt i (by simp[hi]);have:=hAd i hm;omega) rfl (by simp;omega) hp
 have hlen:(AO.dead::(W++os++[lit])).length=W.length+os.length+1+1:=by simp;omega
 rw[hlen] at n2 n3 n4
 have n4':W3.length=W.length+os.length+1+1:=by simpa using n4
 have hse:∀i,i<W.length->i+1∉IN->W3[i]?=W[i]?:=λi hi hn=>by
  have:=n3 (i+1) (by omega) hn
  rw[List.getElem?_cons_succ,List.getElem?_cons_succ,List.append_assoc,List.getElem?_append_left hi] at this
  exact this
 have hnotN:∀i,i+1<W0.length+3->i+1∉IN:=λi hi hm=>by have:=hN.ge _ hm;omega
 have hxN:xw+1∉IN:=hxn.2.1
 have hset:∀i,i≠xw->(W3.set xw (.row 5 [[.nils,N',.p (.int .i64 j),.p (.int .i64 o),X]]))[i]?=W3[i]?:=λi hi=>List.getElem?_set_ne (Ne.symm hi)
 refine⟨IV++(IN'++I''),by simp;omega,λi hi=>?_,?_,hx,List.getElem?_set_self (by omega),?_,?_⟩
 ·rw[hset i (by omega),hse i (by omega) (hnotN i (by omega))];exact H.pre i hi
 ·rw[hset _ (by omega),hse _ (by omega) (hnotN _ (by omega))];exact H.c
 ·have hV':Own (W0.length+3) (.dead::W3.set xw (.row 5 [[.nils,N',.p (.int .i64 j),.p (.int .i64 o),X]])) [V] [bkL bs] IV:=hV.hd1 λi hi=>by
   rw[hset i λe=>hxn.1 (e▸hi)]
   have h1:=hlt (i+1) (by simp[hi])
   rw[hse i (by omega) λhm=>hnd.2.2 _ hi _ (.inl hm) rfl,List.append_assoc,List.getElem?_append_left (by omega)]
  have hX':Own (W0.length+3) (.dead::W3.set xw (.row 5 [[.nils,N',.p (.int .i64 j),.p (.int .i64 o),X]])) [X] [ay nx] I'':=H2.hd1 λi hi=>by
   rw[hset i λe=>hxn.2.2 (e▸hi)]
   have h1:=hlt (i+1) (by simp[hi])
   rw[hse i (by omega) λhm=>hnd.2.1.2.2 _ hm _ hi rfl,List.append_assoc,List.getElem?_append_left (by omega)]
  have hN':Own (W0.length+3) (.dead::W3.set xw (.row 5 [[.nils,N',.p (.int .i64 j),.p (.int .i64 o),X]])) [N'] [inL (ins++[y])] IN':=by
   have:inL (ins++[y])= .lst 4 (ins.map Ii.cs++[y.cs]):=by rw[inL,List.map_append];rfl
   rw[this]
   refine n1.hd1 λi hi=>hset i λe=>?_
   subst e
   rcases n2 _ hi with h|h|h
   ·exact hxN h
   ·have:=hAd _ h;omega
   ·omega
  refine hV'.app (hN'.app hX' λi hi hm=>?_) λi hi hm=>?_
  ·have:=hlt i (by simp[hm])
   rcases n2 i hi with h|h|h
   ·exact hnd.2.1.2.2 _ h _ hm rfl
   ·have:=hAd _ h;omega
   ·omega
  ·have h1:=hlt i (by simp[hi])
   rcases List.mem_append.1 hm with hm|hm
   ·rcases n2 i hm with h|h|h
    ·exact hnd.2.2 _ hi _ (.inl h) rfl
    ·have:=hAd _ h;omega
    ·omega
   ·exact hnd.2.2 _ hi _ (.inr hm) rfl
 ·simp only[List.mem_append,not_or]
  refine⟨hxn.1,λhm=>?_,hxn.2.2⟩
  rcases n2 _ hm with h|h|h
  ·exact hxN h
  ·have:=hAd _ h;omega
  ·omega
theorem XI.next(H:XI W0 W xw pm rg V N .nils j o bs ins [] I)(l:List Int)(j' o':Int):XI W0 ((W++[AO.row 1 (l.map λn=>[AV.p (.int .i64 n)])]).set xw (.row 5 [[.nils,N,.p (.int .i64 j'),.p (.int .i64 o'),.sl (W.length+1) 1 0 l.length]])) xw pm rg V N (.sl (W.length+1) 1 0 l.length) j' o' bs ins l (I++[W.length+1]):=by
 have hl:=H.len
 have hx:=H.xge
 have hxl:=H.lt
 have hlt:∀i∈I,i<W.length+1:=λi hi=>by have:=H.own.lt i hi;simpa using this
 have hset:∀i t,i≠xw->i<W.length->((W++[AO.row 1 (l.map λn=>[AV.p (.int .i64 n)])]).set xw t)[i]?=W[i]?:=λi t hi hl=>by
  rw[List.getElem?_set_ne (Ne.symm hi),List.getElem?_append_left hl]
 refine⟨by simp;omega,λi hi=>?_,?_,hx,List.getElem?_set_self (by simp;omega),?_,?_⟩
 ·rw[hset _ _ (by omega) (by omega)];exact H.pre i hi
 ·rw[hset _ _ (by omega) (by omega)];exact H.c
 ·obtain⟨_,_,IV,I',e1,rfl,hV,H2⟩:=H.own.one
  cases e1
  obtain⟨_,_,IN,I'',e1,rfl,hN,H2⟩:=H2.one
  cases e1
  have hn:=H.own.nd
  have hxn:=H.xn
  simp only[List.nodup_append,List.mem_append,not_or] at hn hxn
  have h0:I''=[]:=by
   have:=H2.own
   cases this with
   |nils _ h=>cases h;rfl
  subst h0
  have hV':=hV.hd1 (o':= .dead) (W':=(W++[AO.row 1 (l.map λn=>[AV.p (.int .i64 n)])]).set xw (.row 5 [[.nils,N,.p (.int .i64 j'),.p (.int .i64 o'),.sl (W.length+1) 1 0 l.length]])) λi hi=>hset i _ (λe=>hxn.1 (e▸hi)) (by have:=hlt (i+1) (by simp[hi]);omega)
  have hN':=hN.hd1 (o':= .dead) (W':=(W++[AO.row 1 (l.map λn=>[AV.p (.int .i64 n)])]).set xw (.row 5 [[.nils,N,.p (.int .i64 j'),.p (.int .i64 o'),.sl (W.length+1) 1 0 l.length]])) λi hi=>hset i _ (λe=>hxn.2.1 (e▸hi)) (by have:=hlt (i+1) (by simp[hi]);omega)
  have hX':Own (W0.length+3) (.dead::((W++[AO.row 1 (l.map λn=>[AV.p (.int .i64 n)])]).set xw (.row 5 [[.nils,N,.p (.int .i64 j'),.p (.int .i64 o'),.sl (W.length+1) 1 0 l.length]]))) [.sl (W.length+1) 1 0 l.length] [ay l] [W.length+1]:=bX (by
   rw[List.getElem?_cons_succ,List.getElem?_set_ne (by omega),List.getElem?_append_right (by simp)];simp) (by omega) rfl
  have:=hV'.app (hN'.app hX' λi hi hm=>by have:=hlt i (by simp[hi]);rw[List.mem_singleton.1 hm] at this;omega) λi hi hm=>by
   rcases List.mem_append.1 hm with hm|hm
   ·exact hn.2.2 _ hi _ (.inl hm) rfl
   ·have:=hlt i (by simp[hi]);rw[List.mem_singleton.1 hm] at this;omega
  simpa using this
 ·intro hm
  rcases List.mem_append.1 hm with hm|hm
  ·exact H.xn hm
  ·have:=List.mem_singleton.1 hm;omega
theorem XI.done(H:XI W0 W xw pm rg V N X j o bs ins nx I){lit:AO}{W3:List AO}{V':AV}(hp:Psh (.dead::(W++[lit])) V 5 [.nils,N,.p (.int .i64 j),.p (.int .i64 o),X] (.dead::W3) V'):
 ∃I',CI W0 (W3.set (W0.length+1) (.row 3 [[.p (.int .i64 pm),.p (.int .i64 rg),V']])) pm rg V' (bs++[⟨[],ins,j,o,nx⟩]) I':=by
 have hl:=H.len
 have hx:=H.xge
 have hxl:=H.lt
 have H2:=(H.more [lit]).own
 obtain⟨_,_,IV,I',e1,rfl,hV,H2⟩:=H2.one
 cases e1
 obtain⟨_,_,IN,I'',e1,rfl,hN,H2⟩:=H2.one
 cases e1
 have hnd:=H.own.nd
 simp only[List.nodup_append,List.mem_append,not_or] at hnd
 have hb:=pA (b:=⟨[],ins,j,o,nx⟩) (Own.nil (W0.length+3) (.dead::(W++[lit])) 2) hN H2 (λ_ h=>by cases h) λi hi hm=>hnd.2.1.2.2 _ hi _ hm rfl
 obtain⟨IV',n1,n2,n3,n4⟩:=hV.psh hb (λi hi hm=>by
  rw[List.nil_append] at hm
  exact hnd.2.2 _ hi _ (List.mem_append.1 hm) rfl) rfl (by simp;omega) hp
 have hlen:(AO.dead::(W++[lit])).length=W.length+1+1:=by simp
 rw[hlen] at n2 n3 n4
 have n4':W3.length=W.length+1+1:=by simpa using n4
 have hse:∀i,i<W0.length+2->W3[i]?=W[i]?:=λi hi=>by
  have:=n3 (i+1) (by omega) λhm=>by have:=hV.ge _ hm;omega
  rw[List.getElem?_cons_succ,List.getElem?_cons_succ,List.getElem?_append_left (by omega)] at this
  exact this
 refine⟨IV',by simp;omega,λi hi=>?_,List.getElem?_set_self (by omega),?_⟩
 ·rw[List.getElem?_set_ne (by omega),hse i (by omega)];exact H.pre i hi
 ·have:bkL (bs++[⟨[],ins,j,o,nx⟩])= .lst 5 (bs.map Bk.cs++[(⟨[],ins,j,o,nx⟩:Bk).cs]):=by rw[bkL,List.map_append];rfl
  rw[this]
  exact n1.hd1 λi hi=>List.getElem?_set_ne λe=>by have:=n1.ge _ hi;omega
end
end
section
theorem te:AK.whole iw=FK.ak ib:=rfl
def SmB(m:Nat)(b:Bk):Prop:=b.phis.length<=m/\b.ins.length<=4/\b.next.length<=2/\(∀x∈b.ins,x.args.length<=3)/\∀x∈b.phis,x.args.length<=7
def SmCd(m:Nat)(c:Cd):Prop:=c.params<=3/\1<=c.blocks.length/\c.blocks.length<=7/\∀b∈c.blocks,SmB m b
theorem CdsAt.mono{R W:List AO}{U:AV}{cs:List Cd}(H:CdsAt R U cs)(e:∀i,i<R.length->W[i]?=R[i]?):CdsAt W U cs:=by
 rcases H with h|⟨u,rows,h1,h2,h3,h4⟩
 ·exact .inl h
 ·exact .inr ⟨u,rows,h1,h2,by rw[e u (List.getElem?_eq_some_iff.1 h3).1];exact h3,h4⟩
variable (G:aB)
structure CdS where (i q:Nat) (W:List AO)
structure JmS where (j o:Int) (q:Nat) (W:List AO)
structure InS where (i:Int) (q:Nat) (W:List AO)
theorem El{b:List Int}(hb:Byt b)(hl:b.length<=2000){p:Nat}(hp:p<=900000000000)(R:List AO)(U:AV)(cs:List Cd)(hU:CdsAt R U cs):AC Tryz.prog G ii [.ptr 0 2 0 0,.agg [U]] (rdO b p::R) λx h=>∃(c:Cd) (V:AV) (I:List Nat) (q:Nat) (os:List AO),x= .ret (.agg [.p (.int .i64 c.params),.p (.int .i64 c.regs),V])/\h=rdO b q::(R++os)/\Own (R.length+1) h [V] [bkL c.blocks] I/\SmCd 0 c/\p<=q/\q<=p+1000:=by
 obtain⟨u1,u2⟩:=hU.cell
 refine AC.goK sT te ?_
 simp-implicitDefEqProofs[-AV.cells,-AV.isCell,aE,ag,ah,an,al,aD,af,am,aj,u1,u2,iw,ib]
 refine(rz G hb hl (by omega) [1,0,2,3] 2 (by omega) rfl (by simp) (by simp)).mono ?_
 rintro r h ⟨pm,hpm,rfl,rfl⟩
 have hpm3:0<=pm/\pm<=3:=by simp at hpm;omega
 clear hpm
 have hw1:IntKind.i64.wrap (pm+2)=pm+2:=ae (by omega) (by omega)
 simp-implicitDefEqProofs[-AV.cells,-AV.isCell,aE,ag,ah,an,al,aD,af,am,aj,u1,u2,aa,hw1]
 refine(aI G b hb hl (p+1) (by omega) 5 _).mono ?_
 rintro r h ⟨k1,rfl,rfl,hk1⟩
 have hw2:IntKind.i64.wrap (pm+2+(k1:Int))=pm+2+(k1:Int):=ae (by omega) (by omega)
 simp-implicitDefEqProofs[-AV.cells,-AV.isCell,aE,ag,ah,an,al,aD,af,am,aj,u1,u2,aa,hw2]
 generalize pm+2+(k1:Int)=rg
 refine(rz G hb hl (by omega) [3,5,2,1,7,4] 4 (by omega) rfl (by simp) (by simp)).mono ?_
 rintro r h ⟨nI,hnI,rfl,rfl⟩
 obtain⟨n,rfl,hn1,hn7⟩:∃n:Nat,nI=n/\1<=n/\n<=7:=⟨nI.toNat,by simp at hnI;omega,by simp at hnI;omega,by simp at hnI;omega⟩
 simp-implicitDefEqProofs[-AV.cells,-AV.isCell,aE,ag,ah,an,al,aD,af,am,aj,u1,u2,aa]
 obtain⟨W0,hW0⟩:∃W0,W0=R++[AO.row 1 [[U]],AO.row 3 [[AV.p (.int .i64 0),AV.p (.int .i64 0),AV.nils]]]:=⟨_,rfl⟩
 have hW0l:W0.length=R.length+2:=by rw[hW0];simp
 refine aH (λa:CdS=>aC 100 [(7,.p (.int .i64 a.i)),(6,.p (.int .i64 n)),(5,.ptr (R.length+3+1) 3 0 0),(4,.ptr (R.length+1+1) 3 0 0),(3,.ptr (R.length+1) 1 0 0),(0,.ptr 0 2 0 0)]) (λa=>rdO b a.q::a.W)
  (λa=>a.i<=n/\p<=a.q/\a.q<=p+3+100*a.i/\∃V bs I,CI W0 a.W pm rg V bs I/\bs.length=a.i/\∀x∈bs,SmB 0 x) (λa=>n-a.i) ⟨0,p+1+1+1,_⟩ ⟨Nat.zero_le _,by simp only;omega,by simp only;omega,.nils,[],[],⟨?_,?_,?_,?_⟩,rfl,by simp⟩ (ab ?_ ?_) ?_
 rotate_left 4
 ·simp
 ·simp[below]
 rotate_left 1
 ·rw[hW0l];simp
 ·intro i hi
  rw[hW0] at hi⊢
  have:R++[AO.row 1 [[U]],AO.row 3 [[AV.p (.int .i64 0),AV.p (.int .i64 0),AV.nils]],AO.row 1 [[AV.p (.int .i64 1)],[AV.p (.int .i64 0)],[AV.p (.int .i64 2)],[AV.p (.int .i64 3)]],AO.row 3 [[AV.p (.int .i64 pm),AV.p (.int .i64 rg),AV.nils]],AO.row 1 [[AV.p (.int .i64 3)],[AV.p (.int .i64 5)],[AV.p (.int .i64 2)],[AV.p (.int .i64 1)],[AV.p (.int .i64 7)],[AV.p (.int .i64 4)]]]=(R++[AO.row 1 [[U]],AO.row 3 [[AV.p (.int .i64 0),AV.p (.int .i64 0),AV.nils]]])++[AO.row 1 [[AV.p (.int .i64 1)],[AV.p (.int .i64 0)],[AV.p (.int .i64 2)],[AV.p (.int .i64 3)]],AO.row 3 [[AV.p (.int .i64 pm),AV.p (.int .i64 rg),AV.nils]],AO.row 1 [[AV.p (.int .i64 3)],[AV.p (.int .i64 5)],[AV.p (.int .i64 2)],[AV.p (.int .i64 1)],[AV.p (.int .i64 7)],[AV.p (.int .i64 4)]]]:=by simp
  simp only
  rw[this,List.getElem?_append_left hi]
 ·rw[hW0l,List.getElem?_append_right (by omega),show R.length+2+1-R.length=3 by omega];rfl
 ·exact Own.nil _ _ 5
 rintro⟨i,q,W⟩ ⟨hi,hq1,hq2,V,bs,I,hC,hbl,hbs⟩
 simp only at hi hq1 hq2 hC hbl⊢
 have hCl:=hC.len
 have hpreR:∀i,i<R.length->W[i]?=R[i]?:=λi hi=>by rw[hC.pre i (by omega),hW0,List.getElem?_append_left hi]
 simp-implicitDefEqProofs[]
 refine aG (λhc=>?_) (λhc=>?_)
 ·simp at hc
  have hwi:=w1 (i:=i) (by omega)
  simp-implicitDefEqProofs[]
  have hB:=hC.block
  obtain⟨xw,hxw⟩:∃xw,xw=W.length:=⟨_,rfl⟩
  have hub:∀t,(W++t)[R.length]?=some (.row 1 [[U]]):=λt=>by rw[List.getElem?_append_left (by omega),hC.pre _ (by omega),hW0,List.getElem?_append_right (Nat.le_refl _)];simp
  refine gm (λa:InS=>aC 100 [(8,.ptr (xw+1) 5 0 0),(7,.p (.int .i64 i)),(6,.p (.int .i64 n)),(5,.ptr (R.length+3+1) 3 0 0),(4,.ptr (R.length+1+1) 3 0 0),(3,.ptr (R.length+1) 1 0 0),(0,.ptr 0 2 0 0)]) (λa=>rdO b a.q::a.W)
   (λa=>p<=a.q/\a.q<=p+3+100*i+50/\∃N ins I,XI W0 a.W xw pm rg V N .nils 0 0 bs ins [] I/\ins.length<=4/\∀y∈ins,y.args.length<=3) ?_ ?_
  ·simp-implicitDefEqProofs[]
   refine(rz G hb hl (by omega) [1,2,0,3,4] 1 (by omega) rfl (by simp) (by simp)).mono ?_
   rintro r h ⟨i0,hi0,rfl,rfl⟩
   have hi0:0<=i0/\i0<=4:=by simp at hi0;omega
   simp-implicitDefEqProofs[aa]
   have hB2:=hB.more [AO.row 1 [[AV.p (.int .i64 1)],[AV.p (.int .i64 2)],[AV.p (.int .i64 0)],[AV.p (.int .i64 3)],[AV.p (.int .i64 4)]]]
   rw[←hxw,List.append_assoc] at hB2
   have hfr:∀(t:List AO) (j:Nat),j<W.length->(W++t)[j]?=W[j]?:=λt j hj=>List.getElem?_append_left hj
   refine aH (λa:InS=>aC 100 [(9,.p (.int .i64 a.i)),(8,.ptr (xw+1) 5 0 0),(7,.p (.int .i64 i)),(6,.p (.int .i64 n)),(5,.ptr (R.length+3+1) 3 0 0),(4,.ptr (R.length+1+1) 3 0 0),(3,.ptr (R.length+1) 1 0 0),(0,.ptr 0 2 0 0)]) (λa=>rdO b a.q::a.W)
    (λa=>p<=a.q/\0<=a.i/\a.q+10*a.i.toNat<=p+3+100*i+50/\∃N ins I,XI W0 a.W xw pm rg V N .nils 0 0 bs ins [] I/\ins.length+a.i.toNat<=4/\∀y∈ins,y.args.length<=3) (λa=>a.i.toNat) ⟨i0,q+1,_⟩ ⟨by simp only;omega,hi0.1,by simp only;omega,.nils,[],I,hB2,by show 0+i0.toNat<=4;omega,λy hy=>(by cases hy)⟩ (ab (by simp only[List.length_cons,List.length_append];omega) ?_) ?_
   ·simp[below,hxw];omega
   rintro⟨i1,q,W⟩ ⟨hq1,hi1,hq2,N,ins,I,hX,hil,hia⟩
   simp only at hq1 hi1 hq2 hX hil⊢
   have hXl:=hX.len
   have hXx:=hX.lt
   have hcc:∀t,(W++t)[R.length+3]?=some (.row 3 [[.p (.int .i64 pm),.p (.int .i64 rg),V]]):=λt=>by rw[List.getElem?_append_left (by omega)];have:=hX.c;rw[hW0l] at this;exact this
   have hcc0:=hcc []
   have hxx:∀t,(W++t)[xw]?=some (.row 5 [[.nils,N,.p (.int .i64 0),.p (.int .i64 0),.nils]]):=λt=>by rw[List.getElem?_append_left hXx];exact hX.x
   have hub:W[R.length]?=some (.row 1 [[U]]):=by rw[hX.pre _ (by omega),hW0,List.getElem?_append_right (Nat.le_refl _)];simp
   have hcd:CdsAt W U cs:=hU.mono λj hj=>by rw[hX.pre j (by omega),hW0,List.getElem?_append_left hj]
   rw[List.append_nil] at hcc0
   simp-implicitDefEqProofs[]
   refine aG (λhc2=>?_) (λhc2=>?_)
   ·have hc2:0<i1:=by simpa using hc2
    have hw1:IntKind.i64.wrap (i1-1)=i1-1:=ae (by omega) (by omega)
    obtain⟨m1,m2⟩:N.cells=[N]/\N.isCell=true:=by
     obtain⟨_,_,_,_,e1,_,_,H2⟩:=hX.own.one
     cases e1
     obtain⟨_,_,_,_,e1,_,hN,_⟩:=H2.one
     cases e1
     exact hN.cell
    simp-implicitDefEqProofs[-AV.cells,-AV.isCell,aE,ag,ah,an,al,aD,af,am,aj,u1,u2,m1,m2,hX.x,hcc0,hub]
    refine(DU G hb hl (by omega) W U cs hcd rg).mono ?_
    rintro r h ⟨y,A,IA,q2,os,rfl,rfl,hA,hy3,g1,g2⟩
    obtain⟨a1,a2⟩:=hA.cell
    obtain⟨W2,hW2⟩:∃W2,W2=W++os:=⟨_,rfl⟩
    have hx2:∀t,(W2++t)[xw]?=some (.row 5 [[.nils,N,.p (.int .i64 0),.p (.int .i64 0),.nils]]):=λt=>by rw[hW2,List.append_assoc];exact hxx _
    have hx20:=hx2 []
    rw[List.append_nil] at hx20
    have hWl2:W.length<=W2.length:=by rw[hW2];simp
    have hIN:N= .nils/\ins=[]\/∃f rows,N= .sl (f+1) 4 0 ins.length/\f<W.length/\W[f]?=some (.row 4 rows)/\rows.length=ins.length/\f≠xw:=by
     have hxn:=hX.xn
     obtain⟨_,_,_,_,e1,rfl,_,H2⟩:=hX.own.one
     cases e1
     obtain⟨_,_,_,_,e1,rfl,hN,_⟩:=H2.one
     cases e1
     rcases hN.row with⟨h1,h2,_⟩|⟨id,rows,J,h1,h2,hr,_⟩
     ·exact .inl ⟨h1,List.map_eq_nil_iff.1 h2⟩
     ·subst h2
      have hge:=hN.ge id (by simp)
      obtain⟨f,rfl⟩:∃f,id=f+1:=⟨id-1,by omega⟩
      have hh:=hr.here
      rw[List.getElem?_cons_succ] at hh
      refine .inr ⟨f,rows,by rw[List.length_map] at h1;exact h1,(List.getElem?_eq_some_iff.1 hh).1,hh,by have:=hr.len;simpa using this,λe=>hxn (by rw[e];simp)⟩
    rw[←hW2]
    rcases hIN with⟨rfl,rfl⟩|⟨f,rows,rfl,hfl,hg,hrl,hfx⟩
    ·simp-implicitDefEqProofs[-AV.cells,-AV.isCell,aE,ag,ah,an,al,aD,af,am,aj,u1,u2,a1,a2,aa,hx2,hx20]
     have hp:Psh (.dead::(W++os++[.row 4 [[.p (.int .i64 y.op),.p (.int .i64 y.to),A,.p (.int .i64 y.n)]]])) .nils 4 [.p (.int .i64 y.op),.p (.int .i64 y.to),A,.p (.int .i64 y.n)] (.dead::(W2++[.row 4 [[.p (.int .i64 y.op),.p (.int .i64 y.to),A,.p (.int .i64 y.n)]],.row 4 [[.p (.int .i64 y.op),.p (.int .i64 y.to),A,.p (.int .i64 y.n)]]])) (.sl (W2.length+1+1) 4 0 1):= .inl ⟨rfl,by rw[hW2];simp,by rw[hW2];simp<;>omega⟩
     obtain⟨I',hI'⟩:=hX.ins1 hA hp
     refine⟨⟨i1-1,q2,_⟩,⟨by simp only;omega,by simp only;omega,by simp only;omega,_,_,⟨_,hI'⟩,by simp at hil⊢;omega,by simpa using hy3⟩,by simp only;omega,ab ?_ ?_⟩
     ·simp only[List.length_cons,List.length_set,List.length_append];omega
     ·simp[below,hw1]
      omega
    ·have hg2:∀t,(W2++t)[f]?=some (.row 4 rows):=λt=>by rw[hW2,List.append_assoc,List.getElem?_append_left hfl];exact hg
     have htk:List.take ins.length rows=rows:=List.take_of_length_le (by omega)
     have hx3:∀t t',((W2++t).set f .dead++t')[xw]?=some (.row 5 [[.nils,.sl (f+1) 4 0 ins.length,.p (.int .i64 0),.p (.int .i64 0),.nils]]):=λt t'=>by
      rw[List.getElem?_append_left (by simp;omega),List.getElem?_set_ne hfx];exact hx2 t
     simp-implicitDefEqProofs[-AV.cells,-AV.isCell,aE,ag,ah,an,al,aD,af,am,aj,u1,u2,a1,a2,aa,hx2,hx20,hg2,htk,hx3]
     have hp:Psh (.dead::(W++os++[.row 4 [[.p (.int .i64 y.op),.p (.int .i64 y.to),A,.p (.int .i64 y.n)]]])) (.sl (f+1) 4 0 ins.length) 4 [.p (.int .i64 y.op),.p (.int .i64 y.to),A,.p (.int .i64 y.n)] (.dead::((W2++[AO.row 4 [[.p (.int .i64 y.op),.p (.int .i64 y.to),A,.p (.int .i64 y.n)]]]).set f .dead++[.row 4 (rows++[[.p (.int .i64 y.op),.p (.int .i64 y.to),A,.p (.int .i64 y.n)]])])) (.sl (W2.length+1+1) 4 0 (ins.length+1)):= .inr ⟨f+1,rows,ins.length,rfl,by rw[List.getElem?_cons_succ,←hW2];exact hg2 _,hrl,by rw[hW2];simp,by rw[hW2];simp<;>omega⟩
     obtain⟨I',hI'⟩:=hX.ins1 hA hp
     refine⟨⟨by omega,by omega,by omega⟩,⟨i1-1,q2,_⟩,⟨by simp only;omega,by simp only;omega,by simp only;omega,_,_,⟨_,hI'⟩,by simp;omega,λz hz=>?_⟩,by simp only;omega,ab ?_ ?_⟩
     ·rcases List.mem_append.1 hz with h|h
      ·exact hia z h
      ·rw[List.mem_singleton.1 h];exact hy3
     ·simp only[List.length_cons,List.length_set,List.length_append];omega
     ·simp[below,hw1]
      omega
   ·refine⟨⟨0,q,W⟩,⟨hq1,by simp only;omega,N,ins,⟨I,hX⟩,by omega,hia⟩,ab ?_ ?_⟩
    ·simp;omega
    ·simp[below];omega
  ·rintro⟨_,q,W'⟩ ⟨hq1,hq2,N,ins,I,hX,hil,hia⟩
   simp only at hq1 hq2 hX⊢
   clear hB hub hpreR hCl hC
   have hXl:=hX.len
   have hXx:=hX.lt
   have hxg:=hX.xge
   have hcc:∀t,(W'++t)[R.length+3]?=some (.row 3 [[.p (.int .i64 pm),.p (.int .i64 rg),V]]):=λt=>by rw[List.getElem?_append_left (by omega)];have:=hX.c;rw[hW0l] at this;exact this
   have hcc0:=hcc []
   rw[List.append_nil] at hcc0
   obtain⟨n1,n2⟩:N.cells=[N]/\N.isCell=true:=by
    obtain⟨_,_,_,_,e1,_,_,H2⟩:=hX.own.one
    cases e1
    obtain⟨_,_,_,_,e1,_,hN,_⟩:=H2.one
    cases e1
    exact hN.cell
   simp-implicitDefEqProofs[hcc0]
   refine(aI G b hb hl q (by omega) rg W').mono ?_
   rintro r h ⟨o1,rfl,rfl,_⟩
   simp-implicitDefEqProofs[aa,hX.x]
   have hX1:=hX.jump 0 o1
   generalize hW3:W'.set xw (AO.row 5 [[AV.nils,N,.p (.int .i64 0),.p (.int .i64 o1),AV.nils]])=W3 at hX1
   have hl3:W3.length=W'.length:=by rw[←hW3];simp
   refine(iZ G hb hl (by omega) [2,1,2,1,3] (by simp) (by simp) (by omega) rfl (by rw[List.getElem?_cons_succ,List.getElem?_append_right (by omega),hl3,Nat.sub_self];rfl)).mono ?_
   rintro r h ⟨j1,hj1,rfl,rfl⟩
   have hx3:∀t,(W3++t)[xw]?=some (.row 5 [[.nils,N,.p (.int .i64 0),.p (.int .i64 o1),.nils]]):=λt=>by rw[List.getElem?_append_left (by omega)];exact hX1.x
   simp-implicitDefEqProofs[aa,hx3]
   have hX2:=(hX1.more [AO.row 1 [[AV.p (.int .i64 2)],[AV.p (.int .i64 1)],[AV.p (.int .i64 2)],[AV.p (.int .i64 1)],[AV.p (.int .i64 3)]]]).jump j1 o1
   generalize hW4:(W3++[AO.row 1 [[AV.p (.int .i64 2)],[AV.p (.int .i64 1)],[AV.p (.int .i64 2)],[AV.p (.int .i64 1)],[AV.p (.int .i64 3)]]]).set xw (AO.row 5 [[AV.nils,N,.p (.int .i64 j1),.p (.int .i64 o1),AV.nils]])=W4 at hX2
   have hl4:W'.length<=W4.length:=by rw[←hW4];simp;omega
   clear hX1 hW3 hl3 hx3 hW4 hj1 hX hXl hXx hcc hcc0
   have hq3:p<=q+1+1:=by omega
   have hq4:q+1+1<=p+3+100*i+52:=by omega
   generalize q+1+1=q5 at hq3 hq4
   clear hq1 hq2 hl4
   have hXl:=hX2.len
   have hXx:=hX2.lt
   refine gm (λa:JmS=>aC 100 [(8,.ptr (xw+1) 5 0 0),(7,.p (.int .i64 i)),(6,.p (.int .i64 n)),(5,.ptr (R.length+3+1) 3 0 0),(4,.ptr (R.length+1+1) 3 0 0),(3,.ptr (R.length+1) 1 0 0),(0,.ptr 0 2 0 0)]) (λa=>rdO b a.q::a.W)
    (λa=>p<=a.q/\a.q<=p+3+100*i+53/\∃I,XI W0 a.W xw pm rg V N .nils a.j a.o bs ins [] I) ?_ ?_
   ·have keep:∀(qq:Nat) (l:List (Nat × AV)),p<=qq->qq<=p+3+100*i+53->True:=λ_ _ _ _=>trivial
    by_cases hn:(n:Int)=1
    ·simp-implicitDefEqProofs[hn,hX2.x]
     refine⟨⟨3,o1,q5,_⟩,⟨hq3,by simp only;omega,_,hX2.jump 3 o1⟩,ab ?_ ?_⟩
     ·simp;omega
     ·simp[below,hn]
      omega
    ·have hw:IntKind.i64.wrap ((n:Int)-1)=(n:Int)-1:=ae (by omega) (by omega)
     by_cases hin:(i:Int)=(n:Int)-1
     ·simp-implicitDefEqProofs[hn,hw,hin]
      refine(aI G b hb hl q5 (by omega) 3 _).mono ?_
      rintro r h ⟨k2,rfl,rfl,_⟩
      simp-implicitDefEqProofs[aa]
      refine aG (λhk=>?_) (λhk=>?_)
      ·simp-implicitDefEqProofs[hX2.x]
       refine⟨⟨3,o1,q5+1,_⟩,⟨by simp only;omega,by simp only;omega,_,hX2.jump 3 o1⟩,ab ?_ ?_⟩
       ·simp;omega
       ·simp[below,←hin];omega
      ·refine⟨⟨j1,o1,q5+1,_⟩,⟨by simp only;omega,by simp only;omega,_,hX2⟩,ab ?_ ?_⟩
       ·simp;omega
       ·simp[below,←hin];omega
     ·simp-implicitDefEqProofs[hn,hw,hin]
      refine⟨⟨j1,o1,q5,_⟩,⟨hq3,by simp only;omega,_,hX2⟩,ab ?_ ?_⟩
      ·simp;omega
      ·simp[below];omega
   clear hXl hXx hX2 hq3 hq4
   rintro⟨j2,o2,q,W'⟩ ⟨hq1,hq2,I,hX⟩
   simp only at hq1 hq2 hX⊢
   have hXl:=hX.len
   have hXx:=hX.lt
   refine gm (λa:JmS=>aC 100 [(8,.ptr (xw+1) 5 0 0),(7,.p (.int .i64 i)),(6,.p (.int .i64 n)),(5,.ptr (R.length+3+1) 3 0 0),(4,.ptr (R.length+1+1) 3 0 0),(3,.ptr (R.length+1) 1 0 0),(0,.ptr 0 2 0 0)]) (λa=>rdO b a.q::a.W)
    (λa=>p<=a.q/\a.q<=p+3+100*i+60/\∃X nx I,XI W0 a.W xw pm rg V N X a.j a.o bs ins nx I/\nx.length<=2) ?_ ?_
   ·simp-implicitDefEqProofs[hX.x]
    refine aG (λh1=>?_) (λh1=>?_)
    ·have h1:j2=1:=by simpa using h1
     subst h1
     simp-implicitDefEqProofs[hX.x]
     have hX1:=hX.jump 1 0
     generalize W'.set xw (AO.row 5 [[AV.nils,N,.p (.int .i64 1),.p (.int .i64 0),AV.nils]])=W5 at hX1
     refine(zt G hb hl (by omega) W5 i n (by omega) (by omega)).mono ?_
     rintro r h ⟨k,q2,rfl,rfl,g1,g2⟩
     have hx5:∀t,(W5++t)[xw]?=some (.row 5 [[.nils,N,.p (.int .i64 1),.p (.int .i64 0),.nils]]):=λt=>by rw[List.getElem?_append_left hX1.lt];exact hX1.x
     simp-implicitDefEqProofs[aa,hx5]
     have hX2:=hX1.next [k] 1 0
     refine⟨⟨1,0,q2,_⟩,⟨by simp only;omega,by simp only;omega,_,_,⟨_,hX2⟩,by simp⟩,ab ?_ ?_⟩
     ·have:=hX1.len;simp;omega
     ·have:=hX1.len;have:=hX1.lt;simp[below];omega
    ·have h1:¬j2=1:=by simpa using h1
     simp-implicitDefEqProofs[]
     refine aG (λh2=>?_) (λh2=>?_)
     ·have h2:j2=2:=by simpa using h2
      subst h2
      simp-implicitDefEqProofs[]
      refine(zt G hb hl (by omega) W' i n (by omega) (by omega)).mono ?_
      rintro r h ⟨k,q2,rfl,rfl,g1,g2⟩
      simp-implicitDefEqProofs[aa]
      refine(zt G hb hl (by omega) W' i n (by omega) (by omega)).mono ?_
      rintro r h ⟨k2,q3,rfl,rfl,g3,g4⟩
      have hx5:∀t,(W'++t)[xw]?=some (.row 5 [[.nils,N,.p (.int .i64 2),.p (.int .i64 o2),.nils]]):=λt=>by rw[List.getElem?_append_left hX.lt];exact hX.x
      simp-implicitDefEqProofs[aa,hx5]
      have hX2:=hX.next [k,k2] 2 o2
      refine⟨⟨2,o2,q3,_⟩,⟨by simp only;omega,by simp only;omega,_,_,⟨_,hX2⟩,by simp⟩,ab ?_ ?_⟩
      ·simp;omega
      ·simp[below];omega
     ·refine⟨⟨j2,o2,q,W'⟩,⟨hq1,by simp only;omega,_,_,⟨_,hX⟩,by simp⟩,ab ?_ ?_⟩
      ·simp;omega
      ·simp[below];omega
   clear hXl hXx hX hq1 hq2
   rintro⟨j3,o3,q,W'⟩ ⟨hq1,hq2,X,nx,I,hX,hnx⟩
   simp only at hq1 hq2 hX⊢
   have hXl:=hX.len
   have hXx:=hX.lt
   have hxg:=hX.xge
   have hcc:∀t,(W'++t)[R.length+3]?=some (.row 3 [[.p (.int .i64 pm),.p (.int .i64 rg),V]]):=λt=>by rw[List.getElem?_append_left (by omega)];have:=hX.c;rw[hW0l] at this;exact this
   have hcc0:=hcc []
   rw[List.append_nil] at hcc0
   obtain⟨⟨v1,v2⟩,⟨n1,n2⟩,⟨x1,x2⟩,hVr⟩:(V.cells=[V]/\V.isCell=true)/\(N.cells=[N]/\N.isCell=true)/\(X.cells=[X]/\X.isCell=true)/\((V= .nils/\bs=[])\/∃f rows,V= .sl (f+1) 5 0 bs.length/\f<W'.length/\W'[f]?=some (.row 5 rows)/\rows.length=bs.length/\f≠R.length+3):=by
    obtain⟨_,_,_,_,e1,_,hV,H2⟩:=hX.own.one
    cases e1
    obtain⟨_,_,_,_,e1,_,hN,H3⟩:=H2.one
    cases e1
    refine⟨hV.cell,hN.cell,H3.cell,?_⟩
    rcases hV.row with⟨h1,h2,_⟩|⟨id,rows,J,h1,h2,hr,_⟩
    ·exact .inl ⟨h1,List.map_eq_nil_iff.1 h2⟩
    ·subst h2
     have hge:=hV.ge id (by simp)
     obtain⟨f,rfl⟩:∃f,id=f+1:=⟨id-1,by omega⟩
     have hh:=hr.here
     rw[List.getElem?_cons_succ] at hh
     exact .inr ⟨f,rows,by rw[List.length_map] at h1;exact h1,(List.getElem?_eq_some_iff.1 hh).1,hh,by have:=hr.len;simpa using this,by omega⟩
   have hsb:SmB 0 ⟨[],ins,j3,o3,nx⟩:=⟨by simp,hil,hnx,hia,by simp⟩
   rcases hVr with⟨rfl,rfl⟩|⟨f,rows,rfl,hfl,hg,hrl,hfx⟩
   ·simp-implicitDefEqProofs[-AV.cells,-AV.isCell,aE,ag,ah,an,al,aD,af,am,aj,n1,n2,x1,x2,hcc0,hcc,hX.x]
    have hp:Psh (.dead::(W'++[.row 5 [[.nils,N,.p (.int .i64 j3),.p (.int .i64 o3),X]]])) .nils 5 [.nils,N,.p (.int .i64 j3),.p (.int .i64 o3),X] (.dead::(W'++[.row 5 [[.nils,N,.p (.int .i64 j3),.p (.int .i64 o3),X]],.row 5 [[.nils,N,.p (.int .i64 j3),.p (.int .i64 o3),X]]])) (.sl (W'.length+1+1) 5 0 1):= .inl ⟨rfl,by simp,by simp⟩
    obtain⟨I',hI'⟩:=hX.done hp
    rw[hW0l] at hI'
    refine⟨⟨i+1,q,_⟩,⟨by simp only;omega,by simp only;omega,by simp only;omega,_,_,⟨_,hI'⟩,by simp at hbl⊢;omega,λz hz=>?_⟩,by simp only;omega,ab ?_ ?_⟩
    ·simp at hz;subst hz;exact hsb
    ·simp;omega
    ·simp[below,hwi];omega
   ·have htk:List.take bs.length rows=rows:=List.take_of_length_le (by omega)
    have hg2:∀t,(W'++t)[f]?=some (.row 5 rows):=λt=>by rw[List.getElem?_append_left hfl];exact hg
    have hx3:∀t t',((W'++t).set f .dead++t')[R.length+3]?=some (.row 3 [[.p (.int .i64 pm),.p (.int .i64 rg),.sl (f+1) 5 0 bs.length]]):=λt t'=>by
     rw[List.getElem?_append_left (by simp;omega),List.getElem?_set_ne hfx];exact hcc t
    simp-implicitDefEqProofs[-AV.cells,-AV.isCell,aE,ag,ah,an,al,aD,af,am,aj,n1,n2,x1,x2,hcc0,hcc,hX.x,htk,hg2,hx3]
    have hp:Psh (.dead::(W'++[.row 5 [[.nils,N,.p (.int .i64 j3),.p (.int .i64 o3),X]]])) (.sl (f+1) 5 0 bs.length) 5 [.nils,N,.p (.int .i64 j3),.p (.int .i64 o3),X] (.dead::((W'++[AO.row 5 [[.nils,N,.p (.int .i64 j3),.p (.int .i64 o3),X]]]).set f .dead++[.row 5 (rows++[[.nils,N,.p (.int .i64 j3),.p (.int .i64 o3),X]])])) (.sl (W'.length+1+1) 5 0 (bs.length+1)):= .inr ⟨f+1,rows,bs.length,rfl,by rw[List.getElem?_cons_succ];exact hg2 _,hrl,by simp,by simp⟩
    obtain⟨I',hI'⟩:=hX.done hp
    rw[hW0l] at hI'
    refine⟨⟨by omega,by omega,by omega⟩,⟨i+1,q,_⟩,⟨by simp only;omega,by simp only;omega,by simp only;omega,_,_,⟨_,hI'⟩,by simp;omega,λz hz=>?_⟩,by simp only;omega,ab ?_ ?_⟩
    ·rcases List.mem_append.1 hz with h|h
     ·exact hbs z h
     ·rw[List.mem_singleton.1 h];exact hsb
    ·simp;omega
    ·simp[below,hwi];omega
 ·have hcc0:W[R.length+3]?=some (.row 3 [[.p (.int .i64 pm),.p (.int .i64 rg),V]]):=by have:=hC.c;rw[hW0l] at this;exact this
  have hr1:W[R.length+1]?=some (.row 3 [[.p (.int .i64 0),.p (.int .i64 0),.nils]]):=by rw[hC.pre _ (by omega),hW0,List.getElem?_append_right (by omega),show R.length+1-R.length=1 by omega];rfl
  have hs1:∀o,(W.set (R.length+1) o)[R.length+1]?=some o:=λo=>List.getElem?_set_self (by omega)
  obtain⟨v1,v2⟩:=hC.own.cell
  simp-implicitDefEqProofs[-AV.cells,-AV.isCell,aE,ag,ah,an,al,aD,af,am,aj,u1,u2,v1,v2,hcc0,hr1,hs1]
  have hie:i=n:=by simp at hc;omega
  refine⟨⟨pm,rg,bs⟩,V,⟨rfl,rfl,rfl⟩,I,q,⟨rfl,AU (by simp;omega) λj hj=>?_⟩,?_,⟨hpm3.2,by simp only;omega,by simp only;omega,hbs⟩,hq1,by omega⟩
  ·rw[List.getElem?_set_ne (by omega)];exact hpreR j hj
  ·refine(hC.own.hd1 (o':=rdO b q) λj hj=>List.getElem?_set_ne λe=>?_).low λj hj=>?_
   ·have:=hC.own.ge _ hj;omega
   ·have:=hC.own.ge _ hj;omega
end
section
theorem ep{α:Type}{l:List α}{i:Nat}{x:α}(h:l[i]?=some x)(hh:i<l.length):l[i]'hh=x:=(List.getElem?_eq_some_iff.1 h).2
section
variable {n:Nat} {H:List AO} {V:AV} {cs:List Cd} {I:List Nat}
theorem Own.cds(HV:Own n H [V] [cdL cs] I){k:Nat}{c:Cd}(hk:cs[k]?=some c):∃id rows B Ji,V= .sl id 3 0 cs.length/\H[id]?=some (.row 3 rows)/\rows.length=cs.length/\rows[k]?=some [.p (.int .i64 c.params),.p (.int .i64 c.regs),B]/\Own n H [B] [bkL c.blocks] Ji/\id∈I/\(∀j∈Ji,j∈I/\j≠id)/\
 ∀(h2:List AO) (r':List AV) (c':Cd) (I2:List Nat),h2[id]?=some (.row 3 (rows.set k r'))->(∀j∈I,j≠id->j∉Ji->h2[j]?=H[j]?)->Own n h2 r' c'.cs I2->(∀j∈I2,j∈Ji\/j∉I)->∃I',Own n h2 [V] [cdL (cs.set k c')] I'/\∀j∈I',j∈I\/j∈I2:=by
 rcases HV.row with⟨_,h2,_⟩|⟨id,rows,J,h1,h2,hr,_⟩
 ·rw[List.map_eq_nil_iff.1 h2] at hk;simp at hk
 ·rw[List.length_map] at h1
  subst h2
  have HV2:=HV
  rw[h1] at HV2
  have hD:(cs.map Cd.cs)[k]?=some c.cs:=by rw[List.getElem?_map,hk];rfl
  have hl:(cs.map Cd.cs).length=cs.length:=by simp
  obtain⟨r,Ji,g1,g2,g3,g4⟩:=Own.upd (D:=cs.map Cd.cs) (by rw[hl];exact HV2) hr hD
  obtain⟨B,rfl,hB⟩:=Av g2
  have hnid:id∉J:=(List.nodup_cons.1 HV.nd).1
  refine⟨id,rows,B,Ji,h1,hr.here,by have:=hr.len;rwa[hl] at this,g1,hB,by simp,λj hj=>⟨List.mem_cons_of_mem _ (g3 j hj).1,(g3 j hj).2⟩,λh2 r' c' I2 k1 k2 k3 k4=>?_⟩
  obtain⟨J',q1,q2⟩:=g4 h2 r' c'.cs I2 k1 (λj hj hn=>k2 j (List.mem_cons_of_mem _ hj) (λe=>hnid (e▸hj)) hn) k3 (λj hj=>by
   rcases k4 j hj with h|h
   ·exact .inl h
   ·rw[List.mem_cons,not_or] at h;exact .inr h) rfl
  rw[hl,←List.map_set,←h1] at q1
  refine⟨id::J',q1,λj hj=>?_⟩
  rcases List.mem_cons.1 hj with rfl|hj
  ·exact .inl (by simp)
  ·rcases q2 j hj with h|h
   ·exact .inl (List.mem_cons_of_mem _ h)
   ·exact .inr h
theorem Own.bks{B:AV}{bs:List Bk}(HV:Own n H [B] [bkL bs] I){k:Nat}{b:Bk}(hk:bs[k]?=some b):∃id rows r Ji,B= .sl id 5 0 bs.length/\H[id]?=some (.row 5 rows)/\rows.length=bs.length/\rows[k]?=some r/\Own n H r b.cs Ji/\id∈I/\(∀j∈Ji,j∈I/\j≠id)/\
 ∀(h2:List AO) (r':List AV) (b':Bk) (I2:List Nat),h2[id]?=some (.row 5 (rows.set k r'))->(∀j∈I,j≠id->j∉Ji->h2[j]?=H[j]?)->Own n h2 r' b'.cs I2->(∀j∈I2,j∈Ji\/j∉I)->∃I',Own n h2 [B] [bkL (bs.set k b')] I'/\∀j∈I',j∈I\/j∈I2:=by
 rcases HV.row with⟨_,h2,_⟩|⟨id,rows,J,h1,h2,hr,_⟩
 ·rw[List.map_eq_nil_iff.1 h2] at hk;simp at hk
 ·rw[List.length_map] at h1
  subst h2
  have HV2:=HV
  rw[h1] at HV2
  have hD:(bs.map Bk.cs)[k]?=some b.cs:=by rw[List.getElem?_map,hk];rfl
  have hl:(bs.map Bk.cs).length=bs.length:=by simp
  obtain⟨r,Ji,g1,g2,g3,g4⟩:=Own.upd (D:=bs.map Bk.cs) (by rw[hl];exact HV2) hr hD
  have hnid:id∉J:=(List.nodup_cons.1 HV.nd).1
  refine⟨id,rows,r,Ji,h1,hr.here,by have:=hr.len;rwa[hl] at this,g1,g2,by simp,λj hj=>⟨List.mem_cons_of_mem _ (g3 j hj).1,(g3 j hj).2⟩,λh2 r' b' I2 k1 k2 k3 k4=>?_⟩
  obtain⟨J',q1,q2⟩:=g4 h2 r' b'.cs I2 k1 (λj hj hn=>k2 j (List.mem_cons_of_mem _ hj) (λe=>hnid (e▸hj)) hn) k3 (λj hj=>by
   rcases k4 j hj with h|h
   ·exact .inl h
   ·rw[List.mem_cons,not_or] at h;exact .inr h) rfl
  rw[hl,←List.map_set,←h1] at q1
  refine⟨id::J',q1,λj hj=>?_⟩
  rcases List.mem_cons.1 hj with rfl|hj
  ·exact .inl (by simp)
  ·rcases q2 j hj with h|h
   ·exact .inl (List.mem_cons_of_mem _ h)
   ·exact .inr h
theorem Own.blk(HV:Own n H [V] [cdL cs] I){k b:Nat}{c:Cd}{x:Bk}(hk:cs[k]?=some c)(hb:c.blocks[b]?=some x):∃id rows gid rows2 r Jb,V= .sl id 3 0 cs.length/\H[id]?=some (.row 3 rows)/\rows.length=cs.length/\rows[k]?=some [.p (.int .i64 c.params),.p (.int .i64 c.regs),.sl gid 5 0 c.blocks.length]/\
 H[gid]?=some (.row 5 rows2)/\rows2.length=c.blocks.length/\rows2[b]?=some r/\Own n H r x.cs Jb/\id∈I/\gid∈I/\gid≠id/\(∀j∈Jb,j∈I/\j≠id/\j≠gid)/\
 ∀(h2:List AO) (r':List AV) (x':Bk) (I2:List Nat),h2[gid]?=some (.row 5 (rows2.set b r'))->(∀j∈I,j≠gid->j∉Jb->h2[j]?=H[j]?)->Own n h2 r' x'.cs I2->(∀j∈I2,j∈Jb\/j∉I)->∃I',Own n h2 [V] [cdL (cs.set k ⟨c.params,c.regs,c.blocks.set b x'⟩)] I'/\∀j∈I',j∈I\/j∈I2:=by
 obtain⟨id,rows,B,Ji,a1,a2,a3,a4,a5,a6,a7,a8⟩:=HV.cds hk
 obtain⟨gid,rows2,r,Jb,b1,b2,b3,b4,b5,b6,b7,b8⟩:=a5.bks hb
 subst b1
 refine⟨id,rows,gid,rows2,r,Jb,a1,a2,a3,a4,b2,b3,b4,b5,a6,(a7 gid b6).1,(a7 gid b6).2,λj hj=>⟨(a7 j (b7 j hj).1).1,(a7 j (b7 j hj).1).2,(b7 j hj).2⟩,λh2 r' x' I2 k1 k2 k3 k4=>?_⟩
 obtain⟨I',c1,c2⟩:=b8 h2 r' x' I2 k1 (λj hj hn hm=>k2 j (a7 j hj).1 hn hm) k3 (λj hj=>(k4 j hj).imp (λh=>h) λh hm=>h (a7 j hm).1)
 have hidg:id≠gid:=λe=>(a7 gid b6).2 e.symm
 have hidb:id∉Jb:=λhm=>(a7 id (b7 id hm).1).2 rfl
 have hset:rows.set k [.p (.int .i64 c.params),.p (.int .i64 c.regs),.sl gid 5 0 c.blocks.length]=rows:=by
  obtain⟨hl,e⟩:=List.getElem?_eq_some_iff.1 a4
  rw[←e];exact List.set_getElem_self hl
 obtain⟨I'',d1,d2⟩:=a8 h2 [.p (.int .i64 c.params),.p (.int .i64 c.regs),.sl gid 5 0 c.blocks.length] ⟨c.params,c.regs,c.blocks.set b x'⟩ I' (by rw[hset,k2 id a6 hidg hidb];exact a2) (λj hj hn hm=>k2 j hj (λe=>hm (e▸b6)) λh=>hm (b7 j h).1) (pu (c:=⟨c.params,c.regs,c.blocks.set b x'⟩) c1) (λj hj=>by
  rcases c2 j hj with h|h
  ·exact .inl h
  ·exact(k4 j h).imp (λh=>(b7 j h).1) (λh=>h))
 refine⟨I'',d1,λj hj=>?_⟩
 rcases d2 j hj with h|h
 ·exact .inl h
 ·rcases c2 j h with h|h
  ·exact .inl (a7 j h).1
  ·exact .inr h
theorem Own.cdsAt{o:AO}{W:List AO}(HV:Own (n+1) (o::W) [V] [cdL cs] I)(hs:∀c∈cs,c.params<=3)(hn:cs=[]->V= .nils):CdsAt W V cs:=by
 by_cases h0:cs=[]
 ·exact .inl ⟨hn h0,h0⟩
 ·obtain⟨c0,hc0⟩:∃c,cs[0]?=some c:=⟨_,List.getElem?_eq_getElem (List.length_pos_iff.2 h0)⟩
  obtain⟨id,rows,B,Ji,a1,a2,a3,a4,a5,a6,a7,a8⟩:=HV.cds hc0
  have:=HV.ge id a6
  obtain⟨f,rfl⟩:∃f,id=f+1:=⟨id-1,by omega⟩
  rw[List.getElem?_cons_succ] at a2
  refine .inr ⟨f,rows,h0,a1,a2,λk c hk=>?_⟩
  obtain⟨id2,rows2,B2,_,c1,c2,_,c4,_⟩:=HV.cds hk
  rw[a1] at c1
  cases c1
  rw[List.getElem?_cons_succ,a2] at c2
  cases c2
  exact⟨B2,c4,hs c (List.mem_of_getElem? hk)⟩
end
structure UI (m:Nat) (W:List AO) (V:AV) (cs:List Cd) (I:List Nat):Prop where
 len:2<=W.length
 res:W[0]?=some (.row 1 [[.nils]])
 u:W[1]?=some (.row 1 [[V]])
 own:Own 3 (.dead::W) [V] [cdL cs] I
 sm:∀c∈cs,SmCd m c
 nil:cs=[]->V= .nils
section
variable {m:Nat} {W W2:List AO} {V V':AV} {cs:List Cd} {I:List Nat}
theorem UI.fr(H:UI m W V cs I)(f:∀i,i<W.length->W2[i]?=W[i]?)(hl:W.length<=W2.length):UI m W2 V cs I:=
 ⟨by have:=H.len;omega,by rw[f 0 (by have:=H.len;omega)];exact H.res,by rw[f 1 (by have:=H.len;omega)];exact H.u,H.own.hd1 λi hi=>f i (by have:=H.own.lt _ hi;simpa using this),H.sm,H.nil⟩
theorem UI.more(H:UI m W V cs I)(os:List AO):UI m (W++os) V cs I:=H.fr (λi hi=>List.getElem?_append_left hi) (by simp)
theorem UI.push(H:UI m W V cs I){os:List AO}{c:Cd}{B:AV}{IB:List Nat}{h0:AO}(hB:Own (W.length+1) (h0::(W++os)) [B] [bkL c.blocks] IB)(hc:SmCd m c){lit:AO}{W3:List AO}
 (hp:Psh (.dead::(W++os++[lit])) V 3 [.p (.int .i64 c.params),.p (.int .i64 c.regs),B] (.dead::W3) V'):∃I',UI m (W3.set 1 (.row 1 [[V']])) V' (cs++[c]) I':=by
 have hl:=H.len
 have hlt:∀i∈I,i<W.length+1:=λi hi=>by have:=H.own.lt i hi;simpa using this
 have H2:=(H.more (os++[lit])).own
 rw[←List.append_assoc] at H2
 have hB1:Own 3 (.dead::(W++os++[lit])) [B] [bkL c.blocks] IB:=(hB.hd1 λi hi=>List.getElem?_append_left (by have:=hB.lt _ hi;simp at this⊢;omega)).low λi hi=>by have:=hB.ge i hi;omega
 obtain⟨I',n1,n2,n3,n4⟩:=H2.psh (pu hB1) (λi hi hm=>by have:=hlt i hi;have:=hB.ge i hm;omega) rfl (by simp;omega) hp
 have hlen:(AO.dead::(W++os++[lit])).length=W.length+os.length+1+1:=by simp;omega
 rw[hlen] at n2 n3 n4
 have n4':W3.length=W.length+os.length+1+1:=by simpa using n4
 have hse:∀i,i<2->W3[i]?=W[i]?:=λi hi=>by
  have:=n3 (i+1) (by omega) λhm=>by have:=H.own.ge _ hm;omega
  rw[List.getElem?_cons_succ,List.getElem?_cons_succ,List.append_assoc,List.getElem?_append_left (by omega)] at this
  exact this
 refine⟨I',by simp;omega,by rw[List.getElem?_set_ne (by omega),hse 0 (by omega)];exact H.res,List.getElem?_set_self (by omega),?_,λx hx=>?_,λh=>by simp at h⟩
 ·have:cdL (cs++[c])= .lst 3 (cs.map Cd.cs++[c.cs]):=by rw[cdL,List.map_append];rfl
  rw[this]
  exact n1.hd1 λi hi=>List.getElem?_set_ne λe=>by have:=n1.ge _ hi;omega
 ·rcases List.mem_append.1 hx with h|h
  ·exact H.sm x h
  ·rw[List.mem_singleton.1 h];exact hc
theorem UI.at(H:UI m W V cs I):(V= .nils/\cs=[])\/∃f rows,V= .sl (f+1) 3 0 cs.length/\f<W.length/\2<=f/\W[f]?=some (.row 3 rows)/\rows.length=cs.length:=by
 by_cases h0:cs=[]
 ·exact .inl ⟨H.nil h0,h0⟩
 ·obtain⟨c0,hc0⟩:∃c,cs[0]?=some c:=⟨_,List.getElem?_eq_getElem (List.length_pos_iff.2 h0)⟩
  obtain⟨id,rows,B,Ji,a1,a2,a3,a4,a5,a6,a7,a8⟩:=H.own.cds hc0
  have:=H.own.ge id a6
  obtain⟨f,rfl⟩:∃f,id=f+1:=⟨id-1,by omega⟩
  rw[List.getElem?_cons_succ] at a2
  exact .inr ⟨f,rows,a1,(List.getElem?_eq_some_iff.1 a2).1,by omega,a2,a3⟩
end
theorem Psh.same{H H':List AO}{V V':AV}{sz:Nat}{r:List AV}(hp:Psh H V sz r H' V'){i:Nat}(hi:i<H.length)(hn:∀a b c,V≠ .sl i a b c):H'[i]?=H[i]?:=by
 rcases hp with⟨_,rfl,_⟩|⟨id,rows,m,rfl,_,_,rfl,_⟩
 ·exact List.getElem?_append_left hi
 ·rw[List.getElem?_append_left (by simpa using hi),List.getElem?_set_ne λe=>hn _ _ _ (by rw[e])]
theorem Psh.len{H H':List AO}{V V':AV}{sz:Nat}{r:List AV}(hp:Psh H V sz r H' V'):H'.length=H.length+1:=by
 rcases hp with⟨_,rfl,_⟩|⟨id,rows,m,rfl,_,_,rfl,_⟩<;>simp
theorem Own.psh2{n:Nat}{H H':List AO}{U V V':AV}{q:PV}{sz:Nat}{D:List (List PV)}{r:List AV}{e:List PV}{I IR:List Nat}(hV:Own n H [U,V] [q,.lst sz D] I)(hr:Own n H r e IR)(hd:∀j∈I,j∉IR)(he:e.length=sz)(hn:n<=H.length)(hp:Psh H V sz r H' V'):
 ∃I',Own n H' [U,V'] [q,.lst sz (D++[e])] I'/\(∀j∈I',j∈I\/j∈IR\/j=H.length):=by
 have hnd:=hV.nd
 have hlt:=hV.lt
 obtain⟨_,_,I1,I2,e1,rfl,h1,h2⟩:=hV.one
 cases e1
 rw[List.nodup_append] at hnd
 obtain⟨I2',n1,n2,n3,n4⟩:=h2.psh hr (λj hj=>hd j (by simp[hj])) he hn hp
 refine⟨I1++I2',(h1.frame λi hi=>n3 i (h1.lt i hi) λhm=>hnd.2.2 i hi i hm rfl).app n1 λj hj hm=>?_,λj hj=>?_⟩
 ·rcases n2 j hm with h|h|h
  ·exact hnd.2.2 j hj j h rfl
  ·exact hd j (by simp[hj]) h
  ·have:=h1.lt j hj;omega
 ·rcases List.mem_append.1 hj with h|h
  ·exact .inl (by simp[h])
  ·rcases n2 j h with h|h|h
   ·exact .inl (by simp[h])
   ·exact .inr (.inl h)
   ·exact .inr (.inr h)
structure PI (m:Nat) (W:List AO) (V A:AV) (cs:List Cd) (args:List Int) (to:Int) (pw:Nat) (I:List Nat):Prop where
 len:2<=W.length
 res:W[0]?=some (.row 1 [[.nils]])
 u:W[1]?=some (.row 1 [[V]])
 pge:2<=pw
 x:W[pw]?=some (.row 2 [[.p (.int .i64 to),A]])
 own:Own 3 (.dead::W) [V,A] [cdL cs,ay args] I
 xn:pw+1∉I
 sm:∀c∈cs,SmCd m c
 nil:cs=[]->V= .nils
section
variable {m pw:Nat} {W W2:List AO} {V V' A:AV} {cs:List Cd} {args:List Int} {to:Int} {I:List Nat}
theorem UI.phi(H:UI m W V cs I)(to:Int):PI m (W++[.row 2 [[.p (.int .i64 to),.nils]]]) V .nils cs [] to W.length I:=by
 have hl:=H.len
 have h2:=H.more [.row 2 [[.p (.int .i64 to),.nils]]]
 refine⟨h2.len,h2.res,h2.u,hl,by rw[List.getElem?_append_right (Nat.le_refl _)];simp,?_,λhm=>?_,H.sm,H.nil⟩
 ·have:=h2.own.app (Own.nil 3 _ 1) λ_ _ h=>by cases h
  rw[List.append_nil] at this
  exact this
 ·have:=H.own.lt _ hm
  simp at this
theorem PI.fr(H:PI m W V A cs args to pw I)(f:∀i,i<W.length->W2[i]?=W[i]?)(hl:W.length<=W2.length):PI m W2 V A cs args to pw I:=
 ⟨by have:=H.len;omega,by rw[f 0 (by have:=H.len;omega)];exact H.res,by rw[f 1 (by have:=H.len;omega)];exact H.u,H.pge,by rw[f _ (List.getElem?_eq_some_iff.1 H.x).1];exact H.x,H.own.hd1 λi hi=>f i (by have:=H.own.lt _ hi;simpa using this),H.xn,H.sm,H.nil⟩
theorem PI.lt(H:PI m W V A cs args to pw I):pw<W.length:=(List.getElem?_eq_some_iff.1 H.x).1
theorem yx(n:Nat)(H:List AO)(k:Int):Own n H [.p (.int .i64 k)] [.int .i64 k] []:=(Own.nix n H).putI k
theorem PI.arg(H:PI m W V A cs args to pw I){k:Int}{W3:List AO}{A':AV}(hp:Psh (.dead::W) A 1 [.p (.int .i64 k)] (.dead::W3) A'):∃I',PI m (W3.set pw (.row 2 [[.p (.int .i64 to),A']])) V A' cs (args++[k]) to pw I':=by
 have hl:=H.len
 have hpw:=H.lt
 have hge:=H.own.ge
 obtain⟨I',n1,n2⟩:=H.own.psh2 (yx 3 _ k) (λ_ _ h=>by cases h) rfl (by simp;omega) hp
 have hlen:=hp.len
 simp only[List.length_cons] at hlen n2
 have hAid:∀i a b c,A= .sl i a b c->i∈I:=λi a b c e=>by
  obtain⟨_,_,I1,I2,e1,rfl,h1,h2⟩:=H.own.one
  cases e1
  rcases h2.row with⟨h3,_⟩|⟨id,rows,J,h3,h4,_⟩
  ·rw[h3] at e;cases e
  ·rw[h3] at e;cases e
   rw[h4];simp
 have hse:∀i,i<2->W3[i]?=W[i]?:=λi hi=>by
  have:=hp.same (i:=i+1) (by simp;omega) λa b c e=>by have:=hge _ (hAid _ _ _ _ e);omega
  simpa using this
 have hpg:=H.pge
 have hpi:∀j∈I',j≠pw+1:=λj hj e=>by
  rcases n2 j hj with h|h|h
  ·exact H.xn (e▸h)
  ·cases h
  ·omega
 refine⟨I',by simp;omega,by rw[List.getElem?_set_ne (by omega),hse 0 (by omega)];exact H.res,by rw[List.getElem?_set_ne (by omega),hse 1 (by omega)];exact H.u,H.pge,List.getElem?_set_self (by omega),?_,λhm=>hpi _ hm rfl,H.sm,H.nil⟩
 have:ay (args++[k])= .lst 1 ((args.map λn=>[PV.int .i64 n])++[[.int .i64 k]]):=by rw[ay,List.map_append];rfl
 rw[this]
 exact n1.hd1 λi hi=>List.getElem?_set_ne λe=>hpi _ hi (by rw[e])
theorem SmCd.phi{c:Cd}(hc:SmCd m c){b:Nat}{x:Bk}(hb:c.blocks[b]?=some x){ph:Ph}(hp:ph.args.length<=7):SmCd (m+1) ⟨c.params,c.regs,c.blocks.set b {x with phis:=x.phis++[ph]}⟩:=by
 obtain⟨h1,h2,h3,h4⟩:=hc
 refine⟨h1,by simpa using h2,by simpa using h3,λy hy=>?_⟩
 rcases List.mem_or_eq_of_mem_set hy with h|rfl
 ·obtain⟨a1,a2,a3,a4,a5⟩:=h4 y h
  exact⟨by omega,a2,a3,a4,a5⟩
 ·obtain⟨a1,a2,a3,a4,a5⟩:=h4 x (List.mem_of_getElem? hb)
  refine⟨by simp;omega,a2,a3,a4,λz hz=>?_⟩
  rcases List.mem_append.1 hz with h|h
  ·exact a5 z h
  ·rw[List.mem_singleton.1 h];exact hp
theorem SmCd.up{c:Cd}(hc:SmCd m c):SmCd (m+1) c:=⟨hc.1,hc.2.1,hc.2.2.1,λy hy=>by obtain⟨a1,a2⟩:=hc.2.2.2 y hy;exact⟨by omega,a2⟩⟩
theorem UI.up(H:UI m W V cs I):UI (m+1) W V cs I:=⟨H.len,H.res,H.u,H.own,λc hc=>(H.sm c hc).up,H.nil⟩
theorem PI.drop(H:PI m W V A cs args to pw I):∃I',UI (m+1) W V cs I':=by
 obtain⟨_,_,I1,I2,e1,rfl,h1,h2⟩:=H.own.one
 cases e1
 exact⟨I1,H.len,H.res,H.u,h1,λc hc=>(H.sm c hc).up,H.nil⟩
theorem PI.put(H:PI m W V A cs args to pw I){k b:Nat}{c:Cd}{x:Bk}(hk:cs[k]?=some c)(hb:c.blocks[b]?=some x)(hal:args.length<=7):∃f rows g rows2 P N X,V= .sl (f+1) 3 0 cs.length/\W[f]?=some (.row 3 rows)/\rows.length=cs.length/\2<=f/\rows[k]?=some [.p (.int .i64 c.params),.p (.int .i64 c.regs),.sl (g+1) 5 0 c.blocks.length]/\
 W[g]?=some (.row 5 rows2)/\rows2.length=c.blocks.length/\2<=g/\g≠f/\rows2[b]?=some [P,N,.p (.int .i64 x.jump),.p (.int .i64 x.on),X]/\A.cells=[A]/\A.isCell=true/\((P= .nils/\x.phis=[])\/∃i rows,P= .sl (i+1) 2 0 x.phis.length/\W[i]?=some (.row 2 rows)/\rows.length=x.phis.length/\2<=i/\i≠f/\i≠g/\i≠pw)/\P.cells=[P]/\P.isCell=true/\
 ∀(W3:List AO) (P':AV),Psh (.dead::(W++[.row 2 [[.p (.int .i64 to),A]]])) P 2 [.p (.int .i64 to),A] (.dead::W3) P'->∃I',UI (m+1) (W3.set g (.row 5 (rows2.set b [P',N,.p (.int .i64 x.jump),.p (.int .i64 x.on),X]))) V (cs.set k ⟨c.params,c.regs,c.blocks.set b {x with phis:=x.phis++[⟨to,args⟩]}⟩) I':=by
 have hl:=H.len
 have hxn:=H.xn
 have hnd:=H.own.nd
 have hge:=H.own.ge
 obtain⟨_,_,I1,I2,e1,rfl,h1,h2⟩:=H.own.one
 cases e1
 obtain⟨id,rows,gid,rows2,r,Jb,q1,q2,q3,q4,q5,q6,q7,q8,q9,q10,q11,q12,q13⟩:=h1.blk hk hb
 have g1:=h1.ge id q9
 have g2:=h1.ge gid q10
 obtain⟨f,rfl⟩:∃f,id=f+1:=⟨id-1,by omega⟩
 obtain⟨g,rfl⟩:∃g,gid=g+1:=⟨gid-1,by omega⟩
 rw[List.getElem?_cons_succ] at q2 q5
 obtain⟨P,N,X,IP,IN,IX,rfl,rfl,hP,hN,hX⟩:=uc q8
 have hgl:=(List.getElem?_eq_some_iff.1 q5).1
 refine⟨f,rows,g,rows2,P,N,X,q1,q2,q3,by omega,q4,q5,q6,by omega,by omega,q7,h2.cell.1,h2.cell.2,?_,hP.cell.1,hP.cell.2,λW3 P' hp=>?_⟩
 ·rcases hP.row with⟨h3,h4,_⟩|⟨i,rows3,J,h3,h4,hr,_⟩
  ·exact .inl ⟨h3,List.map_eq_nil_iff.1 h4⟩
  ·have hi:=hP.ge i (by rw[h4];simp)
   have hi2:=q12 i (by rw[h4];simp)
   obtain⟨i,rfl⟩:∃i',i=i'+1:=⟨i-1,by omega⟩
   rw[List.length_map] at h3
   have hh:=hr.here
   rw[List.getElem?_cons_succ] at hh
   refine .inr ⟨i,rows3,h3,hh,by have:=hr.len;simpa using this,by omega,by omega,by omega,λe=>hxn ?_⟩
   rw[←e];exact List.mem_append_left _ hi2.1
 ·rw[List.nodup_append] at hnd
  have hfr:∀{vs:List AV} {qs:List PV} {J:List Nat},Own 3 (.dead::W) vs qs J->Own 3 (.dead::(W++[.row 2 [[.p (.int .i64 to),A]]])) vs qs J:=λh=>h.hd1 λi hi=>List.getElem?_append_left (by have:=h.lt _ hi;simpa using this)
  have hndb:=q8.nd
  simp only[List.nodup_append,List.mem_append] at hndb
  have hph:=ug (x:=⟨to,args⟩) (hfr h2)
  have hd:∀j∈IP,j∉I2:=λj hj hm=>hnd.2.2 j (q12 j (by simp[hj])).1 j hm rfl
  have hlen:=hp.len
  simp only[List.length_cons,List.length_append,List.length_nil] at hlen
  obtain⟨IP',n1,n2,n3,n4⟩:=(hfr hP).psh hph hd rfl (by simp;omega) hp
  simp only[List.length_cons,List.length_append,List.length_nil] at n2 n3
  have hsame:∀j,j+1∉IP->j<W.length->W3[j]?=W[j]?:=λj hj hjl=>by
   have:=n3 (j+1) (by omega) hj
   rw[List.getElem?_cons_succ,List.getElem?_cons_succ,List.getElem?_append_left hjl] at this
   exact this
  have hgP:g+1∉IP:=λhm=>(q12 _ (by simp[hm])).2.2 rfl
  have hnew:∀j∈IP',j∈IP\/j∈I2\/j=W.length+1+1:=λj hj=>by have:=n2 j hj;omega
  have hbk:Own 3 (.dead::W3.set g (.row 5 (rows2.set b [P',N,.p (.int .i64 x.jump),.p (.int .i64 x.on),X]))) [P',N,.p (.int .i64 x.jump),.p (.int .i64 x.on),X] ({x with phis:=x.phis++[⟨to,args⟩]}:Bk).cs (IP'++(IN++IX)):=by
   have hgt:∀j∈IN++IX,j+0∉IP:=λj hj hm=>hndb.2.2 j hm j (List.mem_append.1 hj) rfl
   refine pA (b:={x with phis:=x.phis++[⟨to,args⟩]}) ?_ (hN.hd1 λi hi=>?_) (hX.hd1 λi hi=>?_) (λj hj=>?_) λj hj hm=>hndb.2.1.2.2 j hj j hm rfl
   ·have:phL (x.phis++[⟨to,args⟩])= .lst 2 (x.phis.map Ph.cs++[(⟨to,args⟩:Ph).cs]):=by rw[phL,List.map_append];rfl
    show Own 3 _ [P'] [phL (x.phis++[⟨to,args⟩])] IP'
    rw[this]
    refine n1.hd1 λi hi=>List.getElem?_set_ne λe=>?_
    subst e
    rcases hnew _ hi with h|h|h
    ·exact hgP h
    ·exact hnd.2.2 _ q10 _ h rfl
    ·omega
   ·have hil:=hN.lt _ hi
    simp only[List.length_cons] at hil
    rw[List.getElem?_set_ne λe=>(q12 (i+1) (by simp[hi])).2.2 (by rw[e]),hsame i (hgt (i+1) (by simp[hi])) (by omega)]
   ·have hil:=hX.lt _ hi
    simp only[List.length_cons] at hil
    rw[List.getElem?_set_ne λe=>(q12 (i+1) (by simp[hi])).2.2 (by rw[e]),hsame i (hgt (i+1) (by simp[hi])) (by omega)]
   ·have key:j∈IN++IX->False:=λhm=>by
     have hm2:=q12 j (List.mem_append_right _ hm)
     rcases hnew j hj with h|h|h
     ·exact hgt j hm h
     ·exact hnd.2.2 _ hm2.1 _ h rfl
     ·have:=h1.lt j hm2.1
      simp only[List.length_cons] at this;omega
    exact⟨λh=>key (List.mem_append_left _ h),λh=>key (List.mem_append_right _ h)⟩
  obtain⟨I',d1,d2⟩:=q13 (.dead::W3.set g (.row 5 (rows2.set b [P',N,.p (.int .i64 x.jump),.p (.int .i64 x.on),X]))) [P',N,.p (.int .i64 x.jump),.p (.int .i64 x.on),X] {x with phis:=x.phis++[⟨to,args⟩]} (IP'++(IN++IX)) (by rw[List.getElem?_cons_succ];exact List.getElem?_set_self (by omega)) (λj hj hn hm=>by
   have h3:=h1.ge j hj
   have h4:=h1.lt j hj
   simp only[List.length_cons] at h4
   obtain⟨i,rfl⟩:∃i,j=i+1:=⟨j-1,by omega⟩
   rw[List.getElem?_cons_succ,List.getElem?_cons_succ,List.getElem?_set_ne (by omega),hsame i (λh=>hm (by simp[h])) (by omega)]) hbk (λj hj=>by
   rcases List.mem_append.1 hj with h|h
   ·rcases hnew j h with h|h|h
    ·exact .inl (by simp[h])
    ·exact .inr λhm=>hnd.2.2 _ hm _ h rfl
    ·exact .inr λhm=>by have:=h1.lt j hm;simp only[List.length_cons] at this;omega
   ·exact .inl (List.mem_append_right _ h))
  refine⟨I',by simp;omega,?_,?_,d1,λy hy=>?_,λh=>?_⟩
  ·rw[List.getElem?_set_ne (by omega),hsame 0 (λhm=>by have:=hP.ge _ hm;omega) (by omega)];exact H.res
  ·rw[List.getElem?_set_ne (by omega),hsame 1 (λhm=>by have:=hP.ge _ hm;omega) (by omega)];exact H.u
  ·rcases List.mem_or_eq_of_mem_set hy with h|rfl
   ·exact(H.sm y h).up
   ·exact(H.sm c (List.mem_of_getElem? hk)).phi hb hal
  ·have:=congrArg List.length h
   simp at this
   subst this
   simp at hk
end
end
end Go.Proofs.YtdfplkcigiblcaaGreat
