/-
  Contracts and lemmas that the card needs, part 7.
-/
import Derived.Test.YthfklclcofcpiaaGreatDoorFq6
namespace Go.Proofs.YthfklclcofcpiaaGreatDoor
open Go Go.Aw
set_option maxRecDepth 100000
set_option maxHeartbeats 4000000
section
variable (G:ay)
theorem Jd{σ:Type}(V:Vis σ)(step:σ->Ex->σ)(inv:σ->Prop)(P:Ex->Prop)(hP:∀e,P e->∀a∈e.kids,P a)(B:Nat)(hB:B<=1073741824)
 (hv:∀st e,inv st->P e->e.sz<=B->inv (step st e)/\AC Tryz.prog G V.F (.agg (e.cs.map .p)::V.caps) (V.I st) λx h=>x= .ret (.tup [])/\h=V.I (step st e)):
 ∀(N:Nat) (e:Ex),P e->e.sz<N->e.sz<=B->∀st,inv st->inv (e.pre.foldl step st)/\AC Tryz.prog G eO [.agg (e.cs.map .p),.fn (.func V.F) V.caps] (V.I st) λx h=>x= .ret (.tup [])/\h=V.I (e.pre.foldl step st):=by
 intro N
 induction N with
 |zero=>intro e _ h;omega
 |succ N ih=>
  intro e hpe he hz st hi
  have hec:=e.cs_eq
  have hsz:=e.sz_eq
  have hkl:=aP e.kids
  have hxl:exL e.kids= .lst 4 (e.kids.map Ex.cs):=rfl
  have hlen:=V.len
  obtain⟨i1,h1⟩:=hv st e hi hpe hz
  have hinv:∀i,i<=e.kids.length->inv ((dO (e.kids.take i)).foldl step (step st e)):=by
   intro i
   induction i with
   |zero=>intro _;exact i1
   |succ i ihi=>
    intro hl
    have hg:i<e.kids.length:=by omega
    have hks:=aC (RB hg)
    rw[aq hg,lp,List.foldl_append,dO,dO,Sd]
    exact(ih e.kids[i] (hP e hpe _ (RB hg)) (by omega) (by omega) _ (ihi (by omega))).1
  refine⟨?_,?_⟩
  ·rw[Ex.pre_eq,SB]
   have:=hinv e.kids.length (RC _)
   rwa[RR] at this
  refine V.trim G (AC.go rI ?_) (by simp[below])
  have hcb:=V.capsOk
  have hcb1:an (V.n+1) V.caps:=aw (by omega) _ hcb
  rw[hec] at h1
  simp-implicitDefEqProofs[mg,hec,hlen]
  refine(V.pre G h1 _ ⟨by simp[below],hcb⟩).mono ?_
  rintro r h ⟨rfl,rfl⟩
  simp-implicitDefEqProofs[aa,hlen,hxl]
  refine az (λi:Nat=>am 20 [(1,.fn (.func V.F) V.caps),(2,.ptr V.n 4 0 0),(10,.p (exL e.kids)),(11,.p (.int .i64 e.kids.length)),(12,.p (.int .i64 i))])
   (λi=>V.I ((dO (e.kids.take i)).foldl step (step st e))++[.row 4 [[.p (.int .i64 e.op),.p (.int .i64 e.n),.p (.str e.name),.p (exL e.kids)]]]) (λi=>i<=e.kids.length) (λi=>e.kids.length-i) 0 (by simp) ?_ ?_
  ·refine V.same (r:=[_]) (s:=[]) _ (RC _) (by simp[okO,below]) ?_
   simp[below,hxl,hcb1]
  intro i hil
  simp-implicitDefEqProofs[hxl]
  refine aY (λhc=>?_) (λhc=>?_)
  ·simp at hc
   have hg:=Rv hc
   have hks:=aC (RB hc)
   have hkc:=e.kids[i].cs_eq
   have hI:=(ih e.kids[i] (hP e hpe _ (RB hc)) (by omega) (by omega) _ (hinv i hil)).2
   rw[hkc] at hI
   simp-implicitDefEqProofs[hg,hkc,hlen]
   refine(V.pre G hI _ ⟨by simp[below],by simp[below,hcb],trivial⟩).mono ?_
   rintro r h ⟨rfl,rfl⟩
   simp-implicitDefEqProofs[aa]
   refine⟨i+1,hc,by omega,?_⟩
   have hf:(dO (e.kids.take (i+1))).foldl step (step st e)=e.kids[i].pre.foldl step ((dO (e.kids.take i)).foldl step (step st e)):=by
    rw[aq hc,lp,List.foldl_append,dO,dO,Sd]
   rw[hf]
   refine V.same (r:=[_]) (s:=[_]) _ (RC _) (by simp[okO,below]) ?_
   simp[below,hxl,hcb1,w1 (i:=i) (by omega)]
  ·simp at hc
   have hie:i=e.kids.length:=by omega
   subst hie
   rw[RR,Ex.pre_eq,SB]
   simp-implicitDefEqProofs[]
theorem LU(e:Ex)(n:Int):VF Tryz.prog G iZ [.agg (e.cs.map .p),.p (.int .i64 n)] (.p (.bool (isN e n))):=by
 refine AC.go Bl ?_
 by_cases h1:e.op=1
 ·simp-implicitDefEqProofs[mo,Ex.cs_eq,isN,h1]
 ·simp-implicitDefEqProofs[mo,Ex.cs_eq,isN,h1]
theorem lv(b:Bool):VF Tryz.prog G jy [.p (.bool b)] (.p (.int .i64 (tr5 b))):=by
 refine AC.go yb ?_
 cases b<;>simp-implicitDefEqProofs[mO,tr5]
def vF:Option Int->AV
 |some q=> .tup [.p (.int .i64 q),.p (.bool true)]
 |none=> .tup [.p (.int .i64 0),.p (.bool false)]
theorem IL(a b:Int):VF Tryz.prog G gw [.p (.int .i64 11),.p (.int .i64 a),.p (.int .i64 b)] (.tup [.p (.int .i64 (tr5 (decide (a=0)))),.p (.bool true)]):=by
 refine AC.go rF ?_
 simp-implicitDefEqProofs[mf]
 refine(lv G _).use ?_
 simp-implicitDefEqProofs[]
theorem Lq(o a b:Int)(ho:3<=o)(h9:o<=10)(ha:V5 a)(hb:V5 b):VF Tryz.prog G gw [.p (.int .i64 o),.p (.int .i64 a),.p (.int .i64 b)] (vF (ar5 o a b)):=by
 obtain⟨a0,a1⟩:=ha
 obtain⟨b0,b1⟩:=hb
 refine AC.go rF ?_
 have hm:a*b<=65025:=by
  have h1:=Int.mul_le_mul_of_nonneg_right a1 b0
  omega
 have hm0:0<=a*b:=Int.mul_nonneg a0 b0
 have ho':o=3\/o=4\/o=5\/o=6\/o=7\/o=8\/o=9\/o=10:=by omega
 rcases ho' with rfl|rfl|rfl|rfl|rfl|rfl|rfl|rfl
 all_goals simp-implicitDefEqProofs[mf,ar5,EL]
 ·rw[ah (by omega) (by omega),SA (by omega)];rfl
 ·have hw:IntKind.i64.wrap (a-b)=a-b:=ah (by omega) (by omega)
  rw[hw,ah (by omega) (by omega),SA (by omega)]
  have:(a-b+256)%256=(a-b)%256:=by omega
  rw[this];rfl
 ·rw[ah (by omega) (by omega),SA (by omega)];rfl
 ·refine aY (λh=>?_) (λh=>?_)
  ·simp at h
   simp-implicitDefEqProofs[h,vF]
  ·simp at h
   simp-implicitDefEqProofs[h,vF]
   rw[Int.tdiv_eq_ediv_of_nonneg (by omega)]
   have h1:a/b<=a:=Int.ediv_le_self b a0
   have h2:0<=a/b:=Int.ediv_nonneg a0 b0
   exact ah (by omega) (by omega)
 ·refine aY (λh=>?_) (λh=>?_)
  ·simp at h
   simp-implicitDefEqProofs[h,vF]
  ·simp at h
   simp-implicitDefEqProofs[h,vF]
   rw[SA (by omega)]
 ·refine(lv G _).use ?_
  simp-implicitDefEqProofs[vF]
 ·refine(lv G _).use ?_
  simp-implicitDefEqProofs[vF]
 ·by_cases h:a=0
  ·simp-implicitDefEqProofs[h]
   refine(lv G _).use ?_
   simp-implicitDefEqProofs[vF]
  ·simp-implicitDefEqProofs[h]
   refine(lv G _).use ?_
   simp-implicitDefEqProofs[vF]
def okP(e:Ex):Bool:= !decide (e.op=12)&& !decide (e.op=13)&& !dvE e
mutual
theorem Dp:∀e:Ex,e.pre.all okP=cV e
 | .mk o n s ks=>by
   rw[Dz,Ex.pre_eq,List.all_cons,okP]
   show(_&&(dO ks).all okP)=_
   rw[zS ks]
   rfl
theorem zS:∀l:List Ex,(dO l).all okP=l.all cV
 |[]=>rfl
 |e::r=>by rw[dO,List.all_append,List.all_cons,Dp e,zS r]
end
def pZ(p:List PV):Vis Bool where
 I:=λst=>[.row 4 [p.map .p],.row 1 [[.p (.bool st)]]]
 n:=2
 F:=cS
 caps:=[.ptr 1 1 0 0]
 len:=λ_=>rfl
 ok:=λst=>by simp[okO,below]
 capsOk:=by simp[below]
theorem Bo(p:List PV)(st:Bool){d:Nat}{e:Ex}(hf:aT d e=true):AC Tryz.prog G cS [.agg (e.cs.map .p),.ptr 1 1 0 0] ((pZ p).I st) λx h=>x= .ret (.tup [])/\h=(pZ p).I (st&&okP e):=by
 refine(pZ p).trim G (AC.go rr ?_) (by simp[below])
 have hec:=e.cs_eq
 have hxl:∀l,exL l= .lst 4 (l.map Ex.cs):=λ_=>rfl
 cases st with
 |false=>simp-implicitDefEqProofs[bf,hec,pZ]
 |true=>
  by_cases o12:e.op=12
  ·simp-implicitDefEqProofs[bf,hec,pZ,o12,okP]
  by_cases o13:e.op=13
  ·simp-implicitDefEqProofs[bf,hec,pZ,o13,okP]
  by_cases o67:e.op=6\/e.op=7
  ·have hk:∃a b,e.kids=[a,b]:=by
    obtain⟨l1,l2,_⟩:=dd hf
    have e1:loK e.op=2/\hiK e.op=2:=by rcases o67 with h|h<;>rw[h]<;>exact⟨rfl,rfl⟩
    rw[e1.1] at l1
    rw[e1.2] at l2
    match hx:e.kids,l1,l2 with
    |[a,b],_,_=>exact⟨a,b,rfl⟩
   obtain⟨a,b,hk⟩:=hk
   have hbc:=b.cs_eq
   have hd:okP e=(decide (b.op=1)&& !decide (b.n=0)):=by
    rw[okP,dvE,hk]
    rcases o67 with h|h<;>simp[h]
   rw[hd]
   rcases o67 with o6|o7
   ·by_cases b1:b.op=1
    ·simp-implicitDefEqProofs[bf,hec,pZ,o6,hxl,hk,hbc,b1]
    ·simp-implicitDefEqProofs[bf,hec,pZ,o6,hxl,hk,hbc,b1]
   ·by_cases b1:b.op=1
    ·simp-implicitDefEqProofs[bf,hec,pZ,o7,hxl,hk,hbc,b1]
    ·simp-implicitDefEqProofs[bf,hec,pZ,o7,hxl,hk,hbc,b1]
  ·have o6:¬e.op=6:=λh=>o67 (.inl h)
   have o7:¬e.op=7:=λh=>o67 (.inr h)
   have hd:okP e=true:=by simp[okP,dvE,o6,o7,o12,o13]
   rw[hd]
   simp-implicitDefEqProofs[bf,hec,pZ,o6,o7,o12,o13]
theorem Gv(l:List Ex)(b:Bool):l.foldl (λst e=>st&&okP e) b=(b&&l.all okP):=by
 induction l generalizing b with
 |nil=>simp
 |cons e r ih=>rw[SB,ih,List.all_cons,Bool.and_assoc]
theorem Ea(hK:G de=some cX)(hS:G bx=some [PV.tbl opK opV]){e:Ex}(hx:gt e=true)(hz:e.sz<=1073741824):VF Tryz.prog G ca [.agg (e.cs.map .p)] (.p (.bool (cV e))):=by
 refine AC.go uw ?_
 have hec:=e.cs_eq
 have HV:=ua G hK hS e hz
 have HP:=(Jd G (pZ e.cs) (λst e=>st&&okP e) (λ_=>True) (λe=>∃d,aT d e=true) (λe ⟨d,h⟩ a ha=>by
  obtain⟨d,rfl⟩:=nU h
  exact⟨d,eN h ha⟩) 1073741824 (by omega) (λst x _ ⟨d,h⟩ _=>⟨trivial,Bo G e.cs st h⟩) (e.sz+1) e ⟨6,Ag hx⟩ (by omega) hz true trivial).2
 rw[Gv,Bool.true_and,Dp] at HP
 rw[hec] at HV HP
 have hI:∀st,(pZ [.int .i64 e.op,.int .i64 e.n,.str e.name,exL e.kids]).I st=[.row 4 [[.p (.int .i64 e.op),.p (.int .i64 e.n),.p (.str e.name),.p (exL e.kids)]],.row 1 [[.p (.bool st)]]]:=λ_=>rfl
 have hF:(pZ [.int .i64 e.op,.int .i64 e.n,.str e.name,exL e.kids]).F=cS:=rfl
 have hc:(pZ [.int .i64 e.op,.int .i64 e.n,.str e.name,exL e.kids]).caps=[.ptr 1 1 0 0]:=rfl
 rw[hI,hI,hF,hc] at HP
 simp-implicitDefEqProofs[mw,hec]
 refine HV.use ?_
 simp-implicitDefEqProofs[hx]
 refine HP.mono ?_
 rintro r h ⟨rfl,rfl⟩
 simp-implicitDefEqProofs[aa]
end
section
def bD:AK:=xj [xJ 1 4,qV 2 [q9,q9,q8,.nils]] [xr 7 1,qx 8 7,we 9 8,wh 10 9 0,qh 11 10,xe 12 11 0 1,xa 13 11 12,xZ 14 11 .eql 13 13,xE 15 11 14,qh 16 15,xe 17 16 0 1,xa 18 16 17,xZ 19 16 .eql 18 12,xE 20 16 19] 20 [xh 21 1,xL 2 21] (.cut (.ot (xc [] [xr 22 1] (xc [xr 26 1] [xr 28 1] (xc [qx 23 22] [q6 24 4 23 xf] (xc [xh 25 24] [qx 27 26] (xc [qx 29 28] [we 30 29] (xc [qB 31 .sub 30 1] [wc 32 4 27 31] (.one [xh 33 32] (xF [qV 3 [q9,q9,q8,.nils],wE 22 23,q7 wP 24 25,wE 26 27,wE 28 29,q7 wP 32 33] (xF [qV 4 [q9,q9,q8,.nils],wE 22 23,q7 wP 24 25,wE 26 27,wE 28 29,q7 wP 32 33] (xF [xL 3 25,wE 26 27,wE 28 29,q7 wP 32 33] (xF [xL 4 33] .done .tru) .tru) .tru) (xF [qV 4 [q9,q9,q8,.nils],wE 22 23,q7 wP 24 25,wE 26 27,wE 28 29,q7 wP 32 33] (xF [qV 3 [q9,q9,q8,.nils],wE 22 23,q7 wP 24 25,wE 26 27,wE 28 29,q7 wP 32 33] (xF [xL 3 25,wE 26 27,wE 28 29,q7 wP 32 33] (xF [xL 4 33] .done .tru) .tru) .tru) .tru)))))))))) (.cut (xS [wU 34 3,qx 35 34,wh 36 35 1,qh 37 36,wG 38 37 0 4,wD 39 37 38,xb 40 37 .eql 39 1,xp 41 37 40] 41 (qT [wU 43 1,qx 44 43,xX 45 3,qx 46 45,xX 47 4,qx 48 47,qu 49 gw [.t 44,.t 46,.t 48],qh 42 49,wM 50 0 42,wM 51 1 42,qh 5 50,qh 6 51] [qh 52 6] (qR 52 [wN 53,wS 54 bS 53,xL 2 54]))) (qy [wU 55 1,qx 56 55] (.blk 0 (x4 (xg 58 56 11 57 58) 57 (w7 [wU 59 3,qx 60 59,wh 61 60 11,qh 62 61,wG 63 62 3 3,wD 64 62 63,qK 65 62 (qH 4 64 xf),wG 66 62 0 65,wD 67 62 66,xb 68 62 .eql 67 11,xp 69 62 68] 69 [xr 70 3,qx 71 70,q6 72 4 71 xf,xh 73 72,xL 2 73]) (xg 75 56 10 74 75) 74 (w7 [xh 76 3,w6 77 76 xf] 77 [qu 78 bS [xf],xL 2 78]) (x4 (xg 80 56 3 79 80) 79 (wq [xh 81 4,w6 82 81 xf] 82 [xh 83 3,xL 2 83] (w7 [xh 84 3,w6 85 84 xf] 85 [xh 86 4,xL 2 86])) (xg 88 56 4 87 88) 87 (w7 [xh 89 4,w6 90 89 xf] 90 [xh 91 3,xL 2 91]) (wZ (xg 93 56 5 92 93) 92 (.blk 1 (x4 (xx (xh 95 4) (w6 96 95 xO) 94 96) 94 (qz [xh 97 3,xL 2 97]) (xx (xh 99 3) (w6 100 99 xO) 98 100) 98 (qz [xh 101 4,xL 2 101]) (qy [xh 103 4,w6 104 103 xf,qh 105 104,qK 106 105 (qk wP 3),xC 107 105 ca (wR 106),xp 108 105 107,qh 102 108] (qp 102 .skip (.reg [xh 109 3,w6 110 109 xf,qh 111 110,qK 112 111 (qk wP 4),xC 113 111 ca (wR 112),xp 114 111 113,qh 102 114])) (qR 102 [qu 115 bS [xf],xL 2 115])))) (xS (xg 117 56 6 116 117) 116 (w7 [xh 118 4,w6 119 118 xO] 119 [xh 120 3,xL 2 120])))))) (qz [xh 121 1,xL 2 121]))))
theorem ut:AK.whole bD=FK.ak bm:=rfl
theorem If{c d:Nat}{e:Ex}(h:aT c e=true)(hd:c<=d):aT d e=true:=by
 obtain⟨k,rfl⟩:=Nat.le.dest hd
 clear hd
 induction k with
 |zero=>exact h
 |succ k ih=>exact mX ih
variable (G:ay)
end
section
theorem gS{α β:Type}(f:α->β):∀(l:List α) (u:Unit),dW (λ(st:Unit) x=>(f x,st)) u l=(l.map f,u)
 |[],u=>rfl
 |x::r,u=>by rw[dW,gS f r];rfl
def GV(f:FuncId)(h:List AO)(hh:∀o∈h,okO h.length o):Vis Unit where
 I:=λ_=>h
 n:=h.length
 F:=f
 caps:=[]
 len:=λ_=>rfl
 ok:=λ_=>hh
 capsOk:=trivial
variable (G:ay)
end
section
theorem aO{s:Bool}{h:List AO}{vs:List AV}{q:PV}{I:List Nat}(H:OwnL s h vs [q] I):∃v,vs=[v]:=by
 have:=H.len
 match vs,this with
 |[v],_=>exact⟨v,rfl⟩
theorem Lw{s:Bool}{h:List AO}{vs:List AV}{q r:PV}{I:List Nat}(H:OwnL s h vs [q,r] I):∃a b,vs=[a,b]:=by
 have:=H.len
 match vs,this with
 |[a,b],_=>exact⟨a,b,rfl⟩
theorem Gm{s:Bool}{h:List AO}{vs:List AV}{q r t:PV}{I:List Nat}(H:OwnL s h vs [q,r,t] I):∃a b c,vs=[a,b,c]:=by
 have:=H.len
 match vs,this with
 |[a,b,c],_=>exact⟨a,b,c,rfl⟩
theorem pR{s:Bool}{h:List AO}{vs:List AV}{e:Ex}{I:List Nat}(H:OwnL s h vs e.cs I):∃K,vs=[.p (.int .i64 e.op),.p (.int .i64 e.n),.p (.str e.name),K]/\OwnL s h [K] [exL e.kids] I:=by
 rw[e.cs_eq] at H
 cases H with
 |p _ _ H=>
  cases H with
  |p _ _ H=>
   cases H with
   |p _ _ H=>
    obtain⟨v,rfl⟩:=aO H
    exact⟨v,rfl,H⟩
theorem Nw{s:Bool}{h:List AO}{o n:Int}{w:List UInt8}{k:List Ex}{K:AV}{I:List Nat}(H:OwnL s h [K] [exL k] I):OwnL s h [.p (.int .i64 o),.p (.int .i64 n),.p (.str w),K] (Ex.mk o n w k).cs I:=by
 rw[Ex.cs_eq]
 exact .p _ (λ_=>rfl) (.p _ (λ_=>rfl) (.p _ (λ_=>rfl) H))
theorem AB{s:Bool}{h:List AO}{vs:List AV}{e:Sm}{I:List Nat}(H:OwnL s h vs e.cs I):∃A B E I1 I2 I3,vs=[.p (.int .i64 e.op),.p (.str e.name),A,B,E]/\I=I1++(I2++I3)/\OwnL s h [A] [exL e.args] I1/\OwnL s h [B] [smL e.body] I2/\OwnL s h [E] [smL e.els] I3:=by
 rw[e.cs_eq] at H
 cases H with
 |p _ _ H=>
  cases H with
  |p _ _ H=>
   obtain⟨A,B,E,rfl⟩:=Gm H
   obtain⟨I1,I',rfl,h1,H⟩:=H.one
   obtain⟨I2,I3,rfl,h2,h3⟩:=H.one
   exact⟨A,B,E,I1,I2,I3,rfl,rfl,h1,h2,h3⟩
theorem Nu{s:Bool}{h:List AO}{o:Int}{w:List UInt8}{a:List Ex}{b e:List Sm}{A B E:AV}{I1 I2 I3:List Nat}(h1:OwnL s h [A] [exL a] I1)(h2:OwnL s h [B] [smL b] I2)(h3:OwnL s h [E] [smL e] I3):
 OwnL s h [.p (.int .i64 o),.p (.str w),A,B,E] (Sm.mk o w a b e).cs (I1++(I2++I3)):=by
 rw[Sm.cs_eq]
 exact .p _ (λ_=>rfl) (.p _ (λ_=>rfl) (h1.app (h2.app h3)))
theorem EB{s:Bool}{h:List AO}{vs:List AV}{f:Fd}{I:List Nat}(H:OwnL s h vs f.cs I):∃A B I1 I2,vs=[.p (.str f.name),A,B]/\I=I1++I2/\OwnL s h [A] [aE f.params] I1/\OwnL s h [B] [smL f.body] I2:=by
 rw[show f.cs=[.str f.name,aE f.params,smL f.body] from rfl] at H
 cases H with
 |p _ _ H=>
  obtain⟨A,B,rfl⟩:=Lw H
  obtain⟨I1,I2,rfl,h1,H⟩:=H.one
  exact⟨A,B,I1,I2,rfl,rfl,h1,H⟩
theorem ND{s:Bool}{h:List AO}{w:List UInt8}{ps:List (List UInt8)}{b:List Sm}{A B:AV}{I1 I2:List Nat}(h1:OwnL s h [A] [aE ps] I1)(h2:OwnL s h [B] [smL b] I2):OwnL s h [.p (.str w),A,B] (Fd.mk w ps b).cs (I1++I2):=
 .p _ (λ_=>rfl) (h1.app h2)
end
section
def Fr(K:List Nat)(h h':List AO):Prop:=h.length<=h'.length/\∀i,i<h.length->i∉K->h'[i]?=h[i]?
theorem Fr.refl(K:List Nat)(h:List AO):Fr K h h:=⟨RC _,λ_ _ _=>rfl⟩
theorem Fr.more(K:List Nat)(h os:List AO):Fr K h (h++os):=⟨by simp,λi hi _=>Rz hi⟩
theorem Fr.trans{K K':List Nat}{h h1 h2:List AO}(a:Fr K h h1)(b:Fr K' h1 h2)(hk:∀i∈K',i∈K\/h.length<=i):Fr K h h2:=
 ⟨Nat.le_trans a.1 b.1,λi hi hn=>by
   rw[b.2 i (RX hi a.1) (λhm=>by
    rcases hk i hm with q|q
    ·exact hn q
    ·omega),a.2 i hi hn]⟩
theorem Fr.sub{K K':List Nat}{h h1:List AO}(a:Fr K h h1)(hk:∀i∈K,i∈K'\/h.length<=i):Fr K' h h1:=
 ⟨a.1,λi hi hn=>a.2 i hi λhm=>by
   rcases hk i hm with q|q
   ·exact hn q
   ·omega⟩
theorem Fr.from{K:List Nat}{h os h2:List AO}(a:Fr K (h++os) h2):Fr K h h2:=
 ⟨by have:=a.1;simp at this;omega,λi hi hn=>by rw[a.2 i (by simp;omega) hn,Rz hi]⟩
theorem aN(q:PV):(AV.p q).isCell=true:=rfl
theorem aS(a b c d:Nat):(AV.sl a b c d).isCell=true:=rfl
theorem ae:AV.nils.isCell=true:=rfl
theorem aM(q:PV):(AV.p q).cells=[AV.p q]:=rfl
theorem aR(a b c d:Nat):(AV.sl a b c d).cells=[AV.sl a b c d]:=rfl
theorem af:AV.nils.cells=[AV.nils]:=rfl
theorem aj(cs:List AV):(AV.agg cs).cells=cs:=rfl
end
section
theorem Qw{r:List AV}(h:r.length=4):∃a b c d,r=[a,b,c,d]:=by
 match r,h with
 |[a,b,c,d],_=>exact⟨a,b,c,d,rfl⟩
theorem QZ{r:List AV}(h:r.length=5):∃a b c d e,r=[a,b,c,d,e]:=by
 match r,h with
 |[a,b,c,d,e],_=>exact⟨a,b,c,d,e,rfl⟩
theorem Qv{r:List AV}(h:r.length=3):∃a b c,r=[a,b,c]:=by
 match r,h with
 |[a,b,c],_=>exact⟨a,b,c,rfl⟩
def zEx:List PV:=[.int .i64 0,.int .i64 0,.str [],.lst 4 []]
def zSm:List PV:=[.int .i64 0,.str [],.lst 4 [],.lst 5 [],.lst 5 []]
def zFd:List PV:=[.str [],.lst 1 [],.lst 5 []]
theorem bh{s:Bool}{h:List AO}{v:AV}{q:PV}{I:List Nat}(H:OwnL s h [v] [q] I):v.cells=[v]/\v.isCell=true:=by
 cases H with
 |p _ _ _=>exact⟨rfl,rfl⟩
 |nils _ _=>exact⟨rfl,rfl⟩
 |sl id sz n rows es _ _ _ _ _ _ _=>exact⟨rfl,rfl⟩
theorem fr3{s:Bool}{a b c a' b' c':AO}{os r:List AO}{vs:List AV}{qs:List PV}{I:List Nat}(H:OwnL s (a::b::c::os) vs qs I)(hI:∀i∈I,3<=i):OwnL s (a'::b'::c'::(os++r)) vs qs I:=by
 have h1:OwnL s (a'::b'::c'::os) vs qs I:=H.frame λi hi=>by
  have:=hI i hi
  obtain⟨k,rfl⟩:∃k,i=k+3:=⟨i-3,by omega⟩
  rfl
 exact h1.more r
theorem tj{I J:List Nat}(k:Nat)(n1:I.Nodup)(n2:J.Nodup)(h1:∀i∈I,i<k)(h2:∀j∈J,k<=j):(I++J).Nodup:=
 Su.2 ⟨n1,n2,λa ha b hb e=>by have:=h1 a ha;have:=h2 b hb;omega⟩
variable (G:ay)
theorem Av(l:List Ex)(hb:l.length<=1048576)(H:∀e∈l,AC Tryz.prog G dQ [.agg (e.cs.map .p)] [] (MkW .agg true e.cs)):AC Tryz.prog G bQ [.p (exL l)] [] (MkW bC true [exL l]):=by
 have hsl:∀l,exL l= .lst 4 (l.map Ex.cs):=λ_=>rfl
 refine AC.go ny ?_
 simp-implicitDefEqProofs[jv,hsl]
 refine⟨by omega,?_⟩
 refine az (λa:FilS=>am 23 [(0,.p (exL l)),(3,.sl 0 4 0 l.length),(4,.p (.int .i64 a.i))]) (λa=>a.h) (FilI true 0 4 (l.map Ex.cs) zEx) (λa=>l.length-a.i) ⟨0,[.row 4 (List.replicate l.length [.p (.int .i64 0),.p (.int .i64 0),.p (.str []),.nils])]⟩
  (FilI.init rfl (by simp) (.p _ (λ_=>rfl) (.p _ (λ_=>rfl) (.p _ (λ_=>rfl) (.nils 4 .nil)))) rfl) ?_ ?_
 ·exact aA (by simp) (by simp[below,hsl])
 ·rintro⟨i,hh⟩ hI
  simp-implicitDefEqProofs[hsl]
  refine aY (λh1=>?_) (λh1=>?_)
  ·simp at h1
   have hg:=Rv h1
   have hH:=H l[i] (RB h1)
   have hcs:=l[i].cs_eq
   have hD':(l.map Ex.cs)[i]?=some l[i].cs:=by rw[RH,hg];rfl
   generalize l[i]=e at hg hH hcs hD'
   have hA:=AC.mkLift ec hH (h:=hh) (by rw[hcs];simp)
   rw[hcs] at hA
   simp-implicitDefEqProofs[hg,hcs]
   refine hA.mono ?_
   rintro r h2 ⟨vs,I2,os,rfl,e2,ho,nd,hf⟩
   rw[←hcs] at ho
   obtain⟨rows,r0,k1,k2,k3,k4,k5,k6⟩:=hI.step hD' e2 ho nd hf e.cs_len
   obtain⟨K,rfl,hK⟩:=pR ho
   obtain⟨c1,c2⟩:=bh hK
   obtain⟨z1,z2,z3,z4,rfl⟩:=Qw k3
   have hll:0<h2.length:=(Ry.1 k1).1
   simp-implicitDefEqProofs[-AV.cells,-AV.isCell,aM,af,aj,aN,ae,c1,c2,aa,k1,k2,h1,eA]
   refine⟨_,k6,by simp;omega,aA (by simp) ?_⟩
   simp[below,hsl,w1 (i:=i) (by omega)]
   omega
  ·simp at h1
   obtain⟨rows,J,hr⟩:=hI.done (by simpa using h1)
   simp-implicitDefEqProofs[]
   exact⟨_,_,rfl,hr.tree (by simp),hr.nd⟩
theorem HG:∀(N:Nat) (e:Ex),e.sz<=N->e.sz<=1048576->AC Tryz.prog G dQ [.agg (e.cs.map .p)] [] (MkW .agg true e.cs):=by
 intro N
 induction N with
 |zero=>intro e he;have:=e.sz_pos;omega
 |succ N ih=>
  intro e he hb
  have hec:=e.cs_eq
  have hsz:=e.sz_eq
  have hkl:=aP e.kids
  have hS:=Av G e.kids (by omega) (λx hx=>ih x (by have:=aC hx;omega) (by have:=aC hx;omega))
  refine AC.go oV ?_
  simp-implicitDefEqProofs[kY,hec]
  refine(AC.mkLift eb hS (by simp)).mono ?_
  rintro r h2 ⟨vs,I2,os,rfl,e2,ho,nd,hf⟩
  obtain⟨K,rfl⟩:=aO ho
  obtain⟨c1,c2⟩:=bh ho
  simp at hf
  subst e2
  simp-implicitDefEqProofs[-AV.cells,-AV.isCell,aM,af,aj,aN,ae,c1,c2,aa,bC]
  refine⟨_,I2,rfl,?_,nd⟩
  have:=Nw (o:=e.op) (n:=e.n) (w:=e.name) (k:=e.kids) (fr3 (r:=[]) (a':= .row 4 [[.p (.int .i64 e.op),.p (.int .i64 e.n),.p (.str e.name),.p (exL e.kids)]]) (b':= .row 4 [[.p (.int .i64 e.op),.p (.int .i64 e.n),.p (.str e.name),K]]) (c':= .row 4 [[.p (.int .i64 e.op),.p (.int .i64 e.n),.p (.str e.name),K]]) ho hf)
  rw[Sd,Ex.cs_eq] at this
  exact this
theorem Hj(l:List Ex)(hb:cb l<=1048576):AC Tryz.prog G bQ [.p (exL l)] [] (MkW bC true [exL l]):=
 Av G l (by have:=aP l;omega) (λe he=>HG G e.sz e (RC _) (by have:=aC he;omega))
theorem ti(l:List Sm)(hb:l.length<=1048576)(H:∀e∈l,AC Tryz.prog G dP [.agg (e.cs.map .p)] [] (MkW .agg true e.cs)):AC Tryz.prog G bu [.p (smL l)] [] (MkW bC true [smL l]):=by
 have hsl:∀l,smL l= .lst 5 (l.map Sm.cs):=λ_=>rfl
 refine AC.go mP ?_
 simp-implicitDefEqProofs[jK,hsl]
 refine⟨by omega,?_⟩
 refine az (λa:FilS=>am 23 [(0,.p (smL l)),(3,.sl 0 5 0 l.length),(4,.p (.int .i64 a.i))]) (λa=>a.h) (FilI true 0 5 (l.map Sm.cs) zSm) (λa=>l.length-a.i) ⟨0,[.row 5 (List.replicate l.length [.p (.int .i64 0),.p (.str []),.nils,.nils,.nils])]⟩
  (FilI.init rfl (by simp) (.p _ (λ_=>rfl) (.p _ (λ_=>rfl) (.nils 4 (.nils 5 (.nils 5 .nil))))) rfl) ?_ ?_
 ·exact aA (by simp) (by simp[below,hsl])
 ·rintro⟨i,hh⟩ hI
  simp-implicitDefEqProofs[hsl]
  refine aY (λh1=>?_) (λh1=>?_)
  ·simp at h1
   have hg:=Rv h1
   have hH:=H l[i] (RB h1)
   have hcs:=l[i].cs_eq
   have hD':(l.map Sm.cs)[i]?=some l[i].cs:=by rw[RH,hg];rfl
   generalize l[i]=e at hg hH hcs hD'
   have hA:=AC.mkLift ec hH (h:=hh) (by rw[hcs];simp)
   rw[hcs] at hA
   simp-implicitDefEqProofs[hg,hcs]
   refine hA.mono ?_
   rintro r h2 ⟨vs,I2,os,rfl,e2,ho,nd,hf⟩
   rw[←hcs] at ho
   obtain⟨rows,r0,k1,k2,k3,k4,k5,k6⟩:=hI.step hD' e2 ho nd hf e.cs_len
   obtain⟨A,B,E,I3,I4,I5,rfl,_,hA1,hA2,hA3⟩:=AB ho
   obtain⟨c1,c2⟩:=bh hA1
   obtain⟨c3,c4⟩:=bh hA2
   obtain⟨c5,c6⟩:=bh hA3
   obtain⟨z1,z2,z3,z4,z5,rfl⟩:=QZ k3
   have hll:0<h2.length:=(Ry.1 k1).1
   simp-implicitDefEqProofs[-AV.cells,-AV.isCell,aM,af,aj,aN,ae,c1,c2,c3,c4,c5,c6,aa,k1,k2,h1,eA]
   refine⟨_,k6,by simp;omega,aA (by simp) ?_⟩
   simp[below,hsl,w1 (i:=i) (by omega)]
   omega
  ·simp at h1
   obtain⟨rows,J,hr⟩:=hI.done (by simpa using h1)
   simp-implicitDefEqProofs[]
   exact⟨_,_,rfl,hr.tree (by simp),hr.nd⟩
theorem JO:∀(N:Nat) (e:Sm),e.sz<=N->e.sz<=1048576->AC Tryz.prog G dP [.agg (e.cs.map .p)] [] (MkW .agg true e.cs):=by
 intro N
 induction N with
 |zero=>intro e he;have:=e.sz_pos;omega
 |succ N ih=>
  intro e he hb
  have hec:=e.cs_eq
  have hsz:=e.sz_eq
  have hA:=Hj G e.args (by omega)
  have hB:=ti G e.body (by have:=bi e.body;omega) (λx hx=>ih x (by have:=aQ hx;omega) (by have:=aQ hx;omega))
  have hE:=ti G e.els (by have:=bi e.els;omega) (λx hx=>ih x (by have:=aQ hx;omega) (by have:=aQ hx;omega))
  refine AC.go pk ?_
  simp-implicitDefEqProofs[kP,hec]
  refine(AC.mkLift eb hA (by simp)).mono ?_
  rintro r h2 ⟨vs,I1,os1,rfl,e2,o1,n1,f1⟩
  obtain⟨A,rfl⟩:=aO o1
  obtain⟨c1,c2⟩:=bh o1
  have l1:=λi (hi:i∈I1)=>o1.lt hi
  simp at f1
  subst e2
  simp at l1
  simp-implicitDefEqProofs[-AV.cells,-AV.isCell,aM,af,aj,aN,ae,c1,c2,aa,bC]
  refine(AC.mkLift eb hB (by simp)).mono ?_
  rintro r h2 ⟨vs,I2,os2,rfl,e2,o2,n2,f2⟩
  obtain⟨B,rfl⟩:=aO o2
  obtain⟨c3,c4⟩:=bh o2
  have l2:=λi (hi:i∈I2)=>o2.lt hi
  simp at f2
  subst e2
  simp at l2
  simp-implicitDefEqProofs[-AV.cells,-AV.isCell,aM,af,aj,aN,ae,c1,c2,c3,c4,aa,bC]
  refine(AC.mkLift eb hE (by simp)).mono ?_
  rintro r h2 ⟨vs,I3,os3,rfl,e2,o3,n3,f3⟩
  obtain⟨E,rfl⟩:=aO o3
  obtain⟨c5,c6⟩:=bh o3
  simp at f3
  subst e2
  simp-implicitDefEqProofs[-AV.cells,-AV.isCell,aM,af,aj,aN,ae,c1,c2,c3,c4,c5,c6,aa,bC]
  simp only[Sh,List.nil_append,RT] at o1 o2 o3
  refine⟨_,I1++(I2++I3),rfl,?_,tj (os1.length+3) n1 (tj (os1.length+os2.length+3) n2 n3 (λi hi=>by have:=l2 i hi;omega) (λi hi=>by have:=f3 i hi;omega)) (λi hi=>by have:=l1 i hi;omega) (λi hi=>by
   rcases RG.1 hi with h|h
   ·have:=f2 i h;omega
   ·have:=f3 i h;omega)⟩
  have hd:=Nu (o:=e.op) (w:=e.name) (a:=e.args) (b:=e.body) (e:=e.els) (A:=A) (B:=B) (E:=E) (I1:=I1) (I2:=I2) (I3:=I3)
   (fr3 (r:=os2++os3) (a':= .row 5 [[.p (.int .i64 e.op),.p (.str e.name),.p (exL e.args),.p (smL e.body),.p (smL e.els)]]) (b':= .row 5 [[.p (.int .i64 e.op),.p (.str e.name),A,B,E]]) (c':= .row 5 [[.p (.int .i64 e.op),.p (.str e.name),A,B,E]]) o1 f1)
   (by
     have:=fr3 (r:=os3) (a':= .row 5 [[.p (.int .i64 e.op),.p (.str e.name),.p (exL e.args),.p (smL e.body),.p (smL e.els)]]) (b':= .row 5 [[.p (.int .i64 e.op),.p (.str e.name),A,B,E]]) (c':= .row 5 [[.p (.int .i64 e.op),.p (.str e.name),A,B,E]]) o2 (λi hi=>by have:=f2 i hi;omega)
     rwa[RT] at this)
   (by
     have:=fr3 (r:=[]) (a':= .row 5 [[.p (.int .i64 e.op),.p (.str e.name),.p (exL e.args),.p (smL e.body),.p (smL e.els)]]) (b':= .row 5 [[.p (.int .i64 e.op),.p (.str e.name),A,B,E]]) (c':= .row 5 [[.p (.int .i64 e.op),.p (.str e.name),A,B,E]]) o3 (λi hi=>by have:=f3 i hi;omega)
     rwa[Sd] at this)
  rw[Sm.cs_eq] at hd
  exact hd
theorem Gk(l:List Sm)(hb:aF l<=1048576):AC Tryz.prog G bu [.p (smL l)] [] (MkW bC true [smL l]):=
 ti G l (by have:=bi l;omega) (λe he=>JO G e.sz e (RC _) (by have:=aQ he;omega))
theorem As{h:List AO}{id:Nat}{l:List (List UInt8)}(e:h[id]?=some (nC l)){n:Nat}(hn:n=l.length):OwnL true h [.sl id 1 0 n] [aE l] [id]:=by
 have hf:∀l:List (List UInt8),OwnL true h (l.map λw=>[AV.p (.str w)]).flatten (l.map λw=>[PV.str w]).flatten []:=by
  intro l
  induction l with
  |nil=>exact .nil
  |cons w r ih=>exact .p _ (λ_=>rfl) ih
 exact .sl id 1 n _ _ (by rw[e];rfl) (by simp[hn]) (by simp) (by simp) (by simp) (hf l) .nil
theorem Mn(l:List Fd)(hb:l.length<=1048576)(H:∀e∈l,AC Tryz.prog G fZ [.agg (e.cs.map .p)] [] (MkW .agg true e.cs)):AC Tryz.prog G gu [.p (fdL l)] [] (MkW bC true [fdL l]):=by
 have hsl:∀l,fdL l= .lst 3 (l.map Fd.cs):=λ_=>rfl
 refine AC.go sD ?_
 simp-implicitDefEqProofs[mv,hsl]
 refine⟨by omega,?_⟩
 refine az (λa:FilS=>am 23 [(0,.p (fdL l)),(3,.sl 0 3 0 l.length),(4,.p (.int .i64 a.i))]) (λa=>a.h) (FilI true 0 3 (l.map Fd.cs) zFd) (λa=>l.length-a.i) ⟨0,[.row 3 (List.replicate l.length [.p (.str []),.nils,.nils])]⟩
  (FilI.init rfl (by simp) (.p _ (λ_=>rfl) (.nils 1 (.nils 5 .nil))) rfl) ?_ ?_
 ·exact aA (by simp) (by simp[below,hsl])
 ·rintro⟨i,hh⟩ hI
  simp-implicitDefEqProofs[hsl]
  refine aY (λh1=>?_) (λh1=>?_)
  ·simp at h1
   have hg:=Rv h1
   have hH:=H l[i] (RB h1)
   have hcs:=l[i].cs_eq'
   have hD':(l.map Fd.cs)[i]?=some l[i].cs:=by rw[RH,hg];rfl
   generalize l[i]=e at hg hH hcs hD'
   have hA:=AC.mkLift ec hH (h:=hh) (by rw[hcs];simp)
   rw[hcs] at hA
   simp-implicitDefEqProofs[hg,hcs]
   refine hA.mono ?_
   rintro r h2 ⟨vs,I2,os,rfl,e2,ho,nd,hf⟩
   rw[←hcs] at ho
   obtain⟨rows,r0,k1,k2,k3,k4,k5,k6⟩:=hI.step hD' e2 ho nd hf e.cs_len
   obtain⟨A,B,I3,I4,rfl,_,hA1,hA2⟩:=EB ho
   obtain⟨c1,c2⟩:=bh hA1
   obtain⟨c3,c4⟩:=bh hA2
   obtain⟨z1,z2,z3,rfl⟩:=Qv k3
   have hll:0<h2.length:=(Ry.1 k1).1
   simp-implicitDefEqProofs[-AV.cells,-AV.isCell,aM,af,aj,aN,ae,c1,c2,c3,c4,aa,k1,k2,h1,eA]
   refine⟨_,k6,by simp;omega,aA (by simp) ?_⟩
   simp[below,hsl,w1 (i:=i) (by omega)]
   omega
  ·simp at h1
   obtain⟨rows,J,hr⟩:=hI.done (by simpa using h1)
   simp-implicitDefEqProofs[]
   exact⟨_,_,rfl,hr.tree (by simp),hr.nd⟩
theorem Nn(e:Fd)(hb:e.sz<=1048576):AC Tryz.prog G fZ [.agg (e.cs.map .p)] [] (MkW .agg true e.cs):=by
 have hec:=e.cs_eq'
 have hsz:e.sz=1+e.name.length+(e.params.length+(e.params.map List.length).sum)+aF e.body:=rfl
 have hA:AC Tryz.prog G dq [.p (aE e.params)] [] (MkW bC true [aE e.params]):=(tL G e.params (by omega)).mono λx h ⟨h1,h2⟩=>⟨[.sl 0 1 0 e.params.length],[0],by rw[h1];rfl,As (by rw[h2];rfl) rfl,by simp⟩
 have hB:=Gk G e.body (by omega)
 refine AC.go ue ?_
 simp-implicitDefEqProofs[mV,hec]
 refine(AC.mkLift eb hA (by simp)).mono ?_
 rintro r h2 ⟨vs,I1,os1,rfl,e2,o1,n1,f1⟩
 obtain⟨A,rfl⟩:=aO o1
 obtain⟨c1,c2⟩:=bh o1
 have l1:=λi (hi:i∈I1)=>o1.lt hi
 simp at f1
 subst e2
 simp at l1
 simp-implicitDefEqProofs[-AV.cells,-AV.isCell,aM,af,aj,aN,ae,c1,c2,aa,bC]
 refine(AC.mkLift eb hB (by simp)).mono ?_
 rintro r h2 ⟨vs,I2,os2,rfl,e2,o2,n2,f2⟩
 obtain⟨B,rfl⟩:=aO o2
 obtain⟨c3,c4⟩:=bh o2
 simp at f2
 subst e2
 simp-implicitDefEqProofs[-AV.cells,-AV.isCell,aM,af,aj,aN,ae,c1,c2,c3,c4,aa,bC]
 simp only[Sh,List.nil_append,RT] at o1 o2
 refine⟨_,I1++I2,rfl,?_,tj (os1.length+3) n1 n2 (λi hi=>by have:=l1 i hi;omega) (λi hi=>by have:=f2 i hi;omega)⟩
 refine ND (fr3 (r:=os2) o1 f1) ?_
 have:=fr3 (r:=[]) (a':= .row 3 [[.p (.str e.name),.p (aE e.params),.p (smL e.body)]]) (b':= .row 3 [[.p (.str e.name),A,B]]) (c':= .row 3 [[.p (.str e.name),A,B]]) o2 (λi hi=>by have:=f2 i hi;omega)
 rwa[Sd] at this
theorem CZ(l:List Fd)(hb:bt l<=1048576):AC Tryz.prog G bL [.agg [.p (fdL l)]] [] (MkW .agg true [fdL l]):=by
 have hA:=Mn G l (by have:=cU l;omega) (λe he=>Nn G e (by have:=dr he;omega))
 refine AC.go ln ?_
 simp-implicitDefEqProofs[gN]
 refine(AC.mkLift eb hA (by simp)).mono ?_
 rintro r h2 ⟨vs,I1,os1,rfl,e2,o1,n1,f1⟩
 obtain⟨A,rfl⟩:=aO o1
 obtain⟨c1,c2⟩:=bh o1
 simp at f1
 subst e2
 simp-implicitDefEqProofs[-AV.cells,-AV.isCell,aM,af,aj,aN,ae,c1,c2,aa,bC]
 have:=fr3 (r:=[]) (a':= .row 1 [[.p (fdL l)]]) (b':= .row 1 [[A]]) (c':= .row 1 [[A]]) o1 f1
 rw[Sd] at this
 exact⟨_,I1,rfl,this,n1⟩
end
section
theorem zt:AK.whole kI=FK.ak kL:=rfl
theorem yr:AK.whole jm=FK.ak jW:=rfl
variable (G:ay)
theorem tF{l:List Ex}{j:Nat}(h:j<l.length):aX (l.take (j+1))=aX (l.take j)++[dm l[j]]:=by
 rw[aq h,dT,dT,Sw];rfl
theorem mr(l:List Ex):(aX l).length=l.length:=by rw[dT,RM]
theorem JC:∀(d:Nat) (e:Ex),aT d e=true->e.sz<=1099511627776->VF Tryz.prog G hZ [.agg (e.cs.map .p)] (.agg ((dm e).cs.map .p)):=by
 intro d
 induction d with
 |zero=>intro e h;cases h
 |succ d ih=>
  intro e hf hz
  have hzz:=e.sz_eq
  have hlen:=aP e.kids
  have hc:=e.cs_eq
  have hxl:∀l,exL l= .lst 4 (l.map Ex.cs):=λ_=>rfl
  refine AC.goK zx zt ?_
  rw[Ci]
  simp-implicitDefEqProofs[kI,kL,hc]
  refine az (λj:Nat=>am 26 [(1,.ptr 0 4 0 0),(2,.ptr 1 4 0 0),(3,.sl 2 4 0 j),(4,.p (.int .i64 j))])
   (λj=>[.row 4 [[.p (.int .i64 e.op),.p (.int .i64 e.n),.p (.str e.name),.p (exL e.kids)]],.row 4 [[.p (.int .i64 0),.p (.int .i64 0),.p (.str []),.nils]],.row 4 (exR (aX (e.kids.take j)))])
   (λj=>j<=e.kids.length) (λj=>e.kids.length-j) 0 (by simp) ?_ ?_
  ·refine ab (h:=[_,_,.row 4 []]) (by simp) (by simp[okO,below]) (by simp[below])
  intro j hj
  have hrl:(exR (aX (e.kids.take j))).length=j:=by rw[uJ,mr];simp;omega
  simp-implicitDefEqProofs[hxl]
  refine aY (λh=>?_) (λh=>?_)
  ·simp at h
   have hg:=Rv h
   have hks:=aC (RB h)
   have hkc:=(dm e.kids[j]).cs_eq
   simp-implicitDefEqProofs[hg]
   refine(ih e.kids[j] (eN hf (RB h)) (by omega)).use ?_
   simp-implicitDefEqProofs[hkc,hrl]
   refine⟨⟨by omega,by omega⟩,j+1,by omega,by omega,?_⟩
   have htk:List.take j (exR (aX (e.kids.take j)))=exR (aX (e.kids.take j)):=RF (by omega)
   rw[tF h,uH,htk]
   have h1:exR [dm e.kids[j]]=[[.p (.int .i64 (dm e.kids[j]).op),.p (.int .i64 (dm e.kids[j]).n),.p (.str (dm e.kids[j]).name),.p (exL (dm e.kids[j]).kids)]]:=by rw[exR,List.map_singleton,hkc];rfl
   rw[h1]
   refine gf [0,1,4] (by simp) (by decide) (by decide) (aU rfl (by simp[below]) (aU rfl (by simp[below]) (aU rfl (λx hx=>?_) bJ))) (by simp[below,ren,hxl,w1 (i:=j) (by omega)])
   rcases RG.1 hx with h|h
   ·exact lL _ x h
   ·rw[RL.1 h];simp
  ·simp at h
   have hje:j=e.kids.length:=by omega
   subst hje
   rw[RR] at hrl⊢
   simp-implicitDefEqProofs[]
   refine kN (am 26 [(1,.ptr 0 4 0 0),(2,.ptr 1 4 0 0)]) [.row 4 [[.p (.int .i64 e.op),.p (.int .i64 e.n),.p (.str e.name),.p (exL (aX e.kids))]],.row 4 [[.p (.int .i64 0),.p (.int .i64 0),.p (.str []),.nils]]] ?_ ?_
   ·simp-implicitDefEqProofs[]
    refine md 2 (by omega) (by simp) rfl (.one (.keep (by simp[below]) (.keep (by simp[below]) (.keep (by simp[below]) (.one ?_ .nil)))) (.same (by simp[okO,below]) (.nil _))) ?_
    ·have hl2:=mr e.kids
     rw[←hl2]
     exact rM rfl
    ·exact⟨.keep (by simp[below]) .nil,.keep (by simp[below]) .nil,trivial⟩
   have H:VF Tryz.prog G ip [.agg [.p (.int .i64 e.op),.p (.int .i64 e.n),.p (.str e.name),.p (exL (aX e.kids))]] (.agg ((fV e.op e.n e.name (aX e.kids)).cs.map .p)):=by
    have H0:=IS G (vM hf) (by
     have h2:=lM e.kids
     rw[Ex.sz_eq]
     show 1+e.name.length+cb (aX e.kids)<=_
     omega)
    rw[Ex.cs_eq (.mk e.op e.n e.name (aX e.kids))] at H0
    exact H0
   simp-implicitDefEqProofs[]
   refine H.use ?_
   have hq:=(fV e.op e.n e.name (aX e.kids)).cs_eq
   rw[hq]
   simp-implicitDefEqProofs[]
theorem CG{l:List Sm}{j:Nat}(h:j<l.length):aZ (l.take (j+1))=aZ (l.take j)++[sk l[j]]:=by
 rw[aq h,lK,lK,Sw];rfl
theorem yl(l:List Sm):(aZ l).length=l.length:=by rw[lK,RM]
theorem tZ(l:List Sm)(hf:∀x∈l,∀a∈x.args,aT 6 a=true)(hz:aF l<=1099511627776)
 (ih:∀x∈l,VF Tryz.prog G bz [.p (smL x.body)] (.p (smL (aZ x.body)))/\VF Tryz.prog G bz [.p (smL x.els)] (.p (smL (aZ x.els)))):VF Tryz.prog G bz [.p (smL l)] (.p (smL (aZ l))):=by
 have hll:=bi l
 have hsl:∀l,smL l= .lst 5 (l.map Sm.cs):=λ_=>rfl
 have hxl:∀l,exL l= .lst 4 (l.map Ex.cs):=λ_=>rfl
 have key:AC Tryz.prog G bz [.p (smL l)] [] λx h=>∃v,x= .ret v/\View h v (smL (aZ l)):=by
  refine AC.goK vr yr ?_
  simp-implicitDefEqProofs[jm,jW]
  refine az (λi:Nat=>am 51 [(0,.p (smL l)),(3,.sl 0 5 0 i),(4,.p (.int .i64 i))]) (λi=>[.row 5 (smR (aZ (l.take i)))])
   (λi=>i<=l.length) (λi=>l.length-i) 0 (by simp) ?_ ?_
  ·refine ab (h:=[.row 5 []]) (by simp) (by simp[okO,below]) (by simp[below])
  intro i hi
  have hol:(smR (aZ (l.take i))).length=i:=by rw[BA,yl];simp;omega
  simp-implicitDefEqProofs[hsl]
  refine aY (λh=>?_) (λh=>?_)
  ·simp at h
   have hg:=Rv h
   have hat:=Ba h
   have hse:=l[i].cs_eq
   have hsz:=l[i].sz_eq
   have hfx:=hf l[i] (RB h)
   have hix:=ih l[i] (RB h)
   have eR:=CG h
   have hfc:=(sk l[i]).cs_eq
   rw[yH] at hfc
   simp only[Sm.op,Sm.name,Sm.args,Sm.body,Sm.els] at hfc
   generalize hgs:l[i]=s at hg hat hse hsz hfx hix eR hfc
   generalize aZ (l.take i)=out at hol eR⊢
   simp-implicitDefEqProofs[hg,hse]
   refine az (λj:Nat=>am 51 [(0,.p (smL l)),(3,.sl 0 5 0 i),(4,.p (.int .i64 i)),(5,.ptr 1 5 0 0),(6,.sl 2 4 0 j),(7,.p (.int .i64 j))])
    (λj=>[.row 5 (smR out),.row 5 [[.p (.int .i64 s.op),.p (.str s.name),.p (exL s.args),.p (smL s.body),.p (smL s.els)]],.row 4 (exR (aX (s.args.take j)))])
    (λj=>j<=s.args.length) (λj=>s.args.length-j) 0 (by simp) ?_ ?_
   ·refine ab (h:=[_,_,.row 4 []]) (by simp) (al (cM (bv out)) (al (by simp[okO,below]) (by simp[okO,below]))) (by simp[below,hsl])
   intro j hj
   have hrl:(exR (aX (s.args.take j))).length=j:=by rw[uJ,mr];simp;omega
   have hal:=aP s.args
   simp-implicitDefEqProofs[hxl]
   refine aY (λhcc=>?_) (λhcc=>?_)
   ·simp at hcc
    have hga:=Rv hcc
    have hks:=aC (RB hcc)
    have hkc:=(dm s.args[j]).cs_eq
    simp-implicitDefEqProofs[hga]
    refine(JC G 6 s.args[j] (hfx _ (RB hcc)) (by omega)).use ?_
    simp-implicitDefEqProofs[hkc,hrl]
    refine⟨⟨by omega,by omega⟩,j+1,by omega,by omega,?_⟩
    have htk:List.take j (exR (aX (s.args.take j)))=exR (aX (s.args.take j)):=RF (by omega)
    rw[tF hcc,uH,htk]
    have h1:exR [dm s.args[j]]=[[.p (.int .i64 (dm s.args[j]).op),.p (.int .i64 (dm s.args[j]).n),.p (.str (dm s.args[j]).name),.p (exL (dm s.args[j]).kids)]]:=by rw[exR,List.map_singleton,hkc];rfl
    rw[h1]
    refine gf [0,1,4] (by simp) (by decide) (by decide) (aU rfl (bv out) (aU rfl (by simp[below]) (aU rfl (λx hx=>?_) bJ))) (by simp[below,ren,hxl,hsl,w1 (i:=j) (by omega)])
    rcases RG.1 hx with h|h
    ·exact lL _ x h
    ·rw[RL.1 h];simp
   simp at hcc
   have hje:j=s.args.length:=by omega
   subst hje
   rw[RR] at hrl⊢
   simp-implicitDefEqProofs[]
   refine kN (am 51 [(0,.p (smL l)),(3,.sl 0 5 0 i),(4,.p (.int .i64 i)),(5,.ptr 1 5 0 0)])
    [.row 5 (smR out),.row 5 [[.p (.int .i64 s.op),.p (.str s.name),.p (exL (aX s.args)),.p (smL s.body),.p (smL s.els)]]] ?_ ?_
   ·simp-implicitDefEqProofs[]
    refine md 2 (by omega) (by simp) rfl (.same (cM (bv out)) (.one (.keep (by simp[below]) (.keep (by simp[below]) (.one ?_ (.keep (by simp[below]) (.keep (by simp[below]) .nil))))) (.nil _))) ?_
    ·have hl2:=mr s.args
     rw[←hl2]
     exact rM rfl
    ·exact⟨.keep (by simp[below]) .nil,.keep (by simp[below]) .nil,.keep (by simp[below]) .nil,.keep (by simp[below]) .nil,trivial⟩
   simp-implicitDefEqProofs[]
   refine hix.1.use ?_
   simp-implicitDefEqProofs[]
   refine hix.2.use ?_
   simp-implicitDefEqProofs[hol]
   refine⟨⟨by omega,by omega⟩,i+1,by omega,by omega,?_⟩
   have htk:List.take i (smR out)=smR out:=RF (by omega)
   rw[eR,AT,htk]
   have h1:smR [sk s]=[[.p (.int .i64 s.op),.p (.str s.name),.p (exL (aX s.args)),.p (smL (aZ s.body)),.p (smL (aZ s.els))]]:=by rw[smR,List.map_singleton,yH,Sm.cs_eq];rfl
   rw[h1]
   refine gf [3] (by simp) (by decide) (by decide) (aU rfl (λx hx=>?_) bJ) (by simp[below,ren,hsl,w1 (i:=i) (by omega)])
   rcases RG.1 hx with h|h
   ·exact bv out x h
   ·rw[RL.1 h];simp
  ·simp at h
   have hie:i=l.length:=by omega
   subst hie
   rw[RR] at hol⊢
   simp-implicitDefEqProofs[]
   have hl2:=yl l
   rw[←hl2]
   exact lF rfl
 refine key.freezeR (λt v h ⟨_,e,_⟩=>by cases e) λv h ⟨u,e1,e2⟩=>?_
 cases e1
 exact .one e2 .nil
theorem GA:∀(d:Nat) (l:List Sm),(∀x∈l,aB d x=true)->aF l<=1099511627776->VF Tryz.prog G bz [.p (smL l)] (.p (smL (aZ l))):=by
 intro d
 induction d with
 |zero=>
  intro l hf hz
  exact tZ G l (λx hx=>by have:=hf x hx;cases this) hz (λx hx=>by have:=hf x hx;cases this)
 |succ d ih=>
  intro l hf hz
  refine tZ G l (λx hx=>Er (hf x hx)) hz (λx hx=>?_)
  have h1:=aQ hx
  have h2:=x.sz_eq
  exact⟨ih x.body (pY (hf x hx)) (by omega),ih x.els (tl (hf x hx)) (by omega)⟩
end
section
theorem zm:AK.whole kJ=FK.ak kT:=rfl
def nb7(l:List Sm):Prop:=∀x∈l,x.op≠7
theorem tx:∀{a b:List Sm},nb7 a->bg (a++b)=bg a++bg b
 |[],b,_=>by rw[bg];rfl
 |x::r,b,h=>by
  have h2:=tx (a:=r) (b:=b) (λy hy=>h y (by simp[hy]))
  rw[Sh,mh,mh,if_neg (h x (by simp)),if_neg (h x (by simp)),h2]
  split<;>rfl
theorem sP{x:Sm}{r:List Sm}:bg (x::r)=if tY x=true then bg r else if x.op=7 then[fv x] else fv x::bg r:=by
 rw[mh]
 split
 ·rfl
 ·split<;>rfl
theorem zX:∀l:List Sm,(bg l).length<=l.length
 |[]=>by rw[bg];exact RC _
 |x::r=>by
  have h:=zX r
  rw[mh]
  split
  ·simp;omega
  ·split
   ·simp
   ·simp;exact h
theorem KQ(x:Sm):(fv x).cs=[.int .i64 x.op,.str x.name,exL x.args,smL (fv x).body,smL (fv x).els]:=by rw[Sm.cs_eq,Lu,Hb,FZ]
variable (G:ay)
theorem yM(l:List Sm)(hf:∀x∈l,x.args≠[])(hz:aF l<=1099511627776)
 (ih:∀x∈l,VF Tryz.prog G bP [.p (smL x.body)] (.p (smL (bg x.body)))/\VF Tryz.prog G bP [.p (smL x.els)] (.p (smL (bg x.els)))):VF Tryz.prog G bP [.p (smL l)] (.p (smL (bg l))):=by
 have hll:=bi l
 have hsl:∀l,smL l= .lst 5 (l.map Sm.cs):=λ_=>rfl
 have hxl:∀l,exL l= .lst 4 (l.map Ex.cs):=λ_=>rfl
 have key:AC Tryz.prog G bP [.p (smL l)] [] λx h=>∃v,x= .ret v/\View h v (smL (bg l)):=by
  refine AC.goK zd zm ?_
  simp-implicitDefEqProofs[kJ,kT]
  refine az (λi:Nat=>am 60 [(0,.p (smL l)),(3,.sl 0 5 0 (bg (l.take i)).length),(4,.p (.int .i64 i))]) (λi=>[.row 5 (smR (bg (l.take i)))])
   (λi=>i<=l.length/\nb7 (l.take i)) (λi=>l.length-i) 0 ⟨by simp,λx hx=>by simp at hx⟩ ?_ ?_
  ·have e0:bg (l.take 0)=[]:=by rw[List.take_zero,bg]
   rw[e0]
   refine ab (h:=[.row 5 []]) (by simp) (by simp[okO,below]) (by simp[below])
  rintro i ⟨hi,hnb⟩
  have hol:(smR (bg (l.take i))).length=(bg (l.take i)).length:=by rw[BA]
  have hle:(bg (l.take i)).length<=i:=by have:=zX (l.take i);rw[RZ] at this;omega
  simp-implicitDefEqProofs[hsl]
  refine aY (λh=>?_) (λh=>?_)
  ·simp at h
   have hg:=Rv h
   have hat:=Ba h
   have hse:=l[i].cs_eq
   have hsz:=l[i].sz_eq
   have hfx:=hf l[i] (RB h)
   have hix:=ih l[i] (RB h)
   have htk:=aq h
   have hdr:=List.drop_eq_getElem_cons h
   have hsplit:=Si i l
   generalize hgs:l[i]=s at hg hat hse hsz hfx hix htk hdr
   have hcs:=KQ s
   obtain⟨a,r,ha⟩:∃a r,s.args=a::r:=by
    match hx:s.args,hfx with
    |a::r,_=>exact⟨a,r,rfl⟩
   have hac:=a.cs_eq
   have HI:=vh G a 0
   rw[hac] at HI
   simp only[Sb,List.map_nil] at HI
   have hNa:∀n,Bz s n=isN a n:=λn=>by rw[Bz,ha]
   have hCa:JH s=decide (a.op=1):=by rw[JH,ha]
   have hzl:tY s=(decide (s.op=6)&&isN a 0):=by rw[tY,hNa]
   have eall:bg l=bg (l.take i)++bg (s::l.drop (i+1)):=by
    conv=>lhs;rw[←hsplit,hdr]
    exact tx hnb
   have enxt:bg (l.take (i+1))=bg (l.take i)++bg [s]:=by rw[htk];exact tx hnb
   generalize bg (l.take i)=out at hol hle eall enxt⊢
   simp-implicitDefEqProofs[hg,hse,hxl,ha,hac]
   refine hix.1.use ?_
   simp-implicitDefEqProofs[]
   refine hix.2.use ?_
   simp-implicitDefEqProofs[]
   refine ry (λ_:Unit=>am 60 [(0,.p (smL l)),(3,.sl 0 5 0 out.length),(4,.p (.int .i64 i)),(5,.ptr 1 5 0 0),(6,.ptr 2 4 0 0)])
    (λ_=>[AO.row 5 (smR out),.row 5 [[.p (.int .i64 s.op),.p (.str s.name),.p (.lst 4 ([.int .i64 a.op,.int .i64 a.n,.str a.name,.lst 4 (a.kids.map Ex.cs)]::r.map Ex.cs)),.p (smL (bg s.body)),.p (smL (bg s.els))]],.row 4 [[.p (.int .i64 a.op),.p (.int .i64 a.n),.p (.str a.name),.p (.lst 4 (a.kids.map Ex.cs))]]])
    (λ_=>tY s=false) ?_ ?_
   ·by_cases o6:s.op=6
    ·simp-implicitDefEqProofs[o6]
     refine HI.use ?_
     by_cases h0:isN a 0=true
     ·have ez:tY s=true:=by rw[hzl,h0,o6];rfl
      have e1:bg [s]=[]:=by rw[sP,if_pos ez,bg]
      rw[e1,Sd] at enxt
      simp-implicitDefEqProofs[h0]
      refine⟨i+1,⟨by omega,?_⟩,by omega,?_⟩
      ·rw[htk]
       intro x hx
       rcases RG.1 hx with hx|hx
       ·exact hnb x hx
       ·rw[RL.1 hx,o6];omega
      ·rw[enxt]
       refine dt [0] rfl (by decide) (aU rfl (bv out) bJ) (by simp[below,ren,hsl,w1 (i:=i) (by omega)])
     ·have h0:isN a 0=false:=by simpa using h0
      simp-implicitDefEqProofs[h0,hzl]
      exact ab (by simp) (al (cM (bv out)) (al (by simp[okO,below]) (al (by simp[okO,below]) ee))) (by simp[below,hsl])
    ·simp-implicitDefEqProofs[o6,hzl]
     exact ab (by simp) (al (cM (bv out)) (al (by simp[okO,below]) (al (by simp[okO,below]) ee))) (by simp[below,hsl])
   intro _ hzf
   refine kN (am 60 [(0,.p (smL l)),(3,.sl 0 5 0 out.length),(4,.p (.int .i64 i)),(5,.ptr 1 5 0 0)])
    [AO.row 5 (smR out),.row 5 [[.p (.int .i64 s.op),.p (.str s.name),.p (.lst 4 ([.int .i64 a.op,.int .i64 a.n,.str a.name,.lst 4 (a.kids.map Ex.cs)]::r.map Ex.cs)),.p (smL (fv s).body),.p (smL (fv s).els)]]] ?_ ?_
   ·rw[Ld,Jk,hNa,hCa]
    by_cases o5:s.op=5
    ·by_cases a1:a.op=1
     ·by_cases a0:a.n=0
      ·have hn:isN a 0=true:=isN_iff.2 ⟨a1,a0⟩
       simp-implicitDefEqProofs[o5,a1,a0,hn]
       refine md 2 (by omega) (by simp) rfl (.same (cM (bv out)) (.one (.keep (by simp[below]) (.keep (by simp[below]) (.keep (by simp[below]) (.one ?_ (.keep (by simp[below]) .nil))))) (.nil _))) ?_
       ·exact lF (l:=[]) rfl
       ·exact⟨.keep (by simp[below,hsl]) .nil,.keep (by simp[below]) .nil,.keep (by simp[below]) .nil,.keep (by simp[below]) .nil,trivial⟩
      ·have hn:isN a 0=false:=by
        rw[isN];simp[a1,a0]
       simp-implicitDefEqProofs[o5,a1,a0,hn]
       refine md 2 (by omega) (by simp) rfl (.same (cM (bv out)) (.one (.keep (by simp[below]) (.keep (by simp[below]) (.keep (by simp[below]) (.keep (by simp[below]) (.one ?_ .nil))))) (.nil _))) ?_
       ·exact lF (l:=[]) rfl
       ·exact⟨.keep (by simp[below,hsl]) .nil,.keep (by simp[below]) .nil,.keep (by simp[below]) .nil,.keep (by simp[below]) .nil,trivial⟩
     ·have hn:isN a 0=false:=by
       rw[isN];simp[a1]
      simp-implicitDefEqProofs[o5,a1,hn]
      exact dt [0,1] rfl (by decide) (aU rfl (bv out) (aU rfl (by simp[below]) bJ)) (by simp[below,ren,hsl])
    ·simp-implicitDefEqProofs[o5]
     exact dt [0,1] rfl (by decide) (aU rfl (bv out) (aU rfl (by simp[below]) bJ)) (by simp[below,ren,hsl])
   simp-implicitDefEqProofs[hol]
   refine⟨⟨by omega,by omega⟩,?_⟩
   have htk2:List.take out.length (smR out)=smR out:=RF (by omega)
   have h1:smR [fv s]=[[.p (.int .i64 s.op),.p (.str s.name),.p (.lst 4 ([.int .i64 a.op,.int .i64 a.n,.str a.name,.lst 4 (a.kids.map Ex.cs)]::r.map Ex.cs)),.p (smL (fv s).body),.p (smL (fv s).els)]]:=by
    have e3:exL s.args= .lst 4 ([.int .i64 a.op,.int .i64 a.n,.str a.name,.lst 4 (a.kids.map Ex.cs)]::r.map Ex.cs):=by rw[ha,hxl,Sb,hac,hxl]
    rw[smR,List.map_singleton,hcs,e3];rfl
   have h2:smR out++[[.p (.int .i64 s.op),.p (.str s.name),.p (.lst 4 ([.int .i64 a.op,.int .i64 a.n,.str a.name,.lst 4 (a.kids.map Ex.cs)]::r.map Ex.cs)),.p (smL (fv s).body),.p (smL (fv s).els)]]=smR (out++[fv s]):=by rw[AT,h1]
   rw[htk2,h2]
   refine aY (λh7=>?_) (λh7=>?_)
   ·simp at h7
    have e1:bg l=out++[fv s]:=by rw[eall,sP,if_neg (by rw[hzf];simp),if_pos h7]
    have e2:out.length+1=(bg l).length:=by rw[e1];simp
    simp-implicitDefEqProofs[]
    rw[←e1,e2]
    exact lF rfl
   ·simp at h7
    have e1:bg [s]=[fv s]:=by rw[sP,if_neg (by rw[hzf];simp),if_neg h7,bg]
    rw[e1] at enxt
    have e2:out.length+1=(out++[fv s]).length:=by simp
    simp-implicitDefEqProofs[]
    refine⟨i+1,⟨by omega,?_⟩,by omega,?_⟩
    ·rw[htk]
     intro x hx
     rcases RG.1 hx with hx|hx
     ·exact hnb x hx
     ·rw[RL.1 hx];exact h7
    ·rw[enxt]
     refine gf [3] (by simp) (by decide) (by decide) (aU rfl (bv _) bJ) (by simp[below,ren,hsl,w1 (i:=i) (by omega)])
  ·simp at h
   have hie:i=l.length:=by omega
   subst hie
   rw[RR] at hol⊢
   simp-implicitDefEqProofs[]
   exact lF rfl
 refine key.freezeR (λt v h ⟨_,e,_⟩=>by cases e) λv h ⟨u,e1,e2⟩=>?_
 cases e1
 exact .one e2 .nil
theorem IW{d:Nat}{x:Sm}(h:aB d x=true):x.args≠[]:=by
 obtain⟨d,rfl⟩:=pP h
 rw[aB,RK,RK] at h
 have h1:=h.1.1
 simp only[gF,RK,decide_eq_true_eq] at h1
 have h2:=h1.1.1.1.1.1.1.2
 intro e
 rw[e] at h2
 simp only[List.length_nil,ku] at h2
 split at h2<;>omega
theorem JX:∀(d:Nat) (l:List Sm),(∀x∈l,aB d x=true)->aF l<=1099511627776->VF Tryz.prog G bP [.p (smL l)] (.p (smL (bg l))):=by
 intro d
 induction d with
 |zero=>
  intro l hf hz
  exact yM G l (λx hx=>by have:=hf x hx;cases this) hz (λx hx=>by have:=hf x hx;cases this)
 |succ d ih=>
  intro l hf hz
  refine yM G l (λx hx=>IW (hf x hx)) hz (λx hx=>?_)
  have h1:=aQ hx
  have h2:=x.sz_eq
  exact⟨ih x.body (pY (hf x hx)) (by omega),ih x.els (tl (hf x hx)) (by omega)⟩
end
section
def PC(x:Sm):Sm:= .mk x.op x.name x.args (if x.op=5/\Bz x 0=true then[] else x.body) (if x.op=5/\Bz x 0=false/\JH x=true then[] else x.els)
def Ds:List Sm->List Sm
 |[]=>[]
 |x::r=>if tY x=true then Ds r else PC x::(if x.op=7 then[] else Ds r)
def inS(H:List Sm->List Sm)(x:Sm):Sm:= .mk x.op x.name x.args (H x.body) (H x.els)
variable (G:ay)
end
section
section
variable {s:Bool} {h:List AO} {id sz:Nat} {rows:List (List AV)} {D:List (List PV)} {J:List Nat}
theorem Dr:∀{rows:List (List AV)} {D:List (List PV)} {J:List Nat},rows.length=D.length->(∀e∈rows,e.length=sz)->(∀e∈D,e.length=sz)->OwnL s h rows.flatten D.flatten J->
 ∃Js:List (List Nat),Js.length=D.length/\J=Js.flatten/\∀(i:Nat) (r:List AV) (d:List PV) (js:List Nat),rows[i]?=some r->D[i]?=some d->Js[i]?=some js->OwnL s h r d js
 |[],[],J,_,_,_,H=>by
  cases H
  exact⟨[],rfl,rfl,λi r d js h=>by simp at h⟩
 |r::rows,d::D,J,hl,hr,hd,H=>by
  rw[Sf,Sf] at H
  obtain⟨I1,I2,rfl,h1,h2⟩:=OwnL.split H (by rw[hr r (by simp),hd d (by simp)])
  obtain⟨Js,e1,rfl,e3⟩:=Dr (by simpa using hl) (λe he=>hr e (by simp[he])) (λe he=>hd e (by simp[he])) h2
  refine⟨I1::Js,by simp[e1],rfl,λi r' d' js' q1 q2 q3=>?_⟩
  cases i with
  |zero=>cases q1;cases q2;cases q3;exact h1
  |succ i=>exact e3 i r' d' js' (by simpa using q1) (by simpa using q2) (by simpa using q3)
 |[],_::_,_,hl,_,_,_=>by simp at hl
 |_::_,[],_,hl,_,_,_=>by simp at hl
end
variable (G:ay)
def CbI(h:List AO)(Js:List (List Nat))(l:List Sm)(X:List AO)(i:Nat)(K:AV):Prop:=
 (Ds (l.take i)=[]/\K= .nils)\/∃oid rowsO Jo,K= .sl oid 5 0 (Ds (l.take i)).length/\RowOwn true X oid 5 rowsO ((Ds (l.take i)).map Sm.cs) Jo/\h.length<=oid/\∀j∈Jo,j∈(Js.take i).flatten
def Rd(h:List AO)(I:List Nat)(l:List Sm)(x:ARes)(h':List AO):Prop:=∃v' I' os,x= .ret v'/\h'=h++os/\OwnL true h' [v'] [smL (Ds l)] I'/\I'.Nodup/\∀i∈I',i∈I\/h.length<=i
theorem CbI.fin{h:List AO}{Js:List (List Nat)}{l:List Sm}{os:List AO}{K:AV}{id:Nat}(H:CbI h Js l (h++os) l.length K):Rd h (id::Js.flatten) l (.ret K) (h++os):=by
 rcases H with⟨e,rfl⟩|⟨oid,rowsO,Jo,rfl,hr,ho,hj⟩
 ·rw[RR] at e
  exact⟨_,[],os,rfl,rfl,by rw[e];exact .nils 5 .nil,List.nodup_nil,λi hi=>by simp at hi⟩
 ·rw[RR] at hr⊢
  refine⟨_,oid::Jo,os,rfl,rfl,hr.tree (by simp),hr.nd,λi hi=>?_⟩
  rcases Sa.1 hi with rfl|hi
  ·exact .inr ho
  ·have:=hj i hi
   obtain⟨x,hx,hi⟩:=List.mem_flatten.1 this
   exact .inl (List.mem_cons_of_mem _ (List.mem_flatten.2 ⟨x,Sn hx,hi⟩))
theorem CbI.below{h:List AO}{Js:List (List Nat)}{l:List Sm}{X:List AO}{i:Nat}{K:AV}(H:CbI h Js l X i K){n:Nat}(hn:X.length<=n):Aw.below n K:=by
 rcases H with⟨_,rfl⟩|⟨oid,_,_,rfl,hr,_⟩
 ·trivial
 ·simp only[Aw.below];have:=hr.lt;omega
theorem CbI.more{h:List AO}{Js:List (List Nat)}{l:List Sm}{X:List AO}{i j:Nat}{K:AV}(H:CbI h Js l X i K)(e:Ds (l.take j)=Ds (l.take i))(hj:∀x∈(Js.take i).flatten,x∈(Js.take j).flatten)(t:List AO):CbI h Js l (X++t) j K:=by
 rcases H with⟨e0,rfl⟩|⟨oid,rowsO,Jo,rfl,hr,ho,h2⟩
 ·exact .inl ⟨by rw[e,e0],rfl⟩
 ·exact .inr ⟨oid,rowsO,Jo,by rw[e],by rw[e];exact hr.more t,ho,λx hx=>hj x (h2 x hx)⟩
end
section
theorem It{ρ:List Nat}{h:List AO}:∀{p1:List Nat} {a:List AO} {p2:List Nat} {b:List AO},HW ρ h p1 a->HW ρ h p2 b->HW ρ h (p1++p2) (a++b)
 |[],[],_,_,_,H=>H
 |i::p1,o::a,_,_,h1,H=>⟨h1.1,h1.2.1,It h1.2.2 H⟩
 |[],_::_,_,_,h1,_=>h1.elim
 |_::_,[],_,_,h1,_=>h1.elim
theorem Mv{ρ:List Nat}{n:Nat}{h0 rest:List AO}(hρ:n<=ρ.length)(hσ:∀i,i<n->ρ.getD i 0=i)(hn:h0.length=n)(ho:∀o∈h0,okO n o):HW ρ (h0++rest) (List.range' 0 n) h0:=by
 have key:∀(l:List AO) (k:Nat),k+l.length=n->(∀i,l[i]?=h0[k+i]?)->HW ρ (h0++rest) (List.range' k l.length) l:=by
  intro l
  induction l with
  |nil=>intro _ _ _;exact trivial
  |cons o r ih=>
   intro k hk hg
   have h0k:=hg 0
   simp at h0k hk
   have hm:o∈h0:=RE h0k.symm
   have hget:(h0++rest)[k]?=some o:=by rw[Rz (by omega)];exact h0k.symm
   refine⟨by simp;omega,?_,ih (k+1) (by omega) λi=>by have:=hg (i+1);simp at this;rw[this];congr 1;omega⟩
   have hoo:=ho o hm
   cases o with
   |dead=>trivial
   |row sz es=>exact⟨λe he=>aw hρ _ (hoo e he),by rw[hget,RO (g:=id) λe he=>gm hσ e (hoo e he)];simp⟩
   |mp es=>exact⟨λe he=>(aw hρ [e.2] ⟨hoo e he,trivial⟩).1,by rw[hget,RO (g:=id) λe he=>by rw[kx hσ e.2 (hoo e he)];rfl];simp⟩
   |sit s p=>exact hget
 have:=key h0 0 (by omega) (λi=>by simp)
 rwa[hn] at this
theorem IK{k n:Nat}{l l1:List (Nat × AV)}{C:List AO}{sp sq:Nat}{p q:List (List AV)}(hk:k<=C.length)(hC:∀o∈C,okO C.length o)(hp:∀e∈p,an C.length e)(hq:∀e∈q,an C.length e)
 (H:∀ρ:List Nat,ρ.length=C.length+2->(∀i,i<C.length->ρ.getD i 0=i)->ρ.getD C.length 0=C.length+1->ρ.getD (C.length+1) 0=C.length->TWA ρ l l1):
 Wk k (am n l) (C++[.row sp p,.row sq q]) (am n l1) (C++[.row sq q,.row sp p]):=by
 have hl:(List.range' 0 C.length++[C.length+1,C.length]).length=C.length+2:=by simp
 have hσ:∀i,i<C.length->(List.range' 0 C.length++[C.length+1,C.length]).getD i 0=i:=λi hi=>by
  rw[RD,Rz (by simpa using hi)];simp[hi]
 have h0:(List.range' 0 C.length++[C.length+1,C.length]).getD C.length 0=C.length+1:=by
  rw[RD,RI (by simp)];simp
 have h1:(List.range' 0 C.length++[C.length+1,C.length]).getD (C.length+1) 0=C.length:=by
  rw[RD,RI (by simp)];simp
 have nd:(List.range' 0 C.length++[C.length+1,C.length]).Nodup:=by
  rw[Su]
  refine⟨List.nodup_range',by simp,λa ha b hb=>?_⟩
  simp at ha hb
  omega
 have hT:=H _ hl hσ h0 h1
 have hH:HW (List.range' 0 C.length++[C.length+1,C.length]) (C++[.row sp p,.row sq q]) (List.range' 0 C.length++[C.length+1,C.length]) (C++[.row sq q,.row sp p]):=by
  refine It (Mv (by omega) hσ rfl hC) ?_
  refine iV (λe he=>aw (by omega) _ (hq e he)) ?_ (iV (λe he=>aw (by omega) _ (hp e he)) ?_ bJ)
  ·rw[RI (by omega),RO (g:=id) λe he=>gm hσ e (hq e he)];simp
  ·rw[RI (by omega),RO (g:=id) λe he=>gm hσ e (hp e he)];simp
 exact gf _ (by omega) (λi hi=>hσ i (by omega)) nd hH hT
theorem zR{k n:Nat}{l l1:List (Nat × AV)}{h:List AO}{e z:AO}{sp sq:Nat}{p q:List (List AV)}(hk:k<=h.length)(hC:∀o∈h,okO h.length o)(he:okO h.length e)(hz:okO h.length z)(hp:∀e∈p,an h.length e)(hq:∀e∈q,an h.length e)
 (H:∀ρ:List Nat,ρ.length=h.length+4->(∀i,i<h.length+2->ρ[i]?.getD 0=i)->ρ[h.length+2]?.getD 0=h.length+3->ρ[h.length+3]?.getD 0=h.length+2->TWA ρ l l1):
 Wk k (am n l) (h++[e,z,.row sp p,.row sq q]) (am n l1) (h++[e,z,.row sq q,.row sp p]):=by
 have hl:(h++[e,z]).length=h.length+2:=by simp
 have up:∀o,okO h.length o->okO (h++[e,z]).length o:=λo ho=>by
  cases o with
  |dead=>trivial
  |row sz es=>exact λe he=>aw (by omega) _ (ho e he)
  |mp es=>exact λe he=>(aw (by omega) [e.2] ⟨ho e he,trivial⟩).1
  |sit s p=>trivial
 have:=IK (k:=k) (n:=n) (l:=l) (l1:=l1) (C:=h++[e,z]) (sp:=sp) (sq:=sq) (p:=p) (q:=q) (by omega) (λo ho=>by
  rcases RG.1 ho with h1|h1
  ·exact up o (hC o h1)
  ·simp at h1
   rcases h1 with rfl|rfl
   ·exact up _ he
   ·exact up _ hz) (λe he=>aw (by omega) _ (hp e he)) (λe he=>aw (by omega) _ (hq e he)) (λρ r0 r1 r2 r3=>by
  simp only[RD,hl] at r0 r1 r2 r3
  exact H ρ r0 r1 r2 r3)
 simpa using this
theorem AC.hbIn{P:Program}{G:ay}{f:FuncId}{args:List AV}{h:List AO}{R:ARes->List AO->Prop}(hc:iB P f=true)(H:HB h->AC P G f args h R):AC P G f args h R:=
 ⟨hc,λW S φ vs a b=>(H a.hb).2 W S φ vs a b⟩
theorem Ni{h:List AO}(H:HB h):∀o∈h,okO h.length o:=by
 intro o ho
 obtain⟨i,hi⟩:=RY ho
 cases o with
 |dead=>trivial
 |row sz es=>intro e he;exact(H.1 i sz es hi e he).2.1
 |mp es=>intro e he;exact H.2 i es hi e he
 |sit s p=>trivial
def FR(h:List AO)(I:List Nat)(e:Ex)(x:ARes)(h':List AO):Prop:=∃vs I' os,x= .ret (.agg vs)/\h'=h++os/\OwnL true h' vs e.cs I'/\I'.Nodup/\∀j∈I',j∈I\/h.length<=j
theorem FR.num(h:List AO)(I:List Nat)(q:Int)(os:List AO):FR h I (me q) (.ret (.agg [.p (.int .i64 1),.p (.int .i64 q),.p (.str []),.nils])) (h++os):=
 ⟨_,[],os,rfl,rfl,.p _ (λ_=>rfl) (.p _ (λ_=>rfl) (.p _ (λ_=>rfl) (.nils 4 .nil))),List.nodup_nil,λ_ h=>by cases h⟩
theorem FR.of{h:List AO}{I I':List Nat}{e:Ex}{K:AV}{o:Int}(eo:e.op=o)(ho:OwnL true h [K] [exL e.kids] I')(nd:I'.Nodup)(hs:∀j∈I',j∈I)(os:List AO):FR h I e (.ret (.agg [.p (.int .i64 o),.p (.int .i64 e.n),.p (.str e.name),K])) (h++os):=
 ⟨_,I',os,rfl,rfl,by rw[e.cs_eq,eo];exact .p _ (λ_=>rfl) (.p _ (λ_=>rfl) (.p _ (λ_=>rfl) (ho.more os))),nd,λj hj=> .inl (hs j hj)⟩
end
section
variable (G:ay)
theorem ji(n:Int)(h:List AO):AC Tryz.prog G bS [.p (.int .i64 n)] h λx h'=>x= .ret (.agg [.p (.int .i64 1),.p (.int .i64 n),.p (.str []),.nils])/\∃o,h'=h++[o]:=by
 refine AC.go yS ?_
 simp-implicitDefEqProofs[nt]
theorem FD{h:List AO}{id:Nat}{rows:List (List AV)}{ks:List Ex}{J:List Nat}(hr:RowOwn true h id 4 rows (ks.map Ex.cs) J):
 ∃Js:List (List Nat),Js.length=ks.length/\J=Js.flatten/\∀(i:Nat) (a:Ex) (js:List Nat),ks[i]?=some a->Js[i]?=some js->∃K,rows[i]?=some [.p (.int .i64 a.op),.p (.int .i64 a.n),.p (.str a.name),K]/\OwnL true h [K] [exL a.kids] js:=by
 obtain⟨Js,e1,e2,e3⟩:=Dr hr.len hr.rl hr.dl hr.own
 have hlen:=hr.len
 rw[RM] at hlen e1
 refine⟨Js,e1,e2,λi a js h1 h2=>?_⟩
 have hi:i<ks.length:=(Ry.1 h1).1
 have h3:rows[i]?=some rows[i]:=Rv (by omega)
 obtain⟨K,e,ho⟩:=pR (e3 i _ a.cs js h3 (by rw[RH,h1];rfl) h2)
 exact⟨K,by rw[h3,e],ho⟩
theorem DZ(hK:G de=some cX)(hS:G bx=some [PV.tbl opK opV]){d:Nat}{e:Ex}(hf:aT d e=true)(hd:d<=6)(hp30:e.parts<=30)(hz:e.sz<=1073741824)(h:List AO)(K:AV)(I:List Nat)(ho:OwnL true h [K] [exL e.kids] I)(nd:I.Nodup):
 AC Tryz.prog G iI [.agg [.p (.int .i64 e.op),.p (.int .i64 e.n),.p (.str e.name),K]] h (FR h I (fV e.op e.n e.name e.kids)):=by
 refine AC.hbIn (tX mD) λhb=>?_
 have hoko:=Ni hb
 have hxl:∀l,exL l= .lst 4 (l.map Ex.cs):=λ_=>rfl
 have hem:e= .mk e.op e.n e.name e.kids:=by cases e;rfl
 have hzz:=e.sz_eq
 have hpp:=e.parts_eq
 have hkl:=aP e.kids
 obtain⟨d,rfl⟩:=nU hf
 have hkf:∀a∈e.kids,aT d a=true:=λa ha=>eN hf ha
 have hks:∀a∈e.kids,a.sz<=1073741824:=λa ha=>by have:=aC ha;omega
 have hkx:∀a∈e.kids,gt a=true:=λa ha=>by
  rw[gt,RK,decide_eq_true_eq]
  refine⟨If (hkf a ha) (by omega),?_⟩
  have:=jo ha;omega
 have w0:IntKind.i64.wrap 0=0:=ah (by omega) (by omega)
 have w1':IntKind.i64.wrap 1=1:=ah (by omega) (by omega)
 have hsame:∀os,FR h I e (.ret (.agg [.p (.int .i64 e.op),.p (.int .i64 e.n),.p (.str e.name),K])) (h++os):=λos=>FR.of rfl ho nd (λ_ h=>h) os
 obtain⟨cK1,cK2⟩:=bh ho
 refine AC.goK mD ut ?_
 have hlk:K= .nils/\e.kids=[]\/K= .p (.lst 4 [])/\e.kids=[]\/∃id rows J,K= .sl id 4 0 e.kids.length/\I=id::J/\RowOwn true h id 4 rows (e.kids.map Ex.cs) J:=by
  have ho':=ho
  rw[hxl] at ho'
  rcases ho'.inv nd with⟨h0,_,rfl|rfl⟩|⟨hh,_⟩|⟨id,rows,J,rfl,rfl,hr⟩
  ·exact .inl ⟨rfl,SE.1 h0⟩
  ·exact .inr (.inl ⟨rfl,SE.1 h0⟩)
  ·cases hh
  ·exact .inr (.inr ⟨id,rows,J,by rw[RM],rfl,hr⟩)
 by_cases he:e.kids=[]\/e.op=13\/e.op=12
 ·have hp:fV e.op e.n e.name e.kids=e:=by
   unfold fV
   split
   ·exact hem.symm
   ·rcases he with h|h|h
    ·rw[h]
     conv=>rhs;rw[hem,h]
    ·rename_i hn;exact(hn (.inr h)).elim
    ·rename_i hn;exact(hn (.inl h)).elim
  rw[hp]
  by_cases hk0:e.kids=[]
  ·have hln:e.kids.length=0:=by rw[hk0];rfl
   rcases hlk with⟨rfl,_⟩|⟨rfl,_⟩|⟨id,rows,J,rfl,rfl,hr⟩
   ·simp-implicitDefEqProofs[bD,bm]
    exact hsame _
   ·simp-implicitDefEqProofs[bD,bm]
    exact hsame _
   ·simp-implicitDefEqProofs[bD,bm,hln]
    rw[hln] at hsame
    exact hsame _
  ·have hk':¬e.kids.length=0:=λh0=>hk0 (List.length_eq_zero_iff.1 h0)
   have hki:¬(e.kids.length:Int)=0:=by omega
   obtain⟨id,rows,J,rfl,rfl,hr⟩:∃id rows J,K= .sl id 4 0 e.kids.length/\I=id::J/\RowOwn true h id 4 rows (e.kids.map Ex.cs) J:=by
    rcases hlk with⟨_,h0⟩|⟨_,h0⟩|hh
    ·exact(hk0 h0).elim
    ·exact(hk0 h0).elim
    ·exact hh
   have hoo:e.op=13\/e.op=12:=by
    rcases he with h|h|h
    ·exact(hk0 h).elim
    ·exact .inl h
    ·exact .inr h
   rcases hoo with h|h
   ·rw[h] at hsame
    simp-implicitDefEqProofs[bD,bm,h,hk',hki,hk0]
    exact hsame _
   ·rw[h] at hsame
    simp-implicitDefEqProofs[bD,bm,h,hk',hki,hk0]
    exact hsame _
 have hne:e.kids≠[]:=λh=>he (.inl h)
 have o13:¬e.op=13:=λh=>he (.inr (.inl h))
 have o12:¬e.op=12:=λh=>he (.inr (.inr h))
 obtain⟨id,rows,J,rfl,rfl,hr⟩:∃id rows J,K= .sl id 4 0 e.kids.length/\I=id::J/\RowOwn true h id 4 rows (e.kids.map Ex.cs) J:=by
  rcases hlk with⟨_,h0⟩|⟨_,h0⟩|hh
  ·exact(hne h0).elim
  ·exact(hne h0).elim
  ·exact hh
 have hidl:=hr.lt
 have gid:∀t,(h++t)[id]?=some (.row 4 rows):=λt=>by rw[Rz hidl];exact hr.here
 have gid0:h[id]?=some (.row 4 rows):=hr.here
 have hok1:∀K',below h.length K'->∀(o n:Int) (w:List UInt8),okO h.length (.row 4 [[.p (.int .i64 o),.p (.int .i64 n),.p (.str w),K']]):=λK' hK' o n w=>by
  intro e he;rw[RL.1 he];exact⟨by simp,by simp,by simp,hK',trivial⟩
 obtain⟨Js,hJl,rfl,hJs⟩:=FD hr
 have hn:=hr.nd
 have hndJ:=(Sr.1 hn).2
 have hrl:rows.length=e.kids.length:=by have:=hr.len;rwa[RM] at this
 by_cases o11:e.op=11
 ·obtain⟨l1,l2,_⟩:=dd hf
  rw[o11] at l1 l2
  have e1:loK 11=1:=rfl
  have e2:hiK 11=1:=rfl
  rw[e1] at l1
  rw[e2] at l2
  obtain⟨a,hk⟩:∃a,e.kids=[a]:=by
   match hx:e.kids,l1,l2 with
   |[x],_,_=>exact⟨x,rfl⟩
  obtain⟨ja,rfl⟩:∃ja,Js=[ja]:=by
   rw[hk] at hJl
   match Js,hJl with
   |[x],_=>exact⟨x,rfl⟩
  obtain⟨Ka,hg0,hoA⟩:=hJs 0 a ja (by rw[hk];rfl) rfl
  obtain⟨c1,c2⟩:=bh hoA
  have hAb:=hoA.blw
  have hp:fV e.op e.n e.name e.kids=iU e.op e.n e.name a:=by
   unfold fV
   rw[if_neg (by omega),hk]
  rw[hp]
  rw[hk,o11] at hsame
  have hfl1:[ja].flatten=ja:=by simp
  rw[hfl1] at hsame hndJ⊢
  have hsame:∀os,FR h (id::ja) e (.ret (.agg [.p (.int .i64 11),.p (.int .i64 e.n),.p (.str e.name),.sl id 4 0 1])) (h++os):=hsame
  generalize hres:iU e.op e.n e.name a=res
  simp-implicitDefEqProofs[-AV.cells,-AV.isCell,aM,af,aj,aR,aN,ae,aS,c1,c2,bD,bm,o11,hk]
  refine kN (am 122 [(1,.ptr h.length 4 0 0),(2,.ptr (h.length+1) 4 0 0),(3,.ptr (h.length+2) 4 0 0),(4,.ptr (h.length+3) 4 0 0)])
   (h++[.row 4 [[.p (.int .i64 11),.p (.int .i64 e.n),.p (.str e.name),.sl id 4 0 1]],.row 4 [[.p (.int .i64 0),.p (.int .i64 0),.p (.str []),.nils]],.row 4 [[.p (.int .i64 a.op),.p (.int .i64 a.n),.p (.str a.name),Ka]],.row 4 [[.p (.int .i64 a.op),.p (.int .i64 a.n),.p (.str a.name),Ka]]]) ?_ ?_
  ·simp-implicitDefEqProofs[-AV.cells,-AV.isCell,aM,af,aj,aR,aN,ae,aS,c1,c2,gid,gid0,hg0,w0]
   refine⟨aA (by simp) (by simp[below]),zR (RC _) hoko (hok1 _ (by simp only[below];omega) _ _ _) (hok1 .nils trivial _ _ _) (hok1 _ hAb.1 _ _ _) (hok1 _ hAb.1 _ _ _) λρ r0 r1 r2 r3=>?_⟩
   have r1a:=r1 h.length (by omega)
   have r1b:=r1 (h.length+1) (by omega)
   simp[r0] at r1a r1b r2 r3
   simp[ren,below,r0,r1a,r1b,r2,r3]
  refine ry (λ_:Unit=>am 122 [(1,.ptr h.length 4 0 0),(2,.ptr (h.length+1) 4 0 0),(3,.ptr (h.length+2) 4 0 0),(4,.ptr (h.length+3) 4 0 0)]) (λ_=>h++[.row 4 [[.p (.int .i64 11),.p (.int .i64 e.n),.p (.str e.name),.sl id 4 0 1]],.row 4 [[.p (.int .i64 0),.p (.int .i64 0),.p (.str []),.nils]],.row 4 [[.p (.int .i64 a.op),.p (.int .i64 a.n),.p (.str a.name),Ka]],.row 4 [[.p (.int .i64 a.op),.p (.int .i64 a.n),.p (.str a.name),Ka]]]) (λ_=>¬a.op=1) ?_ ?_
  ·by_cases a1:a.op=1
   ·rw[←hres,iU,if_pos a1]
    simp-implicitDefEqProofs[-AV.cells,-AV.isCell,aM,af,aj,aR,aN,ae,aS,c1,c2,a1]
    refine((IL G _ _).ac (by simp[below]) (by simp[below]) _).mono ?_
    rintro x h' ⟨rfl,rfl⟩
    simp-implicitDefEqProofs[-AV.cells,-AV.isCell,aM,af,aj,aR,aN,ae,aS,c1,c2,a1,aa]
    refine(ji G _ _).mono ?_
    rintro x h' ⟨rfl,o,rfl⟩
    simp-implicitDefEqProofs[-AV.cells,-AV.isCell,aM,af,aj,aR,aN,ae,aS,c1,c2,a1,aa]
    exact FR.num _ _ _ _
   ·simp-implicitDefEqProofs[-AV.cells,-AV.isCell,aM,af,aj,aR,aN,ae,aS,c1,c2,a1]
    exact aA (by simp) (by simp[below])
  intro _ a1
  have same:(∀c,a.kids=[c]->¬(e.op=11/\a.op=11/\c.op=11))->iU e.op e.n e.name a=e:=by
   intro h
   have h0:Ex.mk e.op e.n e.name [a]=e:=by rw[←hk];exact hem.symm
   unfold iU
   rw[if_neg a1]
   split
   ·rename_i c hc'
    split
    ·rename_i h3
     exact(h c hc' ⟨o11,h3⟩).elim
    ·exact h0
   ·exact h0
  by_cases a11:a.op=11
  ·have haf:=hkf a (by rw[hk];simp)
   obtain⟨l1,l2,_⟩:=dd haf
   rw[a11,e1] at l1
   rw[a11,e2] at l2
   obtain⟨c,hkc⟩:∃c,a.kids=[c]:=by
    match hx:a.kids,l1,l2 with
    |[x],_,_=>exact⟨x,rfl⟩
   have hoA':=hoA
   rw[hxl] at hoA'
   rcases hoA'.inv hndJ with⟨h0,_⟩|⟨hh,_⟩|⟨ida,rowsA,JA,rfl,rfl,hrA⟩
   ·rw[hkc] at h0;simp at h0
   ·cases hh
   obtain⟨Ls,hLl,rfl,hLs⟩:=FD hrA
   obtain⟨jc,rfl⟩:∃jc,Ls=[jc]:=by
    rw[hkc] at hLl
    match Ls,hLl with
    |[x],_=>exact⟨x,rfl⟩
   obtain⟨Kc,hgc,hoC⟩:=hLs 0 c jc (by rw[hkc];rfl) rfl
   obtain⟨c3,c4⟩:=bh hoC
   have gida:∀t,(h++t)[ida]?=some (.row 4 rowsA):=λt=>by rw[Rz hrA.lt];exact hrA.here
   have hfl2:[jc].flatten=jc:=by simp
   rw[hfl2] at hsame⊢
   have hndC:jc.Nodup:=by have:=(Sr.1 hrA.nd).2;simpa using this
   by_cases c11:c.op=11
   ·have hq:iU e.op e.n e.name a=c:=by
     unfold iU
     rw[if_neg a1,hkc]
     exact if_pos ⟨a11,c11⟩
    rw[←hres,hq]
    simp-implicitDefEqProofs[-AV.cells,-AV.isCell,aM,af,aj,aR,aN,ae,aS,c3,c4,a11,hkc,gida,hgc,c11]
    exact FR.of c11 hoC hndC (λj hj=>by simp[hj]) _
   ·rw[←hres,same (λx hx h=>by rw[hkc] at hx;cases hx;exact c11 h.2.2)]
    simp-implicitDefEqProofs[-AV.cells,-AV.isCell,aM,af,aj,aR,aN,ae,aS,c3,c4,a11,hkc,gida,hgc,c11]
    exact hsame _
  ·rw[←hres,same (λx hx h=>a11 h.2.1)]
   simp-implicitDefEqProofs[-AV.cells,-AV.isCell,aM,af,aj,aR,aN,ae,aS,c1,c2,a11]
   exact hsame _
 obtain⟨a,b,hk⟩:∃a b,e.kids=[a,b]:=by
  obtain⟨l1,l2,l3,l4⟩:=dd hf
  have hln:0<e.kids.length:=List.length_pos_iff.2 hne
  have o1:¬(e.op=1\/e.op=2):=by
   intro h
   rw[hiK,if_pos h] at l2;omega
  have e1:loK e.op=2:=by rw[loK,if_neg o1,if_neg (by omega),if_neg (by omega)]
  have e2:hiK e.op=2:=by rw[hiK,if_neg o1,if_neg (by omega),if_neg (by omega)]
  rw[e1] at l1
  rw[e2] at l2
  match hx:e.kids,l1,l2 with
  |[a,b],_,_=>exact⟨a,b,rfl⟩
 obtain⟨h3,h10⟩:=Dw hf hk (by omega)
 obtain⟨ja,jb,rfl⟩:∃ja jb,Js=[ja,jb]:=by
  rw[hk] at hJl
  match Js,hJl with
  |[x,y],_=>exact⟨x,y,rfl⟩
 obtain⟨Ka,hg0,hoA⟩:=hJs 0 a ja (by rw[hk];rfl) rfl
 obtain⟨Kb,hg1,hoB⟩:=hJs 1 b jb (by rw[hk];rfl) rfl
 obtain⟨c1,c2⟩:=bh hoA
 obtain⟨c3,c4⟩:=bh hoB
 have hAb:=hoA.blw
 have hBb:=hoB.blw
 have hndJ':(ja++jb).Nodup:=by simpa using hndJ
 obtain⟨ndA,ndB,_⟩:=Su.1 hndJ'
 have haf:=hkf a (by rw[hk];simp)
 have hbf:=hkf b (by rw[hk];simp)
 have hp:fV e.op e.n e.name e.kids=lf e.op e.n e.name a b:=by
  unfold fV
  rw[if_neg (by omega),hk]
 rw[hp]
 rw[hk] at hsame
 have hfl2:[ja,jb].flatten=ja++jb:=by simp
 rw[hfl2] at hsame⊢
 have rA:∀o,a.op=o->∀os,FR h (id::(ja++jb)) a (.ret (.agg [.p (.int .i64 o),.p (.int .i64 a.n),.p (.str a.name),Ka])) (h++os):=λo eo os=>FR.of eo hoA ndA (λj hj=>by simp[hj]) os
 have rB:∀o,b.op=o->∀os,FR h (id::(ja++jb)) b (.ret (.agg [.p (.int .i64 o),.p (.int .i64 b.n),.p (.str b.name),Kb])) (h++os):=λo eo os=>FR.of eo hoB ndB (λj hj=>by simp[hj]) os
 have rE:∀o,e.op=o->∀os,FR h (id::(ja++jb)) e (.ret (.agg [.p (.int .i64 o),.p (.int .i64 e.n),.p (.str e.name),.sl id 4 0 2])) (h++os):=λo eo os=>by subst eo;exact hsame os
 have rN:∀q os,FR h (id::(ja++jb)) (me q) (.ret (.agg [.p (.int .i64 1),.p (.int .i64 q),.p (.str []),.nils])) (h++os):=λq os=>FR.num _ _ _ _
 have vA:=λt:List AO=>(hoA.more t).view 0 _ _ rfl rfl
 have vB:=λt:List AO=>(hoB.more t).view 0 _ _ rfl rfl
 have HN:∀(x:Ex) (Kx:AV) (n:Int) (t:List AO),View (h++t) Kx (exL x.kids)->AC Tryz.prog G iZ [.agg [.p (.int .i64 x.op),.p (.int .i64 x.n),.p (.str x.name),Kx],.p (.int .i64 n)] (h++t) λr h'=>r= .ret (.p (.bool (isN x n)))/\h'=h++t:=λx Kx n t hv=>by
  have h0:=LU G x n
  rw[x.cs_eq] at h0
  exact h0.lend (h:=h++t) (args:=[.agg [.p (.int .i64 x.op),.p (.int .i64 x.n),.p (.str x.name),Kx],.p (.int .i64 n)]) (.agg (.keep (by simp[below]) (.keep (by simp[below]) (.keep (by simp[below]) (.one hv .nil)))) (.keep (by simp[below]) .nil)) rfl
 have HS:∀(x:Ex) (Kx:AV) (t:List AO),gt x=true->x.sz<=1073741824->View (h++t) Kx (exL x.kids)->AC Tryz.prog G ca [.agg [.p (.int .i64 x.op),.p (.int .i64 x.n),.p (.str x.name),Kx]] (h++t) λr h'=>r= .ret (.p (.bool (cV x)))/\h'=h++t:=λx Kx t h1 h2 hv=>by
  have h0:=Ea G hK hS h1 h2
  rw[x.cs_eq] at h0
  exact h0.lend (h:=h++t) (args:=[.agg [.p (.int .i64 x.op),.p (.int .i64 x.n),.p (.str x.name),Kx]]) (.agg (.keep (by simp[below]) (.keep (by simp[below]) (.keep (by simp[below]) (.one hv .nil)))) .nil) rfl
 have HA:=λn t=>HN a Ka n t (vA t)
 have HB:=λn t=>HN b Kb n t (vB t)
 have HSA:=λt=>HS a Ka t (hkx a (by rw[hk];simp)) (hks a (by rw[hk];simp)) (vA t)
 have HSB:=λt=>HS b Kb t (hkx b (by rw[hk];simp)) (hks b (by rw[hk];simp)) (vB t)
 simp-implicitDefEqProofs[-AV.cells,-AV.isCell,aM,af,aj,aR,aN,ae,aS,c1,c2,c3,c4,bD,bm,o12,o13,hk]
 refine kN (am 122 [(1,.ptr h.length 4 0 0),(2,.ptr (h.length+1) 4 0 0),(3,.ptr (h.length+2) 4 0 0),(4,.ptr (h.length+3) 4 0 0)])
  (h++[.row 4 [[.p (.int .i64 e.op),.p (.int .i64 e.n),.p (.str e.name),.sl id 4 0 2]],.row 4 [[.p (.int .i64 0),.p (.int .i64 0),.p (.str []),.nils]],.row 4 [[.p (.int .i64 a.op),.p (.int .i64 a.n),.p (.str a.name),Ka]],.row 4 [[.p (.int .i64 b.op),.p (.int .i64 b.n),.p (.str b.name),Kb]]]) ?_ ?_
 ·simp-implicitDefEqProofs[-AV.cells,-AV.isCell,aM,af,aj,aR,aN,ae,aS,c1,c2,c3,c4,gid,gid0,hg0,hg1,w1']
  refine⟨aA (by simp) (by simp[below]),zR (RC _) hoko (hok1 _ (by simp only[below];omega) _ _ _) (hok1 .nils trivial _ _ _) (hok1 _ hBb.1 _ _ _) (hok1 _ hAb.1 _ _ _) λρ r0 r1 r2 r3=>?_⟩
  have r1a:=r1 h.length (by omega)
  have r1b:=r1 (h.length+1) (by omega)
  simp[r0] at r1a r1b r2 r3
  simp[ren,below,r0,r1a,r1b,r2,r3]
 refine ry (λ_:Unit=>am 122 [(1,.ptr h.length 4 0 0),(2,.ptr (h.length+1) 4 0 0),(3,.ptr (h.length+2) 4 0 0),(4,.ptr (h.length+3) 4 0 0)]) (λ_=>h++[.row 4 [[.p (.int .i64 e.op),.p (.int .i64 e.n),.p (.str e.name),.sl id 4 0 2]],.row 4 [[.p (.int .i64 0),.p (.int .i64 0),.p (.str []),.nils]],.row 4 [[.p (.int .i64 a.op),.p (.int .i64 a.n),.p (.str a.name),Ka]],.row 4 [[.p (.int .i64 b.op),.p (.int .i64 b.n),.p (.str b.name),Kb]]]) (λ_=>(if a.op=1/\b.op=1 then ar5 e.op a.n b.n else none)=none) ?_ ?_
 ·by_cases a1:a.op=1
  ·by_cases b1:b.op=1
   ·have H:=Lq G e.op a.n b.n h3 h10 (rS (gQ haf)) (rS (gQ hbf))
    have hp2:∀q,ar5 e.op a.n b.n=some q->lf e.op e.n e.name a b=me q:=by
     intro q hq
     unfold lf
     rw[if_pos ⟨a1,b1⟩,hq]
    cases hq:ar5 e.op a.n b.n with
    |none=>
     rw[hq] at H
     simp only[vF] at H
     simp-implicitDefEqProofs[-AV.cells,-AV.isCell,aM,af,aj,aR,aN,ae,aS,c1,c2,c3,c4,a1,b1]
     refine(H.ac (by simp[below]) (by simp[below]) _).mono ?_
     rintro x h' ⟨rfl,rfl⟩
     simp-implicitDefEqProofs[-AV.cells,-AV.isCell,aM,af,aj,aR,aN,ae,aS,c1,c2,c3,c4,aa,a1,b1,hq]
     exact aA (by simp) (by simp[below])
    |some q=>
     rw[hq] at H
     simp only[vF] at H
     rw[hp2 q hq]
     simp-implicitDefEqProofs[-AV.cells,-AV.isCell,aM,af,aj,aR,aN,ae,aS,c1,c2,c3,c4,a1,b1]
     refine(H.ac (by simp[below]) (by simp[below]) _).mono ?_
     rintro x h' ⟨rfl,rfl⟩
     simp-implicitDefEqProofs[-AV.cells,-AV.isCell,aM,af,aj,aR,aN,ae,aS,c1,c2,c3,c4,aa,a1,b1]
     refine(ji G _ _).mono ?_
     rintro x h' ⟨rfl,o,rfl⟩
     simp-implicitDefEqProofs[-AV.cells,-AV.isCell,aM,af,aj,aR,aN,ae,aS,c1,c2,c3,c4,aa]
     exact FR.num _ _ _ _
   ·simp-implicitDefEqProofs[-AV.cells,-AV.isCell,aM,af,aj,aR,aN,ae,aS,c1,c2,c3,c4,a1,b1]
    exact aA (by simp) (by simp[below])
  ·simp-implicitDefEqProofs[-AV.cells,-AV.isCell,aM,af,aj,aR,aN,ae,aS,c1,c2,c3,c4,a1]
   exact aA (by simp) (by simp[below])
 intro _ hn
 have hp2:lf e.op e.n e.name a b=if e.op=10/\isN a 0=true then me 0 else if(e.op=3\/e.op=4)/\isN b 0=true\/(e.op=5\/e.op=6)/\isN b 1=true then a else if e.op=3/\isN a 0=true\/e.op=5/\isN a 1=true then b
  else if e.op=5/\(isN b 0=true/\cV a=true\/isN a 0=true/\cV b=true) then me 0 else e:=by
  unfold lf
  rw[hn]
  simp only
  rw[←hk,←hem]
 rw[hp2]
 have ho:e.op=3\/e.op=4\/e.op=5\/e.op=6\/e.op=7\/e.op=8\/e.op=9\/e.op=10:=by omega
 rcases ho with ho|ho|ho|ho|ho|ho|ho|ho
 ·simp-implicitDefEqProofs[-AV.cells,-AV.isCell,aM,af,aj,aR,aN,ae,aS,c1,c2,c3,c4,ho]
  refine(HB _ _).mono ?_
  rintro x h' ⟨rfl,rfl⟩
  by_cases hb0:isN b 0=true
  ·simp-implicitDefEqProofs[-AV.cells,-AV.isCell,aM,af,aj,aR,aN,ae,aS,c1,c2,c3,c4,ho,aa,hb0]
   exact rA _ rfl _
  ·simp-implicitDefEqProofs[-AV.cells,-AV.isCell,aM,af,aj,aR,aN,ae,aS,c1,c2,c3,c4,ho,aa,hb0]
   refine(HA _ _).mono ?_
   rintro x h' ⟨rfl,rfl⟩
   by_cases ha0:isN a 0=true
   ·simp-implicitDefEqProofs[-AV.cells,-AV.isCell,aM,af,aj,aR,aN,ae,aS,c1,c2,c3,c4,ho,hb0,aa,ha0]
    exact rB _ rfl _
   ·simp-implicitDefEqProofs[-AV.cells,-AV.isCell,aM,af,aj,aR,aN,ae,aS,c1,c2,c3,c4,ho,hb0,aa,ha0]
    exact rE _ ho _
 ·simp-implicitDefEqProofs[-AV.cells,-AV.isCell,aM,af,aj,aR,aN,ae,aS,c1,c2,c3,c4,ho]
  refine(HB _ _).mono ?_
  rintro x h' ⟨rfl,rfl⟩
  by_cases hb0:isN b 0=true
  ·simp-implicitDefEqProofs[-AV.cells,-AV.isCell,aM,af,aj,aR,aN,ae,aS,c1,c2,c3,c4,ho,aa,hb0]
   exact rA _ rfl _
  ·simp-implicitDefEqProofs[-AV.cells,-AV.isCell,aM,af,aj,aR,aN,ae,aS,c1,c2,c3,c4,ho,aa,hb0]
   exact rE _ ho _
 ·simp-implicitDefEqProofs[-AV.cells,-AV.isCell,aM,af,aj,aR,aN,ae,aS,c1,c2,c3,c4,ho]
  refine(HB _ _).mono ?_
  rintro x h' ⟨rfl,rfl⟩
  by_cases hb1:isN b 1=true
  ·simp-implicitDefEqProofs[-AV.cells,-AV.isCell,aM,af,aj,aR,aN,ae,aS,c1,c2,c3,c4,ho,aa,hb1]
   exact rA _ rfl _
  ·simp-implicitDefEqProofs[-AV.cells,-AV.isCell,aM,af,aj,aR,aN,ae,aS,c1,c2,c3,c4,ho,aa,hb1]
   refine(HA _ _).mono ?_
   rintro x h' ⟨rfl,rfl⟩
   by_cases ha1:isN a 1=true
   ·simp-implicitDefEqProofs[-AV.cells,-AV.isCell,aM,af,aj,aR,aN,ae,aS,c1,c2,c3,c4,ho,hb1,aa,ha1]
    exact rB _ rfl _
   ·simp-implicitDefEqProofs[-AV.cells,-AV.isCell,aM,af,aj,aR,aN,ae,aS,c1,c2,c3,c4,ho,hb1,aa,ha1]
    refine(HB _ _).mono ?_
    rintro x h' ⟨rfl,rfl⟩
    by_cases hb0:isN b 0=true
    ·simp-implicitDefEqProofs[-AV.cells,-AV.isCell,aM,af,aj,aR,aN,ae,aS,c1,c2,c3,c4,ho,hb1,ha1,aa,hb0]
     refine(HSA _).mono ?_
     rintro x h' ⟨rfl,rfl⟩
     by_cases hsa:cV a=true
     ·simp-implicitDefEqProofs[-AV.cells,-AV.isCell,aM,af,aj,aR,aN,ae,aS,c1,c2,c3,c4,ho,hb1,ha1,hb0,aa,hsa]
      refine(ji G _ _).mono ?_
      rintro x h' ⟨rfl,o,rfl⟩
      simp-implicitDefEqProofs[-AV.cells,-AV.isCell,aM,af,aj,aR,aN,ae,aS,c1,c2,c3,c4,ho,hb1,ha1,hb0,hsa,aa]
      exact rN _ _
     ·simp-implicitDefEqProofs[-AV.cells,-AV.isCell,aM,af,aj,aR,aN,ae,aS,c1,c2,c3,c4,ho,hb1,ha1,hb0,aa,hsa]
      refine(HA _ _).mono ?_
      rintro x h' ⟨rfl,rfl⟩
      by_cases ha0:isN a 0=true
      ·simp-implicitDefEqProofs[-AV.cells,-AV.isCell,aM,af,aj,aR,aN,ae,aS,c1,c2,c3,c4,ho,hb1,ha1,hb0,hsa,aa,ha0]
       refine(HSB _).mono ?_
       rintro x h' ⟨rfl,rfl⟩
       by_cases hsb:cV b=true
       ·simp-implicitDefEqProofs[-AV.cells,-AV.isCell,aM,af,aj,aR,aN,ae,aS,c1,c2,c3,c4,ho,hb1,ha1,hb0,hsa,ha0,aa,hsb]
        refine(ji G _ _).mono ?_
        rintro x h' ⟨rfl,o,rfl⟩
        simp-implicitDefEqProofs[-AV.cells,-AV.isCell,aM,af,aj,aR,aN,ae,aS,c1,c2,c3,c4,ho,hb1,ha1,hb0,hsa,ha0,hsb,aa]
        exact rN _ _
       ·simp-implicitDefEqProofs[-AV.cells,-AV.isCell,aM,af,aj,aR,aN,ae,aS,c1,c2,c3,c4,ho,hb1,ha1,hb0,hsa,ha0,aa,hsb]
        exact rE _ ho _
      ·simp-implicitDefEqProofs[-AV.cells,-AV.isCell,aM,af,aj,aR,aN,ae,aS,c1,c2,c3,c4,ho,hb1,ha1,hb0,hsa,aa,ha0]
       exact rE _ ho _
    ·simp-implicitDefEqProofs[-AV.cells,-AV.isCell,aM,af,aj,aR,aN,ae,aS,c1,c2,c3,c4,ho,hb1,ha1,aa,hb0]
     refine(HA _ _).mono ?_
     rintro x h' ⟨rfl,rfl⟩
     by_cases ha0:isN a 0=true
     ·simp-implicitDefEqProofs[-AV.cells,-AV.isCell,aM,af,aj,aR,aN,ae,aS,c1,c2,c3,c4,ho,hb1,ha1,hb0,aa,ha0]
      refine(HSB _).mono ?_
      rintro x h' ⟨rfl,rfl⟩
      by_cases hsb:cV b=true
      ·simp-implicitDefEqProofs[-AV.cells,-AV.isCell,aM,af,aj,aR,aN,ae,aS,c1,c2,c3,c4,ho,hb1,ha1,hb0,ha0,aa,hsb]
       refine(ji G _ _).mono ?_
       rintro x h' ⟨rfl,o,rfl⟩
       simp-implicitDefEqProofs[-AV.cells,-AV.isCell,aM,af,aj,aR,aN,ae,aS,c1,c2,c3,c4,ho,hb1,ha1,hb0,ha0,hsb,aa]
       exact rN _ _
      ·simp-implicitDefEqProofs[-AV.cells,-AV.isCell,aM,af,aj,aR,aN,ae,aS,c1,c2,c3,c4,ho,hb1,ha1,hb0,ha0,aa,hsb]
       exact rE _ ho _
     ·simp-implicitDefEqProofs[-AV.cells,-AV.isCell,aM,af,aj,aR,aN,ae,aS,c1,c2,c3,c4,ho,hb1,ha1,hb0,aa,ha0]
      exact rE _ ho _
 ·simp-implicitDefEqProofs[-AV.cells,-AV.isCell,aM,af,aj,aR,aN,ae,aS,c1,c2,c3,c4,ho]
  refine(HB _ _).mono ?_
  rintro x h' ⟨rfl,rfl⟩
  by_cases hb1:isN b 1=true
  ·simp-implicitDefEqProofs[-AV.cells,-AV.isCell,aM,af,aj,aR,aN,ae,aS,c1,c2,c3,c4,ho,aa,hb1]
   exact rA _ rfl _
  ·simp-implicitDefEqProofs[-AV.cells,-AV.isCell,aM,af,aj,aR,aN,ae,aS,c1,c2,c3,c4,ho,aa,hb1]
   exact rE _ ho _
 ·simp-implicitDefEqProofs[-AV.cells,-AV.isCell,aM,af,aj,aR,aN,ae,aS,c1,c2,c3,c4,ho]
  exact rE _ ho _
 ·simp-implicitDefEqProofs[-AV.cells,-AV.isCell,aM,af,aj,aR,aN,ae,aS,c1,c2,c3,c4,ho]
  exact rE _ ho _
 ·simp-implicitDefEqProofs[-AV.cells,-AV.isCell,aM,af,aj,aR,aN,ae,aS,c1,c2,c3,c4,ho]
  exact rE _ ho _
 ·simp-implicitDefEqProofs[-AV.cells,-AV.isCell,aM,af,aj,aR,aN,ae,aS,c1,c2,c3,c4,ho]
  refine(HA _ _).mono ?_
  rintro x h' ⟨rfl,rfl⟩
  by_cases ha0:isN a 0=true
  ·simp-implicitDefEqProofs[-AV.cells,-AV.isCell,aM,af,aj,aR,aN,ae,aS,c1,c2,c3,c4,ho,aa,ha0]
   refine(ji G _ _).mono ?_
   rintro x h' ⟨rfl,o,rfl⟩
   simp-implicitDefEqProofs[-AV.cells,-AV.isCell,aM,af,aj,aR,aN,ae,aS,c1,c2,c3,c4,ho,ha0,aa]
   exact rN _ _
  ·simp-implicitDefEqProofs[-AV.cells,-AV.isCell,aM,af,aj,aR,aN,ae,aS,c1,c2,c3,c4,ho,aa,ha0]
   exact rE _ ho _
end
section
def lg(x:Sm):Sm:= .mk x.op x.name (aX x.args) x.body x.els
theorem Ku(x:Sm):(lg x).cs=[.int .i64 x.op,.str x.name,exL (aX x.args),smL x.body,smL x.els]:=by rw[Sm.cs_eq];rfl
variable (G:ay)
end
section
theorem GO{h:List AO}{id:Nat}{l:List Fd}(e:h[id]?=some (.row 3 (dv l))):View h (.sl id 3 0 l.length) (fdL l):=by
 have:=iA (h:=h) (id:=id) (sz:=3) (n:=l.length) (ls:=l.map Fd.cs) (by rw[e,dv];simp) (by simp) (λx hx=>by obtain⟨b,_,rfl⟩:=RP.1 hx;exact b.cs_len)
 exact this
theorem Ht(a b:List Fd):dv (a++b)=dv a++dv b:=by simp[dv]
theorem rh(a:List Fd):(dv a).length=a.length:=by simp[dv]
variable (G:ay)
end
section
variable (G:ay)
def PshF(s:Bool)(sz:Nat)(D:List (List PV))(h0:List AO)(a:PshS):Prop:=a.i<=D.length/\h0.length<=a.id/\h0.length<=a.h.length/\(∀j,j<h0.length->a.h[j]?=h0[j]?)/\∃rows J,RowOwn s a.h a.id sz rows (D.take a.i) J/\∀j∈J,h0.length<=j
theorem DV{h h2:List AO}(hl:h.length<=h2.length)(hf:∀j,j<h.length->h2[j]?=h[j]?):h2=h++h2.drop h.length:=by
 have e:h2.take h.length=h:=by
  apply List.ext_getElem?
  intro j
  by_cases hj:j<h.length
  ·rw[List.getElem?_take_of_lt hj];exact hf j hj
  ·rw[Se (by rw[RZ];omega),Se (by omega)]
 have e2:=Si h.length h2
 rw[e] at e2
 exact e2.symm
theorem PshF.init{s:Bool}{sz:Nat}{D:List (List PV)}(h0 os:List AO):PshF s sz D h0 ⟨0,h0.length,h0++ .row sz []::os⟩:=
 ⟨SD _,RC _,by simp,λj hj=>Rz hj,[],[],⟨by simp,rfl,λ_ h=>(by cases h),λ_ h=>(by cases h),.nil,by simp⟩,λj hj=>by cases hj⟩
theorem PshF.step{s:Bool}{sz i id:Nat}{D:List (List PV)}{h0 h:List AO}(H:PshF s sz D h0 ⟨i,id,h⟩){e:List PV}(hi:D[i]?=some e){h2:List AO}(hl:h.length<=h2.length)(hf:∀j,j<h.length->h2[j]?=h[j]?){r':List AV}{I2:List Nat}(ho:OwnL s h2 r' e I2)(nd2:I2.Nodup)(hn:∀j∈I2,h.length<=j)(he:e.length=sz):
 ∃rows,(∀os,(h2++os)[id]?=some (.row sz rows))/\rows.length=i/\i<D.length/\id<h2.length/\∀os1 os2,PshF s sz D h0 ⟨i+1,(h2++os1).length,(h2++os1).set id .dead++ .row sz (rows++[r'])::os2⟩:=by
 obtain⟨h1,h3,h4,h5,rows,J,hr,hJ⟩:=H
 have hil:i<D.length:=(Ry.1 hi).1
 have hlen:=hr.len
 simp only at h1 h3 h4 h5 hlen hr
 rw[RZ,Nat.min_eq_left h1] at hlen
 have e2:=DV hl hf
 have hid:=hr.lt
 have h2e:h2[id]?=some (.row sz rows):=by rw[hf id hid];exact hr.here
 refine⟨rows,λos=>by rw[Rz (by omega)];exact h2e,hlen,hil,by omega,λos1 os2=>⟨hil,by simp only[RJ];omega,by simp;omega,λj hj=>?_,rows++[r'],J++I2,?_,λj hj=>?_⟩⟩
 ·simp only
  rw[Rz (by simp only[SC,RJ,RN];omega),RS (by omega),Rz (by omega),hf j (by omega)]
  exact h5 j hj
 ·have hp:=(hr.push (h2:=h2++os1) (os:=h2.drop h.length++os1) (by rw[←RT,←e2]) (ho.more os1) nd2 hn he).more os2
  have hd:D.take i++[e]=D.take (i+1):=by rw[List.take_add_one,hi];rfl
  rw[hd,RT] at hp
  exact hp
 ·rcases RG.1 hj with hj|hj
  ·exact hJ j hj
  ·have:=hn j hj;omega
theorem PshF.done{s:Bool}{sz i id:Nat}{D:List (List PV)}{h0 h:List AO}(H:PshF s sz D h0 ⟨i,id,h⟩)(hi:D.length<=i):h0.length<=h.length/\(∀j,j<h0.length->h[j]?=h0[j]?)/\∃I,OwnL s h [.sl id sz 0 i] [.lst sz D] I/\I.Nodup/\∀j∈I,h0.length<=j:=by
 obtain⟨h1,h3,h4,h5,rows,J,hr,hJ⟩:=H
 simp only at h1 h3 h4 h5 hr
 rw[RF hi] at hr
 exact⟨h4,h5,id::J,hr.tree (by omega),hr.nd,λj hj=>by
  rcases Sa.1 hj with rfl|hj
  ·exact h3
  ·exact hJ j hj⟩
theorem DB{s:Bool}{n:Nat}{h1 os:List AO}{a b:List AV}{c d:List PV}{I1 I2:List Nat}(H1:OwnL s h1 a c I1)(n1:I1.Nodup)(f1:∀i∈I1,n<=i)(H2:OwnL s (h1++os) b d I2)(n2:I2.Nodup)(f2:∀i∈I2,h1.length<=i)(hn:n<=h1.length):
 OwnL s (h1++os) (a++b) (c++d) (I1++I2)/\(I1++I2).Nodup/\∀i∈I1++I2,n<=i:=by
 refine⟨(H1.more os).app H2,?_,λi hi=>?_⟩
 ·rw[Su]
  refine⟨n1,n2,λa ha b hb e=>?_⟩
  have:=H1.lt ha;have:=f2 b hb;omega
 ·rcases RG.1 hi with hi|hi
  ·exact f1 i hi
  ·have:=f2 i hi;omega
theorem JS{α:Type}(l:List α)(a b:α):(l++[a]).set l.length b=l++[b]:=by
 rw[List.set_append_right _ _ (RC _),SG];rfl
theorem Lr{h:List AO}{s:Sm}{A B E:AV}{I:List Nat}(H:OwnL true h ([A]++[B]++[E]) ([exL s.args]++[smL s.body]++[smL s.els]) I):OwnL true h [.p (.int .i64 s.op),.p (.str s.name),A,B,E] s.cs I:=by
 rw[s.cs_eq]
 exact .p _ (λ_=>rfl) (.p _ (λ_=>rfl) H)
theorem oo{s:Bool}{h:List AO}{v:AV}{q:PV}{I:List Nat}(H:OwnL s h [v] [q] I):(∃q',v= .p q')\/v= .nils\/∃a b n,v= .sl a b 0 n:=by
 cases H with
 |p q=>exact .inl ⟨_,rfl⟩
 |nils=>exact .inr (.inl rfl)
 |sl id sz n=>exact .inr (.inr ⟨_,_,_,rfl⟩)
theorem Lv{s:Bool}{h:List AO}{e:Ex}{K:AV}{I:List Nat}(H:OwnL s h [K] [exL e.kids] I):OwnL s h [.p (.int .i64 e.op),.p (.int .i64 e.n),.p (.str e.name),K] e.cs I:=by
 rw[e.cs_eq]
 exact .p _ (λ_=>rfl) (.p _ (λ_=>rfl) (.p _ (λ_=>rfl) H))
theorem JJ:∀(N:Nat) (e:Ex),e.sz<=N->e.sz<=1073741824->AC Tryz.prog G ic [.agg (e.cs.map .p)] [] (MkW .agg true e.cs):=by
 intro N
 induction N with
 |zero=>intro e he;have:=e.sz_eq;omega
 |succ N ih=>
  intro e he hb
  have hsz:=e.sz_eq
  have hkl:=aP e.kids
  refine AC.go zK ?_
  have hec:=e.cs_eq
  have hsl:exL e.kids= .lst 4 (e.kids.map Ex.cs):=rfl
  simp-implicitDefEqProofs[pr,hec,hsl]
  obtain⟨hb0,ehb⟩:∃hb0:List AO,hb0=[.row 4 [[.p (.int .i64 e.op),.p (.int .i64 e.n),.p (.str e.name),.p (.lst 4 (e.kids.map Ex.cs))]],.row 4 [[.p (.int .i64 0),.p (.int .i64 0),.p (.str []),.nils]]]:=⟨_,rfl⟩
  have hini:PshF true 4 (e.kids.map Ex.cs) hb0 ⟨0,2,[.row 4 [[.p (.int .i64 e.op),.p (.int .i64 e.n),.p (.str e.name),.p (.lst 4 (e.kids.map Ex.cs))]],.row 4 [[.p (.int .i64 0),.p (.int .i64 0),.p (.str []),.nils]],.row 4 []]⟩:=by
   rw[ehb];exact PshF.init _ []
  refine az (λa:PshS=>am 25 [(4,.p (.int .i64 a.i)),(3,.sl a.id 4 0 a.i),(2,.ptr 1 4 0 0),(1,.ptr 0 4 0 0)]) (λa=>a.h) (PshF true 4 (e.kids.map Ex.cs) hb0) (λa=>e.kids.length-a.i) _ hini ?_ ?_
  ·exact aA (by simp) (by simp[below])
  rintro⟨i,id,h'⟩ hJ
  have hl0:hb0.length=2:=by rw[ehb];rfl
  have g0:h'[0]?=some (.row 4 [[.p (.int .i64 e.op),.p (.int .i64 e.n),.p (.str e.name),.p (.lst 4 (e.kids.map Ex.cs))]]):=by rw[hJ.2.2.2.1 0 (by omega),ehb];rfl
  have g1:h'[1]?=some (.row 4 [[.p (.int .i64 0),.p (.int .i64 0),.p (.str []),.nils]]):=by rw[hJ.2.2.2.1 1 (by omega),ehb];rfl
  have hl2:2<=h'.length:=by have:=hJ.2.2.1;simp only at this;omega
  simp-implicitDefEqProofs[g0]
  refine aY (λh1=>?_) (λh1=>?_)
  ·simp at h1
   have hg:=Rv h1
   have hm:=aC (RB h1)
   have hH:=ih e.kids[i] (by omega) (by omega)
   have hcs:=e.kids[i].cs_eq
   have hDa:(e.kids.map Ex.cs)[i]?=some e.kids[i].cs:=by rw[RH,hg];rfl
   generalize e.kids[i]=k at hg hH hcs hDa
   have hA:=AC.mkLift ec hH (h:=h') (by rw[hcs];simp)
   rw[hcs] at hA
   simp-implicitDefEqProofs[g0,hg,hcs]
   refine hA.mono ?_
   rintro r h2 ⟨vs,I2,os,rfl,e2,ho,nd,hf⟩
   rw[←hcs] at ho
   obtain⟨rows,k1,k2,k3,k4,k5⟩:=hJ.step hDa (h2:=h2) (by rw[e2];simp) (λx hx=>by rw[e2,Rz hx]) ho nd hf k.cs_len
   obtain⟨K,rfl,hK⟩:=pR ho
   have hwi:=w1 (i:=i) (by omega)
   rcases oo hK with⟨q1,rfl⟩|rfl|⟨x1,x2,x3,rfl⟩
   ·have k6:=k5 [.row 4 [[.p (.int .i64 k.op),.p (.int .i64 k.n),.p (.str k.name),.p q1]]] []
    simp-implicitDefEqProofs[aa,k1,k2]
    rw[RF (l:=rows) (i:=i) (by omega)]
    refine⟨⟨by omega,by omega⟩,_,k6,by simp only;omega,aA (by simp) ?_⟩
    simp[below,hwi]
   ·have k6:=k5 [.row 4 [[.p (.int .i64 k.op),.p (.int .i64 k.n),.p (.str k.name),.nils]]] []
    simp-implicitDefEqProofs[aa,k1,k2]
    rw[RF (l:=rows) (i:=i) (by omega)]
    refine⟨⟨by omega,by omega⟩,_,k6,by simp only;omega,aA (by simp) ?_⟩
    simp[below,hwi]
   ·have k6:=k5 [.row 4 [[.p (.int .i64 k.op),.p (.int .i64 k.n),.p (.str k.name),.sl x1 x2 0 x3]]] []
    simp-implicitDefEqProofs[aa,k1,k2]
    rw[RF (l:=rows) (i:=i) (by omega)]
    refine⟨⟨by omega,by omega⟩,_,k6,by simp only;omega,aA (by simp) ?_⟩
    simp[below,hwi]
  ·simp at h1
   have hie:i=e.kids.length:=by have:=hJ.1;simp at this;omega
   obtain⟨d1,d2,I,ho,nd,hI⟩:=hJ.done (by simpa using h1)
   subst hie
   have hn0:0∉I:=λhm=>by have:=hI 0 hm;omega
   have hn1:1∉I:=λhm=>by have:=hI 1 hm;omega
   have s0:∀x,(h'.set 0 x)[0]?=some x:=λx=>RW (by omega)
   have s1:∀x,(h'.set 0 x)[1]?=some (.row 4 [[.p (.int .i64 0),.p (.int .i64 0),.p (.str []),.nils]]):=λx=>by rw[RS (by omega)];exact g1
   have s2:∀x y,((h'.set 0 x).set 1 y)[1]?=some y:=λx y=>RW (by rw[SC];omega)
   simp-implicitDefEqProofs[g0,g1,s0,s1,s2]
   rw[←hsl,←hec]
   exact⟨_,I,rfl,Lv ((ho.set_out hn0 _).set_out hn1 _),nd⟩
theorem GH:∀(N:Nat) (l:List Sm),aF l<N->aF l<=1073741824->AC Tryz.prog G dk [.p (smL l)] [] (MkW bC true [smL l]):=by
 intro N
 induction N with
 |zero=>intro l he;omega
 |succ N ih=>
  intro l hN hz
  have hsl:∀l,smL l= .lst 5 (l.map Sm.cs):=λ_=>rfl
  have hll:=bi l
  refine AC.go vq ?_
  simp-implicitDefEqProofs[np,hsl]
  refine az (λa:PshS=>am 52 [(4,.p (.int .i64 a.i)),(3,.sl a.id 5 0 a.i),(0,.p (smL l))]) (λa=>a.h) (PshF true 5 (l.map Sm.cs) []) (λa=>l.length-a.i) ⟨0,0,[.row 5 []]⟩ (PshF.init [] []) ?_ ?_
  ·exact aA (by simp) (by simp[below,hsl])
  rintro⟨i,id,hh⟩ hI
  simp-implicitDefEqProofs[hsl]
  refine aY (λh1=>?_) (λh1=>?_)
  ·simp at h1
   have hg:=Rv h1
   have hm:=aQ (RB h1)
   have hcs:=l[i].cs_eq
   have hse:=l[i].sz_eq
   have hD:(l.map Sm.cs)[i]?=some l[i].cs:=by rw[RH,hg];rfl
   generalize l[i]=s at hg hm hcs hse hD
   simp-implicitDefEqProofs[hg,hcs,JS]
   have hid:id<hh.length:=by obtain⟨_,_,_,_,_,_,hr,_⟩:=hI;exact hr.lt
   have hal:=aP s.args
   have hxl:exL s.args= .lst 4 (s.args.map Ex.cs):=rfl
   obtain⟨hb,ehb⟩:∃hb,hb=hh++[AO.row 5 [[.p (.int .i64 s.op),.p (.str s.name),.p (exL s.args),.p (smL s.body),.p (smL s.els)]]]:=⟨_,rfl⟩
   have hbl:hb.length=hh.length+1:=by rw[ehb];simp
   have hbx:hb[hh.length]?=some (.row 5 [[.p (.int .i64 s.op),.p (.str s.name),.p (exL s.args),.p (smL s.body),.p (smL s.els)]]):=by rw[ehb];simp
   have hini:PshF true 4 (s.args.map Ex.cs) hb ⟨0,hh.length+1,hh++[AO.row 5 [[.p (.int .i64 s.op),.p (.str s.name),.p (exL s.args),.p (smL s.body),.p (smL s.els)]],.row 4 []]⟩:=by
    have:=PshF.init (s:=true) (sz:=4) (D:=s.args.map Ex.cs) hb []
    rw[hbl,ehb,RT] at this
    rw[ehb];exact this
   refine az (λa:PshS=>am 52 [(7,.p (.int .i64 a.i)),(6,.sl a.id 4 0 a.i),(5,.ptr hh.length 5 0 0),(4,.p (.int .i64 i)),(3,.sl id 5 0 i),(0,.p (smL l))]) (λa=>a.h) (PshF true 4 (s.args.map Ex.cs) hb) (λa=>s.args.length-a.i) _ hini ?_ ?_
   ·refine aA (by simp) ?_
    simp[below,hsl]
    omega
   rintro⟨j,id2,h'⟩ hJ
   have hjb:h'[hh.length]?=some (.row 5 [[.p (.int .i64 s.op),.p (.str s.name),.p (exL s.args),.p (smL s.body),.p (smL s.els)]]):=by
    rw[hJ.2.2.2.1 _ (by omega)];exact hbx
   have hlb:hh.length+1<=h'.length:=by have:=hJ.2.2.1;simp only at this;omega
   simp-implicitDefEqProofs[hjb,hxl]
   refine aY (λh2=>?_) (λh2=>?_)
   ·simp at h2
    have hga:=Rv h2
    have hma:=aC (RB h2)
    have hC:=JJ G _ s.args[j] (RC _) (by omega)
    have hka:=s.args[j].cs_eq
    have hDa:(s.args.map Ex.cs)[j]?=some s.args[j].cs:=by rw[RH,hga];rfl
    generalize s.args[j]=e at hga hma hC hka hDa
    have hA:=AC.mkLift ec hC (h:=h') (by rw[hka];simp)
    rw[hka] at hA
    simp-implicitDefEqProofs[hjb,hga,hka,hxl]
    refine hA.mono ?_
    rintro r h2 ⟨vs,I2,os,rfl,e2,ho,nd,hf⟩
    rw[←hka] at ho
    obtain⟨rows,k1,k2,k3,k4,k5⟩:=hJ.step hDa (h2:=h2) (by rw[e2];simp) (λx hx=>by rw[e2,Rz hx]) ho nd hf e.cs_len
    obtain⟨K,rfl,hK⟩:=pR ho
    have hwj:=w1 (i:=j) (by omega)
    have hl2:h'.length<=h2.length:=by rw[e2];simp
    rcases oo hK with⟨q1,rfl⟩|rfl|⟨x1,x2,x3,rfl⟩
    ·have k6:=k5 [.row 4 [[.p (.int .i64 e.op),.p (.int .i64 e.n),.p (.str e.name),.p q1]]] []
     simp-implicitDefEqProofs[aa,k1,k2]
     rw[RF (l:=rows) (i:=j) (by omega)]
     refine⟨⟨by omega,by omega⟩,_,k6,by simp only;omega,aA (by simp) ?_⟩
     simp[below,hsl,hwj]
     omega
    ·have k6:=k5 [.row 4 [[.p (.int .i64 e.op),.p (.int .i64 e.n),.p (.str e.name),.nils]]] []
     simp-implicitDefEqProofs[aa,k1,k2]
     rw[RF (l:=rows) (i:=j) (by omega)]
     refine⟨⟨by omega,by omega⟩,_,k6,by simp only;omega,aA (by simp) ?_⟩
     simp[below,hsl,hwj]
     omega
    ·have k6:=k5 [.row 4 [[.p (.int .i64 e.op),.p (.int .i64 e.n),.p (.str e.name),.sl x1 x2 0 x3]]] []
     simp-implicitDefEqProofs[aa,k1,k2]
     rw[RF (l:=rows) (i:=j) (by omega)]
     refine⟨⟨by omega,by omega⟩,_,k6,by simp only;omega,aA (by simp) ?_⟩
     simp[below,hsl,hwj]
     omega
   ·simp at h2
    have hjl:j=s.args.length:=by have:=hJ.1;simp at this;omega
    obtain⟨d1,d2,IA,oA,nA,fA⟩:=hJ.done (by simpa using h2)
    subst hjl
    have hB:=ih s.body (by omega) (by omega)
    have hE:=ih s.els (by omega) (by omega)
    simp-implicitDefEqProofs[hjb]
    refine(AC.mkLift eb hB (h:=h') (by simp)).mono ?_
    rintro r h3 ⟨vB,IB,o1,rfl,e3,oB,nB,fB⟩
    obtain⟨B,rfl⟩:=aO oB
    have hjb3:h3[hh.length]?=some (.row 5 [[.p (.int .i64 s.op),.p (.str s.name),.p (exL s.args),.p (smL s.body),.p (smL s.els)]]):=by
     rw[e3,Rz (by omega)];exact hjb
    simp-implicitDefEqProofs[aa,bC,hjb3]
    refine(AC.mkLift eb hE (h:=h3) (by simp)).mono ?_
    rintro r h4 ⟨vE,IE,o2,rfl,e4,oE,nE,fE⟩
    obtain⟨E,rfl⟩:=aO oE
    have hjb4:h4[hh.length]?=some (.row 5 [[.p (.int .i64 s.op),.p (.str s.name),.p (exL s.args),.p (smL s.body),.p (smL s.els)]]):=by
     have:hh.length<h3.length:=(Ry.1 hjb3).1
     rw[e4,Rz this];exact hjb3
    have cB:=oo oB
    have cE:=oo oE
    obtain⟨a1,a2,a3⟩:=DB oA nA fA (by rw[←e3];exact oB) nB fB d1
    rw[←e3] at a1
    obtain⟨b1,b2,b3⟩:=DB a1 a2 a3 (by rw[←e4];exact oE) nE fE (by rw[e3];simp;omega)
    rw[←e4] at b1
    have hS:=Lr (s:=s) b1
    obtain⟨rows,k1,k2,k3,k4,k5⟩:=hI.step hD (h2:=h4) (by rw[e4,e3];simp;omega) (λx hx=>by
     rw[e4,Rz (by rw[e3];simp;omega),e3,Rz (by omega),d2 x (by omega),ehb,Rz hx]) hS b2 (λx hx=>by have:=b3 x hx;omega) s.cs_len
    have k6:=k5 [.row 5 [[.p (.int .i64 s.op),.p (.str s.name),.sl id2 4 0 s.args.length,B,E]]] []
    have hwi:=w1 (i:=i) (by omega)
    rcases cB with⟨q1,rfl⟩|rfl|⟨x1,x2,x3,rfl⟩<;>rcases cE with⟨q2,rfl⟩|rfl|⟨y1,y2,y3,rfl⟩<;>
    ·simp-implicitDefEqProofs[aa,bC,hjb4,k1,k2]
     rw[RF (l:=rows) (i:=i) (by omega)]
     refine⟨⟨by omega,by omega⟩,_,k6,by simp only;omega,aA (by simp) ?_⟩
     simp[below,hsl,hwi]
  ·simp at h1
   obtain⟨_,_,I,ho,nd,_⟩:=hI.done (by simpa using h1)
   have hie:i=l.length:=by have:=hI.1;simp at this;omega
   subst hie
   simp-implicitDefEqProofs[]
   exact⟨_,I,rfl,ho,nd⟩
end
section
variable (G:ay)
theorem Hf(l:List Fd)(hz:bt l<=1073741824)(hne:l≠[]):AC Tryz.prog G kO [.agg [.p (fdL l)]] [] λx h=>x= .ret (.agg [.sl 3 3 0 l.length])/\h=[.row 1 [[.p (fdL l)]],.row 1 [[.sl 3 3 0 l.length]],.row 1 [[.sl 3 3 0 l.length]],.row 3 (dv l)]:=by
 have hll:=cU l
 have hfl:∀l,fdL l= .lst 3 (l.map Fd.cs):=λ_=>rfl
 refine AC.go zB ?_
 simp-implicitDefEqProofs[oQ]
 refine az (λi:Nat=>am 35 [(1,.ptr 0 1 0 0),(2,.ptr 1 1 0 0),(3,.ptr 2 1 0 0),(4,.p (.int .i64 i))]) (λi=>[.row 1 [[.p (fdL l)]],.row 1 [[.nils]],.row 1 [[slE 3 3 (dv (l.take i))]],BE 3 (dv (l.take i))]) (λi=>i<=l.length) (λi=>l.length-i) 0 (by simp) ?_ ?_
 ·have e1:slE 3 3 (dv (l.take 0))= .nils:=rfl
  have e2:BE 3 (dv (l.take 0))= .dead:=rfl
  rw[e1,e2]
  exact vR (h:=[AO.row 1 [[.p (fdL l)]],.row 1 [[.nils]],.row 1 [[.nils]]]) (by simp) (by simp) (by simp[okO,below]) (by simp[below])
 intro i hi
 simp-implicitDefEqProofs[hfl]
 refine aY (λh=>?_) (λh=>?_)
 ·simp at h
  have hg:=Rv h
  have hT:l.take (i+1)=l.take i++[l[i]]:=aq h
  have hmem:=dr (RB h)
  have hol:(l.take i).length=i:=by rw[RZ];omega
  generalize l[i]=f at hg hT hmem
  have hrl:(dv (l.take i)).length=i:=by rw[rh];exact hol
  have hcs:f.cs=[.str f.name,aE f.params,smL f.body]:=rfl
  have hsp:aE f.params= .lst 1 (f.params.map λw=>[.str w]):=rfl
  have hfz:f.sz=1+f.name.length+(f.params.length+(f.params.map List.length).sum)+aF f.body:=rfl
  have hB:VF Tryz.prog G dk [.p (smL f.body)] (.p (smL f.body)):=AC.mkFreeze eb (GH G _ f.body (Nat.lt_succ_self _) (by omega))
  generalize l.take i=out at hT hol hrl⊢
  simp-implicitDefEqProofs[hg,hcs,hsp]
  have hpl:f.params.length<=1073741824:=by omega
  refine⟨⟨by omega,by omega⟩,?_⟩
  refine hB.use ?_
  simp-implicitDefEqProofs[hrl]
  refine⟨⟨by omega,by omega⟩,i+1,by omega,by omega,?_⟩
  have hR:dv (out++[f])=dv out++[[.p (.str f.name),.p (aE f.params),.p (smL f.body)]]:=by rw[Ht];rfl
  have hR1:slE 3 3 (dv (out++[f]))= .sl 3 3 0 (i+1):=by rw[hR,LH _ (by simp),hrl];rfl
  have hR2:BE 3 (dv (out++[f]))= .row 3 (dv (out++[f])):=by rw[hR,HL _ (by simp)]
  rw[hT,hR1,hR2]
  refine Wk.trans (gf (l1:=[(1,.ptr 0 1 0 0),(2,.ptr 1 1 0 0),(3,.ptr 2 1 0 0),(4,.p (.int .i64 ((i+1:Nat):Int)))]) (h1:=[.row 1 [[.p (fdL l)]],.row 1 [[.nils]],.row 1 [[.sl 3 3 0 (i+1)]],.row 3 (dv out++[[.p (.str f.name),.sl 4 1 0 f.params.length,.p (smL f.body)]]),nC f.params]) [0,1,2,8,6] (by simp) (by decide) (by decide)
   (aU rfl (by simp[below]) (aU rfl (by simp[below]) (iV (es:=[[.sl 3 3 0 (i+1)]]) (by simp[below]) (by simp[ren,bI]) ?_))) (by simp[below,ren,hfl,w1 (i:=i) (by omega)])) (md 4 (by omega) (by simp) rfl (.same (by simp[okO,below]) (.same (by simp[okO,below]) (.same (by simp[okO,below]) (.rows ?_ ?_ (.nil _))))) ?_)
  ·refine iV (λx hx=>?_) ?_ (aU rfl (λx hx=>?_) bJ)
   ·rcases RG.1 hx with hx|hx
    ·exact aw (SD _) _ (je out x hx)
    ·rw[RL.1 hx];simp[below]
   ·rw[Sw,RO (g:=id) (λx hx=>hU _ x (je out x hx)),List.map_id]
    simp[ren,bI]
   ·obtain⟨w,_,rfl⟩:=RP.1 hx
    simp[below]
  ·rw[hR];simp
  ·rw[hR]
   intro j e e1 he he1
   by_cases hj:j<(dv out).length
   ·rw[Rz hj] at he he1
    rw[he] at he1
    cases he1
    have:=je out e (RE he)
    exact yh (aw (SD _) _ this)
   ·have hj2:j=(dv out).length:=by
     have:=(Ry.1 he).1
     simp at this;omega
    subst hj2
    simp at he he1
    subst he;subst he1
    refine .keep (by simp[below]) (.one ?_ (.keep (by simp[below]) .nil))
    exact ta rfl
  ·exact⟨.keep (by simp[below]) .nil,.keep (by simp[below]) .nil,.keep (by simp[below]) .nil,.keep (by simp[below]) .nil,trivial⟩
 ·simp at h
  have hie:i=l.length:=by omega
  subst hie
  rw[RR]
  have h0:dv l≠[]:=by
   intro e;apply hne
   have:=congrArg List.length e
   rw[rh] at this
   exact List.length_eq_zero_iff.1 this
  rw[gR h0,rZ h0,rh]
  simp-implicitDefEqProofs[hfl]
def eaF(h:List Sm->List Sm)(f:Fd):Fd:=⟨f.name,f.params,h f.body⟩
theorem Jz(cut:Bool)(l:List Fd)(hz:bt l<=1073741824)(hne:l≠[])(hf:∀f∈l,∀x∈f.body,aB 4 x=true):VF Tryz.prog G fx [.agg [.p (fdL l)],.p (.bool cut)] (.agg [.p (fdL (if cut then Pe l else eS l))]):=by
 have hll:=cU l
 have hfl:∀l,fdL l= .lst 3 (l.map Fd.cs):=λ_=>rfl
 have hln:0<l.length:=by
  cases l with
  |nil=>exact(hne rfl).elim
  |cons x r=>simp
 let g:Fd->Fd:=if cut then Pl else Dj
 have hg0:(if cut then Pe l else eS l)=l.map g:=by cases cut<;>rfl
 rw[hg0]
 have key:AC Tryz.prog G fx [.agg [.p (fdL l)],.p (.bool cut)] [] λx h=>∃v,x= .ret (.agg [v])/\View h v (fdL (l.map g)):=by
  refine AC.go zG ?_
  simp-implicitDefEqProofs[pA]
  refine(AC.lift (Hf G l hz hne) (by simp[below]) (by simp[uB,sf]) ?_).mono ?_
  ·simp[FM,sf,uB]
   intro x hx
   obtain⟨f,_,rfl⟩:=RP.1 hx
   rfl
  rintro r h ⟨rfl,rfl⟩
  simp-implicitDefEqProofs[mz,aa,cg,cK]
  let L:Nat->List Fd:=λi=>(l.take i).map g++l.drop i
  have hLl:∀i,i<=l.length->(L i).length=l.length:=λi hi=>by simp[L];omega
  have hLg:∀i,i<l.length->(L i)[i]?=l[i]?:=λi hi=>by
   have:((l.take i).map g).length=i:=by simp;omega
   rw[RI (by omega),this,SG,Sl,Nat.add_zero]
  have hLs:∀i f,l[i]?=some f->(L i).set i (g f)=L (i+1):=λi f hi=>by
   have hil:=(Ry.1 hi).1
   have hlen:((l.take i).map g).length=i:=by simp;omega
   show((l.take i).map g++l.drop i).set i (g f)=(l.take (i+1)).map g++l.drop (i+1)
   rw[List.set_append_right _ _ (by omega),hlen,SG,List.drop_eq_getElem_cons hil,List.set_cons_zero,aq hil,Sw,RT]
   have:l[i]=f:=by rw[Rv hil] at hi;exact Option.some.inj hi
   rw[this];rfl
  have hL0:L 0=l:=by simp[L]
  have hLe:L l.length=l.map g:=by
   show(l.take l.length).map g++l.drop l.length=_
   rw[RR,List.drop_length,Sd]
  generalize hLL:L=L2 at hLl hLg hLs hL0 hLe
  refine az (λi:Nat=>am 42 [(1,.p (.bool cut)),(4,.ptr 0 1 0 0),(5,.ptr 2 1 0 0),(6,.p (.int .i64 i))]) (λi=>[.row 1 [[.nils]],.row 3 (dv (L2 i)),.row 1 [[.sl 1 3 0 l.length]]]) (λi=>i<=l.length) (λi=>l.length-i) 0 (by simp) ?_ ?_
  ·rw[hL0]
   have e:cW 2 (AO.row 3 (dv l))= .row 3 (dv l):=by
    have e2:(dv l).map (cK 2)=dv l:=by
     conv=>rhs;rw[←List.map_id (dv l)]
     refine RO λx hx=>?_
     obtain⟨f,_,rfl⟩:=RP.1 hx
     rfl
    show AO.row 3 ((dv l).map (cK 2))=_
    rw[e2]
   rw[e]
   exact dt [1,5,6] rfl (by decide) (aU rfl (by simp[below]) (aU rfl (je l) (iV (es:=[[.sl 1 3 0 l.length]]) (by simp[below]) (by simp[ren,bI]) bJ))) (by simp[below,ren])
  intro i hi
  have hfl2:=rh (L2 i)
  rw[hLl i hi] at hfl2
  simp-implicitDefEqProofs[hfl2]
  refine aY (λh=>?_) (λh=>?_)
  ·simp at h
   have hg:=Rv h
   have hm:=RB h
   have hgi:(dv (L2 i))[i]?=some [.p (.str l[i].name),.p (aE l[i].params),.p (smL l[i].body)]:=by
    rw[dv,RH,hLg i h,hg];rfl
   have hst:=hLs i l[i] hg
   have hfz:=dr hm
   have hfb:=hf l[i] hm
   generalize l[i]=f at hg hm hgi hst hfz hfb
   have hfz2:f.sz=1+f.name.length+(f.params.length+(f.params.map List.length).sum)+aF f.body:=rfl
   cases cut with
   |true=>
    simp-implicitDefEqProofs[hfl2,hgi]
    refine⟨h,?_⟩
    refine(JX G 4 f.body hfb (by omega)).use ?_
    have hst2:(dv (L2 i)).set i [.p (.str f.name),.p (aE f.params),.p (smL (bg f.body))]=dv (L2 (i+1)):=by
     rw[←hst,dv,dv,List.map_set];rfl
    simp-implicitDefEqProofs[hfl2,hgi,hst2]
    refine⟨h,i+1,by omega,by omega,ab (by simp) (al (by simp[okO,below]) (al (cM (je _)) (al (by simp[okO,below]) ee))) (by simp[below,w1 (i:=i) (by omega)])⟩
   |false=>
    simp-implicitDefEqProofs[hfl2,hgi]
    refine⟨h,?_⟩
    refine(GA G 4 f.body hfb (by omega)).use ?_
    have hst2:(dv (L2 i)).set i [.p (.str f.name),.p (aE f.params),.p (smL (aZ f.body))]=dv (L2 (i+1)):=by
     rw[←hst,dv,dv,List.map_set];rfl
    simp-implicitDefEqProofs[hfl2,hgi,hst2]
    refine⟨h,i+1,by omega,by omega,ab (by simp) (al (by simp[okO,below]) (al (cM (je _)) (al (by simp[okO,below]) ee))) (by simp[below,w1 (i:=i) (by omega)])⟩
  ·simp at h
   have hie:i=l.length:=by omega
   subst hie
   simp-implicitDefEqProofs[]
   rw[hLe]
   have hl2:(l.map g).length=l.length:=RM _
   rw[←hl2]
   exact GO rfl
 refine key.freezeR (λt v h ⟨_,e,_⟩=>by cases e) λv h ⟨u,e1,e2⟩=>?_
 cases e1
 exact .agg (.one e2 .nil) .nil
end
section
theorem pX{l:List Fd}(h:aW l=0):l≠[]/\∀f∈l,∀x∈f.body,aB 4 x=true:=by
 have hp:=((Mq l).1 h).1
 obtain⟨h1,h2,h3⟩:=(ES l).1 hp
 refine⟨?_,λf hf x hx=>?_⟩
 ·rintro rfl;simp at h1
 ·have:=h2 f hf
  simp only[kb,RK,RA] at this
  exact this.2 x hx
variable (G:ay)
theorem LO{l:List Fd}(hz:bt l<=1073741824)(h:aW l=0):VF Tryz.prog G fx [.agg [.p (fdL l)],.p (.bool false)] (.agg [.p (fdL (eS l))]):=Jz G false l hz (pX h).1 (pX h).2
def orN(b:Bool)(l:List Fd):List Fd:=if b then l else[]
theorem zk(l:List Fd)(hz:bt l<=1073741824):VF Tryz.prog G dH [.agg [.p (fdL l)]] (.tup [.agg [.p (fdL (orN (decide (aW l=0)) (eS l)))],.p (.bool (decide (aW l=0)))]):=by
 have key:AC Tryz.prog G dH [.agg [.p (fdL l)]] [] λx h=>∃v,x= .ret (.tup [.agg [v],.p (.bool (decide (aW l=0)))])/\View h v (fdL (orN (decide (aW l=0)) (eS l))):=by
  refine AC.go re ?_
  simp-implicitDefEqProofs[jC]
  refine(JR G l hz).use ?_
  by_cases h0:aW l=0
  ·simp-implicitDefEqProofs[h0]
   refine(LO G hz h0).use ?_
   simp-implicitDefEqProofs[orN]
   exact .p _
  ·simp-implicitDefEqProofs[h0,orN]
   exact .nils 3
 refine key.freezeR (λt v h ⟨_,e,_⟩=>by cases e) λv h ⟨u,e1,e2⟩=>?_
 cases e1
 exact .tup (.agg (.one e2 .nil) (.keep (by simp) .nil)) .nil
end
section
variable (G:ay)
def cH(l:List Fd)(B:AV):List AO:=[.row 1 [[.p (fdL l)]],.row 1 [[B]],.row 1 [[.nils]],.row 1 [[.fn (.func aH) [.ptr 1 1 0 0,.ptr 3 1 0 0]]]]
theorem ME(l:List Fd){B:AV}(hB:below 0 B){m:Nat}(hm:4<=m):∀o∈cH l B,okO m o:=by
 have hb:=aw (SD m) [B] ⟨hB,trivial⟩
 refine al (by simp[okO,below]) (al (by intro e he;rw[RL.1 he];exact hb) (al (by simp[okO,below]) (al ?_ ee)))
 intro e he
 rw[RL.1 he]
 simp only[an,below]
 exact⟨⟨by omega,by omega,trivial⟩,trivial⟩
def LM(l:List Fd)(B:AV)(hB:below 0 B)(F:FuncId)(caps:List AV)(hc:an 4 caps):Vis Unit where
 I:=λ_=>cH l B
 n:=4
 F:=F
 caps:=caps
 len:=λ_=>rfl
 ok:=λ_=>ME l hB (RC _)
 capsOk:=hc
end
section
theorem Pr{P:Program}{G:ay}{f:FuncId}{args:List AV}{w:List AV->AV}{s:Bool}{qs:List PV}{A A':List AO}(hw:Shp w)(H:AC P G f args A (Mk w s qs A'))(hl:A'.length=A.length)(ha:an A.length args)(hA:∀o∈A,okO A.length o)(hA':∀o∈A',okO A.length o)(B:List AO):
 AC P G f args (A++B) (Mk w s qs (A'++B)):=by
 refine(H.frame (List.range' 0 A.length) List.nodup_range' (Fe ha) (Mz rfl hA)).mono ?_
 rintro x h' ⟨x0,h0,⟨vs,I,os,rfl,rfl,ho,nd,hf⟩,hl0,rfl,rfl⟩
 have hlen:(A'++os).length-A.length=os.length:=by rw[RJ];omega
 rw[hlen]
 have hσ:∀i,i<A.length->(List.range' 0 A.length++List.range' (A++B).length os.length).getD i 0=i:=λi hi=>by
  rw[RD,Rz (by simpa using hi)];simp[hi]
 have hσ2:∀i,i<os.length->(List.range' 0 A.length++List.range' (A++B).length os.length).getD (A.length+i) 0=(A++B).length+i:=λi hi=>by
  rw[RD,RI (by simp)];simp[hi]
 generalize List.range' 0 A.length++List.range' (A++B).length os.length=σ at hσ hσ2⊢
 have em:A'.map (lb σ)=A':=by
  rw[RO (g:=id) λo ho=>BO hσ o (hA' o ho)];simp
 have hm:=BC A A' B 0 hl [] rfl
 simp only[List.nil_append] at hm
 rw[List.take_append_of_le_length (by omega),RF (by omega),List.drop_append_of_le_length (by omega),List.drop_of_length_le (by omega),em,List.nil_append,hm]
 have hlt:∀i∈I,∃j,i=A.length+j/\j<os.length:=λi hi=>by
  have h1:=hf i hi
  have h2:=ho.lt hi
  rw[RJ] at h2
  exact⟨i-A.length,by omega,by omega⟩
 refine⟨bI σ vs,I.map λi=>σ.getD i 0,os.map (lb σ),by simp only[EQ];rw[hw.ren],rfl,ho.ren λi hi sz rows e=>?_,?_,λi hi=>?_⟩
 ·obtain⟨j,rfl,hj⟩:=hlt i hi
  rw[RI (by omega),hl,Nat.add_sub_cancel_left] at e
  rw[hσ2 j hj,RI (by rw[RJ,RJ,hl];omega),RJ,RJ,hl,Nat.add_sub_cancel_left,RH,e]
  rfl
 ·rw[RO (g:=λi=>B.length+i) λi hi=>by
   obtain⟨j,rfl,hj⟩:=hlt i hi
   rw[hσ2 j hj,RJ];omega]
  exact oa (λi j e=>by omega) nd
 ·obtain⟨i',hi',rfl⟩:=RP.1 hi
  obtain⟨j,rfl,hj⟩:=hlt i' hi'
  rw[hσ2 j hj,RJ,RJ,hl];omega
theorem Vis.preO{G:ay}{σ:Type}(V:Vis σ){f:FuncId}{args:List AV}{st st':σ}{w:List AV->AV}{qs:List PV}(hw:Shp w)(H:AC Tryz.prog G f args (V.I st) (Mk w true qs (V.I st')))(rest:List AO)(ha:an V.n args):
 AC Tryz.prog G f args (V.I st++rest) (Mk w true qs (V.I st'++rest)):=
 Pr hw H (by rw[V.len,V.len]) (by rw[V.len];exact ha) (by rw[V.len];exact V.ok st) (by rw[V.len];exact V.ok st') rest
def GroI{σ:Type}(V:Vis σ)(sz:Nat)(D:List (List PV))(st:σ)(h:List AO)(x:AV):Prop:=
 (∃os,h=V.I st++os)/\((D=[]/\x= .nils)\/∃id rows J,x= .sl id sz 0 D.length/\D≠[]/\RowOwn true h id sz rows D J/\∀j∈id::J,V.n<=j)
section
variable {σ:Type} {V:Vis σ} {sz:Nat} {D:List (List PV)} {st st':σ} {h:List AO} {x:AV}
theorem GroI.init:GroI V sz [] st (V.I st) .nils:=⟨⟨[],by simp⟩,.inl ⟨rfl,rfl⟩⟩
theorem GroI.done(H:GroI V sz D st h x):Mk bC true [.lst sz D] (V.I st) (.ret x) h:=by
 obtain⟨⟨os,rfl⟩,⟨rfl,rfl⟩|⟨id,rows,J,rfl,_,hr,hJ⟩⟩:=H
 ·exact⟨[.nils],[],os,rfl,rfl,.nils sz .nil,List.nodup_nil,λ_ h=>by cases h⟩
 ·exact⟨[_],id::J,os,rfl,rfl,hr.tree rfl,hr.nd,λi hi=>by rw[V.len];exact hJ i hi⟩
structure GroS (σ:Type) where (i:Nat) (st:σ) (h:List AO) (x:AV)
theorem GroI.call{G:ay}(H:GroI V sz D st h x){f:FuncId}{args:List AV}{w:List AV->AV}{qs:List PV}(hw:Shp w)(HA:AC Tryz.prog G f args (V.I st) (Mk w true qs (V.I st')))(ha:an V.n args)(B:List AO):
 AC Tryz.prog G f args (h++B) (Mk w true qs (V.I st'++h.drop V.n++B)):=by
 obtain⟨⟨os,rfl⟩,_⟩:=H
 have hdrop:(V.I st++os).drop V.n=os:=by rw[←V.len st,List.drop_left'];rfl
 rw[hdrop,RT,RT]
 exact V.preO hw HA (os++B) ha
theorem GroI.len(H:GroI V sz D st h x):V.n<=h.length:=by
 obtain⟨⟨os,rfl⟩,_⟩:=H
 rw[RJ,V.len];omega
theorem GroI.step(H:GroI V sz D st h x){e:List PV}(he:e.length=sz){h2 os2:List AO}(e2:h2=V.I st'++h.drop V.n++os2){r':List AV}{I2:List Nat}(ho:OwnL true h2 r' e I2)(nd2:I2.Nodup)(hf:∀j∈I2,h.length<=j):
 (x= .nils/\D=[]/\∀m:List AO,GroI V sz [e] st' (h2++(m++[.row sz [r']])) (.sl (h2.length+m.length) sz 0 1))\/
 ∃id rows,x= .sl id sz 0 D.length/\h2[id]?=some (.row sz rows)/\rows.length=D.length/\id<h2.length/\∀m:List AO,GroI V sz (D++[e]) st' ((h2++m).set id .dead++[.row sz (rows++[r'])]) (.sl (h2.length+m.length) sz 0 (D.length+1)):=by
 obtain⟨⟨os,rfl⟩,hx⟩:=H
 have hdrop:(V.I st++os).drop V.n=os:=by rw[←V.len st,List.drop_left'];rfl
 rw[hdrop] at e2
 have hl:(V.I st++os).length=V.n+os.length:=by rw[RJ,V.len]
 rw[hl] at hf
 have hsz:r'.length=sz:=by rw[ho.len,he]
 rcases hx with⟨rfl,rfl⟩|⟨id,rows,J,rfl,hD,hr,hJ⟩
 ·refine .inl ⟨rfl,rfl,λm=>⟨⟨os++os2++(m++[.row sz [r']]),by rw[e2];simp⟩,.inr ⟨_,[r'],I2,rfl,by simp,⟨?_,rfl,by simp[hsz],by simp[he],?_,?_⟩,?_⟩⟩⟩
  ·rw[←RT,RI (by simp)];simp
  ·have:=ho.more (m++[.row sz [r']])
   simpa using this
  ·rw[Sr]
   exact⟨λhm=>by have:=ho.lt hm;omega,nd2⟩
  ·intro j hj
   rcases Sa.1 hj with rfl|hj
   ·rw[e2];simp[V.len]<;>omega
   ·have:=hf j hj;omega
 ·have hr2:RowOwn true (V.I st'++os) id sz rows D J:=hr.frame λi hi=>by
   have:=hJ i hi
   rw[RI (by rw[V.len];exact this),RI (by rw[V.len];exact this),V.len,V.len]
  have hid:h2[id]?=some (.row sz rows):=by rw[e2,Rz hr2.lt];exact hr2.here
  refine .inr ⟨id,rows,rfl,hid,hr.len,(Ry.1 hid).1,λm=>?_⟩
  have hp:=hr2.push (h2:=h2++m) (os:=os2++m) (by rw[e2];simp) (ho.more m) nd2 (λj hj=>by have:=hf j hj;rw[RJ,V.len];exact this) he
  have hid0:=hJ id (by simp)
  refine⟨⟨(os++os2++m).set (id-V.n) .dead++[.row sz (rows++[r'])],?_⟩,.inr ⟨(h2++m).length,rows++[r'],J++I2,by simp,by simp,hp,λj hj=>?_⟩⟩
  ·rw[e2,←RT]
   congr 1
   rw[RT,RT,List.set_append_right _ _ (by rw[V.len];exact hid0),V.len]
   simp
  ·rcases Sa.1 hj with rfl|hj
   ·rw[e2];simp[V.len]<;>omega
   ·rcases RG.1 hj with hj|hj
    ·exact hJ j (by simp[hj])
    ·have:=hf j hj;omega
end
end
section
variable (G:ay)
theorem om{σ:Type}(V:Vis σ)(g:σ->Ex->Ex × σ)(inv:Nat->σ->Prop)(l:List Ex)(hb:l.length<=1073741824)
 (hv:∀(i:Nat) st (h:i<l.length),inv i st->inv (i+1) (g st l[i]).2/\AC Tryz.prog G V.F (.agg (l[i].cs.map .p)::V.caps) (V.I st) (Mk .agg true (g st l[i]).1.cs (V.I (g st l[i]).2)))(st:σ)(h0:inv 0 st):
 AC Tryz.prog G aG [.p (exL l),.fn (.func V.F) V.caps] (V.I st) (Mk bC true [exL (dW g st l).1] (V.I (dW g st l).2)):=by
 have hxl:∀l,exL l= .lst 4 (l.map Ex.cs):=λ_=>rfl
 have hcb:=V.capsOk
 have hinv:∀i,i<=l.length->inv i (dW g st (l.take i)).2:=λi hi=>by
  have:=rm (g:=g) (inv:=inv) (l:=l) (st:=st) (k:=0) h0 (λi st h hi=>by
   rw[Sy] at hi⊢;exact(hv i st h hi).1) i hi
  rwa[Sy] at this
 refine AC.go lB ?_
 simp-implicitDefEqProofs[fY,hxl]
 refine az (λa:GroS σ=>am 22 [(5,a.x),(0,.p (exL l)),(1,.fn (.func V.F) V.caps),(8,.p (exL l)),(9,.p (.int .i64 l.length)),(10,.p (.int .i64 a.i))]) (λa=>a.h)
  (λa=>a.i<=l.length/\a.st=(dW g st (l.take a.i)).2/\GroI V 4 ((dW g st (l.take a.i)).1.map Ex.cs) a.st a.h a.x) (λa=>l.length-a.i) ⟨0,st,V.I st,.nils⟩ ⟨SD _,rfl,GroI.init⟩ ?_ ?_
 ·exact aA (RC _) (by simp[below,hxl,V.len,hcb])
 rintro⟨i,s,hh,x⟩ ⟨hi,hst,hI⟩
 simp only at hi hst hI
 have hT:=λh=>tt (g:=g) (l:=l) (st:=st) (i:=i) h
 have hi2:=hinv i hi
 have hml:=ru g (l.take i) st
 rw[RZ,Nat.min_eq_left hi] at hml
 rw[←hst] at hT hi2
 generalize hcur:(dW g st (l.take i)).1=out at hT hml hI
 simp-implicitDefEqProofs[hxl]
 refine aY (λhc=>?_) (λhc=>?_)
 ·simp at hc
  have hg:=Rv hc
  have hT:=hT hc
  obtain⟨_,hA⟩:=hv i s hc hi2
  generalize l[i]=y at hg hT hA
  have hkc:=y.cs_eq
  rw[hkc] at hA
  simp-implicitDefEqProofs[hg,hkc]
  refine(hI.call ec hA ⟨by simp[below],hcb⟩ _).mono ?_
  rintro r h2 ⟨vs,I2,os2,rfl,e2,ho,nd2,hf⟩
  obtain⟨K,rfl,hK⟩:=pR ho
  obtain⟨c1,c2⟩:=bh hK
  have hll:=hI.len
  have hl2:hh.length+1<=h2.length:=by rw[e2,RJ,RJ,RJ,List.length_drop,V.len];simp;omega
  rcases hI.step (by rw[Ex.cs_len]) (by rw[e2,RT]) ho nd2 (λj hj=>by have:=hf j hj;simp[V.len] at this;omega) with⟨rfl,hD,hgo⟩|⟨id,rows,rfl,k1,k2,k3,hgo⟩
  ·simp-implicitDefEqProofs[-AV.cells,-AV.isCell,aM,af,aj,aN,ae,c1,c2,aa]
   have hgo:=hgo [.row 4 [[.p (.int .i64 (g s y).1.op),.p (.int .i64 (g s y).1.n),.p (.str (g s y).1.name),K]]]
   have hD':out=[]:=by simpa using hD
   subst hD'
   refine⟨⟨i+1,(g s y).2,_,.sl (h2.length+1) 4 0 1⟩,⟨hc,?_,?_⟩,?_,aA ?_ ?_⟩
   ·rw[hT]
   ·rw[hT];exact hgo
   ·show l.length-(i+1)<l.length-i;omega
   ·simp[V.len];omega
   ·simp[below,hxl,w1 (i:=i) (by omega)]
    exact aw (by omega) _ hcb
  ·have k1':∀m,(h2++m)[id]?=some (.row 4 rows):=λm=>by rw[Rz k3];exact k1
   rw[RM] at k2
   simp-implicitDefEqProofs[-AV.cells,-AV.isCell,aM,af,aj,aN,ae,c1,c2,aa,k1',k2]
   have ht:List.take out.length rows=rows:=RF (by omega)
   have hgo:=hgo [.row 4 [[.p (.int .i64 (g s y).1.op),.p (.int .i64 (g s y).1.n),.p (.str (g s y).1.name),K]]]
   rw[RM] at hgo
   rw[ht]
   refine⟨⟨by omega,by omega⟩,⟨i+1,(g s y).2,_,.sl (h2.length+1) 4 0 (out.length+1)⟩,⟨hc,?_,?_⟩,?_,aA ?_ ?_⟩
   ·rw[hT]
   ·rw[hT,Sw];exact hgo
   ·show l.length-(i+1)<l.length-i;omega
   ·simp[V.len];omega
   ·simp[below,hxl,w1 (i:=i) (by omega)]
    exact aw (by omega) _ hcb
 ·simp at hc
  have hie:i=l.length:=by omega
  subst hie
  rw[RR] at hcur
  simp-implicitDefEqProofs[]
  rw[←hcur,hst] at hI
  have:=hI.done
  rw[RR] at this
  exact this
theorem GR{σ:Type}(V:Vis σ)(g:σ->Sm->Sm × σ)(inv:Nat->σ->Prop)(l:List Sm)(hb:l.length<=1073741824)
 (hv:∀(i:Nat) st (h:i<l.length),inv i st->inv (i+1) (g st l[i]).2/\AC Tryz.prog G V.F (.agg (l[i].cs.map .p)::V.caps) (V.I st) (Mk .agg true (g st l[i]).1.cs (V.I (g st l[i]).2)))(st:σ)(h0:inv 0 st):
 AC Tryz.prog G bW [.p (smL l),.fn (.func V.F) V.caps] (V.I st) (Mk bC true [smL (dW g st l).1] (V.I (dW g st l).2)):=by
 have hxl:∀l,smL l= .lst 5 (l.map Sm.cs):=λ_=>rfl
 have hcb:=V.capsOk
 have hinv:∀i,i<=l.length->inv i (dW g st (l.take i)).2:=λi hi=>by
  have:=rm (g:=g) (inv:=inv) (l:=l) (st:=st) (k:=0) h0 (λi st h hi=>by
   rw[Sy] at hi⊢;exact(hv i st h hi).1) i hi
  rwa[Sy] at this
 refine AC.go lu ?_
 simp-implicitDefEqProofs[fW,hxl]
 refine az (λa:GroS σ=>am 22 [(5,a.x),(0,.p (smL l)),(1,.fn (.func V.F) V.caps),(8,.p (smL l)),(9,.p (.int .i64 l.length)),(10,.p (.int .i64 a.i))]) (λa=>a.h)
  (λa=>a.i<=l.length/\a.st=(dW g st (l.take a.i)).2/\GroI V 5 ((dW g st (l.take a.i)).1.map Sm.cs) a.st a.h a.x) (λa=>l.length-a.i) ⟨0,st,V.I st,.nils⟩ ⟨SD _,rfl,GroI.init⟩ ?_ ?_
 ·exact aA (RC _) (by simp[below,hxl,V.len,hcb])
 rintro⟨i,s,hh,x⟩ ⟨hi,hst,hI⟩
 simp only at hi hst hI
 have hT:=λh=>tt (g:=g) (l:=l) (st:=st) (i:=i) h
 have hi2:=hinv i hi
 have hml:=ru g (l.take i) st
 rw[RZ,Nat.min_eq_left hi] at hml
 rw[←hst] at hT hi2
 generalize hcur:(dW g st (l.take i)).1=out at hT hml hI
 simp-implicitDefEqProofs[hxl]
 refine aY (λhc=>?_) (λhc=>?_)
 ·simp at hc
  have hg:=Rv hc
  have hT:=hT hc
  obtain⟨_,hA⟩:=hv i s hc hi2
  generalize l[i]=y at hg hT hA
  have hkc:=y.cs_eq
  rw[hkc] at hA
  simp-implicitDefEqProofs[hg,hkc]
  refine(hI.call ec hA ⟨by simp[below],hcb⟩ _).mono ?_
  rintro r h2 ⟨vs,I2,os2,rfl,e2,ho,nd2,hf⟩
  obtain⟨A,B,E,J1,J2,J3,rfl,rfl,oA,oB,oE⟩:=AB ho
  obtain⟨c1,c2⟩:=bh oA
  obtain⟨c3,c4⟩:=bh oB
  obtain⟨c5,c6⟩:=bh oE
  have hll:=hI.len
  have hl2:hh.length+1<=h2.length:=by rw[e2,RJ,RJ,RJ,List.length_drop,V.len];simp;omega
  rcases hI.step (by rw[Sm.cs_len]) (by rw[e2,RT]) ho nd2 (λj hj=>by have:=hf j hj;simp[V.len] at this;omega) with⟨rfl,hD,hgo⟩|⟨id,rows,rfl,k1,k2,k3,hgo⟩
  ·simp-implicitDefEqProofs[-AV.cells,-AV.isCell,aM,af,aj,aN,ae,c1,c2,c3,c4,c5,c6,aa]
   have hgo:=hgo [.row 5 [[.p (.int .i64 (g s y).1.op),.p (.str (g s y).1.name),A,B,E]]]
   have hD':out=[]:=by simpa using hD
   subst hD'
   refine⟨⟨i+1,(g s y).2,_,.sl (h2.length+1) 5 0 1⟩,⟨hc,?_,?_⟩,?_,aA ?_ ?_⟩
   ·rw[hT]
   ·rw[hT];exact hgo
   ·show l.length-(i+1)<l.length-i;omega
   ·simp[V.len];omega
   ·simp[below,hxl,w1 (i:=i) (by omega)]
    exact aw (by omega) _ hcb
  ·have k1':∀m,(h2++m)[id]?=some (.row 5 rows):=λm=>by rw[Rz k3];exact k1
   rw[RM] at k2
   simp-implicitDefEqProofs[-AV.cells,-AV.isCell,aM,af,aj,aN,ae,c1,c2,c3,c4,c5,c6,aa,k1',k2]
   have ht:List.take out.length rows=rows:=RF (by omega)
   have hgo:=hgo [.row 5 [[.p (.int .i64 (g s y).1.op),.p (.str (g s y).1.name),A,B,E]]]
   rw[RM] at hgo
   rw[ht]
   refine⟨⟨by omega,by omega⟩,⟨i+1,(g s y).2,_,.sl (h2.length+1) 5 0 (out.length+1)⟩,⟨hc,?_,?_⟩,?_,aA ?_ ?_⟩
   ·rw[hT]
   ·rw[hT,Sw];exact hgo
   ·show l.length-(i+1)<l.length-i;omega
   ·simp[V.len];omega
   ·simp[below,hxl,w1 (i:=i) (by omega)]
    exact aw (by omega) _ hcb
 ·simp at hc
  have hie:i=l.length:=by omega
  subst hie
  rw[RR] at hcur
  simp-implicitDefEqProofs[]
  rw[←hcur,hst] at hI
  have:=hI.done
  rw[RR] at this
  exact this
theorem Ms{σ:Type}(V:Vis σ)(g:σ->Fd->Fd × σ)(inv:Nat->σ->Prop)(l:List Fd)(hb:l.length<=1073741824)
 (hv:∀(i:Nat) st (h:i<l.length),inv i st->inv (i+1) (g st l[i]).2/\AC Tryz.prog G V.F (.agg (l[i].cs.map .p)::V.caps) (V.I st) (Mk .agg true (g st l[i]).1.cs (V.I (g st l[i]).2)))(st:σ)(h0:inv 0 st):
 AC Tryz.prog G cG [.p (fdL l),.fn (.func V.F) V.caps] (V.I st) (Mk bC true [fdL (dW g st l).1] (V.I (dW g st l).2)):=by
 have hxl:∀l,fdL l= .lst 3 (l.map Fd.cs):=λ_=>rfl
 have hcb:=V.capsOk
 have hinv:∀i,i<=l.length->inv i (dW g st (l.take i)).2:=λi hi=>by
  have:=rm (g:=g) (inv:=inv) (l:=l) (st:=st) (k:=0) h0 (λi st h hi=>by
   rw[Sy] at hi⊢;exact(hv i st h hi).1) i hi
  rwa[Sy] at this
 refine AC.go mJ ?_
 simp-implicitDefEqProofs[gB,hxl]
 refine az (λa:GroS σ=>am 22 [(5,a.x),(0,.p (fdL l)),(1,.fn (.func V.F) V.caps),(8,.p (fdL l)),(9,.p (.int .i64 l.length)),(10,.p (.int .i64 a.i))]) (λa=>a.h)
  (λa=>a.i<=l.length/\a.st=(dW g st (l.take a.i)).2/\GroI V 3 ((dW g st (l.take a.i)).1.map Fd.cs) a.st a.h a.x) (λa=>l.length-a.i) ⟨0,st,V.I st,.nils⟩ ⟨SD _,rfl,GroI.init⟩ ?_ ?_
 ·exact aA (RC _) (by simp[below,hxl,V.len,hcb])
 rintro⟨i,s,hh,x⟩ ⟨hi,hst,hI⟩
 simp only at hi hst hI
 have hT:=λh=>tt (g:=g) (l:=l) (st:=st) (i:=i) h
 have hi2:=hinv i hi
 have hml:=ru g (l.take i) st
 rw[RZ,Nat.min_eq_left hi] at hml
 rw[←hst] at hT hi2
 generalize hcur:(dW g st (l.take i)).1=out at hT hml hI
 simp-implicitDefEqProofs[hxl]
 refine aY (λhc=>?_) (λhc=>?_)
 ·simp at hc
  have hg:=Rv hc
  have hT:=hT hc
  obtain⟨_,hA⟩:=hv i s hc hi2
  generalize l[i]=y at hg hT hA
  have hkc:=y.cs_eq'
  rw[hkc] at hA
  simp-implicitDefEqProofs[hg,hkc]
  refine(hI.call ec hA ⟨by simp[below],hcb⟩ _).mono ?_
  rintro r h2 ⟨vs,I2,os2,rfl,e2,ho,nd2,hf⟩
  obtain⟨A,B,J1,J2,rfl,rfl,oA,oB⟩:=EB ho
  obtain⟨c1,c2⟩:=bh oA
  obtain⟨c3,c4⟩:=bh oB
  have hll:=hI.len
  have hl2:hh.length+1<=h2.length:=by rw[e2,RJ,RJ,RJ,List.length_drop,V.len];simp;omega
  rcases hI.step (by rw[Fd.cs_len]) (by rw[e2,RT]) ho nd2 (λj hj=>by have:=hf j hj;simp[V.len] at this;omega) with⟨rfl,hD,hgo⟩|⟨id,rows,rfl,k1,k2,k3,hgo⟩
  ·simp-implicitDefEqProofs[-AV.cells,-AV.isCell,aM,af,aj,aN,ae,c1,c2,c3,c4,aa]
   have hgo:=hgo [.row 3 [[.p (.str (g s y).1.name),A,B]]]
   have hD':out=[]:=by simpa using hD
   subst hD'
   refine⟨⟨i+1,(g s y).2,_,.sl (h2.length+1) 3 0 1⟩,⟨hc,?_,?_⟩,?_,aA ?_ ?_⟩
   ·rw[hT]
   ·rw[hT];exact hgo
   ·show l.length-(i+1)<l.length-i;omega
   ·simp[V.len];omega
   ·simp[below,hxl,w1 (i:=i) (by omega)]
    exact aw (by omega) _ hcb
  ·have k1':∀m,(h2++m)[id]?=some (.row 3 rows):=λm=>by rw[Rz k3];exact k1
   rw[RM] at k2
   simp-implicitDefEqProofs[-AV.cells,-AV.isCell,aM,af,aj,aN,ae,c1,c2,c3,c4,aa,k1',k2]
   have ht:List.take out.length rows=rows:=RF (by omega)
   have hgo:=hgo [.row 3 [[.p (.str (g s y).1.name),A,B]]]
   rw[RM] at hgo
   rw[ht]
   refine⟨⟨by omega,by omega⟩,⟨i+1,(g s y).2,_,.sl (h2.length+1) 3 0 (out.length+1)⟩,⟨hc,?_,?_⟩,?_,aA ?_ ?_⟩
   ·rw[hT]
   ·rw[hT,Sw];exact hgo
   ·show l.length-(i+1)<l.length-i;omega
   ·simp[V.len];omega
   ·simp[below,hxl,w1 (i:=i) (by omega)]
    exact aw (by omega) _ hcb
 ·simp at hc
  have hie:i=l.length:=by omega
  subst hie
  rw[RR] at hcur
  simp-implicitDefEqProofs[]
  rw[←hcur,hst] at hI
  have:=hI.done
  rw[RR] at this
  exact this
end
section
variable (G:ay)
theorem tn{X os Y post:List AO}{vs:List AV}{qs:List PV}{I:List Nat}(ho:OwnL true (X++os) vs qs I)(hf:∀i∈I,X.length<=i)(hl:Y.length=X.length):OwnL true (Y++(os++post)) vs qs I:=
 ho.frame λi hi=>by
  have h1:=hf i hi
  have h2:=ho.lt hi
  rw[RJ] at h2
  rw[RI h1,RI (by omega),hl,Rz (by omega)]
theorem sg{X os Y:List AO}{vs:List AV}{qs:List PV}{I:List Nat}(ho:OwnL true (X++os) vs qs I)(hf:∀i∈I,X.length<=i)(hl:Y.length=X.length):OwnL true (Y++os) vs qs I:=by
 have:=tn (post:=[]) ho hf hl
 rwa[Sd] at this
theorem Qz{C P os1 os2 os3 X1 X2 X3:List AO}{KA KB KE:AV}{qa qb qe:PV}{I1 I2 I3:List Nat}(o:Int)(nm:List UInt8)
 (ho1:OwnL true (X1++os1) [KA] [qa] I1)(ho2:OwnL true (X2++os2) [KB] [qb] I2)(ho3:OwnL true (X3++os3) [KE] [qe] I3)(nd1:I1.Nodup)(nd2:I2.Nodup)(nd3:I3.Nodup)
 (hf1:∀i∈I1,X1.length<=i)(hf2:∀i∈I2,X2.length<=i)(hf3:∀i∈I3,X3.length<=i)
 (l1:X1.length=C.length+P.length)(l2:X2.length=C.length+P.length+os1.length)(l3:X3.length=C.length+P.length+os1.length+os2.length):
 Mk .agg true [.int .i64 o,.str nm,qa,qb,qe] C (.ret (.agg [.p (.int .i64 o),.p (.str nm),KA,KB,KE])) (C++(P++(os1++(os2++os3)))):=by
 have m1:=tn (Y:=C++P) (post:=os2++os3) ho1 hf1 (by simp[l1])
 have m2:=tn (Y:=C++P++os1) (post:=os3) ho2 hf2 (by simp[l2];omega)
 have m3:=tn (Y:=C++P++os1++os2) (post:=[]) ho3 hf3 (by simp[l3];omega)
 have e1:(C++P)++(os1++(os2++os3))=C++(P++(os1++(os2++os3))):=by simp
 have e2:C++P++os1++(os2++os3)=C++(P++(os1++(os2++os3))):=by simp
 have e3:C++P++os1++os2++(os3++[])=C++(P++(os1++(os2++os3))):=by simp
 rw[e1] at m1
 rw[e2] at m2
 rw[e3] at m3
 have b1:∀i∈I1,i<C.length+P.length+os1.length:=λi hi=>by
  have h2:=ho1.lt hi
  rw[RJ] at h2
  omega
 have b2:∀i∈I2,C.length+P.length+os1.length<=i/\i<C.length+P.length+os1.length+os2.length:=λi hi=>by
  have h1:=hf2 i hi
  have h2:=ho2.lt hi
  rw[RJ] at h2
  omega
 have b3:∀i∈I3,C.length+P.length+os1.length+os2.length<=i:=λi hi=>by
  have h1:=hf3 i hi
  omega
 refine⟨_,I1++(I2++I3),_,rfl,rfl,.p _ (λ_=>rfl) (.p _ (λ_=>rfl) (m1.app (m2.app m3))),?_,λi hi=>?_⟩
 ·refine tj (C.length+P.length+os1.length) nd1 (tj (C.length+P.length+os1.length+os2.length) nd2 nd3 (λi hi=>(b2 i hi).2) b3) b1 λi hi=>?_
  rcases RG.1 hi with h|h
  ·have:=b2 i h;omega
  ·have:=b3 i h;omega
 ·rcases RG.1 hi with h|h
  ·have:=hf1 i h;omega
  ·rcases RG.1 h with h|h
   ·have:=b2 i h;omega
   ·have:=b3 i h;omega
theorem Rf{C P os1 os2 X1 X2:List AO}{KA KB:AV}{qa qb:PV}{I1 I2:List Nat}(nm:List UInt8)
 (ho1:OwnL true (X1++os1) [KA] [qa] I1)(ho2:OwnL true (X2++os2) [KB] [qb] I2)(nd1:I1.Nodup)(nd2:I2.Nodup)
 (hf1:∀i∈I1,X1.length<=i)(hf2:∀i∈I2,X2.length<=i)
 (l1:X1.length=C.length+P.length)(l2:X2.length=C.length+P.length+os1.length):
 Mk .agg true [.str nm,qa,qb] C (.ret (.agg [.p (.str nm),KA,KB])) (C++(P++(os1++os2))):=by
 have m1:=tn (Y:=C++P) (post:=os2) ho1 hf1 (by simp[l1])
 have m2:=tn (Y:=C++P++os1) (post:=[]) ho2 hf2 (by simp[l2];omega)
 have e1:(C++P)++(os1++os2)=C++(P++(os1++os2)):=by simp
 have e2:C++P++os1++(os2++[])=C++(P++(os1++os2)):=by simp
 rw[e1] at m1
 rw[e2] at m2
 have b1:∀i∈I1,i<C.length+P.length+os1.length:=λi hi=>by
  have h2:=ho1.lt hi
  rw[RJ] at h2
  omega
 have b2:∀i∈I2,C.length+P.length+os1.length<=i:=λi hi=>by
  have h1:=hf2 i hi
  omega
 refine⟨_,I1++I2,_,rfl,rfl,.p _ (λ_=>rfl) (m1.app m2),tj (C.length+P.length+os1.length) nd1 nd2 b1 b2,λi hi=>?_⟩
 rcases RG.1 hi with h|h
 ·have:=hf1 i h;omega
 ·have:=b2 i h;omega
theorem Cl:∀(N:Nat) (e:Ex),e.sz<=N->e.sz<=1073741824->AC Tryz.prog G bp [.agg (e.cs.map .p)] [] (MkW .agg true e.cs):=by
 intro N
 induction N with
 |zero=>intro e h;have:=e.sz_eq;omega
 |succ N ih=>
  intro e he hz
  have hc:=e.cs_eq
  have hzz:=e.sz_eq
  have hlen:=aP e.kids
  refine AC.go sT ?_
  simp-implicitDefEqProofs[lQ,hc]
  have HM:=om G (GV bp [.row 4 [[.p (.int .i64 e.op),.p (.int .i64 e.n),.p (.str e.name),.p (exL e.kids)]],.row 4 [[.p (.int .i64 0),.p (.int .i64 0),.p (.str []),.nils]]] (by simp[okO,below])) (λ(st:Unit) x=>(x,st)) (λ_ _=>True) e.kids (by omega)
   (λi st hi _=>⟨trivial,by
     have h2:=aC (RB hi)
     exact(ih e.kids[i] (by omega) (by omega)).mkLift ec (by simp[below])⟩) () trivial
  rw[show(λ(st:Unit) (x:Ex)=>(x,st))=(λ(st:Unit) x=>(id x,st)) from rfl,gS,List.map_id] at HM
  refine HM.mono ?_
  rintro r h ⟨vs,I,os,rfl,rfl,ho,nd,hf⟩
  obtain⟨K,rfl⟩:=aO ho
  obtain⟨c1,c2⟩:=bh ho
  simp-implicitDefEqProofs[-AV.cells,-AV.isCell,aM,af,aj,aN,ae,c1,c2,aa,GV,bC]
  exact⟨_,I,rfl,.p _ (λ_=>rfl) (.p _ (λ_=>rfl) (.p _ (λ_=>rfl) (sg (Y:=[_,_]) ho hf rfl))),nd⟩
theorem CS(h:List AO)(hok:∀o∈h,okO h.length o)(a:List Ex)(hz:cb a<=1073741824):AC Tryz.prog G aG [.p (exL a),.fn (.func bp) []] h (Mk bC true [exL a] h):=by
 have hlen:=aP a
 have HM:=om G (GV bp h hok) (λ(st:Unit) x=>(id x,st)) (λ_ _=>True) a (by omega)
  (λi st hi _=>⟨trivial,by
    have h2:=aC (RB hi)
    exact(Cl G _ a[i] (RC _) (by omega)).mkLift ec (by simp[below])⟩) () trivial
 rw[gS,List.map_id] at HM
 exact HM
def ud(l0:List Fd)(B:AV)(H:List Sm->List Sm)(l:List Sm):Prop:=AC Tryz.prog G aH [.p (smL l),.ptr 1 1 0 0,.ptr 3 1 0 0] (cH l0 B) (Mk bC true [smL (H l)] (cH l0 B))
theorem BK(l0:List Fd){B:AV}(hB:below 0 B)(H:List Sm->List Sm)(s:Sm)(hz:s.sz<=1073741824)(hb:ud G l0 B H s.body)(he:ud G l0 B H s.els):
 AC Tryz.prog G cz [.agg (s.cs.map .p),.ptr 3 1 0 0] (cH l0 B) (Mk .agg true (inS H s).cs (cH l0 B)):=by
 have hcs:=s.cs_eq
 have hzz:=s.sz_eq
 have hlen:=aP s.args
 have hic:(inS H s).cs=[.int .i64 s.op,.str s.name,exL s.args,smL (H s.body),smL (H s.els)]:=by rw[Sm.cs_eq];rfl
 let V:=LM l0 B hB aH [] trivial
 have hl4:(cH l0 B).length=4:=rfl
 have hg30:∀h:3<(cH l0 B).length,(cH l0 B)[3]= .row 1 [[.fn (.func aH) [.ptr 1 1 0 0,.ptr 3 1 0 0]]]:=λ_=>rfl
 have hg3:∀r:List AO,(cH l0 B++r)[3]?=some (.row 1 [[.fn (.func aH) [.ptr 1 1 0 0,.ptr 3 1 0 0]]]):=λr=>rfl
 have hVp:∀(l:List Sm),ud G l0 B H l->∀rest,AC Tryz.prog G aH [.p (smL l),.ptr 1 1 0 0,.ptr 3 1 0 0] (cH l0 B++rest) (Mk bC true [smL (H l)] (cH l0 B++rest)):=λl w rest=>
  V.preO (st:=()) (st':=()) eb w rest ⟨by simp[below],by simp only[below];show 1<4;omega,by simp only[below];show 3<4;omega,trivial⟩
 have hCl:∀rest,(∀o∈rest,okO 0 o)->AC Tryz.prog G aG [.p (exL s.args),.fn (.func bp) []] (cH l0 B++rest) (Mk bC true [exL s.args] (cH l0 B++rest)):=by
  intro rest hr
  refine CS G _ ?_ s.args (by omega)
  intro o ho
  rcases RG.1 ho with h|h
  ·exact ME l0 hB (by rw[RJ,hl4];omega) o h
  ·exact cM (hr o h)
 have icf:∀f c,(AV.fn f c).isCell=true:=λ_ _=>rfl
 refine AC.go rc ?_
 generalize hh:cH l0 B=C at*
 have hg5:∀(a b:AO) t,(C++a::b::t)[5]?=some b:=λa b t=>by rw[RI (by omega),hl4];rfl
 rw[hic]
 simp-implicitDefEqProofs[jl,hcs,hl4,hg30]
 refine(hCl _ (by simp[okO])).mono ?_
 rintro r h ⟨vs,I1,os1,rfl,rfl,ho1,nd1,hf1⟩
 obtain⟨KA,rfl⟩:=aO ho1
 obtain⟨c1,c2⟩:=bh ho1
 simp-implicitDefEqProofs[-AV.cells,-AV.isCell,aM,af,aj,aN,ae,c1,c2,aa,hl4,hg30,hg3,hg5,icf,bC]
 refine(hVp _ hb _).mono ?_
 rintro r h ⟨vs,I2,os2,rfl,rfl,ho2,nd2,hf2⟩
 obtain⟨KB,rfl⟩:=aO ho2
 obtain⟨c3,c4⟩:=bh ho2
 simp-implicitDefEqProofs[-AV.cells,-AV.isCell,aM,af,aj,aN,ae,c1,c2,c3,c4,aa,hl4,hg30,hg3,hg5,icf,bC]
 refine(hVp _ he _).mono ?_
 rintro r h ⟨vs,I3,os3,rfl,rfl,ho3,nd3,hf3⟩
 obtain⟨KE,rfl⟩:=aO ho3
 obtain⟨c5,c6⟩:=bh ho3
 simp-implicitDefEqProofs[-AV.cells,-AV.isCell,aM,af,aj,aN,ae,c1,c2,c3,c4,c5,c6,aa,hl4,hg30,hg3,hg5,icf,bC]
 exact Qz (C:=C) (P:=[_,_]) _ _ ho1 ho2 ho3 nd1 nd2 nd3 hf1 hf2 hf3 (by simp) (by simp;omega) (by simp;omega)
theorem Cs(h:List AO):∀l:List (List UInt8),OwnL true h (l.map λw=>[AV.p (.str w)]).flatten (l.map λw=>[PV.str w]).flatten []
 |[]=> .nil
 |w::r=> .p _ (λ_=>rfl) (Cs h r)
theorem Kn(l:List (List UInt8))(hl:l.length<=1073741824):AC Tryz.prog G dX [.p (aE l)] [] (MkW bC true [aE l]):=by
 have hsl:aE l= .lst 1 (l.map λw=>[.str w]):=rfl
 have hR:∀l:List (List UInt8),RowOwn true [.dead,.row 1 (l.map λw=>[AV.p (.str w)])] 1 1 (l.map λw=>[AV.p (.str w)]) (l.map λw=>[PV.str w]) []:=λl=>
  ⟨rfl,by simp,λe he=>by obtain⟨w,_,rfl⟩:=RP.1 he;rfl,λe he=>by obtain⟨w,_,rfl⟩:=RP.1 he;rfl,Cs _ l,by simp⟩
 have hT:MkW bC true [.lst 1 (l.map λw=>[.str w])] (.ret (.sl 1 1 0 l.length)) [.dead,.row 1 (l.map λw=>[AV.p (.str w)])]:=⟨[_],[1],rfl,(hR l).tree (by simp),by simp⟩
 refine AC.go mH ?_
 simp-implicitDefEqProofs[gD,hsl]
 cases l with
 |nil=>
  simp[DO]
  exact⟨⟨[.nils],[],rfl,.nils 1 .nil,List.nodup_nil⟩,hT⟩
 |cons w r=>
  simp only[RN] at hl
  simp[DO]
  refine⟨⟨by omega,by omega⟩,?_⟩
  exact hT
theorem El(l0:List Fd){B:AV}(hB:below 0 B)(H:List Sm->List Sm)(f:Fd)(hz:f.sz<=1073741824)(hb:ud G l0 B H f.body):
 AC Tryz.prog G dp [.agg (f.cs.map .p),.ptr 3 1 0 0] (cH l0 B) (Mk .agg true (eaF H f).cs (cH l0 B)):=by
 have hcs:f.cs=[.str f.name,aE f.params,smL f.body]:=rfl
 have hic:(eaF H f).cs=[.str f.name,aE f.params,smL (H f.body)]:=rfl
 have hfz:f.sz=1+f.name.length+(f.params.length+(f.params.map List.length).sum)+aF f.body:=rfl
 let V:=LM l0 B hB aH [] trivial
 have hl4:(cH l0 B).length=4:=rfl
 have hg30:∀h:3<(cH l0 B).length,(cH l0 B)[3]= .row 1 [[.fn (.func aH) [.ptr 1 1 0 0,.ptr 3 1 0 0]]]:=λ_=>rfl
 have hg3:∀r:List AO,(cH l0 B++r)[3]?=some (.row 1 [[.fn (.func aH) [.ptr 1 1 0 0,.ptr 3 1 0 0]]]):=λr=>rfl
 have hVp:∀rest,AC Tryz.prog G aH [.p (smL f.body),.ptr 1 1 0 0,.ptr 3 1 0 0] (cH l0 B++rest) (Mk bC true [smL (H f.body)] (cH l0 B++rest)):=λrest=>
  V.preO (st:=()) (st':=()) eb hb rest ⟨by simp[below],by simp only[below];show 1<4;omega,by simp only[below];show 3<4;omega,trivial⟩
 have icf:∀f c,(AV.fn f c).isCell=true:=λ_ _=>rfl
 refine AC.go sL ?_
 generalize hh:cH l0 B=C at*
 have hg5:∀(a b:AO) t,(C++a::b::t)[5]?=some b:=λa b t=>by rw[RI (by omega),hl4];rfl
 rw[hic]
 simp-implicitDefEqProofs[lH,hcs,hl4,hg30]
 refine(AC.mkLift eb (Kn G f.params (by omega)) (by simp[below])).mono ?_
 rintro r h ⟨vs,I1,os1,rfl,rfl,ho1,nd1,hf1⟩
 obtain⟨KA,rfl⟩:=aO ho1
 obtain⟨c1,c2⟩:=bh ho1
 simp-implicitDefEqProofs[-AV.cells,-AV.isCell,aM,af,aj,aN,ae,c1,c2,aa,hl4,hg30,hg3,hg5,icf,bC]
 refine(hVp _).mono ?_
 rintro r h ⟨vs,I2,os2,rfl,rfl,ho2,nd2,hf2⟩
 obtain⟨KB,rfl⟩:=aO ho2
 obtain⟨c3,c4⟩:=bh ho2
 simp-implicitDefEqProofs[-AV.cells,-AV.isCell,aM,af,aj,aN,ae,c1,c2,c3,c4,aa,hl4,hg30,hg3,hg5,icf,bC]
 exact Rf (C:=C) (P:=[_,_]) _ ho1 ho2 nd1 nd2 hf1 hf2 (by simp) (by simp;omega)
end
section
variable (G:ay)
theorem NA(hK:G de=some cX)(hS:G bx=some [PV.tbl opK opV]):∀(d:Nat) (e:Ex),aT d e=true->d<=6->e.parts<=30->e.sz<=1073741824->AC Tryz.prog G dx [.agg (e.cs.map .p)] [] (MkW .agg true (dm e).cs):=by
 intro d
 induction d with
 |zero=>intro e h;cases h
 |succ d ih=>
  intro e hf hd hp hz
  have hc:=e.cs_eq
  have hpp:=e.parts_eq
  have hzz:=e.sz_eq
  have hlen:=aP e.kids
  rw[Ci]
  refine AC.go Du ?_
  simp-implicitDefEqProofs[tQ,hc]
  have HM:=om G (GV dx [.row 4 [[.p (.int .i64 e.op),.p (.int .i64 e.n),.p (.str e.name),.p (exL e.kids)]],.row 4 [[.p (.int .i64 0),.p (.int .i64 0),.p (.str []),.nils]]] (by simp[okO,below])) (λ(st:Unit) x=>(dm x,st)) (λ_ _=>True) e.kids (by omega)
   (λi st hi _=>⟨trivial,by
     have hk:=RB hi
     have h1:=jo hk
     have h2:=aC hk
     exact(ih e.kids[i] (eN hf hk) (by omega) (by omega) (by omega)).mkLift ec (by simp[below])⟩) () trivial
  rw[gS,←dT] at HM
  refine HM.mono ?_
  rintro r h ⟨vs,I,os,rfl,rfl,ho,nd,hf'⟩
  obtain⟨K,rfl⟩:=aO ho
  obtain⟨c1,c2⟩:=bh ho
  have h2:=lM e.kids
  have h3:=sH e.kids
  have H:=DZ G hK hS (vM hf) hd (by rw[Ex.parts_eq];show 1+aI (aX e.kids)<=30;omega) (by
   rw[Ex.sz_eq]
   show 1+e.name.length+cb (aX e.kids)<=_
   omega) ([.row 4 [[.p (.int .i64 e.op),.p (.int .i64 e.n),.p (.str e.name),K]],.row 4 [[.p (.int .i64 0),.p (.int .i64 0),.p (.str []),.nils]]]++os) K I (sg ho hf' rfl) nd
  simp-implicitDefEqProofs[-AV.cells,-AV.isCell,aM,af,aj,aN,ae,c1,c2,aa,GV,bC]
  refine H.mono ?_
  rintro x h ⟨vs2,I2,os2,rfl,rfl,ho2,nd2,hs2⟩
  obtain⟨K2,rfl,hK2⟩:=pR ho2
  obtain⟨c3,c4⟩:=bh hK2
  simp-implicitDefEqProofs[-AV.cells,-AV.isCell,aM,af,aj,aN,ae,c3,c4,aa]
  have hge:∀j∈I2,2<=j:=λj hj=>by
   rcases hs2 j hj with h|h
   ·exact hf' j h
   ·simp at h;omega
  rw[RT] at hK2
  exact⟨_,I2,rfl,by rw[Ex.cs_eq];exact .p _ (λ_=>rfl) (.p _ (λ_=>rfl) (.p _ (λ_=>rfl) (sg (X:=[_,_]) (Y:=[_,_]) hK2 hge rfl))),nd2⟩
theorem EC(hK:G de=some cX)(hS:G bx=some [PV.tbl opK opV])(a:List Ex)(hf:∀x∈a,gt x=true)(hz:cb a<=1073741824):AC Tryz.prog G aG [.p (exL a),.fn (.func dx) []] [] (MkW bC true [exL (aX a)]):=by
 have hlen:=aP a
 have HM:=om G (GV dx [] (by simp)) (λ(st:Unit) x=>(dm x,st)) (λ_ _=>True) a (by omega)
  (λi st hi _=>⟨trivial,by
    have hk:=RB hi
    have h1:=hf _ hk
    have h2:=aC hk
    rw[gt,RK,decide_eq_true_eq] at h1
    exact(NA G hK hS 6 a[i] h1.1 (by omega) h1.2 (by omega)).mkLift ec (by simp[below])⟩) () trivial
 rw[gS,←dT] at HM
 refine AC.mono HM ?_
 rintro x h ⟨vs,I,os,rfl,rfl,ho,nd,_⟩
 exact⟨vs,I,rfl,ho,nd⟩
theorem Lb{s:Bool}{h:List AO}{id sz:Nat}{rows:List (List AV)}{D:List (List PV)}{J:List Nat}(H:RowOwn s h id sz rows D J){i:Nat}{e:List PV}(hi:D[i]?=some e):
 ∃r Ji,rows[i]?=some r/\OwnL s h r e Ji/\Ji.Nodup/\(∀j∈Ji,j∈J)/\∀(os:List AO) (r':List AV) (e':List PV) (I2:List Nat),OwnL s (h++os) r' e' I2->I2.Nodup->(∀j∈I2,j∈Ji\/h.length<=j)->e'.length=sz->
  ∃J',RowOwn s ((h++os).set id (.row sz (rows.set i r'))) id sz (rows.set i r') (D.set i e') J'/\∀j∈J',j∈J\/h.length<=j:=by
 obtain⟨r,J1,Ji,J2,g1,rfl,g3,g4⟩:=H.own.put H.len H.rl H.dl hi
 have hid:=H.lt
 have hn:=H.nd
 have hlt:∀j∈J1++(Ji++J2),j<h.length:=λj hj=>H.own.lt hj
 simp only[Sr,Su,RG,not_or] at hn hlt
 obtain⟨⟨n1,n2,n3⟩,m1,⟨m2,m3,m4⟩,m5⟩:=hn
 refine⟨r,Ji,g1,g3,m2,λj hj=>by simp[hj],λos r' e' I2 ho nd2 hs he=>?_⟩
 have hid2:id∉I2:=λhm=>by
  rcases hs _ hm with h|h
  ·exact n2 h
  ·omega
 refine⟨J1++(I2++J2),⟨by rw[RW (by simp;omega)],by simp[H.len],λe he'=>?_,λe he'=>?_,g4 _ r' e' I2 (λj hj=>?_) (ho.set_out hid2 _),?_⟩,λj hj=>?_⟩
 ·rcases List.mem_or_eq_of_mem_set he' with h1|rfl
  ·exact H.rl e h1
  ·rw[ho.len,he]
 ·rcases List.mem_or_eq_of_mem_set he' with h1|rfl
  ·exact H.dl e h1
  ·exact he
 ·have hj2:j≠id:=λe=>by
   subst e
   rcases RG.1 hj with hj|hj
   ·exact n1 hj
   ·exact n3 hj
  have hjl:j<h.length:=by
   rcases RG.1 hj with hj|hj
   ·exact hlt j (.inl hj)
   ·exact hlt j (.inr (.inr hj))
  rw[RS (Ne.symm hj2),Rz hjl]
 ·simp only[Sr,Su,RG,not_or]
  refine⟨⟨n1,hid2,n3⟩,m1,⟨nd2,m3,λa ha b hb e=>?_⟩,λa ha b hb e=>?_⟩
  ·subst e
   rcases hs _ ha with h|h
   ·exact m4 a h a hb rfl
   ·have:=hlt a (.inr (.inr hb));omega
  ·subst e
   rcases hb with hb|hb
   ·rcases hs _ hb with h|h
    ·exact m5 a ha a (.inl h) rfl
    ·have:=hlt a (.inl ha);omega
   ·exact m5 a ha a (.inr hb) rfl
 ·simp only[RG] at hj⊢
  rcases hj with hj|hj|hj
  ·exact .inl (.inl hj)
  ·rcases hs _ hj with h|h
   ·exact .inl (.inr (.inl h))
   ·exact .inr h
  ·exact .inl (.inr (.inr hj))
structure FbS where (i:Nat) (X:List AO)
def Ih(h:List AO)(I:List Nat)(l:List Sm)(x:ARes)(h':List AO):Prop:=∃v' I',x= .ret v'/\h.length<=h'.length/\OwnL true h' [v'] [smL (l.map lg)] I'/\I'.Nodup/\(∀i∈I',i∈I\/h.length<=i)/\∀i,i<h.length->i∉I->h'[i]?=h[i]?
theorem GK(hK:G de=some cX)(hS:G bx=some [PV.tbl opK opV])(l:List Sm)(hf:∀x∈l,∀a∈x.args,gt a=true)(hz:aF l<=1073741824)(h:List AO)(v:AV)(I:List Nat)(ho:OwnL true h [v] [smL l] I)(nd:I.Nodup):
 AC Tryz.prog G aL [v] h (Ih h I l):=by
 have hsl:∀l,smL l= .lst 5 (l.map Sm.cs):=λ_=>rfl
 have hll:=bi l
 rw[hsl] at ho
 rcases ho.inv nd with⟨h0,rfl,rfl|rfl⟩|⟨hh,_⟩|⟨id,rows,J,rfl,rfl,hr⟩
 ·have hl0:l=[]:=SE.1 h0
  subst hl0
  have hst:Ih h [] [] (.ret .nils) h:=⟨.nils,[],rfl,RC _,.nils 5 .nil,List.nodup_nil,λi hi=>by simp at hi,λ_ _ _=>rfl⟩
  refine AC.go eu ?_
  simp-implicitDefEqProofs[cT]
  refine az (λ_:Unit=>am 21 [(0,.nils),(5,.p (.int .i64 0)),(6,.p (.int .i64 0))]) (λ_=>h) (λ_=>True) (λ_=>0) () trivial (aA (RC _) (by simp[below])) ?_
  intro _ _
  simp-implicitDefEqProofs[]
  exact hst
 ·have hl0:l=[]:=SE.1 h0
  subst hl0
  have hst:Ih h [] [] (.ret (.p (.lst 5 []))) h:=⟨_,[],rfl,RC _,.p _ (λ_=>rfl) .nil,List.nodup_nil,λi hi=>by simp at hi,λ_ _ _=>rfl⟩
  refine AC.go eu ?_
  simp-implicitDefEqProofs[cT]
  refine az (λ_:Unit=>am 21 [(0,.p (.lst 5 [])),(5,.p (.int .i64 0)),(6,.p (.int .i64 0))]) (λ_=>h) (λ_=>True) (λ_=>0) () trivial (aA (RC _) (by simp[below])) ?_
  intro _ _
  simp-implicitDefEqProofs[]
  exact hst
 ·cases hh
 let L:Nat->List Sm:=λi=>(l.take i).map lg++l.drop i
 have hLl:∀i,i<=l.length->(L i).length=l.length:=λi hi=>by simp[L];omega
 have hLg:∀i,i<l.length->(L i)[i]?=l[i]?:=λi hi=>by
  have:((l.take i).map lg).length=i:=by simp;omega
  rw[RI (by omega),this,SG,Sl,Nat.add_zero]
 have hLs:∀i f,l[i]?=some f->(L i).set i (lg f)=L (i+1):=λi f hi=>by
  have hil:=(Ry.1 hi).1
  have hlen:((l.take i).map lg).length=i:=by simp;omega
  show((l.take i).map lg++l.drop i).set i (lg f)=(l.take (i+1)).map lg++l.drop (i+1)
  rw[List.set_append_right _ _ (by omega),hlen,SG,List.drop_eq_getElem_cons hil,List.set_cons_zero,aq hil,Sw,RT]
  have:l[i]=f:=by rw[Rv hil] at hi;exact Option.some.inj hi
  rw[this];rfl
 have hL0:L 0=l:=by simp[L]
 have hLe:L l.length=l.map lg:=by
  show(l.take l.length).map lg++l.drop l.length=_
  rw[RR,List.drop_length,Sd]
 generalize hLL:L=L2 at hLl hLg hLs hL0 hLe
 have hidl:=hr.lt
 rw[RM]
 refine AC.go eu ?_
 simp-implicitDefEqProofs[cT]
 refine az (λa:FbS=>am 21 [(0,.sl id 5 0 l.length),(5,.p (.int .i64 l.length)),(6,.p (.int .i64 a.i))]) (λa=>a.X)
  (λa=>a.i<=l.length/\h.length<=a.X.length/\(∃rows J',RowOwn true a.X id 5 rows ((L2 a.i).map Sm.cs) J'/\∀j∈J',j∈J\/h.length<=j)/\∀i,i<h.length->i∉id::J->a.X[i]?=h[i]?) (λa=>l.length-a.i) ⟨0,h⟩ ⟨SD _,RC _,⟨rows,J,by rw[hL0];exact hr,λj hj=> .inl hj⟩,λ_ _ _=>rfl⟩ ?_ ?_
 ·exact aA (RC _) (by simp[below];omega)
 rintro⟨i,X⟩ ⟨hi,hXl,⟨rows1,J1,hr1,hJ1⟩,hfr⟩
 simp only at hi hXl hr1 hfr
 have hidX:=hr1.lt
 have gid0:X[id]?=some (.row 5 rows1):=hr1.here
 have gid:∀t,(X++t)[id]?=some (.row 5 rows1):=λt=>by rw[Rz hidX];exact gid0
 have hrl:rows1.length=l.length:=by have:=hr1.len;rw[RM,hLl i hi] at this;exact this
 simp-implicitDefEqProofs[]
 refine aY (λhc=>?_) (λhc=>?_)
 ·simp at hc
  have hg:=Rv hc
  have hm:=RB hc
  have hst:=hLs i l[i] hg
  have hfz:=aQ hm
  have hfb:=hf l[i] hm
  have hL:=hLg i hc
  rw[hg] at hL
  generalize l[i]=s at hst hfz hfb hL
  have hsz:=s.sz_eq
  have hal:=aP s.args
  obtain⟨r,Ji,g1,g2,g3,g4,g5⟩:=Lb hr1 (i:=i) (e:=s.cs) (by rw[RH,hL];rfl)
  obtain⟨A,B,E,IA,IB,IE,rfl,rfl,hA,hB,hE⟩:=AB g2
  obtain⟨c1,c2⟩:=bh hA
  obtain⟨c3,c4⟩:=bh hB
  obtain⟨c5,c6⟩:=bh hE
  have HM:=AC.mkLend (h:=X) (args:=[A,.fn (.func dx) []]) eb (EC G hK hS s.args hfb (by omega)) (.one (hA.view 0 _ _ rfl rfl) (.keep (by simp[below]) .nil))
  simp-implicitDefEqProofs[-AV.cells,-AV.isCell,aM,af,aj,aR,aN,ae,aS,c1,c2,c3,c4,c5,c6,gid0,gid,g1,hrl]
  refine⟨hc,?_⟩
  refine HM.mono ?_
  rintro x h' ⟨vs,I2,os,rfl,rfl,ho2,nd2,hf2⟩
  obtain⟨K,rfl⟩:=aO ho2
  obtain⟨d1,d2⟩:=bh ho2
  obtain⟨_,nBE,_⟩:=Su.1 g3
  obtain⟨J2,hN,hJ2⟩:=g5 os [.p (.int .i64 s.op),.p (.str s.name),K,B,E] (lg s).cs (I2++(IB++IE)) (by rw[Ku];exact .p _ (λ_=>rfl) (.p _ (λ_=>rfl) (ho2.app ((hB.app hE).more os)))) (Su.2 ⟨nd2,nBE,λa ha b hb e=>by have:=hf2 a ha;have:=(hB.app hE).lt hb;omega⟩) (λj hj=>by
   rcases RG.1 hj with h|h
   ·exact .inr (hf2 j h)
   ·exact .inl (List.mem_append_right _ h)) (Sm.cs_len _)
  simp-implicitDefEqProofs[-AV.cells,-AV.isCell,aM,af,aj,aR,aN,ae,aS,d1,d2,c3,c4,c5,c6,gid0,gid,g1,hrl,aa,bC]
  rw[←List.map_set,hst] at hN
  refine⟨hc,⟨i+1,_⟩,⟨by simp only;omega,by simp;omega,⟨_,J2,hN,λj hj=>?_⟩,λj hj h1 h2=>?_⟩,by simp only;omega,aA (by simp;omega) (by simp[below,w1 (i:=i) (by omega)];omega)⟩
  ·rcases hJ2 j hj with h|h
   ·exact hJ1 j h
   ·exact .inr (by omega)
  ·rw[RS (Ne.symm h1),Rz (by omega)]
   exact hfr j hj (by simp[h1,h2])
 ·simp at hc
  have hie:i=l.length:=by omega
  subst hie
  simp-implicitDefEqProofs[]
  rw[hLe] at hr1
  exact⟨_,id::J1,rfl,hXl,hr1.tree (by simp),hr1.nd,λj hj=>by
   rcases Sa.1 hj with rfl|hj
   ·exact .inl (by simp)
   ·rcases hJ1 j hj with h|h
    ·exact .inl (by simp[h])
    ·exact .inr h,hfr⟩
end
section
variable (G:ay)
theorem Kr(l:List Sm):(l.map (inS aZ)).map lg=aZ l:=by
 rw[lK,List.map_map]
 refine RO λx _=>?_
 rw[yH];rfl
def FB:AV:= .fn (.func aL) []
theorem Fz(H:List Sm->List Sm):∀l:List Sm,(∀x∈l,aF (H x.body)<=aF x.body/\aF (H x.els)<=aF x.els)->aF (l.map (inS H))<=aF l
 |[],_=>RC _
 |x::r,h=>by
  have h1:=h x (by simp)
  have h2:=Fz H r (λy hy=>h y (by simp[hy]))
  have h3:=x.sz_eq
  have h4:(inS H x).sz=1+x.name.length+cb x.args+aF (H x.body)+aF (H x.els):=by rw[Sm.sz_eq];rfl
  rw[Sb,aF,aF]
  omega
theorem CM{d:Nat}{x:Sm}(h:aB d x=true):∀a∈x.args,gt a=true:=by
 obtain⟨d,rfl⟩:=pP h
 rw[aB,RK,RK] at h
 have h1:=h.1.1
 simp only[gF,RK,RA] at h1
 exact h1.1.1.1.2
end
section
variable (G:ay)
theorem Nq{C h':List AO}(hl:C.length<=h'.length)(e:∀i,i<C.length->h'[i]?=C[i]?):∃os,h'=C++os:=by
 refine⟨h'.drop C.length,?_⟩
 have ht:h'.take C.length=C:=List.ext_getElem? λi=>by
  by_cases hi:i<C.length
  ·rw[List.getElem?_take_of_lt hi];exact e i hi
  ·rw[Se (by simp;omega),Se (by omega)]
 conv=>lhs;rw[←Si C.length h',ht]
theorem sa(hK:G de=some cX)(hS:G bx=some [PV.tbl opK opV])(l0:List Fd)(l:List Sm)(hf:∀x∈l,∀a∈x.args,gt a=true)(hz:aF l<=1073741824)(hz2:aF (l.map (inS aZ))<=1073741824)(ih:∀x∈l,ud G l0 FB aZ x.body/\ud G l0 FB aZ x.els):ud G l0 FB aZ l:=by
 have hll:=bi l
 have hB:below 0 FB:=by simp[FB,below]
 let V:=LM l0 FB hB cz [.ptr 3 1 0 0] (by simp[below])
 have hl4:(cH l0 FB).length=4:=rfl
 have HM:=GR G V (λ(st:Unit) x=>(inS aZ x,st)) (λ_ _=>True) l (by omega)
  (λi st hi _=>⟨trivial,by
    have hm:=RB hi
    have h2:=aQ hm
    exact BK G l0 hB aZ l[i] (by omega) (ih _ hm).1 (ih _ hm).2⟩) () trivial
 rw[gS] at HM
 have HB:=GK G hK hS (l.map (inS aZ)) (λy hy=>by
  obtain⟨q,hq,rfl⟩:=RP.1 hy
  exact hf q hq) hz2
 have HM2:AC Tryz.prog G bW [.p (smL l),.fn (.func cz) [.ptr 3 1 0 0]] (cH l0 FB) (Mk bC true [smL (l.map (inS aZ))] (cH l0 FB)):=HM
 have hg10:∀h:1<(cH l0 FB).length,(cH l0 FB)[1]= .row 1 [[.fn (.func aL) []]]:=λ_=>rfl
 have icf:∀f c,(AV.fn f c).isCell=true:=λ_ _=>rfl
 refine AC.go td ?_
 generalize hh:cH l0 FB=C at*
 simp-implicitDefEqProofs[lT,hl4,hg10]
 refine HM2.mono ?_
 rintro r h ⟨vs,I1,os1,rfl,rfl,ho1,nd1,hf1⟩
 obtain⟨KA,rfl⟩:=aO ho1
 obtain⟨c1,c2⟩:=bh ho1
 have hg10':∀t:List AO,(C++t)[1]?=some (.row 1 [[.fn (.func aL) []]]):=λt=>by rw[Rz (by omega),Rv (by omega),hg10]
 simp-implicitDefEqProofs[-AV.cells,-AV.isCell,aM,af,aj,aN,ae,c1,c2,aa,hl4,hg10,hg10',icf,bC]
 refine(HB _ KA I1 ho1 nd1).mono ?_
 rintro r h ⟨K2,I2,rfl,hlen,ho2,nd2,hs2,hfr⟩
 rw[Kr] at ho2
 obtain⟨os,rfl⟩:∃os,h=C++os:=by
  refine Nq (by rw[RJ] at hlen;omega) λi hi=>?_
  rw[hfr i (by rw[RJ];omega) λhm=>by have:=hf1 i hm;omega,Rz hi]
 simp-implicitDefEqProofs[aa]
 exact⟨[K2],I2,os,rfl,rfl,ho2,nd2,λi hi=>by
  rcases hs2 i hi with h|h
  ·exact hf1 i h
  ·rw[RJ] at h;omega⟩
theorem EG(hK:G de=some cX)(hS:G bx=some [PV.tbl opK opV])(l0:List Fd):∀(d:Nat) (l:List Sm),(∀x∈l,aB d x=true)->aF l<=1073741824->ud G l0 FB aZ l:=by
 intro d
 have hin:∀l:List Sm,aF l<=1073741824->aF (l.map (inS aZ))<=1073741824:=λl hz=>Nat.le_trans (Fz aZ l λx _=>⟨jg _,jg _⟩) hz
 induction d with
 |zero=>
  intro l hf hz
  exact sa G hK hS l0 l (λx hx=>by have:=hf x hx;cases this) hz (hin l hz) (λx hx=>by have:=hf x hx;cases this)
 |succ d ih=>
  intro l hf hz
  refine sa G hK hS l0 l (λx hx=>CM (hf x hx)) hz (hin l hz) (λx hx=>?_)
  have h1:=aQ hx
  have h2:=x.sz_eq
  exact⟨ih x.body (pY (hf x hx)) (by omega),ih x.els (tl (hf x hx)) (by omega)⟩
theorem zC(hK:G de=some cX)(hS:G bx=some [PV.tbl opK opV])(l:List Fd)(hz:bt l<=1073741824)(hf:∀f∈l,∀x∈f.body,aB 4 x=true):AC Tryz.prog G ey [.agg [.p (fdL l)],FB] [] (MkW .agg true [fdL (eS l)]):=by
 have hll:=cU l
 have hB:below 0 FB:=by simp[FB,below]
 let V:=LM l FB hB dp [.ptr 3 1 0 0] (by simp[below])
 have HM:=Ms G V (λ(st:Unit) x=>(eaF aZ x,st)) (λ_ _=>True) l (by omega)
  (λi st hi _=>⟨trivial,by
    have hm:=RB hi
    have h2:=dr hm
    have h3:l[i].sz=1+l[i].name.length+(l[i].params.length+(l[i].params.map List.length).sum)+aF l[i].body:=rfl
    exact El G l hB aZ l[i] (by omega) (EG G hK hS l 4 _ (hf _ hm) (by omega))⟩) () trivial
 rw[gS] at HM
 have HM2:AC Tryz.prog G cG [.p (fdL l),.fn (.func dp) [.ptr 3 1 0 0]] [.row 1 [[.p (fdL l)]],.row 1 [[.fn (.func aL) []]],.row 1 [[.nils]],.row 1 [[.fn (.func aH) [.ptr 1 1 0 0,.ptr 3 1 0 0]]]] (Mk bC true [fdL (eS l)] [.row 1 [[.p (fdL l)]],.row 1 [[.fn (.func aL) []]],.row 1 [[.nils]],.row 1 [[.fn (.func aH) [.ptr 1 1 0 0,.ptr 3 1 0 0]]]]):=HM
 show AC Tryz.prog G ey [.agg [.p (fdL l)],.fn (.func aL) []] [] (MkW .agg true [fdL (eS l)])
 refine AC.go ym ?_
 simp-implicitDefEqProofs[nG]
 refine HM2.mono ?_
 rintro r h ⟨vs,I1,os1,rfl,rfl,ho1,nd1,hf1⟩
 obtain⟨KA,rfl⟩:=aO ho1
 obtain⟨c1,c2⟩:=bh ho1
 simp-implicitDefEqProofs[-AV.cells,-AV.isCell,aM,af,aj,aN,ae,c1,c2,aa,bC]
 exact⟨_,I1,rfl,sg (Y:=[_,_,_,_]) ho1 hf1 rfl,nd1⟩
variable (hK:G de=some cX) (hS:G bx=some [PV.tbl opK opV])
include hK hS
theorem pa(l:List Fd)(hz:bt l<=1073741824):AC Tryz.prog G bK [.agg [.p (fdL l)]] [] (MkW (KC (decide (aW l=0))) true [fdL (orN (decide (aW l=0)) (eS l))]):=by
 refine AC.go pS ?_
 simp-implicitDefEqProofs[jM]
 refine(NG G hK hS l hz).use ?_
 by_cases h0:aW l=0
 case neg=>
  have hp:orN (decide (aW l=0)) (eS l)=[]:=by simp[orN,h0]
  rw[hp]
  simp-implicitDefEqProofs[h0]
  exact⟨[.nils],[],rfl,.nils 3 .nil,List.nodup_nil⟩
 have hp:orN (decide (aW l=0)) (eS l)=eS l:=by simp[orN,h0]
 have HC:AC Tryz.prog G ey [.agg [.p (fdL l)],.fn (.func aL) []] [] (MkW .agg true [fdL (eS l)]):=zC G hK hS l hz (pX h0).2
 rw[hp]
 simp-implicitDefEqProofs[h0]
 refine(AC.mkLift ec HC (by simp[below])).mono ?_
 rintro r h ⟨vs,I,os,rfl,rfl,ho,nd,hf⟩
 obtain⟨K,rfl⟩:=aO ho
 obtain⟨c1,c2⟩:=bh ho
 simp-implicitDefEqProofs[-AV.cells,-AV.isCell,aM,af,aj,aN,ae,c1,c2,aa]
 exact⟨[K],I,rfl,sg (Y:=[_,_]) ho hf rfl,nd⟩
end
section
def Sml(ch:List Scp):Prop:=∀s n,ga ch s=some n->n<26
theorem Sml.getD{ch:List Scp}(h:Sml ch)(s:List UInt8):(ga ch s).getD 0<26:=by
 cases e:ga ch s with
 |none=>simp
 |some n=>exact h s n e
theorem Sml.set{m:Scp}{up:List Scp}(h:Sml (m::up))(s:List UInt8){n:Nat}(hn:n<26):Sml (iY m s n::up):=by
 intro t k e
 rw[ga,vQ] at e
 by_cases hst:s=t
 ·rw[if_pos hst] at e;cases e;exact hn
 ·rw[if_neg hst] at e
  exact h t k (by rw[ga];exact e)
theorem Sml.open{ch:List Scp}(h:Sml ch):Sml ([]::ch):=λs n e=>h s n (by rw[ga] at e;exact e)
theorem Sml.opS{m:Scp}{up:List Scp}(h:Sml (m::up))(o:Int)(s:List UInt8){n:Nat}(hn:o=1->n<26):Sml (opS o s m n::up):=by
 unfold Go.Proofs.YthfklclcofcpiaaGreatDoor.opS
 split
 ·rename_i e;exact h.set s (hn e)
 ·exact h
variable (G:ay)
end
section
variable (G:ay)
theorem Sml.base:Sml [[]]:=λs n e=>by simp[ga,gZ] at e
variable (hK:G de=some cX) (hS:G bx=some [.tbl opK opV])
include hK hS
end
section
theorem NN(n:Int):IntKind.u8.wrap n=n%256:=by simp[IntKind.wrap,IntKind.bits,IntKind.signed]
theorem JZ{x:Int}{n:Nat}(h:x=n)(hn:n<=9223372036854775807):IntKind.i64.wrap x=n:=by rw[ah (by omega) (by omega),h]
def zj(n:Nat)(acc:List UInt8):List UInt8:=if n=0 then acc else zj (n/10) (UInt8.ofNat (48+n%10)::acc)
termination_by n
theorem FO(acc:List UInt8):zj 0 acc=acc:=by rw[zj,if_pos rfl]
theorem GI{n:Nat}(h:¬n=0)(acc:List UInt8):zj n acc=zj (n/10) (UInt8.ofNat (48+n%10)::acc):=by rw[zj,if_neg h]
def dL(n:Nat):List UInt8:=if n=0 then[109,48] else 109::zj n []
structure DGm where (n:Nat) (acc:List UInt8)
variable (G:ay)
theorem fN(n:Nat)(hn:n<=1152921504606846976):VF Tryz.prog G cP [.p (.int .i64 n)] (.p (.str (dL n))):=by
 refine AC.go um ?_
 by_cases h0:n=0
 ·subst h0
  simp-implicitDefEqProofs[iJ,dL]
 have h1:¬(n:Int)<=0:=by omega
 simp-implicitDefEqProofs[iJ,h1,h0]
 refine az (λd:DGm=>am 20 [(0,.p (.int .i64 d.n)),(3,.p (.str d.acc))]) (λ_=>[]) (λd=>zj d.n d.acc=zj n []/\d.acc.length+d.n<=n) (λd=>d.n) ⟨n,[]⟩ (by simp) ?_ ?_
 ·exact aK rfl (by simp[below])
 ·rintro⟨m,acc⟩ ⟨i1,i2⟩
  simp only at i1 i2
  simp-implicitDefEqProofs[]
  refine aY (λh2=>?_) (λh2=>?_)
  ·simp at h2
   have hm0:¬m=0:=by omega
   have e10:(m:Int).tmod 10=(m:Int)%10:=SA (by omega)
   have ew:IntKind.i64.wrap (48+(m:Int)%10)=48+(m:Int)%10:=ah (by omega) (by omega)
   have e8:IntKind.u8.wrap (48+(m:Int)%10)=48+(m:Int)%10:=by rw[NN];omega
   have et:(48+(m:Int)%10).toNat=48+m%10:=by omega
   have ed:IntKind.i64.wrap ((m:Int)/10)=((m/10:Nat):Int):=JZ (by omega) (by omega)
   simp-implicitDefEqProofs[e10,ew,e8,et,ed]
   refine⟨by omega,⟨m/10,UInt8.ofNat (48+m%10)::acc⟩,⟨?_,?_⟩,by simp only;omega,aK rfl ?_⟩
   ·rw[←i1];exact(GI hm0 acc).symm
   ·simp only[RN];omega
   ·simp[below]
  ·simp at h2
   have:m=0:=by omega
   subst this
   rw[FO] at i1
   have hl:1+(zj n []).length<=9223372036854775807:=by rw[←i1];omega
   simp-implicitDefEqProofs[dL,h0,i1]
   exact hl
def lD(k n:Nat):List (List UInt8):=(List.range n).map λj=>dL (k+j)
theorem BH(k n:Nat):(lD k n).length=n:=by simp[lD]
theorem uc(k i:Nat)(hn:k+i<=1152921504606846976):VF Tryz.prog G cP [.p (.int .i64 ((k:Int)+(i:Int)))] (.p (.str (dL (k+i)))):=by
 have:=fN G (k+i) hn
 rwa[Int.natCast_add] at this
theorem zi{h:List AO}{id:Nat}{xs:List (List UInt8)}{k:Nat}(hr:h[id]?=some (nC xs))(hk:k+xs.length<=1152921504606846976):
 AC Tryz.prog G dD [.sl id 1 0 xs.length,.p (.int .i64 k)] h λx h'=>x= .ret (.p (.int .i64 ((k+xs.length:Nat):Int)))/\h'=h.set id (nC (lD k xs.length)):=by
 refine AC.enterB dG λhb=>AC.go dG ?_
 have hid:id<h.length:=(Ry.1 hr).1
 have hbs:∀ys:List (List UInt8),HB (h.set id (nC ys)):=λys=>hb.set_row λe he=>by
  obtain⟨x,_,rfl⟩:=RP.1 he
  simp
 simp-implicitDefEqProofs[dC]
 have e0:lD k 0++xs.drop 0=xs:=by simp[lD]
 refine az (λa:Nat × List (List UInt8)=>am 20 [(0,.sl id 1 0 xs.length),(1,.p (.int .i64 ((k+a.1:Nat):Int))),(5,.p (.int .i64 a.1))]) (λa=>h.set id (nC a.2)) (λa=>a.1<=xs.length/\a.2=lD k a.1++xs.drop a.1) (λa=>xs.length-a.1) (0,xs) ⟨by simp,e0.symm⟩ ?_ ?_
 ·have e:h.set id (nC xs)=h:=by
   obtain⟨hi,e⟩:=Ry.1 hr
   rw[←e];simp
  rw[e]
  exact nO (by simp) hb (by simp-implicitDefEqProofs[below,hid])
 ·rintro⟨i,ys⟩ ⟨hi,hy⟩
  simp only at hi hy
  simp-implicitDefEqProofs[]
  refine aY (λh1=>?_) (λh1=>?_)
  ·simp at h1
   have hyl:ys.length=xs.length:=by rw[hy];simp[lD];omega
   have hys:ys.set i (dL (k+i))=lD k (i+1)++xs.drop (i+1):=by
    rw[hy,List.set_append_right _ _ (by simp[lD])]
    simp only[lD,RM,List.length_range,SG]
    rw[List.drop_eq_getElem_cons h1,List.set_cons_zero,List.range_succ]
    simp
   have hg:(List.map (λn=>[AV.p (.str n)]) ys)[i]?=some [AV.p (.str (ys[i]'(by omega)))]:=by rw[RH,Rv (by omega)];rfl
   have hw1:IntKind.i64.wrap ((k:Int)+(i:Int)+1)=(k:Int)+(i:Int)+1:=ah (by omega) (by omega)
   simp-implicitDefEqProofs[]
   refine(uc G k i (by omega)).use ?_
   simp-implicitDefEqProofs[nC,hid,h1,hg,hw1]
   refine⟨i+1,ys.set i (dL (k+i)),⟨h1,hys⟩,by omega,?_⟩
   have e:(List.map (λn=>[AV.p (PV.str n)]) ys).set i [AV.p (PV.str (dL (k+i)))]=List.map (λn=>[AV.p (PV.str n)]) (ys.set i (dL (k+i))):=by
    rw[List.map_set]
   rw[e]
   refine nO ?_ (hbs (ys.set i (dL (k+i)))) ?_
   ·simp
   simp[w1 (i:=i) (by omega),below,hid]
   omega
  ·simp at h1
   have:i=xs.length:=by omega
   subst this
   simp[hy]
theorem ze(k n:Nat)(hk:k+n<=1152921504606846976):VF Tryz.prog G fO [.p (aE (lD k n)),.p (.int .i64 k)] (.p (.int .i64 ((k+n:Nat):Int))):=by
 refine AC.go pN ?_
 have hsl:∀l,aE l= .lst 1 (l.map λw=>[.str w]):=λ_=>rfl
 have hl:=BH k n
 simp-implicitDefEqProofs[jw]
 refine az (λi:Nat=>am 22 [(0,.p (aE (lD k n))),(1,.p (.int .i64 ((k+i:Nat):Int))),(5,.p (.int .i64 i))]) (λ_=>[]) (λi=>i<=n) (λi=>n-i) 0 (by simp) ?_ ?_
 ·exact aK rfl (by simp[below,aE])
 intro i hi
 simp-implicitDefEqProofs[hsl,hl]
 refine aY (λh1=>?_) (λh1=>?_)
 ·simp at h1
  have hg:(lD k n)[i]?=some (dL (k+i)):=by simp[lD,h1]
  have hw1:IntKind.i64.wrap ((k:Int)+(i:Int)+1)=(k:Int)+(i:Int)+1:=ah (by omega) (by omega)
  clear hl
  simp-implicitDefEqProofs[hg]
  refine(uc G k i (by omega)).use ?_
  simp-implicitDefEqProofs[hw1]
  refine⟨i+1,h1,by omega,aK rfl ?_⟩
  simp[below,aE,w1 (i:=i) (by omega)]
  omega
 ·simp at h1
  have:i=n:=by omega
  subst this
  simp-implicitDefEqProofs[]
end
end Go.Proofs.YthfklclcofcpiaaGreatDoor
