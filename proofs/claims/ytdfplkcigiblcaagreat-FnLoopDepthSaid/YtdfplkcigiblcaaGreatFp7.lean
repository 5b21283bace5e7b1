/-
  Contracts and lemmas that the card needs, part 7.
-/
import Derived.Test.YtdfplkcigiblcaaGreatFp6
namespace Go.Proofs.YtdfplkcigiblcaaGreat
open Go Go.Aw
set_option maxRecDepth 100000
set_option maxHeartbeats 4000000
section
theorem vh:AK.whole iV=FK.ak jh:=rfl
theorem Dr{h h2:List AO}(hl:h.length<=h2.length)(hf:∀j,j<h.length->h2[j]?=h[j]?):∃os,h2=h++os:=by
 refine⟨h2.drop h.length,List.ext_getElem? λi=>?_⟩
 rcases Nat.lt_or_ge i h.length with hi|hi
 ·rw[List.getElem?_append_left hi,hf i hi]
 ·rw[List.getElem?_append_right hi,List.getElem?_drop];congr 1;omega
variable (G:az)
theorem Ov{b:List Int}{q:Nat}{R os:List AO}{k j:Nat}{o:AO}(hk:k=R.length+j+1)(h:os[j]?=some o):(rdO b q::(R++os))[k]?=some o:=by
 rw[hk,List.getElem?_cons_succ,List.getElem?_append_right (by omega),Nat.add_sub_cancel_left];exact h
theorem tJ{b:List Int}(hb:Byt b)(hl:b.length<=2000){p:Nat}(hp:p<=1099511627776)(l:List Int){R os:List AO}{k:Nat}(j:Nat)(hk:k=R.length+j+1)(h1:os[j]?=some (Be l))(hne:l≠[])(hll:l.length<=1099511627776):
 AC Tryz.prog G bi [.ptr 0 2 0 0,.sl k 1 0 l.length] (rdO b p::(R++os)) λx h'=>∃n,n∈l/\x= .ret (.p (.int .i64 n))/\h'=rdO b (p+1)::(R++os):=
 ig G hb hl hp l hne hll (by omega) rfl (Ov hk h1)
theorem BA{b:List Int}(hb:Byt b)(hl:b.length<=2000){p:Nat}(hp:p<=1000000000000)(R:List AO)(i n:Nat)(hn:n<=100)(hi:i<n):AC Tryz.prog G fF [.ptr 0 2 0 0,.p (.int .i64 i),.p (.int .i64 n)] (rdO b p::R) λx h=>∃(k:Int) (q:Nat),x= .ret (.p (.int .i64 k))/\h=rdO b q::R/\p<=q/\q<=p+2:=by
 refine AC.go Az ?_
 have hw:IntKind.i64.wrap ((n:Int)-1)=(n:Int)-1:=ae (by omega) (by omega)
 have key:∀q,p<=q->q<=p+1->AC Tryz.prog G bG [.ptr 0 2 0 0,.p (.int .i64 ((n:Int)-1))] (rdO b q::R) λx h=>∃k:Nat,x= .ret (.p (.int .i64 k))/\h=rdO b (q+1)::R/\((k:Int)<(n:Int)-1\/k=0):=λq _ _=>aG G b hb hl q (by omega) _ R
 by_cases hc:(i:Int)<(n:Int)-1
 ·simp-implicitDefEqProofs[lS,hw,hc]
  refine(aG G b hb hl p (by omega) _ R).mono ?_
  rintro r h ⟨k,rfl,rfl,hk⟩
  simp-implicitDefEqProofs[aa]
  have hw2:IntKind.i64.wrap ((i:Int)+1)=(i:Int)+1:=ae (by omega) (by omega)
  refine aF (λh0=>?_) (λh0=>?_)
  ·simp-implicitDefEqProofs[hw,hw2]
   refine(aG G b hb hl (p+1) (by omega) _ R).mono ?_
   rintro r h ⟨k2,rfl,rfl,hk2⟩
   simp-implicitDefEqProofs[aa]
   exact⟨p+1+1,rfl,by omega,by omega⟩
  ·simp-implicitDefEqProofs[hw]
   refine(aG G b hb hl (p+1) (by omega) _ R).mono ?_
   rintro r h ⟨k2,rfl,rfl,hk2⟩
   simp-implicitDefEqProofs[aa]
   exact⟨p+1+1,rfl,by omega,by omega⟩
 ·simp-implicitDefEqProofs[lS,hw,hc]
  refine(aG G b hb hl p (by omega) _ R).mono ?_
  rintro r h ⟨k,rfl,rfl,hk⟩
  simp-implicitDefEqProofs[aa]
  exact⟨p+1,rfl,by omega,by omega⟩
def CdsAt(R:List AO)(U:AV)(cs:List Cd):Prop:=(U= .nils/\cs=[])\/∃u rows,cs≠[]/\U= .sl (u+1) 3 0 cs.length/\R[u]?=some (.row 3 rows)/\∀(k:Nat) (c:Cd),cs[k]?=some c->∃V,rows[k]?=some [.p (.int .i64 c.params),.p (.int .i64 c.regs),V]/\c.params<=3
theorem CdsAt.cell{R:List AO}{U:AV}{cs:List Cd}(H:CdsAt R U cs):U.cells=[U]/\U.isCell=true:=by rcases H with⟨rfl,_⟩|⟨u,rows,_,rfl,_⟩<;>exact⟨rfl,rfl⟩
theorem Kj{n:Nat}{o o':AO}{W:List AO}{vs:List AV}{qs:List PV}{I:List Nat}(H:Own (n+1) (o::W) vs qs I):Own (n+1) (o'::W) vs qs I:=H.frame λi hi=>by
 have:=H.ge i hi
 obtain⟨k,rfl⟩:∃k,i=k+1:=⟨i-1,by omega⟩
 rfl
structure SmI (R:List AO) (op to n:Int) (W:List AO) (A:AV) (args:List Int) (I:List Nat):Prop where
 len:R.length+4<=W.length
 pre:∀i,i<R.length->W[i]?=R[i]?
 res:W[R.length+1]?=some (.row 4 [[.p (.int .i64 0),.p (.int .i64 0),.nils,.p (.int .i64 0)]])
 x:W[R.length+3]?=some (.row 4 [[.p (.int .i64 op),.p (.int .i64 to),A,.p (.int .i64 n)]])
 own:Own (R.length+5) (.dead::W) [A] [aC args] I
structure SmT where (i q:Nat) (W:List AO)
theorem SmI.first{R:List AO}{op to n:Int}{W:List AO}{I:List Nat}(H:SmI R op to n W .nils [] I)(k:Int):SmI R op to n ((W++[AO.row 1 [[.p (.int .i64 k)]]]).set (R.length+3) (.row 4 [[.p (.int .i64 op),.p (.int .i64 to),.sl (W.length+1) 1 0 1,.p (.int .i64 n)]])) (.sl (W.length+1) 1 0 1) [k] [W.length+1]:=by
 have hl:=H.len
 refine⟨by simp;omega,λi hi=>?_,?_,?_,?_⟩
 ·rw[List.getElem?_set_ne (by omega),List.getElem?_append_left (by omega)];exact H.pre i hi
 ·rw[List.getElem?_set_ne (by omega),List.getElem?_append_left (by omega)];exact H.res
 ·exact List.getElem?_set_self (by simp;omega)
 ·refine cq (l:=[k]) ?_ (by omega) rfl
  rw[List.getElem?_cons_succ,List.getElem?_set_ne (by omega),List.getElem?_append_right (Nat.le_refl _)];simp
theorem SmI.more{R:List AO}{op to n:Int}{W:List AO}{I:List Nat}{id:Nat}{args:List Int}(H:SmI R op to n W (.sl (id+1) 1 0 args.length) args I)(hid:R.length+4<=id)(hg:W[id]?=some (.row 1 (args.map λn=>[AV.p (.int .i64 n)])))(k:Int):SmI R op to n ((W.set id .dead++[AO.row 1 ((args.map λn=>[AV.p (.int .i64 n)])++[[.p (.int .i64 k)]])]).set (R.length+3) (.row 4 [[.p (.int .i64 op),.p (.int .i64 to),.sl (W.length+1) 1 0 (args.length+1),.p (.int .i64 n)]])) (.sl (W.length+1) 1 0 (args.length+1)) (args++[k]) [W.length+1]:=by
 have hl:=H.len
 refine⟨by simp;omega,λi hi=>?_,?_,?_,?_⟩
 ·rw[List.getElem?_set_ne (by omega),List.getElem?_append_left (by simp;omega),List.getElem?_set_ne (by omega)];exact H.pre i hi
 ·rw[List.getElem?_set_ne (by omega),List.getElem?_append_left (by simp;omega),List.getElem?_set_ne (by omega)];exact H.res
 ·exact List.getElem?_set_self (by simp;omega)
 ·refine cq (l:=args++[k]) ?_ (by omega) (by simp)
  rw[List.getElem?_cons_succ,List.getElem?_set_ne (by omega),List.getElem?_append_right (by simp)];simp
theorem oX{h:List AO}{n id m:Nat}{l:List Int}{I:List Nat}(H:Own n h [.sl id 1 0 m] [aC l] I):m=l.length/\I=[id]/\n<=id/\h[id]?=some (.row 1 (l.map λn=>[AV.p (.int .i64 n)])):=by
 have hge:=H.ge
 rcases H.row with⟨h1,_⟩|⟨id2,rows,J,e1,e2,hr,_⟩
 ·cases h1
 ·rw[List.length_map] at e1
  cases e1
  have key:∀(rows:List (List AV)) (l:List Int) (J:List Nat),rows.length=l.length->(∀e∈rows,e.length=1)->OwnL true h rows.flatten (l.map λw=>[PV.int .i64 w]).flatten J->rows=(l.map λn=>[AV.p (.int .i64 n)])/\J=[]:=by
   intro rows
   induction rows with
   |nil=>
    intro l J hl _ ho
    cases l with
    |nil=>cases ho;exact⟨rfl,rfl⟩
    |cons _ _=>simp at hl
   |cons r rs ih=>
    intro l J hl h1 ho
    cases l with
    |nil=>simp at hl
    |cons w ws=>
     obtain⟨v,rfl⟩:∃v,r=[v]:=by
      have:=h1 r (by simp)
      match r,this with
      |[v],_=>exact⟨v,rfl⟩
     have ho2:OwnL true h (v::rs.flatten) (PV.int .i64 w::(ws.map λw=>[PV.int .i64 w]).flatten) J:=ho
     cases ho2 with
     |p _ _ ho3=>
      obtain⟨a,b⟩:=ih ws J (by simpa using hl) (λe he=>h1 e (by simp[he])) ho3
      exact⟨by rw[a];rfl,b⟩
  obtain⟨a,b⟩:=key rows l J (by have:=hr.len;simpa using this) hr.rl hr.own
  subst b;subst e2
  exact⟨rfl,rfl,hge id (by simp),by rw[hr.here,a]⟩
structure SmC where (to n many:Int) (q:Nat) (W:List AO)
theorem Gq{b:List Int}(hb:Byt b)(hl:b.length<=2000){p:Nat}(hp:p<=1000000000000)(R:List AO)(U:AV)(cs:List Cd)(hU:CdsAt R U cs)(regs:Int):AC Tryz.prog G je [.ptr 0 2 0 0,.agg [U],.p (.int .i64 regs)] (rdO b p::R) λx h=>∃(y:Ii) (A:AV) (I:List Nat) (q:Nat) (os:List AO),x= .ret (.agg [.p (.int .i64 y.op),.p (.int .i64 y.to),A,.p (.int .i64 y.n)])/\h=rdO b q::(R++os)/\Own (R.length+1) h [A] [aC y.args] I/\y.args.length<=3/\p<=q/\q<=p+10:=by
 obtain⟨u1,u2⟩:=hU.cell
 have hRR:∀(t:List AO) (i:Nat),i<R.length->(R++t)[i]?=R[i]?:=λt i hi=>List.getElem?_append_left hi
 refine AC.goK uX vh ?_
 simp-implicitDefEqProofs[-AV.cells,-AV.isCell,aE,ag,ah,am,aj,aD,af,an,al,u1,u2,iV,jh]
 refine(tJ G hb hl (by omega) [1,1,2,3,4,5,8,9,10,13,3,6,7,11,12,14] 2 (by omega) rfl (by simp) (by simp)).mono ?_
 rintro r h ⟨op,hop,rfl,rfl⟩
 simp-implicitDefEqProofs[-AV.cells,-AV.isCell,aE,ag,ah,am,aj,aD,af,an,al,u1,u2,aa]
 refine(aG G b hb hl (p+1) (by omega) regs _).mono ?_
 rintro r h ⟨k1,rfl,rfl,_⟩
 simp-implicitDefEqProofs[-AV.cells,-AV.isCell,aE,ag,ah,am,aj,aD,af,an,al,u1,u2,aa]
 refine(sD G op).use ?_
 simp-implicitDefEqProofs[-AV.cells,-AV.isCell,aE,ag,ah,am,aj,aD,af,an,al,u1,u2]
 have h7:op≠14->l7N op<=3:=by
  simp at hop
  rcases hop with rfl|rfl|rfl|rfl|rfl|rfl|rfl|rfl|rfl|rfl|rfl|rfl|rfl|rfl|rfl|rfl<;>simp[l7N,inR]
 refine fR (λs:SmC=>aw 69 [(9,.p (.int .i64 s.many)),(8,.ptr (R.length+3+1) 4 0 0),(7,.p (.int .i64 op)),(6,.ptr (R.length+1+1) 4 0 0),(2,.p (.int .i64 regs)),(0,.ptr 0 2 0 0)]) (λs=>rdO b s.q::s.W) (λs=>SmI R op s.to s.n s.W .nils [] []/\s.many<=3/\p<=s.q/\s.q<=p+4) ?_ ?_
 ·simp-implicitDefEqProofs[]
  refine aF (λh14=>?_) (λh14=>?_)
  ·have h14:op=14:=by simpa using h14
   subst h14
   rcases hU with⟨rfl,rfl⟩|⟨u,rows,hc0,rfl,hg,hrow⟩
   ·simp-implicitDefEqProofs[]
    refine(aG G b hb hl (p+1+1) (by omega) regs _).mono ?_
    rintro r h ⟨k2,rfl,rfl,_⟩
    simp-implicitDefEqProofs[aa]
    refine⟨⟨13,-1,[(k2:Int)],0⟩,_,⟨rfl,rfl,rfl,rfl⟩,[R.length+4+1],p+1+1+1,rfl,cq ?_ (by omega) rfl,by simp,by omega,by omega⟩
    rw[List.getElem?_cons_succ,List.getElem?_append_right (by omega),Nat.add_sub_cancel_left];rfl
   ·have hul:=(List.getElem?_eq_some_iff.1 hg).1
    have hgm:∀t,(R++t)[u]?=some (.row 3 rows):=λt=>by rw[hRR t u hul];exact hg
    simp-implicitDefEqProofs[hgm,hc0]
    refine(aG G b hb hl (p+1+1) (by omega) _ _).mono ?_
    rintro r h ⟨k2,rfl,rfl,hk2⟩
    have hk2l:k2<cs.length:=by
     have:=List.length_pos_iff.2 hc0
     omega
    have hgc:=List.getElem?_eq_getElem hk2l
    generalize cs[k2]=c at hgc
    obtain⟨V,hr,hc3⟩:=hrow k2 c hgc
    simp-implicitDefEqProofs[aa,hgm,hr,hk2l]
    refine⟨⟨k1,k2,c.params,p+1+1+1,_⟩,⟨⟨?_,?_,?_,?_,?_⟩,hc3,by simp only;omega,by simp only;omega⟩,ab ?_ ?_⟩
    rotate_left 5
    ·simp
    ·simp[below]
     try omega
    ·simp
    ·exact λi hi=>List.getElem?_append_left hi
    ·rw[List.getElem?_append_right (by omega),Nat.add_sub_cancel_left];rfl
    ·rw[List.getElem?_append_right (by omega),Nat.add_sub_cancel_left];rfl
    ·exact Own.nil _ _ 1
  ·have h14:¬op=14:=by simpa using h14
   refine⟨⟨k1,0,l7N op,p+1+1,_⟩,⟨⟨?_,?_,?_,?_,?_⟩,h7 h14,by simp only;omega,by simp only;omega⟩,ab ?_ ?_⟩
   rotate_left 5
   ·simp
   ·simp[below]
    try omega
   ·simp
   ·exact λi hi=>List.getElem?_append_left hi
   ·rw[List.getElem?_append_right (by omega),Nat.add_sub_cancel_left];rfl
   ·rw[List.getElem?_append_right (by omega),Nat.add_sub_cancel_left];rfl
   ·exact Own.nil _ _ 1
 rintro⟨to,n,many,q,W⟩ ⟨hS,hm,hq1,hq2⟩
 simp only at hS hm hq1 hq2⊢
 have hWl:=hS.len
 refine fR (λs:SmC=>aw 69 [(9,.p (.int .i64 many)),(8,.ptr (R.length+3+1) 4 0 0),(7,.p (.int .i64 op)),(6,.ptr (R.length+1+1) 4 0 0),(2,.p (.int .i64 regs)),(0,.ptr 0 2 0 0)]) (λs=>rdO b s.q::s.W) (λs=>SmI R op s.to s.n s.W .nils [] []/\p<=s.q/\s.q<=p+5) ?_ ?_
 ·simp-implicitDefEqProofs[]
  refine aF (λh1=>?_) (λh1=>?_)
  ·have hx:∀t,(W++t)[R.length+3]?=some (.row 4 [[.p (.int .i64 op),.p (.int .i64 to),.nils,.p (.int .i64 n)]]):=λt=>by rw[List.getElem?_append_left (by omega)];exact hS.x
   simp-implicitDefEqProofs[]
   refine(ig G hb hl (by omega) [0,1,2,3,15,16,255] (by simp) (by simp) (by omega) rfl (by rw[List.getElem?_cons_succ,List.getElem?_append_right (Nat.le_refl _),Nat.sub_self];rfl)).mono ?_
   rintro r h ⟨m,_,rfl,rfl⟩
   simp-implicitDefEqProofs[aa,hx]
   refine⟨⟨to,m,0,q+1,_⟩,⟨⟨?_,?_,?_,?_,?_⟩,by simp only;omega,by simp only;omega⟩,ab ?_ ?_⟩
   rotate_left 5
   ·simp;omega
   ·simp[below]
    omega
   ·simp;omega
   ·intro i hi
    rw[List.getElem?_set_ne (by omega),List.getElem?_append_left (by omega)];exact hS.pre i hi
   ·rw[List.getElem?_set_ne (by omega),List.getElem?_append_left (by omega)];exact hS.res
   ·exact List.getElem?_set_self (by simp;omega)
   ·exact Own.nil _ _ 1
  ·refine⟨⟨to,n,0,q,W⟩,⟨hS,hq1,by simp only;omega⟩,ab ?_ ?_⟩
   ·simp;omega
   ·simp[below]
    omega
 clear hWl hS hq2
 rintro⟨to,n,_,q,W⟩ ⟨hS,hq1,hq2⟩
 simp only at hS hq1 hq2⊢
 have hWl:=hS.len
 refine fR (λs:SmC=>aw 69 [(9,.p (.int .i64 many)),(8,.ptr (R.length+3+1) 4 0 0),(7,.p (.int .i64 op)),(6,.ptr (R.length+1+1) 4 0 0),(2,.p (.int .i64 regs)),(0,.ptr 0 2 0 0)]) (λs=>rdO b s.q::s.W) (λs=>SmI R op s.to s.n s.W .nils [] []/\p<=s.q/\s.q<=p+5) ?_ ?_
 ·simp-implicitDefEqProofs[]
  refine(jW G op).use ?_
  simp-implicitDefEqProofs[]
  refine aF (λh1=>?_) (λh1=>?_)
  ·simp-implicitDefEqProofs[hS.x]
   refine⟨⟨-1,n,0,q,_⟩,⟨⟨?_,?_,?_,?_,?_⟩,by simp only;omega,by simp only;omega⟩,ab ?_ ?_⟩
   rotate_left 5
   ·simp;omega
   ·simp[below]
    omega
   ·simp;omega
   ·intro i hi
    rw[List.getElem?_set_ne (by omega)];exact hS.pre i hi
   ·rw[List.getElem?_set_ne (by omega)];exact hS.res
   ·exact List.getElem?_set_self (by omega)
   ·exact Own.nil _ _ 1
  ·refine⟨⟨to,n,0,q,W⟩,⟨hS,hq1,by simp only;omega⟩,ab ?_ ?_⟩
   ·simp;omega
   ·simp[below]
    omega
 clear hWl hS hq2
 rintro⟨to,n,_,q,W⟩ ⟨hS,hq1,hq2⟩
 simp only at hS hq1 hq2⊢
 simp-implicitDefEqProofs[]
 refine aH (λs:SmT=>aw 69 [(10,.p (.int .i64 s.i)),(9,.p (.int .i64 many)),(8,.ptr (R.length+3+1) 4 0 0),(6,.ptr (R.length+1+1) 4 0 0),(2,.p (.int .i64 regs)),(0,.ptr 0 2 0 0)]) (λs=>rdO b s.q::s.W) (λs=>s.i<=3/\p<=s.q/\s.q<=p+5+s.i/\∃A args I,SmI R op to n s.W A args I/\args.length=s.i) (λs=>3-s.i) ⟨0,q,W⟩ ⟨by simp,hq1,by simpa using hq2,_,_,_,hS,rfl⟩ (ab (by have:=hS.len;simp;omega) (by have:=hS.len;simp[below];omega)) ?_
 clear hS hq1 hq2 W q
 rintro⟨i,q,W⟩ ⟨hi,hq1,hq2,A,args,I,hS,hal⟩
 simp only at hi hq1 hq2 hS hal⊢
 have hWl:=hS.len
 obtain⟨v1,v2⟩:=hS.own.cell
 simp-implicitDefEqProofs[]
 refine aF (λhc=>?_) (λhc=>?_)
 ·simp at hc
  have hw1:=w1 (i:=i) (by omega)
  simp-implicitDefEqProofs[-AV.cells,-AV.isCell,aE,ag,ah,am,aj,aD,af,an,al,v1,v2,hS.x]
  refine(aG G b hb hl q (by omega) _ _).mono ?_
  rintro r h ⟨k,rfl,rfl,_⟩
  have hm3:i<3:=by omega
  rcases hS.own.row with⟨rfl,h2,rfl⟩|⟨id,rows,J,hA,_⟩
  ·have h0:args=[]:=List.map_eq_nil_iff.1 h2
   subst h0
   have h0:i=0:=hal.symm
   subst h0
   have hx:∀t,(W++t)[R.length+3]?=some (.row 4 [[.p (.int .i64 op),.p (.int .i64 to),.nils,.p (.int .i64 n)]]):=λt=>by rw[List.getElem?_append_left (by omega)];exact hS.x
   simp-implicitDefEqProofs[aa,hx,hS.x]
   have hw11:IntKind.i64.wrap 1=1:=ae (by omega) (by omega)
   refine⟨⟨1,q+1,_⟩,⟨by simp,by simp only;omega,by simp only;omega,_,_,⟨_,hS.first k⟩,rfl⟩,by simp,ab ?_ ?_⟩
   ·simp;omega
   ·simp[below,hw11]
    omega
  ·rw[List.length_map] at hA
   subst hA
   obtain⟨_,_,hid5,hg⟩:=oX hS.own
   obtain⟨f,rfl⟩:∃f,id=f+1:=⟨id-1,by omega⟩
   rw[List.getElem?_cons_succ] at hg
   have hfl:=(List.getElem?_eq_some_iff.1 hg).1
   have hx:∀t,(W.set f .dead++t)[R.length+3]?=some (.row 4 [[.p (.int .i64 op),.p (.int .i64 to),.sl (f+1) 1 0 args.length,.p (.int .i64 n)]]):=λt=>by rw[List.getElem?_append_left (by simp;omega),List.getElem?_set_ne (by omega)];exact hS.x
   have htk:List.take args.length (args.map λn=>[AV.p (.int .i64 n)])=args.map λn=>[AV.p (.int .i64 n)]:=List.take_of_length_le (by simp)
   have hmr:=hS.more (by omega) hg k
   simp-implicitDefEqProofs[aa,hS.x,hg,hx,htk]
   refine⟨by omega,⟨i+1,q+1,_⟩,⟨by simp only;omega,by simp only;omega,by simp only;omega,_,_,⟨_,hmr⟩,by simp[hal]⟩,by simp only;omega,ab ?_ ?_⟩
   ·simp;omega
   ·simp[below,hw1]
    omega
 ·have hs1:∀o,(W.set (R.length+1) o)[R.length+1]?=some o:=λo=>List.getElem?_set_self (by omega)
  simp-implicitDefEqProofs[-AV.cells,-AV.isCell,aE,ag,ah,am,aj,aD,af,an,al,v1,v2,hS.x,hS.res,hs1]
  refine⟨⟨op,to,args,n⟩,A,⟨rfl,rfl,rfl,rfl⟩,I,q,⟨rfl,Dr (by simp;omega) λj hj=>?_⟩,?_,by simp only;omega,hq1,by omega⟩
  ·rw[List.getElem?_set_ne (by omega)];exact hS.pre j hj
  ·refine((Kj (o':=rdO b q) hS.own).frame λj hj=>?_).low λj hj=>by have:=hS.own.ge j hj;omega
   have:=hS.own.ge j hj
   obtain⟨f,rfl⟩:∃f,j=f+1:=⟨j-1,by omega⟩
   rw[List.getElem?_cons_succ,List.getElem?_cons_succ,List.getElem?_set_ne (by omega)]
end
section
def Psh(H:List AO)(V:AV)(sz:Nat)(r:List AV)(H':List AO)(V':AV):Prop:=
 (V= .nils/\H'=H++[.row sz [r]]/\V'= .sl H.length sz 0 1)\/∃id rows m,V= .sl id sz 0 m/\H[id]?=some (.row sz rows)/\rows.length=m/\H'=H.set id .dead++[.row sz (rows++[r])]/\V'= .sl H.length sz 0 (m+1)
section
variable {n:Nat} {H H':List AO} {V V':AV} {sz:Nat} {D:List (List PV)} {r:List AV} {e:List PV} {IV IR:List Nat}
theorem Own.psh(hV:Own n H [V] [.lst sz D] IV)(hr:Own n H r e IR)(hd:∀j∈IV,j∉IR)(he:e.length=sz)(hn:n<=H.length)(hp:Psh H V sz r H' V'):
 ∃IV',Own n H' [V'] [.lst sz (D++[e])] IV'/\(∀j∈IV',j∈IV\/j∈IR\/j=H.length)/\(∀i,i<H.length->i∉IV->H'[i]?=H[i]?)/\H'.length=H.length+1:=by
 rcases hp with⟨rfl,rfl,rfl⟩|⟨id,rows,m,rfl,hg,hm,rfl,rfl⟩
 ·rcases hV.row with⟨_,rfl,rfl⟩|⟨_,_,_,e1,_⟩
  ·exact⟨_,hr.first he hn,λj hj=>by rcases List.mem_cons.1 hj with h|h;exact .inr (.inr h);exact .inr (.inl h),λi hi _=>List.getElem?_append_left hi,by simp⟩
  ·cases e1
 ·rcases hV.row with⟨e1,_⟩|⟨id2,rows2,J,e1,e2,hro,_⟩
  ·cases e1
  ·cases e1
   subst e2
   rw[hro.here] at hg
   cases hg
   have hpu:=hV.push hro (h2:=H) (os:=[]) (by simp) hr he λj hj=>⟨λe=>hd _ (by simp) (e▸hj),λhm=>hd j (by simp[hm]) hj⟩
   refine⟨_,hpu,λj hj=>?_,λi hi hn=>?_,by simp⟩
   ·simp only[List.mem_cons,List.mem_append] at hj⊢
    rcases hj with h|h|h
    ·exact .inr (.inr h)
    ·exact .inl (.inr h)
    ·exact .inr (.inl h)
   ·rw[List.getElem?_append_left (by simpa using hi),List.getElem?_set_ne λe=>hn (by simp[e])]
end
structure XI (W0 W:List AO) (xw:Nat) (pm rg:Int) (V N X:AV) (j o:Int) (bs:List Bk) (ins:List Ii) (nx:List Int) (I:List Nat):Prop where
 len:W0.length+2<=W.length
 pre:∀i,i<W0.length->W[i]?=W0[i]?
 c:W[W0.length+1]?=some (.row 3 [[.p (.int .i64 pm),.p (.int .i64 rg),V]])
 xge:W0.length+2<=xw
 x:W[xw]?=some (.row 5 [[.nils,N,.p (.int .i64 j),.p (.int .i64 o),X]])
 own:Own (W0.length+3) (.dead::W) [V,N,X] [bkL bs,inL ins,aC nx] I
 xn:xw+1∉I
structure CI (W0 W:List AO) (pm rg:Int) (V:AV) (bs:List Bk) (I:List Nat):Prop where
 len:W0.length+2<=W.length
 pre:∀i,i<W0.length->W[i]?=W0[i]?
 c:W[W0.length+1]?=some (.row 3 [[.p (.int .i64 pm),.p (.int .i64 rg),V]])
 own:Own (W0.length+3) (.dead::W) [V] [bkL bs] I
section
variable {W0 W W2:List AO} {xw:Nat} {pm rg:Int} {V N X:AV} {j o:Int} {bs:List Bk} {ins:List Ii} {nx:List Int} {I:List Nat}
theorem Own.hd1{n:Nat}{o o':AO}{W W':List AO}{vs:List AV}{qs:List PV}{I:List Nat}(H:Own (n+1) (o::W) vs qs I)(e:∀i,i+1∈I->W'[i]?=W[i]?):Own (n+1) (o'::W') vs qs I:=H.frame λi hi=>by
 have:=H.ge i hi
 obtain⟨k,rfl⟩:∃k,i=k+1:=⟨i-1,by omega⟩
 exact e k hi
theorem XI.lt(H:XI W0 W xw pm rg V N X j o bs ins nx I):xw<W.length:=(List.getElem?_eq_some_iff.1 H.x).1
theorem XI.fr(H:XI W0 W xw pm rg V N X j o bs ins nx I)(f:∀i,i<W.length->W2[i]?=W[i]?)(hl:W.length<=W2.length):XI W0 W2 xw pm rg V N X j o bs ins nx I:=
 ⟨by have:=H.len;omega,λi hi=>by have:=H.len;rw[f i (by omega)];exact H.pre i hi,by rw[f _ (by have:=H.len;omega)];exact H.c,H.xge,by rw[f _ H.lt];exact H.x,H.own.hd1 λi hi=>f i (by have:=H.own.lt _ hi;simpa using this),H.xn⟩
theorem XI.more(H:XI W0 W xw pm rg V N X j o bs ins nx I)(os:List AO):XI W0 (W++os) xw pm rg V N X j o bs ins nx I:=H.fr (λi hi=>List.getElem?_append_left hi) (by simp)
theorem CI.block(H:CI W0 W pm rg V bs I):XI W0 (W++[.row 5 [[.nils,.nils,.p (.int .i64 0),.p (.int .i64 0),.nils]]]) W.length pm rg V .nils .nils 0 0 bs [] [] I:=by
 have hl:=H.len
 refine⟨by simp;omega,λi hi=>by rw[List.getElem?_append_left (by omega)];exact H.pre i hi,by rw[List.getElem?_append_left (by omega)];exact H.c,hl,by rw[List.getElem?_append_right (Nat.le_refl _)];simp,?_,λhm=>?_⟩
 ·have h1:Own (W0.length+3) (.dead::(W++[.row 5 [[.nils,.nils,.p (.int .i64 0),.p (.int .i64 0),.nils]]])) [V] [bkL bs] I:=H.own.hd1 λi hi=>List.getElem?_append_left (by have:=H.own.lt _ hi;simpa using this)
  have h2:=h1.app ((Own.nil (W0.length+3) _ 4).app (Own.nil (W0.length+3) _ 1) λ_ h=>by cases h) λ_ _ h=>by cases h
  rw[List.append_nil,List.append_nil] at h2
  exact h2
 ·have:=H.own.lt _ hm
  simp at this
theorem XI.jump(H:XI W0 W xw pm rg V N X j o bs ins nx I)(j' o':Int):XI W0 (W.set xw (.row 5 [[.nils,N,.p (.int .i64 j'),.p (.int .i64 o'),X]])) xw pm rg V N X j' o' bs ins nx I:=by
 have hl:=H.len
 have hx:=H.xge
 refine⟨by simpa using hl,λi hi=>by rw[List.getElem?_set_ne (by omega)];exact H.pre i hi,by rw[List.getElem?_set_ne (by omega)];exact H.c,hx,List.getElem?_set_self H.lt,H.own.hd1 λi hi=>List.getElem?_set_ne λe=>H.xn (by rw[e];exact hi),H.xn⟩
theorem XI.ins1(H:XI W0 W xw pm rg V N X j o bs ins nx I){os:List AO}{A:AV}{IA:List Nat}{y:Ii}{h0:AO}(hA:Own (W.length+1) (h0::(W++os)) [A] [aC y.args] IA){lit:AO}{W3:List AO}{N':AV}
 (hp:Psh (.dead::(W++os++[lit])) N 4 [.p (.int .i64 y.op),.p (.int .i64 y.to),A,.p (.int .i64 y.n)] (.dead::W3) N'):
 ∃I',XI W0 (W3.set xw (.row 5 [[.nils,N',.p (.int .i64 j),.p (.int .i64 o),X]])) xw pm rg V N' X j o bs (ins++[y]) nx I':=by
 have hl:=H.len
 have hx:=H.xge
 have hxl:=H.lt
 have hlt:∀i∈I,i<W.length+1:=λi hi=>by have:=H.own.lt i hi;simpa using this
 have H2:=(H.more (os++[lit])).own
 rw[←List.append_assoc] at H2
 have hA1:Own (W0.length+3) (.dead::(W++os++[lit])) [A] [aC y.args] IA:=(hA.hd1 λi hi=>List.getElem?_append_left (by have:=hA.lt _ hi;simp at this⊢;omega)).low λi hi=>by have:=hA.ge i hi;omega
 obtain⟨_,_,IV,I',e1,rfl,hV,H2⟩:=H2.one
 cases e1
 obtain⟨_,_,IN,I'',e1,rfl,hN,H2⟩:=H2.one
 cases e1
 have hnd:=H.own.nd
 have hxn:=H.xn
 simp only[List.nodup_append,List.mem_append,not_or] at hnd hxn
 have hAd:∀i∈IA,W.length+1<=i:=hA.ge
 obtain⟨IN',n1,n2,n3,n4⟩:=hN.psh (zu hA1) (λi hi hm=>by have:=hlt i (by simp[hi]);have:=hAd i hm;omega) rfl (by simp;omega) hp
 have hlen:(AO.dead::(W++os++[lit])).length=W.length+os.length+1+1:=by simp;omega
 rw[hlen] at n2 n3 n4
 have n4':W3.length=W.length+os.length+1+1:=by simpa using n4
 have hse:∀i,i<W.length->i+1∉IN->W3[i]?=W[i]?:=λi hi hn=>by
  have:=n3 (i+1) (by omega) hn
  rw[List.getElem?_cons_succ,List.getElem?_cons_succ,List.append_assoc,List.getElem?_append_left hi] at this
  exact this
 have hnotN:∀i,i+1<W0.length+3->i+1∉IN:=λi hi hm=>by have:=hN.ge _ hm;omega
 have hxN:xw+1∉IN:=hxn.2.1
 have hset:∀i,i≠xw->(W3.set xw (.row 5 [[.nils,N',.p (.int .i64 j),.p (.int .i64 o),X]]))[i]?=W3[i]?:=λi hi=>List.getElem?_set_ne (Ne.symm hi)
 refine⟨IV++(IN'++I''),by simp;omega,λi hi=>?_,?_,hx,List.getElem?_set_self (by omega),?_,?_⟩
 ·rw[hset i (by omega),hse i (by omega) (hnotN i (by omega))];exact H.pre i hi
 ·rw[hset _ (by omega),hse _ (by omega) (hnotN _ (by omega))];exact H.c
 ·have hV':Own (W0.length+3) (.dead::W3.set xw (.row 5 [[.nils,N',.p (.int .i64 j),.p (.int .i64 o),X]])) [V] [bkL bs] IV:=hV.hd1 λi hi=>by
   rw[hset i λe=>hxn.1 (e▸hi)]
   have h1:=hlt (i+1) (by simp[hi])
   rw[hse i (by omega) λhm=>hnd.2.2 _ hi _ (.inl hm) rfl,List.append_assoc,List.getElem?_append_left (by omega)]
  have hX':Own (W0.length+3) (.dead::W3.set xw (.row 5 [[.nils,N',.p (.int .i64 j),.p (.int .i64 o),X]])) [X] [aC nx] I'':=H2.hd1 λi hi=>by
   rw[hset i λe=>hxn.2.2 (e▸hi)]
   have h1:=hlt (i+1) (by simp[hi])
   rw[hse i (by omega) λhm=>hnd.2.1.2.2 _ hm _ hi rfl,List.append_assoc,List.getElem?_append_left (by omega)]
  have hN':Own (W0.length+3) (.dead::W3.set xw (.row 5 [[.nils,N',.p (.int .i64 j),.p (.int .i64 o),X]])) [N'] [inL (ins++[y])] IN':=by
   have:inL (ins++[y])= .lst 4 (ins.map Ii.cs++[y.cs]):=by rw[inL,List.map_append];rfl
   rw[this]
   refine n1.hd1 λi hi=>hset i λe=>?_
   subst e
   rcases n2 _ hi with h|h|h
   ·exact hxN h
   ·have:=hAd _ h;omega
   ·omega
  refine hV'.app (hN'.app hX' λi hi hm=>?_) λi hi hm=>?_
  ·have:=hlt i (by simp[hm])
   rcases n2 i hi with h|h|h
   ·exact hnd.2.1.2.2 _ h _ hm rfl
   ·have:=hAd _ h;omega
   ·omega
  ·have h1:=hlt i (by simp[hi])
   rcases List.mem_append.1 hm with hm|hm
   ·rcases n2 i hm with h|h|h
    ·exact hnd.2.2 _ hi _ (.inl h) rfl
    ·have:=hAd _ h;omega
    ·omega
   ·exact hnd.2.2 _ hi _ (.inr hm) rfl
 ·simp only[List.mem_append,not_or]
  refine⟨hxn.1,λhm=>?_,hxn.2.2⟩
  rcases n2 _ hm with h|h|h
  ·exact hxN h
  ·have:=hAd _ h;omega
  ·omega
theorem XI.next(H:XI W0 W xw pm rg V N .nils j o bs ins [] I)(l:List Int)(j' o':Int):XI W0 ((W++[AO.row 1 (l.map λn=>[AV.p (.int .i64 n)])]).set xw (.row 5 [[.nils,N,.p (.int .i64 j'),.p (.int .i64 o'),.sl (W.length+1) 1 0 l.length]])) xw pm rg V N (.sl (W.length+1) 1 0 l.length) j' o' bs ins l (I++[W.length+1]):=by
 have hl:=H.len
 have hx:=H.xge
 have hxl:=H.lt
 have hlt:∀i∈I,i<W.length+1:=λi hi=>by have:=H.own.lt i hi;simpa using this
 have hset:∀i t,i≠xw->i<W.length->((W++[AO.row 1 (l.map λn=>[AV.p (.int .i64 n)])]).set xw t)[i]?=W[i]?:=λi t hi hl=>by
  rw[List.getElem?_set_ne (Ne.symm hi),List.getElem?_append_left hl]
 refine⟨by simp;omega,λi hi=>?_,?_,hx,List.getElem?_set_self (by simp;omega),?_,?_⟩
 ·rw[hset _ _ (by omega) (by omega)];exact H.pre i hi
 ·rw[hset _ _ (by omega) (by omega)];exact H.c
 ·obtain⟨_,_,IV,I',e1,rfl,hV,H2⟩:=H.own.one
  cases e1
  obtain⟨_,_,IN,I'',e1,rfl,hN,H2⟩:=H2.one
  cases e1
  have hn:=H.own.nd
  have hxn:=H.xn
  simp only[List.nodup_append,List.mem_append,not_or] at hn hxn
  have h0:I''=[]:=by
   have:=H2.own
   cases this with
   |nils _ h=>cases h;rfl
  subst h0
  have hV':=hV.hd1 (o':= .dead) (W':=(W++[AO.row 1 (l.map λn=>[AV.p (.int .i64 n)])]).set xw (.row 5 [[.nils,N,.p (.int .i64 j'),.p (.int .i64 o'),.sl (W.length+1) 1 0 l.length]])) λi hi=>hset i _ (λe=>hxn.1 (e▸hi)) (by have:=hlt (i+1) (by simp[hi]);omega)
  have hN':=hN.hd1 (o':= .dead) (W':=(W++[AO.row 1 (l.map λn=>[AV.p (.int .i64 n)])]).set xw (.row 5 [[.nils,N,.p (.int .i64 j'),.p (.int .i64 o'),.sl (W.length+1) 1 0 l.length]])) λi hi=>hset i _ (λe=>hxn.2.1 (e▸hi)) (by have:=hlt (i+1) (by simp[hi]);omega)
  have hX':Own (W0.length+3) (.dead::((W++[AO.row 1 (l.map λn=>[AV.p (.int .i64 n)])]).set xw (.row 5 [[.nils,N,.p (.int .i64 j'),.p (.int .i64 o'),.sl (W.length+1) 1 0 l.length]]))) [.sl (W.length+1) 1 0 l.length] [aC l] [W.length+1]:=cq (by
   rw[List.getElem?_cons_succ,List.getElem?_set_ne (by omega),List.getElem?_append_right (by simp)];simp) (by omega) rfl
  have:=hV'.app (hN'.app hX' λi hi hm=>by have:=hlt i (by simp[hi]);rw[List.mem_singleton.1 hm] at this;omega) λi hi hm=>by
   rcases List.mem_append.1 hm with hm|hm
   ·exact hn.2.2 _ hi _ (.inl hm) rfl
   ·have:=hlt i (by simp[hi]);rw[List.mem_singleton.1 hm] at this;omega
  simpa using this
 ·intro hm
  rcases List.mem_append.1 hm with hm|hm
  ·exact H.xn hm
  ·have:=List.mem_singleton.1 hm;omega
theorem XI.done(H:XI W0 W xw pm rg V N X j o bs ins nx I){lit:AO}{W3:List AO}{V':AV}(hp:Psh (.dead::(W++[lit])) V 5 [.nils,N,.p (.int .i64 j),.p (.int .i64 o),X] (.dead::W3) V'):
 ∃I',CI W0 (W3.set (W0.length+1) (.row 3 [[.p (.int .i64 pm),.p (.int .i64 rg),V']])) pm rg V' (bs++[⟨[],ins,j,o,nx⟩]) I':=by
 have hl:=H.len
 have hx:=H.xge
 have hxl:=H.lt
 have H2:=(H.more [lit]).own
 obtain⟨_,_,IV,I',e1,rfl,hV,H2⟩:=H2.one
 cases e1
 obtain⟨_,_,IN,I'',e1,rfl,hN,H2⟩:=H2.one
 cases e1
 have hnd:=H.own.nd
 simp only[List.nodup_append,List.mem_append,not_or] at hnd
 have hb:=sv (b:=⟨[],ins,j,o,nx⟩) (Own.nil (W0.length+3) (.dead::(W++[lit])) 2) hN H2 (λ_ h=>by cases h) λi hi hm=>hnd.2.1.2.2 _ hi _ hm rfl
 obtain⟨IV',n1,n2,n3,n4⟩:=hV.psh hb (λi hi hm=>by
  rw[List.nil_append] at hm
  exact hnd.2.2 _ hi _ (List.mem_append.1 hm) rfl) rfl (by simp;omega) hp
 have hlen:(AO.dead::(W++[lit])).length=W.length+1+1:=by simp
 rw[hlen] at n2 n3 n4
 have n4':W3.length=W.length+1+1:=by simpa using n4
 have hse:∀i,i<W0.length+2->W3[i]?=W[i]?:=λi hi=>by
  have:=n3 (i+1) (by omega) λhm=>by have:=hV.ge _ hm;omega
  rw[List.getElem?_cons_succ,List.getElem?_cons_succ,List.getElem?_append_left (by omega)] at this
  exact this
 refine⟨IV',by simp;omega,λi hi=>?_,List.getElem?_set_self (by omega),?_⟩
 ·rw[List.getElem?_set_ne (by omega),hse i (by omega)];exact H.pre i hi
 ·have:bkL (bs++[⟨[],ins,j,o,nx⟩])= .lst 5 (bs.map Bk.cs++[(⟨[],ins,j,o,nx⟩:Bk).cs]):=by rw[bkL,List.map_append];rfl
  rw[this]
  exact n1.hd1 λi hi=>List.getElem?_set_ne λe=>by have:=n1.ge _ hi;omega
end
end
section
theorem vb:AK.whole jp=FK.ak jq:=rfl
def SmB(m:Nat)(b:Bk):Prop:=b.phis.length<=m/\b.ins.length<=4/\b.next.length<=2/\(∀x∈b.ins,x.args.length<=3)/\∀x∈b.phis,x.args.length<=7
def SmCd(m:Nat)(c:Cd):Prop:=c.params<=3/\1<=c.blocks.length/\c.blocks.length<=7/\∀b∈c.blocks,SmB m b
theorem CdsAt.mono{R W:List AO}{U:AV}{cs:List Cd}(H:CdsAt R U cs)(e:∀i,i<R.length->W[i]?=R[i]?):CdsAt W U cs:=by
 rcases H with h|⟨u,rows,h1,h2,h3,h4⟩
 ·exact .inl h
 ·exact .inr ⟨u,rows,h1,h2,by rw[e u (List.getElem?_eq_some_iff.1 h3).1];exact h3,h4⟩
variable (G:az)
structure CdS where (i q:Nat) (W:List AO)
structure JmS where (j o:Int) (q:Nat) (W:List AO)
structure InS where (i:Int) (q:Nat) (W:List AO)
theorem FB{b:List Int}(hb:Byt b)(hl:b.length<=2000){p:Nat}(hp:p<=900000000000)(R:List AO)(U:AV)(cs:List Cd)(hU:CdsAt R U cs):AC Tryz.prog G jj [.ptr 0 2 0 0,.agg [U]] (rdO b p::R) λx h=>∃(c:Cd) (V:AV) (I:List Nat) (q:Nat) (os:List AO),x= .ret (.agg [.p (.int .i64 c.params),.p (.int .i64 c.regs),V])/\h=rdO b q::(R++os)/\Own (R.length+1) h [V] [bkL c.blocks] I/\SmCd 0 c/\p<=q/\q<=p+1000:=by
 obtain⟨u1,u2⟩:=hU.cell
 refine AC.goK uN vb ?_
 simp-implicitDefEqProofs[-AV.cells,-AV.isCell,aE,ag,ah,am,aj,aD,af,an,al,u1,u2,jp,jq]
 refine(tJ G hb hl (by omega) [1,0,2,3] 2 (by omega) rfl (by simp) (by simp)).mono ?_
 rintro r h ⟨pm,hpm,rfl,rfl⟩
 have hpm3:0<=pm/\pm<=3:=by simp at hpm;omega
 clear hpm
 have hw1:IntKind.i64.wrap (pm+2)=pm+2:=ae (by omega) (by omega)
 simp-implicitDefEqProofs[-AV.cells,-AV.isCell,aE,ag,ah,am,aj,aD,af,an,al,u1,u2,aa,hw1]
 refine(aG G b hb hl (p+1) (by omega) 5 _).mono ?_
 rintro r h ⟨k1,rfl,rfl,hk1⟩
 have hw2:IntKind.i64.wrap (pm+2+(k1:Int))=pm+2+(k1:Int):=ae (by omega) (by omega)
 simp-implicitDefEqProofs[-AV.cells,-AV.isCell,aE,ag,ah,am,aj,aD,af,an,al,u1,u2,aa,hw2]
 generalize pm+2+(k1:Int)=rg
 refine(tJ G hb hl (by omega) [3,5,2,1,7,4] 4 (by omega) rfl (by simp) (by simp)).mono ?_
 rintro r h ⟨nI,hnI,rfl,rfl⟩
 obtain⟨n,rfl,hn1,hn7⟩:∃n:Nat,nI=n/\1<=n/\n<=7:=⟨nI.toNat,by simp at hnI;omega,by simp at hnI;omega,by simp at hnI;omega⟩
 simp-implicitDefEqProofs[-AV.cells,-AV.isCell,aE,ag,ah,am,aj,aD,af,an,al,u1,u2,aa]
 obtain⟨W0,hW0⟩:∃W0,W0=R++[AO.row 1 [[U]],AO.row 3 [[AV.p (.int .i64 0),AV.p (.int .i64 0),AV.nils]]]:=⟨_,rfl⟩
 have hW0l:W0.length=R.length+2:=by rw[hW0];simp
 refine aH (λa:CdS=>aw 100 [(7,.p (.int .i64 a.i)),(6,.p (.int .i64 n)),(5,.ptr (R.length+3+1) 3 0 0),(4,.ptr (R.length+1+1) 3 0 0),(3,.ptr (R.length+1) 1 0 0),(0,.ptr 0 2 0 0)]) (λa=>rdO b a.q::a.W)
  (λa=>a.i<=n/\p<=a.q/\a.q<=p+3+100*a.i/\∃V bs I,CI W0 a.W pm rg V bs I/\bs.length=a.i/\∀x∈bs,SmB 0 x) (λa=>n-a.i) ⟨0,p+1+1+1,_⟩ ⟨Nat.zero_le _,by simp only;omega,by simp only;omega,.nils,[],[],⟨?_,?_,?_,?_⟩,rfl,by simp⟩ (ab ?_ ?_) ?_
 rotate_left 4
 ·simp
 ·simp[below]
 rotate_left 1
 ·rw[hW0l];simp
 ·intro i hi
  rw[hW0] at hi⊢
  have:R++[AO.row 1 [[U]],AO.row 3 [[AV.p (.int .i64 0),AV.p (.int .i64 0),AV.nils]],AO.row 1 [[AV.p (.int .i64 1)],[AV.p (.int .i64 0)],[AV.p (.int .i64 2)],[AV.p (.int .i64 3)]],AO.row 3 [[AV.p (.int .i64 pm),AV.p (.int .i64 rg),AV.nils]],AO.row 1 [[AV.p (.int .i64 3)],[AV.p (.int .i64 5)],[AV.p (.int .i64 2)],[AV.p (.int .i64 1)],[AV.p (.int .i64 7)],[AV.p (.int .i64 4)]]]=(R++[AO.row 1 [[U]],AO.row 3 [[AV.p (.int .i64 0),AV.p (.int .i64 0),AV.nils]]])++[AO.row 1 [[AV.p (.int .i64 1)],[AV.p (.int .i64 0)],[AV.p (.int .i64 2)],[AV.p (.int .i64 3)]],AO.row 3 [[AV.p (.int .i64 pm),AV.p (.int .i64 rg),AV.nils]],AO.row 1 [[AV.p (.int .i64 3)],[AV.p (.int .i64 5)],[AV.p (.int .i64 2)],[AV.p (.int .i64 1)],[AV.p (.int .i64 7)],[AV.p (.int .i64 4)]]]:=by simp
  simp only
  rw[this,List.getElem?_append_left hi]
 ·rw[hW0l,List.getElem?_append_right (by omega),show R.length+2+1-R.length=3 by omega];rfl
 ·exact Own.nil _ _ 5
 rintro⟨i,q,W⟩ ⟨hi,hq1,hq2,V,bs,I,hC,hbl,hbs⟩
 simp only at hi hq1 hq2 hC hbl⊢
 have hCl:=hC.len
 have hpreR:∀i,i<R.length->W[i]?=R[i]?:=λi hi=>by rw[hC.pre i (by omega),hW0,List.getElem?_append_left hi]
 simp-implicitDefEqProofs[]
 refine aF (λhc=>?_) (λhc=>?_)
 ·simp at hc
  have hwi:=w1 (i:=i) (by omega)
  simp-implicitDefEqProofs[]
  have hB:=hC.block
  obtain⟨xw,hxw⟩:∃xw,xw=W.length:=⟨_,rfl⟩
  have hub:∀t,(W++t)[R.length]?=some (.row 1 [[U]]):=λt=>by rw[List.getElem?_append_left (by omega),hC.pre _ (by omega),hW0,List.getElem?_append_right (Nat.le_refl _)];simp
  refine fR (λa:InS=>aw 100 [(8,.ptr (xw+1) 5 0 0),(7,.p (.int .i64 i)),(6,.p (.int .i64 n)),(5,.ptr (R.length+3+1) 3 0 0),(4,.ptr (R.length+1+1) 3 0 0),(3,.ptr (R.length+1) 1 0 0),(0,.ptr 0 2 0 0)]) (λa=>rdO b a.q::a.W)
   (λa=>p<=a.q/\a.q<=p+3+100*i+50/\∃N ins I,XI W0 a.W xw pm rg V N .nils 0 0 bs ins [] I/\ins.length<=4/\∀y∈ins,y.args.length<=3) ?_ ?_
  ·simp-implicitDefEqProofs[]
   refine(tJ G hb hl (by omega) [1,2,0,3,4] 1 (by omega) rfl (by simp) (by simp)).mono ?_
   rintro r h ⟨i0,hi0,rfl,rfl⟩
   have hi0:0<=i0/\i0<=4:=by simp at hi0;omega
   simp-implicitDefEqProofs[aa]
   have hB2:=hB.more [AO.row 1 [[AV.p (.int .i64 1)],[AV.p (.int .i64 2)],[AV.p (.int .i64 0)],[AV.p (.int .i64 3)],[AV.p (.int .i64 4)]]]
   rw[←hxw,List.append_assoc] at hB2
   have hfr:∀(t:List AO) (j:Nat),j<W.length->(W++t)[j]?=W[j]?:=λt j hj=>List.getElem?_append_left hj
   refine aH (λa:InS=>aw 100 [(9,.p (.int .i64 a.i)),(8,.ptr (xw+1) 5 0 0),(7,.p (.int .i64 i)),(6,.p (.int .i64 n)),(5,.ptr (R.length+3+1) 3 0 0),(4,.ptr (R.length+1+1) 3 0 0),(3,.ptr (R.length+1) 1 0 0),(0,.ptr 0 2 0 0)]) (λa=>rdO b a.q::a.W)
    (λa=>p<=a.q/\0<=a.i/\a.q+10*a.i.toNat<=p+3+100*i+50/\∃N ins I,XI W0 a.W xw pm rg V N .nils 0 0 bs ins [] I/\ins.length+a.i.toNat<=4/\∀y∈ins,y.args.length<=3) (λa=>a.i.toNat) ⟨i0,q+1,_⟩ ⟨by simp only;omega,hi0.1,by simp only;omega,.nils,[],I,hB2,by show 0+i0.toNat<=4;omega,λy hy=>(by cases hy)⟩ (ab (by simp only[List.length_cons,List.length_append];omega) ?_) ?_
   ·simp[below,hxw];omega
   rintro⟨i1,q,W⟩ ⟨hq1,hi1,hq2,N,ins,I,hX,hil,hia⟩
   simp only at hq1 hi1 hq2 hX hil⊢
   have hXl:=hX.len
   have hXx:=hX.lt
   have hcc:∀t,(W++t)[R.length+3]?=some (.row 3 [[.p (.int .i64 pm),.p (.int .i64 rg),V]]):=λt=>by rw[List.getElem?_append_left (by omega)];have:=hX.c;rw[hW0l] at this;exact this
   have hcc0:=hcc []
   have hxx:∀t,(W++t)[xw]?=some (.row 5 [[.nils,N,.p (.int .i64 0),.p (.int .i64 0),.nils]]):=λt=>by rw[List.getElem?_append_left hXx];exact hX.x
   have hub:W[R.length]?=some (.row 1 [[U]]):=by rw[hX.pre _ (by omega),hW0,List.getElem?_append_right (Nat.le_refl _)];simp
   have hcd:CdsAt W U cs:=hU.mono λj hj=>by rw[hX.pre j (by omega),hW0,List.getElem?_append_left hj]
   rw[List.append_nil] at hcc0
   simp-implicitDefEqProofs[]
   refine aF (λhc2=>?_) (λhc2=>?_)
   ·have hc2:0<i1:=by simpa using hc2
    have hw1:IntKind.i64.wrap (i1-1)=i1-1:=ae (by omega) (by omega)
    obtain⟨m1,m2⟩:N.cells=[N]/\N.isCell=true:=by
     obtain⟨_,_,_,_,e1,_,_,H2⟩:=hX.own.one
     cases e1
     obtain⟨_,_,_,_,e1,_,hN,_⟩:=H2.one
     cases e1
     exact hN.cell
    simp-implicitDefEqProofs[-AV.cells,-AV.isCell,aE,ag,ah,am,aj,aD,af,an,al,u1,u2,m1,m2,hX.x,hcc0,hub]
    refine(Gq G hb hl (by omega) W U cs hcd rg).mono ?_
    rintro r h ⟨y,A,IA,q2,os,rfl,rfl,hA,hy3,g1,g2⟩
    obtain⟨a1,a2⟩:=hA.cell
    obtain⟨W2,hW2⟩:∃W2,W2=W++os:=⟨_,rfl⟩
    have hx2:∀t,(W2++t)[xw]?=some (.row 5 [[.nils,N,.p (.int .i64 0),.p (.int .i64 0),.nils]]):=λt=>by rw[hW2,List.append_assoc];exact hxx _
    have hx20:=hx2 []
    rw[List.append_nil] at hx20
    have hWl2:W.length<=W2.length:=by rw[hW2];simp
    have hIN:N= .nils/\ins=[]\/∃f rows,N= .sl (f+1) 4 0 ins.length/\f<W.length/\W[f]?=some (.row 4 rows)/\rows.length=ins.length/\f≠xw:=by
     have hxn:=hX.xn
     obtain⟨_,_,_,_,e1,rfl,_,H2⟩:=hX.own.one
     cases e1
     obtain⟨_,_,_,_,e1,rfl,hN,_⟩:=H2.one
     cases e1
     rcases hN.row with⟨h1,h2,_⟩|⟨id,rows,J,h1,h2,hr,_⟩
     ·exact .inl ⟨h1,List.map_eq_nil_iff.1 h2⟩
     ·subst h2
      have hge:=hN.ge id (by simp)
      obtain⟨f,rfl⟩:∃f,id=f+1:=⟨id-1,by omega⟩
      have hh:=hr.here
      rw[List.getElem?_cons_succ] at hh
      refine .inr ⟨f,rows,by rw[List.length_map] at h1;exact h1,(List.getElem?_eq_some_iff.1 hh).1,hh,by have:=hr.len;simpa using this,λe=>hxn (by rw[e];simp)⟩
    rw[←hW2]
    rcases hIN with⟨rfl,rfl⟩|⟨f,rows,rfl,hfl,hg,hrl,hfx⟩
    ·simp-implicitDefEqProofs[-AV.cells,-AV.isCell,aE,ag,ah,am,aj,aD,af,an,al,u1,u2,a1,a2,aa,hx2,hx20]
     have hp:Psh (.dead::(W++os++[.row 4 [[.p (.int .i64 y.op),.p (.int .i64 y.to),A,.p (.int .i64 y.n)]]])) .nils 4 [.p (.int .i64 y.op),.p (.int .i64 y.to),A,.p (.int .i64 y.n)] (.dead::(W2++[.row 4 [[.p (.int .i64 y.op),.p (.int .i64 y.to),A,.p (.int .i64 y.n)]],.row 4 [[.p (.int .i64 y.op),.p (.int .i64 y.to),A,.p (.int .i64 y.n)]]])) (.sl (W2.length+1+1) 4 0 1):= .inl ⟨rfl,by rw[hW2];simp,by rw[hW2];simp<;>omega⟩
     obtain⟨I',hI'⟩:=hX.ins1 hA hp
     refine⟨⟨i1-1,q2,_⟩,⟨by simp only;omega,by simp only;omega,by simp only;omega,_,_,⟨_,hI'⟩,by simp at hil⊢;omega,by simpa using hy3⟩,by simp only;omega,ab ?_ ?_⟩
     ·simp only[List.length_cons,List.length_set,List.length_append];omega
     ·simp[below,hw1]
      omega
    ·have hg2:∀t,(W2++t)[f]?=some (.row 4 rows):=λt=>by rw[hW2,List.append_assoc,List.getElem?_append_left hfl];exact hg
     have htk:List.take ins.length rows=rows:=List.take_of_length_le (by omega)
     have hx3:∀t t',((W2++t).set f .dead++t')[xw]?=some (.row 5 [[.nils,.sl (f+1) 4 0 ins.length,.p (.int .i64 0),.p (.int .i64 0),.nils]]):=λt t'=>by
      rw[List.getElem?_append_left (by simp;omega),List.getElem?_set_ne hfx];exact hx2 t
     simp-implicitDefEqProofs[-AV.cells,-AV.isCell,aE,ag,ah,am,aj,aD,af,an,al,u1,u2,a1,a2,aa,hx2,hx20,hg2,htk,hx3]
     have hp:Psh (.dead::(W++os++[.row 4 [[.p (.int .i64 y.op),.p (.int .i64 y.to),A,.p (.int .i64 y.n)]]])) (.sl (f+1) 4 0 ins.length) 4 [.p (.int .i64 y.op),.p (.int .i64 y.to),A,.p (.int .i64 y.n)] (.dead::((W2++[AO.row 4 [[.p (.int .i64 y.op),.p (.int .i64 y.to),A,.p (.int .i64 y.n)]]]).set f .dead++[.row 4 (rows++[[.p (.int .i64 y.op),.p (.int .i64 y.to),A,.p (.int .i64 y.n)]])])) (.sl (W2.length+1+1) 4 0 (ins.length+1)):= .inr ⟨f+1,rows,ins.length,rfl,by rw[List.getElem?_cons_succ,←hW2];exact hg2 _,hrl,by rw[hW2];simp,by rw[hW2];simp<;>omega⟩
     obtain⟨I',hI'⟩:=hX.ins1 hA hp
     refine⟨⟨by omega,by omega,by omega⟩,⟨i1-1,q2,_⟩,⟨by simp only;omega,by simp only;omega,by simp only;omega,_,_,⟨_,hI'⟩,by simp;omega,λz hz=>?_⟩,by simp only;omega,ab ?_ ?_⟩
     ·rcases List.mem_append.1 hz with h|h
      ·exact hia z h
      ·rw[List.mem_singleton.1 h];exact hy3
     ·simp only[List.length_cons,List.length_set,List.length_append];omega
     ·simp[below,hw1]
      omega
   ·refine⟨⟨0,q,W⟩,⟨hq1,by simp only;omega,N,ins,⟨I,hX⟩,by omega,hia⟩,ab ?_ ?_⟩
    ·simp;omega
    ·simp[below];omega
  ·rintro⟨_,q,W'⟩ ⟨hq1,hq2,N,ins,I,hX,hil,hia⟩
   simp only at hq1 hq2 hX⊢
   clear hB hub hpreR hCl hC
   have hXl:=hX.len
   have hXx:=hX.lt
   have hxg:=hX.xge
   have hcc:∀t,(W'++t)[R.length+3]?=some (.row 3 [[.p (.int .i64 pm),.p (.int .i64 rg),V]]):=λt=>by rw[List.getElem?_append_left (by omega)];have:=hX.c;rw[hW0l] at this;exact this
   have hcc0:=hcc []
   rw[List.append_nil] at hcc0
   obtain⟨n1,n2⟩:N.cells=[N]/\N.isCell=true:=by
    obtain⟨_,_,_,_,e1,_,_,H2⟩:=hX.own.one
    cases e1
    obtain⟨_,_,_,_,e1,_,hN,_⟩:=H2.one
    cases e1
    exact hN.cell
   simp-implicitDefEqProofs[hcc0]
   refine(aG G b hb hl q (by omega) rg W').mono ?_
   rintro r h ⟨o1,rfl,rfl,_⟩
   simp-implicitDefEqProofs[aa,hX.x]
   have hX1:=hX.jump 0 o1
   generalize hW3:W'.set xw (AO.row 5 [[AV.nils,N,.p (.int .i64 0),.p (.int .i64 o1),AV.nils]])=W3 at hX1
   have hl3:W3.length=W'.length:=by rw[←hW3];simp
   refine(ig G hb hl (by omega) [2,1,2,1,3] (by simp) (by simp) (by omega) rfl (by rw[List.getElem?_cons_succ,List.getElem?_append_right (by omega),hl3,Nat.sub_self];rfl)).mono ?_
   rintro r h ⟨j1,hj1,rfl,rfl⟩
   have hx3:∀t,(W3++t)[xw]?=some (.row 5 [[.nils,N,.p (.int .i64 0),.p (.int .i64 o1),.nils]]):=λt=>by rw[List.getElem?_append_left (by omega)];exact hX1.x
   simp-implicitDefEqProofs[aa,hx3]
   have hX2:=(hX1.more [AO.row 1 [[AV.p (.int .i64 2)],[AV.p (.int .i64 1)],[AV.p (.int .i64 2)],[AV.p (.int .i64 1)],[AV.p (.int .i64 3)]]]).jump j1 o1
   generalize hW4:(W3++[AO.row 1 [[AV.p (.int .i64 2)],[AV.p (.int .i64 1)],[AV.p (.int .i64 2)],[AV.p (.int .i64 1)],[AV.p (.int .i64 3)]]]).set xw (AO.row 5 [[AV.nils,N,.p (.int .i64 j1),.p (.int .i64 o1),AV.nils]])=W4 at hX2
   have hl4:W'.length<=W4.length:=by rw[←hW4];simp;omega
   clear hX1 hW3 hl3 hx3 hW4 hj1 hX hXl hXx hcc hcc0
   have hq3:p<=q+1+1:=by omega
   have hq4:q+1+1<=p+3+100*i+52:=by omega
   generalize q+1+1=q5 at hq3 hq4
   clear hq1 hq2 hl4
   have hXl:=hX2.len
   have hXx:=hX2.lt
   refine fR (λa:JmS=>aw 100 [(8,.ptr (xw+1) 5 0 0),(7,.p (.int .i64 i)),(6,.p (.int .i64 n)),(5,.ptr (R.length+3+1) 3 0 0),(4,.ptr (R.length+1+1) 3 0 0),(3,.ptr (R.length+1) 1 0 0),(0,.ptr 0 2 0 0)]) (λa=>rdO b a.q::a.W)
    (λa=>p<=a.q/\a.q<=p+3+100*i+53/\∃I,XI W0 a.W xw pm rg V N .nils a.j a.o bs ins [] I) ?_ ?_
   ·have keep:∀(qq:Nat) (l:List (Nat × AV)),p<=qq->qq<=p+3+100*i+53->True:=λ_ _ _ _=>trivial
    by_cases hn:(n:Int)=1
    ·simp-implicitDefEqProofs[hn,hX2.x]
     refine⟨⟨3,o1,q5,_⟩,⟨hq3,by simp only;omega,_,hX2.jump 3 o1⟩,ab ?_ ?_⟩
     ·simp;omega
     ·simp[below,hn]
      omega
    ·have hw:IntKind.i64.wrap ((n:Int)-1)=(n:Int)-1:=ae (by omega) (by omega)
     by_cases hin:(i:Int)=(n:Int)-1
     ·simp-implicitDefEqProofs[hn,hw,hin]
      refine(aG G b hb hl q5 (by omega) 3 _).mono ?_
      rintro r h ⟨k2,rfl,rfl,_⟩
      simp-implicitDefEqProofs[aa]
      refine aF (λhk=>?_) (λhk=>?_)
      ·simp-implicitDefEqProofs[hX2.x]
       refine⟨⟨3,o1,q5+1,_⟩,⟨by simp only;omega,by simp only;omega,_,hX2.jump 3 o1⟩,ab ?_ ?_⟩
       ·simp;omega
       ·simp[below,←hin];omega
      ·refine⟨⟨j1,o1,q5+1,_⟩,⟨by simp only;omega,by simp only;omega,_,hX2⟩,ab ?_ ?_⟩
       ·simp;omega
       ·simp[below,←hin];omega
     ·simp-implicitDefEqProofs[hn,hw,hin]
      refine⟨⟨j1,o1,q5,_⟩,⟨hq3,by simp only;omega,_,hX2⟩,ab ?_ ?_⟩
      ·simp;omega
      ·simp[below];omega
   clear hXl hXx hX2 hq3 hq4
   rintro⟨j2,o2,q,W'⟩ ⟨hq1,hq2,I,hX⟩
   simp only at hq1 hq2 hX⊢
   have hXl:=hX.len
   have hXx:=hX.lt
   refine fR (λa:JmS=>aw 100 [(8,.ptr (xw+1) 5 0 0),(7,.p (.int .i64 i)),(6,.p (.int .i64 n)),(5,.ptr (R.length+3+1) 3 0 0),(4,.ptr (R.length+1+1) 3 0 0),(3,.ptr (R.length+1) 1 0 0),(0,.ptr 0 2 0 0)]) (λa=>rdO b a.q::a.W)
    (λa=>p<=a.q/\a.q<=p+3+100*i+60/\∃X nx I,XI W0 a.W xw pm rg V N X a.j a.o bs ins nx I/\nx.length<=2) ?_ ?_
   ·simp-implicitDefEqProofs[hX.x]
    refine aF (λh1=>?_) (λh1=>?_)
    ·have h1:j2=1:=by simpa using h1
     subst h1
     simp-implicitDefEqProofs[hX.x]
     have hX1:=hX.jump 1 0
     generalize W'.set xw (AO.row 5 [[AV.nils,N,.p (.int .i64 1),.p (.int .i64 0),AV.nils]])=W5 at hX1
     refine(BA G hb hl (by omega) W5 i n (by omega) (by omega)).mono ?_
     rintro r h ⟨k,q2,rfl,rfl,g1,g2⟩
     have hx5:∀t,(W5++t)[xw]?=some (.row 5 [[.nils,N,.p (.int .i64 1),.p (.int .i64 0),.nils]]):=λt=>by rw[List.getElem?_append_left hX1.lt];exact hX1.x
     simp-implicitDefEqProofs[aa,hx5]
     have hX2:=hX1.next [k] 1 0
     refine⟨⟨1,0,q2,_⟩,⟨by simp only;omega,by simp only;omega,_,_,⟨_,hX2⟩,by simp⟩,ab ?_ ?_⟩
     ·have:=hX1.len;simp;omega
     ·have:=hX1.len;have:=hX1.lt;simp[below];omega
    ·have h1:¬j2=1:=by simpa using h1
     simp-implicitDefEqProofs[]
     refine aF (λh2=>?_) (λh2=>?_)
     ·have h2:j2=2:=by simpa using h2
      subst h2
      simp-implicitDefEqProofs[]
      refine(BA G hb hl (by omega) W' i n (by omega) (by omega)).mono ?_
      rintro r h ⟨k,q2,rfl,rfl,g1,g2⟩
      simp-implicitDefEqProofs[aa]
      refine(BA G hb hl (by omega) W' i n (by omega) (by omega)).mono ?_
      rintro r h ⟨k2,q3,rfl,rfl,g3,g4⟩
      have hx5:∀t,(W'++t)[xw]?=some (.row 5 [[.nils,N,.p (.int .i64 2),.p (.int .i64 o2),.nils]]):=λt=>by rw[List.getElem?_append_left hX.lt];exact hX.x
      simp-implicitDefEqProofs[aa,hx5]
      have hX2:=hX.next [k,k2] 2 o2
      refine⟨⟨2,o2,q3,_⟩,⟨by simp only;omega,by simp only;omega,_,_,⟨_,hX2⟩,by simp⟩,ab ?_ ?_⟩
      ·simp;omega
      ·simp[below];omega
     ·refine⟨⟨j2,o2,q,W'⟩,⟨hq1,by simp only;omega,_,_,⟨_,hX⟩,by simp⟩,ab ?_ ?_⟩
      ·simp;omega
      ·simp[below];omega
   clear hXl hXx hX hq1 hq2
   rintro⟨j3,o3,q,W'⟩ ⟨hq1,hq2,X,nx,I,hX,hnx⟩
   simp only at hq1 hq2 hX⊢
   have hXl:=hX.len
   have hXx:=hX.lt
   have hxg:=hX.xge
   have hcc:∀t,(W'++t)[R.length+3]?=some (.row 3 [[.p (.int .i64 pm),.p (.int .i64 rg),V]]):=λt=>by rw[List.getElem?_append_left (by omega)];have:=hX.c;rw[hW0l] at this;exact this
   have hcc0:=hcc []
   rw[List.append_nil] at hcc0
   obtain⟨⟨v1,v2⟩,⟨n1,n2⟩,⟨x1,x2⟩,hVr⟩:(V.cells=[V]/\V.isCell=true)/\(N.cells=[N]/\N.isCell=true)/\(X.cells=[X]/\X.isCell=true)/\((V= .nils/\bs=[])\/∃f rows,V= .sl (f+1) 5 0 bs.length/\f<W'.length/\W'[f]?=some (.row 5 rows)/\rows.length=bs.length/\f≠R.length+3):=by
    obtain⟨_,_,_,_,e1,_,hV,H2⟩:=hX.own.one
    cases e1
    obtain⟨_,_,_,_,e1,_,hN,H3⟩:=H2.one
    cases e1
    refine⟨hV.cell,hN.cell,H3.cell,?_⟩
    rcases hV.row with⟨h1,h2,_⟩|⟨id,rows,J,h1,h2,hr,_⟩
    ·exact .inl ⟨h1,List.map_eq_nil_iff.1 h2⟩
    ·subst h2
     have hge:=hV.ge id (by simp)
     obtain⟨f,rfl⟩:∃f,id=f+1:=⟨id-1,by omega⟩
     have hh:=hr.here
     rw[List.getElem?_cons_succ] at hh
     exact .inr ⟨f,rows,by rw[List.length_map] at h1;exact h1,(List.getElem?_eq_some_iff.1 hh).1,hh,by have:=hr.len;simpa using this,by omega⟩
   have hsb:SmB 0 ⟨[],ins,j3,o3,nx⟩:=⟨by simp,hil,hnx,hia,by simp⟩
   rcases hVr with⟨rfl,rfl⟩|⟨f,rows,rfl,hfl,hg,hrl,hfx⟩
   ·simp-implicitDefEqProofs[-AV.cells,-AV.isCell,aE,ag,ah,am,aj,aD,af,an,al,n1,n2,x1,x2,hcc0,hcc,hX.x]
    have hp:Psh (.dead::(W'++[.row 5 [[.nils,N,.p (.int .i64 j3),.p (.int .i64 o3),X]]])) .nils 5 [.nils,N,.p (.int .i64 j3),.p (.int .i64 o3),X] (.dead::(W'++[.row 5 [[.nils,N,.p (.int .i64 j3),.p (.int .i64 o3),X]],.row 5 [[.nils,N,.p (.int .i64 j3),.p (.int .i64 o3),X]]])) (.sl (W'.length+1+1) 5 0 1):= .inl ⟨rfl,by simp,by simp⟩
    obtain⟨I',hI'⟩:=hX.done hp
    rw[hW0l] at hI'
    refine⟨⟨i+1,q,_⟩,⟨by simp only;omega,by simp only;omega,by simp only;omega,_,_,⟨_,hI'⟩,by simp at hbl⊢;omega,λz hz=>?_⟩,by simp only;omega,ab ?_ ?_⟩
    ·simp at hz;subst hz;exact hsb
    ·simp;omega
    ·simp[below,hwi];omega
   ·have htk:List.take bs.length rows=rows:=List.take_of_length_le (by omega)
    have hg2:∀t,(W'++t)[f]?=some (.row 5 rows):=λt=>by rw[List.getElem?_append_left hfl];exact hg
    have hx3:∀t t',((W'++t).set f .dead++t')[R.length+3]?=some (.row 3 [[.p (.int .i64 pm),.p (.int .i64 rg),.sl (f+1) 5 0 bs.length]]):=λt t'=>by
     rw[List.getElem?_append_left (by simp;omega),List.getElem?_set_ne hfx];exact hcc t
    simp-implicitDefEqProofs[-AV.cells,-AV.isCell,aE,ag,ah,am,aj,aD,af,an,al,n1,n2,x1,x2,hcc0,hcc,hX.x,htk,hg2,hx3]
    have hp:Psh (.dead::(W'++[.row 5 [[.nils,N,.p (.int .i64 j3),.p (.int .i64 o3),X]]])) (.sl (f+1) 5 0 bs.length) 5 [.nils,N,.p (.int .i64 j3),.p (.int .i64 o3),X] (.dead::((W'++[AO.row 5 [[.nils,N,.p (.int .i64 j3),.p (.int .i64 o3),X]]]).set f .dead++[.row 5 (rows++[[.nils,N,.p (.int .i64 j3),.p (.int .i64 o3),X]])])) (.sl (W'.length+1+1) 5 0 (bs.length+1)):= .inr ⟨f+1,rows,bs.length,rfl,by rw[List.getElem?_cons_succ];exact hg2 _,hrl,by simp,by simp⟩
    obtain⟨I',hI'⟩:=hX.done hp
    rw[hW0l] at hI'
    refine⟨⟨by omega,by omega,by omega⟩,⟨i+1,q,_⟩,⟨by simp only;omega,by simp only;omega,by simp only;omega,_,_,⟨_,hI'⟩,by simp;omega,λz hz=>?_⟩,by simp only;omega,ab ?_ ?_⟩
    ·rcases List.mem_append.1 hz with h|h
     ·exact hbs z h
     ·rw[List.mem_singleton.1 h];exact hsb
    ·simp;omega
    ·simp[below,hwi];omega
 ·have hcc0:W[R.length+3]?=some (.row 3 [[.p (.int .i64 pm),.p (.int .i64 rg),V]]):=by have:=hC.c;rw[hW0l] at this;exact this
  have hr1:W[R.length+1]?=some (.row 3 [[.p (.int .i64 0),.p (.int .i64 0),.nils]]):=by rw[hC.pre _ (by omega),hW0,List.getElem?_append_right (by omega),show R.length+1-R.length=1 by omega];rfl
  have hs1:∀o,(W.set (R.length+1) o)[R.length+1]?=some o:=λo=>List.getElem?_set_self (by omega)
  obtain⟨v1,v2⟩:=hC.own.cell
  simp-implicitDefEqProofs[-AV.cells,-AV.isCell,aE,ag,ah,am,aj,aD,af,an,al,u1,u2,v1,v2,hcc0,hr1,hs1]
  have hie:i=n:=by simp at hc;omega
  refine⟨⟨pm,rg,bs⟩,V,⟨rfl,rfl,rfl⟩,I,q,⟨rfl,Dr (by simp;omega) λj hj=>?_⟩,?_,⟨hpm3.2,by simp only;omega,by simp only;omega,hbs⟩,hq1,by omega⟩
  ·rw[List.getElem?_set_ne (by omega)];exact hpreR j hj
  ·refine(hC.own.hd1 (o':=rdO b q) λj hj=>List.getElem?_set_ne λe=>?_).low λj hj=>?_
   ·have:=hC.own.ge _ hj;omega
   ·have:=hC.own.ge _ hj;omega
end
section
theorem fJ{α:Type}{l:List α}{i:Nat}{x:α}(h:l[i]?=some x)(hh:i<l.length):l[i]'hh=x:=(List.getElem?_eq_some_iff.1 h).2
section
variable {n:Nat} {H:List AO} {V:AV} {cs:List Cd} {I:List Nat}
theorem Own.cds(HV:Own n H [V] [cdL cs] I){k:Nat}{c:Cd}(hk:cs[k]?=some c):∃id rows B Ji,V= .sl id 3 0 cs.length/\H[id]?=some (.row 3 rows)/\rows.length=cs.length/\rows[k]?=some [.p (.int .i64 c.params),.p (.int .i64 c.regs),B]/\Own n H [B] [bkL c.blocks] Ji/\id∈I/\(∀j∈Ji,j∈I/\j≠id)/\
 ∀(h2:List AO) (r':List AV) (c':Cd) (I2:List Nat),h2[id]?=some (.row 3 (rows.set k r'))->(∀j∈I,j≠id->j∉Ji->h2[j]?=H[j]?)->Own n h2 r' c'.cs I2->(∀j∈I2,j∈Ji\/j∉I)->∃I',Own n h2 [V] [cdL (cs.set k c')] I'/\∀j∈I',j∈I\/j∈I2:=by
 rcases HV.row with⟨_,h2,_⟩|⟨id,rows,J,h1,h2,hr,_⟩
 ·rw[List.map_eq_nil_iff.1 h2] at hk;simp at hk
 ·rw[List.length_map] at h1
  subst h2
  have HV2:=HV
  rw[h1] at HV2
  have hD:(cs.map Cd.cs)[k]?=some c.cs:=by rw[List.getElem?_map,hk];rfl
  have hl:(cs.map Cd.cs).length=cs.length:=by simp
  obtain⟨r,Ji,g1,g2,g3,g4⟩:=Own.upd (D:=cs.map Cd.cs) (by rw[hl];exact HV2) hr hD
  obtain⟨B,rfl,hB⟩:=Dw g2
  have hnid:id∉J:=(List.nodup_cons.1 HV.nd).1
  refine⟨id,rows,B,Ji,h1,hr.here,by have:=hr.len;rwa[hl] at this,g1,hB,by simp,λj hj=>⟨List.mem_cons_of_mem _ (g3 j hj).1,(g3 j hj).2⟩,λh2 r' c' I2 k1 k2 k3 k4=>?_⟩
  obtain⟨J',q1,q2⟩:=g4 h2 r' c'.cs I2 k1 (λj hj hn=>k2 j (List.mem_cons_of_mem _ hj) (λe=>hnid (e▸hj)) hn) k3 (λj hj=>by
   rcases k4 j hj with h|h
   ·exact .inl h
   ·rw[List.mem_cons,not_or] at h;exact .inr h) rfl
  rw[hl,←List.map_set,←h1] at q1
  refine⟨id::J',q1,λj hj=>?_⟩
  rcases List.mem_cons.1 hj with rfl|hj
  ·exact .inl (by simp)
  ·rcases q2 j hj with h|h
   ·exact .inl (List.mem_cons_of_mem _ h)
   ·exact .inr h
theorem Own.bks{B:AV}{bs:List Bk}(HV:Own n H [B] [bkL bs] I){k:Nat}{b:Bk}(hk:bs[k]?=some b):∃id rows r Ji,B= .sl id 5 0 bs.length/\H[id]?=some (.row 5 rows)/\rows.length=bs.length/\rows[k]?=some r/\Own n H r b.cs Ji/\id∈I/\(∀j∈Ji,j∈I/\j≠id)/\
 ∀(h2:List AO) (r':List AV) (b':Bk) (I2:List Nat),h2[id]?=some (.row 5 (rows.set k r'))->(∀j∈I,j≠id->j∉Ji->h2[j]?=H[j]?)->Own n h2 r' b'.cs I2->(∀j∈I2,j∈Ji\/j∉I)->∃I',Own n h2 [B] [bkL (bs.set k b')] I'/\∀j∈I',j∈I\/j∈I2:=by
 rcases HV.row with⟨_,h2,_⟩|⟨id,rows,J,h1,h2,hr,_⟩
 ·rw[List.map_eq_nil_iff.1 h2] at hk;simp at hk
 ·rw[List.length_map] at h1
  subst h2
  have HV2:=HV
  rw[h1] at HV2
  have hD:(bs.map Bk.cs)[k]?=some b.cs:=by rw[List.getElem?_map,hk];rfl
  have hl:(bs.map Bk.cs).length=bs.length:=by simp
  obtain⟨r,Ji,g1,g2,g3,g4⟩:=Own.upd (D:=bs.map Bk.cs) (by rw[hl];exact HV2) hr hD
  have hnid:id∉J:=(List.nodup_cons.1 HV.nd).1
  refine⟨id,rows,r,Ji,h1,hr.here,by have:=hr.len;rwa[hl] at this,g1,g2,by simp,λj hj=>⟨List.mem_cons_of_mem _ (g3 j hj).1,(g3 j hj).2⟩,λh2 r' b' I2 k1 k2 k3 k4=>?_⟩
  obtain⟨J',q1,q2⟩:=g4 h2 r' b'.cs I2 k1 (λj hj hn=>k2 j (List.mem_cons_of_mem _ hj) (λe=>hnid (e▸hj)) hn) k3 (λj hj=>by
   rcases k4 j hj with h|h
   ·exact .inl h
   ·rw[List.mem_cons,not_or] at h;exact .inr h) rfl
  rw[hl,←List.map_set,←h1] at q1
  refine⟨id::J',q1,λj hj=>?_⟩
  rcases List.mem_cons.1 hj with rfl|hj
  ·exact .inl (by simp)
  ·rcases q2 j hj with h|h
   ·exact .inl (List.mem_cons_of_mem _ h)
   ·exact .inr h
theorem Own.blk(HV:Own n H [V] [cdL cs] I){k b:Nat}{c:Cd}{x:Bk}(hk:cs[k]?=some c)(hb:c.blocks[b]?=some x):∃id rows gid rows2 r Jb,V= .sl id 3 0 cs.length/\H[id]?=some (.row 3 rows)/\rows.length=cs.length/\rows[k]?=some [.p (.int .i64 c.params),.p (.int .i64 c.regs),.sl gid 5 0 c.blocks.length]/\
 H[gid]?=some (.row 5 rows2)/\rows2.length=c.blocks.length/\rows2[b]?=some r/\Own n H r x.cs Jb/\id∈I/\gid∈I/\gid≠id/\(∀j∈Jb,j∈I/\j≠id/\j≠gid)/\
 ∀(h2:List AO) (r':List AV) (x':Bk) (I2:List Nat),h2[gid]?=some (.row 5 (rows2.set b r'))->(∀j∈I,j≠gid->j∉Jb->h2[j]?=H[j]?)->Own n h2 r' x'.cs I2->(∀j∈I2,j∈Jb\/j∉I)->∃I',Own n h2 [V] [cdL (cs.set k ⟨c.params,c.regs,c.blocks.set b x'⟩)] I'/\∀j∈I',j∈I\/j∈I2:=by
 obtain⟨id,rows,B,Ji,a1,a2,a3,a4,a5,a6,a7,a8⟩:=HV.cds hk
 obtain⟨gid,rows2,r,Jb,b1,b2,b3,b4,b5,b6,b7,b8⟩:=a5.bks hb
 subst b1
 refine⟨id,rows,gid,rows2,r,Jb,a1,a2,a3,a4,b2,b3,b4,b5,a6,(a7 gid b6).1,(a7 gid b6).2,λj hj=>⟨(a7 j (b7 j hj).1).1,(a7 j (b7 j hj).1).2,(b7 j hj).2⟩,λh2 r' x' I2 k1 k2 k3 k4=>?_⟩
 obtain⟨I',c1,c2⟩:=b8 h2 r' x' I2 k1 (λj hj hn hm=>k2 j (a7 j hj).1 hn hm) k3 (λj hj=>(k4 j hj).imp (λh=>h) λh hm=>h (a7 j hm).1)
 have hidg:id≠gid:=λe=>(a7 gid b6).2 e.symm
 have hidb:id∉Jb:=λhm=>(a7 id (b7 id hm).1).2 rfl
 have hset:rows.set k [.p (.int .i64 c.params),.p (.int .i64 c.regs),.sl gid 5 0 c.blocks.length]=rows:=by
  obtain⟨hl,e⟩:=List.getElem?_eq_some_iff.1 a4
  rw[←e];exact List.set_getElem_self hl
 obtain⟨I'',d1,d2⟩:=a8 h2 [.p (.int .i64 c.params),.p (.int .i64 c.regs),.sl gid 5 0 c.blocks.length] ⟨c.params,c.regs,c.blocks.set b x'⟩ I' (by rw[hset,k2 id a6 hidg hidb];exact a2) (λj hj hn hm=>k2 j hj (λe=>hm (e▸b6)) λh=>hm (b7 j h).1) (so (c:=⟨c.params,c.regs,c.blocks.set b x'⟩) c1) (λj hj=>by
  rcases c2 j hj with h|h
  ·exact .inl h
  ·exact(k4 j h).imp (λh=>(b7 j h).1) (λh=>h))
 refine⟨I'',d1,λj hj=>?_⟩
 rcases d2 j hj with h|h
 ·exact .inl h
 ·rcases c2 j h with h|h
  ·exact .inl (a7 j h).1
  ·exact .inr h
theorem Own.cdsAt{o:AO}{W:List AO}(HV:Own (n+1) (o::W) [V] [cdL cs] I)(hs:∀c∈cs,c.params<=3)(hn:cs=[]->V= .nils):CdsAt W V cs:=by
 by_cases h0:cs=[]
 ·exact .inl ⟨hn h0,h0⟩
 ·obtain⟨c0,hc0⟩:∃c,cs[0]?=some c:=⟨_,List.getElem?_eq_getElem (List.length_pos_iff.2 h0)⟩
  obtain⟨id,rows,B,Ji,a1,a2,a3,a4,a5,a6,a7,a8⟩:=HV.cds hc0
  have:=HV.ge id a6
  obtain⟨f,rfl⟩:∃f,id=f+1:=⟨id-1,by omega⟩
  rw[List.getElem?_cons_succ] at a2
  refine .inr ⟨f,rows,h0,a1,a2,λk c hk=>?_⟩
  obtain⟨id2,rows2,B2,_,c1,c2,_,c4,_⟩:=HV.cds hk
  rw[a1] at c1
  cases c1
  rw[List.getElem?_cons_succ,a2] at c2
  cases c2
  exact⟨B2,c4,hs c (List.mem_of_getElem? hk)⟩
end
structure UI (m:Nat) (W:List AO) (V:AV) (cs:List Cd) (I:List Nat):Prop where
 len:2<=W.length
 res:W[0]?=some (.row 1 [[.nils]])
 u:W[1]?=some (.row 1 [[V]])
 own:Own 3 (.dead::W) [V] [cdL cs] I
 sm:∀c∈cs,SmCd m c
 nil:cs=[]->V= .nils
section
variable {m:Nat} {W W2:List AO} {V V':AV} {cs:List Cd} {I:List Nat}
theorem UI.fr(H:UI m W V cs I)(f:∀i,i<W.length->W2[i]?=W[i]?)(hl:W.length<=W2.length):UI m W2 V cs I:=
 ⟨by have:=H.len;omega,by rw[f 0 (by have:=H.len;omega)];exact H.res,by rw[f 1 (by have:=H.len;omega)];exact H.u,H.own.hd1 λi hi=>f i (by have:=H.own.lt _ hi;simpa using this),H.sm,H.nil⟩
theorem UI.more(H:UI m W V cs I)(os:List AO):UI m (W++os) V cs I:=H.fr (λi hi=>List.getElem?_append_left hi) (by simp)
theorem UI.push(H:UI m W V cs I){os:List AO}{c:Cd}{B:AV}{IB:List Nat}{h0:AO}(hB:Own (W.length+1) (h0::(W++os)) [B] [bkL c.blocks] IB)(hc:SmCd m c){lit:AO}{W3:List AO}
 (hp:Psh (.dead::(W++os++[lit])) V 3 [.p (.int .i64 c.params),.p (.int .i64 c.regs),B] (.dead::W3) V'):∃I',UI m (W3.set 1 (.row 1 [[V']])) V' (cs++[c]) I':=by
 have hl:=H.len
 have hlt:∀i∈I,i<W.length+1:=λi hi=>by have:=H.own.lt i hi;simpa using this
 have H2:=(H.more (os++[lit])).own
 rw[←List.append_assoc] at H2
 have hB1:Own 3 (.dead::(W++os++[lit])) [B] [bkL c.blocks] IB:=(hB.hd1 λi hi=>List.getElem?_append_left (by have:=hB.lt _ hi;simp at this⊢;omega)).low λi hi=>by have:=hB.ge i hi;omega
 obtain⟨I',n1,n2,n3,n4⟩:=H2.psh (so hB1) (λi hi hm=>by have:=hlt i hi;have:=hB.ge i hm;omega) rfl (by simp;omega) hp
 have hlen:(AO.dead::(W++os++[lit])).length=W.length+os.length+1+1:=by simp;omega
 rw[hlen] at n2 n3 n4
 have n4':W3.length=W.length+os.length+1+1:=by simpa using n4
 have hse:∀i,i<2->W3[i]?=W[i]?:=λi hi=>by
  have:=n3 (i+1) (by omega) λhm=>by have:=H.own.ge _ hm;omega
  rw[List.getElem?_cons_succ,List.getElem?_cons_succ,List.append_assoc,List.getElem?_append_left (by omega)] at this
  exact this
 refine⟨I',by simp;omega,by rw[List.getElem?_set_ne (by omega),hse 0 (by omega)];exact H.res,List.getElem?_set_self (by omega),?_,λx hx=>?_,λh=>by simp at h⟩
 ·have:cdL (cs++[c])= .lst 3 (cs.map Cd.cs++[c.cs]):=by rw[cdL,List.map_append];rfl
  rw[this]
  exact n1.hd1 λi hi=>List.getElem?_set_ne λe=>by have:=n1.ge _ hi;omega
 ·rcases List.mem_append.1 hx with h|h
  ·exact H.sm x h
  ·rw[List.mem_singleton.1 h];exact hc
theorem UI.at(H:UI m W V cs I):(V= .nils/\cs=[])\/∃f rows,V= .sl (f+1) 3 0 cs.length/\f<W.length/\2<=f/\W[f]?=some (.row 3 rows)/\rows.length=cs.length:=by
 by_cases h0:cs=[]
 ·exact .inl ⟨H.nil h0,h0⟩
 ·obtain⟨c0,hc0⟩:∃c,cs[0]?=some c:=⟨_,List.getElem?_eq_getElem (List.length_pos_iff.2 h0)⟩
  obtain⟨id,rows,B,Ji,a1,a2,a3,a4,a5,a6,a7,a8⟩:=H.own.cds hc0
  have:=H.own.ge id a6
  obtain⟨f,rfl⟩:∃f,id=f+1:=⟨id-1,by omega⟩
  rw[List.getElem?_cons_succ] at a2
  exact .inr ⟨f,rows,a1,(List.getElem?_eq_some_iff.1 a2).1,by omega,a2,a3⟩
end
theorem Psh.same{H H':List AO}{V V':AV}{sz:Nat}{r:List AV}(hp:Psh H V sz r H' V'){i:Nat}(hi:i<H.length)(hn:∀a b c,V≠ .sl i a b c):H'[i]?=H[i]?:=by
 rcases hp with⟨_,rfl,_⟩|⟨id,rows,m,rfl,_,_,rfl,_⟩
 ·exact List.getElem?_append_left hi
 ·rw[List.getElem?_append_left (by simpa using hi),List.getElem?_set_ne λe=>hn _ _ _ (by rw[e])]
theorem Psh.len{H H':List AO}{V V':AV}{sz:Nat}{r:List AV}(hp:Psh H V sz r H' V'):H'.length=H.length+1:=by
 rcases hp with⟨_,rfl,_⟩|⟨id,rows,m,rfl,_,_,rfl,_⟩<;>simp
theorem Own.psh2{n:Nat}{H H':List AO}{U V V':AV}{q:PV}{sz:Nat}{D:List (List PV)}{r:List AV}{e:List PV}{I IR:List Nat}(hV:Own n H [U,V] [q,.lst sz D] I)(hr:Own n H r e IR)(hd:∀j∈I,j∉IR)(he:e.length=sz)(hn:n<=H.length)(hp:Psh H V sz r H' V'):
 ∃I',Own n H' [U,V'] [q,.lst sz (D++[e])] I'/\(∀j∈I',j∈I\/j∈IR\/j=H.length):=by
 have hnd:=hV.nd
 have hlt:=hV.lt
 obtain⟨_,_,I1,I2,e1,rfl,h1,h2⟩:=hV.one
 cases e1
 rw[List.nodup_append] at hnd
 obtain⟨I2',n1,n2,n3,n4⟩:=h2.psh hr (λj hj=>hd j (by simp[hj])) he hn hp
 refine⟨I1++I2',(h1.frame λi hi=>n3 i (h1.lt i hi) λhm=>hnd.2.2 i hi i hm rfl).app n1 λj hj hm=>?_,λj hj=>?_⟩
 ·rcases n2 j hm with h|h|h
  ·exact hnd.2.2 j hj j h rfl
  ·exact hd j (by simp[hj]) h
  ·have:=h1.lt j hj;omega
 ·rcases List.mem_append.1 hj with h|h
  ·exact .inl (by simp[h])
  ·rcases n2 j h with h|h|h
   ·exact .inl (by simp[h])
   ·exact .inr (.inl h)
   ·exact .inr (.inr h)
structure PI (m:Nat) (W:List AO) (V A:AV) (cs:List Cd) (args:List Int) (to:Int) (pw:Nat) (I:List Nat):Prop where
 len:2<=W.length
 res:W[0]?=some (.row 1 [[.nils]])
 u:W[1]?=some (.row 1 [[V]])
 pge:2<=pw
 x:W[pw]?=some (.row 2 [[.p (.int .i64 to),A]])
 own:Own 3 (.dead::W) [V,A] [cdL cs,aC args] I
 xn:pw+1∉I
 sm:∀c∈cs,SmCd m c
 nil:cs=[]->V= .nils
section
variable {m pw:Nat} {W W2:List AO} {V V' A:AV} {cs:List Cd} {args:List Int} {to:Int} {I:List Nat}
theorem UI.phi(H:UI m W V cs I)(to:Int):PI m (W++[.row 2 [[.p (.int .i64 to),.nils]]]) V .nils cs [] to W.length I:=by
 have hl:=H.len
 have h2:=H.more [.row 2 [[.p (.int .i64 to),.nils]]]
 refine⟨h2.len,h2.res,h2.u,hl,by rw[List.getElem?_append_right (Nat.le_refl _)];simp,?_,λhm=>?_,H.sm,H.nil⟩
 ·have:=h2.own.app (Own.nil 3 _ 1) λ_ _ h=>by cases h
  rw[List.append_nil] at this
  exact this
 ·have:=H.own.lt _ hm
  simp at this
theorem PI.fr(H:PI m W V A cs args to pw I)(f:∀i,i<W.length->W2[i]?=W[i]?)(hl:W.length<=W2.length):PI m W2 V A cs args to pw I:=
 ⟨by have:=H.len;omega,by rw[f 0 (by have:=H.len;omega)];exact H.res,by rw[f 1 (by have:=H.len;omega)];exact H.u,H.pge,by rw[f _ (List.getElem?_eq_some_iff.1 H.x).1];exact H.x,H.own.hd1 λi hi=>f i (by have:=H.own.lt _ hi;simpa using this),H.xn,H.sm,H.nil⟩
theorem PI.lt(H:PI m W V A cs args to pw I):pw<W.length:=(List.getElem?_eq_some_iff.1 H.x).1
theorem AL(n:Nat)(H:List AO)(k:Int):Own n H [.p (.int .i64 k)] [.int .i64 k] []:=(Own.nix n H).putI k
theorem PI.arg(H:PI m W V A cs args to pw I){k:Int}{W3:List AO}{A':AV}(hp:Psh (.dead::W) A 1 [.p (.int .i64 k)] (.dead::W3) A'):∃I',PI m (W3.set pw (.row 2 [[.p (.int .i64 to),A']])) V A' cs (args++[k]) to pw I':=by
 have hl:=H.len
 have hpw:=H.lt
 have hge:=H.own.ge
 obtain⟨I',n1,n2⟩:=H.own.psh2 (AL 3 _ k) (λ_ _ h=>by cases h) rfl (by simp;omega) hp
 have hlen:=hp.len
 simp only[List.length_cons] at hlen n2
 have hAid:∀i a b c,A= .sl i a b c->i∈I:=λi a b c e=>by
  obtain⟨_,_,I1,I2,e1,rfl,h1,h2⟩:=H.own.one
  cases e1
  rcases h2.row with⟨h3,_⟩|⟨id,rows,J,h3,h4,_⟩
  ·rw[h3] at e;cases e
  ·rw[h3] at e;cases e
   rw[h4];simp
 have hse:∀i,i<2->W3[i]?=W[i]?:=λi hi=>by
  have:=hp.same (i:=i+1) (by simp;omega) λa b c e=>by have:=hge _ (hAid _ _ _ _ e);omega
  simpa using this
 have hpg:=H.pge
 have hpi:∀j∈I',j≠pw+1:=λj hj e=>by
  rcases n2 j hj with h|h|h
  ·exact H.xn (e▸h)
  ·cases h
  ·omega
 refine⟨I',by simp;omega,by rw[List.getElem?_set_ne (by omega),hse 0 (by omega)];exact H.res,by rw[List.getElem?_set_ne (by omega),hse 1 (by omega)];exact H.u,H.pge,List.getElem?_set_self (by omega),?_,λhm=>hpi _ hm rfl,H.sm,H.nil⟩
 have:aC (args++[k])= .lst 1 ((args.map λn=>[PV.int .i64 n])++[[.int .i64 k]]):=by rw[aC,List.map_append];rfl
 rw[this]
 exact n1.hd1 λi hi=>List.getElem?_set_ne λe=>hpi _ hi (by rw[e])
theorem SmCd.phi{c:Cd}(hc:SmCd m c){b:Nat}{x:Bk}(hb:c.blocks[b]?=some x){ph:Ph}(hp:ph.args.length<=7):SmCd (m+1) ⟨c.params,c.regs,c.blocks.set b {x with phis:=x.phis++[ph]}⟩:=by
 obtain⟨h1,h2,h3,h4⟩:=hc
 refine⟨h1,by simpa using h2,by simpa using h3,λy hy=>?_⟩
 rcases List.mem_or_eq_of_mem_set hy with h|rfl
 ·obtain⟨a1,a2,a3,a4,a5⟩:=h4 y h
  exact⟨by omega,a2,a3,a4,a5⟩
 ·obtain⟨a1,a2,a3,a4,a5⟩:=h4 x (List.mem_of_getElem? hb)
  refine⟨by simp;omega,a2,a3,a4,λz hz=>?_⟩
  rcases List.mem_append.1 hz with h|h
  ·exact a5 z h
  ·rw[List.mem_singleton.1 h];exact hp
theorem SmCd.up{c:Cd}(hc:SmCd m c):SmCd (m+1) c:=⟨hc.1,hc.2.1,hc.2.2.1,λy hy=>by obtain⟨a1,a2⟩:=hc.2.2.2 y hy;exact⟨by omega,a2⟩⟩
theorem UI.up(H:UI m W V cs I):UI (m+1) W V cs I:=⟨H.len,H.res,H.u,H.own,λc hc=>(H.sm c hc).up,H.nil⟩
theorem PI.drop(H:PI m W V A cs args to pw I):∃I',UI (m+1) W V cs I':=by
 obtain⟨_,_,I1,I2,e1,rfl,h1,h2⟩:=H.own.one
 cases e1
 exact⟨I1,H.len,H.res,H.u,h1,λc hc=>(H.sm c hc).up,H.nil⟩
theorem PI.put(H:PI m W V A cs args to pw I){k b:Nat}{c:Cd}{x:Bk}(hk:cs[k]?=some c)(hb:c.blocks[b]?=some x)(hal:args.length<=7):∃f rows g rows2 P N X,V= .sl (f+1) 3 0 cs.length/\W[f]?=some (.row 3 rows)/\rows.length=cs.length/\2<=f/\rows[k]?=some [.p (.int .i64 c.params),.p (.int .i64 c.regs),.sl (g+1) 5 0 c.blocks.length]/\
 W[g]?=some (.row 5 rows2)/\rows2.length=c.blocks.length/\2<=g/\g≠f/\rows2[b]?=some [P,N,.p (.int .i64 x.jump),.p (.int .i64 x.on),X]/\A.cells=[A]/\A.isCell=true/\((P= .nils/\x.phis=[])\/∃i rows,P= .sl (i+1) 2 0 x.phis.length/\W[i]?=some (.row 2 rows)/\rows.length=x.phis.length/\2<=i/\i≠f/\i≠g/\i≠pw)/\P.cells=[P]/\P.isCell=true/\
 ∀(W3:List AO) (P':AV),Psh (.dead::(W++[.row 2 [[.p (.int .i64 to),A]]])) P 2 [.p (.int .i64 to),A] (.dead::W3) P'->∃I',UI (m+1) (W3.set g (.row 5 (rows2.set b [P',N,.p (.int .i64 x.jump),.p (.int .i64 x.on),X]))) V (cs.set k ⟨c.params,c.regs,c.blocks.set b {x with phis:=x.phis++[⟨to,args⟩]}⟩) I':=by
 have hl:=H.len
 have hxn:=H.xn
 have hnd:=H.own.nd
 have hge:=H.own.ge
 obtain⟨_,_,I1,I2,e1,rfl,h1,h2⟩:=H.own.one
 cases e1
 obtain⟨id,rows,gid,rows2,r,Jb,q1,q2,q3,q4,q5,q6,q7,q8,q9,q10,q11,q12,q13⟩:=h1.blk hk hb
 have g1:=h1.ge id q9
 have g2:=h1.ge gid q10
 obtain⟨f,rfl⟩:∃f,id=f+1:=⟨id-1,by omega⟩
 obtain⟨g,rfl⟩:∃g,gid=g+1:=⟨gid-1,by omega⟩
 rw[List.getElem?_cons_succ] at q2 q5
 obtain⟨P,N,X,IP,IN,IX,rfl,rfl,hP,hN,hX⟩:=zd q8
 have hgl:=(List.getElem?_eq_some_iff.1 q5).1
 refine⟨f,rows,g,rows2,P,N,X,q1,q2,q3,by omega,q4,q5,q6,by omega,by omega,q7,h2.cell.1,h2.cell.2,?_,hP.cell.1,hP.cell.2,λW3 P' hp=>?_⟩
 ·rcases hP.row with⟨h3,h4,_⟩|⟨i,rows3,J,h3,h4,hr,_⟩
  ·exact .inl ⟨h3,List.map_eq_nil_iff.1 h4⟩
  ·have hi:=hP.ge i (by rw[h4];simp)
   have hi2:=q12 i (by rw[h4];simp)
   obtain⟨i,rfl⟩:∃i',i=i'+1:=⟨i-1,by omega⟩
   rw[List.length_map] at h3
   have hh:=hr.here
   rw[List.getElem?_cons_succ] at hh
   refine .inr ⟨i,rows3,h3,hh,by have:=hr.len;simpa using this,by omega,by omega,by omega,λe=>hxn ?_⟩
   rw[←e];exact List.mem_append_left _ hi2.1
 ·rw[List.nodup_append] at hnd
  have hfr:∀{vs:List AV} {qs:List PV} {J:List Nat},Own 3 (.dead::W) vs qs J->Own 3 (.dead::(W++[.row 2 [[.p (.int .i64 to),A]]])) vs qs J:=λh=>h.hd1 λi hi=>List.getElem?_append_left (by have:=h.lt _ hi;simpa using this)
  have hndb:=q8.nd
  simp only[List.nodup_append,List.mem_append] at hndb
  have hph:=yK (x:=⟨to,args⟩) (hfr h2)
  have hd:∀j∈IP,j∉I2:=λj hj hm=>hnd.2.2 j (q12 j (by simp[hj])).1 j hm rfl
  have hlen:=hp.len
  simp only[List.length_cons,List.length_append,List.length_nil] at hlen
  obtain⟨IP',n1,n2,n3,n4⟩:=(hfr hP).psh hph hd rfl (by simp;omega) hp
  simp only[List.length_cons,List.length_append,List.length_nil] at n2 n3
  have hsame:∀j,j+1∉IP->j<W.length->W3[j]?=W[j]?:=λj hj hjl=>by
   have:=n3 (j+1) (by omega) hj
   rw[List.getElem?_cons_succ,List.getElem?_cons_succ,List.getElem?_append_left hjl] at this
   exact this
  have hgP:g+1∉IP:=λhm=>(q12 _ (by simp[hm])).2.2 rfl
  have hnew:∀j∈IP',j∈IP\/j∈I2\/j=W.length+1+1:=λj hj=>by have:=n2 j hj;omega
  have hbk:Own 3 (.dead::W3.set g (.row 5 (rows2.set b [P',N,.p (.int .i64 x.jump),.p (.int .i64 x.on),X]))) [P',N,.p (.int .i64 x.jump),.p (.int .i64 x.on),X] ({x with phis:=x.phis++[⟨to,args⟩]}:Bk).cs (IP'++(IN++IX)):=by
   have hgt:∀j∈IN++IX,j+0∉IP:=λj hj hm=>hndb.2.2 j hm j (List.mem_append.1 hj) rfl
   refine sv (b:={x with phis:=x.phis++[⟨to,args⟩]}) ?_ (hN.hd1 λi hi=>?_) (hX.hd1 λi hi=>?_) (λj hj=>?_) λj hj hm=>hndb.2.1.2.2 j hj j hm rfl
   ·have:phL (x.phis++[⟨to,args⟩])= .lst 2 (x.phis.map Ph.cs++[(⟨to,args⟩:Ph).cs]):=by rw[phL,List.map_append];rfl
    show Own 3 _ [P'] [phL (x.phis++[⟨to,args⟩])] IP'
    rw[this]
    refine n1.hd1 λi hi=>List.getElem?_set_ne λe=>?_
    subst e
    rcases hnew _ hi with h|h|h
    ·exact hgP h
    ·exact hnd.2.2 _ q10 _ h rfl
    ·omega
   ·have hil:=hN.lt _ hi
    simp only[List.length_cons] at hil
    rw[List.getElem?_set_ne λe=>(q12 (i+1) (by simp[hi])).2.2 (by rw[e]),hsame i (hgt (i+1) (by simp[hi])) (by omega)]
   ·have hil:=hX.lt _ hi
    simp only[List.length_cons] at hil
    rw[List.getElem?_set_ne λe=>(q12 (i+1) (by simp[hi])).2.2 (by rw[e]),hsame i (hgt (i+1) (by simp[hi])) (by omega)]
   ·have key:j∈IN++IX->False:=λhm=>by
     have hm2:=q12 j (List.mem_append_right _ hm)
     rcases hnew j hj with h|h|h
     ·exact hgt j hm h
     ·exact hnd.2.2 _ hm2.1 _ h rfl
     ·have:=h1.lt j hm2.1
      simp only[List.length_cons] at this;omega
    exact⟨λh=>key (List.mem_append_left _ h),λh=>key (List.mem_append_right _ h)⟩
  obtain⟨I',d1,d2⟩:=q13 (.dead::W3.set g (.row 5 (rows2.set b [P',N,.p (.int .i64 x.jump),.p (.int .i64 x.on),X]))) [P',N,.p (.int .i64 x.jump),.p (.int .i64 x.on),X] {x with phis:=x.phis++[⟨to,args⟩]} (IP'++(IN++IX)) (by rw[List.getElem?_cons_succ];exact List.getElem?_set_self (by omega)) (λj hj hn hm=>by
   have h3:=h1.ge j hj
   have h4:=h1.lt j hj
   simp only[List.length_cons] at h4
   obtain⟨i,rfl⟩:∃i,j=i+1:=⟨j-1,by omega⟩
   rw[List.getElem?_cons_succ,List.getElem?_cons_succ,List.getElem?_set_ne (by omega),hsame i (λh=>hm (by simp[h])) (by omega)]) hbk (λj hj=>by
   rcases List.mem_append.1 hj with h|h
   ·rcases hnew j h with h|h|h
    ·exact .inl (by simp[h])
    ·exact .inr λhm=>hnd.2.2 _ hm _ h rfl
    ·exact .inr λhm=>by have:=h1.lt j hm;simp only[List.length_cons] at this;omega
   ·exact .inl (List.mem_append_right _ h))
  refine⟨I',by simp;omega,?_,?_,d1,λy hy=>?_,λh=>?_⟩
  ·rw[List.getElem?_set_ne (by omega),hsame 0 (λhm=>by have:=hP.ge _ hm;omega) (by omega)];exact H.res
  ·rw[List.getElem?_set_ne (by omega),hsame 1 (λhm=>by have:=hP.ge _ hm;omega) (by omega)];exact H.u
  ·rcases List.mem_or_eq_of_mem_set hy with h|rfl
   ·exact(H.sm y h).up
   ·exact(H.sm c (List.mem_of_getElem? hk)).phi hb hal
  ·have:=congrArg List.length h
   simp at this
   subst this
   simp at hk
end
end
section
theorem uH:AK.whole ji=FK.ak jt:=rfl
variable (G:az)
theorem UI.le{m m':Nat}{W:List AO}{V:AV}{cs:List Cd}{I:List Nat}(H:UI m W V cs I)(h:m<=m'):UI m' W V cs I:=
 ⟨H.len,H.res,H.u,H.own,λc hc=>⟨(H.sm c hc).1,(H.sm c hc).2.1,(H.sm c hc).2.2.1,λy hy=>by obtain⟨a1,a2⟩:=(H.sm c hc).2.2.2 y hy;exact⟨by omega,a2⟩⟩,H.nil⟩
structure PiS where (q:Nat) (W:List AO) (A:AV) (args:List Int)
theorem Fm{f:FuncId}{args:List AV}{l:List Int}(H:AC Tryz.prog G f args [] λr h=>∃id,r= .ret (.sl id 1 0 l.length)/\h[id]?=some (.row 1 (au l))):AC Tryz.prog G f args [] λr h=>r= .ret (.sl 0 1 0 l.length)/\h=[.row 1 (au l)]:=
 H.gc (λt v h ⟨_,e,_⟩=>by cases e) λv h ⟨id,e1,e2⟩=>by
  cases e1
  refine⟨.sl 0 1 0 l.length,[.row 1 (au l)],⟨[id],by simp,λi hi=>by simp at hi,by simp,by simp[below],by simp[ren],dx e2 (λx hx=>by obtain⟨n,_,rfl⟩:=List.mem_map.1 hx;simp[below]) jb⟩,rfl,rfl⟩
theorem FF(n:Nat)(l:List Int):cL n (.row 1 (au l))= .row 1 (au l):=by simp[cL,au,cK,bz]
structure UnS2 where (i:Int) (q:Nat) (W:List AO)
def SmU(cs:List Cd):Prop:=cs≠[]/\cs.length<=3/\∀c∈cs,SmCd 3 c
theorem Bj{b:List Int}(hb:Byt b)(hl:b.length<=2000){p:Nat}(hp:p<=800000000000):AC Tryz.prog G dD [.ptr 0 2 0 0] [rdO b p] λx h=>∃v q,x= .ret v/\h=[rdO b q]/\(∃cs,v= .agg [.p (cdL cs)]/\SmU cs)/\p<=q/\q<=p+4000:=by
 refine gi G (AC.goK uC uH ?_)
 simp-implicitDefEqProofs[ji,jt]
 refine fR (λa:UnS2=>aw 95 [(3,.ptr 2 1 0 0),(2,.ptr 1 1 0 0),(0,.ptr 0 2 0 0)]) (λa=>rdO b a.q::a.W) (λa=>p<=a.q/\a.q<=p+3100/\∃V cs I,UI 0 a.W V cs I/\cs≠[]/\cs.length<=3) ?_ ?_
 ·simp-implicitDefEqProofs[]
  refine(tJ G hb hl (by omega) (R:=[.row 1 [[.nils]],.row 1 [[.nils]]]) [1,2,1,3] 0 (by simp) rfl (by simp) (by simp)).mono ?_
  rintro r h ⟨i0,hi0,rfl,rfl⟩
  have hi0:1<=i0/\i0<=3:=by simp at hi0;omega
  simp-implicitDefEqProofs[aa]
  refine aH (λa:UnS2=>aw 95 [(4,.p (.int .i64 a.i)),(3,.ptr 2 1 0 0),(2,.ptr 1 1 0 0),(0,.ptr 0 2 0 0)]) (λa=>rdO b a.q::a.W)
   (λa=>0<=a.i/\p<=a.q/\a.q+1000*a.i.toNat<=p+3001/\∃V cs I,UI 0 a.W V cs I/\(cs.length:Int)+a.i=i0) (λa=>a.i.toNat) ⟨i0,p+1,_⟩ ⟨by simp only;omega,by simp only;omega,by simp only;omega,.nils,[],[],⟨?_,?_,?_,Own.nil _ _ 3,λc hc=>(by cases hc),λ_=>rfl⟩,by simp⟩ (ab ?_ ?_) ?_
  rotate_left 3
  ·simp
  ·simp[below]
  rotate_left 1
  ·simp
  ·rfl
  ·rfl
  rintro⟨i,q,W⟩ ⟨hi,hq1,hq2,V,cs,I,hU,hlen⟩
  simp only at hi hq1 hq2 hU hlen⊢
  have hWl:=hU.len
  have hu1:∀t,(W++t)[1]?=some (.row 1 [[V]]):=λt=>by rw[List.getElem?_append_left (by omega)];exact hU.u
  obtain⟨v1,v2⟩:=hU.own.cell
  simp-implicitDefEqProofs[]
  refine aF (λhc=>?_) (λhc=>?_)
  ·have hc:0<i:=by simpa using hc
   have hw1:IntKind.i64.wrap (i-1)=i-1:=ae (by omega) (by omega)
   simp-implicitDefEqProofs[-AV.cells,-AV.isCell,aE,ag,ah,am,aj,aD,af,an,al,v1,v2,hU.u]
   refine(FB G hb hl (by omega) W V cs (hU.own.cdsAt (λc hc=>(hU.sm c hc).1) hU.nil)).mono ?_
   rintro r h ⟨c,B,IB,q2,os,rfl,rfl,hB,hcs,g1,g2⟩
   obtain⟨b1,b2⟩:=hB.cell
   obtain⟨W2,hW2⟩:∃W2,W2=W++os:=⟨_,rfl⟩
   have hu2:∀t,(W2++t)[1]?=some (.row 1 [[V]]):=λt=>by rw[hW2,List.append_assoc];exact hu1 _
   have hu20:=hu2 []
   rw[List.append_nil] at hu20
   have hu2e:=λt hh=>fJ (hu2 t) hh
   rw[←hW2]
   rcases hU.at with⟨rfl,rfl⟩|⟨f,rows,rfl,hfl,hf2,hg,hrl⟩
   ·simp-implicitDefEqProofs[-AV.cells,-AV.isCell,aE,ag,ah,am,aj,aD,af,an,al,v1,v2,b1,b2,aa,hu2,hu20,hu2e]
    have hp:Psh (.dead::(W++os++[.row 3 [[.p (.int .i64 c.params),.p (.int .i64 c.regs),B]]])) .nils 3 [.p (.int .i64 c.params),.p (.int .i64 c.regs),B] (.dead::(W2++[.row 3 [[.p (.int .i64 c.params),.p (.int .i64 c.regs),B]],.row 3 [[.p (.int .i64 c.params),.p (.int .i64 c.regs),B]]])) (.sl (W2.length+1+1) 3 0 1):= .inl ⟨rfl,by rw[hW2];simp,by rw[hW2];simp<;>omega⟩
    obtain⟨I',hI'⟩:=hU.push hB hcs hp
    refine⟨⟨i-1,q2,_⟩,⟨by simp only;omega,by simp only;omega,by simp only;omega,_,_,⟨_,hI'⟩,by simp at hlen⊢;omega⟩,by simp only;omega,ab ?_ ?_⟩
    ·simp
    ·simp[below,hw1]
     try omega
   ·have hg2:∀t,(W2++t)[f]?=some (.row 3 rows):=λt=>by rw[hW2,List.append_assoc,List.getElem?_append_left hfl];exact hg
    have htk:List.take cs.length rows=rows:=List.take_of_length_le (by omega)
    have hu3:∀t t',((W2++t).set f .dead++t')[1]?=some (.row 1 [[.sl (f+1) 3 0 cs.length]]):=λt t'=>by
     rw[List.getElem?_append_left (by rw[hW2];simp;omega),List.getElem?_set_ne (by omega)];exact hu2 t
    have hu3e:=λt t' hh=>fJ (hu3 t t') hh
    simp-implicitDefEqProofs[-AV.cells,-AV.isCell,aE,ag,ah,am,aj,aD,af,an,al,v1,v2,b1,b2,aa,hu2,hu20,hg2,htk,hu3,hu2e,hu3e]
    have hp:Psh (.dead::(W++os++[.row 3 [[.p (.int .i64 c.params),.p (.int .i64 c.regs),B]]])) (.sl (f+1) 3 0 cs.length) 3 [.p (.int .i64 c.params),.p (.int .i64 c.regs),B] (.dead::((W2++[AO.row 3 [[.p (.int .i64 c.params),.p (.int .i64 c.regs),B]]]).set f .dead++[.row 3 (rows++[[.p (.int .i64 c.params),.p (.int .i64 c.regs),B]])])) (.sl (W2.length+1+1) 3 0 (cs.length+1)):= .inr ⟨f+1,rows,cs.length,rfl,by rw[List.getElem?_cons_succ,←hW2];exact hg2 _,hrl,by rw[hW2];simp,by rw[hW2];simp<;>omega⟩
    obtain⟨I',hI'⟩:=hU.push hB hcs hp
    refine⟨⟨by omega,by omega,by omega⟩,⟨i-1,q2,_⟩,⟨by simp only;omega,by simp only;omega,by simp only;omega,_,_,⟨_,hI'⟩,by simp at hlen⊢;omega⟩,by simp only;omega,ab ?_ ?_⟩
    ·simp
    ·simp[below,hw1]
     try omega
  ·have hc:i<=0:=by simpa using hc
   refine⟨⟨0,q,W⟩,⟨hq1,by simp only;omega,V,cs,⟨I,hU⟩,λh=>by rw[h] at hlen;simp at hlen;omega,by omega⟩,ab ?_ ?_⟩
   ·simp
   ·simp[below]
    try omega
 rintro⟨_,q,W⟩ ⟨hq1,hq2,V,cs,I,hU,h0,hlen⟩
 simp only at hq1 hq2 hU⊢
 simp-implicitDefEqProofs[]
 have hWl:=hU.len
 refine(ig G hb hl (by omega) [0,0,1,3] (by simp) (by simp) (by omega) rfl (by rw[List.getElem?_cons_succ,List.getElem?_append_right (by omega),Nat.sub_self];rfl)).mono ?_
 rintro r h ⟨i0,hi0,rfl,rfl⟩
 have hi0:0<=i0/\i0<=3:=by simp at hi0;omega
 simp-implicitDefEqProofs[aa]
 refine aH (λa:UnS2=>aw 95 [(5,.p (.int .i64 a.i)),(3,.ptr 2 1 0 0),(2,.ptr 1 1 0 0),(0,.ptr 0 2 0 0)]) (λa=>rdO b a.q::a.W)
  (λa=>0<=a.i/\a.i<=3/\p<=a.q/\a.q+20*a.i.toNat<=p+3200/\∃V cs I,UI (3-a.i.toNat) a.W V cs I/\cs≠[]/\cs.length<=3) (λa=>a.i.toNat) ⟨i0,q+1,_⟩ ⟨hi0.1,hi0.2,by simp only;omega,by simp only;omega,V,cs,I,(hU.more _).le (Nat.zero_le _),h0,hlen⟩ (ab (by simp) (by simp[below];omega)) ?_
 clear hU h0 hlen hWl hq1 hq2 q W V cs I
 rintro⟨j,q,W⟩ ⟨hj0,hj3,hq1,hq2,V,cs,I,hU,h0,hlen⟩
 simp only at hj0 hj3 hq1 hq2 hU⊢
 have hWl:=hU.len
 simp-implicitDefEqProofs[]
 refine aF (λhc=>?_) (λhc=>?_)
 ·have hc:0<j:=by simpa using hc
  have hw1:IntKind.i64.wrap (j-1)=j-1:=ae (by omega) (by omega)
  rcases hU.at with⟨rfl,rfl⟩|⟨f,rows,rfl,hfl,hf2,hg,hrl⟩
  ·exact absurd rfl h0
  simp-implicitDefEqProofs[hU.u]
  refine(aG G b hb hl q (by omega) _ W).mono ?_
  rintro r h ⟨k,rfl,rfl,hk⟩
  have hkl:k<cs.length:=by
   have:=List.length_pos_iff.2 h0
   omega
  have hgk:=List.getElem?_eq_getElem hkl
  generalize cs[k]=c at hgk
  have hsc:=hU.sm c (List.mem_of_getElem? hgk)
  have hb1:=hsc.2.1
  simp-implicitDefEqProofs[aa,hU.u,hkl]
  obtain⟨g,rows2,hrk,hgg,hgl,hg2,hr2l⟩:∃g rows2,rows[k]?=some [.p (.int .i64 c.params),.p (.int .i64 c.regs),.sl (g+1) 5 0 c.blocks.length]/\W[g]?=some (.row 5 rows2)/\g<W.length/\2<=g/\rows2.length=c.blocks.length:=by
   obtain⟨x0,hx0⟩:∃x,c.blocks[0]?=some x:=⟨_,List.getElem?_eq_getElem (by omega)⟩
   obtain⟨id,rows',gid,rows2,r,Jb,q1,q2,q3,q4,q5,q6,q7,q8,q9,q10,q11,q12,q13⟩:=hU.own.blk hgk hx0
   cases q1
   rw[List.getElem?_cons_succ,hg] at q2
   cases q2
   have:=hU.own.ge gid q10
   obtain⟨g,rfl⟩:∃g,gid=g+1:=⟨gid-1,by omega⟩
   rw[List.getElem?_cons_succ] at q5
   exact⟨g,rows2,q4,q5,(List.getElem?_eq_some_iff.1 q5).1,by omega,q6⟩
  simp-implicitDefEqProofs[hg,hrk]
  refine(aG G b hb hl (q+1) (by omega) _ W).mono ?_
  rintro r h ⟨bI,rfl,rfl,hbI⟩
  have hbl:bI<c.blocks.length:=by omega
  have hgb:=List.getElem?_eq_getElem hbl
  generalize c.blocks[bI]=x at hgb
  simp-implicitDefEqProofs[aa,hg,hrk]
  refine(aG G b hb hl (q+1+1) (by omega) _ W).mono ?_
  rintro r h ⟨to,rfl,rfl,_⟩
  simp-implicitDefEqProofs[aa]
  have hP:=hU.phi (to:Int)
  obtain⟨pw,hpw⟩:∃pw,pw=W.length:=⟨_,rfl⟩
  rw[←hpw] at hP
  have hfe:W[f]?=some (.row 3 rows):=hg
  refine fR (λa:PiS=>aw 95 [(8,.ptr (pw+1) 2 0 0),(7,.p (.int .i64 bI)),(6,.ptr (f+1) 3 k 0),(5,.p (.int .i64 j)),(3,.ptr 2 1 0 0),(2,.ptr 1 1 0 0),(0,.ptr 0 2 0 0)]) (λa=>rdO b a.q::a.W)
   (λa=>q+3<=a.q/\a.q<=q+12/\a.args.length<=7/\∃I,PI (3-j.toNat) a.W (.sl (f+1) 3 0 cs.length) a.A cs a.args to pw I) ?_ ?_
  ·have hfm:∀t,(W++t)[f]?=some (.row 3 rows):=λt=>by rw[List.getElem?_append_left hfl];exact hg
   simp-implicitDefEqProofs[hfm,hrk]
   have hcb:c.blocks.length<=1073741824/\∀x∈c.blocks,x.next.length<=1073741824:=⟨by have:=hsc.2.2.1;omega,λx hx=>by have:=(hsc.2.2.2 x hx).2.2.1;omega⟩
   have hpr:=Fm G (tO G c bI hcb.1 hcb.2)
   have hpl:=eU c.blocks (bI:Int)
   have hb7:=hsc.2.2.1
   generalize hpq:aI c.blocks (bI:Int)=pr at hpr hpl
   have hview:View (rdO b (q+1+1+1)::(W++[AO.row 2 [[AV.p (.int .i64 to),.nils]]])) (.sl (g+1) 5 0 c.blocks.length) (bkL c.blocks):=by
    obtain⟨x0,hx0⟩:∃x,c.blocks[0]?=some x:=⟨_,List.getElem?_eq_getElem (by omega)⟩
    obtain⟨_,_,I1,I2,e1,rfl,h1,h2⟩:=hP.own.one
    cases e1
    obtain⟨id,rows',B,Ji,q1,q2,q3,q4,q5,q6,q7,q8⟩:=h1.cds hgk
    cases q1
    rw[List.getElem?_cons_succ,hfm] at q2
    cases q2
    rw[hrk] at q4
    cases q4
    exact(q5.hd1 (o':=rdO b (q+1+1+1)) λi hi=>rfl).view
   refine(AC.lend hpr (h:=rdO b (q+1+1+1)::(W++[AO.row 2 [[AV.p (.int .i64 to),.nils]]])) (args:=[.agg [.p (.int .i64 c.params),.p (.int .i64 c.regs),.sl (g+1) 5 0 c.blocks.length],.p (.int .i64 bI)]) (.agg (.keep (by simp[below]) (.keep (by simp[below]) (.one hview .nil))) (.keep (by simp[below]) .nil)) rfl (by simp[cleanO,au,dQ,clean])).mono ?_
   rintro r h ⟨rfl,rfl⟩
   simp-implicitDefEqProofs[aa,bz,FF]
   refine aH (λa:PiS=>aw 95 [(60,.p (.int .i64 a.args.length)),(59,.p (.int .i64 pr.length)),(8,.ptr (pw+1) 2 0 0),(7,.p (.int .i64 bI)),(6,.ptr (f+1) 3 k 0),(5,.p (.int .i64 j)),(3,.ptr 2 1 0 0),(2,.ptr 1 1 0 0),(0,.ptr 0 2 0 0)]) (λa=>rdO b a.q::a.W)
    (λa=>q+3<=a.q/\a.q<=q+3+a.args.length/\a.args.length<=pr.length/\(∃I,PI (3-j.toNat) a.W (.sl (f+1) 3 0 cs.length) a.A cs a.args to pw I)/\a.W[f]?=some (.row 3 rows)) (λa=>pr.length-a.args.length) ⟨q+1+1+1,W++[AO.row 2 [[AV.p (.int .i64 to),.nils]],.row 1 (au pr)],.nils,[]⟩ ⟨by simp only;omega,by simp only;omega,Nat.zero_le _,⟨I,?_⟩,hfm _⟩ (ab ?_ ?_) ?_
   ·have:=hP.fr (W2:=W++[AO.row 2 [[AV.p (.int .i64 to),.nils]],.row 1 (au pr)]) (λi hi=>by
     have e:W++[AO.row 2 [[AV.p (.int .i64 to),.nils]],.row 1 (au pr)]=(W++[AO.row 2 [[AV.p (.int .i64 to),.nils]]])++[.row 1 (au pr)]:=by simp
     rw[e,List.getElem?_append_left hi]) (by simp)
    exact this
   ·simp
   ·simp[below];omega
   clear hP hview hpr hfm
   rintro⟨q3,W3,A,args⟩ ⟨g1,g2,g3,⟨I3,hP⟩,hf3⟩
   simp only at g1 g2 g3 hP hf3⊢
   have hpl3:=hP.lt
   obtain⟨a1,a2⟩:A.cells=[A]/\A.isCell=true:=by
    obtain⟨_,_,_,_,e1,_,_,h2⟩:=hP.own.one
    cases e1
    exact h2.cell
   simp-implicitDefEqProofs[]
   refine aF (λhc3=>?_) (λhc3=>?_)
   ·have hc3:args.length<pr.length:=by simpa using hc3
    have hw3:=w1 (i:=args.length) (by omega)
    simp-implicitDefEqProofs[-AV.cells,-AV.isCell,aE,ag,ah,am,aj,aD,af,an,al,a1,a2,hP.x,hf3,hrk]
    refine(aG G b hb hl q3 (by omega) _ W3).mono ?_
    rintro r h ⟨k4,rfl,rfl,_⟩
    have hA:(A= .nils/\args=[])\/∃i,A= .sl (i+1) 1 0 args.length/\W3[i]?=some (.row 1 (args.map λn=>[AV.p (.int .i64 n)]))/\i<W3.length/\i≠pw/\i≠f:=by
     have hxn:=hP.xn
     have hnd:=hP.own.nd
     obtain⟨_,_,I1,I2,e1,rfl,h1,h2⟩:=hP.own.one
     cases e1
     rw[List.nodup_append] at hnd
     rcases h2.row with⟨e1,e2,_⟩|⟨id,rows',J,e1,e2,hr',_⟩
     ·exact .inl ⟨e1,List.map_eq_nil_iff.1 e2⟩
     ·rw[List.length_map] at e1
      subst e1
      obtain⟨_,e3,e4,e5⟩:=oX h2
      subst e3
      obtain⟨i,rfl⟩:∃i,id=i+1:=⟨id-1,by omega⟩
      rw[List.getElem?_cons_succ] at e5
      obtain⟨id3,_,_,_,q1,_,_,_,_,q6,_⟩:=h1.cds hgk
      cases q1
      refine .inr ⟨i,rfl,e5,(List.getElem?_eq_some_iff.1 e5).1,λe=>hxn ?_,λe=>hnd.2.2 _ q6 (i+1) (by simp) (by rw[e])⟩
      rw[←e];simp
    rcases hA with⟨rfl,rfl⟩|⟨i,rfl,hgi,hil,hip,hif⟩
    ·have hx:∀t,(W3++t)[pw]?=some (.row 2 [[.p (.int .i64 to),.nils]]):=λt=>by rw[List.getElem?_append_left hpl3];exact hP.x
     have hp:Psh (.dead::W3) .nils 1 [.p (.int .i64 k4)] (.dead::(W3++[.row 1 [[.p (.int .i64 k4)]]])) (.sl (W3.length+1) 1 0 1):= .inl ⟨rfl,rfl,rfl⟩
     obtain⟨I',hI'⟩:=hP.arg hp
     simp-implicitDefEqProofs[aa,hP.x,hx]
     have hw11:IntKind.i64.wrap 1=1:=ae (by omega) (by omega)
     simp only[List.length_nil] at g2 hc3
     refine⟨⟨q3+1,_,_,[(k4:Int)]⟩,⟨by simp only;omega,by simp only[List.length_cons,List.length_nil];omega,hc3,⟨_,hI'⟩,?_⟩,by simp only[List.length_cons,List.length_nil];omega,ab ?_ ?_⟩
     ·rw[List.getElem?_set_ne (by omega),List.getElem?_append_left (by omega)];exact hf3
     ·simp
     ·simp[below,hw11]
      omega
    ·have hx:∀t,(W3.set i .dead++t)[pw]?=some (.row 2 [[.p (.int .i64 to),.sl (i+1) 1 0 args.length]]):=λt=>by rw[List.getElem?_append_left (by simpa using hpl3),List.getElem?_set_ne hip];exact hP.x
     have htk:List.take args.length (args.map λn=>[AV.p (.int .i64 n)])=args.map λn=>[AV.p (.int .i64 n)]:=List.take_of_length_le (by simp)
     have hp:Psh (.dead::W3) (.sl (i+1) 1 0 args.length) 1 [.p (.int .i64 k4)] (.dead::(W3.set i .dead++[.row 1 ((args.map λn=>[AV.p (.int .i64 n)])++[[.p (.int .i64 k4)]])])) (.sl (W3.length+1) 1 0 (args.length+1)):= .inr ⟨i+1,_,_,rfl,by rw[List.getElem?_cons_succ];exact hgi,by simp,by simp,by simp⟩
     obtain⟨I',hI'⟩:=hP.arg hp
     simp-implicitDefEqProofs[aa,hP.x,hgi,hx,htk]
     refine⟨⟨by omega,by omega⟩,⟨q3+1,_,_,args++[(k4:Int)]⟩,⟨by simp only;omega,by simp only[List.length_append,List.length_cons,List.length_nil];omega,by simp only[List.length_append,List.length_cons,List.length_nil];omega,⟨_,hI'⟩,?_⟩,by simp only[List.length_append,List.length_cons,List.length_nil];omega,ab ?_ ?_⟩
     ·rw[List.getElem?_set_ne (by omega),List.getElem?_append_left (by simp;omega),List.getElem?_set_ne hif];exact hf3
     ·simp
     ·simp[below,hw3]
      omega
   ·refine⟨⟨q3,W3,A,args⟩,⟨g1,by simp only;omega,by simp only;omega,I3,hP⟩,ab ?_ ?_⟩
    ·simp
    ·simp[below];omega
  ·clear hP
   rintro⟨q3,W3,A,args⟩ ⟨g1,g2,g3,I3,hP⟩
   simp only at g1 g2 g3 hP⊢
   have hxp:=(hsc.2.2.2 x (List.mem_of_getElem? hgb)).1
   obtain⟨f',rows',g',rows2',P,N,X,e1,e2,e3,e4,e5,e6,e7,e8,e9,e10,a1,a2,e11,p1,p2,e12⟩:=hP.put hgk hgb g3
   cases e1
   have hgl:=(List.getElem?_eq_some_iff.1 e6).1
   have hfl:=(List.getElem?_eq_some_iff.1 e2).1
   have hpl3:=hP.lt
   have hpg:=hP.pge
   simp-implicitDefEqProofs[]
   refine aF (λhb0=>?_) (λhb0=>?_)
   ·have m1:∀t,(W3++t)[f]?=some (.row 3 rows'):=λt=>by rw[List.getElem?_append_left hfl];exact e2
    have m2:∀t,(W3++t)[g']?=some (.row 5 rows2'):=λt=>by rw[List.getElem?_append_left hgl];exact e6
    rcases e11 with⟨rfl,h0p⟩|⟨i,rows3,rfl,e13,e14,e15,e16,e17,e18⟩
    ·have hp:Psh (.dead::(W3++[.row 2 [[.p (.int .i64 to),A]]])) .nils 2 [.p (.int .i64 to),A] (.dead::(W3++[.row 2 [[.p (.int .i64 to),A]],.row 2 [[.p (.int .i64 to),A]]])) (.sl (W3.length+1+1) 2 0 1):= .inl ⟨rfl,by simp,by simp⟩
     obtain⟨I',hI'⟩:=e12 _ _ hp
     simp-implicitDefEqProofs[-AV.cells,-AV.isCell,aE,ag,ah,am,aj,aD,af,an,al,a1,a2,e2,e5,e6,e10,hbl,m1,m2,hP.x]
     have hm1:3-(j-1).toNat=3-j.toNat+1:=by omega
     refine⟨⟨j-1,q3,_⟩,⟨by simp only;omega,by simp only;omega,by simp only;omega,by simp only;omega,_,_,⟨_,by rw[←hm1] at hI';exact hI'⟩,?_,by simpa using hlen⟩,by simp only;omega,ab ?_ ?_⟩
     ·intro h
      have:=congrArg List.length h
      simp at this
      exact h0 this
     ·simp
     ·simp[below,hw1]
      try omega
    ·have hil:=(List.getElem?_eq_some_iff.1 e13).1
     have m3:∀t,(W3++t)[i]?=some (.row 2 rows3):=λt=>by rw[List.getElem?_append_left hil];exact e13
     have m4:∀t t',((W3++t).set i .dead++t')[f]?=some (.row 3 rows'):=λt t'=>by rw[List.getElem?_append_left (by simp;omega),List.getElem?_set_ne (by omega)];exact m1 t
     have m5:∀t t',((W3++t).set i .dead++t')[g']?=some (.row 5 rows2'):=λt t'=>by rw[List.getElem?_append_left (by simp;omega),List.getElem?_set_ne (by omega)];exact m2 t
     have htk:List.take x.phis.length rows3=rows3:=List.take_of_length_le (by omega)
     have hp:Psh (.dead::(W3++[.row 2 [[.p (.int .i64 to),A]]])) (.sl (i+1) 2 0 x.phis.length) 2 [.p (.int .i64 to),A] (.dead::((W3++[AO.row 2 [[.p (.int .i64 to),A]]]).set i .dead++[.row 2 (rows3++[[.p (.int .i64 to),A]])])) (.sl (W3.length+1+1) 2 0 (x.phis.length+1)):= .inr ⟨i+1,rows3,_,rfl,by rw[List.getElem?_cons_succ];exact m3 _,e14,by simp,by simp⟩
     obtain⟨I',hI'⟩:=e12 _ _ hp
     simp-implicitDefEqProofs[-AV.cells,-AV.isCell,aE,ag,ah,am,aj,aD,af,an,al,a1,a2,e2,e5,e6,e10,hbl,m1,m2,m3,m4,m5,hP.x,htk]
     have hm1:3-(j-1).toNat=3-j.toNat+1:=by omega
     refine⟨⟨by omega,by omega,by omega⟩,⟨j-1,q3,_⟩,⟨by simp only;omega,by simp only;omega,by simp only;omega,by simp only;omega,_,_,⟨_,by rw[←hm1] at hI';exact hI'⟩,?_,by simpa using hlen⟩,by simp only;omega,ab ?_ ?_⟩
     ·intro h
      have:=congrArg List.length h
      simp at this
      exact h0 this
     ·simp
     ·simp[below,hw1]
      try omega
   ·obtain⟨I',hI'⟩:=hP.drop
    have hm1:3-(j-1).toNat=3-j.toNat+1:=by omega
    simp-implicitDefEqProofs[]
    refine⟨⟨j-1,q3,W3⟩,⟨by simp only;omega,by simp only;omega,by simp only;omega,by simp only;omega,_,_,⟨_,by rw[←hm1] at hI';exact hI'⟩,h0,hlen⟩,by simp only;omega,ab ?_ ?_⟩
    ·simp
    ·simp[below,hw1]
     try omega
 ·have hc:j<=0:=by simpa using hc
  obtain⟨v1,v2⟩:=hU.own.cell
  have hs0:∀o,(W.set 0 o)[0]?=some o:=λo=>List.getElem?_set_self (by omega)
  simp-implicitDefEqProofs[-AV.cells,-AV.isCell,aE,ag,ah,am,aj,aD,af,an,al,v1,v2,hU.u,hU.res,hs0]
  have hown:Own 3 (.dead::W.set 0 (.row 1 [[V]])) [V] [cdL cs] I:=hU.own.hd1 λi hi=>List.getElem?_set_ne λe=>by have:=hU.own.ge _ hi;omega
  have hj:j=0:=by omega
  subst hj
  exact⟨_,_,q,.agg [.p (cdL cs)],rfl,rfl,.agg (.one hown.view .nil) .nil,⟨cs,rfl,h0,hlen,hU.sm⟩,hq1,by omega⟩
end
section
theorem nE:AK.whole dW=FK.ak dT:=rfl
theorem At(σ:List Nat)(v:AV):AB (ren σ v)=AB v:=by cases v<;>rfl
def OwW(w:List AV->AV)(qs:List PV)(x:ARes)(h:List AO):Prop:=∃vs I,x= .ret (w vs)/\Own 0 h vs qs I
theorem MZ{n:Nat}{W:List AO}{a b c m:Nat}{l:List Int}(ha:W[a]?=some (.row 2 []))(hb:W[b]?=some (.row 4 []))(hc:W[c]?=some (.row 1 (l.map λn=>[AV.p (.int .i64 n)])))(na:n<=a)(nb:n<=b)(nc:n<=c)(h1:a≠b)(h2:a≠c)(h3:b≠c)(hm:m=l.length):Own n W [.sl a 2 0 0,.sl b 4 0 0,.sl c 1 0 m] [phL [],inL [],aC l] [a,b,c]:=by
 have e1:Own n W [.sl a 2 0 0] [phL []] [a]:=Own.of (D:=[]) (J:=[]) (rows:=[]) ⟨ha,rfl,(λ_ h=>by cases h),(λ_ h=>by cases h),.nil,by simp⟩ (λ_ h=>by cases h) (λ_ h=>by cases h) (λj hj=>by rw[List.mem_singleton.1 hj];exact na) rfl
 have e2:Own n W [.sl b 4 0 0] [inL []] [b]:=Own.of (D:=[]) (J:=[]) (rows:=[]) ⟨hb,rfl,(λ_ h=>by cases h),(λ_ h=>by cases h),.nil,by simp⟩ (λ_ h=>by cases h) (λ_ h=>by cases h) (λj hj=>by rw[List.mem_singleton.1 hj];exact nb) rfl
 exact e1.app (e2.app (cq hc nc hm) λj hj hm=>by simp at hj hm;omega) λj hj hm=>by simp at hj hm;omega
variable (G:az)
def CbI(x:Bk)(W:List AO)(ps:List Ph)(is:List Ii):Prop:=W[0]?=some (.row 5 [x.cs.map .p])/\W[1]?=some (.row 5 [[.nils,.nils,.p (.int .i64 0),.p (.int .i64 0),.nils]])/\∃P N Z I,W[6]?=some (.row 5 [[P,N,.p (.int .i64 x.jump),.p (.int .i64 x.on),Z]])/\Own 2 W [P,N,Z] [phL ps,inL is,aC x.next] I/\6∉I
theorem CbI.tri{x:Bk}{W:List AO}{ps:List Ph}{is:List Ii}(H:CbI x W ps is):W[0]?=some (.row 5 [x.cs.map .p])/\W[1]?=some (.row 5 [[.nils,.nils,.p (.int .i64 0),.p (.int .i64 0),.nils]])/\∃P N Z IP IN IZ,W[6]?=some (.row 5 [[P,N,.p (.int .i64 x.jump),.p (.int .i64 x.on),Z]])/\Own 2 W [P] [phL ps] IP/\Own 2 W [N] [inL is] IN/\Own 2 W [Z] [aC x.next] IZ/\(∀j∈IP,j∉IN/\j∉IZ)/\(∀j∈IN,j∉IZ)/\6∉IP/\6∉IN/\6∉IZ:=by
 obtain⟨h0,h1,P,N,Z,I,h2,hO,h6⟩:=H
 have hnd:=hO.nd
 obtain⟨_,_,IP,I',e1,rfl,hP,H2⟩:=hO.one
 cases e1
 obtain⟨_,_,IN,IZ,e1,rfl,hN,hZ⟩:=H2.one
 cases e1
 simp only[List.nodup_append,List.mem_append,not_or] at hnd h6
 exact⟨h0,h1,P,N,Z,IP,IN,IZ,h2,hP,hN,hZ,λj hj=>⟨λhm=>hnd.2.2 j hj j (.inl hm) rfl,λhm=>hnd.2.2 j hj j (.inr hm) rfl⟩,λj hj hm=>hnd.2.1.2.2 j hj j hm rfl,h6.1,h6.2.1,h6.2.2⟩
theorem CbI.ofTri{x:Bk}{W:List AO}{ps:List Ph}{is:List Ii}{P N Z:AV}{IP IN IZ:List Nat}(h0:W[0]?=some (.row 5 [x.cs.map .p]))(h1:W[1]?=some (.row 5 [[.nils,.nils,.p (.int .i64 0),.p (.int .i64 0),.nils]]))(h2:W[6]?=some (.row 5 [[P,N,.p (.int .i64 x.jump),.p (.int .i64 x.on),Z]]))(hP:Own 2 W [P] [phL ps] IP)(hN:Own 2 W [N] [inL is] IN)(hZ:Own 2 W [Z] [aC x.next] IZ)(d1:∀j∈IP,j∉IN/\j∉IZ)(d2:∀j∈IN,j∉IZ)(n1:6∉IP)(n2:6∉IN)(n3:6∉IZ):CbI x W ps is:=
 ⟨h0,h1,P,N,Z,IP++(IN++IZ),h2,hP.app (hN.app hZ d2) λj hj hm=>(List.mem_append.1 hm).elim (d1 j hj).1 (d1 j hj).2,by simp[n1,n2,n3]⟩
theorem Own.grow{W os W3:List AO}{V V':AV}{sz:Nat}{D:List (List PV)}{r:List AV}{e:List PV}{IV IA:List Nat}{o6:AO}(hV:Own 2 W [V] [.lst sz D] IV)(hr:Own W.length (W++os) r e IA)(he:e.length=sz)(hp:Psh (W++os) V sz r W3 V')(h6:6<W.length)(n6:6∉IV):
 ∃IV',Own 2 (W3.set 6 o6) [V'] [.lst sz (D++[e])] IV'/\(∀j∈IV',j∈IV\/W.length<=j)/\W.length<=(W3.set 6 o6).length/\(W3.set 6 o6)[6]?=some o6/\∀i,i<W.length->i∉IV->i≠6->(W3.set 6 o6)[i]?=W[i]?:=by
 obtain⟨IV',n1,n2,n3,n4⟩:=(hV.more os).psh (hr.low λj hj=>by have:=hr.ge j hj;omega) (λj hj hm=>by have:=hV.lt j hj;have:=hr.ge j hm;omega) he (by simp;omega) hp
 have hnew:∀j∈IV',j∈IV\/W.length<=j:=λj hj=>by
  rcases n2 j hj with h|h|h
  ·exact .inl h
  ·exact .inr (hr.ge j h)
  ·right;rw[h];simp
 simp only[List.length_append] at n3 n4
 refine⟨IV',n1.frame λi hi=>List.getElem?_set_ne λe=>?_,hnew,by simp;omega,List.getElem?_set_self (by omega),λi hi hn h6i=>?_⟩
 ·subst e
  rcases hnew _ hi with h|h
  ·exact n6 h
  ·omega
 ·rw[List.getElem?_set_ne (Ne.symm h6i),n3 i (by omega) hn,List.getElem?_append_left hi]
theorem CbI.getP{x:Bk}{W:List AO}{ps:List Ph}{is:List Ii}(H:CbI x W ps is):W[0]?=some (.row 5 [x.cs.map .p])/\7<=W.length/\∃P N Z,W[6]?=some (.row 5 [[P,N,.p (.int .i64 x.jump),.p (.int .i64 x.on),Z]])/\(P.cells=[P]/\P.isCell=true)/\(N.cells=[N]/\N.isCell=true)/\(Z.cells=[Z]/\Z.isCell=true)/\((P= .nils/\ps=[])\/∃i rows,P= .sl i 2 0 ps.length/\W[i]?=some (.row 2 rows)/\rows.length=ps.length/\2<=i/\i≠6)/\
 ∀(os:List AO) (A:AV) (y:Ph) (IA:List Nat) (W3:List AO) (P':AV),Own W.length (W++os) [A] [aC y.args] IA->Psh (W++os) P 2 [.p (.int .i64 y.to),A] W3 P'->CbI x (W3.set 6 (.row 5 [[P',N,.p (.int .i64 x.jump),.p (.int .i64 x.on),Z]])) (ps++[y]) is:=by
 obtain⟨h0,h1,P,N,Z,IP,IN,IZ,h2,hP,hN,hZ,d1,d2,n1,n2,n3⟩:=H.tri
 have h6:=(List.getElem?_eq_some_iff.1 h2).1
 refine⟨h0,h6,P,N,Z,h2,hP.cell,hN.cell,hZ.cell,?_,λos A y IA W3 P' hA hp=>?_⟩
 ·rcases hP.row with⟨e1,e2,_⟩|⟨id,rows,J,e1,e2,hr,_⟩
  ·exact .inl ⟨e1,List.map_eq_nil_iff.1 e2⟩
  ·rw[List.length_map] at e1
   exact .inr ⟨id,rows,e1,hr.here,by have:=hr.len;simpa using this,hP.ge id (by rw[e2];simp),λe=>n1 (by rw[e2,e];simp)⟩
 ·obtain⟨IP',m1,m2,m3,m4,m5⟩:=hP.grow (o6:= .row 5 [[P',N,.p (.int .i64 x.jump),.p (.int .i64 x.on),Z]]) (yK (x:=y) hA) rfl hp h6 n1
  have hpl:phL (ps++[y])= .lst 2 (ps.map Ph.cs++[y.cs]):=by rw[phL,List.map_append];rfl
  refine CbI.ofTri (IP:=IP') (IN:=IN) (IZ:=IZ) (by rw[m5 0 (by omega) (λhm=>by have:=hP.ge _ hm;omega) (by decide)];exact h0) (by rw[m5 1 (by omega) (λhm=>by have:=hP.ge _ hm;omega) (by decide)];exact h1) m4 (by rw[hpl];exact m1) (hN.frame λi hi=>m5 i (hN.lt i hi) (λhm=>(d1 i hm).1 hi) λe=>n2 (e▸hi)) (hZ.frame λi hi=>m5 i (hZ.lt i hi) (λhm=>(d1 i hm).2 hi) λe=>n3 (e▸hi)) (λj hj=>?_) d2 (λhm=>?_) n2 n3
  ·rcases m2 j hj with h|h
   ·exact d1 j h
   ·exact⟨λhm=>by have:=hN.lt j hm;omega,λhm=>by have:=hZ.lt j hm;omega⟩
  ·rcases m2 6 hm with h|h
   ·exact n1 h
   ·omega
theorem CbI.getN{x:Bk}{W:List AO}{ps:List Ph}{is:List Ii}(H:CbI x W ps is):W[0]?=some (.row 5 [x.cs.map .p])/\7<=W.length/\∃P N Z,W[6]?=some (.row 5 [[P,N,.p (.int .i64 x.jump),.p (.int .i64 x.on),Z]])/\(P.cells=[P]/\P.isCell=true)/\(N.cells=[N]/\N.isCell=true)/\(Z.cells=[Z]/\Z.isCell=true)/\((N= .nils/\is=[])\/∃i rows,N= .sl i 4 0 is.length/\W[i]?=some (.row 4 rows)/\rows.length=is.length/\2<=i/\i≠6)/\
 ∀(os:List AO) (A:AV) (y:Ii) (IA:List Nat) (W3:List AO) (N':AV),Own W.length (W++os) [A] [aC y.args] IA->Psh (W++os) N 4 [.p (.int .i64 y.op),.p (.int .i64 y.to),A,.p (.int .i64 y.n)] W3 N'->CbI x (W3.set 6 (.row 5 [[P,N',.p (.int .i64 x.jump),.p (.int .i64 x.on),Z]])) ps (is++[y]):=by
 obtain⟨h0,h1,P,N,Z,IP,IN,IZ,h2,hP,hN,hZ,d1,d2,n1,n2,n3⟩:=H.tri
 have h6:=(List.getElem?_eq_some_iff.1 h2).1
 refine⟨h0,h6,P,N,Z,h2,hP.cell,hN.cell,hZ.cell,?_,λos A y IA W3 N' hA hp=>?_⟩
 ·rcases hN.row with⟨e1,e2,_⟩|⟨id,rows,J,e1,e2,hr,_⟩
  ·exact .inl ⟨e1,List.map_eq_nil_iff.1 e2⟩
  ·rw[List.length_map] at e1
   exact .inr ⟨id,rows,e1,hr.here,by have:=hr.len;simpa using this,hN.ge id (by rw[e2];simp),λe=>n2 (by rw[e2,e];simp)⟩
 ·obtain⟨IN',m1,m2,m3,m4,m5⟩:=hN.grow (o6:= .row 5 [[P,N',.p (.int .i64 x.jump),.p (.int .i64 x.on),Z]]) (zu (x:=y) hA) rfl hp h6 n2
  have hpl:inL (is++[y])= .lst 4 (is.map Ii.cs++[y.cs]):=by rw[inL,List.map_append];rfl
  refine CbI.ofTri (IP:=IP) (IN:=IN') (IZ:=IZ) (by rw[m5 0 (by omega) (λhm=>by have:=hN.ge _ hm;omega) (by decide)];exact h0) (by rw[m5 1 (by omega) (λhm=>by have:=hN.ge _ hm;omega) (by decide)];exact h1) m4 (hP.frame λi hi=>m5 i (hP.lt i hi) (λhm=>(d1 i hi).1 hm) λe=>n1 (e▸hi)) (by rw[hpl];exact m1) (hZ.frame λi hi=>m5 i (hZ.lt i hi) (λhm=>d2 i hm hi) λe=>n3 (e▸hi)) (λj hj=>⟨λhm=>?_,(d1 j hj).2⟩) (λj hj hm=>?_) n1 (λhm=>?_) n3
  ·rcases m2 j hm with h|h
   ·exact(d1 j hj).1 h
   ·have:=hP.lt j hj;omega
  ·rcases m2 j hj with h|h
   ·exact d2 j h hm
   ·have:=hZ.lt j hm;omega
  ·rcases m2 6 hm with h|h
   ·exact n2 h
   ·omega
structure CbS where (i:Nat) (W:List AO)
theorem uD(x:Bk)(m:Nat)(hm:m<=100)(hx:SmB m x):AC Tryz.prog G dN [.agg (x.cs.map .p)] [] (OwW .agg x.cs):=by
 have hxs:=x.cs_eq2
 refine AC.goK nk nE ?_
 have hpl:phL x.phis= .lst 2 (x.phis.map Ph.cs):=rfl
 have hil:inL x.ins= .lst 4 (x.ins.map Ii.cs):=rfl
 have hnl:aC x.next= .lst 1 (x.next.map λn=>[.int .i64 n]):=rfl
 simp-implicitDefEqProofs[dW,dT,hxs,hpl,hil,hnl]
 refine fR (λa:CbS=>aw 74 [(3,.ptr 6 5 0 0),(2,.ptr 1 5 0 0),(1,.ptr 0 5 0 0)]) (λa=>a.W) (λa=>CbI x a.W [] []) ?_ ?_
 ·simp-implicitDefEqProofs[hnl]
  have hb1:x.next.length*8<=140737488355328:=by have:=hx.2.2.1;omega
  have hb2:x.next.length<=140737488355328:=by have:=hx.2.2.1;omega
  repeat' apply And.intro
  all_goals first
   |exact hb1
   |exact hb2
   |(refine⟨⟨0,_⟩,?_,ab (Nat.zero_le _) ?_⟩
     rotate_left 1
     ·simp[below]
     ·exact⟨rfl,rfl,_,_,_,_,rfl,MZ rfl rfl rfl (by decide) (by decide) (by decide) (by decide) (by decide) (by decide) rfl,by decide⟩)
 ·rintro⟨_,W⟩ hI
  simp only at hI⊢
  refine fR (λa:CbS=>aw 74 [(3,.ptr 6 5 0 0),(2,.ptr 1 5 0 0),(1,.ptr 0 5 0 0)]) (λa=>a.W) (λa=>CbI x a.W x.phis []) ?_ ?_
  ·simp-implicitDefEqProofs[]
   refine aH (λa:CbS=>aw 74 [(4,.p (.int .i64 a.i)),(3,.ptr 6 5 0 0),(2,.ptr 1 5 0 0),(1,.ptr 0 5 0 0)]) (λa=>a.W) (λa=>a.i<=x.phis.length/\CbI x a.W (x.phis.take a.i) []) (λa=>x.phis.length-a.i) ⟨0,W⟩ ⟨Nat.zero_le _,by rw[List.take_zero];exact hI⟩ (ab (Nat.zero_le _) (by obtain⟨_,h7,_⟩:=hI.getP;simp[below];omega)) ?_
   clear hI W
   rintro⟨i,W⟩ ⟨hi,hI⟩
   simp only at hi hI⊢
   obtain⟨hw0,h7,P,N,Z,hw6,⟨p1,p2⟩,⟨n1,n2⟩,⟨z1,z2⟩,hPc,hpush⟩:=hI.getP
   have hw0':W[0]?=some (.row 5 [[.p (.lst 2 (x.phis.map Ph.cs)),.p (.lst 4 (x.ins.map Ii.cs)),.p (.int .i64 x.jump),.p (.int .i64 x.on),.p (.lst 1 (x.next.map λn=>[.int .i64 n]))]]):=hw0
   simp-implicitDefEqProofs[hw0']
   refine aF (λhc=>?_) (λhc=>?_)
   ·have hc:i<x.phis.length:=by simpa using hc
    have hg:=List.getElem?_eq_getElem hc
    have htk:x.phis.take (i+1)=x.phis.take i++[x.phis[i]]:=ay hc
    have hya:=hx.2.2.2.2 _ (List.getElem_mem hc)
    have hxp:=hx.1
    generalize x.phis[i]=y at hg htk hya
    have hyc:=y.cs_eq2
    have hyn:aC y.args= .lst 1 (y.args.map λn=>[.int .i64 n]):=rfl
    have hwi:=w1 (i:=i) (by have:=hx.1;omega)
    have hyr:List.map (λn=>[AV.p (.int .i64 n)]) y.args=List.map ((λx=>List.map AV.p x)∘λn=>[PV.int IntKind.i64 n]) y.args:=rfl
    have m6:∀t,(W++t)[6]?=some (.row 5 [[P,N,.p (.int .i64 x.jump),.p (.int .i64 x.on),Z]]):=λt=>by rw[List.getElem?_append_left (by omega)];exact hw6
    have m0:∀t,(W++t)[0]?=some (.row 5 [[.p (.lst 2 (x.phis.map Ph.cs)),.p (.lst 4 (x.ins.map Ii.cs)),.p (.int .i64 x.jump),.p (.int .i64 x.on),.p (.lst 1 (x.next.map λn=>[.int .i64 n]))]]):=λt=>by rw[List.getElem?_append_left (by omega)];exact hw0'
    have m0e:=λt hh=>fJ (m0 t) hh
    have m6e:=λt hh=>fJ (m6 t) hh
    rcases hPc with⟨rfl,h0⟩|⟨f,rows,rfl,hg2,hrl,hf2,hf6⟩
    ·simp-implicitDefEqProofs[-AV.cells,-AV.isCell,aE,ag,ah,am,aj,aD,af,an,al,p1,p2,n1,n2,z1,z2,hw0',hw6,m0,m6,m0e,m6e,hg,hyc,hyn]
     have hA:Own W.length (W++[AO.dead,.row 1 (y.args.map λn=>[AV.p (.int .i64 n)]),.row 2 [[.p (.int .i64 y.to),.sl (W.length+1) 1 0 y.args.length]]]) [.sl (W.length+1) 1 0 y.args.length] [aC y.args] [W.length+1]:=cq (by rw[List.getElem?_append_right (by omega),Nat.add_sub_cancel_left];rfl) (by omega) rfl
     have hC:=hpush _ _ y _ (W++[AO.dead,.row 1 (y.args.map λn=>[AV.p (.int .i64 n)]),.row 2 [[.p (.int .i64 y.to),.sl (W.length+1) 1 0 y.args.length]],.row 2 [[.p (.int .i64 y.to),.sl (W.length+1) 1 0 y.args.length]]]) _ hA (.inl ⟨rfl,by simp,rfl⟩)
     rw[←htk] at hC
     have hl3:(W++[AO.dead,.row 1 (y.args.map λn=>[AV.p (.int .i64 n)]),.row 2 [[.p (.int .i64 y.to),.sl (W.length+1) 1 0 y.args.length]]]).length=W.length+3:=by simp
     rw[hl3] at hC
     exact⟨⟨by omega,by omega⟩,⟨i+1,_⟩,⟨hc,hC⟩,by simp only;omega,ab (Nat.zero_le _) (by simp[below,hwi];try omega)⟩
    ·have m7:∀t,(W++t)[f]?=some (.row 2 rows):=λt=>by rw[List.getElem?_append_left (List.getElem?_eq_some_iff.1 hg2).1];exact hg2
     have m8:∀t t',((W++t).set f .dead++t')[6]?=some (.row 5 [[.sl f 2 0 (List.take i x.phis).length,N,.p (.int .i64 x.jump),.p (.int .i64 x.on),Z]]):=λt t'=>by rw[List.getElem?_append_left (by simp;omega),List.getElem?_set_ne hf6];exact m6 t
     have m7e:=λt hh=>fJ (m7 t) hh
     have m8e:=λt t' hh=>fJ (m8 t t') hh
     have htk2:List.take (List.take i x.phis).length rows=rows:=List.take_of_length_le (by omega)
     have hli:(List.take i x.phis).length=i:=by simp;omega
     have hA:Own W.length (W++[AO.dead,.row 1 (y.args.map λn=>[AV.p (.int .i64 n)]),.row 2 [[.p (.int .i64 y.to),.sl (W.length+1) 1 0 y.args.length]]]) [.sl (W.length+1) 1 0 y.args.length] [aC y.args] [W.length+1]:=cq (by rw[List.getElem?_append_right (by omega),Nat.add_sub_cancel_left];rfl) (by omega) rfl
     have hC:=hpush _ _ y _ ((W++[AO.dead,.row 1 (y.args.map λn=>[AV.p (.int .i64 n)]),.row 2 [[.p (.int .i64 y.to),.sl (W.length+1) 1 0 y.args.length]]]).set f .dead++[.row 2 (rows++[[.p (.int .i64 y.to),.sl (W.length+1) 1 0 y.args.length]])]) _ hA (.inr ⟨f,rows,_,rfl,m7 _,hrl,rfl,rfl⟩)
     rw[←htk] at hC
     have hl3:(W++[AO.dead,.row 1 (y.args.map λn=>[AV.p (.int .i64 n)]),.row 2 [[.p (.int .i64 y.to),.sl (W.length+1) 1 0 y.args.length]]]).length=W.length+3:=by simp
     rw[hl3,hli] at hC
     rw[hli] at m6 m8 m6e m8e hw6 htk2
     simp-implicitDefEqProofs[-AV.cells,-AV.isCell,aE,ag,ah,am,aj,aD,af,an,al,p1,p2,n1,n2,z1,z2,hw0',hw6,m0,m6,m0e,m6e,hg,hyc,hyn,m7,m8,m7e,m8e]
     rw[htk2]
     exact⟨⟨by omega,by omega⟩,⟨by omega,by omega,by omega⟩,⟨i+1,_⟩,⟨hc,hC⟩,by simp only;omega,ab (Nat.zero_le _) (by simp[below,hwi];try omega)⟩
   ·have hc:x.phis.length<=i:=by simpa using hc
    rw[List.take_of_length_le hc] at hI
    refine⟨⟨0,W⟩,hI,ab (Nat.zero_le _) ?_⟩
    simp[below];omega
  ·rintro⟨_,W⟩ hI
   simp only at hI⊢
   simp-implicitDefEqProofs[]
   refine aH (λa:CbS=>aw 74 [(5,.p (.int .i64 a.i)),(3,.ptr 6 5 0 0),(2,.ptr 1 5 0 0),(1,.ptr 0 5 0 0)]) (λa=>a.W) (λa=>a.i<=x.ins.length/\CbI x a.W x.phis (x.ins.take a.i)) (λa=>x.ins.length-a.i) ⟨0,W⟩ ⟨Nat.zero_le _,by rw[List.take_zero];exact hI⟩ (ab (Nat.zero_le _) (by obtain⟨_,h7,_⟩:=hI.getP;simp[below];omega)) ?_
   clear hI W
   rintro⟨i,W⟩ ⟨hi,hI⟩
   simp only at hi hI⊢
   obtain⟨hw0,h7,P,N,Z,hw6,⟨p1,p2⟩,⟨n1,n2⟩,⟨z1,z2⟩,hNc,hpush⟩:=hI.getN
   have hw1:=hI.2.1
   have hw0':W[0]?=some (.row 5 [[.p (.lst 2 (x.phis.map Ph.cs)),.p (.lst 4 (x.ins.map Ii.cs)),.p (.int .i64 x.jump),.p (.int .i64 x.on),.p (.lst 1 (x.next.map λn=>[.int .i64 n]))]]):=hw0
   simp-implicitDefEqProofs[hw0']
   refine aF (λhc=>?_) (λhc=>?_)
   ·have hc:i<x.ins.length:=by simpa using hc
    have hg:=List.getElem?_eq_getElem hc
    have htk:x.ins.take (i+1)=x.ins.take i++[x.ins[i]]:=ay hc
    have hya:=hx.2.2.2.1 _ (List.getElem_mem hc)
    have hxp:=hx.2.1
    generalize x.ins[i]=y at hg htk hya
    have hyc:=y.cs_eq2
    have hyn:aC y.args= .lst 1 (y.args.map λn=>[.int .i64 n]):=rfl
    have hwi:=w1 (i:=i) (by have:=hx.2.1;omega)
    have m6:∀t,(W++t)[6]?=some (.row 5 [[P,N,.p (.int .i64 x.jump),.p (.int .i64 x.on),Z]]):=λt=>by rw[List.getElem?_append_left (by omega)];exact hw6
    have m0:∀t,(W++t)[0]?=some (.row 5 [[.p (.lst 2 (x.phis.map Ph.cs)),.p (.lst 4 (x.ins.map Ii.cs)),.p (.int .i64 x.jump),.p (.int .i64 x.on),.p (.lst 1 (x.next.map λn=>[.int .i64 n]))]]):=λt=>by rw[List.getElem?_append_left (by omega)];exact hw0'
    have m0e:=λt hh=>fJ (m0 t) hh
    have m6e:=λt hh=>fJ (m6 t) hh
    rcases hNc with⟨rfl,h0⟩|⟨f,rows,rfl,hg2,hrl,hf2,hf6⟩
    ·simp-implicitDefEqProofs[-AV.cells,-AV.isCell,aE,ag,ah,am,aj,aD,af,an,al,p1,p2,n1,n2,z1,z2,hw0',hw6,m0,m6,m0e,m6e,hg,hyc,hyn]
     have hA:Own W.length (W++[AO.row 4 [[.p (.int .i64 y.op),.p (.int .i64 y.to),.p (.lst 1 (y.args.map λn=>[.int .i64 n])),.p (.int .i64 y.n)]],AO.dead,.row 1 (y.args.map λn=>[AV.p (.int .i64 n)]),.row 4 [[.p (.int .i64 y.op),.p (.int .i64 y.to),.sl (W.length+2) 1 0 y.args.length,.p (.int .i64 y.n)]]]) [.sl (W.length+2) 1 0 y.args.length] [aC y.args] [W.length+2]:=cq (by rw[List.getElem?_append_right (by omega),Nat.add_sub_cancel_left];rfl) (by omega) rfl
     have hC:=hpush _ _ y _ (W++[AO.row 4 [[.p (.int .i64 y.op),.p (.int .i64 y.to),.p (.lst 1 (y.args.map λn=>[.int .i64 n])),.p (.int .i64 y.n)]],AO.dead,.row 1 (y.args.map λn=>[AV.p (.int .i64 n)]),.row 4 [[.p (.int .i64 y.op),.p (.int .i64 y.to),.sl (W.length+2) 1 0 y.args.length,.p (.int .i64 y.n)]],.row 4 [[.p (.int .i64 y.op),.p (.int .i64 y.to),.sl (W.length+2) 1 0 y.args.length,.p (.int .i64 y.n)]]]) _ hA (.inl ⟨rfl,by simp,rfl⟩)
     rw[←htk] at hC
     have hl3:(W++[AO.row 4 [[.p (.int .i64 y.op),.p (.int .i64 y.to),.p (.lst 1 (y.args.map λn=>[.int .i64 n])),.p (.int .i64 y.n)]],AO.dead,.row 1 (y.args.map λn=>[AV.p (.int .i64 n)]),.row 4 [[.p (.int .i64 y.op),.p (.int .i64 y.to),.sl (W.length+2) 1 0 y.args.length,.p (.int .i64 y.n)]]]).length=W.length+4:=by simp
     rw[hl3] at hC
     exact⟨⟨by omega,by omega⟩,⟨i+1,_⟩,⟨hc,hC⟩,by simp only;omega,ab (Nat.zero_le _) (by simp[below,hwi];try omega)⟩
    ·have m7:∀t,(W++t)[f]?=some (.row 4 rows):=λt=>by rw[List.getElem?_append_left (List.getElem?_eq_some_iff.1 hg2).1];exact hg2
     have m8:∀t t',((W++t).set f .dead++t')[6]?=some (.row 5 [[P,.sl f 4 0 (List.take i x.ins).length,.p (.int .i64 x.jump),.p (.int .i64 x.on),Z]]):=λt t'=>by rw[List.getElem?_append_left (by simp;omega),List.getElem?_set_ne hf6];exact m6 t
     have m7e:=λt hh=>fJ (m7 t) hh
     have m8e:=λt t' hh=>fJ (m8 t t') hh
     have htk2:List.take (List.take i x.ins).length rows=rows:=List.take_of_length_le (by omega)
     have hli:(List.take i x.ins).length=i:=by simp;omega
     have hA:Own W.length (W++[AO.row 4 [[.p (.int .i64 y.op),.p (.int .i64 y.to),.p (.lst 1 (y.args.map λn=>[.int .i64 n])),.p (.int .i64 y.n)]],AO.dead,.row 1 (y.args.map λn=>[AV.p (.int .i64 n)]),.row 4 [[.p (.int .i64 y.op),.p (.int .i64 y.to),.sl (W.length+2) 1 0 y.args.length,.p (.int .i64 y.n)]]]) [.sl (W.length+2) 1 0 y.args.length] [aC y.args] [W.length+2]:=cq (by rw[List.getElem?_append_right (by omega),Nat.add_sub_cancel_left];rfl) (by omega) rfl
     have hC:=hpush _ _ y _ ((W++[AO.row 4 [[.p (.int .i64 y.op),.p (.int .i64 y.to),.p (.lst 1 (y.args.map λn=>[.int .i64 n])),.p (.int .i64 y.n)]],AO.dead,.row 1 (y.args.map λn=>[AV.p (.int .i64 n)]),.row 4 [[.p (.int .i64 y.op),.p (.int .i64 y.to),.sl (W.length+2) 1 0 y.args.length,.p (.int .i64 y.n)]]]).set f .dead++[.row 4 (rows++[[.p (.int .i64 y.op),.p (.int .i64 y.to),.sl (W.length+2) 1 0 y.args.length,.p (.int .i64 y.n)]])]) _ hA (.inr ⟨f,rows,_,rfl,m7 _,hrl,rfl,rfl⟩)
     rw[←htk] at hC
     have hl3:(W++[AO.row 4 [[.p (.int .i64 y.op),.p (.int .i64 y.to),.p (.lst 1 (y.args.map λn=>[.int .i64 n])),.p (.int .i64 y.n)]],AO.dead,.row 1 (y.args.map λn=>[AV.p (.int .i64 n)]),.row 4 [[.p (.int .i64 y.op),.p (.int .i64 y.to),.sl (W.length+2) 1 0 y.args.length,.p (.int .i64 y.n)]]]).length=W.length+4:=by simp
     rw[hl3,hli] at hC
     rw[hli] at m6 m8 m6e m8e hw6 htk2
     simp-implicitDefEqProofs[-AV.cells,-AV.isCell,aE,ag,ah,am,aj,aD,af,an,al,p1,p2,n1,n2,z1,z2,hw0',hw6,m0,m6,m0e,m6e,hg,hyc,hyn,m7,m8,m7e,m8e]
     rw[htk2]
     exact⟨⟨by omega,by omega⟩,⟨by omega,by omega,by omega⟩,⟨i+1,_⟩,⟨hc,hC⟩,by simp only;omega,ab (Nat.zero_le _) (by simp[below,hwi];try omega)⟩
   ·have hc:x.ins.length<=i:=by simpa using hc
    have hs1:∀o,(W.set 1 o)[1]?=some o:=λo=>List.getElem?_set_self (by omega)
    rw[List.take_of_length_le hc] at hI
    simp-implicitDefEqProofs[-AV.cells,-AV.isCell,aE,ag,ah,am,aj,aD,af,an,al,p1,p2,n1,n2,z1,z2,hw6,hw1,hs1]
    obtain⟨_,_,P2,N2,Z2,IP,IN,IZ,h2,hP,hN,hZ,d1,d2,_,_,_⟩:=hI.tri
    rw[hw6] at h2
    cases h2
    have hfr:∀{vs:List AV} {qs:List PV} {J:List Nat},Own 2 W vs qs J->Own 0 (W.set 1 (.row 5 [[P,N,.p (.int .i64 x.jump),.p (.int .i64 x.on),Z]])) vs qs J:=λh=>(h.frame λj hj=>List.getElem?_set_ne λe=>by have:=h.ge j hj;omega).low λj hj=>Nat.zero_le _
    exact⟨_,_,rfl,sv (hfr hP) (hfr hN) (hfr hZ) d1 d2⟩
theorem vv(σ:List Nat)(l:List AV):bn σ l=l.map (ren σ):=List.ext_getElem? λi=>by rw[cX,List.getElem?_map]
theorem AC.ownLift{f:FuncId}{args:List AV}{w:List AV->AV}{qs:List PV}(hw:Shp w)(H:AC Tryz.prog G f args [] (OwW w qs)){h:List AO}(hv:aA 0 args):
 AC Tryz.prog G f args h λx h'=>∃vs I os,x= .ret (w vs)/\h'=h++os/\Own h.length h' vs qs I:=by
 have hT:TW [] args args:=by
  have:=Da (n:=0) (args:=args) hv
  simpa using this
 refine(H.frame (h:=h) [] List.nodup_nil hT True.intro).mono ?_
 rintro x h' ⟨x0,h0,⟨vs,I,rfl,ho⟩,hl,rfl,rfl⟩
 have hσ:∀i,i<h0.length->([]++List.range' h.length (h0.length-([]:List AO).length)).getD i 0=h.length+i:=λi hi=>by
  rw[List.nil_append,List.getD_eq_getElem?_getD];simp[hi]
 generalize hs:([]:List Nat)++List.range' h.length (h0.length-([]:List AO).length)=σ at*
 have hget:∀i,i∈I->(h++h0.map (eZ σ))[σ.getD i 0]?=(h0[i]?).map (eZ σ):=λi hi=>by
  rw[hσ i (ho.lt i hi),List.getElem?_append_right (by omega),Nat.add_sub_cancel_left,List.getElem?_map]
 have ho2:=ho.own.ren (h':=h++h0.map (eZ σ)) (σ:=σ) λi hi sz rows e=>by
  rw[hget i hi,e];rfl
 refine⟨bn σ vs,I.map λi=>σ.getD i 0,h0.map (eZ σ),by simp only[Cj];rw[hw.ren],by simp[mrg],⟨by simpa[mrg] using ho2,?_,?_,?_,λi hi=>?_⟩⟩
 ·rw[List.map_congr_left (g:=λi=>h.length+i) λi hi=>hσ i (ho.lt i hi)]
  exact vO (λi j e=>by omega) ho.nd
 ·intro j hj sz rows hg r hr v hv
  obtain⟨i,hi,rfl⟩:=List.mem_map.1 hj
  have hg2:(h++h0.map (eZ σ))[σ.getD i 0]?=some (.row sz rows):=by simpa[mrg] using hg
  rw[hget i hi] at hg2
  have hil:=ho.lt i hi
  rw[List.getElem?_eq_getElem hil] at hg2
  have hg3:=List.getElem?_eq_getElem hil
  generalize h0[i]=o at hg2 hg3
  simp only[Option.map_some,Option.some.injEq] at hg2
  cases o with
  |row sz0 rows0=>
   simp only[eZ,AO.row.injEq] at hg2
   obtain⟨rfl,rfl⟩:=hg2
   obtain⟨r0,hr0,rfl⟩:=List.mem_map.1 hr
   rw[vv] at hv
   obtain⟨v0,hv0,rfl⟩:=List.mem_map.1 hv
   rw[At]
   exact ho.no i hi sz0 rows0 hg3 r0 hr0 v0 hv0
  |_=>simp[eZ] at hg2
 ·intro v hv
  rw[vv] at hv
  obtain⟨v0,hv0,rfl⟩:=List.mem_map.1 hv
  rw[At]
  exact ho.nv v0 hv0
 ·obtain⟨j,hj,rfl⟩:=List.mem_map.1 hi
  rw[hσ j (ho.lt j hj)];omega
end
section
variable (G:az)
theorem Own.growL{W os W3:List AO}{V V':AV}{sz k:Nat}{D:List (List PV)}{r:List AV}{e:List PV}{IV IA:List Nat}{o2:AO}(hV:Own (k+1) W [V] [.lst sz D] IV)(hr:Own W.length (W++os) r e IA)(he:e.length=sz)(hp:Psh (W++os) V sz r W3 V')(h2:k<W.length):
 ∃IV',Own (k+1) (W3.set k o2) [V'] [.lst sz (D++[e])] IV'/\W.length<=(W3.set k o2).length/\(W3.set k o2)[k]?=some o2/\∀i,i<k->(W3.set k o2)[i]?=W[i]?:=by
 obtain⟨IV',n1,n2,n3,n4⟩:=(hV.more os).psh (hr.low λj hj=>by have:=hr.ge j hj;omega) (λj hj hm=>by have:=hV.lt j hj;have:=hr.ge j hm;omega) he (by simp;omega) hp
 simp only[List.length_append] at n3 n4
 refine⟨IV',n1.frame λi hi=>List.getElem?_set_ne λe=>?_,by simp;omega,List.getElem?_set_self (by omega),λi hi=>?_⟩
 ·have:=n1.ge i hi;omega
 ·rw[List.getElem?_set_ne (by omega),n3 i (by omega) (λhm=>by have:=hV.ge i hm;omega),List.getElem?_append_left (by omega)]
theorem Own.rowAt{n:Nat}{W:List AO}{V:AV}{sz:Nat}{D:List (List PV)}{I:List Nat}(H:Own n W [V] [.lst sz D] I):(V= .nils/\D=[])\/∃i rows,V= .sl i sz 0 D.length/\W[i]?=some (.row sz rows)/\rows.length=D.length/\n<=i:=by
 rcases H.row with⟨h1,h2,_⟩|⟨id,rows,J,h1,h2,hr,_⟩
 ·exact .inl ⟨h1,h2⟩
 ·exact .inr ⟨id,rows,h1,hr.here,hr.len,H.ge id (by rw[h2];simp)⟩
structure CpS where (i:Nat) (W:List AO)
theorem EY(c:Cd)(m:Nat)(hm:m<=100)(hc:SmCd m c):AC Tryz.prog G jf [.agg (c.cs.map .p)] [] (OwW .agg c.cs):=by
 have hcs:=c.cs_eq2
 have hbl:bkL c.blocks= .lst 5 (c.blocks.map Bk.cs):=rfl
 refine AC.go vg ?_
 simp-implicitDefEqProofs[mN,hcs,hbl]
 refine aH (λa:CpS=>aw 29 [(4,.p (.int .i64 a.i)),(3,.ptr 2 3 0 0),(2,.ptr 1 3 0 0),(1,.ptr 0 3 0 0)]) (λa=>a.W)
  (λa=>a.i<=c.blocks.length/\a.W[0]?=some (.row 3 [[.p (.int .i64 c.params),.p (.int .i64 c.regs),.p (.lst 5 (c.blocks.map Bk.cs))]])/\a.W[1]?=some (.row 3 [[.p (.int .i64 0),.p (.int .i64 0),.nils]])/\∃V I,a.W[2]?=some (.row 3 [[.p (.int .i64 c.params),.p (.int .i64 c.regs),V]])/\Own 3 a.W [V] [bkL (c.blocks.take a.i)] I) (λa=>c.blocks.length-a.i) ⟨0,_⟩ ⟨Nat.zero_le _,rfl,rfl,_,_,rfl,Own.nil _ _ 5⟩ (ab (Nat.zero_le _) (by simp[below])) ?_
 rintro⟨i,W⟩ ⟨hi,hw0,hw1,V,I,hw2,hV⟩
 simp only at hi hw0 hw1 hw2 hV⊢
 have h3:=(List.getElem?_eq_some_iff.1 hw2).1
 obtain⟨v1,v2⟩:=hV.cell
 simp-implicitDefEqProofs[hw0]
 refine aF (λhcc=>?_) (λhcc=>?_)
 ·have hcc:i<c.blocks.length:=by simpa using hcc
  have hg:=List.getElem?_eq_getElem hcc
  have htk:c.blocks.take (i+1)=c.blocks.take i++[c.blocks[i]]:=ay hcc
  have hsx:=hc.2.2.2 _ (List.getElem_mem hcc)
  have hb7:=hc.2.2.1
  generalize c.blocks[i]=x at hg htk hsx
  have hxs:=x.cs_eq2
  have hwi:=w1 (i:=i) (by omega)
  have hcall:=AC.ownLift G sk (uD G x m hm hsx) (h:=W) (by simp)
  rw[hxs] at hcall
  simp-implicitDefEqProofs[-AV.cells,-AV.isCell,aE,ag,ah,am,aj,aD,af,an,al,v1,v2,hw0,hw2,hg,hxs]
  refine hcall.mono ?_
  rintro r h ⟨vs,IA,os,rfl,rfl,hO⟩
  rw[←hxs] at hO
  obtain⟨P,N,X,IP,IN,IX,rfl,rfl,hP,hN,hX⟩:=zd hO
  obtain⟨p1,p2⟩:=hP.cell
  obtain⟨n1,n2⟩:=hN.cell
  obtain⟨x1,x2⟩:=hX.cell
  obtain⟨W2,hW2⟩:∃W2,W2=W++os:=⟨_,rfl⟩
  have m2:∀t,(W2++t)[2]?=some (.row 3 [[.p (.int .i64 c.params),.p (.int .i64 c.regs),V]]):=λt=>by rw[hW2,List.append_assoc,List.getElem?_append_left h3];exact hw2
  have m20:=m2 []
  rw[List.append_nil] at m20
  have m2e:=λt hh=>fJ (m2 t) hh
  have hW2l:W.length<=W2.length:=by rw[hW2];simp
  obtain⟨R,hR⟩:∃R,R=[P,N,AV.p (.int .i64 x.jump),.p (.int .i64 x.on),X]:=⟨_,rfl⟩
  have hOR:Own W.length (W++(os++[.row 5 [R]])) R x.cs (IP++(IN++IX)):=by rw[hR,←List.append_assoc];exact hO.more _
  have hbt:bkL (c.blocks.take (i+1))= .lst 5 ((c.blocks.take i).map Bk.cs++[x.cs]):=by rw[htk,bkL,List.map_append];rfl
  have hli:((c.blocks.take i).map Bk.cs).length=i:=by simp;omega
  have hWe:W++(os++[.row 5 [R]])=W2++[.row 5 [R]]:=by rw[hW2,List.append_assoc]
  rw[←hW2]
  rcases hV.rowAt with⟨rfl,h0⟩|⟨f,rows,hVf,hg2,hrl,hf3⟩
  ·obtain⟨IV',q1,q2,q3,q4⟩:=hV.growL (k:=2) (o2:= .row 3 [[.p (.int .i64 c.params),.p (.int .i64 c.regs),.sl (W2.length+1) 5 0 1]]) hOR rfl (W3:=W2++[.row 5 [R],.row 5 [R]]) (.inl ⟨rfl,by rw[hWe];simp,rfl⟩) h3
   have hl3:(W2++[AO.row 5 [R]]).length=W2.length+1:=by simp
   rw[hWe,hl3,←hbt] at q1
   simp-implicitDefEqProofs[-AV.cells,-AV.isCell,aE,ag,ah,am,aj,aD,af,an,al,p1,p2,n1,n2,x1,x2,aa,m2,m20,m2e]
   rw[←hR]
   exact⟨⟨i+1,_⟩,⟨hcc,by simp only;rw[q4 0 (by omega)];exact hw0,by simp only;rw[q4 1 (by omega)];exact hw1,_,q3,_,q1⟩,by simp only;omega,ab (Nat.zero_le _) (by simp[below,hwi]<;>omega)⟩
  ·rw[hli] at hVf hrl
   subst hVf
   have m7:∀t,(W2++t)[f]?=some (.row 5 rows):=λt=>by rw[hW2,List.append_assoc,List.getElem?_append_left (List.getElem?_eq_some_iff.1 hg2).1];exact hg2
   have m8:∀t t',((W2++t).set f .dead++t')[2]?=some (.row 3 [[.p (.int .i64 c.params),.p (.int .i64 c.regs),.sl f 5 0 i]]):=λt t'=>by rw[List.getElem?_append_left (by simp;omega),List.getElem?_set_ne (by omega)];exact m2 t
   have m7e:=λt hh=>fJ (m7 t) hh
   have m8e:=λt t' hh=>fJ (m8 t t') hh
   have htk2:List.take i rows=rows:=List.take_of_length_le (by omega)
   obtain⟨IV',q1,q2,q3,q4⟩:=hV.growL (k:=2) (o2:= .row 3 [[.p (.int .i64 c.params),.p (.int .i64 c.regs),.sl (W2.length+1) 5 0 (i+1)]]) hOR rfl (W3:=(W2++[AO.row 5 [R]]).set f .dead++[.row 5 (rows++[R])]) (.inr ⟨f,rows,_,rfl,by rw[hWe];exact m7 _,hrl,by rw[hWe],rfl⟩) h3
   have hl3:(W2++[AO.row 5 [R]]).length=W2.length+1:=by simp
   rw[hWe,hl3,←hbt] at q1
   simp-implicitDefEqProofs[-AV.cells,-AV.isCell,aE,ag,ah,am,aj,aD,af,an,al,p1,p2,n1,n2,x1,x2,aa,m2,m20,m2e,m7,m8,m7e,m8e,htk2]
   rw[←hR]
   exact⟨⟨by omega,by omega,by omega⟩,⟨i+1,_⟩,⟨hcc,by simp only;rw[q4 0 (by omega)];exact hw0,by simp only;rw[q4 1 (by omega)];exact hw1,_,q3,_,q1⟩,by simp only;omega,ab (Nat.zero_le _) (by simp[below,hwi]<;>omega)⟩
 ·have hcc:c.blocks.length<=i:=by simpa using hcc
  rw[List.take_of_length_le hcc] at hV
  have hs1:∀o,(W.set 1 o)[1]?=some o:=λo=>List.getElem?_set_self (by omega)
  simp-implicitDefEqProofs[-AV.cells,-AV.isCell,aE,ag,ah,am,aj,aD,af,an,al,v1,v2,hw0,hw1,hw2,hs1]
  exact⟨_,I,rfl,so (c:=c) ((hV.frame λj hj=>List.getElem?_set_ne λe=>by have:=hV.ge j hj;omega).low λj _=>Nat.zero_le _)⟩
theorem zb(cs:List Cd)(m:Nat)(hm:m<=100)(hl:cs.length<=3)(hc:∀c∈cs,SmCd m c):AC Tryz.prog G eL [.agg [.p (cdL cs)]] [] (OwW .agg [cdL cs]):=by
 have hbl:cdL cs= .lst 3 (cs.map Cd.cs):=rfl
 refine AC.go oh ?_
 simp-implicitDefEqProofs[iM,hbl]
 refine aH (λa:CpS=>aw 25 [(4,.p (.int .i64 a.i)),(3,.ptr 2 1 0 0),(2,.ptr 1 1 0 0),(1,.ptr 0 1 0 0)]) (λa=>a.W)
  (λa=>a.i<=cs.length/\a.W[0]?=some (.row 1 [[.p (.lst 3 (cs.map Cd.cs))]])/\a.W[1]?=some (.row 1 [[.nils]])/\∃V I,a.W[2]?=some (.row 1 [[V]])/\Own 3 a.W [V] [cdL (cs.take a.i)] I) (λa=>cs.length-a.i) ⟨0,_⟩ ⟨Nat.zero_le _,rfl,rfl,_,_,rfl,Own.nil _ _ 3⟩ (ab (Nat.zero_le _) (by simp[below])) ?_
 rintro⟨i,W⟩ ⟨hi,hw0,hw1,V,I,hw2,hV⟩
 simp only at hi hw0 hw1 hw2 hV⊢
 have h3:=(List.getElem?_eq_some_iff.1 hw2).1
 obtain⟨v1,v2⟩:=hV.cell
 simp-implicitDefEqProofs[hw0]
 refine aF (λhcc=>?_) (λhcc=>?_)
 ·have hcc:i<cs.length:=by simpa using hcc
  have hg:=List.getElem?_eq_getElem hcc
  have htk:cs.take (i+1)=cs.take i++[cs[i]]:=ay hcc
  have hsx:=hc _ (List.getElem_mem hcc)
  generalize cs[i]=x at hg htk hsx
  have hxs:=x.cs_eq2
  have hwi:=w1 (i:=i) (by omega)
  have hcall:=AC.ownLift G sk (EY G x m hm hsx) (h:=W) (by simp)
  rw[hxs] at hcall
  simp-implicitDefEqProofs[-AV.cells,-AV.isCell,aE,ag,ah,am,aj,aD,af,an,al,v1,v2,hw0,hw2,hg,hxs]
  refine hcall.mono ?_
  rintro r h ⟨vs,IA,os,rfl,rfl,hO⟩
  rw[←hxs] at hO
  obtain⟨B,rfl,hB⟩:=Dw hO
  obtain⟨p1,p2⟩:=hB.cell
  obtain⟨W2,hW2⟩:∃W2,W2=W++os:=⟨_,rfl⟩
  have m2:∀t,(W2++t)[2]?=some (.row 1 [[V]]):=λt=>by rw[hW2,List.append_assoc,List.getElem?_append_left h3];exact hw2
  have m20:=m2 []
  rw[List.append_nil] at m20
  have m2e:=λt hh=>fJ (m2 t) hh
  have hW2l:W.length<=W2.length:=by rw[hW2];simp
  obtain⟨R,hR⟩:∃R,R=[AV.p (.int .i64 x.params),.p (.int .i64 x.regs),B]:=⟨_,rfl⟩
  have hOR:Own W.length (W++(os++[.row 3 [R]])) R x.cs IA:=by rw[hR,←List.append_assoc];exact hO.more _
  have hbt:cdL (cs.take (i+1))= .lst 3 ((cs.take i).map Cd.cs++[x.cs]):=by rw[htk,cdL,List.map_append];rfl
  have hli:((cs.take i).map Cd.cs).length=i:=by simp;omega
  have hWe:W++(os++[.row 3 [R]])=W2++[.row 3 [R]]:=by rw[hW2,List.append_assoc]
  have hl3:(W2++[AO.row 3 [R]]).length=W2.length+1:=by simp
  rw[←hW2]
  rcases hV.rowAt with⟨rfl,h0⟩|⟨f,rows,hVf,hg2,hrl,hf3⟩
  ·obtain⟨IV',q1,q2,q3,q4⟩:=hV.growL (k:=2) (o2:= .row 1 [[.sl (W2.length+1) 3 0 1]]) hOR rfl (W3:=W2++[.row 3 [R],.row 3 [R]]) (.inl ⟨rfl,by rw[hWe];simp,rfl⟩) h3
   rw[hWe,hl3,←hbt] at q1
   simp-implicitDefEqProofs[-AV.cells,-AV.isCell,aE,ag,ah,am,aj,aD,af,an,al,p1,p2,aa,m2,m20,m2e]
   rw[←hR]
   exact⟨⟨i+1,_⟩,⟨hcc,by simp only;rw[q4 0 (by omega)];exact hw0,by simp only;rw[q4 1 (by omega)];exact hw1,_,q3,_,q1⟩,by simp only;omega,ab (Nat.zero_le _) (by simp[below,hwi]<;>omega)⟩
  ·rw[hli] at hVf hrl
   subst hVf
   have m7:∀t,(W2++t)[f]?=some (.row 3 rows):=λt=>by rw[hW2,List.append_assoc,List.getElem?_append_left (List.getElem?_eq_some_iff.1 hg2).1];exact hg2
   have m8:∀t t',((W2++t).set f .dead++t')[2]?=some (.row 1 [[.sl f 3 0 i]]):=λt t'=>by rw[List.getElem?_append_left (by simp;omega),List.getElem?_set_ne (by omega)];exact m2 t
   have m7e:=λt hh=>fJ (m7 t) hh
   have m8e:=λt t' hh=>fJ (m8 t t') hh
   have htk2:List.take i rows=rows:=List.take_of_length_le (by omega)
   obtain⟨IV',q1,q2,q3,q4⟩:=hV.growL (k:=2) (o2:= .row 1 [[.sl (W2.length+1) 3 0 (i+1)]]) hOR rfl (W3:=(W2++[AO.row 3 [R]]).set f .dead++[.row 3 (rows++[R])]) (.inr ⟨f,rows,_,rfl,by rw[hWe];exact m7 _,hrl,by rw[hWe],rfl⟩) h3
   rw[hWe,hl3,←hbt] at q1
   simp-implicitDefEqProofs[-AV.cells,-AV.isCell,aE,ag,ah,am,aj,aD,af,an,al,p1,p2,aa,m2,m20,m2e,m7,m8,m7e,m8e,htk2]
   rw[←hR]
   exact⟨⟨by omega,by omega,by omega⟩,⟨i+1,_⟩,⟨hcc,by simp only;rw[q4 0 (by omega)];exact hw0,by simp only;rw[q4 1 (by omega)];exact hw1,_,q3,_,q1⟩,by simp only;omega,ab (Nat.zero_le _) (by simp[below,hwi]<;>omega)⟩
 ·have hcc:cs.length<=i:=by simpa using hcc
  rw[List.take_of_length_le hcc] at hV
  have hs1:∀o,(W.set 1 o)[1]?=some o:=λo=>List.getElem?_set_self (by omega)
  simp-implicitDefEqProofs[-AV.cells,-AV.isCell,aE,ag,ah,am,aj,aD,af,an,al,v1,v2,hw0,hw1,hw2,hs1]
  exact⟨[V],I,rfl,(hV.frame λj hj=>List.getElem?_set_ne λe=>by have:=hV.ge j hj;omega).low λj _=>Nat.zero_le _⟩
end
section
def GCd(c:Cd):Prop:=1<=c.blocks.length/\c.blocks.length<=160/\∀x∈c.blocks,x.next.length<=2
def GU(cs:List Cd):Prop:=(cs≠[]/\cs.length<=4)/\∀c∈cs,GCd c
theorem SmCd.g{m:Nat}{c:Cd}(h:SmCd m c):GCd c:=⟨h.2.1,by have:=h.2.2.1;omega,λx hx=>(h.2.2.2 x hx).2.2.1⟩
structure BI (W:List AO) (uw:Nat) (V:AV) (cs:List Cd) (I:List Nat):Prop where
 res:W[0]?=some (.row 1 [[.nils]])
 u:W[uw]?=some (.row 1 [[V]])
 uge:1<=uw
 own:Own 2 (.dead::W) [V] [cdL cs] I
 un:uw+1∉I
 g:GU cs
section
variable {n:Nat} {H:List AO} {I:List Nat}
theorem Own.iis{N:AV}{is:List Ii}(HV:Own n H [N] [inL is] I){k:Nat}{y:Ii}(hk:is[k]?=some y):∃id rows A Ji,N= .sl id 4 0 is.length/\H[id]?=some (.row 4 rows)/\rows.length=is.length/\rows[k]?=some [.p (.int .i64 y.op),.p (.int .i64 y.to),A,.p (.int .i64 y.n)]/\Own n H [A] [aC y.args] Ji/\id∈I/\(∀j∈Ji,j∈I/\j≠id)/\
 ∀(h2:List AO) (A':AV) (y':Ii) (I2:List Nat),h2[id]?=some (.row 4 (rows.set k [.p (.int .i64 y'.op),.p (.int .i64 y'.to),A',.p (.int .i64 y'.n)]))->(∀j∈I,j≠id->j∉Ji->h2[j]?=H[j]?)->Own n h2 [A'] [aC y'.args] I2->(∀j∈I2,j∈Ji\/j∉I)->∃I',Own n h2 [N] [inL (is.set k y')] I'/\∀j∈I',j∈I\/j∈I2:=by
 rcases HV.row with⟨_,h2,_⟩|⟨id,rows,J,h1,h2,hr,_⟩
 ·rw[List.map_eq_nil_iff.1 h2] at hk;simp at hk
 ·rw[List.length_map] at h1
  subst h2
  have HV2:=HV
  rw[h1] at HV2
  have hD:(is.map Ii.cs)[k]?=some y.cs:=by rw[List.getElem?_map,hk];rfl
  have hl:(is.map Ii.cs).length=is.length:=by simp
  obtain⟨r,Ji,g1,g2,g3,g4⟩:=Own.upd (D:=is.map Ii.cs) (by rw[hl];exact HV2) hr hD
  obtain⟨A,rfl,hA⟩:=IJ g2
  have hnid:id∉J:=(List.nodup_cons.1 HV.nd).1
  refine⟨id,rows,A,Ji,h1,hr.here,by have:=hr.len;rwa[hl] at this,g1,hA,by simp,λj hj=>⟨List.mem_cons_of_mem _ (g3 j hj).1,(g3 j hj).2⟩,λh2 A' y' I2 k1 k2 k3 k4=>?_⟩
  obtain⟨J',q1,q2⟩:=g4 h2 _ y'.cs I2 k1 (λj hj hn=>k2 j (List.mem_cons_of_mem _ hj) (λe=>hnid (e▸hj)) hn) (zu k3) (λj hj=>by
   rcases k4 j hj with h|h
   ·exact .inl h
   ·rw[List.mem_cons,not_or] at h;exact .inr h) rfl
  rw[hl,←List.map_set,←h1] at q1
  refine⟨id::J',q1,λj hj=>?_⟩
  rcases List.mem_cons.1 hj with rfl|hj
  ·exact .inl (by simp)
  ·rcases q2 j hj with h|h
   ·exact .inl (List.mem_cons_of_mem _ h)
   ·exact .inr h
end
theorem GU.set{cs:List Cd}(h:GU cs)(k:Nat){c:Cd}(hc:GCd c):GU (cs.set k c):=⟨⟨λe=>h.1.1 (by have:=congrArg List.length e;simpa using this),by simpa using h.1.2⟩,λx hx=>by
 rcases List.mem_or_eq_of_mem_set hx with h1|rfl
 ·exact h.2 x h1
 ·exact hc⟩
theorem GCd.set{c:Cd}(h:GCd c)(b:Nat){x:Bk}(hx:x.next.length<=2):GCd ⟨c.params,c.regs,c.blocks.set b x⟩:=⟨by simpa using h.1,by simpa using h.2.1,λy hy=>by
 rcases List.mem_or_eq_of_mem_set hy with h1|rfl
 ·exact h.2.2 y h1
 ·exact hx⟩
section
variable {W:List AO} {uw:Nat} {V:AV} {cs:List Cd} {I:List Nat}
theorem BI.at(B:BI W uw V cs I){k b:Nat}{c:Cd}{x:Bk}(hk:cs[k]?=some c)(hb:c.blocks[b]?=some x):∃f rows g rows2 P N X IP IN IX,V= .sl (f+1) 3 0 cs.length/\W[f]?=some (.row 3 rows)/\rows.length=cs.length/\rows[k]?=some [.p (.int .i64 c.params),.p (.int .i64 c.regs),.sl (g+1) 5 0 c.blocks.length]/\
 W[g]?=some (.row 5 rows2)/\rows2.length=c.blocks.length/\rows2[b]?=some [P,N,.p (.int .i64 x.jump),.p (.int .i64 x.on),X]/\1<=f/\1<=g/\f≠uw/\g≠uw/\g≠f/\Own 2 (.dead::W) [P] [phL x.phis] IP/\Own 2 (.dead::W) [N] [inL x.ins] IN/\Own 2 (.dead::W) [X] [aC x.next] IX/\
 (∀j∈IP++(IN++IX),j≠f+1/\j≠g+1/\j≠uw+1)/\(∀j∈IP,j∉IN/\j∉IX)/\(∀j∈IN,j∉IX)/\
 (∀(W2:List AO) (P' N' X':AV) (j' o':Int) (ps:List Ph) (is:List Ii) (nx:List Int) (JP JN JX:List Nat),W.length<=W2.length->W2[g]?=some (.row 5 (rows2.set b [P',N',.p (.int .i64 j'),.p (.int .i64 o'),X']))->(∀i,i<W.length->i≠g->i+1∉IP++(IN++IX)->W2[i]?=W[i]?)->Own 2 (.dead::W2) [P'] [phL ps] JP->Own 2 (.dead::W2) [N'] [inL is] JN->Own 2 (.dead::W2) [X'] [aC nx] JX->(∀j∈JP,j∈IP\/W.length<j)->(∀j∈JN,j∈IN\/W.length<j)->(∀j∈JX,j∈IX)->(∀j∈JP,j∉JN)->nx.length<=2->∃cs' I',BI W2 uw V cs' I')/\
 ∀(W2:List AO) (rg:Int),W2[f]?=some (.row 3 (rows.set k [.p (.int .i64 c.params),.p (.int .i64 rg),.sl (g+1) 5 0 c.blocks.length]))->W.length<=W2.length->(∀i,i<W.length->i≠f->W2[i]?=W[i]?)->∃cs' I',BI W2 uw V cs' I':=by
 obtain⟨id,rows,gid,rows2,r,Jb,q1,q2,q3,q4,q5,q6,q7,q8,q9,q10,q11,q12,q13⟩:=B.own.blk hk hb
 have g1:=B.own.ge id q9
 have g2:=B.own.ge gid q10
 obtain⟨f,rfl⟩:∃f,id=f+1:=⟨id-1,by omega⟩
 obtain⟨g,rfl⟩:∃g,gid=g+1:=⟨gid-1,by omega⟩
 rw[List.getElem?_cons_succ] at q2 q5
 obtain⟨P,N,X,IP,IN,IX,rfl,rfl,hP,hN,hX⟩:=zd q8
 have hun:=B.un
 have hnd:=q8.nd
 simp only[List.nodup_append,List.mem_append] at hnd
 have hlt:∀j∈I,j<W.length+1:=λj hj=>by have:=B.own.lt j hj;simpa using this
 have hfu:f≠uw:=λe=>hun (e▸q9)
 have hgu:g≠uw:=λe=>hun (e▸q10)
 have huW:=(List.getElem?_eq_some_iff.1 B.u).1
 have h0W:=(List.getElem?_eq_some_iff.1 B.res).1
 have hge:=B.uge
 refine⟨f,rows,g,rows2,P,N,X,IP,IN,IX,q1,q2,q3,q4,q5,q6,q7,by omega,by omega,hfu,hgu,by omega,hP,hN,hX,λj hj=>⟨(q12 j hj).2.1,(q12 j hj).2.2,λe=>hun (e▸(q12 j hj).1)⟩,λj hj=>⟨λhm=>hnd.2.2 j hj j (.inl hm) rfl,λhm=>hnd.2.2 j hj j (.inr hm) rfl⟩,λj hj hm=>hnd.2.1.2.2 j hj j hm rfl,?_,?_⟩
 ·intro W2 P' N' X' j' o' ps is nx JP JN JX k0 k1 k2 k3 k4 k5 k6 k7 k8 k9 k10
  have hx:Own 2 (.dead::W2) [P',N',.p (.int .i64 j'),.p (.int .i64 o'),X'] (⟨ps,is,j',o',nx⟩:Bk).cs (JP++(JN++JX)):=sv (b:=⟨ps,is,j',o',nx⟩) k3 k4 k5 (λj hj=>⟨k9 j hj,λhm=>by
   have hm:=k8 j hm
   rcases k6 j hj with h|h
   ·exact hnd.2.2 j h j (.inr hm) rfl
   ·have:=hlt j (q12 j (by simp[hm])).1;omega⟩) λj hj hm=>by
   have hm:=k8 j hm
   rcases k7 j hj with h|h
   ·exact hnd.2.1.2.2 j h j hm rfl
   ·have:=hlt j (q12 j (by simp[hm])).1;omega
  have hJ:∀j∈JP++(JN++JX),j∈IP++(IN++IX)\/W.length<j:=λj hj=>by
   simp only[List.mem_append] at hj⊢
   rcases hj with hj|hj|hj
   ·exact(k6 j hj).imp (λh=> .inl h) (λh=>h)
   ·exact(k7 j hj).imp (λh=> .inr (.inl h)) (λh=>h)
   ·exact .inl (.inr (.inr (k8 j hj)))
  obtain⟨I',d1,d2⟩:=q13 (.dead::W2) _ ⟨ps,is,j',o',nx⟩ _ (by rw[List.getElem?_cons_succ];exact k1) (λj hj hn hm=>by
   have h3:=B.own.ge j hj
   have h4:=hlt j hj
   obtain⟨i,rfl⟩:∃i,j=i+1:=⟨j-1,by omega⟩
   rw[List.getElem?_cons_succ,List.getElem?_cons_succ,k2 i (by omega) (by omega) hm]) hx (λj hj=>(hJ j hj).imp (λh=>h) λh hm=>by have:=hlt j hm;omega)
  refine⟨_,I',?_,?_,hge,d1,λhm=>?_,B.g.set k ((B.g.2 c (List.mem_of_getElem? hk)).set b k10)⟩
  ·rw[k2 0 h0W (by omega) λhm=>by have:=B.own.ge _ (q12 _ hm).1;omega];exact B.res
  ·rw[k2 uw huW (Ne.symm hgu) λhm=>hun (q12 _ hm).1];exact B.u
  ·rcases d2 _ hm with h|h
   ·exact hun h
   ·rcases hJ _ h with h|h
    ·exact hun (q12 _ h).1
    ·omega
 ·intro W2 rg k1 k0 k2
  obtain⟨id',rows',B',Ji,a1,a2,a3,a4,a5,a6,a7,a8⟩:=B.own.cds hk
  rw[q1] at a1
  cases a1
  rw[List.getElem?_cons_succ,q2] at a2
  cases a2
  rw[q4] at a4
  cases a4
  have hsame:∀j∈I,j≠f+1->(AO.dead::W2)[j]?=(AO.dead::W)[j]?:=λj hj hn=>by
   have h3:=B.own.ge j hj
   have h4:=hlt j hj
   obtain⟨i,rfl⟩:∃i,j=i+1:=⟨j-1,by omega⟩
   rw[List.getElem?_cons_succ,List.getElem?_cons_succ,k2 i (by omega) (by omega)]
  obtain⟨I',d1,d2⟩:=a8 (.dead::W2) _ ⟨c.params,rg,c.blocks⟩ Ji (by rw[List.getElem?_cons_succ];exact k1) (λj hj hn _=>hsame j hj hn) (so (c:=⟨c.params,rg,c.blocks⟩) (a5.frame λj hj=>hsame j (a7 j hj).1 (a7 j hj).2)) (λj hj=> .inl hj)
  refine⟨_,I',?_,?_,hge,d1,λhm=>?_,B.g.set k (B.g.2 c (List.mem_of_getElem? hk))⟩
  ·rw[k2 0 h0W (by omega)];exact B.res
  ·rw[k2 uw huW (Ne.symm hfu)];exact B.u
  ·rcases d2 _ hm with h|h
   ·exact hun h
   ·exact hun (a7 _ h).1
end
end
section
theorem uP:AK.whole iX=FK.ak js:=rfl
variable (G:az)
theorem BI.more{W:List AO}{uw:Nat}{V:AV}{cs:List Cd}{I:List Nat}(B:BI W uw V cs I)(os:List AO):BI (W++os) uw V cs I:=
 ⟨by rw[List.getElem?_append_left (List.getElem?_eq_some_iff.1 B.res).1];exact B.res,by rw[List.getElem?_append_left (List.getElem?_eq_some_iff.1 B.u).1];exact B.u,B.uge,B.own.hd1 λi hi=>List.getElem?_append_left (by have:=B.own.lt _ hi;simpa using this),B.un,B.g⟩
theorem Jm{b:List Int}(hb:Byt b)(hl:b.length<=2000){p:Nat}(hp:p<=1000000000000)(l:List Int)(hne:l≠[])(hll:l.length<=1099511627776)(rest:List AO):AC Tryz.prog G bi [.ptr 0 2 0 0,.p (aC l)] (rdO b p::rest) λx h=>∃s:Int,x= .ret (.p (.int .i64 s))/\h=rdO b (p+1)::rest:=by
 refine AC.go eV ?_
 have hpos:0<l.length:=List.length_pos_iff.2 hne
 have hsl:aC l= .lst 1 (l.map λw=>[.int .i64 w]):=rfl
 simp-implicitDefEqProofs[dq,hsl]
 refine(aG G b hb hl p (by omega) l.length rest).mono ?_
 rintro r h ⟨k,rfl,rfl,hk⟩
 have hkl:k<l.length:=by omega
 have hg:=List.getElem?_eq_getElem hkl
 simp-implicitDefEqProofs[aa,hg]
structure BnS where (q:Nat) (W:List AO)
theorem Hh{b:List Int}(hb:Byt b)(hl:b.length<=2000){p:Nat}(hp:p<=700000000000):AC Tryz.prog G iW [.ptr 0 2 0 0] [rdO b p] λx h=>∃v q,x= .ret v/\h=[rdO b q]/\(∃cs,v= .agg [.p (cdL cs)]/\GU cs)/\p<=q/\q<=p+5000:=by
 refine gi G (AC.goK uO uP ?_)
 simp-implicitDefEqProofs[iX,js]
 refine(gZ G (Bj G hb hl (p:=p) (by omega)) _ (by simp[below])).mono ?_
 rintro r h ⟨v,q,rfl,rfl,⟨cs,rfl,hne,hl3,hsm⟩,hq1,hq2⟩
 simp-implicitDefEqProofs[aa]
 refine(AC.ownLift G sk (zb G cs 3 (by omega) hl3 hsm) (h:=[rdO b q,.row 1 [[.nils]]]) (by simp)).mono ?_
 rintro r h ⟨vs,I,os,rfl,rfl,hO⟩
 obtain⟨V,rfl,hV⟩:=hO.single
 obtain⟨v1,v2⟩:=hV.cell
 simp-implicitDefEqProofs[-AV.cells,-AV.isCell,aE,ag,ah,am,aj,aD,af,an,al,v1,v2,aa]
 obtain⟨W,hW⟩:∃W,W=AO.row 1 [[.nils]]::(os++[.row 1 [[V]]]):=⟨_,rfl⟩
 obtain⟨uw,huw⟩:∃uw,uw=os.length+1:=⟨_,rfl⟩
 have hB:BI W uw V cs I:=by
  refine⟨by rw[hW];rfl,by rw[hW,huw,List.getElem?_cons_succ,List.getElem?_append_right (Nat.le_refl _)];simp,by omega,?_,λhm=>?_,⟨hne,by omega⟩,λc hc=>(hsm c hc).g⟩
  ·rw[hW]
   refine hV.frame λi hi=>?_
   have h1:=hV.ge i hi
   have h2:=hV.lt i hi
   obtain⟨j,rfl⟩:∃j,i=j+2:=⟨i-2,by simp at h1;omega⟩
   simp at h2
   simp only[List.cons_append,List.nil_append,List.getElem?_cons_succ]
   rw[List.getElem?_append_left h2]
  ·have:=hV.lt _ hm
   simp at this
   omega
 rw[←hW,←huw]
 clear hW huw hV hO
 obtain⟨c0,hc0⟩:∃c,cs[0]?=some c:=⟨_,List.getElem?_eq_getElem (List.length_pos_iff.2 hne)⟩
 obtain⟨id,_,_,_,rfl,_⟩:=hB.own.cds hc0
 simp-implicitDefEqProofs[hB.u]
 refine(aG G b hb hl q (by omega) _ W).mono ?_
 rintro r h ⟨k,rfl,rfl,hk⟩
 have hkl:k<cs.length:=by
  have:=List.length_pos_iff.2 hne
  omega
 have hgk:=List.getElem?_eq_getElem hkl
 generalize cs[k]=c at hgk
 have hsc:=hB.g.2 c (List.mem_of_getElem? hgk)
 obtain⟨x0,hx0⟩:∃x,c.blocks[0]?=some x:=⟨_,List.getElem?_eq_getElem (by have:=hsc.1;omega)⟩
 obtain⟨f,rows,g,rows2,_,_,_,_,_,_,e1,e2,e3,e4,e5,e6,_⟩:=hB.at hgk hx0
 cases e1
 simp-implicitDefEqProofs[aa,hB.u,hkl,e2,e4]
 refine(aG G b hb hl (q+1) (by omega) _ W).mono ?_
 rintro r h ⟨bI,rfl,rfl,hbI⟩
 have hbl:bI<c.blocks.length:=by have:=hsc.1;omega
 have hgb:=List.getElem?_eq_getElem hbl
 generalize c.blocks[bI]=x at hgb
 simp-implicitDefEqProofs[aa,hB.u,hkl,hbl,e2,e4]
 refine(ig G hb hl (by omega) [-1,c.regs,c.blocks.length,0,1] (by simp) (by simp) (by omega) rfl (by rw[List.getElem?_cons_succ,List.getElem?_append_right (Nat.le_refl _),Nat.sub_self];rfl)).mono ?_
 rintro r h ⟨bad,hbad,rfl,rfl⟩
 simp-implicitDefEqProofs[aa]
 have hsx:SmB 3 x:=(hsm c (List.mem_of_getElem? hgk)).2.2.2 x (List.mem_of_getElem? hgb)
 have hB1:=hB.more [AO.row 1 [[AV.p (.int .i64 (-1))],[AV.p (.int .i64 c.regs)],[AV.p (.int .i64 c.blocks.length)],[AV.p (.int .i64 0)],[AV.p (.int .i64 1)]]]
 generalize hW1:W++[AO.row 1 [[AV.p (.int .i64 (-1))],[AV.p (.int .i64 c.regs)],[AV.p (.int .i64 c.blocks.length)],[AV.p (.int .i64 0)],[AV.p (.int .i64 1)]]]=W1 at hB1
 obtain⟨f1,rows1,g1,rows3,P,N,X,IP,IN,IX,a1,a2,a3,a4,a5,a6,a7,a8,a9,a10,a11,a12,hP,hN,hX,a13,a14,a15,fin1,fin2⟩:=hB1.at hgk hgb
 cases a1
 have hgr:g1=g/\rows1=rows:=by
  have h1:W1[f]?=some (.row 3 rows):=by rw[←hW1,List.getElem?_append_left (List.getElem?_eq_some_iff.1 e2).1];exact e2
  rw[h1] at a2
  cases a2
  rw[e4] at a4
  cases a4
  exact⟨rfl,rfl⟩
 obtain⟨rfl,rfl⟩:=hgr
 clear hW1 hB e2 e3 e4 e5 e6 hbad
 have hq3:p<=q+1+1+1:=by omega
 have hq4:q+1+1+1<=p+4003:=by omega
 generalize q+1+1+1=q5 at hq3 hq4
 clear hq1 hq2
 have hfW:=(List.getElem?_eq_some_iff.1 a2).1
 have hgW:=(List.getElem?_eq_some_iff.1 a5).1
 refine fR (λa:BnS=>aw 154 [(3,.ptr (uw+1) 1 0 0),(2,.ptr 1 1 0 0)]) (λa=>rdO b a.q::a.W) (λa=>p<=a.q/\a.q<=p+4010/\∃cs' I',BI a.W uw (.sl (f+1) 3 0 cs.length) cs' I') ?_ ?_
 ·have hlen2:x.next.length<=2:=hsc.2.2 x (List.mem_of_getElem? hgb)
  have hbg:bI<rows3.length:=by omega
  have hWt:∀q' W2,W1.length<=W2.length->FgA (rdO b q'::W2:List AO).length [(3,AV.ptr (uw+1) 1 0 0),(2,AV.ptr 1 1 0 0)] [(3,AV.ptr (uw+1) 1 0 0),(2,AV.ptr 1 1 0 0)]:=λq' W2 h=>by
   have:=(List.getElem?_eq_some_iff.1 hB1.u).1
   simp[below];omega
  have hkeep:rows3.set bI [P,N,.p (.int .i64 x.jump),.p (.int .i64 x.on),X]=rows3:=by
   obtain⟨hl,e⟩:=List.getElem?_eq_some_iff.1 a7
   rw[←e];exact List.set_getElem_self hl
  have fr1:∀{vs:List AV} {qs:List PV} {J:List Nat} (i:Nat) (o:AO),Own 2 (.dead::W1) vs qs J->i+1∉J->Own 2 (.dead::W1.set i o) vs qs J:=λi o h hn=>h.hd1 λi' hi=>List.getElem?_set_ne λe=>hn (by rw[e];exact hi)
  have ng:g1+1∉IP/\g1+1∉IN/\g1+1∉IX:=⟨λh=>(a13 _ (by simp[h])).2.1 rfl,λh=>(a13 _ (by simp[h])).2.1 rfl,λh=>(a13 _ (by simp[h])).2.1 rfl⟩
  have setg:∀j' o':Int,∃cs' I',BI (W1.set g1 (.row 5 (rows3.set bI [P,N,.p (.int .i64 j'),.p (.int .i64 o'),X]))) uw (.sl (f+1) 3 0 cs.length) cs' I':=λj' o'=>
   fin1 _ P N X j' o' x.phis x.ins x.next IP IN IX (by simp) (List.getElem?_set_self hgW) (λi _ hn _=>List.getElem?_set_ne (Ne.symm hn)) (fr1 _ _ hP ng.1) (fr1 _ _ hN ng.2.1) (fr1 _ _ hX ng.2.2) (λj h=> .inl h) (λj h=> .inl h) (λj h=>h) (λj h=>(a14 j h).1) hlen2
  simp-implicitDefEqProofs[]
  refine(aG G b hb hl q5 (by omega) 32 _).mono ?_
  rintro r h ⟨ca,rfl,rfl,_⟩
  simp-implicitDefEqProofs[aa]
  refine aF (λh0=>?_) (λh0=>?_)
  ·simp-implicitDefEqProofs[]
   refine(aG G b hb hl (q5+1) (by omega) 5 _).mono ?_
   rintro r h ⟨j1,rfl,rfl,_⟩
   simp-implicitDefEqProofs[aa,a5,a7]
   exact⟨⟨q5+1+1,_⟩,⟨by simp only;omega,by simp only;omega,setg _ _⟩,ab (by simp) (hWt _ _ (by simp<;>omega))⟩
  simp-implicitDefEqProofs[]
  refine aF (λh1=>?_) (λh1=>?_)
  ·rcases hX.row with⟨rfl,_⟩|⟨i,rX,J,hXv,_⟩
   ·simp-implicitDefEqProofs[a5,a7]
    exact⟨⟨q5+1,W1⟩,⟨by simp only;omega,by simp only;omega,_,_,hB1⟩,ab (by simp) (hWt _ _ (by simp<;>omega))⟩
   ·rw[List.length_map] at hXv
    subst hXv
    obtain⟨_,rfl,hi2,hgi⟩:=oX hX
    obtain⟨i,rfl⟩:∃i',i=i'+1:=⟨i-1,by omega⟩
    rw[List.getElem?_cons_succ] at hgi
    have hil:=(List.getElem?_eq_some_iff.1 hgi).1
    simp-implicitDefEqProofs[a5,a7]
    refine aF (λhp0=>?_) (λhp0=>?_)
    ·have hp0:0<x.next.length:=by simpa using hp0
     have hr0:(x.next.map λn=>[AV.p (.int .i64 n)])[0]?=some [.p (.int .i64 (x.next.getD 0 0))]:=by
      cases hh:x.next with
      |nil=>rw[hh] at hp0;simp at hp0
      |cons a r=>rfl
     simp-implicitDefEqProofs[a5,a7,hgi,hp0,hr0]
     refine⟨⟨q5+1,_⟩,⟨by simp only;omega,by simp only;omega,fin1 (W1.set i (.row 1 ((x.next.map λn=>[AV.p (.int .i64 n)]).set 0 [.p (.int .i64 bad)]))) P N (.sl (i+1) 1 0 x.next.length) x.jump x.on x.phis x.ins (x.next.set 0 bad) IP IN [i+1] (by simp) ?_ ?_ (fr1 _ _ hP λh=>(a14 _ h).2 (by simp)) (fr1 _ _ hN λh=>a15 _ h (by simp)) (cq ?_ (by omega) (by simp)) (λj h=> .inl h) (λj h=> .inl h) (λj h=>h) (λj h=>(a14 j h).1) (by simpa using hlen2)⟩,ab (by simp) (hWt _ _ (by simp<;>omega))⟩
     ·have hne:i≠g1:=λe=>ng.2.2 (by rw[←e];simp)
      rw[hkeep,List.getElem?_set_ne hne];exact a5
     ·intro i' _ _ hn
      refine List.getElem?_set_ne λe=>hn ?_
      rw[←e];simp
     ·rw[List.getElem?_cons_succ,List.getElem?_set_self hil,List.map_set]
    ·exact⟨⟨q5+1,W1⟩,⟨by simp only;omega,by simp only;omega,_,_,hB1⟩,ab (by simp) (hWt _ _ (by simp<;>omega))⟩
  simp-implicitDefEqProofs[]
  refine aF (λh2=>?_) (λh2=>?_)
  ·simp-implicitDefEqProofs[a5,a7]
   exact⟨⟨q5+1,_⟩,⟨by simp only;omega,by simp only;omega,setg _ _⟩,ab (by simp) (hWt _ _ (by simp<;>omega))⟩
  have hNc:(N= .nils\/∃id,N= .sl id 4 0 0)\/∃(i:Nat) (rN:List (List AV)) (A:AV) (y:Ii) (JA:List Nat),N= .sl (i+1) 4 0 x.ins.length/\W1[i]?=some (.row 4 rN)/\i<W1.length/\i≠g1/\i+1∈IN/\x.ins[0]?=some y/\0<x.ins.length/\0<rN.length/\rN[0]?=some [.p (.int .i64 y.op),.p (.int .i64 y.to),A,.p (.int .i64 y.n)]/\Own 2 (.dead::W1) [A] [aC y.args] JA/\(∀j∈JA,j∈IN/\j≠i+1)/\
   ∀(W2:List AO) (A':AV) (y':Ii) (I2:List Nat),W1.length<=W2.length->W2[i]?=some (.row 4 (rN.set 0 [.p (.int .i64 y'.op),.p (.int .i64 y'.to),A',.p (.int .i64 y'.n)]))->(∀i',i'<W1.length->i'≠i->i'+1∉JA->W2[i']?=W1[i']?)->Own 2 (.dead::W2) [A'] [aC y'.args] I2->(∀j∈I2,j∈JA\/W1.length<j)->∃cs' I',BI W2 uw (.sl (f+1) 3 0 cs.length) cs' I':=by
   rcases hN.row with⟨e1,e2,_⟩|⟨id,rN,J,e1,e2,hr,_⟩
   ·exact .inl (.inl e1)
   ·rw[List.length_map] at e1
    by_cases h0i:x.ins.length=0
    ·rw[h0i] at e1
     exact .inl (.inr ⟨_,e1⟩)
    ·obtain⟨y,hy⟩:∃y,x.ins[0]?=some y:=⟨_,List.getElem?_eq_getElem (by omega)⟩
     obtain⟨id,rN,A,JA,q1,q2,q3,q4,q5',q6,q7,q8⟩:=hN.iis hy
     have hge:=hN.ge id q6
     obtain⟨i,rfl⟩:∃i',id=i'+1:=⟨id-1,by omega⟩
     rw[List.getElem?_cons_succ] at q2
     have hil:=(List.getElem?_eq_some_iff.1 q2).1
     have hig:i≠g1:=λe=>ng.2.1 (by rw[←e];exact q6)
     refine .inr ⟨i,rN,A,y,JA,q1,q2,hil,hig,q6,hy,by omega,by omega,q4,q5',q7,λW2 A' y' I2 k0 k1 k2 k3 k4=>?_⟩
     have hINl:∀j∈IN,j<W1.length+1:=λj hj=>by have:=hN.lt j hj;simpa using this
     obtain⟨I',d1,d2⟩:=q8 (.dead::W2) A' y' I2 (by rw[List.getElem?_cons_succ];exact k1) (λj hj hn hm=>by
      have h3:=hN.ge j hj
      have h4:=hINl j hj
      obtain⟨i',rfl⟩:∃i',j=i'+1:=⟨j-1,by omega⟩
      rw[List.getElem?_cons_succ,List.getElem?_cons_succ,k2 i' (by omega) (by omega) hm]) k3 (λj hj=>(k4 j hj).imp (λh=>h) λh hm=>by have:=hINl j hm;omega)
     have fr2:∀{vs:List AV} {qs:List PV} {J:List Nat},Own 2 (.dead::W1) vs qs J->(∀j∈J,j∉IN)->Own 2 (.dead::W2) vs qs J:=λh hn=>h.hd1 λi' hi=>k2 i' (by have:=h.lt _ hi;simpa using this) (λe=>hn _ hi (e▸q6)) λhm=>hn _ hi (q7 _ hm).1
     refine fin1 W2 P N X x.jump x.on x.phis _ x.next IP I' IX k0 ?_ ?_ (fr2 hP λj hj=>(a14 j hj).1) d1 (fr2 hX λj hj hm=>a15 j hm hj) (λj h=> .inl h) (λj hj=>?_) (λj h=>h) (λj hj hm=>?_) hlen2
     ·rw[hkeep,k2 g1 hgW (Ne.symm hig) λhm=>ng.2.1 (q7 _ hm).1];exact a5
     ·intro i' hi' _ hn
      simp only[List.mem_append,not_or] at hn
      exact k2 i' hi' (λe=>hn.2.1 (e▸q6)) λhm=>hn.2.1 (q7 _ hm).1
     ·rcases d2 j hj with h|h
      ·exact .inl h
      ·exact(k4 j h).imp (λh=>(q7 j h).1) (λh=>h)
     ·rcases d2 j hm with h|h
      ·exact(a14 j hj).1 h
      ·rcases k4 j h with h|h
       ·exact(a14 j hj).1 (q7 j h).1
       ·have:=hP.lt j hj;simp at this;omega
  simp-implicitDefEqProofs[]
  refine aF (λh3=>?_) (λh3=>?_)
  ·rcases hNc with(rfl|⟨id,rfl⟩)|⟨i,rN,A,y,JA,rfl,b1,b2,b3,b4,hy0,b5,b6,b7,hA,b8,fin⟩
   ·simp-implicitDefEqProofs[a5,a7]
    exact⟨⟨q5+1,W1⟩,⟨by simp only;omega,by simp only;omega,_,_,hB1⟩,ab (by simp) (hWt _ _ (by simp<;>omega))⟩
   ·simp-implicitDefEqProofs[a5,a7]
    exact⟨⟨q5+1,W1⟩,⟨by simp only;omega,by simp only;omega,_,_,hB1⟩,ab (by simp) (hWt _ _ (by simp<;>omega))⟩
   ·obtain⟨z1,z2⟩:=hA.cell
    simp-implicitDefEqProofs[-AV.cells,-AV.isCell,aE,ag,ah,am,aj,aD,af,an,al,z1,z2,a5,a7,b1,b5,b7]
    exact⟨⟨q5+1,_⟩,⟨by simp only;omega,by simp only;omega,fin (W1.set i (.row 4 (rN.set 0 [.p (.int .i64 y.op),.p (.int .i64 bad),A,.p (.int .i64 y.n)]))) A ⟨y.op,bad,y.args,y.n⟩ JA (by simp) (List.getElem?_set_self b2) (λi' _ hn _=>List.getElem?_set_ne (Ne.symm hn)) (fr1 _ _ hA λh=>(b8 _ h).2 rfl) (λj h=> .inl h)⟩,ab (by simp) (hWt _ _ (by simp<;>omega))⟩
  simp-implicitDefEqProofs[]
  refine aF (λh4=>?_) (λh4=>?_)
  ·rcases hNc with(rfl|⟨id,rfl⟩)|⟨i,rN,A,y,JA,rfl,b1,b2,b3,b4,hy0,b5,b6,b7,hA,b8,fin⟩
   ·simp-implicitDefEqProofs[a5,a7]
    exact⟨⟨q5+1,W1⟩,⟨by simp only;omega,by simp only;omega,_,_,hB1⟩,ab (by simp) (hWt _ _ (by simp<;>omega))⟩
   ·simp-implicitDefEqProofs[a5,a7]
    exact⟨⟨q5+1,W1⟩,⟨by simp only;omega,by simp only;omega,_,_,hB1⟩,ab (by simp) (hWt _ _ (by simp<;>omega))⟩
   ·have hgp:∀t,(W1++t)[g1]?=some (.row 5 rows3):=λt=>by rw[List.getElem?_append_left hgW];exact a5
    have hip:∀t,(W1++t)[i]?=some (.row 4 rN):=λt=>by rw[List.getElem?_append_left b2];exact b1
    have hpe:=λt hh=>fJ (hgp t) hh
    have hie:=λt hh=>fJ (hip t) hh
    rcases hA.row with⟨rfl,h0,hJ0⟩|⟨a,rA,J,hAv,_⟩
    ·have h0:y.args=[]:=List.map_eq_nil_iff.1 h0
     simp-implicitDefEqProofs[a5,a7,b1,b5,b7,hgp,hip,hpe,hie]
     refine⟨⟨q5+1,_⟩,⟨by simp only;omega,by simp only;omega,fin ((W1++[AO.row 1 [[.p (.int .i64 bad)]]]).set i (.row 4 (rN.set 0 [.p (.int .i64 y.op),.p (.int .i64 y.to),.sl (W1.length+1) 1 0 1,.p (.int .i64 y.n)]))) _ ⟨y.op,y.to,[bad],y.n⟩ [W1.length+1] (by simp) (List.getElem?_set_self (by simp;omega)) (λi' hi' hn _=>by rw[List.getElem?_set_ne (Ne.symm hn),List.getElem?_append_left hi']) (cq ?_ (by omega) rfl) (λj h=> .inr (by rw[List.mem_singleton.1 h];omega))⟩,ab (by simp) (hWt _ _ (by simp<;>omega))⟩
     rw[List.getElem?_cons_succ,List.getElem?_set_ne (by omega),List.getElem?_append_right (Nat.le_refl _)];simp
    ·rw[List.length_map] at hAv
     subst hAv
     obtain⟨_,rfl,ha2,hga⟩:=oX hA
     obtain⟨a,rfl⟩:∃a',a=a'+1:=⟨a-1,by omega⟩
     rw[List.getElem?_cons_succ] at hga
     have hal:=(List.getElem?_eq_some_iff.1 hga).1
     have hai:a≠i:=λe=>(b8 (a+1) (by simp)).2 (by rw[e])
     have hag:a≠g1:=λe=>ng.2.1 (by rw[←e];exact(b8 (a+1) (by simp)).1)
     have hsz:y.args.length<=3:=hsx.2.2.2.1 y (List.mem_of_getElem? hy0)
     have htk:List.take y.args.length (y.args.map λn=>[AV.p (.int .i64 n)])=y.args.map λn=>[AV.p (.int .i64 n)]:=List.take_of_length_le (by simp)
     have n5:∀t,(W1.set a .dead++t)[g1]?=some (.row 5 rows3):=λt=>by rw[List.getElem?_append_left (by simpa using hgW),List.getElem?_set_ne hag];exact a5
     have n6:∀t,(W1.set a .dead++t)[i]?=some (.row 4 rN):=λt=>by rw[List.getElem?_append_left (by simpa using b2),List.getElem?_set_ne hai];exact b1
     have n5e:=λt hh=>fJ (n5 t) hh
     have n6e:=λt hh=>fJ (n6 t) hh
     simp-implicitDefEqProofs[a5,a7,b1,b5,b7,hgp,hip,hpe,hie,hga,htk,n5,n6,n5e,n6e]
     refine⟨⟨by omega,by omega⟩,⟨q5+1,_⟩,⟨by simp only;omega,by simp only;omega,fin ((W1.set a .dead++[AO.row 1 ((y.args.map λn=>[AV.p (.int .i64 n)])++[[.p (.int .i64 bad)]])]).set i (.row 4 (rN.set 0 [.p (.int .i64 y.op),.p (.int .i64 y.to),.sl (W1.length+1) 1 0 (y.args.length+1),.p (.int .i64 y.n)]))) _ ⟨y.op,y.to,y.args++[bad],y.n⟩ [W1.length+1] (by simp) (List.getElem?_set_self (by simp;omega)) (λi' hi' hn hna=>by rw[List.getElem?_set_ne (Ne.symm hn),List.getElem?_append_left (by simpa using hi'),List.getElem?_set_ne λe=>hna (by rw[e];simp)]) (cq ?_ (by omega) (by simp)) (λj h=> .inr (by rw[List.mem_singleton.1 h];omega))⟩,ab ?_ ?_⟩
     ·rw[List.getElem?_cons_succ,List.getElem?_set_ne (by omega),List.getElem?_append_right (by simp)];simp
     ·simp
     ·exact hWt _ _ (by simp<;>omega)
  simp-implicitDefEqProofs[]
  refine aF (λh5=>?_) (λh5=>?_)
  ·have hgp:∀t,(W1++t)[g1]?=some (.row 5 rows3):=λt=>by rw[List.getElem?_append_left hgW];exact a5
   have hpe:=λt hh=>fJ (hgp t) hh
   obtain⟨x1,x2⟩:=hX.cell
   obtain⟨n1,n2⟩:=hN.cell
   have hb1:Own 2 (.dead::(W1++[AO.row 1 [[.p (.int .i64 bad)]]])) [.p (.int .i64 0),.sl (W1.length+1) 1 0 1] (⟨0,[bad]⟩:Ph).cs [W1.length+1]:=yK (x:=⟨0,[bad]⟩) (cq (by rw[List.getElem?_cons_succ,List.getElem?_append_right (Nat.le_refl _)];simp) (by omega) rfl)
   rcases hP.row with⟨rfl,h0,hJ0⟩|⟨a,rA,J,hAv,hJ0,hr,_⟩
   ·simp-implicitDefEqProofs[-AV.cells,-AV.isCell,aE,ag,ah,am,aj,aD,af,an,al,x1,x2,n1,n2,a5,a7,hgp,hpe]
    have hfin:∀(W3:List AO) (P':AV),Psh (.dead::(W1++[AO.row 1 [[.p (.int .i64 bad)]],AO.row 2 [[.p (.int .i64 0),.sl (W1.length+1) 1 0 1]]])) .nils 2 [.p (.int .i64 0),.sl (W1.length+1) 1 0 1] (.dead::W3) P'->∃cs' I',BI (W3.set g1 (.row 5 (rows3.set bI [P',N,.p (.int .i64 x.jump),.p (.int .i64 x.on),X]))) uw (.sl (f+1) 3 0 cs.length) cs' I':=λW3 P' hp=>by
     have hb2:Own 2 (.dead::(W1++[AO.row 1 [[.p (.int .i64 bad)]],AO.row 2 [[.p (.int .i64 0),.sl (W1.length+1) 1 0 1]]])) [.p (.int .i64 0),.sl (W1.length+1) 1 0 1] (⟨0,[bad]⟩:Ph).cs [W1.length+1]:=by
      have:=hb1.more [AO.row 2 [[.p (.int .i64 0),.sl (W1.length+1) 1 0 1]]]
      rw[List.cons_append,List.append_assoc] at this
      exact this
     have hPl:∀j∈IP,j<W1.length+1:=λj hj=>by have:=hP.lt j hj;simpa using this
     obtain⟨IP',m1,m2,m3,m4⟩:=(hP.more [AO.row 1 [[.p (.int .i64 bad)]],AO.row 2 [[.p (.int .i64 0),.sl (W1.length+1) 1 0 1]]]).psh hb2 (λj hj hm=>by have:=hPl j hj;rw[List.mem_singleton.1 hm] at this;omega) rfl (by simp) hp
     simp only[List.cons_append,List.length_cons,List.length_append,List.length_nil] at m2 m3 m4
     have hnew:∀j∈IP',j∈IP\/W1.length<j:=λj hj=>by
      rcases m2 j hj with h|h|h
      ·exact .inl h
      ·exact .inr (by rw[List.mem_singleton.1 h];omega)
      ·exact .inr (by omega)
     have hsame:∀i,i<W1.length->i+1∉IP->W3[i]?=W1[i]?:=λi hi hn=>by
      have:=m3 (i+1) (by omega) hn
      rw[List.getElem?_cons_succ,List.getElem?_cons_succ,List.getElem?_append_left hi] at this
      exact this
     have hgP:g1≠g1->False:=λh=>h rfl
     have hng:∀i (o:AO),i≠g1->(W3.set g1 o)[i]?=W3[i]?:=λi o hi=>List.getElem?_set_ne (Ne.symm hi)
     have fr3:∀{vs:List AV} {qs:List PV} {J:List Nat} (o:AO),Own 2 (.dead::W1) vs qs J->(∀j∈J,j∉IP)->g1+1∉J->Own 2 (.dead::W3.set g1 o) vs qs J:=λo h hn hg=>h.hd1 λi hi=>by
      have hil:=h.lt _ hi
      simp only[List.length_cons] at hil
      rw[hng i o λe=>hg (e▸hi),hsame i (by omega) (hn _ hi)]
     refine fin1 _ P' N X x.jump x.on (x.phis++[⟨0,[bad]⟩]) x.ins x.next IP' IN IX (by simp;omega) (List.getElem?_set_self (by omega)) (λi hi hn hm=>?_) ?_ (fr3 _ hN (λj hj hm=>(a14 j hm).1 hj) ng.2.1) (fr3 _ hX (λj hj hm=>(a14 j hm).2 hj) ng.2.2) hnew (λj h=> .inl h) (λj h=>h) (λj hj hm=>?_) hlen2
     ·simp only[List.mem_append,not_or] at hm
      rw[hng i _ hn,hsame i hi hm.1]
     ·have:phL (x.phis++[⟨0,[bad]⟩])= .lst 2 (x.phis.map Ph.cs++[(⟨0,[bad]⟩:Ph).cs]):=by rw[phL,List.map_append];rfl
      rw[this]
      refine m1.hd1 λi hi=>hng i _ λe=>?_
      subst e
      rcases hnew _ hi with h|h
      ·exact ng.1 h
      ·omega
     ·rcases hnew j hj with h|h
      ·exact(a14 j h).1 hm
      ·have:=hN.lt j hm;simp at this;omega
    refine⟨⟨q5+1,_⟩,⟨by simp only;omega,by simp only;omega,hfin (W1++[AO.row 1 [[.p (.int .i64 bad)]],AO.row 2 [[.p (.int .i64 0),.sl (W1.length+1) 1 0 1]],AO.row 2 [[.p (.int .i64 0),.sl (W1.length+1) 1 0 1]]]) (.sl (W1.length+2+1) 2 0 1) (.inl ⟨rfl,by simp,by simp⟩)⟩,ab ?_ ?_⟩
    ·simp
    ·exact hWt _ _ (by simp<;>omega)
   ·rw[List.length_map] at hAv
    subst hAv
    have ha2:=hP.ge a (by rw[hJ0];simp)
    obtain⟨a,rfl⟩:∃a',a=a'+1:=⟨a-1,by omega⟩
    have hga:=hr.here
    rw[List.getElem?_cons_succ] at hga
    have hag:a≠g1:=λe=>ng.1 (by rw[←e,hJ0];simp)
    have hal:=(List.getElem?_eq_some_iff.1 hga).1
    have hrl:rA.length=x.phis.length:=by have:=hr.len;simpa using this
    have htk:List.take x.phis.length rA=rA:=List.take_of_length_le (by omega)
    have m7:∀t,(W1++t)[a]?=some (.row 2 rA):=λt=>by rw[List.getElem?_append_left hal];exact hga
    have n5:∀t t',((W1++t).set a .dead++t')[g1]?=some (.row 5 rows3):=λt t'=>by rw[List.getElem?_append_left (by simp;omega),List.getElem?_set_ne hag];exact hgp t
    have m7e:=λt hh=>fJ (m7 t) hh
    have n5e:=λt t' hh=>fJ (n5 t t') hh
    simp-implicitDefEqProofs[-AV.cells,-AV.isCell,aE,ag,ah,am,aj,aD,af,an,al,x1,x2,n1,n2,a5,a7,hgp,hpe,m7,m7e,n5,n5e,htk]
    have hfin:∀(W3:List AO) (P':AV),Psh (.dead::(W1++[AO.row 1 [[.p (.int .i64 bad)]],AO.row 2 [[.p (.int .i64 0),.sl (W1.length+1) 1 0 1]]])) (.sl (a+1) 2 0 x.phis.length) 2 [.p (.int .i64 0),.sl (W1.length+1) 1 0 1] (.dead::W3) P'->∃cs' I',BI (W3.set g1 (.row 5 (rows3.set bI [P',N,.p (.int .i64 x.jump),.p (.int .i64 x.on),X]))) uw (.sl (f+1) 3 0 cs.length) cs' I':=λW3 P' hp=>by
     have hb2:Own 2 (.dead::(W1++[AO.row 1 [[.p (.int .i64 bad)]],AO.row 2 [[.p (.int .i64 0),.sl (W1.length+1) 1 0 1]]])) [.p (.int .i64 0),.sl (W1.length+1) 1 0 1] (⟨0,[bad]⟩:Ph).cs [W1.length+1]:=by
      have:=hb1.more [AO.row 2 [[.p (.int .i64 0),.sl (W1.length+1) 1 0 1]]]
      rw[List.cons_append,List.append_assoc] at this
      exact this
     have hPl:∀j∈IP,j<W1.length+1:=λj hj=>by have:=hP.lt j hj;simpa using this
     obtain⟨IP',m1,m2,m3,m4⟩:=(hP.more [AO.row 1 [[.p (.int .i64 bad)]],AO.row 2 [[.p (.int .i64 0),.sl (W1.length+1) 1 0 1]]]).psh hb2 (λj hj hm=>by have:=hPl j hj;rw[List.mem_singleton.1 hm] at this;omega) rfl (by simp) hp
     simp only[List.cons_append,List.length_cons,List.length_append,List.length_nil] at m2 m3 m4
     have hnew:∀j∈IP',j∈IP\/W1.length<j:=λj hj=>by
      rcases m2 j hj with h|h|h
      ·exact .inl h
      ·exact .inr (by rw[List.mem_singleton.1 h];omega)
      ·exact .inr (by omega)
     have hsame:∀i,i<W1.length->i+1∉IP->W3[i]?=W1[i]?:=λi hi hn=>by
      have:=m3 (i+1) (by omega) hn
      rw[List.getElem?_cons_succ,List.getElem?_cons_succ,List.getElem?_append_left hi] at this
      exact this
     have hgP:g1≠g1->False:=λh=>h rfl
     have hng:∀i (o:AO),i≠g1->(W3.set g1 o)[i]?=W3[i]?:=λi o hi=>List.getElem?_set_ne (Ne.symm hi)
     have fr3:∀{vs:List AV} {qs:List PV} {J:List Nat} (o:AO),Own 2 (.dead::W1) vs qs J->(∀j∈J,j∉IP)->g1+1∉J->Own 2 (.dead::W3.set g1 o) vs qs J:=λo h hn hg=>h.hd1 λi hi=>by
      have hil:=h.lt _ hi
      simp only[List.length_cons] at hil
      rw[hng i o λe=>hg (e▸hi),hsame i (by omega) (hn _ hi)]
     refine fin1 _ P' N X x.jump x.on (x.phis++[⟨0,[bad]⟩]) x.ins x.next IP' IN IX (by simp;omega) (List.getElem?_set_self (by omega)) (λi hi hn hm=>?_) ?_ (fr3 _ hN (λj hj hm=>(a14 j hm).1 hj) ng.2.1) (fr3 _ hX (λj hj hm=>(a14 j hm).2 hj) ng.2.2) hnew (λj h=> .inl h) (λj h=>h) (λj hj hm=>?_) hlen2
     ·simp only[List.mem_append,not_or] at hm
      rw[hng i _ hn,hsame i hi hm.1]
     ·have:phL (x.phis++[⟨0,[bad]⟩])= .lst 2 (x.phis.map Ph.cs++[(⟨0,[bad]⟩:Ph).cs]):=by rw[phL,List.map_append];rfl
      rw[this]
      refine m1.hd1 λi hi=>hng i _ λe=>?_
      subst e
      rcases hnew _ hi with h|h
      ·exact ng.1 h
      ·omega
     ·rcases hnew j hj with h|h
      ·exact(a14 j h).1 hm
      ·have:=hN.lt j hm;simp at this;omega
    have hphl:=hsx.1
    refine⟨⟨by omega,by omega,by omega⟩,⟨q5+1,_⟩,⟨by simp only;omega,by simp only;omega,hfin ((W1++[AO.row 1 [[.p (.int .i64 bad)]],AO.row 2 [[.p (.int .i64 0),.sl (W1.length+1) 1 0 1]]]).set a .dead++[AO.row 2 (rA++[[.p (.int .i64 0),.sl (W1.length+1) 1 0 1]])]) (.sl (W1.length+2+1) 2 0 (x.phis.length+1)) (.inr ⟨a+1,rA,_,rfl,by rw[List.getElem?_cons_succ];exact m7 _,hrl,by simp,by simp⟩)⟩,ab ?_ ?_⟩
    ·simp
    ·exact hWt _ _ (by simp<;>omega)
  simp-implicitDefEqProofs[]
  refine aF (λh6=>?_) (λh6=>?_)
  ·simp-implicitDefEqProofs[a2,a4]
   refine(aG G b hb hl (q5+1) (by omega) 2 _).mono ?_
   rintro r h ⟨j1,rfl,rfl,_⟩
   simp-implicitDefEqProofs[aa,a2,a4]
   exact⟨⟨q5+1+1,_⟩,⟨by simp only;omega,by simp only;omega,fin2 _ _ (List.getElem?_set_self hfW) (by simp) (λi _ hn=>List.getElem?_set_ne (Ne.symm hn))⟩,ab (by simp) (hWt _ _ (by simp<;>omega))⟩
  simp-implicitDefEqProofs[]
  refine aF (λh7=>?_) (λh7=>?_)
  ·rcases hNc with(rfl|⟨id,rfl⟩)|⟨i,rN,A,y,JA,rfl,b1,b2,b3,b4,hy0,b5,b6,b7,hA,b8,fin⟩
   ·simp-implicitDefEqProofs[a5,a7]
    exact⟨⟨q5+1,W1⟩,⟨by simp only;omega,by simp only;omega,_,_,hB1⟩,ab (by simp) (hWt _ _ (by simp<;>omega))⟩
   ·simp-implicitDefEqProofs[a5,a7]
    exact⟨⟨q5+1,W1⟩,⟨by simp only;omega,by simp only;omega,_,_,hB1⟩,ab (by simp) (hWt _ _ (by simp<;>omega))⟩
   ·obtain⟨z1,z2⟩:=hA.cell
    simp-implicitDefEqProofs[-AV.cells,-AV.isCell,aE,ag,ah,am,aj,aD,af,an,al,z1,z2,a5,a7,b1,b5,b7]
    refine(Jm G hb hl (p:=q5+1) (by omega) [256,-1,1] (by simp) (by simp) W1).mono ?_
    rintro r h ⟨nn,rfl,rfl⟩
    simp-implicitDefEqProofs[-AV.cells,-AV.isCell,aE,ag,ah,am,aj,aD,af,an,al,z1,z2,aa,a5,a7,b1,b5,b7]
    exact⟨⟨q5+1+1,_⟩,⟨by simp only;omega,by simp only;omega,fin (W1.set i (.row 4 (rN.set 0 [.p (.int .i64 y.op),.p (.int .i64 y.to),A,.p (.int .i64 nn)]))) A ⟨y.op,y.to,y.args,nn⟩ JA (by simp) (List.getElem?_set_self b2) (λi' _ hn _=>List.getElem?_set_ne (Ne.symm hn)) (fr1 _ _ hA λh=>(b8 _ h).2 rfl) (λj h=> .inl h)⟩,ab (by simp) (hWt _ _ (by simp<;>omega))⟩
  ·exact⟨⟨q5+1,W1⟩,⟨by simp only;omega,by simp only;omega,_,_,hB1⟩,ab (by simp) (hWt _ _ (by simp<;>omega))⟩
 ·rintro⟨q,W⟩ ⟨hq1,hq2,cs',I',hB'⟩
  simp only at hq1 hq2 hB'⊢
  have hs0:∀o,(W.set 0 o)[0]?=some o:=λo=>List.getElem?_set_self (List.getElem?_eq_some_iff.1 hB'.res).1
  have hwu:=hB'.u
  have hwr:=hB'.res
  simp-implicitDefEqProofs[hB'.u,hB'.res,hs0]
  have hown:Own 2 (.dead::W.set 0 (.row 1 [[.sl (f+1) 3 0 cs.length]])) [.sl (f+1) 3 0 cs.length] [cdL cs'] I':=hB'.own.hd1 λi hi=>List.getElem?_set_ne λe=>by have:=hB'.own.ge _ hi;omega
  exact⟨_,_,q,.agg [.p (cdL cs')],rfl,rfl,.agg (.one hown.view .nil) .nil,⟨cs',rfl,hB'.g⟩,hq1,by omega⟩
end
section
abbrev Vs:=List (List UInt8 × Nat)
def nN(p:List UInt8 × Nat):List AV:=[.p (.str p.1),.p (.int .i64 p.2),.p (.int .i64 0)]
def rgV(vs:Vs)(s:List UInt8):Int:=vs.foldl (λr p=>if p.1=s then(p.2:Int) else r) (-1)
theorem uc(vs:Vs)(p:List UInt8 × Nat)(s:List UInt8):rgV (vs++[p]) s=if p.1=s then(p.2:Int) else rgV vs s:=by
 simp[rgV,List.foldl_append]
def vi:AV->List Nat
 | .sl id _ _ _=>[id]
 |_=>[]
inductive VAt (X:List AO):AV->Vs->Prop where
 |nil:VAt X .nils []
 |sl (vid:Nat) (rows:List (List AV)) (vs:Vs):X[vid]?=some (.row 3 rows)->rows.take vs.length=vs.map nN->VAt X (.sl vid 3 0 vs.length) vs
section
variable {X X2:List AO} {V:AV} {vs:Vs}
theorem VAt.frame(H:VAt X V vs)(e:∀i∈vi V,X2[i]?=X[i]?):VAt X2 V vs:=by
 cases H with
 |nil=>exact .nil
 |sl vid rows _ h1 h2=>exact .sl vid rows vs (by rw[e vid (by simp[vi])];exact h1) h2
theorem VAt.lt(H:VAt X V vs):∀i∈vi V,i<X.length:=by
 cases H with
 |nil=>intro i hi;cases hi
 |sl vid rows _ h1 h2=>intro i hi;rw[List.mem_singleton.1 hi];exact(List.getElem?_eq_some_iff.1 h1).1
theorem VAt.more(H:VAt X V vs)(os:List AO):VAt (X++os) V vs:=H.frame λi hi=>List.getElem?_append_left (H.lt i hi)
theorem VAt.is(H:VAt X V vs):V.cells=[V]/\V.isCell=true/\below X.length V:=by
 cases H with
 |nil=>exact⟨rfl,rfl,trivial⟩
 |sl vid rows _ h1 h2=>exact⟨rfl,rfl,(List.getElem?_eq_some_iff.1 h1).1⟩
theorem VAt.at(H:VAt X V vs){i:Nat}(hi:i<vs.length):∃vid rows,V= .sl vid 3 0 vs.length/\X[vid]?=some (.row 3 rows)/\rows[i]?=some (nN vs[i]):=by
 cases H with
 |nil=>cases hi
 |sl vid rows _ h1 h2=>
  refine⟨vid,rows,rfl,h1,?_⟩
  have h3:(rows.take vs.length)[i]?=some (nN vs[i]):=by rw[h2,List.getElem?_map,List.getElem?_eq_getElem hi];rfl
  rwa[List.getElem?_take_of_lt hi] at h3
end
variable (G:az)
theorem jH{l:List Fd}{pr:Int}{V:AV}{nx L:Nat}{w:Lw}{h:List AO}{K:AV}{I:List Nat}(H:LS (lwR l pr V nx) L w h K I)(hw:w.regs<=1073741824):
 AC Tryz.prog G bv [.ptr L 8 0 0] h λx h'=>x= .ret (.p (.int .i64 w.regs))/\LR (lwR l pr V nx) L w.reg I h h':=
 (Hp G H hw).mono λx h' ⟨a,b⟩=>⟨a,K,I,b▸H.swap rfl,b▸⟨by simp,λi _ hn=>List.getElem?_set_ne λe=>hn (by simp[e])⟩,λj hj=> .inl hj⟩
theorem Fb{l:List Fd}{pr:Int}{V:AV}{nx L:Nat}{w:Lw}{h:List AO}{K:AV}{vs:Vs}(hg:h[L]?=some (lwR l pr V nx w K))(hv:VAt h V vs)(hl:vs.length<=1073741824)(s:List UInt8):
 AC Tryz.prog G dj [.ptr L 8 0 0,.p (.str s)] h λx h'=>x= .ret (.p (.int .i64 (rgV vs s)))/\h'=h:=by
 obtain⟨v1,v2,v3⟩:=hv.is
 have hLl:=(List.getElem?_eq_some_iff.1 hg).1
 simp only[lwR] at hg
 have hlen:V= .nils/\vs.length=0\/∃vid,V= .sl vid 3 0 vs.length:=by
  cases hv with
  |nil=>exact .inl ⟨rfl,rfl⟩
  |sl vid rows _ _ _=>exact .inr ⟨vid,rfl⟩
 refine AC.go rd ?_
 rcases hlen with⟨rfl,h0⟩|⟨vid,rfl⟩
 ·have h0:=List.length_eq_zero_iff.1 h0
  subst h0
  simp-implicitDefEqProofs[fe,hg]
  refine aH (λ_:Unit=>aw 34 [(5,.p (.int .i64 (-1))),(0,.ptr L 8 0 0),(1,.p (.str s))]) (λ_=>h) (λ_=>True) (λ_=>0) () trivial ?_ ?_
  ·exact ab (Nat.le_refl _) (by simp[below,hLl,show IntKind.i64.wrap (-1)= -1 from ae (by omega) (by omega)])
  rintro⟨⟩ _
  simp-implicitDefEqProofs[rgV]
 ·have hwl:IntKind.i64.wrap ((vs.length:Int)-1)=(vs.length:Int)-1:=ae (by omega) (by omega)
  simp-implicitDefEqProofs[fe,hg,hwl]
  refine aH (λk:Nat=>aw 34 [(5,.p (.int .i64 ((k:Int)-1))),(0,.ptr L 8 0 0),(1,.p (.str s))]) (λ_=>h) (λk=>k<=vs.length/\rgV vs s=rgV (vs.take k) s) (λk=>k) vs.length ⟨Nat.le_refl _,by rw[List.take_length]⟩ ?_ ?_
  ·exact ab (Nat.le_refl _) (by simp[below,hLl])
  rintro k ⟨hk,he⟩
  cases k with
  |zero=>
   rw[List.take_zero] at he
   rw[he]
   simp-implicitDefEqProofs[rgV]
  |succ j=>
   have hj:j<vs.length:=hk
   obtain⟨vid2,rows,e1,e2,e3⟩:=hv.at hj
   cases e1
   rw[ay hj,uc] at he
   have ej:((j+1:Nat):Int)-1=j:=by omega
   generalize vs[j]=p at*
   obtain⟨q,n⟩:=p
   simp only[nN] at e3 he
   simp-implicitDefEqProofs[ej,hg,e2,e3,hj]
   refine aF (λc=>?_) (λc=>?_)
   ·have c:q=s:=by simpa using c
    rw[he,if_pos c]
    simp-implicitDefEqProofs[hg,e2,e3,hj]
   ·have c:¬q=s:=by simpa using c
    rw[if_neg c] at he
    have hw2:IntKind.i64.wrap ((j:Int)-1)=(j:Int)-1:=ae (by omega) (by omega)
    simp-implicitDefEqProofs[hw2]
    exact⟨j,⟨by omega,he⟩,by omega,ab (Nat.le_refl _) (by simp[below,hLl])⟩
end
end Go.Proofs.YtdfplkcigiblcaaGreat
