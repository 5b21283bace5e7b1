/-
  Contracts and lemmas that the card needs, part 7.
-/
import Derived.Test.YtdfplkcigiblcaaGreatFb6
namespace Go.Proofs.YtdfplkcigiblcaaGreat
open Go Go.Aw
set_option maxRecDepth 100000
set_option maxHeartbeats 4000000
section
theorem sS:AK.whole ip=FK.ak gZ:=rfl
variable (G:aB)
theorem UI.le{m m':Nat}{W:List AO}{V:AV}{cs:List Cd}{I:List Nat}(H:UI m W V cs I)(h:m<=m'):UI m' W V cs I:=
 ⟨H.len,H.res,H.u,H.own,λc hc=>⟨(H.sm c hc).1,(H.sm c hc).2.1,(H.sm c hc).2.2.1,λy hy=>by obtain⟨a1,a2⟩:=(H.sm c hc).2.2.2 y hy;exact⟨by omega,a2⟩⟩,H.nil⟩
structure PiS where (q:Nat) (W:List AO) (A:AV) (args:List Int)
theorem CN{f:FuncId}{args:List AV}{l:List Int}(H:AC Tryz.prog G f args [] λr h=>∃id,r= .ret (.sl id 1 0 l.length)/\h[id]?=some (.row 1 (aq l))):AC Tryz.prog G f args [] λr h=>r= .ret (.sl 0 1 0 l.length)/\h=[.row 1 (aq l)]:=
 H.gc (λt v h ⟨_,e,_⟩=>by cases e) λv h ⟨id,e1,e2⟩=>by
  cases e1
  refine⟨.sl 0 1 0 l.length,[.row 1 (aq l)],⟨[id],by simp,λi hi=>by simp at hi,by simp,by simp[below],by simp[ren],cG e2 (λx hx=>by obtain⟨n,_,rfl⟩:=List.mem_map.1 hx;simp[below]) gn⟩,rfl,rfl⟩
theorem CC(n:Nat)(l:List Int):cb n (.row 1 (aq l))= .row 1 (aq l):=by simp[cb,aq,cn,bl]
structure UnS2 where (i:Int) (q:Nat) (W:List AO)
def SmU(cs:List Cd):Prop:=cs≠[]/\cs.length<=3/\∀c∈cs,SmCd 3 c
theorem vG{b:List Int}(hb:Byt b)(hl:b.length<=2000){p:Nat}(hp:p<=800000000000):AC Tryz.prog G cW [.ptr 0 2 0 0] [rdO b p] λx h=>∃v q,x= .ret v/\h=[rdO b q]/\(∃cs,v= .agg [.p (cdL cs)]/\SmU cs)/\p<=q/\q<=p+4000:=by
 refine gy G (AC.goK sG sS ?_)
 simp-implicitDefEqProofs[ip,gZ]
 refine gm (λa:UnS2=>aC 95 [(3,.ptr 2 1 0 0),(2,.ptr 1 1 0 0),(0,.ptr 0 2 0 0)]) (λa=>rdO b a.q::a.W) (λa=>p<=a.q/\a.q<=p+3100/\∃V cs I,UI 0 a.W V cs I/\cs≠[]/\cs.length<=3) ?_ ?_
 ·simp-implicitDefEqProofs[]
  refine(rz G hb hl (by omega) (R:=[.row 1 [[.nils]],.row 1 [[.nils]]]) [1,2,1,3] 0 (by simp) rfl (by simp) (by simp)).mono ?_
  rintro r h ⟨i0,hi0,rfl,rfl⟩
  have hi0:1<=i0/\i0<=3:=by simp at hi0;omega
  simp-implicitDefEqProofs[aa]
  refine aH (λa:UnS2=>aC 95 [(4,.p (.int .i64 a.i)),(3,.ptr 2 1 0 0),(2,.ptr 1 1 0 0),(0,.ptr 0 2 0 0)]) (λa=>rdO b a.q::a.W)
   (λa=>0<=a.i/\p<=a.q/\a.q+1000*a.i.toNat<=p+3001/\∃V cs I,UI 0 a.W V cs I/\(cs.length:Int)+a.i=i0) (λa=>a.i.toNat) ⟨i0,p+1,_⟩ ⟨by simp only;omega,by simp only;omega,by simp only;omega,.nils,[],[],⟨?_,?_,?_,Own.nil _ _ 3,λc hc=>(by cases hc),λ_=>rfl⟩,by simp⟩ (ab ?_ ?_) ?_
  rotate_left 3
  ·simp
  ·simp[below]
  rotate_left 1
  ·simp
  ·rfl
  ·rfl
  rintro⟨i,q,W⟩ ⟨hi,hq1,hq2,V,cs,I,hU,hlen⟩
  simp only at hi hq1 hq2 hU hlen⊢
  have hWl:=hU.len
  have hu1:∀t,(W++t)[1]?=some (.row 1 [[V]]):=λt=>by rw[List.getElem?_append_left (by omega)];exact hU.u
  obtain⟨v1,v2⟩:=hU.own.cell
  simp-implicitDefEqProofs[]
  refine aG (λhc=>?_) (λhc=>?_)
  ·have hc:0<i:=by simpa using hc
   have hw1:IntKind.i64.wrap (i-1)=i-1:=ae (by omega) (by omega)
   simp-implicitDefEqProofs[-AV.cells,-AV.isCell,aE,ag,ah,an,al,aD,af,am,aj,v1,v2,hU.u]
   refine(El G hb hl (by omega) W V cs (hU.own.cdsAt (λc hc=>(hU.sm c hc).1) hU.nil)).mono ?_
   rintro r h ⟨c,B,IB,q2,os,rfl,rfl,hB,hcs,g1,g2⟩
   obtain⟨b1,b2⟩:=hB.cell
   obtain⟨W2,hW2⟩:∃W2,W2=W++os:=⟨_,rfl⟩
   have hu2:∀t,(W2++t)[1]?=some (.row 1 [[V]]):=λt=>by rw[hW2,List.append_assoc];exact hu1 _
   have hu20:=hu2 []
   rw[List.append_nil] at hu20
   have hu2e:=λt hh=>ep (hu2 t) hh
   rw[←hW2]
   rcases hU.at with⟨rfl,rfl⟩|⟨f,rows,rfl,hfl,hf2,hg,hrl⟩
   ·simp-implicitDefEqProofs[-AV.cells,-AV.isCell,aE,ag,ah,an,al,aD,af,am,aj,v1,v2,b1,b2,aa,hu2,hu20,hu2e]
    have hp:Psh (.dead::(W++os++[.row 3 [[.p (.int .i64 c.params),.p (.int .i64 c.regs),B]]])) .nils 3 [.p (.int .i64 c.params),.p (.int .i64 c.regs),B] (.dead::(W2++[.row 3 [[.p (.int .i64 c.params),.p (.int .i64 c.regs),B]],.row 3 [[.p (.int .i64 c.params),.p (.int .i64 c.regs),B]]])) (.sl (W2.length+1+1) 3 0 1):= .inl ⟨rfl,by rw[hW2];simp,by rw[hW2];simp<;>omega⟩
    obtain⟨I',hI'⟩:=hU.push hB hcs hp
    refine⟨⟨i-1,q2,_⟩,⟨by simp only;omega,by simp only;omega,by simp only;omega,_,_,⟨_,hI'⟩,by simp at hlen⊢;omega⟩,by simp only;omega,ab ?_ ?_⟩
    ·simp
    ·simp[below,hw1]
     try omega
   ·have hg2:∀t,(W2++t)[f]?=some (.row 3 rows):=λt=>by rw[hW2,List.append_assoc,List.getElem?_append_left hfl];exact hg
    have htk:List.take cs.length rows=rows:=List.take_of_length_le (by omega)
    have hu3:∀t t',((W2++t).set f .dead++t')[1]?=some (.row 1 [[.sl (f+1) 3 0 cs.length]]):=λt t'=>by
     rw[List.getElem?_append_left (by rw[hW2];simp;omega),List.getElem?_set_ne (by omega)];exact hu2 t
    have hu3e:=λt t' hh=>ep (hu3 t t') hh
    simp-implicitDefEqProofs[-AV.cells,-AV.isCell,aE,ag,ah,an,al,aD,af,am,aj,v1,v2,b1,b2,aa,hu2,hu20,hg2,htk,hu3,hu2e,hu3e]
    have hp:Psh (.dead::(W++os++[.row 3 [[.p (.int .i64 c.params),.p (.int .i64 c.regs),B]]])) (.sl (f+1) 3 0 cs.length) 3 [.p (.int .i64 c.params),.p (.int .i64 c.regs),B] (.dead::((W2++[AO.row 3 [[.p (.int .i64 c.params),.p (.int .i64 c.regs),B]]]).set f .dead++[.row 3 (rows++[[.p (.int .i64 c.params),.p (.int .i64 c.regs),B]])])) (.sl (W2.length+1+1) 3 0 (cs.length+1)):= .inr ⟨f+1,rows,cs.length,rfl,by rw[List.getElem?_cons_succ,←hW2];exact hg2 _,hrl,by rw[hW2];simp,by rw[hW2];simp<;>omega⟩
    obtain⟨I',hI'⟩:=hU.push hB hcs hp
    refine⟨⟨by omega,by omega,by omega⟩,⟨i-1,q2,_⟩,⟨by simp only;omega,by simp only;omega,by simp only;omega,_,_,⟨_,hI'⟩,by simp at hlen⊢;omega⟩,by simp only;omega,ab ?_ ?_⟩
    ·simp
    ·simp[below,hw1]
     try omega
  ·have hc:i<=0:=by simpa using hc
   refine⟨⟨0,q,W⟩,⟨hq1,by simp only;omega,V,cs,⟨I,hU⟩,λh=>by rw[h] at hlen;simp at hlen;omega,by omega⟩,ab ?_ ?_⟩
   ·simp
   ·simp[below]
    try omega
 rintro⟨_,q,W⟩ ⟨hq1,hq2,V,cs,I,hU,h0,hlen⟩
 simp only at hq1 hq2 hU⊢
 simp-implicitDefEqProofs[]
 have hWl:=hU.len
 refine(iZ G hb hl (by omega) [0,0,1,3] (by simp) (by simp) (by omega) rfl (by rw[List.getElem?_cons_succ,List.getElem?_append_right (by omega),Nat.sub_self];rfl)).mono ?_
 rintro r h ⟨i0,hi0,rfl,rfl⟩
 have hi0:0<=i0/\i0<=3:=by simp at hi0;omega
 simp-implicitDefEqProofs[aa]
 refine aH (λa:UnS2=>aC 95 [(5,.p (.int .i64 a.i)),(3,.ptr 2 1 0 0),(2,.ptr 1 1 0 0),(0,.ptr 0 2 0 0)]) (λa=>rdO b a.q::a.W)
  (λa=>0<=a.i/\a.i<=3/\p<=a.q/\a.q+20*a.i.toNat<=p+3200/\∃V cs I,UI (3-a.i.toNat) a.W V cs I/\cs≠[]/\cs.length<=3) (λa=>a.i.toNat) ⟨i0,q+1,_⟩ ⟨hi0.1,hi0.2,by simp only;omega,by simp only;omega,V,cs,I,(hU.more _).le (Nat.zero_le _),h0,hlen⟩ (ab (by simp) (by simp[below];omega)) ?_
 clear hU h0 hlen hWl hq1 hq2 q W V cs I
 rintro⟨j,q,W⟩ ⟨hj0,hj3,hq1,hq2,V,cs,I,hU,h0,hlen⟩
 simp only at hj0 hj3 hq1 hq2 hU⊢
 have hWl:=hU.len
 simp-implicitDefEqProofs[]
 refine aG (λhc=>?_) (λhc=>?_)
 ·have hc:0<j:=by simpa using hc
  have hw1:IntKind.i64.wrap (j-1)=j-1:=ae (by omega) (by omega)
  rcases hU.at with⟨rfl,rfl⟩|⟨f,rows,rfl,hfl,hf2,hg,hrl⟩
  ·exact absurd rfl h0
  simp-implicitDefEqProofs[hU.u]
  refine(aI G b hb hl q (by omega) _ W).mono ?_
  rintro r h ⟨k,rfl,rfl,hk⟩
  have hkl:k<cs.length:=by
   have:=List.length_pos_iff.2 h0
   omega
  have hgk:=List.getElem?_eq_getElem hkl
  generalize cs[k]=c at hgk
  have hsc:=hU.sm c (List.mem_of_getElem? hgk)
  have hb1:=hsc.2.1
  simp-implicitDefEqProofs[aa,hU.u,hkl]
  obtain⟨g,rows2,hrk,hgg,hgl,hg2,hr2l⟩:∃g rows2,rows[k]?=some [.p (.int .i64 c.params),.p (.int .i64 c.regs),.sl (g+1) 5 0 c.blocks.length]/\W[g]?=some (.row 5 rows2)/\g<W.length/\2<=g/\rows2.length=c.blocks.length:=by
   obtain⟨x0,hx0⟩:∃x,c.blocks[0]?=some x:=⟨_,List.getElem?_eq_getElem (by omega)⟩
   obtain⟨id,rows',gid,rows2,r,Jb,q1,q2,q3,q4,q5,q6,q7,q8,q9,q10,q11,q12,q13⟩:=hU.own.blk hgk hx0
   cases q1
   rw[List.getElem?_cons_succ,hg] at q2
   cases q2
   have:=hU.own.ge gid q10
   obtain⟨g,rfl⟩:∃g,gid=g+1:=⟨gid-1,by omega⟩
   rw[List.getElem?_cons_succ] at q5
   exact⟨g,rows2,q4,q5,(List.getElem?_eq_some_iff.1 q5).1,by omega,q6⟩
  simp-implicitDefEqProofs[hg,hrk]
  refine(aI G b hb hl (q+1) (by omega) _ W).mono ?_
  rintro r h ⟨bI,rfl,rfl,hbI⟩
  have hbl:bI<c.blocks.length:=by omega
  have hgb:=List.getElem?_eq_getElem hbl
  generalize c.blocks[bI]=x at hgb
  simp-implicitDefEqProofs[aa,hg,hrk]
  refine(aI G b hb hl (q+1+1) (by omega) _ W).mono ?_
  rintro r h ⟨to,rfl,rfl,_⟩
  simp-implicitDefEqProofs[aa]
  have hP:=hU.phi (to:Int)
  obtain⟨pw,hpw⟩:∃pw,pw=W.length:=⟨_,rfl⟩
  rw[←hpw] at hP
  have hfe:W[f]?=some (.row 3 rows):=hg
  refine gm (λa:PiS=>aC 95 [(8,.ptr (pw+1) 2 0 0),(7,.p (.int .i64 bI)),(6,.ptr (f+1) 3 k 0),(5,.p (.int .i64 j)),(3,.ptr 2 1 0 0),(2,.ptr 1 1 0 0),(0,.ptr 0 2 0 0)]) (λa=>rdO b a.q::a.W)
   (λa=>q+3<=a.q/\a.q<=q+12/\a.args.length<=7/\∃I,PI (3-j.toNat) a.W (.sl (f+1) 3 0 cs.length) a.A cs a.args to pw I) ?_ ?_
  ·have hfm:∀t,(W++t)[f]?=some (.row 3 rows):=λt=>by rw[List.getElem?_append_left hfl];exact hg
   simp-implicitDefEqProofs[hfm,hrk]
   have hcb:c.blocks.length<=1073741824/\∀x∈c.blocks,x.next.length<=1073741824:=⟨by have:=hsc.2.2.1;omega,λx hx=>by have:=(hsc.2.2.2 x hx).2.2.1;omega⟩
   have hpr:=CN G (sv G c bI hcb.1 hcb.2)
   have hpl:=lU c.blocks (bI:Int)
   have hb7:=hsc.2.2.1
   generalize hpq:dk c.blocks (bI:Int)=pr at hpr hpl
   have hview:View (rdO b (q+1+1+1)::(W++[AO.row 2 [[AV.p (.int .i64 to),.nils]]])) (.sl (g+1) 5 0 c.blocks.length) (bkL c.blocks):=by
    obtain⟨x0,hx0⟩:∃x,c.blocks[0]?=some x:=⟨_,List.getElem?_eq_getElem (by omega)⟩
    obtain⟨_,_,I1,I2,e1,rfl,h1,h2⟩:=hP.own.one
    cases e1
    obtain⟨id,rows',B,Ji,q1,q2,q3,q4,q5,q6,q7,q8⟩:=h1.cds hgk
    cases q1
    rw[List.getElem?_cons_succ,hfm] at q2
    cases q2
    rw[hrk] at q4
    cases q4
    exact(q5.hd1 (o':=rdO b (q+1+1+1)) λi hi=>rfl).view
   refine(AC.lend hpr (h:=rdO b (q+1+1+1)::(W++[AO.row 2 [[AV.p (.int .i64 to),.nils]]])) (args:=[.agg [.p (.int .i64 c.params),.p (.int .i64 c.regs),.sl (g+1) 5 0 c.blocks.length],.p (.int .i64 bI)]) (.agg (.keep (by simp[below]) (.keep (by simp[below]) (.one hview .nil))) (.keep (by simp[below]) .nil)) rfl (by simp[cleanO,aq,dh,clean])).mono ?_
   rintro r h ⟨rfl,rfl⟩
   simp-implicitDefEqProofs[aa,bl,CC]
   refine aH (λa:PiS=>aC 95 [(60,.p (.int .i64 a.args.length)),(59,.p (.int .i64 pr.length)),(8,.ptr (pw+1) 2 0 0),(7,.p (.int .i64 bI)),(6,.ptr (f+1) 3 k 0),(5,.p (.int .i64 j)),(3,.ptr 2 1 0 0),(2,.ptr 1 1 0 0),(0,.ptr 0 2 0 0)]) (λa=>rdO b a.q::a.W)
    (λa=>q+3<=a.q/\a.q<=q+3+a.args.length/\a.args.length<=pr.length/\(∃I,PI (3-j.toNat) a.W (.sl (f+1) 3 0 cs.length) a.A cs a.args to pw I)/\a.W[f]?=some (.row 3 rows)) (λa=>pr.length-a.args.length) ⟨q+1+1+1,W++[AO.row 2 [[AV.p (.int .i64 to),.nils]],.row 1 (aq pr)],.nils,[]⟩ ⟨by simp only;omega,by simp only;omega,Nat.zero_le _,⟨I,?_⟩,hfm _⟩ (ab ?_ ?_) ?_
   ·have:=hP.fr (W2:=W++[AO.row 2 [[AV.p (.int .i64 to),.nils]],.row 1 (aq pr)]) (λi hi=>by
     have e:W++[AO.row 2 [[AV.p (.int .i64 to),.nils]],.row 1 (aq pr)]=(W++[AO.row 2 [[AV.p (.int .i64 to),.nils]]])++[.row 1 (aq pr)]:=by simp
     rw[e,List.getElem?_append_left hi]) (by simp)
    exact this
   ·simp
   ·simp[below];omega
   clear hP hview hpr hfm
   rintro⟨q3,W3,A,args⟩ ⟨g1,g2,g3,⟨I3,hP⟩,hf3⟩
   simp only at g1 g2 g3 hP hf3⊢
   have hpl3:=hP.lt
   obtain⟨a1,a2⟩:A.cells=[A]/\A.isCell=true:=by
    obtain⟨_,_,_,_,e1,_,_,h2⟩:=hP.own.one
    cases e1
    exact h2.cell
   simp-implicitDefEqProofs[]
   refine aG (λhc3=>?_) (λhc3=>?_)
   ·have hc3:args.length<pr.length:=by simpa using hc3
    have hw3:=w1 (i:=args.length) (by omega)
    simp-implicitDefEqProofs[-AV.cells,-AV.isCell,aE,ag,ah,an,al,aD,af,am,aj,a1,a2,hP.x,hf3,hrk]
    refine(aI G b hb hl q3 (by omega) _ W3).mono ?_
    rintro r h ⟨k4,rfl,rfl,_⟩
    have hA:(A= .nils/\args=[])\/∃i,A= .sl (i+1) 1 0 args.length/\W3[i]?=some (.row 1 (args.map λn=>[AV.p (.int .i64 n)]))/\i<W3.length/\i≠pw/\i≠f:=by
     have hxn:=hP.xn
     have hnd:=hP.own.nd
     obtain⟨_,_,I1,I2,e1,rfl,h1,h2⟩:=hP.own.one
     cases e1
     rw[List.nodup_append] at hnd
     rcases h2.row with⟨e1,e2,_⟩|⟨id,rows',J,e1,e2,hr',_⟩
     ·exact .inl ⟨e1,List.map_eq_nil_iff.1 e2⟩
     ·rw[List.length_map] at e1
      subst e1
      obtain⟨_,e3,e4,e5⟩:=nj h2
      subst e3
      obtain⟨i,rfl⟩:∃i,id=i+1:=⟨id-1,by omega⟩
      rw[List.getElem?_cons_succ] at e5
      obtain⟨id3,_,_,_,q1,_,_,_,_,q6,_⟩:=h1.cds hgk
      cases q1
      refine .inr ⟨i,rfl,e5,(List.getElem?_eq_some_iff.1 e5).1,λe=>hxn ?_,λe=>hnd.2.2 _ q6 (i+1) (by simp) (by rw[e])⟩
      rw[←e];simp
    rcases hA with⟨rfl,rfl⟩|⟨i,rfl,hgi,hil,hip,hif⟩
    ·have hx:∀t,(W3++t)[pw]?=some (.row 2 [[.p (.int .i64 to),.nils]]):=λt=>by rw[List.getElem?_append_left hpl3];exact hP.x
     have hp:Psh (.dead::W3) .nils 1 [.p (.int .i64 k4)] (.dead::(W3++[.row 1 [[.p (.int .i64 k4)]]])) (.sl (W3.length+1) 1 0 1):= .inl ⟨rfl,rfl,rfl⟩
     obtain⟨I',hI'⟩:=hP.arg hp
     simp-implicitDefEqProofs[aa,hP.x,hx]
     have hw11:IntKind.i64.wrap 1=1:=ae (by omega) (by omega)
     simp only[List.length_nil] at g2 hc3
     refine⟨⟨q3+1,_,_,[(k4:Int)]⟩,⟨by simp only;omega,by simp only[List.length_cons,List.length_nil];omega,hc3,⟨_,hI'⟩,?_⟩,by simp only[List.length_cons,List.length_nil];omega,ab ?_ ?_⟩
     ·rw[List.getElem?_set_ne (by omega),List.getElem?_append_left (by omega)];exact hf3
     ·simp
     ·simp[below,hw11]
      omega
    ·have hx:∀t,(W3.set i .dead++t)[pw]?=some (.row 2 [[.p (.int .i64 to),.sl (i+1) 1 0 args.length]]):=λt=>by rw[List.getElem?_append_left (by simpa using hpl3),List.getElem?_set_ne hip];exact hP.x
     have htk:List.take args.length (args.map λn=>[AV.p (.int .i64 n)])=args.map λn=>[AV.p (.int .i64 n)]:=List.take_of_length_le (by simp)
     have hp:Psh (.dead::W3) (.sl (i+1) 1 0 args.length) 1 [.p (.int .i64 k4)] (.dead::(W3.set i .dead++[.row 1 ((args.map λn=>[AV.p (.int .i64 n)])++[[.p (.int .i64 k4)]])])) (.sl (W3.length+1) 1 0 (args.length+1)):= .inr ⟨i+1,_,_,rfl,by rw[List.getElem?_cons_succ];exact hgi,by simp,by simp,by simp⟩
     obtain⟨I',hI'⟩:=hP.arg hp
     simp-implicitDefEqProofs[aa,hP.x,hgi,hx,htk]
     refine⟨⟨by omega,by omega⟩,⟨q3+1,_,_,args++[(k4:Int)]⟩,⟨by simp only;omega,by simp only[List.length_append,List.length_cons,List.length_nil];omega,by simp only[List.length_append,List.length_cons,List.length_nil];omega,⟨_,hI'⟩,?_⟩,by simp only[List.length_append,List.length_cons,List.length_nil];omega,ab ?_ ?_⟩
     ·rw[List.getElem?_set_ne (by omega),List.getElem?_append_left (by simp;omega),List.getElem?_set_ne hif];exact hf3
     ·simp
     ·simp[below,hw3]
      omega
   ·refine⟨⟨q3,W3,A,args⟩,⟨g1,by simp only;omega,by simp only;omega,I3,hP⟩,ab ?_ ?_⟩
    ·simp
    ·simp[below];omega
  ·clear hP
   rintro⟨q3,W3,A,args⟩ ⟨g1,g2,g3,I3,hP⟩
   simp only at g1 g2 g3 hP⊢
   have hxp:=(hsc.2.2.2 x (List.mem_of_getElem? hgb)).1
   obtain⟨f',rows',g',rows2',P,N,X,e1,e2,e3,e4,e5,e6,e7,e8,e9,e10,a1,a2,e11,p1,p2,e12⟩:=hP.put hgk hgb g3
   cases e1
   have hgl:=(List.getElem?_eq_some_iff.1 e6).1
   have hfl:=(List.getElem?_eq_some_iff.1 e2).1
   have hpl3:=hP.lt
   have hpg:=hP.pge
   simp-implicitDefEqProofs[]
   refine aG (λhb0=>?_) (λhb0=>?_)
   ·have m1:∀t,(W3++t)[f]?=some (.row 3 rows'):=λt=>by rw[List.getElem?_append_left hfl];exact e2
    have m2:∀t,(W3++t)[g']?=some (.row 5 rows2'):=λt=>by rw[List.getElem?_append_left hgl];exact e6
    rcases e11 with⟨rfl,h0p⟩|⟨i,rows3,rfl,e13,e14,e15,e16,e17,e18⟩
    ·have hp:Psh (.dead::(W3++[.row 2 [[.p (.int .i64 to),A]]])) .nils 2 [.p (.int .i64 to),A] (.dead::(W3++[.row 2 [[.p (.int .i64 to),A]],.row 2 [[.p (.int .i64 to),A]]])) (.sl (W3.length+1+1) 2 0 1):= .inl ⟨rfl,by simp,by simp⟩
     obtain⟨I',hI'⟩:=e12 _ _ hp
     simp-implicitDefEqProofs[-AV.cells,-AV.isCell,aE,ag,ah,an,al,aD,af,am,aj,a1,a2,e2,e5,e6,e10,hbl,m1,m2,hP.x]
     have hm1:3-(j-1).toNat=3-j.toNat+1:=by omega
     refine⟨⟨j-1,q3,_⟩,⟨by simp only;omega,by simp only;omega,by simp only;omega,by simp only;omega,_,_,⟨_,by rw[←hm1] at hI';exact hI'⟩,?_,by simpa using hlen⟩,by simp only;omega,ab ?_ ?_⟩
     ·intro h
      have:=congrArg List.length h
      simp at this
      exact h0 this
     ·simp
     ·simp[below,hw1]
      try omega
    ·have hil:=(List.getElem?_eq_some_iff.1 e13).1
     have m3:∀t,(W3++t)[i]?=some (.row 2 rows3):=λt=>by rw[List.getElem?_append_left hil];exact e13
     have m4:∀t t',((W3++t).set i .dead++t')[f]?=some (.row 3 rows'):=λt t'=>by rw[List.getElem?_append_left (by simp;omega),List.getElem?_set_ne (by omega)];exact m1 t
     have m5:∀t t',((W3++t).set i .dead++t')[g']?=some (.row 5 rows2'):=λt t'=>by rw[List.getElem?_append_left (by simp;omega),List.getElem?_set_ne (by omega)];exact m2 t
     have htk:List.take x.phis.length rows3=rows3:=List.take_of_length_le (by omega)
     have hp:Psh (.dead::(W3++[.row 2 [[.p (.int .i64 to),A]]])) (.sl (i+1) 2 0 x.phis.length) 2 [.p (.int .i64 to),A] (.dead::((W3++[AO.row 2 [[.p (.int .i64 to),A]]]).set i .dead++[.row 2 (rows3++[[.p (.int .i64 to),A]])])) (.sl (W3.length+1+1) 2 0 (x.phis.length+1)):= .inr ⟨i+1,rows3,_,rfl,by rw[List.getElem?_cons_succ];exact m3 _,e14,by simp,by simp⟩
     obtain⟨I',hI'⟩:=e12 _ _ hp
     simp-implicitDefEqProofs[-AV.cells,-AV.isCell,aE,ag,ah,an,al,aD,af,am,aj,a1,a2,e2,e5,e6,e10,hbl,m1,m2,m3,m4,m5,hP.x,htk]
     have hm1:3-(j-1).toNat=3-j.toNat+1:=by omega
     refine⟨⟨by omega,by omega,by omega⟩,⟨j-1,q3,_⟩,⟨by simp only;omega,by simp only;omega,by simp only;omega,by simp only;omega,_,_,⟨_,by rw[←hm1] at hI';exact hI'⟩,?_,by simpa using hlen⟩,by simp only;omega,ab ?_ ?_⟩
     ·intro h
      have:=congrArg List.length h
      simp at this
      exact h0 this
     ·simp
     ·simp[below,hw1]
      try omega
   ·obtain⟨I',hI'⟩:=hP.drop
    have hm1:3-(j-1).toNat=3-j.toNat+1:=by omega
    simp-implicitDefEqProofs[]
    refine⟨⟨j-1,q3,W3⟩,⟨by simp only;omega,by simp only;omega,by simp only;omega,by simp only;omega,_,_,⟨_,by rw[←hm1] at hI';exact hI'⟩,h0,hlen⟩,by simp only;omega,ab ?_ ?_⟩
    ·simp
    ·simp[below,hw1]
     try omega
 ·have hc:j<=0:=by simpa using hc
  obtain⟨v1,v2⟩:=hU.own.cell
  have hs0:∀o,(W.set 0 o)[0]?=some o:=λo=>List.getElem?_set_self (by omega)
  simp-implicitDefEqProofs[-AV.cells,-AV.isCell,aE,ag,ah,an,al,aD,af,am,aj,v1,v2,hU.u,hU.res,hs0]
  have hown:Own 3 (.dead::W.set 0 (.row 1 [[V]])) [V] [cdL cs] I:=hU.own.hd1 λi hi=>List.getElem?_set_ne λe=>by have:=hU.own.ge _ hi;omega
  have hj:j=0:=by omega
  subst hj
  exact⟨_,_,q,.agg [.p (cdL cs)],rfl,rfl,.agg (.one hown.view .nil) .nil,⟨cs,rfl,h0,hlen,hU.sm⟩,hq1,by omega⟩
end
section
theorem mh:AK.whole di=FK.ak dq:=rfl
theorem yl(σ:List Nat)(v:AV):vN (ren σ v)=vN v:=by cases v<;>rfl
def OwW(w:List AV->AV)(qs:List PV)(x:ARes)(h:List AO):Prop:=∃vs I,x= .ret (w vs)/\Own 0 h vs qs I
theorem JT{n:Nat}{W:List AO}{a b c m:Nat}{l:List Int}(ha:W[a]?=some (.row 2 []))(hb:W[b]?=some (.row 4 []))(hc:W[c]?=some (.row 1 (l.map λn=>[AV.p (.int .i64 n)])))(na:n<=a)(nb:n<=b)(nc:n<=c)(h1:a≠b)(h2:a≠c)(h3:b≠c)(hm:m=l.length):Own n W [.sl a 2 0 0,.sl b 4 0 0,.sl c 1 0 m] [phL [],inL [],ay l] [a,b,c]:=by
 have e1:Own n W [.sl a 2 0 0] [phL []] [a]:=Own.of (D:=[]) (J:=[]) (rows:=[]) ⟨ha,rfl,(λ_ h=>by cases h),(λ_ h=>by cases h),.nil,by simp⟩ (λ_ h=>by cases h) (λ_ h=>by cases h) (λj hj=>by rw[List.mem_singleton.1 hj];exact na) rfl
 have e2:Own n W [.sl b 4 0 0] [inL []] [b]:=Own.of (D:=[]) (J:=[]) (rows:=[]) ⟨hb,rfl,(λ_ h=>by cases h),(λ_ h=>by cases h),.nil,by simp⟩ (λ_ h=>by cases h) (λ_ h=>by cases h) (λj hj=>by rw[List.mem_singleton.1 hj];exact nb) rfl
 exact e1.app (e2.app (bX hc nc hm) λj hj hm=>by simp at hj hm;omega) λj hj hm=>by simp at hj hm;omega
variable (G:aB)
def CbI(x:Bk)(W:List AO)(ps:List Ph)(is:List Ii):Prop:=W[0]?=some (.row 5 [x.cs.map .p])/\W[1]?=some (.row 5 [[.nils,.nils,.p (.int .i64 0),.p (.int .i64 0),.nils]])/\∃P N Z I,W[6]?=some (.row 5 [[P,N,.p (.int .i64 x.jump),.p (.int .i64 x.on),Z]])/\Own 2 W [P,N,Z] [phL ps,inL is,ay x.next] I/\6∉I
theorem CbI.tri{x:Bk}{W:List AO}{ps:List Ph}{is:List Ii}(H:CbI x W ps is):W[0]?=some (.row 5 [x.cs.map .p])/\W[1]?=some (.row 5 [[.nils,.nils,.p (.int .i64 0),.p (.int .i64 0),.nils]])/\∃P N Z IP IN IZ,W[6]?=some (.row 5 [[P,N,.p (.int .i64 x.jump),.p (.int .i64 x.on),Z]])/\Own 2 W [P] [phL ps] IP/\Own 2 W [N] [inL is] IN/\Own 2 W [Z] [ay x.next] IZ/\(∀j∈IP,j∉IN/\j∉IZ)/\(∀j∈IN,j∉IZ)/\6∉IP/\6∉IN/\6∉IZ:=by
 obtain⟨h0,h1,P,N,Z,I,h2,hO,h6⟩:=H
 have hnd:=hO.nd
 obtain⟨_,_,IP,I',e1,rfl,hP,H2⟩:=hO.one
 cases e1
 obtain⟨_,_,IN,IZ,e1,rfl,hN,hZ⟩:=H2.one
 cases e1
 simp only[List.nodup_append,List.mem_append,not_or] at hnd h6
 exact⟨h0,h1,P,N,Z,IP,IN,IZ,h2,hP,hN,hZ,λj hj=>⟨λhm=>hnd.2.2 j hj j (.inl hm) rfl,λhm=>hnd.2.2 j hj j (.inr hm) rfl⟩,λj hj hm=>hnd.2.1.2.2 j hj j hm rfl,h6.1,h6.2.1,h6.2.2⟩
theorem CbI.ofTri{x:Bk}{W:List AO}{ps:List Ph}{is:List Ii}{P N Z:AV}{IP IN IZ:List Nat}(h0:W[0]?=some (.row 5 [x.cs.map .p]))(h1:W[1]?=some (.row 5 [[.nils,.nils,.p (.int .i64 0),.p (.int .i64 0),.nils]]))(h2:W[6]?=some (.row 5 [[P,N,.p (.int .i64 x.jump),.p (.int .i64 x.on),Z]]))(hP:Own 2 W [P] [phL ps] IP)(hN:Own 2 W [N] [inL is] IN)(hZ:Own 2 W [Z] [ay x.next] IZ)(d1:∀j∈IP,j∉IN/\j∉IZ)(d2:∀j∈IN,j∉IZ)(n1:6∉IP)(n2:6∉IN)(n3:6∉IZ):CbI x W ps is:=
 ⟨h0,h1,P,N,Z,IP++(IN++IZ),h2,hP.app (hN.app hZ d2) λj hj hm=>(List.mem_append.1 hm).elim (d1 j hj).1 (d1 j hj).2,by simp[n1,n2,n3]⟩
theorem Own.grow{W os W3:List AO}{V V':AV}{sz:Nat}{D:List (List PV)}{r:List AV}{e:List PV}{IV IA:List Nat}{o6:AO}(hV:Own 2 W [V] [.lst sz D] IV)(hr:Own W.length (W++os) r e IA)(he:e.length=sz)(hp:Psh (W++os) V sz r W3 V')(h6:6<W.length)(n6:6∉IV):
 ∃IV',Own 2 (W3.set 6 o6) [V'] [.lst sz (D++[e])] IV'/\(∀j∈IV',j∈IV\/W.length<=j)/\W.length<=(W3.set 6 o6).length/\(W3.set 6 o6)[6]?=some o6/\∀i,i<W.length->i∉IV->i≠6->(W3.set 6 o6)[i]?=W[i]?:=by
 obtain⟨IV',n1,n2,n3,n4⟩:=(hV.more os).psh (hr.low λj hj=>by have:=hr.ge j hj;omega) (λj hj hm=>by have:=hV.lt j hj;have:=hr.ge j hm;omega) he (by simp;omega) hp
 have hnew:∀j∈IV',j∈IV\/W.length<=j:=λj hj=>by
  rcases n2 j hj with h|h|h
  ·exact .inl h
  ·exact .inr (hr.ge j h)
  ·right;rw[h];simp
 simp only[List.length_append] at n3 n4
 refine⟨IV',n1.frame λi hi=>List.getElem?_set_ne λe=>?_,hnew,by simp;omega,List.getElem?_set_self (by omega),λi hi hn h6i=>?_⟩
 ·subst e
  rcases hnew _ hi with h|h
  ·exact n6 h
  ·omega
 ·rw[List.getElem?_set_ne (Ne.symm h6i),n3 i (by omega) hn,List.getElem?_append_left hi]
theorem CbI.getP{x:Bk}{W:List AO}{ps:List Ph}{is:List Ii}(H:CbI x W ps is):W[0]?=some (.row 5 [x.cs.map .p])/\7<=W.length/\∃P N Z,W[6]?=some (.row 5 [[P,N,.p (.int .i64 x.jump),.p (.int .i64 x.on),Z]])/\(P.cells=[P]/\P.isCell=true)/\(N.cells=[N]/\N.isCell=true)/\(Z.cells=[Z]/\Z.isCell=true)/\((P= .nils/\ps=[])\/∃i rows,P= .sl i 2 0 ps.length/\W[i]?=some (.row 2 rows)/\rows.length=ps.length/\2<=i/\i≠6)/\
 ∀(os:List AO) (A:AV) (y:Ph) (IA:List Nat) (W3:List AO) (P':AV),Own W.length (W++os) [A] [ay y.args] IA->Psh (W++os) P 2 [.p (.int .i64 y.to),A] W3 P'->CbI x (W3.set 6 (.row 5 [[P',N,.p (.int .i64 x.jump),.p (.int .i64 x.on),Z]])) (ps++[y]) is:=by
 obtain⟨h0,h1,P,N,Z,IP,IN,IZ,h2,hP,hN,hZ,d1,d2,n1,n2,n3⟩:=H.tri
 have h6:=(List.getElem?_eq_some_iff.1 h2).1
 refine⟨h0,h6,P,N,Z,h2,hP.cell,hN.cell,hZ.cell,?_,λos A y IA W3 P' hA hp=>?_⟩
 ·rcases hP.row with⟨e1,e2,_⟩|⟨id,rows,J,e1,e2,hr,_⟩
  ·exact .inl ⟨e1,List.map_eq_nil_iff.1 e2⟩
  ·rw[List.length_map] at e1
   exact .inr ⟨id,rows,e1,hr.here,by have:=hr.len;simpa using this,hP.ge id (by rw[e2];simp),λe=>n1 (by rw[e2,e];simp)⟩
 ·obtain⟨IP',m1,m2,m3,m4,m5⟩:=hP.grow (o6:= .row 5 [[P',N,.p (.int .i64 x.jump),.p (.int .i64 x.on),Z]]) (ug (x:=y) hA) rfl hp h6 n1
  have hpl:phL (ps++[y])= .lst 2 (ps.map Ph.cs++[y.cs]):=by rw[phL,List.map_append];rfl
  refine CbI.ofTri (IP:=IP') (IN:=IN) (IZ:=IZ) (by rw[m5 0 (by omega) (λhm=>by have:=hP.ge _ hm;omega) (by decide)];exact h0) (by rw[m5 1 (by omega) (λhm=>by have:=hP.ge _ hm;omega) (by decide)];exact h1) m4 (by rw[hpl];exact m1) (hN.frame λi hi=>m5 i (hN.lt i hi) (λhm=>(d1 i hm).1 hi) λe=>n2 (e▸hi)) (hZ.frame λi hi=>m5 i (hZ.lt i hi) (λhm=>(d1 i hm).2 hi) λe=>n3 (e▸hi)) (λj hj=>?_) d2 (λhm=>?_) n2 n3
  ·rcases m2 j hj with h|h
   ·exact d1 j h
   ·exact⟨λhm=>by have:=hN.lt j hm;omega,λhm=>by have:=hZ.lt j hm;omega⟩
  ·rcases m2 6 hm with h|h
   ·exact n1 h
   ·omega
theorem CbI.getN{x:Bk}{W:List AO}{ps:List Ph}{is:List Ii}(H:CbI x W ps is):W[0]?=some (.row 5 [x.cs.map .p])/\7<=W.length/\∃P N Z,W[6]?=some (.row 5 [[P,N,.p (.int .i64 x.jump),.p (.int .i64 x.on),Z]])/\(P.cells=[P]/\P.isCell=true)/\(N.cells=[N]/\N.isCell=true)/\(Z.cells=[Z]/\Z.isCell=true)/\((N= .nils/\is=[])\/∃i rows,N= .sl i 4 0 is.length/\W[i]?=some (.row 4 rows)/\rows.length=is.length/\2<=i/\i≠6)/\
 ∀(os:List AO) (A:AV) (y:Ii) (IA:List Nat) (W3:List AO) (N':AV),Own W.length (W++os) [A] [ay y.args] IA->Psh (W++os) N 4 [.p (.int .i64 y.op),.p (.int .i64 y.to),A,.p (.int .i64 y.n)] W3 N'->CbI x (W3.set 6 (.row 5 [[P,N',.p (.int .i64 x.jump),.p (.int .i64 x.on),Z]])) ps (is++[y]):=by
 obtain⟨h0,h1,P,N,Z,IP,IN,IZ,h2,hP,hN,hZ,d1,d2,n1,n2,n3⟩:=H.tri
 have h6:=(List.getElem?_eq_some_iff.1 h2).1
 refine⟨h0,h6,P,N,Z,h2,hP.cell,hN.cell,hZ.cell,?_,λos A y IA W3 N' hA hp=>?_⟩
 ·rcases hN.row with⟨e1,e2,_⟩|⟨id,rows,J,e1,e2,hr,_⟩
  ·exact .inl ⟨e1,List.map_eq_nil_iff.1 e2⟩
  ·rw[List.length_map] at e1
   exact .inr ⟨id,rows,e1,hr.here,by have:=hr.len;simpa using this,hN.ge id (by rw[e2];simp),λe=>n2 (by rw[e2,e];simp)⟩
 ·obtain⟨IN',m1,m2,m3,m4,m5⟩:=hN.grow (o6:= .row 5 [[P,N',.p (.int .i64 x.jump),.p (.int .i64 x.on),Z]]) (ut (x:=y) hA) rfl hp h6 n2
  have hpl:inL (is++[y])= .lst 4 (is.map Ii.cs++[y.cs]):=by rw[inL,List.map_append];rfl
  refine CbI.ofTri (IP:=IP) (IN:=IN') (IZ:=IZ) (by rw[m5 0 (by omega) (λhm=>by have:=hN.ge _ hm;omega) (by decide)];exact h0) (by rw[m5 1 (by omega) (λhm=>by have:=hN.ge _ hm;omega) (by decide)];exact h1) m4 (hP.frame λi hi=>m5 i (hP.lt i hi) (λhm=>(d1 i hi).1 hm) λe=>n1 (e▸hi)) (by rw[hpl];exact m1) (hZ.frame λi hi=>m5 i (hZ.lt i hi) (λhm=>d2 i hm hi) λe=>n3 (e▸hi)) (λj hj=>⟨λhm=>?_,(d1 j hj).2⟩) (λj hj hm=>?_) n1 (λhm=>?_) n3
  ·rcases m2 j hm with h|h
   ·exact(d1 j hj).1 h
   ·have:=hP.lt j hj;omega
  ·rcases m2 j hj with h|h
   ·exact d2 j h hm
   ·have:=hZ.lt j hm;omega
  ·rcases m2 6 hm with h|h
   ·exact n2 h
   ·omega
structure CbS where (i:Nat) (W:List AO)
theorem sY(x:Bk)(m:Nat)(hm:m<=100)(hx:SmB m x):AC Tryz.prog G dj [.agg (x.cs.map .p)] [] (OwW .agg x.cs):=by
 have hxs:=x.cs_eq2
 refine AC.goK lT mh ?_
 have hpl:phL x.phis= .lst 2 (x.phis.map Ph.cs):=rfl
 have hil:inL x.ins= .lst 4 (x.ins.map Ii.cs):=rfl
 have hnl:ay x.next= .lst 1 (x.next.map λn=>[.int .i64 n]):=rfl
 simp-implicitDefEqProofs[di,dq,hxs,hpl,hil,hnl]
 refine gm (λa:CbS=>aC 74 [(3,.ptr 6 5 0 0),(2,.ptr 1 5 0 0),(1,.ptr 0 5 0 0)]) (λa=>a.W) (λa=>CbI x a.W [] []) ?_ ?_
 ·simp-implicitDefEqProofs[hnl]
  have hb1:x.next.length*8<=140737488355328:=by have:=hx.2.2.1;omega
  have hb2:x.next.length<=140737488355328:=by have:=hx.2.2.1;omega
  repeat' apply And.intro
  all_goals first
   |exact hb1
   |exact hb2
   |(refine⟨⟨0,_⟩,?_,ab (Nat.zero_le _) ?_⟩
     rotate_left 1
     ·simp[below]
     ·exact⟨rfl,rfl,_,_,_,_,rfl,JT rfl rfl rfl (by decide) (by decide) (by decide) (by decide) (by decide) (by decide) rfl,by decide⟩)
 ·rintro⟨_,W⟩ hI
  simp only at hI⊢
  refine gm (λa:CbS=>aC 74 [(3,.ptr 6 5 0 0),(2,.ptr 1 5 0 0),(1,.ptr 0 5 0 0)]) (λa=>a.W) (λa=>CbI x a.W x.phis []) ?_ ?_
  ·simp-implicitDefEqProofs[]
   refine aH (λa:CbS=>aC 74 [(4,.p (.int .i64 a.i)),(3,.ptr 6 5 0 0),(2,.ptr 1 5 0 0),(1,.ptr 0 5 0 0)]) (λa=>a.W) (λa=>a.i<=x.phis.length/\CbI x a.W (x.phis.take a.i) []) (λa=>x.phis.length-a.i) ⟨0,W⟩ ⟨Nat.zero_le _,by rw[List.take_zero];exact hI⟩ (ab (Nat.zero_le _) (by obtain⟨_,h7,_⟩:=hI.getP;simp[below];omega)) ?_
   clear hI W
   rintro⟨i,W⟩ ⟨hi,hI⟩
   simp only at hi hI⊢
   obtain⟨hw0,h7,P,N,Z,hw6,⟨p1,p2⟩,⟨n1,n2⟩,⟨z1,z2⟩,hPc,hpush⟩:=hI.getP
   have hw0':W[0]?=some (.row 5 [[.p (.lst 2 (x.phis.map Ph.cs)),.p (.lst 4 (x.ins.map Ii.cs)),.p (.int .i64 x.jump),.p (.int .i64 x.on),.p (.lst 1 (x.next.map λn=>[.int .i64 n]))]]):=hw0
   simp-implicitDefEqProofs[hw0']
   refine aG (λhc=>?_) (λhc=>?_)
   ·have hc:i<x.phis.length:=by simpa using hc
    have hg:=List.getElem?_eq_getElem hc
    have htk:x.phis.take (i+1)=x.phis.take i++[x.phis[i]]:=az hc
    have hya:=hx.2.2.2.2 _ (List.getElem_mem hc)
    have hxp:=hx.1
    generalize x.phis[i]=y at hg htk hya
    have hyc:=y.cs_eq2
    have hyn:ay y.args= .lst 1 (y.args.map λn=>[.int .i64 n]):=rfl
    have hwi:=w1 (i:=i) (by have:=hx.1;omega)
    have hyr:List.map (λn=>[AV.p (.int .i64 n)]) y.args=List.map ((λx=>List.map AV.p x)∘λn=>[PV.int IntKind.i64 n]) y.args:=rfl
    have m6:∀t,(W++t)[6]?=some (.row 5 [[P,N,.p (.int .i64 x.jump),.p (.int .i64 x.on),Z]]):=λt=>by rw[List.getElem?_append_left (by omega)];exact hw6
    have m0:∀t,(W++t)[0]?=some (.row 5 [[.p (.lst 2 (x.phis.map Ph.cs)),.p (.lst 4 (x.ins.map Ii.cs)),.p (.int .i64 x.jump),.p (.int .i64 x.on),.p (.lst 1 (x.next.map λn=>[.int .i64 n]))]]):=λt=>by rw[List.getElem?_append_left (by omega)];exact hw0'
    have m0e:=λt hh=>ep (m0 t) hh
    have m6e:=λt hh=>ep (m6 t) hh
    rcases hPc with⟨rfl,h0⟩|⟨f,rows,rfl,hg2,hrl,hf2,hf6⟩
    ·simp-implicitDefEqProofs[-AV.cells,-AV.isCell,aE,ag,ah,an,al,aD,af,am,aj,p1,p2,n1,n2,z1,z2,hw0',hw6,m0,m6,m0e,m6e,hg,hyc,hyn]
     have hA:Own W.length (W++[AO.dead,.row 1 (y.args.map λn=>[AV.p (.int .i64 n)]),.row 2 [[.p (.int .i64 y.to),.sl (W.length+1) 1 0 y.args.length]]]) [.sl (W.length+1) 1 0 y.args.length] [ay y.args] [W.length+1]:=bX (by rw[List.getElem?_append_right (by omega),Nat.add_sub_cancel_left];rfl) (by omega) rfl
     have hC:=hpush _ _ y _ (W++[AO.dead,.row 1 (y.args.map λn=>[AV.p (.int .i64 n)]),.row 2 [[.p (.int .i64 y.to),.sl (W.length+1) 1 0 y.args.length]],.row 2 [[.p (.int .i64 y.to),.sl (W.length+1) 1 0 y.args.length]]]) _ hA (.inl ⟨rfl,by simp,rfl⟩)
     rw[←htk] at hC
     have hl3:(W++[AO.dead,.row 1 (y.args.map λn=>[AV.p (.int .i64 n)]),.row 2 [[.p (.int .i64 y.to),.sl (W.length+1) 1 0 y.args.length]]]).length=W.length+3:=by simp
     rw[hl3] at hC
     exact⟨⟨by omega,by omega⟩,⟨i+1,_⟩,⟨hc,hC⟩,by simp only;omega,ab (Nat.zero_le _) (by simp[below,hwi];try omega)⟩
    ·have m7:∀t,(W++t)[f]?=some (.row 2 rows):=λt=>by rw[List.getElem?_append_left (List.getElem?_eq_some_iff.1 hg2).1];exact hg2
     have m8:∀t t',((W++t).set f .dead++t')[6]?=some (.row 5 [[.sl f 2 0 (List.take i x.phis).length,N,.p (.int .i64 x.jump),.p (.int .i64 x.on),Z]]):=λt t'=>by rw[List.getElem?_append_left (by simp;omega),List.getElem?_set_ne hf6];exact m6 t
     have m7e:=λt hh=>ep (m7 t) hh
     have m8e:=λt t' hh=>ep (m8 t t') hh
     have htk2:List.take (List.take i x.phis).length rows=rows:=List.take_of_length_le (by omega)
     have hli:(List.take i x.phis).length=i:=by simp;omega
     have hA:Own W.length (W++[AO.dead,.row 1 (y.args.map λn=>[AV.p (.int .i64 n)]),.row 2 [[.p (.int .i64 y.to),.sl (W.length+1) 1 0 y.args.length]]]) [.sl (W.length+1) 1 0 y.args.length] [ay y.args] [W.length+1]:=bX (by rw[List.getElem?_append_right (by omega),Nat.add_sub_cancel_left];rfl) (by omega) rfl
     have hC:=hpush _ _ y _ ((W++[AO.dead,.row 1 (y.args.map λn=>[AV.p (.int .i64 n)]),.row 2 [[.p (.int .i64 y.to),.sl (W.length+1) 1 0 y.args.length]]]).set f .dead++[.row 2 (rows++[[.p (.int .i64 y.to),.sl (W.length+1) 1 0 y.args.length]])]) _ hA (.inr ⟨f,rows,_,rfl,m7 _,hrl,rfl,rfl⟩)
     rw[←htk] at hC
     have hl3:(W++[AO.dead,.row 1 (y.args.map λn=>[AV.p (.int .i64 n)]),.row 2 [[.p (.int .i64 y.to),.sl (W.length+1) 1 0 y.args.length]]]).length=W.length+3:=by simp
     rw[hl3,hli] at hC
     rw[hli] at m6 m8 m6e m8e hw6 htk2
     simp-implicitDefEqProofs[-AV.cells,-AV.isCell,aE,ag,ah,an,al,aD,af,am,aj,p1,p2,n1,n2,z1,z2,hw0',hw6,m0,m6,m0e,m6e,hg,hyc,hyn,m7,m8,m7e,m8e]
     rw[htk2]
     exact⟨⟨by omega,by omega⟩,⟨by omega,by omega,by omega⟩,⟨i+1,_⟩,⟨hc,hC⟩,by simp only;omega,ab (Nat.zero_le _) (by simp[below,hwi];try omega)⟩
   ·have hc:x.phis.length<=i:=by simpa using hc
    rw[List.take_of_length_le hc] at hI
    refine⟨⟨0,W⟩,hI,ab (Nat.zero_le _) ?_⟩
    simp[below];omega
  ·rintro⟨_,W⟩ hI
   simp only at hI⊢
   simp-implicitDefEqProofs[]
   refine aH (λa:CbS=>aC 74 [(5,.p (.int .i64 a.i)),(3,.ptr 6 5 0 0),(2,.ptr 1 5 0 0),(1,.ptr 0 5 0 0)]) (λa=>a.W) (λa=>a.i<=x.ins.length/\CbI x a.W x.phis (x.ins.take a.i)) (λa=>x.ins.length-a.i) ⟨0,W⟩ ⟨Nat.zero_le _,by rw[List.take_zero];exact hI⟩ (ab (Nat.zero_le _) (by obtain⟨_,h7,_⟩:=hI.getP;simp[below];omega)) ?_
   clear hI W
   rintro⟨i,W⟩ ⟨hi,hI⟩
   simp only at hi hI⊢
   obtain⟨hw0,h7,P,N,Z,hw6,⟨p1,p2⟩,⟨n1,n2⟩,⟨z1,z2⟩,hNc,hpush⟩:=hI.getN
   have hw1:=hI.2.1
   have hw0':W[0]?=some (.row 5 [[.p (.lst 2 (x.phis.map Ph.cs)),.p (.lst 4 (x.ins.map Ii.cs)),.p (.int .i64 x.jump),.p (.int .i64 x.on),.p (.lst 1 (x.next.map λn=>[.int .i64 n]))]]):=hw0
   simp-implicitDefEqProofs[hw0']
   refine aG (λhc=>?_) (λhc=>?_)
   ·have hc:i<x.ins.length:=by simpa using hc
    have hg:=List.getElem?_eq_getElem hc
    have htk:x.ins.take (i+1)=x.ins.take i++[x.ins[i]]:=az hc
    have hya:=hx.2.2.2.1 _ (List.getElem_mem hc)
    have hxp:=hx.2.1
    generalize x.ins[i]=y at hg htk hya
    have hyc:=y.cs_eq2
    have hyn:ay y.args= .lst 1 (y.args.map λn=>[.int .i64 n]):=rfl
    have hwi:=w1 (i:=i) (by have:=hx.2.1;omega)
    have m6:∀t,(W++t)[6]?=some (.row 5 [[P,N,.p (.int .i64 x.jump),.p (.int .i64 x.on),Z]]):=λt=>by rw[List.getElem?_append_left (by omega)];exact hw6
    have m0:∀t,(W++t)[0]?=some (.row 5 [[.p (.lst 2 (x.phis.map Ph.cs)),.p (.lst 4 (x.ins.map Ii.cs)),.p (.int .i64 x.jump),.p (.int .i64 x.on),.p (.lst 1 (x.next.map λn=>[.int .i64 n]))]]):=λt=>by rw[List.getElem?_append_left (by omega)];exact hw0'
    have m0e:=λt hh=>ep (m0 t) hh
    have m6e:=λt hh=>ep (m6 t) hh
    rcases hNc with⟨rfl,h0⟩|⟨f,rows,rfl,hg2,hrl,hf2,hf6⟩
    ·simp-implicitDefEqProofs[-AV.cells,-AV.isCell,aE,ag,ah,an,al,aD,af,am,aj,p1,p2,n1,n2,z1,z2,hw0',hw6,m0,m6,m0e,m6e,hg,hyc,hyn]
     have hA:Own W.length (W++[AO.row 4 [[.p (.int .i64 y.op),.p (.int .i64 y.to),.p (.lst 1 (y.args.map λn=>[.int .i64 n])),.p (.int .i64 y.n)]],AO.dead,.row 1 (y.args.map λn=>[AV.p (.int .i64 n)]),.row 4 [[.p (.int .i64 y.op),.p (.int .i64 y.to),.sl (W.length+2) 1 0 y.args.length,.p (.int .i64 y.n)]]]) [.sl (W.length+2) 1 0 y.args.length] [ay y.args] [W.length+2]:=bX (by rw[List.getElem?_append_right (by omega),Nat.add_sub_cancel_left];rfl) (by omega) rfl
     have hC:=hpush _ _ y _ (W++[AO.row 4 [[.p (.int .i64 y.op),.p (.int .i64 y.to),.p (.lst 1 (y.args.map λn=>[.int .i64 n])),.p (.int .i64 y.n)]],AO.dead,.row 1 (y.args.map λn=>[AV.p (.int .i64 n)]),.row 4 [[.p (.int .i64 y.op),.p (.int .i64 y.to),.sl (W.length+2) 1 0 y.args.length,.p (.int .i64 y.n)]],.row 4 [[.p (.int .i64 y.op),.p (.int .i64 y.to),.sl (W.length+2) 1 0 y.args.length,.p (.int .i64 y.n)]]]) _ hA (.inl ⟨rfl,by simp,rfl⟩)
     rw[←htk] at hC
     have hl3:(W++[AO.row 4 [[.p (.int .i64 y.op),.p (.int .i64 y.to),.p (.lst 1 (y.args.map λn=>[.int .i64 n])),.p (.int .i64 y.n)]],AO.dead,.row 1 (y.args.map λn=>[AV.p (.int .i64 n)]),.row 4 [[.p (.int .i64 y.op),.p (.int .i64 y.to),.sl (W.length+2) 1 0 y.args.length,.p (.int .i64 y.n)]]]).length=W.length+4:=by simp
     rw[hl3] at hC
     exact⟨⟨by omega,by omega⟩,⟨i+1,_⟩,⟨hc,hC⟩,by simp only;omega,ab (Nat.zero_le _) (by simp[below,hwi];try omega)⟩
    ·have m7:∀t,(W++t)[f]?=some (.row 4 rows):=λt=>by rw[List.getElem?_append_left (List.getElem?_eq_some_iff.1 hg2).1];exact hg2
     have m8:∀t t',((W++t).set f .dead++t')[6]?=some (.row 5 [[P,.sl f 4 0 (List.take i x.ins).length,.p (.int .i64 x.jump),.p (.int .i64 x.on),Z]]):=λt t'=>by rw[List.getElem?_append_left (by simp;omega),List.getElem?_set_ne hf6];exact m6 t
     have m7e:=λt hh=>ep (m7 t) hh
     have m8e:=λt t' hh=>ep (m8 t t') hh
     have htk2:List.take (List.take i x.ins).length rows=rows:=List.take_of_length_le (by omega)
     have hli:(List.take i x.ins).length=i:=by simp;omega
     have hA:Own W.length (W++[AO.row 4 [[.p (.int .i64 y.op),.p (.int .i64 y.to),.p (.lst 1 (y.args.map λn=>[.int .i64 n])),.p (.int .i64 y.n)]],AO.dead,.row 1 (y.args.map λn=>[AV.p (.int .i64 n)]),.row 4 [[.p (.int .i64 y.op),.p (.int .i64 y.to),.sl (W.length+2) 1 0 y.args.length,.p (.int .i64 y.n)]]]) [.sl (W.length+2) 1 0 y.args.length] [ay y.args] [W.length+2]:=bX (by rw[List.getElem?_append_right (by omega),Nat.add_sub_cancel_left];rfl) (by omega) rfl
     have hC:=hpush _ _ y _ ((W++[AO.row 4 [[.p (.int .i64 y.op),.p (.int .i64 y.to),.p (.lst 1 (y.args.map λn=>[.int .i64 n])),.p (.int .i64 y.n)]],AO.dead,.row 1 (y.args.map λn=>[AV.p (.int .i64 n)]),.row 4 [[.p (.int .i64 y.op),.p (.int .i64 y.to),.sl (W.length+2) 1 0 y.args.length,.p (.int .i64 y.n)]]]).set f .dead++[.row 4 (rows++[[.p (.int .i64 y.op),.p (.int .i64 y.to),.sl (W.length+2) 1 0 y.args.length,.p (.int .i64 y.n)]])]) _ hA (.inr ⟨f,rows,_,rfl,m7 _,hrl,rfl,rfl⟩)
     rw[←htk] at hC
     have hl3:(W++[AO.row 4 [[.p (.int .i64 y.op),.p (.int .i64 y.to),.p (.lst 1 (y.args.map λn=>[.int .i64 n])),.p (.int .i64 y.n)]],AO.dead,.row 1 (y.args.map λn=>[AV.p (.int .i64 n)]),.row 4 [[.p (.int .i64 y.op),.p (.int .i64 y.to),.sl (W.length+2) 1 0 y.args.length,.p (.int .i64 y.n)]]]).length=W.length+4:=by simp
     rw[hl3,hli] at hC
     rw[hli] at m6 m8 m6e m8e hw6 htk2
     simp-implicitDefEqProofs[-AV.cells,-AV.isCell,aE,ag,ah,an,al,aD,af,am,aj,p1,p2,n1,n2,z1,z2,hw0',hw6,m0,m6,m0e,m6e,hg,hyc,hyn,m7,m8,m7e,m8e]
     rw[htk2]
     exact⟨⟨by omega,by omega⟩,⟨by omega,by omega,by omega⟩,⟨i+1,_⟩,⟨hc,hC⟩,by simp only;omega,ab (Nat.zero_le _) (by simp[below,hwi];try omega)⟩
   ·have hc:x.ins.length<=i:=by simpa using hc
    have hs1:∀o,(W.set 1 o)[1]?=some o:=λo=>List.getElem?_set_self (by omega)
    rw[List.take_of_length_le hc] at hI
    simp-implicitDefEqProofs[-AV.cells,-AV.isCell,aE,ag,ah,an,al,aD,af,am,aj,p1,p2,n1,n2,z1,z2,hw6,hw1,hs1]
    obtain⟨_,_,P2,N2,Z2,IP,IN,IZ,h2,hP,hN,hZ,d1,d2,_,_,_⟩:=hI.tri
    rw[hw6] at h2
    cases h2
    have hfr:∀{vs:List AV} {qs:List PV} {J:List Nat},Own 2 W vs qs J->Own 0 (W.set 1 (.row 5 [[P,N,.p (.int .i64 x.jump),.p (.int .i64 x.on),Z]])) vs qs J:=λh=>(h.frame λj hj=>List.getElem?_set_ne λe=>by have:=h.ge j hj;omega).low λj hj=>Nat.zero_le _
    exact⟨_,_,rfl,pA (hfr hP) (hfr hN) (hfr hZ) d1 d2⟩
theorem tx(σ:List Nat)(l:List AV):bf σ l=l.map (ren σ):=List.ext_getElem? λi=>by rw[cC,List.getElem?_map]
theorem AC.ownLift{f:FuncId}{args:List AV}{w:List AV->AV}{qs:List PV}(hw:Shp w)(H:AC Tryz.prog G f args [] (OwW w qs)){h:List AO}(hv:au 0 args):
 AC Tryz.prog G f args h λx h'=>∃vs I os,x= .ret (w vs)/\h'=h++os/\Own h.length h' vs qs I:=by
 have hT:TW [] args args:=by
  have:=Ai (n:=0) (args:=args) hv
  simpa using this
 refine(H.frame (h:=h) [] List.nodup_nil hT True.intro).mono ?_
 rintro x h' ⟨x0,h0,⟨vs,I,rfl,ho⟩,hl,rfl,rfl⟩
 have hσ:∀i,i<h0.length->([]++List.range' h.length (h0.length-([]:List AO).length)).getD i 0=h.length+i:=λi hi=>by
  rw[List.nil_append,List.getD_eq_getElem?_getD];simp[hi]
 generalize hs:([]:List Nat)++List.range' h.length (h0.length-([]:List AO).length)=σ at*
 have hget:∀i,i∈I->(h++h0.map (dU σ))[σ.getD i 0]?=(h0[i]?).map (dU σ):=λi hi=>by
  rw[hσ i (ho.lt i hi),List.getElem?_append_right (by omega),Nat.add_sub_cancel_left,List.getElem?_map]
 have ho2:=ho.own.ren (h':=h++h0.map (dU σ)) (σ:=σ) λi hi sz rows e=>by
  rw[hget i hi,e];rfl
 refine⟨bf σ vs,I.map λi=>σ.getD i 0,h0.map (dU σ),by simp only[zG];rw[hw.ren],by simp[mrg],⟨by simpa[mrg] using ho2,?_,?_,?_,λi hi=>?_⟩⟩
 ·rw[List.map_congr_left (g:=λi=>h.length+i) λi hi=>hσ i (ho.lt i hi)]
  exact tp (λi j e=>by omega) ho.nd
 ·intro j hj sz rows hg r hr v hv
  obtain⟨i,hi,rfl⟩:=List.mem_map.1 hj
  have hg2:(h++h0.map (dU σ))[σ.getD i 0]?=some (.row sz rows):=by simpa[mrg] using hg
  rw[hget i hi] at hg2
  have hil:=ho.lt i hi
  rw[List.getElem?_eq_getElem hil] at hg2
  have hg3:=List.getElem?_eq_getElem hil
  generalize h0[i]=o at hg2 hg3
  simp only[Option.map_some,Option.some.injEq] at hg2
  cases o with
  |row sz0 rows0=>
   simp only[dU,AO.row.injEq] at hg2
   obtain⟨rfl,rfl⟩:=hg2
   obtain⟨r0,hr0,rfl⟩:=List.mem_map.1 hr
   rw[tx] at hv
   obtain⟨v0,hv0,rfl⟩:=List.mem_map.1 hv
   rw[yl]
   exact ho.no i hi sz0 rows0 hg3 r0 hr0 v0 hv0
  |_=>simp[dU] at hg2
 ·intro v hv
  rw[tx] at hv
  obtain⟨v0,hv0,rfl⟩:=List.mem_map.1 hv
  rw[yl]
  exact ho.nv v0 hv0
 ·obtain⟨j,hj,rfl⟩:=List.mem_map.1 hi
  rw[hσ j (ho.lt j hj)];omega
end
section
variable (G:aB)
theorem Own.growL{W os W3:List AO}{V V':AV}{sz k:Nat}{D:List (List PV)}{r:List AV}{e:List PV}{IV IA:List Nat}{o2:AO}(hV:Own (k+1) W [V] [.lst sz D] IV)(hr:Own W.length (W++os) r e IA)(he:e.length=sz)(hp:Psh (W++os) V sz r W3 V')(h2:k<W.length):
 ∃IV',Own (k+1) (W3.set k o2) [V'] [.lst sz (D++[e])] IV'/\W.length<=(W3.set k o2).length/\(W3.set k o2)[k]?=some o2/\∀i,i<k->(W3.set k o2)[i]?=W[i]?:=by
 obtain⟨IV',n1,n2,n3,n4⟩:=(hV.more os).psh (hr.low λj hj=>by have:=hr.ge j hj;omega) (λj hj hm=>by have:=hV.lt j hj;have:=hr.ge j hm;omega) he (by simp;omega) hp
 simp only[List.length_append] at n3 n4
 refine⟨IV',n1.frame λi hi=>List.getElem?_set_ne λe=>?_,by simp;omega,List.getElem?_set_self (by omega),λi hi=>?_⟩
 ·have:=n1.ge i hi;omega
 ·rw[List.getElem?_set_ne (by omega),n3 i (by omega) (λhm=>by have:=hV.ge i hm;omega),List.getElem?_append_left (by omega)]
theorem Own.rowAt{n:Nat}{W:List AO}{V:AV}{sz:Nat}{D:List (List PV)}{I:List Nat}(H:Own n W [V] [.lst sz D] I):(V= .nils/\D=[])\/∃i rows,V= .sl i sz 0 D.length/\W[i]?=some (.row sz rows)/\rows.length=D.length/\n<=i:=by
 rcases H.row with⟨h1,h2,_⟩|⟨id,rows,J,h1,h2,hr,_⟩
 ·exact .inl ⟨h1,h2⟩
 ·exact .inr ⟨id,rows,h1,hr.here,hr.len,H.ge id (by rw[h2];simp)⟩
structure CpS where (i:Nat) (W:List AO)
theorem CP(c:Cd)(m:Nat)(hm:m<=100)(hc:SmCd m c):AC Tryz.prog G iu [.agg (c.cs.map .p)] [] (OwW .agg c.cs):=by
 have hcs:=c.cs_eq2
 have hbl:bkL c.blocks= .lst 5 (c.blocks.map Bk.cs):=rfl
 refine AC.go sW ?_
 simp-implicitDefEqProofs[lz,hcs,hbl]
 refine aH (λa:CpS=>aC 29 [(4,.p (.int .i64 a.i)),(3,.ptr 2 3 0 0),(2,.ptr 1 3 0 0),(1,.ptr 0 3 0 0)]) (λa=>a.W)
  (λa=>a.i<=c.blocks.length/\a.W[0]?=some (.row 3 [[.p (.int .i64 c.params),.p (.int .i64 c.regs),.p (.lst 5 (c.blocks.map Bk.cs))]])/\a.W[1]?=some (.row 3 [[.p (.int .i64 0),.p (.int .i64 0),.nils]])/\∃V I,a.W[2]?=some (.row 3 [[.p (.int .i64 c.params),.p (.int .i64 c.regs),V]])/\Own 3 a.W [V] [bkL (c.blocks.take a.i)] I) (λa=>c.blocks.length-a.i) ⟨0,_⟩ ⟨Nat.zero_le _,rfl,rfl,_,_,rfl,Own.nil _ _ 5⟩ (ab (Nat.zero_le _) (by simp[below])) ?_
 rintro⟨i,W⟩ ⟨hi,hw0,hw1,V,I,hw2,hV⟩
 simp only at hi hw0 hw1 hw2 hV⊢
 have h3:=(List.getElem?_eq_some_iff.1 hw2).1
 obtain⟨v1,v2⟩:=hV.cell
 simp-implicitDefEqProofs[hw0]
 refine aG (λhcc=>?_) (λhcc=>?_)
 ·have hcc:i<c.blocks.length:=by simpa using hcc
  have hg:=List.getElem?_eq_getElem hcc
  have htk:c.blocks.take (i+1)=c.blocks.take i++[c.blocks[i]]:=az hcc
  have hsx:=hc.2.2.2 _ (List.getElem_mem hcc)
  have hb7:=hc.2.2.1
  generalize c.blocks[i]=x at hg htk hsx
  have hxs:=x.cs_eq2
  have hwi:=w1 (i:=i) (by omega)
  have hcall:=AC.ownLift G py (sY G x m hm hsx) (h:=W) (by simp)
  rw[hxs] at hcall
  simp-implicitDefEqProofs[-AV.cells,-AV.isCell,aE,ag,ah,an,al,aD,af,am,aj,v1,v2,hw0,hw2,hg,hxs]
  refine hcall.mono ?_
  rintro r h ⟨vs,IA,os,rfl,rfl,hO⟩
  rw[←hxs] at hO
  obtain⟨P,N,X,IP,IN,IX,rfl,rfl,hP,hN,hX⟩:=uc hO
  obtain⟨p1,p2⟩:=hP.cell
  obtain⟨n1,n2⟩:=hN.cell
  obtain⟨x1,x2⟩:=hX.cell
  obtain⟨W2,hW2⟩:∃W2,W2=W++os:=⟨_,rfl⟩
  have m2:∀t,(W2++t)[2]?=some (.row 3 [[.p (.int .i64 c.params),.p (.int .i64 c.regs),V]]):=λt=>by rw[hW2,List.append_assoc,List.getElem?_append_left h3];exact hw2
  have m20:=m2 []
  rw[List.append_nil] at m20
  have m2e:=λt hh=>ep (m2 t) hh
  have hW2l:W.length<=W2.length:=by rw[hW2];simp
  obtain⟨R,hR⟩:∃R,R=[P,N,AV.p (.int .i64 x.jump),.p (.int .i64 x.on),X]:=⟨_,rfl⟩
  have hOR:Own W.length (W++(os++[.row 5 [R]])) R x.cs (IP++(IN++IX)):=by rw[hR,←List.append_assoc];exact hO.more _
  have hbt:bkL (c.blocks.take (i+1))= .lst 5 ((c.blocks.take i).map Bk.cs++[x.cs]):=by rw[htk,bkL,List.map_append];rfl
  have hli:((c.blocks.take i).map Bk.cs).length=i:=by simp;omega
  have hWe:W++(os++[.row 5 [R]])=W2++[.row 5 [R]]:=by rw[hW2,List.append_assoc]
  rw[←hW2]
  rcases hV.rowAt with⟨rfl,h0⟩|⟨f,rows,hVf,hg2,hrl,hf3⟩
  ·obtain⟨IV',q1,q2,q3,q4⟩:=hV.growL (k:=2) (o2:= .row 3 [[.p (.int .i64 c.params),.p (.int .i64 c.regs),.sl (W2.length+1) 5 0 1]]) hOR rfl (W3:=W2++[.row 5 [R],.row 5 [R]]) (.inl ⟨rfl,by rw[hWe];simp,rfl⟩) h3
   have hl3:(W2++[AO.row 5 [R]]).length=W2.length+1:=by simp
   rw[hWe,hl3,←hbt] at q1
   simp-implicitDefEqProofs[-AV.cells,-AV.isCell,aE,ag,ah,an,al,aD,af,am,aj,p1,p2,n1,n2,x1,x2,aa,m2,m20,m2e]
   rw[←hR]
   exact⟨⟨i+1,_⟩,⟨hcc,by simp only;rw[q4 0 (by omega)];exact hw0,by simp only;rw[q4 1 (by omega)];exact hw1,_,q3,_,q1⟩,by simp only;omega,ab (Nat.zero_le _) (by simp[below,hwi]<;>omega)⟩
  ·rw[hli] at hVf hrl
   subst hVf
   have m7:∀t,(W2++t)[f]?=some (.row 5 rows):=λt=>by rw[hW2,List.append_assoc,List.getElem?_append_left (List.getElem?_eq_some_iff.1 hg2).1];exact hg2
   have m8:∀t t',((W2++t).set f .dead++t')[2]?=some (.row 3 [[.p (.int .i64 c.params),.p (.int .i64 c.regs),.sl f 5 0 i]]):=λt t'=>by rw[List.getElem?_append_left (by simp;omega),List.getElem?_set_ne (by omega)];exact m2 t
   have m7e:=λt hh=>ep (m7 t) hh
   have m8e:=λt t' hh=>ep (m8 t t') hh
   have htk2:List.take i rows=rows:=List.take_of_length_le (by omega)
   obtain⟨IV',q1,q2,q3,q4⟩:=hV.growL (k:=2) (o2:= .row 3 [[.p (.int .i64 c.params),.p (.int .i64 c.regs),.sl (W2.length+1) 5 0 (i+1)]]) hOR rfl (W3:=(W2++[AO.row 5 [R]]).set f .dead++[.row 5 (rows++[R])]) (.inr ⟨f,rows,_,rfl,by rw[hWe];exact m7 _,hrl,by rw[hWe],rfl⟩) h3
   have hl3:(W2++[AO.row 5 [R]]).length=W2.length+1:=by simp
   rw[hWe,hl3,←hbt] at q1
   simp-implicitDefEqProofs[-AV.cells,-AV.isCell,aE,ag,ah,an,al,aD,af,am,aj,p1,p2,n1,n2,x1,x2,aa,m2,m20,m2e,m7,m8,m7e,m8e,htk2]
   rw[←hR]
   exact⟨⟨by omega,by omega,by omega⟩,⟨i+1,_⟩,⟨hcc,by simp only;rw[q4 0 (by omega)];exact hw0,by simp only;rw[q4 1 (by omega)];exact hw1,_,q3,_,q1⟩,by simp only;omega,ab (Nat.zero_le _) (by simp[below,hwi]<;>omega)⟩
 ·have hcc:c.blocks.length<=i:=by simpa using hcc
  rw[List.take_of_length_le hcc] at hV
  have hs1:∀o,(W.set 1 o)[1]?=some o:=λo=>List.getElem?_set_self (by omega)
  simp-implicitDefEqProofs[-AV.cells,-AV.isCell,aE,ag,ah,an,al,aD,af,am,aj,v1,v2,hw0,hw1,hw2,hs1]
  exact⟨_,I,rfl,pu (c:=c) ((hV.frame λj hj=>List.getElem?_set_ne λe=>by have:=hV.ge j hj;omega).low λj _=>Nat.zero_le _)⟩
theorem tP(cs:List Cd)(m:Nat)(hm:m<=100)(hl:cs.length<=3)(hc:∀c∈cs,SmCd m c):AC Tryz.prog G dP [.agg [.p (cdL cs)]] [] (OwW .agg [cdL cs]):=by
 have hbl:cdL cs= .lst 3 (cs.map Cd.cs):=rfl
 refine AC.go my ?_
 simp-implicitDefEqProofs[gR,hbl]
 refine aH (λa:CpS=>aC 25 [(4,.p (.int .i64 a.i)),(3,.ptr 2 1 0 0),(2,.ptr 1 1 0 0),(1,.ptr 0 1 0 0)]) (λa=>a.W)
  (λa=>a.i<=cs.length/\a.W[0]?=some (.row 1 [[.p (.lst 3 (cs.map Cd.cs))]])/\a.W[1]?=some (.row 1 [[.nils]])/\∃V I,a.W[2]?=some (.row 1 [[V]])/\Own 3 a.W [V] [cdL (cs.take a.i)] I) (λa=>cs.length-a.i) ⟨0,_⟩ ⟨Nat.zero_le _,rfl,rfl,_,_,rfl,Own.nil _ _ 3⟩ (ab (Nat.zero_le _) (by simp[below])) ?_
 rintro⟨i,W⟩ ⟨hi,hw0,hw1,V,I,hw2,hV⟩
 simp only at hi hw0 hw1 hw2 hV⊢
 have h3:=(List.getElem?_eq_some_iff.1 hw2).1
 obtain⟨v1,v2⟩:=hV.cell
 simp-implicitDefEqProofs[hw0]
 refine aG (λhcc=>?_) (λhcc=>?_)
 ·have hcc:i<cs.length:=by simpa using hcc
  have hg:=List.getElem?_eq_getElem hcc
  have htk:cs.take (i+1)=cs.take i++[cs[i]]:=az hcc
  have hsx:=hc _ (List.getElem_mem hcc)
  generalize cs[i]=x at hg htk hsx
  have hxs:=x.cs_eq2
  have hwi:=w1 (i:=i) (by omega)
  have hcall:=AC.ownLift G py (CP G x m hm hsx) (h:=W) (by simp)
  rw[hxs] at hcall
  simp-implicitDefEqProofs[-AV.cells,-AV.isCell,aE,ag,ah,an,al,aD,af,am,aj,v1,v2,hw0,hw2,hg,hxs]
  refine hcall.mono ?_
  rintro r h ⟨vs,IA,os,rfl,rfl,hO⟩
  rw[←hxs] at hO
  obtain⟨B,rfl,hB⟩:=Av hO
  obtain⟨p1,p2⟩:=hB.cell
  obtain⟨W2,hW2⟩:∃W2,W2=W++os:=⟨_,rfl⟩
  have m2:∀t,(W2++t)[2]?=some (.row 1 [[V]]):=λt=>by rw[hW2,List.append_assoc,List.getElem?_append_left h3];exact hw2
  have m20:=m2 []
  rw[List.append_nil] at m20
  have m2e:=λt hh=>ep (m2 t) hh
  have hW2l:W.length<=W2.length:=by rw[hW2];simp
  obtain⟨R,hR⟩:∃R,R=[AV.p (.int .i64 x.params),.p (.int .i64 x.regs),B]:=⟨_,rfl⟩
  have hOR:Own W.length (W++(os++[.row 3 [R]])) R x.cs IA:=by rw[hR,←List.append_assoc];exact hO.more _
  have hbt:cdL (cs.take (i+1))= .lst 3 ((cs.take i).map Cd.cs++[x.cs]):=by rw[htk,cdL,List.map_append];rfl
  have hli:((cs.take i).map Cd.cs).length=i:=by simp;omega
  have hWe:W++(os++[.row 3 [R]])=W2++[.row 3 [R]]:=by rw[hW2,List.append_assoc]
  have hl3:(W2++[AO.row 3 [R]]).length=W2.length+1:=by simp
  rw[←hW2]
  rcases hV.rowAt with⟨rfl,h0⟩|⟨f,rows,hVf,hg2,hrl,hf3⟩
  ·obtain⟨IV',q1,q2,q3,q4⟩:=hV.growL (k:=2) (o2:= .row 1 [[.sl (W2.length+1) 3 0 1]]) hOR rfl (W3:=W2++[.row 3 [R],.row 3 [R]]) (.inl ⟨rfl,by rw[hWe];simp,rfl⟩) h3
   rw[hWe,hl3,←hbt] at q1
   simp-implicitDefEqProofs[-AV.cells,-AV.isCell,aE,ag,ah,an,al,aD,af,am,aj,p1,p2,aa,m2,m20,m2e]
   rw[←hR]
   exact⟨⟨i+1,_⟩,⟨hcc,by simp only;rw[q4 0 (by omega)];exact hw0,by simp only;rw[q4 1 (by omega)];exact hw1,_,q3,_,q1⟩,by simp only;omega,ab (Nat.zero_le _) (by simp[below,hwi]<;>omega)⟩
  ·rw[hli] at hVf hrl
   subst hVf
   have m7:∀t,(W2++t)[f]?=some (.row 3 rows):=λt=>by rw[hW2,List.append_assoc,List.getElem?_append_left (List.getElem?_eq_some_iff.1 hg2).1];exact hg2
   have m8:∀t t',((W2++t).set f .dead++t')[2]?=some (.row 1 [[.sl f 3 0 i]]):=λt t'=>by rw[List.getElem?_append_left (by simp;omega),List.getElem?_set_ne (by omega)];exact m2 t
   have m7e:=λt hh=>ep (m7 t) hh
   have m8e:=λt t' hh=>ep (m8 t t') hh
   have htk2:List.take i rows=rows:=List.take_of_length_le (by omega)
   obtain⟨IV',q1,q2,q3,q4⟩:=hV.growL (k:=2) (o2:= .row 1 [[.sl (W2.length+1) 3 0 (i+1)]]) hOR rfl (W3:=(W2++[AO.row 3 [R]]).set f .dead++[.row 3 (rows++[R])]) (.inr ⟨f,rows,_,rfl,by rw[hWe];exact m7 _,hrl,by rw[hWe],rfl⟩) h3
   rw[hWe,hl3,←hbt] at q1
   simp-implicitDefEqProofs[-AV.cells,-AV.isCell,aE,ag,ah,an,al,aD,af,am,aj,p1,p2,aa,m2,m20,m2e,m7,m8,m7e,m8e,htk2]
   rw[←hR]
   exact⟨⟨by omega,by omega,by omega⟩,⟨i+1,_⟩,⟨hcc,by simp only;rw[q4 0 (by omega)];exact hw0,by simp only;rw[q4 1 (by omega)];exact hw1,_,q3,_,q1⟩,by simp only;omega,ab (Nat.zero_le _) (by simp[below,hwi]<;>omega)⟩
 ·have hcc:cs.length<=i:=by simpa using hcc
  rw[List.take_of_length_le hcc] at hV
  have hs1:∀o,(W.set 1 o)[1]?=some o:=λo=>List.getElem?_set_self (by omega)
  simp-implicitDefEqProofs[-AV.cells,-AV.isCell,aE,ag,ah,an,al,aD,af,am,aj,v1,v2,hw0,hw1,hw2,hs1]
  exact⟨[V],I,rfl,(hV.frame λj hj=>List.getElem?_set_ne λe=>by have:=hV.ge j hj;omega).low λj _=>Nat.zero_le _⟩
end
section
def GCd(c:Cd):Prop:=1<=c.blocks.length/\c.blocks.length<=160/\∀x∈c.blocks,x.next.length<=2
def GU(cs:List Cd):Prop:=(cs≠[]/\cs.length<=4)/\∀c∈cs,GCd c
theorem SmCd.g{m:Nat}{c:Cd}(h:SmCd m c):GCd c:=⟨h.2.1,by have:=h.2.2.1;omega,λx hx=>(h.2.2.2 x hx).2.2.1⟩
structure BI (W:List AO) (uw:Nat) (V:AV) (cs:List Cd) (I:List Nat):Prop where
 res:W[0]?=some (.row 1 [[.nils]])
 u:W[uw]?=some (.row 1 [[V]])
 uge:1<=uw
 own:Own 2 (.dead::W) [V] [cdL cs] I
 un:uw+1∉I
 g:GU cs
section
variable {n:Nat} {H:List AO} {I:List Nat}
theorem Own.iis{N:AV}{is:List Ii}(HV:Own n H [N] [inL is] I){k:Nat}{y:Ii}(hk:is[k]?=some y):∃id rows A Ji,N= .sl id 4 0 is.length/\H[id]?=some (.row 4 rows)/\rows.length=is.length/\rows[k]?=some [.p (.int .i64 y.op),.p (.int .i64 y.to),A,.p (.int .i64 y.n)]/\Own n H [A] [ay y.args] Ji/\id∈I/\(∀j∈Ji,j∈I/\j≠id)/\
 ∀(h2:List AO) (A':AV) (y':Ii) (I2:List Nat),h2[id]?=some (.row 4 (rows.set k [.p (.int .i64 y'.op),.p (.int .i64 y'.to),A',.p (.int .i64 y'.n)]))->(∀j∈I,j≠id->j∉Ji->h2[j]?=H[j]?)->Own n h2 [A'] [ay y'.args] I2->(∀j∈I2,j∈Ji\/j∉I)->∃I',Own n h2 [N] [inL (is.set k y')] I'/\∀j∈I',j∈I\/j∈I2:=by
 rcases HV.row with⟨_,h2,_⟩|⟨id,rows,J,h1,h2,hr,_⟩
 ·rw[List.map_eq_nil_iff.1 h2] at hk;simp at hk
 ·rw[List.length_map] at h1
  subst h2
  have HV2:=HV
  rw[h1] at HV2
  have hD:(is.map Ii.cs)[k]?=some y.cs:=by rw[List.getElem?_map,hk];rfl
  have hl:(is.map Ii.cs).length=is.length:=by simp
  obtain⟨r,Ji,g1,g2,g3,g4⟩:=Own.upd (D:=is.map Ii.cs) (by rw[hl];exact HV2) hr hD
  obtain⟨A,rfl,hA⟩:=EW g2
  have hnid:id∉J:=(List.nodup_cons.1 HV.nd).1
  refine⟨id,rows,A,Ji,h1,hr.here,by have:=hr.len;rwa[hl] at this,g1,hA,by simp,λj hj=>⟨List.mem_cons_of_mem _ (g3 j hj).1,(g3 j hj).2⟩,λh2 A' y' I2 k1 k2 k3 k4=>?_⟩
  obtain⟨J',q1,q2⟩:=g4 h2 _ y'.cs I2 k1 (λj hj hn=>k2 j (List.mem_cons_of_mem _ hj) (λe=>hnid (e▸hj)) hn) (ut k3) (λj hj=>by
   rcases k4 j hj with h|h
   ·exact .inl h
   ·rw[List.mem_cons,not_or] at h;exact .inr h) rfl
  rw[hl,←List.map_set,←h1] at q1
  refine⟨id::J',q1,λj hj=>?_⟩
  rcases List.mem_cons.1 hj with rfl|hj
  ·exact .inl (by simp)
  ·rcases q2 j hj with h|h
   ·exact .inl (List.mem_cons_of_mem _ h)
   ·exact .inr h
end
theorem GU.set{cs:List Cd}(h:GU cs)(k:Nat){c:Cd}(hc:GCd c):GU (cs.set k c):=⟨⟨λe=>h.1.1 (by have:=congrArg List.length e;simpa using this),by simpa using h.1.2⟩,λx hx=>by
 rcases List.mem_or_eq_of_mem_set hx with h1|rfl
 ·exact h.2 x h1
 ·exact hc⟩
theorem GCd.set{c:Cd}(h:GCd c)(b:Nat){x:Bk}(hx:x.next.length<=2):GCd ⟨c.params,c.regs,c.blocks.set b x⟩:=⟨by simpa using h.1,by simpa using h.2.1,λy hy=>by
 rcases List.mem_or_eq_of_mem_set hy with h1|rfl
 ·exact h.2.2 y h1
 ·exact hx⟩
section
variable {W:List AO} {uw:Nat} {V:AV} {cs:List Cd} {I:List Nat}
theorem BI.at(B:BI W uw V cs I){k b:Nat}{c:Cd}{x:Bk}(hk:cs[k]?=some c)(hb:c.blocks[b]?=some x):∃f rows g rows2 P N X IP IN IX,V= .sl (f+1) 3 0 cs.length/\W[f]?=some (.row 3 rows)/\rows.length=cs.length/\rows[k]?=some [.p (.int .i64 c.params),.p (.int .i64 c.regs),.sl (g+1) 5 0 c.blocks.length]/\
 W[g]?=some (.row 5 rows2)/\rows2.length=c.blocks.length/\rows2[b]?=some [P,N,.p (.int .i64 x.jump),.p (.int .i64 x.on),X]/\1<=f/\1<=g/\f≠uw/\g≠uw/\g≠f/\Own 2 (.dead::W) [P] [phL x.phis] IP/\Own 2 (.dead::W) [N] [inL x.ins] IN/\Own 2 (.dead::W) [X] [ay x.next] IX/\
 (∀j∈IP++(IN++IX),j≠f+1/\j≠g+1/\j≠uw+1)/\(∀j∈IP,j∉IN/\j∉IX)/\(∀j∈IN,j∉IX)/\
 (∀(W2:List AO) (P' N' X':AV) (j' o':Int) (ps:List Ph) (is:List Ii) (nx:List Int) (JP JN JX:List Nat),W.length<=W2.length->W2[g]?=some (.row 5 (rows2.set b [P',N',.p (.int .i64 j'),.p (.int .i64 o'),X']))->(∀i,i<W.length->i≠g->i+1∉IP++(IN++IX)->W2[i]?=W[i]?)->Own 2 (.dead::W2) [P'] [phL ps] JP->Own 2 (.dead::W2) [N'] [inL is] JN->Own 2 (.dead::W2) [X'] [ay nx] JX->(∀j∈JP,j∈IP\/W.length<j)->(∀j∈JN,j∈IN\/W.length<j)->(∀j∈JX,j∈IX)->(∀j∈JP,j∉JN)->nx.length<=2->∃cs' I',BI W2 uw V cs' I')/\
 ∀(W2:List AO) (rg:Int),W2[f]?=some (.row 3 (rows.set k [.p (.int .i64 c.params),.p (.int .i64 rg),.sl (g+1) 5 0 c.blocks.length]))->W.length<=W2.length->(∀i,i<W.length->i≠f->W2[i]?=W[i]?)->∃cs' I',BI W2 uw V cs' I':=by
 obtain⟨id,rows,gid,rows2,r,Jb,q1,q2,q3,q4,q5,q6,q7,q8,q9,q10,q11,q12,q13⟩:=B.own.blk hk hb
 have g1:=B.own.ge id q9
 have g2:=B.own.ge gid q10
 obtain⟨f,rfl⟩:∃f,id=f+1:=⟨id-1,by omega⟩
 obtain⟨g,rfl⟩:∃g,gid=g+1:=⟨gid-1,by omega⟩
 rw[List.getElem?_cons_succ] at q2 q5
 obtain⟨P,N,X,IP,IN,IX,rfl,rfl,hP,hN,hX⟩:=uc q8
 have hun:=B.un
 have hnd:=q8.nd
 simp only[List.nodup_append,List.mem_append] at hnd
 have hlt:∀j∈I,j<W.length+1:=λj hj=>by have:=B.own.lt j hj;simpa using this
 have hfu:f≠uw:=λe=>hun (e▸q9)
 have hgu:g≠uw:=λe=>hun (e▸q10)
 have huW:=(List.getElem?_eq_some_iff.1 B.u).1
 have h0W:=(List.getElem?_eq_some_iff.1 B.res).1
 have hge:=B.uge
 refine⟨f,rows,g,rows2,P,N,X,IP,IN,IX,q1,q2,q3,q4,q5,q6,q7,by omega,by omega,hfu,hgu,by omega,hP,hN,hX,λj hj=>⟨(q12 j hj).2.1,(q12 j hj).2.2,λe=>hun (e▸(q12 j hj).1)⟩,λj hj=>⟨λhm=>hnd.2.2 j hj j (.inl hm) rfl,λhm=>hnd.2.2 j hj j (.inr hm) rfl⟩,λj hj hm=>hnd.2.1.2.2 j hj j hm rfl,?_,?_⟩
 ·intro W2 P' N' X' j' o' ps is nx JP JN JX k0 k1 k2 k3 k4 k5 k6 k7 k8 k9 k10
  have hx:Own 2 (.dead::W2) [P',N',.p (.int .i64 j'),.p (.int .i64 o'),X'] (⟨ps,is,j',o',nx⟩:Bk).cs (JP++(JN++JX)):=pA (b:=⟨ps,is,j',o',nx⟩) k3 k4 k5 (λj hj=>⟨k9 j hj,λhm=>by
   have hm:=k8 j hm
   rcases k6 j hj with h|h
   ·exact hnd.2.2 j h j (.inr hm) rfl
   ·have:=hlt j (q12 j (by simp[hm])).1;omega⟩) λj hj hm=>by
   have hm:=k8 j hm
   rcases k7 j hj with h|h
   ·exact hnd.2.1.2.2 j h j hm rfl
   ·have:=hlt j (q12 j (by simp[hm])).1;omega
  have hJ:∀j∈JP++(JN++JX),j∈IP++(IN++IX)\/W.length<j:=λj hj=>by
   simp only[List.mem_append] at hj⊢
   rcases hj with hj|hj|hj
   ·exact(k6 j hj).imp (λh=> .inl h) (λh=>h)
   ·exact(k7 j hj).imp (λh=> .inr (.inl h)) (λh=>h)
   ·exact .inl (.inr (.inr (k8 j hj)))
  obtain⟨I',d1,d2⟩:=q13 (.dead::W2) _ ⟨ps,is,j',o',nx⟩ _ (by rw[List.getElem?_cons_succ];exact k1) (λj hj hn hm=>by
   have h3:=B.own.ge j hj
   have h4:=hlt j hj
   obtain⟨i,rfl⟩:∃i,j=i+1:=⟨j-1,by omega⟩
   rw[List.getElem?_cons_succ,List.getElem?_cons_succ,k2 i (by omega) (by omega) hm]) hx (λj hj=>(hJ j hj).imp (λh=>h) λh hm=>by have:=hlt j hm;omega)
  refine⟨_,I',?_,?_,hge,d1,λhm=>?_,B.g.set k ((B.g.2 c (List.mem_of_getElem? hk)).set b k10)⟩
  ·rw[k2 0 h0W (by omega) λhm=>by have:=B.own.ge _ (q12 _ hm).1;omega];exact B.res
  ·rw[k2 uw huW (Ne.symm hgu) λhm=>hun (q12 _ hm).1];exact B.u
  ·rcases d2 _ hm with h|h
   ·exact hun h
   ·rcases hJ _ h with h|h
    ·exact hun (q12 _ h).1
    ·omega
 ·intro W2 rg k1 k0 k2
  obtain⟨id',rows',B',Ji,a1,a2,a3,a4,a5,a6,a7,a8⟩:=B.own.cds hk
  rw[q1] at a1
  cases a1
  rw[List.getElem?_cons_succ,q2] at a2
  cases a2
  rw[q4] at a4
  cases a4
  have hsame:∀j∈I,j≠f+1->(AO.dead::W2)[j]?=(AO.dead::W)[j]?:=λj hj hn=>by
   have h3:=B.own.ge j hj
   have h4:=hlt j hj
   obtain⟨i,rfl⟩:∃i,j=i+1:=⟨j-1,by omega⟩
   rw[List.getElem?_cons_succ,List.getElem?_cons_succ,k2 i (by omega) (by omega)]
  obtain⟨I',d1,d2⟩:=a8 (.dead::W2) _ ⟨c.params,rg,c.blocks⟩ Ji (by rw[List.getElem?_cons_succ];exact k1) (λj hj hn _=>hsame j hj hn) (pu (c:=⟨c.params,rg,c.blocks⟩) (a5.frame λj hj=>hsame j (a7 j hj).1 (a7 j hj).2)) (λj hj=> .inl hj)
  refine⟨_,I',?_,?_,hge,d1,λhm=>?_,B.g.set k (B.g.2 c (List.mem_of_getElem? hk))⟩
  ·rw[k2 0 h0W (by omega)];exact B.res
  ·rw[k2 uw huW (Ne.symm hfu)];exact B.u
  ·rcases d2 _ hm with h|h
   ·exact hun h
   ·exact hun (a7 _ h).1
end
end
section
theorem sQ:AK.whole iC=FK.ak ic:=rfl
variable (G:aB)
theorem BI.more{W:List AO}{uw:Nat}{V:AV}{cs:List Cd}{I:List Nat}(B:BI W uw V cs I)(os:List AO):BI (W++os) uw V cs I:=
 ⟨by rw[List.getElem?_append_left (List.getElem?_eq_some_iff.1 B.res).1];exact B.res,by rw[List.getElem?_append_left (List.getElem?_eq_some_iff.1 B.u).1];exact B.u,B.uge,B.own.hd1 λi hi=>List.getElem?_append_left (by have:=B.own.lt _ hi;simpa using this),B.un,B.g⟩
theorem FJ{b:List Int}(hb:Byt b)(hl:b.length<=2000){p:Nat}(hp:p<=1000000000000)(l:List Int)(hne:l≠[])(hll:l.length<=1099511627776)(rest:List AO):AC Tryz.prog G aY [.ptr 0 2 0 0,.p (ay l)] (rdO b p::rest) λx h=>∃s:Int,x= .ret (.p (.int .i64 s))/\h=rdO b (p+1)::rest:=by
 refine AC.go en ?_
 have hpos:0<l.length:=List.length_pos_iff.2 hne
 have hsl:ay l= .lst 1 (l.map λw=>[.int .i64 w]):=rfl
 simp-implicitDefEqProofs[cQ,hsl]
 refine(aI G b hb hl p (by omega) l.length rest).mono ?_
 rintro r h ⟨k,rfl,rfl,hk⟩
 have hkl:k<l.length:=by omega
 have hg:=List.getElem?_eq_getElem hkl
 simp-implicitDefEqProofs[aa,hg]
structure BnS where (q:Nat) (W:List AO)
theorem Es{b:List Int}(hb:Byt b)(hl:b.length<=2000){p:Nat}(hp:p<=700000000000):AC Tryz.prog G im [.ptr 0 2 0 0] [rdO b p] λx h=>∃v q,x= .ret v/\h=[rdO b q]/\(∃cs,v= .agg [.p (cdL cs)]/\GU cs)/\p<=q/\q<=p+5000:=by
 refine gy G (AC.goK ta sQ ?_)
 simp-implicitDefEqProofs[iC,ic]
 refine(iD G (vG G hb hl (p:=p) (by omega)) _ (by simp[below])).mono ?_
 rintro r h ⟨v,q,rfl,rfl,⟨cs,rfl,hne,hl3,hsm⟩,hq1,hq2⟩
 simp-implicitDefEqProofs[aa]
 refine(AC.ownLift G py (tP G cs 3 (by omega) hl3 hsm) (h:=[rdO b q,.row 1 [[.nils]]]) (by simp)).mono ?_
 rintro r h ⟨vs,I,os,rfl,rfl,hO⟩
 obtain⟨V,rfl,hV⟩:=hO.single
 obtain⟨v1,v2⟩:=hV.cell
 simp-implicitDefEqProofs[-AV.cells,-AV.isCell,aE,ag,ah,an,al,aD,af,am,aj,v1,v2,aa]
 obtain⟨W,hW⟩:∃W,W=AO.row 1 [[.nils]]::(os++[.row 1 [[V]]]):=⟨_,rfl⟩
 obtain⟨uw,huw⟩:∃uw,uw=os.length+1:=⟨_,rfl⟩
 have hB:BI W uw V cs I:=by
  refine⟨by rw[hW];rfl,by rw[hW,huw,List.getElem?_cons_succ,List.getElem?_append_right (Nat.le_refl _)];simp,by omega,?_,λhm=>?_,⟨hne,by omega⟩,λc hc=>(hsm c hc).g⟩
  ·rw[hW]
   refine hV.frame λi hi=>?_
   have h1:=hV.ge i hi
   have h2:=hV.lt i hi
   obtain⟨j,rfl⟩:∃j,i=j+2:=⟨i-2,by simp at h1;omega⟩
   simp at h2
   simp only[List.cons_append,List.nil_append,List.getElem?_cons_succ]
   rw[List.getElem?_append_left h2]
  ·have:=hV.lt _ hm
   simp at this
   omega
 rw[←hW,←huw]
 clear hW huw hV hO
 obtain⟨c0,hc0⟩:∃c,cs[0]?=some c:=⟨_,List.getElem?_eq_getElem (List.length_pos_iff.2 hne)⟩
 obtain⟨id,_,_,_,rfl,_⟩:=hB.own.cds hc0
 simp-implicitDefEqProofs[hB.u]
 refine(aI G b hb hl q (by omega) _ W).mono ?_
 rintro r h ⟨k,rfl,rfl,hk⟩
 have hkl:k<cs.length:=by
  have:=List.length_pos_iff.2 hne
  omega
 have hgk:=List.getElem?_eq_getElem hkl
 generalize cs[k]=c at hgk
 have hsc:=hB.g.2 c (List.mem_of_getElem? hgk)
 obtain⟨x0,hx0⟩:∃x,c.blocks[0]?=some x:=⟨_,List.getElem?_eq_getElem (by have:=hsc.1;omega)⟩
 obtain⟨f,rows,g,rows2,_,_,_,_,_,_,e1,e2,e3,e4,e5,e6,_⟩:=hB.at hgk hx0
 cases e1
 simp-implicitDefEqProofs[aa,hB.u,hkl,e2,e4]
 refine(aI G b hb hl (q+1) (by omega) _ W).mono ?_
 rintro r h ⟨bI,rfl,rfl,hbI⟩
 have hbl:bI<c.blocks.length:=by have:=hsc.1;omega
 have hgb:=List.getElem?_eq_getElem hbl
 generalize c.blocks[bI]=x at hgb
 simp-implicitDefEqProofs[aa,hB.u,hkl,hbl,e2,e4]
 refine(iZ G hb hl (by omega) [-1,c.regs,c.blocks.length,0,1] (by simp) (by simp) (by omega) rfl (by rw[List.getElem?_cons_succ,List.getElem?_append_right (Nat.le_refl _),Nat.sub_self];rfl)).mono ?_
 rintro r h ⟨bad,hbad,rfl,rfl⟩
 simp-implicitDefEqProofs[aa]
 have hsx:SmB 3 x:=(hsm c (List.mem_of_getElem? hgk)).2.2.2 x (List.mem_of_getElem? hgb)
 have hB1:=hB.more [AO.row 1 [[AV.p (.int .i64 (-1))],[AV.p (.int .i64 c.regs)],[AV.p (.int .i64 c.blocks.length)],[AV.p (.int .i64 0)],[AV.p (.int .i64 1)]]]
 generalize hW1:W++[AO.row 1 [[AV.p (.int .i64 (-1))],[AV.p (.int .i64 c.regs)],[AV.p (.int .i64 c.blocks.length)],[AV.p (.int .i64 0)],[AV.p (.int .i64 1)]]]=W1 at hB1
 obtain⟨f1,rows1,g1,rows3,P,N,X,IP,IN,IX,a1,a2,a3,a4,a5,a6,a7,a8,a9,a10,a11,a12,hP,hN,hX,a13,a14,a15,fin1,fin2⟩:=hB1.at hgk hgb
 cases a1
 have hgr:g1=g/\rows1=rows:=by
  have h1:W1[f]?=some (.row 3 rows):=by rw[←hW1,List.getElem?_append_left (List.getElem?_eq_some_iff.1 e2).1];exact e2
  rw[h1] at a2
  cases a2
  rw[e4] at a4
  cases a4
  exact⟨rfl,rfl⟩
 obtain⟨rfl,rfl⟩:=hgr
 clear hW1 hB e2 e3 e4 e5 e6 hbad
 have hq3:p<=q+1+1+1:=by omega
 have hq4:q+1+1+1<=p+4003:=by omega
 generalize q+1+1+1=q5 at hq3 hq4
 clear hq1 hq2
 have hfW:=(List.getElem?_eq_some_iff.1 a2).1
 have hgW:=(List.getElem?_eq_some_iff.1 a5).1
 refine gm (λa:BnS=>aC 154 [(3,.ptr (uw+1) 1 0 0),(2,.ptr 1 1 0 0)]) (λa=>rdO b a.q::a.W) (λa=>p<=a.q/\a.q<=p+4010/\∃cs' I',BI a.W uw (.sl (f+1) 3 0 cs.length) cs' I') ?_ ?_
 ·have hlen2:x.next.length<=2:=hsc.2.2 x (List.mem_of_getElem? hgb)
  have hbg:bI<rows3.length:=by omega
  have hWt:∀q' W2,W1.length<=W2.length->FgA (rdO b q'::W2:List AO).length [(3,AV.ptr (uw+1) 1 0 0),(2,AV.ptr 1 1 0 0)] [(3,AV.ptr (uw+1) 1 0 0),(2,AV.ptr 1 1 0 0)]:=λq' W2 h=>by
   have:=(List.getElem?_eq_some_iff.1 hB1.u).1
   simp[below];omega
  have hkeep:rows3.set bI [P,N,.p (.int .i64 x.jump),.p (.int .i64 x.on),X]=rows3:=by
   obtain⟨hl,e⟩:=List.getElem?_eq_some_iff.1 a7
   rw[←e];exact List.set_getElem_self hl
  have fr1:∀{vs:List AV} {qs:List PV} {J:List Nat} (i:Nat) (o:AO),Own 2 (.dead::W1) vs qs J->i+1∉J->Own 2 (.dead::W1.set i o) vs qs J:=λi o h hn=>h.hd1 λi' hi=>List.getElem?_set_ne λe=>hn (by rw[e];exact hi)
  have ng:g1+1∉IP/\g1+1∉IN/\g1+1∉IX:=⟨λh=>(a13 _ (by simp[h])).2.1 rfl,λh=>(a13 _ (by simp[h])).2.1 rfl,λh=>(a13 _ (by simp[h])).2.1 rfl⟩
  have setg:∀j' o':Int,∃cs' I',BI (W1.set g1 (.row 5 (rows3.set bI [P,N,.p (.int .i64 j'),.p (.int .i64 o'),X]))) uw (.sl (f+1) 3 0 cs.length) cs' I':=λj' o'=>
   fin1 _ P N X j' o' x.phis x.ins x.next IP IN IX (by simp) (List.getElem?_set_self hgW) (λi _ hn _=>List.getElem?_set_ne (Ne.symm hn)) (fr1 _ _ hP ng.1) (fr1 _ _ hN ng.2.1) (fr1 _ _ hX ng.2.2) (λj h=> .inl h) (λj h=> .inl h) (λj h=>h) (λj h=>(a14 j h).1) hlen2
  simp-implicitDefEqProofs[]
  refine(aI G b hb hl q5 (by omega) 32 _).mono ?_
  rintro r h ⟨ca,rfl,rfl,_⟩
  simp-implicitDefEqProofs[aa]
  refine aG (λh0=>?_) (λh0=>?_)
  ·simp-implicitDefEqProofs[]
   refine(aI G b hb hl (q5+1) (by omega) 5 _).mono ?_
   rintro r h ⟨j1,rfl,rfl,_⟩
   simp-implicitDefEqProofs[aa,a5,a7]
   exact⟨⟨q5+1+1,_⟩,⟨by simp only;omega,by simp only;omega,setg _ _⟩,ab (by simp) (hWt _ _ (by simp<;>omega))⟩
  simp-implicitDefEqProofs[]
  refine aG (λh1=>?_) (λh1=>?_)
  ·rcases hX.row with⟨rfl,_⟩|⟨i,rX,J,hXv,_⟩
   ·simp-implicitDefEqProofs[a5,a7]
    exact⟨⟨q5+1,W1⟩,⟨by simp only;omega,by simp only;omega,_,_,hB1⟩,ab (by simp) (hWt _ _ (by simp<;>omega))⟩
   ·rw[List.length_map] at hXv
    subst hXv
    obtain⟨_,rfl,hi2,hgi⟩:=nj hX
    obtain⟨i,rfl⟩:∃i',i=i'+1:=⟨i-1,by omega⟩
    rw[List.getElem?_cons_succ] at hgi
    have hil:=(List.getElem?_eq_some_iff.1 hgi).1
    simp-implicitDefEqProofs[a5,a7]
    refine aG (λhp0=>?_) (λhp0=>?_)
    ·have hp0:0<x.next.length:=by simpa using hp0
     have hr0:(x.next.map λn=>[AV.p (.int .i64 n)])[0]?=some [.p (.int .i64 (x.next.getD 0 0))]:=by
      cases hh:x.next with
      |nil=>rw[hh] at hp0;simp at hp0
      |cons a r=>rfl
     simp-implicitDefEqProofs[a5,a7,hgi,hp0,hr0]
     refine⟨⟨q5+1,_⟩,⟨by simp only;omega,by simp only;omega,fin1 (W1.set i (.row 1 ((x.next.map λn=>[AV.p (.int .i64 n)]).set 0 [.p (.int .i64 bad)]))) P N (.sl (i+1) 1 0 x.next.length) x.jump x.on x.phis x.ins (x.next.set 0 bad) IP IN [i+1] (by simp) ?_ ?_ (fr1 _ _ hP λh=>(a14 _ h).2 (by simp)) (fr1 _ _ hN λh=>a15 _ h (by simp)) (bX ?_ (by omega) (by simp)) (λj h=> .inl h) (λj h=> .inl h) (λj h=>h) (λj h=>(a14 j h).1) (by simpa using hlen2)⟩,ab (by simp) (hWt _ _ (by simp<;>omega))⟩
     ·have hne:i≠g1:=λe=>ng.2.2 (by rw[←e];simp)
      rw[hkeep,List.getElem?_set_ne hne];exact a5
     ·intro i' _ _ hn
      refine List.getElem?_set_ne λe=>hn ?_
      rw[←e];simp
     ·rw[List.getElem?_cons_succ,List.getElem?_set_self hil,List.map_set]
    ·exact⟨⟨q5+1,W1⟩,⟨by simp only;omega,by simp only;omega,_,_,hB1⟩,ab (by simp) (hWt _ _ (by simp<;>omega))⟩
  simp-implicitDefEqProofs[]
  refine aG (λh2=>?_) (λh2=>?_)
  ·simp-implicitDefEqProofs[a5,a7]
   exact⟨⟨q5+1,_⟩,⟨by simp only;omega,by simp only;omega,setg _ _⟩,ab (by simp) (hWt _ _ (by simp<;>omega))⟩
  have hNc:(N= .nils\/∃id,N= .sl id 4 0 0)\/∃(i:Nat) (rN:List (List AV)) (A:AV) (y:Ii) (JA:List Nat),N= .sl (i+1) 4 0 x.ins.length/\W1[i]?=some (.row 4 rN)/\i<W1.length/\i≠g1/\i+1∈IN/\x.ins[0]?=some y/\0<x.ins.length/\0<rN.length/\rN[0]?=some [.p (.int .i64 y.op),.p (.int .i64 y.to),A,.p (.int .i64 y.n)]/\Own 2 (.dead::W1) [A] [ay y.args] JA/\(∀j∈JA,j∈IN/\j≠i+1)/\
   ∀(W2:List AO) (A':AV) (y':Ii) (I2:List Nat),W1.length<=W2.length->W2[i]?=some (.row 4 (rN.set 0 [.p (.int .i64 y'.op),.p (.int .i64 y'.to),A',.p (.int .i64 y'.n)]))->(∀i',i'<W1.length->i'≠i->i'+1∉JA->W2[i']?=W1[i']?)->Own 2 (.dead::W2) [A'] [ay y'.args] I2->(∀j∈I2,j∈JA\/W1.length<j)->∃cs' I',BI W2 uw (.sl (f+1) 3 0 cs.length) cs' I':=by
   rcases hN.row with⟨e1,e2,_⟩|⟨id,rN,J,e1,e2,hr,_⟩
   ·exact .inl (.inl e1)
   ·rw[List.length_map] at e1
    by_cases h0i:x.ins.length=0
    ·rw[h0i] at e1
     exact .inl (.inr ⟨_,e1⟩)
    ·obtain⟨y,hy⟩:∃y,x.ins[0]?=some y:=⟨_,List.getElem?_eq_getElem (by omega)⟩
     obtain⟨id,rN,A,JA,q1,q2,q3,q4,q5',q6,q7,q8⟩:=hN.iis hy
     have hge:=hN.ge id q6
     obtain⟨i,rfl⟩:∃i',id=i'+1:=⟨id-1,by omega⟩
     rw[List.getElem?_cons_succ] at q2
     have hil:=(List.getElem?_eq_some_iff.1 q2).1
     have hig:i≠g1:=λe=>ng.2.1 (by rw[←e];exact q6)
     refine .inr ⟨i,rN,A,y,JA,q1,q2,hil,hig,q6,hy,by omega,by omega,q4,q5',q7,λW2 A' y' I2 k0 k1 k2 k3 k4=>?_⟩
     have hINl:∀j∈IN,j<W1.length+1:=λj hj=>by have:=hN.lt j hj;simpa using this
     obtain⟨I',d1,d2⟩:=q8 (.dead::W2) A' y' I2 (by rw[List.getElem?_cons_succ];exact k1) (λj hj hn hm=>by
      have h3:=hN.ge j hj
      have h4:=hINl j hj
      obtain⟨i',rfl⟩:∃i',j=i'+1:=⟨j-1,by omega⟩
      rw[List.getElem?_cons_succ,List.getElem?_cons_succ,k2 i' (by omega) (by omega) hm]) k3 (λj hj=>(k4 j hj).imp (λh=>h) λh hm=>by have:=hINl j hm;omega)
     have fr2:∀{vs:List AV} {qs:List PV} {J:List Nat},Own 2 (.dead::W1) vs qs J->(∀j∈J,j∉IN)->Own 2 (.dead::W2) vs qs J:=λh hn=>h.hd1 λi' hi=>k2 i' (by have:=h.lt _ hi;simpa using this) (λe=>hn _ hi (e▸q6)) λhm=>hn _ hi (q7 _ hm).1
     refine fin1 W2 P N X x.jump x.on x.phis _ x.next IP I' IX k0 ?_ ?_ (fr2 hP λj hj=>(a14 j hj).1) d1 (fr2 hX λj hj hm=>a15 j hm hj) (λj h=> .inl h) (λj hj=>?_) (λj h=>h) (λj hj hm=>?_) hlen2
     ·rw[hkeep,k2 g1 hgW (Ne.symm hig) λhm=>ng.2.1 (q7 _ hm).1];exact a5
     ·intro i' hi' _ hn
      simp only[List.mem_append,not_or] at hn
      exact k2 i' hi' (λe=>hn.2.1 (e▸q6)) λhm=>hn.2.1 (q7 _ hm).1
     ·rcases d2 j hj with h|h
      ·exact .inl h
      ·exact(k4 j h).imp (λh=>(q7 j h).1) (λh=>h)
     ·rcases d2 j hm with h|h
      ·exact(a14 j hj).1 h
      ·rcases k4 j h with h|h
       ·exact(a14 j hj).1 (q7 j h).1
       ·have:=hP.lt j hj;simp at this;omega
  simp-implicitDefEqProofs[]
  refine aG (λh3=>?_) (λh3=>?_)
  ·rcases hNc with(rfl|⟨id,rfl⟩)|⟨i,rN,A,y,JA,rfl,b1,b2,b3,b4,hy0,b5,b6,b7,hA,b8,fin⟩
   ·simp-implicitDefEqProofs[a5,a7]
    exact⟨⟨q5+1,W1⟩,⟨by simp only;omega,by simp only;omega,_,_,hB1⟩,ab (by simp) (hWt _ _ (by simp<;>omega))⟩
   ·simp-implicitDefEqProofs[a5,a7]
    exact⟨⟨q5+1,W1⟩,⟨by simp only;omega,by simp only;omega,_,_,hB1⟩,ab (by simp) (hWt _ _ (by simp<;>omega))⟩
   ·obtain⟨z1,z2⟩:=hA.cell
    simp-implicitDefEqProofs[-AV.cells,-AV.isCell,aE,ag,ah,an,al,aD,af,am,aj,z1,z2,a5,a7,b1,b5,b7]
    exact⟨⟨q5+1,_⟩,⟨by simp only;omega,by simp only;omega,fin (W1.set i (.row 4 (rN.set 0 [.p (.int .i64 y.op),.p (.int .i64 bad),A,.p (.int .i64 y.n)]))) A ⟨y.op,bad,y.args,y.n⟩ JA (by simp) (List.getElem?_set_self b2) (λi' _ hn _=>List.getElem?_set_ne (Ne.symm hn)) (fr1 _ _ hA λh=>(b8 _ h).2 rfl) (λj h=> .inl h)⟩,ab (by simp) (hWt _ _ (by simp<;>omega))⟩
  simp-implicitDefEqProofs[]
  refine aG (λh4=>?_) (λh4=>?_)
  ·rcases hNc with(rfl|⟨id,rfl⟩)|⟨i,rN,A,y,JA,rfl,b1,b2,b3,b4,hy0,b5,b6,b7,hA,b8,fin⟩
   ·simp-implicitDefEqProofs[a5,a7]
    exact⟨⟨q5+1,W1⟩,⟨by simp only;omega,by simp only;omega,_,_,hB1⟩,ab (by simp) (hWt _ _ (by simp<;>omega))⟩
   ·simp-implicitDefEqProofs[a5,a7]
    exact⟨⟨q5+1,W1⟩,⟨by simp only;omega,by simp only;omega,_,_,hB1⟩,ab (by simp) (hWt _ _ (by simp<;>omega))⟩
   ·have hgp:∀t,(W1++t)[g1]?=some (.row 5 rows3):=λt=>by rw[List.getElem?_append_left hgW];exact a5
    have hip:∀t,(W1++t)[i]?=some (.row 4 rN):=λt=>by rw[List.getElem?_append_left b2];exact b1
    have hpe:=λt hh=>ep (hgp t) hh
    have hie:=λt hh=>ep (hip t) hh
    rcases hA.row with⟨rfl,h0,hJ0⟩|⟨a,rA,J,hAv,_⟩
    ·have h0:y.args=[]:=List.map_eq_nil_iff.1 h0
     simp-implicitDefEqProofs[a5,a7,b1,b5,b7,hgp,hip,hpe,hie]
     refine⟨⟨q5+1,_⟩,⟨by simp only;omega,by simp only;omega,fin ((W1++[AO.row 1 [[.p (.int .i64 bad)]]]).set i (.row 4 (rN.set 0 [.p (.int .i64 y.op),.p (.int .i64 y.to),.sl (W1.length+1) 1 0 1,.p (.int .i64 y.n)]))) _ ⟨y.op,y.to,[bad],y.n⟩ [W1.length+1] (by simp) (List.getElem?_set_self (by simp;omega)) (λi' hi' hn _=>by rw[List.getElem?_set_ne (Ne.symm hn),List.getElem?_append_left hi']) (bX ?_ (by omega) rfl) (λj h=> .inr (by rw[List.mem_singleton.1 h];omega))⟩,ab (by simp) (hWt _ _ (by simp<;>omega))⟩
     rw[List.getElem?_cons_succ,List.getElem?_set_ne (by omega),List.getElem?_append_right (Nat.le_refl _)];simp
    ·rw[List.length_map] at hAv
     subst hAv
     obtain⟨_,rfl,ha2,hga⟩:=nj hA
     obtain⟨a,rfl⟩:∃a',a=a'+1:=⟨a-1,by omega⟩
     rw[List.getElem?_cons_succ] at hga
     have hal:=(List.getElem?_eq_some_iff.1 hga).1
     have hai:a≠i:=λe=>(b8 (a+1) (by simp)).2 (by rw[e])
     have hag:a≠g1:=λe=>ng.2.1 (by rw[←e];exact(b8 (a+1) (by simp)).1)
     have hsz:y.args.length<=3:=hsx.2.2.2.1 y (List.mem_of_getElem? hy0)
     have htk:List.take y.args.length (y.args.map λn=>[AV.p (.int .i64 n)])=y.args.map λn=>[AV.p (.int .i64 n)]:=List.take_of_length_le (by simp)
     have n5:∀t,(W1.set a .dead++t)[g1]?=some (.row 5 rows3):=λt=>by rw[List.getElem?_append_left (by simpa using hgW),List.getElem?_set_ne hag];exact a5
     have n6:∀t,(W1.set a .dead++t)[i]?=some (.row 4 rN):=λt=>by rw[List.getElem?_append_left (by simpa using b2),List.getElem?_set_ne hai];exact b1
     have n5e:=λt hh=>ep (n5 t) hh
     have n6e:=λt hh=>ep (n6 t) hh
     simp-implicitDefEqProofs[a5,a7,b1,b5,b7,hgp,hip,hpe,hie,hga,htk,n5,n6,n5e,n6e]
     refine⟨⟨by omega,by omega⟩,⟨q5+1,_⟩,⟨by simp only;omega,by simp only;omega,fin ((W1.set a .dead++[AO.row 1 ((y.args.map λn=>[AV.p (.int .i64 n)])++[[.p (.int .i64 bad)]])]).set i (.row 4 (rN.set 0 [.p (.int .i64 y.op),.p (.int .i64 y.to),.sl (W1.length+1) 1 0 (y.args.length+1),.p (.int .i64 y.n)]))) _ ⟨y.op,y.to,y.args++[bad],y.n⟩ [W1.length+1] (by simp) (List.getElem?_set_self (by simp;omega)) (λi' hi' hn hna=>by rw[List.getElem?_set_ne (Ne.symm hn),List.getElem?_append_left (by simpa using hi'),List.getElem?_set_ne λe=>hna (by rw[e];simp)]) (bX ?_ (by omega) (by simp)) (λj h=> .inr (by rw[List.mem_singleton.1 h];omega))⟩,ab ?_ ?_⟩
     ·rw[List.getElem?_cons_succ,List.getElem?_set_ne (by omega),List.getElem?_append_right (by simp)];simp
     ·simp
     ·exact hWt _ _ (by simp<;>omega)
  simp-implicitDefEqProofs[]
  refine aG (λh5=>?_) (λh5=>?_)
  ·have hgp:∀t,(W1++t)[g1]?=some (.row 5 rows3):=λt=>by rw[List.getElem?_append_left hgW];exact a5
   have hpe:=λt hh=>ep (hgp t) hh
   obtain⟨x1,x2⟩:=hX.cell
   obtain⟨n1,n2⟩:=hN.cell
   have hb1:Own 2 (.dead::(W1++[AO.row 1 [[.p (.int .i64 bad)]]])) [.p (.int .i64 0),.sl (W1.length+1) 1 0 1] (⟨0,[bad]⟩:Ph).cs [W1.length+1]:=ug (x:=⟨0,[bad]⟩) (bX (by rw[List.getElem?_cons_succ,List.getElem?_append_right (Nat.le_refl _)];simp) (by omega) rfl)
   rcases hP.row with⟨rfl,h0,hJ0⟩|⟨a,rA,J,hAv,hJ0,hr,_⟩
   ·simp-implicitDefEqProofs[-AV.cells,-AV.isCell,aE,ag,ah,an,al,aD,af,am,aj,x1,x2,n1,n2,a5,a7,hgp,hpe]
    have hfin:∀(W3:List AO) (P':AV),Psh (.dead::(W1++[AO.row 1 [[.p (.int .i64 bad)]],AO.row 2 [[.p (.int .i64 0),.sl (W1.length+1) 1 0 1]]])) .nils 2 [.p (.int .i64 0),.sl (W1.length+1) 1 0 1] (.dead::W3) P'->∃cs' I',BI (W3.set g1 (.row 5 (rows3.set bI [P',N,.p (.int .i64 x.jump),.p (.int .i64 x.on),X]))) uw (.sl (f+1) 3 0 cs.length) cs' I':=λW3 P' hp=>by
     have hb2:Own 2 (.dead::(W1++[AO.row 1 [[.p (.int .i64 bad)]],AO.row 2 [[.p (.int .i64 0),.sl (W1.length+1) 1 0 1]]])) [.p (.int .i64 0),.sl (W1.length+1) 1 0 1] (⟨0,[bad]⟩:Ph).cs [W1.length+1]:=by
      have:=hb1.more [AO.row 2 [[.p (.int .i64 0),.sl (W1.length+1) 1 0 1]]]
      rw[List.cons_append,List.append_assoc] at this
      exact this
     have hPl:∀j∈IP,j<W1.length+1:=λj hj=>by have:=hP.lt j hj;simpa using this
     obtain⟨IP',m1,m2,m3,m4⟩:=(hP.more [AO.row 1 [[.p (.int .i64 bad)]],AO.row 2 [[.p (.int .i64 0),.sl (W1.length+1) 1 0 1]]]).psh hb2 (λj hj hm=>by have:=hPl j hj;rw[List.mem_singleton.1 hm] at this;omega) rfl (by simp) hp
     simp only[List.cons_append,List.length_cons,List.length_append,List.length_nil] at m2 m3 m4
     have hnew:∀j∈IP',j∈IP\/W1.length<j:=λj hj=>by
      rcases m2 j hj with h|h|h
      ·exact .inl h
      ·exact .inr (by rw[List.mem_singleton.1 h];omega)
      ·exact .inr (by omega)
     have hsame:∀i,i<W1.length->i+1∉IP->W3[i]?=W1[i]?:=λi hi hn=>by
      have:=m3 (i+1) (by omega) hn
      rw[List.getElem?_cons_succ,List.getElem?_cons_succ,List.getElem?_append_left hi] at this
      exact this
     have hgP:g1≠g1->False:=λh=>h rfl
     have hng:∀i (o:AO),i≠g1->(W3.set g1 o)[i]?=W3[i]?:=λi o hi=>List.getElem?_set_ne (Ne.symm hi)
     have fr3:∀{vs:List AV} {qs:List PV} {J:List Nat} (o:AO),Own 2 (.dead::W1) vs qs J->(∀j∈J,j∉IP)->g1+1∉J->Own 2 (.dead::W3.set g1 o) vs qs J:=λo h hn hg=>h.hd1 λi hi=>by
      have hil:=h.lt _ hi
      simp only[List.length_cons] at hil
      rw[hng i o λe=>hg (e▸hi),hsame i (by omega) (hn _ hi)]
     refine fin1 _ P' N X x.jump x.on (x.phis++[⟨0,[bad]⟩]) x.ins x.next IP' IN IX (by simp;omega) (List.getElem?_set_self (by omega)) (λi hi hn hm=>?_) ?_ (fr3 _ hN (λj hj hm=>(a14 j hm).1 hj) ng.2.1) (fr3 _ hX (λj hj hm=>(a14 j hm).2 hj) ng.2.2) hnew (λj h=> .inl h) (λj h=>h) (λj hj hm=>?_) hlen2
     ·simp only[List.mem_append,not_or] at hm
      rw[hng i _ hn,hsame i hi hm.1]
     ·have:phL (x.phis++[⟨0,[bad]⟩])= .lst 2 (x.phis.map Ph.cs++[(⟨0,[bad]⟩:Ph).cs]):=by rw[phL,List.map_append];rfl
      rw[this]
      refine m1.hd1 λi hi=>hng i _ λe=>?_
      subst e
      rcases hnew _ hi with h|h
      ·exact ng.1 h
      ·omega
     ·rcases hnew j hj with h|h
      ·exact(a14 j h).1 hm
      ·have:=hN.lt j hm;simp at this;omega
    refine⟨⟨q5+1,_⟩,⟨by simp only;omega,by simp only;omega,hfin (W1++[AO.row 1 [[.p (.int .i64 bad)]],AO.row 2 [[.p (.int .i64 0),.sl (W1.length+1) 1 0 1]],AO.row 2 [[.p (.int .i64 0),.sl (W1.length+1) 1 0 1]]]) (.sl (W1.length+2+1) 2 0 1) (.inl ⟨rfl,by simp,by simp⟩)⟩,ab ?_ ?_⟩
    ·simp
    ·exact hWt _ _ (by simp<;>omega)
   ·rw[List.length_map] at hAv
    subst hAv
    have ha2:=hP.ge a (by rw[hJ0];simp)
    obtain⟨a,rfl⟩:∃a',a=a'+1:=⟨a-1,by omega⟩
    have hga:=hr.here
    rw[List.getElem?_cons_succ] at hga
    have hag:a≠g1:=λe=>ng.1 (by rw[←e,hJ0];simp)
    have hal:=(List.getElem?_eq_some_iff.1 hga).1
    have hrl:rA.length=x.phis.length:=by have:=hr.len;simpa using this
    have htk:List.take x.phis.length rA=rA:=List.take_of_length_le (by omega)
    have m7:∀t,(W1++t)[a]?=some (.row 2 rA):=λt=>by rw[List.getElem?_append_left hal];exact hga
    have n5:∀t t',((W1++t).set a .dead++t')[g1]?=some (.row 5 rows3):=λt t'=>by rw[List.getElem?_append_left (by simp;omega),List.getElem?_set_ne hag];exact hgp t
    have m7e:=λt hh=>ep (m7 t) hh
    have n5e:=λt t' hh=>ep (n5 t t') hh
    simp-implicitDefEqProofs[-AV.cells,-AV.isCell,aE,ag,ah,an,al,aD,af,am,aj,x1,x2,n1,n2,a5,a7,hgp,hpe,m7,m7e,n5,n5e,htk]
    have hfin:∀(W3:List AO) (P':AV),Psh (.dead::(W1++[AO.row 1 [[.p (.int .i64 bad)]],AO.row 2 [[.p (.int .i64 0),.sl (W1.length+1) 1 0 1]]])) (.sl (a+1) 2 0 x.phis.length) 2 [.p (.int .i64 0),.sl (W1.length+1) 1 0 1] (.dead::W3) P'->∃cs' I',BI (W3.set g1 (.row 5 (rows3.set bI [P',N,.p (.int .i64 x.jump),.p (.int .i64 x.on),X]))) uw (.sl (f+1) 3 0 cs.length) cs' I':=λW3 P' hp=>by
     have hb2:Own 2 (.dead::(W1++[AO.row 1 [[.p (.int .i64 bad)]],AO.row 2 [[.p (.int .i64 0),.sl (W1.length+1) 1 0 1]]])) [.p (.int .i64 0),.sl (W1.length+1) 1 0 1] (⟨0,[bad]⟩:Ph).cs [W1.length+1]:=by
      have:=hb1.more [AO.row 2 [[.p (.int .i64 0),.sl (W1.length+1) 1 0 1]]]
      rw[List.cons_append,List.append_assoc] at this
      exact this
     have hPl:∀j∈IP,j<W1.length+1:=λj hj=>by have:=hP.lt j hj;simpa using this
     obtain⟨IP',m1,m2,m3,m4⟩:=(hP.more [AO.row 1 [[.p (.int .i64 bad)]],AO.row 2 [[.p (.int .i64 0),.sl (W1.length+1) 1 0 1]]]).psh hb2 (λj hj hm=>by have:=hPl j hj;rw[List.mem_singleton.1 hm] at this;omega) rfl (by simp) hp
     simp only[List.cons_append,List.length_cons,List.length_append,List.length_nil] at m2 m3 m4
     have hnew:∀j∈IP',j∈IP\/W1.length<j:=λj hj=>by
      rcases m2 j hj with h|h|h
      ·exact .inl h
      ·exact .inr (by rw[List.mem_singleton.1 h];omega)
      ·exact .inr (by omega)
     have hsame:∀i,i<W1.length->i+1∉IP->W3[i]?=W1[i]?:=λi hi hn=>by
      have:=m3 (i+1) (by omega) hn
      rw[List.getElem?_cons_succ,List.getElem?_cons_succ,List.getElem?_append_left hi] at this
      exact this
     have hgP:g1≠g1->False:=λh=>h rfl
     have hng:∀i (o:AO),i≠g1->(W3.set g1 o)[i]?=W3[i]?:=λi o hi=>List.getElem?_set_ne (Ne.symm hi)
     have fr3:∀{vs:List AV} {qs:List PV} {J:List Nat} (o:AO),Own 2 (.dead::W1) vs qs J->(∀j∈J,j∉IP)->g1+1∉J->Own 2 (.dead::W3.set g1 o) vs qs J:=λo h hn hg=>h.hd1 λi hi=>by
      have hil:=h.lt _ hi
      simp only[List.length_cons] at hil
      rw[hng i o λe=>hg (e▸hi),hsame i (by omega) (hn _ hi)]
     refine fin1 _ P' N X x.jump x.on (x.phis++[⟨0,[bad]⟩]) x.ins x.next IP' IN IX (by simp;omega) (List.getElem?_set_self (by omega)) (λi hi hn hm=>?_) ?_ (fr3 _ hN (λj hj hm=>(a14 j hm).1 hj) ng.2.1) (fr3 _ hX (λj hj hm=>(a14 j hm).2 hj) ng.2.2) hnew (λj h=> .inl h) (λj h=>h) (λj hj hm=>?_) hlen2
     ·simp only[List.mem_append,not_or] at hm
      rw[hng i _ hn,hsame i hi hm.1]
     ·have:phL (x.phis++[⟨0,[bad]⟩])= .lst 2 (x.phis.map Ph.cs++[(⟨0,[bad]⟩:Ph).cs]):=by rw[phL,List.map_append];rfl
      rw[this]
      refine m1.hd1 λi hi=>hng i _ λe=>?_
      subst e
      rcases hnew _ hi with h|h
      ·exact ng.1 h
      ·omega
     ·rcases hnew j hj with h|h
      ·exact(a14 j h).1 hm
      ·have:=hN.lt j hm;simp at this;omega
    have hphl:=hsx.1
    refine⟨⟨by omega,by omega,by omega⟩,⟨q5+1,_⟩,⟨by simp only;omega,by simp only;omega,hfin ((W1++[AO.row 1 [[.p (.int .i64 bad)]],AO.row 2 [[.p (.int .i64 0),.sl (W1.length+1) 1 0 1]]]).set a .dead++[AO.row 2 (rA++[[.p (.int .i64 0),.sl (W1.length+1) 1 0 1]])]) (.sl (W1.length+2+1) 2 0 (x.phis.length+1)) (.inr ⟨a+1,rA,_,rfl,by rw[List.getElem?_cons_succ];exact m7 _,hrl,by simp,by simp⟩)⟩,ab ?_ ?_⟩
    ·simp
    ·exact hWt _ _ (by simp<;>omega)
  simp-implicitDefEqProofs[]
  refine aG (λh6=>?_) (λh6=>?_)
  ·simp-implicitDefEqProofs[a2,a4]
   refine(aI G b hb hl (q5+1) (by omega) 2 _).mono ?_
   rintro r h ⟨j1,rfl,rfl,_⟩
   simp-implicitDefEqProofs[aa,a2,a4]
   exact⟨⟨q5+1+1,_⟩,⟨by simp only;omega,by simp only;omega,fin2 _ _ (List.getElem?_set_self hfW) (by simp) (λi _ hn=>List.getElem?_set_ne (Ne.symm hn))⟩,ab (by simp) (hWt _ _ (by simp<;>omega))⟩
  simp-implicitDefEqProofs[]
  refine aG (λh7=>?_) (λh7=>?_)
  ·rcases hNc with(rfl|⟨id,rfl⟩)|⟨i,rN,A,y,JA,rfl,b1,b2,b3,b4,hy0,b5,b6,b7,hA,b8,fin⟩
   ·simp-implicitDefEqProofs[a5,a7]
    exact⟨⟨q5+1,W1⟩,⟨by simp only;omega,by simp only;omega,_,_,hB1⟩,ab (by simp) (hWt _ _ (by simp<;>omega))⟩
   ·simp-implicitDefEqProofs[a5,a7]
    exact⟨⟨q5+1,W1⟩,⟨by simp only;omega,by simp only;omega,_,_,hB1⟩,ab (by simp) (hWt _ _ (by simp<;>omega))⟩
   ·obtain⟨z1,z2⟩:=hA.cell
    simp-implicitDefEqProofs[-AV.cells,-AV.isCell,aE,ag,ah,an,al,aD,af,am,aj,z1,z2,a5,a7,b1,b5,b7]
    refine(FJ G hb hl (p:=q5+1) (by omega) [256,-1,1] (by simp) (by simp) W1).mono ?_
    rintro r h ⟨nn,rfl,rfl⟩
    simp-implicitDefEqProofs[-AV.cells,-AV.isCell,aE,ag,ah,an,al,aD,af,am,aj,z1,z2,aa,a5,a7,b1,b5,b7]
    exact⟨⟨q5+1+1,_⟩,⟨by simp only;omega,by simp only;omega,fin (W1.set i (.row 4 (rN.set 0 [.p (.int .i64 y.op),.p (.int .i64 y.to),A,.p (.int .i64 nn)]))) A ⟨y.op,y.to,y.args,nn⟩ JA (by simp) (List.getElem?_set_self b2) (λi' _ hn _=>List.getElem?_set_ne (Ne.symm hn)) (fr1 _ _ hA λh=>(b8 _ h).2 rfl) (λj h=> .inl h)⟩,ab (by simp) (hWt _ _ (by simp<;>omega))⟩
  ·exact⟨⟨q5+1,W1⟩,⟨by simp only;omega,by simp only;omega,_,_,hB1⟩,ab (by simp) (hWt _ _ (by simp<;>omega))⟩
 ·rintro⟨q,W⟩ ⟨hq1,hq2,cs',I',hB'⟩
  simp only at hq1 hq2 hB'⊢
  have hs0:∀o,(W.set 0 o)[0]?=some o:=λo=>List.getElem?_set_self (List.getElem?_eq_some_iff.1 hB'.res).1
  have hwu:=hB'.u
  have hwr:=hB'.res
  simp-implicitDefEqProofs[hB'.u,hB'.res,hs0]
  have hown:Own 2 (.dead::W.set 0 (.row 1 [[.sl (f+1) 3 0 cs.length]])) [.sl (f+1) 3 0 cs.length] [cdL cs'] I':=hB'.own.hd1 λi hi=>List.getElem?_set_ne λe=>by have:=hB'.own.ge _ hi;omega
  exact⟨_,_,q,.agg [.p (cdL cs')],rfl,rfl,.agg (.one hown.view .nil) .nil,⟨cs',rfl,hB'.g⟩,hq1,by omega⟩
end
section
abbrev Vs:=List (List UInt8 × Nat)
def md(p:List UInt8 × Nat):List AV:=[.p (.str p.1),.p (.int .i64 p.2),.p (.int .i64 0)]
def rgV(vs:Vs)(s:List UInt8):Int:=vs.foldl (λr p=>if p.1=s then(p.2:Int) else r) (-1)
theorem pV(vs:Vs)(p:List UInt8 × Nat)(s:List UInt8):rgV (vs++[p]) s=if p.1=s then(p.2:Int) else rgV vs s:=by
 simp[rgV,List.foldl_append]
def vi:AV->List Nat
 | .sl id _ _ _=>[id]
 |_=>[]
inductive VAt (X:List AO):AV->Vs->Prop where
 |nil:VAt X .nils []
 |sl (vid:Nat) (rows:List (List AV)) (vs:Vs):X[vid]?=some (.row 3 rows)->rows.take vs.length=vs.map md->VAt X (.sl vid 3 0 vs.length) vs
section
variable {X X2:List AO} {V:AV} {vs:Vs}
theorem VAt.frame(H:VAt X V vs)(e:∀i∈vi V,X2[i]?=X[i]?):VAt X2 V vs:=by
 cases H with
 |nil=>exact .nil
 |sl vid rows _ h1 h2=>exact .sl vid rows vs (by rw[e vid (by simp[vi])];exact h1) h2
theorem VAt.lt(H:VAt X V vs):∀i∈vi V,i<X.length:=by
 cases H with
 |nil=>intro i hi;cases hi
 |sl vid rows _ h1 h2=>intro i hi;rw[List.mem_singleton.1 hi];exact(List.getElem?_eq_some_iff.1 h1).1
theorem VAt.more(H:VAt X V vs)(os:List AO):VAt (X++os) V vs:=H.frame λi hi=>List.getElem?_append_left (H.lt i hi)
theorem VAt.is(H:VAt X V vs):V.cells=[V]/\V.isCell=true/\below X.length V:=by
 cases H with
 |nil=>exact⟨rfl,rfl,trivial⟩
 |sl vid rows _ h1 h2=>exact⟨rfl,rfl,(List.getElem?_eq_some_iff.1 h1).1⟩
theorem VAt.at(H:VAt X V vs){i:Nat}(hi:i<vs.length):∃vid rows,V= .sl vid 3 0 vs.length/\X[vid]?=some (.row 3 rows)/\rows[i]?=some (md vs[i]):=by
 cases H with
 |nil=>cases hi
 |sl vid rows _ h1 h2=>
  refine⟨vid,rows,rfl,h1,?_⟩
  have h3:(rows.take vs.length)[i]?=some (md vs[i]):=by rw[h2,List.getElem?_map,List.getElem?_eq_getElem hi];rfl
  rwa[List.getElem?_take_of_lt hi] at h3
end
variable (G:aB)
theorem iY{l:List Fd}{pr:Int}{V:AV}{nx L:Nat}{w:Lw}{h:List AO}{K:AV}{I:List Nat}(H:LS (lwR l pr V nx) L w h K I)(hw:w.regs<=1073741824):
 AC Tryz.prog G bk [.ptr L 8 0 0] h λx h'=>x= .ret (.p (.int .i64 w.regs))/\LR (lwR l pr V nx) L w.reg I h h':=
 (De G H hw).mono λx h' ⟨a,b⟩=>⟨a,K,I,b▸H.swap rfl,b▸⟨by simp,λi _ hn=>List.getElem?_set_ne λe=>hn (by simp[e])⟩,λj hj=> .inl hj⟩
theorem Dp{l:List Fd}{pr:Int}{V:AV}{nx L:Nat}{w:Lw}{h:List AO}{K:AV}{vs:Vs}(hg:h[L]?=some (lwR l pr V nx w K))(hv:VAt h V vs)(hl:vs.length<=1073741824)(s:List UInt8):
 AC Tryz.prog G cP [.ptr L 8 0 0,.p (.str s)] h λx h'=>x= .ret (.p (.int .i64 (rgV vs s)))/\h'=h:=by
 obtain⟨v1,v2,v3⟩:=hv.is
 have hLl:=(List.getElem?_eq_some_iff.1 hg).1
 simp only[lwR] at hg
 have hlen:V= .nils/\vs.length=0\/∃vid,V= .sl vid 3 0 vs.length:=by
  cases hv with
  |nil=>exact .inl ⟨rfl,rfl⟩
  |sl vid rows _ _ _=>exact .inr ⟨vid,rfl⟩
 refine AC.go nZ ?_
 rcases hlen with⟨rfl,h0⟩|⟨vid,rfl⟩
 ·have h0:=List.length_eq_zero_iff.1 h0
  subst h0
  simp-implicitDefEqProofs[eg,hg]
  refine aH (λ_:Unit=>aC 34 [(5,.p (.int .i64 (-1))),(0,.ptr L 8 0 0),(1,.p (.str s))]) (λ_=>h) (λ_=>True) (λ_=>0) () trivial ?_ ?_
  ·exact ab (Nat.le_refl _) (by simp[below,hLl,show IntKind.i64.wrap (-1)= -1 from ae (by omega) (by omega)])
  rintro⟨⟩ _
  simp-implicitDefEqProofs[rgV]
 ·have hwl:IntKind.i64.wrap ((vs.length:Int)-1)=(vs.length:Int)-1:=ae (by omega) (by omega)
  simp-implicitDefEqProofs[eg,hg,hwl]
  refine aH (λk:Nat=>aC 34 [(5,.p (.int .i64 ((k:Int)-1))),(0,.ptr L 8 0 0),(1,.p (.str s))]) (λ_=>h) (λk=>k<=vs.length/\rgV vs s=rgV (vs.take k) s) (λk=>k) vs.length ⟨Nat.le_refl _,by rw[List.take_length]⟩ ?_ ?_
  ·exact ab (Nat.le_refl _) (by simp[below,hLl])
  rintro k ⟨hk,he⟩
  cases k with
  |zero=>
   rw[List.take_zero] at he
   rw[he]
   simp-implicitDefEqProofs[rgV]
  |succ j=>
   have hj:j<vs.length:=hk
   obtain⟨vid2,rows,e1,e2,e3⟩:=hv.at hj
   cases e1
   rw[az hj,pV] at he
   have ej:((j+1:Nat):Int)-1=j:=by omega
   generalize vs[j]=p at*
   obtain⟨q,n⟩:=p
   simp only[md] at e3 he
   simp-implicitDefEqProofs[ej,hg,e2,e3,hj]
   refine aG (λc=>?_) (λc=>?_)
   ·have c:q=s:=by simpa using c
    rw[he,if_pos c]
    simp-implicitDefEqProofs[hg,e2,e3,hj]
   ·have c:¬q=s:=by simpa using c
    rw[if_neg c] at he
    have hw2:IntKind.i64.wrap ((j:Int)-1)=(j:Int)-1:=ae (by omega) (by omega)
    simp-implicitDefEqProofs[hw2]
    exact⟨j,⟨by omega,he⟩,by omega,ab (Nat.le_refl _) (by simp[below,hLl])⟩
end
section
theorem GD{P:Program}{G:aB}{k:Nat}{c:AK}{ts:List AV}{h:List AO}{Q:Aw.AX->List AV->List AO->Prop}(n:Nat)(R:List AV->List AO->Prop)
 (h1:∀Q':Aw.AX->List AV->List AO->Prop,(∀ts' h',R ts' h'->Q' (.exit n) ts' h')->AKW P G k c ts h Q')(h2:∀ts' h',R ts' h'->Q (.exit n) ts' h'):AKW P G k c ts h Q:=h1 Q h2
theorem Stg.upd{mk:Lw->AV->AO}{L:Nat}{I0 E:List Nat}{h hB:List AO}{w:Lw}{X X2:List AO}{K:AV}{I:List Nat}(S:Stg mk L I0 E h hB w X K I){oid:Nat}(hX:X.length<=X2.length)(e:∀i,i<X.length->i≠oid->X2[i]?=X[i]?)(ho:h.length<=oid)(hoE:oid∉E)(hoI:oid∉L::I):Stg mk L I0 E h hB w X2 K I:=by
 have hne:∀i,i∈L::I->i≠oid:=λi hi e=>hoI (e▸hi)
 refine⟨S.ls.frame λi hi=>e i ?_ (hne i hi),⟨Nat.le_trans S.fr.1 hX,λi hi hn=>?_⟩,S.sub,λi hi=>?_,λi hi=>⟨Nat.lt_of_lt_of_le (S.ap i hi).1 hX,(S.ap i hi).2⟩,Nat.le_trans S.ge hX⟩
 ·rcases List.mem_cons.1 hi with rfl|hi
  ·exact S.ls.lt
  ·exact S.ls.own.lt hi
 ·rw[e i (by have:=S.fr.1;omega) (by omega)];exact S.fr.2 i hi hn
 ·rw[e i (S.ap i hi).1 (λe=>hoE (e▸hi))];exact S.keep i hi
theorem Lw.name_name(w:Lw)(a b:Nat):(w.name a).name b=w.name (a+b):=by simp[Lw.name,List.append_assoc]
structure MpQ where (i:Nat) (X:List AO) (o:Nat)
variable (G:aB)
def ExR(l:List Fd)(pr:Int)(L:Nat)(V:AV)(nx:Nat)(vs:Vs)(e:Ex):Prop:=∀(w:Lw) (h:List AO) (K:AV) (I:List Nat) (B:Nat),LS (lwR l pr V nx) L w h K I->w.Ok B->B+8*e.sz<=1073741823->VAt h V vs->(∀i∈vi V,i∉L::I)->
 AC Tryz.prog G aU [.ptr L 8 0 0,.agg (e.cs.map .p)] h λx h'=>x= .ret (.p (.int .i64 (lwE (faI l) (rgV vs) e w).1))/\LR (lwR l pr V nx) L (lwE (faI l) (rgV vs) e w).2 I h h'
theorem HD{l:List Fd}{pr:Int}{L:Nat}{V:AV}{nx:Nat}{vs:Vs}{e a b:Ex}(hk:e.kids=[a,b])(ha:ExR G l pr L V nx vs a)(hb:ExR G l pr L V nx vs b){w:Lw}{h:List AO}{K:AV}{I:List Nat}{B:Nat}(H:LS (lwR l pr V nx) L w h K I)(hok:w.Ok B)(hB:B+8*e.sz<=1073741823)(hV:VAt h V vs)(hVd:∀i∈vi V,i∉L::I):
 AC Tryz.prog G dZ [.ptr L 8 0 0,.agg (e.cs.map .p)] h λx h'=>x= .ret (.p (.int .i64 (lwA (faI l) (rgV vs) e.kids w).1))/\LR (lwR l pr V nx) L (lwA (faI l) (rgV vs) e.kids w).2 I h h':=by
 have hc:=e.cs_eq
 have hzz:=e.sz_eq
 have hac:=a.cs_eq
 have hbc:=b.cs_eq
 have hkz:aP e.kids=a.sz+b.sz:=by rw[hk];simp[aP]
 obtain⟨E,hE⟩:∃E,E=h.length::vi V:=⟨_,rfl⟩
 have hkx:exL e.kids= .lst 4 [[.int .i64 a.op,.int .i64 a.n,.str a.name,exL a.kids],[.int .i64 b.op,.int .i64 b.n,.str b.name,exL b.kids]]:=by rw[hk,←hac,←hbc];rfl
 obtain⟨bo,hbo⟩:∃bo,bo=AO.row 4 [[.p (.int .i64 e.op),.p (.int .i64 e.n),.p (.str e.name),.p (exL e.kids)]]:=⟨_,rfl⟩
 have hS0:Stg (lwR l pr V nx) L I E h (h++[bo]) w (h++[bo]) K I:=Stg.of H [bo] (λi hi=>by
  rw[hE] at hi
  rcases List.mem_cons.1 hi with rfl|hi
  ·refine⟨by simp,?_⟩
   simp only[List.mem_cons,not_or]
   exact⟨by have:=H.lt;omega,λhm=>by have:=H.own.lt hm;omega⟩
  ·exact⟨by have:=hV.lt i hi;simp;omega,hVd i hi⟩)
 have hb0:(h++[bo])[h.length]?=some bo:=by simp
 have kE:∀{w2:Lw} {X:List AO} {K2:AV} {I2:List Nat},Stg (lwR l pr V nx) L I E h (h++[bo]) w2 X K2 I2->X[h.length]?=some bo/\VAt X V vs/\(∀i∈vi V,i∉L::I2):=λ{w2 X K2 I2} S=>⟨(S.keep _ (by rw[hE];simp)).trans hb0,(hV.more [bo]).frame λi hi=>S.keep i (by rw[hE];simp[hi]),λi hi=>(S.ap i (by rw[hE];simp[hi])).2⟩
 rw[hk,lwA]
 rw[hkx] at hbo
 subst hbo
 have h1c:=ha w _ K I B hS0.ls hok (by omega) (kE hS0).2.1 (kE hS0).2.2
 obtain⟨ok1,len1⟩:=lJ (faI l) (rgV vs) a w B hok
 generalize lwE (faI l) (rgV vs) a w=x1 at*
 obtain⟨t,ht⟩:∃t,t=x1.2.bs.length:=⟨_,rfl⟩
 simp only[Lw.mk'_len,←ht]
 rw[hac] at h1c
 rw[hc]
 refine AC.go ow ?_
 simp-implicitDefEqProofs[-AV.cells,-AV.isCell,aE,ag,ah,an,al,aD,af,am,aj,iS,hkx]
 refine h1c.mono ?_
 rintro x X1 ⟨rfl,hlr⟩
 obtain⟨K1,I1,S1⟩:=hS0.step (J:=[]) (λj hj=>by cases hj) (by rw[List.append_nil];exact hlr)
 simp-implicitDefEqProofs[-AV.cells,-AV.isCell,aE,ag,ah,an,al,aD,af,am,aj,aa]
 have ok2:=ok1.reg
 refine(iY G S1.ls (by have:=ok1.regs;omega)).mono ?_
 rintro x X2 ⟨rfl,hlr⟩
 obtain⟨K2,I2,S2⟩:=S1.step (J:=[]) (λj hj=>by cases hj) (by rw[List.append_nil];exact hlr)
 simp-implicitDefEqProofs[-AV.cells,-AV.isCell,aE,ag,ah,an,al,aD,af,am,aj,aa]
 obtain⟨f1,f2⟩:=S2.fresh
 have hm2:=mg G (S2.ls.more [.row 1 (([]:List Int).map λn=>[AV.p (.int .i64 n)])]) ok2 (by omega) ⟨1,x1.2.regs,[],0⟩ (fp X2 ([]:List Int) rfl) (by simp) f2
 simp only[List.map_cons,List.map_nil,List.length_cons,List.length_nil] at hm2
 refine hm2.mono ?_
 rintro x X3 ⟨rfl,hlr⟩
 obtain⟨K3,I3,S3⟩:=(S2.more _).step f1 hlr
 have ok3:=ok2.put ⟨1,x1.2.regs,[],0⟩
 have hl3:(x1.2.reg.put ⟨1,x1.2.regs,[],0⟩).bs.length=t:=by rw[Lw.put_len];exact ht.symm
 simp-implicitDefEqProofs[-AV.cells,-AV.isCell,aE,ag,ah,an,al,aD,af,am,aj,aa,hl3]
 refine(rn G S3.ls ok3 (by omega) ⟨(kE S3).2.1.is.1,(kE S3).2.1.is.2.1⟩).mono ?_
 rintro x X4 ⟨rfl,hlr⟩
 obtain⟨K4,I4,S4⟩:=S3.step (J:=[]) (λj hj=>by cases hj) (by rw[List.append_nil];exact hlr)
 have ok4:=ok3.name 1
 simp-implicitDefEqProofs[-AV.cells,-AV.isCell,aE,ag,ah,an,al,aD,af,am,aj,aa,hl3]
 refine(rn G S4.ls ok4 (by omega) ⟨(kE S4).2.1.is.1,(kE S4).2.1.is.2.1⟩).mono ?_
 rintro x X5 ⟨rfl,hlr⟩
 obtain⟨K5,I5,S5⟩:=S4.step (J:=[]) (λj hj=>by cases hj) (by rw[List.append_nil];exact hlr)
 have ok5:=ok3.name 2
 have hnn:((x1.2.reg.put ⟨1,x1.2.regs,[],0⟩).name 1).name 1=(x1.2.mk' 1 0 []).name 2:=Lw.name_name _ 1 1
 have hl4:((x1.2.reg.put ⟨1,x1.2.regs,[],0⟩).name 1).bs.length=t+1:=by rw[Lw.name_len,hl3]
 rw[hnn] at S5
 have ok5:((x1.2.mk' 1 0 []).name 2).Ok _:=ok5
 simp-implicitDefEqProofs[-AV.cells,-AV.isCell,aE,ag,ah,an,al,aD,af,am,aj,aa,hl3,hl4]
 obtain⟨f1,f2⟩:=S5.fresh
 have hm5:=kM G (S5.ls.more [.row 1 ([(t:Int),(t:Int)+1].map λn=>[AV.p (.int .i64 n)])]) ok5 2 x1.1 t [(t:Int),(t:Int)+1] (fp X5 [(t:Int),(t:Int)+1] rfl) (by simp) f2
 simp only[List.map_cons,List.map_nil,List.length_cons,List.length_nil] at hm5
 refine hm5.mono ?_
 rintro x X6 ⟨rfl,hlr⟩
 obtain⟨K6,I6,S6⟩:=(S5.more _).step f1 hlr
 have ok6:=ok5.fin 2 x1.1 (g:=t) (by simp only[Lw.name_len,Lw.mk'_len,←ht];omega) [(t:Int),(t:Int)+1]
 obtain⟨y0,yV,yd⟩:=kE S6
 have h2c:=hb _ X6 K6 I6 _ S6.ls ok6 (by omega) yV yd
 obtain⟨ok7,len7⟩:=lJ (faI l) (rgV vs) b _ _ ok6
 generalize lwE (faI l) (rgV vs) b (((x1.2.mk' 1 0 []).name 2).fin 2 x1.1 t [(t:Int),(t:Int)+1])=x2 at*
 rw[hbc] at h2c
 simp-implicitDefEqProofs[-AV.cells,-AV.isCell,aE,ag,ah,an,al,aD,af,am,aj,aa,y0]
 refine h2c.mono ?_
 rintro x X7 ⟨rfl,hlr⟩
 obtain⟨K7,I7,S7⟩:=S6.step (J:=[]) (λj hj=>by cases hj) (by rw[List.append_nil];exact hlr)
 simp-implicitDefEqProofs[-AV.cells,-AV.isCell,aE,ag,ah,an,al,aD,af,am,aj,aa]
 refine(iY G S7.ls (by have:=ok7.regs;omega)).mono ?_
 rintro x X8 ⟨rfl,hlr⟩
 obtain⟨K8,I8,S8⟩:=S7.step (J:=[]) (λj hj=>by cases hj) (by rw[List.append_nil];exact hlr)
 have ok8:=ok7.reg
 simp-implicitDefEqProofs[-AV.cells,-AV.isCell,aE,ag,ah,an,al,aD,af,am,aj,aa]
 obtain⟨f1,f2⟩:=S8.fresh
 have hm8:=mg G (S8.ls.more [.row 1 ([x2.1].map λn=>[AV.p (.int .i64 n)])]) ok8 (by omega) ⟨10,x2.2.regs,[x2.1],0⟩ (fp X8 [x2.1] rfl) (by simp) f2
 simp only[List.map_cons,List.map_nil,List.length_cons,List.length_nil] at hm8
 refine hm8.mono ?_
 rintro x X9 ⟨rfl,hlr⟩
 obtain⟨K9,I9,S9⟩:=(S8.more _).step f1 hlr
 have ok9:=ok8.put ⟨10,x2.2.regs,[x2.1],0⟩
 simp-implicitDefEqProofs[-AV.cells,-AV.isCell,aE,ag,ah,an,al,aD,af,am,aj,aa]
 obtain⟨f1,f2⟩:=S9.fresh
 have hm9:=mg G (S9.ls.more [.row 1 ([(x2.2.regs:Int)].map λn=>[AV.p (.int .i64 n)])]) ok9 (by omega) ⟨10,x1.2.regs,[(x2.2.regs:Int)],0⟩ (fp X9 [(x2.2.regs:Int)] rfl) (by simp) f2
 simp only[List.map_cons,List.map_nil,List.length_cons,List.length_nil] at hm9
 refine hm9.mono ?_
 rintro x X10 ⟨rfl,hlr⟩
 obtain⟨K10,I10,S10⟩:=(S9.more _).step f1 hlr
 have ok10:=ok9.put ⟨10,x1.2.regs,[(x2.2.regs:Int)],0⟩
 simp-implicitDefEqProofs[-AV.cells,-AV.isCell,aE,ag,ah,an,al,aD,af,am,aj,aa]
 obtain⟨f1,f2⟩:=S10.fresh
 have hm10:=kM G (S10.ls.more [.row 1 ([(t:Int)+1].map λn=>[AV.p (.int .i64 n)])]) ok10 1 0 (t+1) [(t:Int)+1] (fp X10 [(t:Int)+1] rfl) (by simp) f2
 simp only[List.map_cons,List.map_nil,List.length_cons,List.length_nil] at hm10
 rw[show((t+1:Nat):Int)=(t:Int)+1 by omega] at hm10
 refine hm10.mono ?_
 rintro x X11 ⟨rfl,hlr⟩
 obtain⟨K11,I11,S11⟩:=(S10.more _).step f1 hlr
 simp-implicitDefEqProofs[-AV.cells,-AV.isCell,aE,ag,ah,an,al,aD,af,am,aj,aa]
 exact S11.lr
theorem AM(l:List Fd)(hl:l.length<=1073741824)(pr:Int)(L:Nat)(V:AV)(nx:Nat)(vs:Vs)(hvl:vs.length<=1073741824):∀(d:Nat) (e:Ex),bJ d e=true->ExR G l pr L V nx vs e:=by
 intro d
 induction d with
 |zero=>intro e h;cases h
 |succ d ih=>
 intro e hf w h K I B H hok hB hV hVd
 have hc:=e.cs_eq
 have hzz:=e.sz_eq
 have hLl:=H.lt
 have hxl:∀l,exL l= .lst 4 (l.map Ex.cs):=λ_=>rfl
 obtain⟨v1,v2,v3⟩:=hV.is
 obtain⟨E,hE⟩:∃E,E=h.length::vi V:=⟨_,rfl⟩
 obtain⟨bo,hbo⟩:∃bo,bo=AO.row 4 [[.p (.int .i64 e.op),.p (.int .i64 e.n),.p (.str e.name),.p (exL e.kids)]]:=⟨_,rfl⟩
 have hS0:Stg (lwR l pr V nx) L I E h (h++[bo]) w (h++[bo]) K I:=Stg.of H [bo] (λi hi=>by
  rw[hE] at hi
  rcases List.mem_cons.1 hi with rfl|hi
  ·refine⟨by simp,?_⟩
   simp only[List.mem_cons,not_or]
   exact⟨by have:=H.lt;omega,λhm=>by have:=H.own.lt hm;omega⟩
  ·exact⟨by have:=hV.lt i hi;simp;omega,hVd i hi⟩)
 have hb0:(h++[bo])[h.length]?=some bo:=by simp
 have kE:∀{w2:Lw} {X:List AO} {K2:AV} {I2:List Nat},Stg (lwR l pr V nx) L I E h (h++[bo]) w2 X K2 I2->X[h.length]?=some bo/\VAt X V vs/\(∀i∈vi V,i∉L::I2):=λ{w2 X K2 I2} S=>⟨(S.keep _ (by rw[hE];simp)).trans hb0,(hV.more [bo]).frame λi hi=>S.keep i (by rw[hE];simp[hi]),λi hi=>(S.ap i (by rw[hE];simp[hi])).2⟩
 have lp:∀{w2:Lw} {X:List AO} {K2:AV} {I2:List Nat},Stg (lwR l pr V nx) L I E h (h++[bo]) w2 X K2 I2->∀t,(X++t)[L]?=some (lwR l pr V nx w2 K2):=λS t=>by rw[List.getElem?_append_left S.ls.lt];exact S.ls.here
 have hfE:=HO (faI l) (rgV vs) e w
 refine AC.go ny ?_
 rw[hc]
 by_cases o1:e.op=1
 ·rw[if_pos o1] at hfE
  rw[hfE]
  rw[o1] at hbo
  have hF:=iY G hS0.ls (by have:=hok.regs;omega)
  have h0:∀t,(h++[bo]++t)[h.length]?=some bo:=λt=>by simp
  simp-implicitDefEqProofs[-AV.cells,-AV.isCell,aE,ag,ah,an,al,aD,af,am,aj,bR,o1]
  rw[←hbo]
  refine hF.mono ?_
  rintro x X1 ⟨rfl,hlr⟩
  obtain⟨K1,I1,S1⟩:=hS0.step (J:=[]) (λj hj=>by cases hj) (by rw[List.append_nil];exact hlr)
  have ok1:=hok.reg
  have y0:=(kE S1).1
  rw[hbo] at y0
  simp-implicitDefEqProofs[-AV.cells,-AV.isCell,aE,ag,ah,an,al,aD,af,am,aj,aa,y0]
  refine(mg G S1.ls ok1 (by omega) ⟨1,w.regs,[],e.n⟩ (A:= .p (ay [])) (J:=[]) (.p _ (λh=>by cases h) .nil) List.nodup_nil (λj hj=>by cases hj)).mono ?_
  rintro x X2 ⟨rfl,hlr⟩
  obtain⟨K2,I2,S2⟩:=S1.step (J:=[]) (λj hj=>by cases hj) hlr
  simp-implicitDefEqProofs[aa]
  exact S2.lr
 by_cases o2:e.op=2
 ·rw[if_neg o1,if_pos o2] at hfE
  rw[hfE]
  rw[o2] at hbo
  have hF:=Dp G hS0.ls.here (hV.more [bo]) hvl e.name
  simp-implicitDefEqProofs[-AV.cells,-AV.isCell,aE,ag,ah,an,al,aD,af,am,aj,bR,o1,o2]
  rw[←hbo]
  refine hF.mono ?_
  rintro x h1 ⟨rfl,rfl⟩
  simp-implicitDefEqProofs[aa]
  exact hS0.lr
 by_cases o10:e.op=10
 ·rw[if_neg o1,if_neg o2,if_pos o10] at hfE
  rw[hfE]
  obtain⟨a,b,hk⟩:=Cb hf o10
  have hF:=HD G hk (ih a (lX hf (by rw[hk];simp))) (ih b (lX hf (by rw[hk];simp))) hS0.ls hok hB (kE hS0).2.1 (kE hS0).2.2
  rw[hc] at hF
  rw[o10] at hbo hF
  simp-implicitDefEqProofs[-AV.cells,-AV.isCell,aE,ag,ah,an,al,aD,af,am,aj,bR,o1,o2,o10]
  rw[←hbo]
  refine hF.mono ?_
  rintro x X1 ⟨rfl,hlr⟩
  obtain⟨K1,I1,S1⟩:=hS0.step (J:=[]) (λj hj=>by cases hj) (by rw[List.append_nil];exact hlr)
  simp-implicitDefEqProofs[aa]
  exact S1.lr
 rw[if_neg o1,if_neg o2,if_neg o10] at hfE
 have hal:=eJ e.kids
 have hbl:(h++[bo]).length=h.length+1:=by simp
 simp-implicitDefEqProofs[-AV.cells,-AV.isCell,aE,ag,ah,an,al,aD,af,am,aj,bR,o1,o2,o10,hxl]
 refine GD 1 (λts' X=>∃oid K1 I1,Stg (lwR l pr V nx) L I E h (h++[bo]) (br (faI l) (rgV vs) e.kids w).2 X K1 I1/\X[oid]?=some (pq (br (faI l) (rgV vs) e.kids w).1)/\h.length<oid/\oid∉E/\oid∉L::I1/\∃z,ts'=aC 84 ((34,z)::(33,.p (.int .i64 e.kids.length))::(32,.p (.lst 4 (e.kids.map Ex.cs)))::(31,.ptr h.length 4 0 3)::(30,.p (.int .i64 e.kids.length))::[(5,.sl oid 1 0 e.kids.length),(6,.p (.int .i64 e.kids.length)),(3,.ptr h.length 4 0 0),(0,.ptr L 8 0 0)])) (λQ' qE=>?_) ?_
 ·clear hfE
  rw[hxl] at hbo
  have S00:Stg (lwR l pr V nx) L I E h (h++[bo]) w (h++[bo]++[.row 1 []]) K I:=hS0.more _
  have e0:h++[bo]++[AO.row 1 []]=h++[bo,.row 1 []]:=by simp
  rw[e0] at S00
  have hvE:h.length+1∉E:=λhm=>by have:=(hS0.ap _ hm).1;simp at this
  refine aH (λa:MpQ=>aC 84 [(5,.sl a.o 1 0 a.i),(6,.p (.int .i64 a.i)),(3,.ptr h.length 4 0 0),(0,.ptr L 8 0 0)]) (λa=>a.X)
   (λa=>a.i<=e.kids.length/\∃K1 I1,Stg (lwR l pr V nx) L I E h (h++[bo]) (br (faI l) (rgV vs) (e.kids.take a.i) w).2 a.X K1 I1/\a.X[a.o]?=some (pq (br (faI l) (rgV vs) (e.kids.take a.i) w).1)/\h.length<a.o/\a.o∉E/\a.o∉L::I1) (λa=>e.kids.length-a.i) ⟨0,h++[bo,.row 1 []],h.length+1⟩ ⟨Nat.zero_le _,K,I,by rw[List.take_zero,br];exact S00,by rw[List.take_zero,br,←e0,List.getElem?_append_right (by simp)];simp[pq],by simp,hvE,by
     simp only[List.mem_cons,not_or]
     exact⟨by omega,λhm=>by have:=H.own.lt hm;omega⟩⟩ ?_ ?_
  ·rw[hbo]
   exact ab (by simp) (by simp[below];omega)
  rintro⟨i,X,o⟩ ⟨hi,K1,I1,S,hx,ho,hoE,hoI⟩
  simp only at hi S hx ho hoE hoI
  have hXl:=S.fr.1
  have hXL:=S.ls.lt
  have hox:o<X.length:=(List.getElem?_eq_some_iff.1 hx).1
  have hlen:(br (faI l) (rgV vs) (e.kids.take i) w).1.length=i:=by rw[gb,List.length_take];omega
  obtain⟨y0,yV,yd⟩:=kE S
  rw[hbo] at y0
  have hbX:h.length<X.length:=(List.getElem?_eq_some_iff.1 y0).1
  simp-implicitDefEqProofs[y0]
  refine aG (λhc1=>?_) (λhc1=>?_)
  ·simp at hc1
   have hg:=List.getElem?_eq_getElem hc1
   have hm:=List.getElem_mem hc1
   have htk:=tu (fa:=faI l) (sc:=rgV vs) hc1 w
   have hok1:=(jt (faI l) (rgV vs) (e.kids.take i) w B hok).1
   have hzt:aP (e.kids.take i)+e.kids[i].sz<=aP e.kids:=by
    have h1:=List.take_append_drop (i+1) e.kids
    have h2:aP e.kids=aP (e.kids.take (i+1))+aP (e.kids.drop (i+1)):=by
     conv=>lhs;rw[←h1]
     rw[dv]
    rw[az hc1,dv] at h2
    simp only[aP] at h2
    omega
   have hcall:=ih e.kids[i] (lX hf hm) _ _ K1 I1 _ S.ls hok1 (by omega) yV yd
   generalize e.kids[i]=k at*
   have hkc:=k.cs_eq
   generalize br (faI l) (rgV vs) (e.kids.take i) w=cur at*
   obtain⟨out,w1⟩:=cur
   simp only at htk hcall hok1 S hx hlen
   rw[hkc] at hcall
   simp-implicitDefEqProofs[-AV.cells,-AV.isCell,aE,ag,ah,an,al,aD,af,am,aj,y0,hg,hkc]
   refine hcall.mono ?_
   rintro r X2 ⟨rfl,hlr⟩
   have hl2:X.length<=X2.length:=by obtain⟨_,_,_,a,_⟩:=hlr;exact a.1
   have hx2:X2[o]?=some (pq out):=by
    obtain⟨_,_,_,a,_⟩:=hlr
    rw[a.2 o hox hoI];exact hx
   have hE2:∀j∈o::E,j<X.length/\j∉L::I1:=λj hj=>by
    rcases List.mem_cons.1 hj with rfl|hj
    ·exact⟨hox,hoI⟩
    ·exact S.ap j hj
   obtain⟨K2,I2,S2o⟩:=(show Stg (lwR l pr V nx) L I (o::E) h X w1 X K1 I1 from⟨S.ls,S.fr,S.sub,λ_ _=>rfl,hE2,Nat.le_refl _⟩).step (J:=[]) (λj hj=>by cases hj) (by rw[List.append_nil];exact hlr)
   have hoI2:o∉L::I2:=(S2o.ap o (by simp)).2
   have S2:Stg (lwR l pr V nx) L I E h (h++[bo]) _ X2 K2 I2:=⟨S2o.ls,S2o.fr,S2o.sub,λj hj=>(S2o.keep j (by simp[hj])).trans (S.keep j hj),λj hj=>S2o.ap j (by simp[hj]),Nat.le_trans S.ge hl2⟩
   have hx2':∀t,(X2++t)[o]?=some (.row 1 (out.map λn=>[AV.p (.int .i64 n)])):=λt=>by rw[List.getElem?_append_left (by omega)];exact hx2
   have hot:List.take i (out.map λn=>[AV.p (.int .i64 n)])=out.map λn=>[AV.p (.int .i64 n)]:=List.take_of_length_le (by simp;omega)
   simp-implicitDefEqProofs[-AV.cells,-AV.isCell,aE,ag,ah,an,al,aD,af,am,aj,aa,hx2',hlen,hot]
   refine⟨by omega,⟨i+1,_,X2.length+1⟩,⟨by simp only;omega,K2,I2,by
    rw[htk]
    exact S2.upd (oid:=o) (by simp;omega) (λj hj hn=>by rw[List.getElem?_append_left (by simp;omega),List.getElem?_set_ne (Ne.symm hn),List.getElem?_append_left hj]) (by omega) hoE hoI2,?_,by simp only;omega,λhm=>by have:=(S2.ap _ hm).1;simp only at this;omega,?_⟩,by simp only;omega,ab (by simp;omega) ?_⟩
   ·rw[htk,List.getElem?_append_right (by simp)];simp[pq]
   ·simp only[List.mem_cons,not_or]
    exact⟨by have:=S2.ls.lt;omega,λhm=>by have:=S2.ls.own.lt hm;omega⟩
   ·simp[below,show IntKind.i64.wrap ((i:Int)+1)=(i:Int)+1 from ae (by omega) (by omega)]
    omega
  ·simp at hc1
   have hie:i=e.kids.length:=by omega
   subst hie
   rw[List.take_length] at S hx hlen
   simp-implicitDefEqProofs[]
   exact qE _ _ ⟨o,K1,I1,S,hx,ho,hoE,hoI,_,rfl⟩
 ·rintro ts' X ⟨oid,K1,I1,S,hx,ho,hoE,hoI,z,rfl⟩
  obtain⟨y0,yV,yd⟩:=kE S
  rw[hbo] at y0
  obtain⟨okM,lenM⟩:=jt (faI l) (rgV vs) e.kids w B hok
  have hlm:=gb (faI l) (rgV vs) e.kids w
  rw[hfE]
  generalize br (faI l) (rgV vs) e.kids w=m at*
  have hA:OwnL false X [.sl oid 1 0 e.kids.length] [ay m.1] [oid]:=rp hx hlm.symm
  have hJE:∀j∈[oid],h.length<=j/\j∉E:=λj hj=>by rw[List.mem_singleton.1 hj];exact⟨by omega,hoE⟩
  have hF:AC Tryz.prog G bk [.ptr L 8 0 0] X λx X1=>x= .ret (.p (.int .i64 m.2.regs))/\X1[h.length]?=some bo/\(∃K2,X1[L]?=some (lwR l pr V nx m.2.reg K2))/\∀q,AC Tryz.prog G bE [.ptr L 8 0 0,.p (.int .i64 (lB e.op)),.p (.int .i64 m.2.regs),.p (.int .i64 q),.sl oid 1 0 e.kids.length] X1 λx X2=>x= .ret (.p (.int .i64 m.2.regs))/\LR (lwR l pr V nx) L (m.2.mk' (lB e.op) q m.1) I h X2:=by
   refine(iY G S.ls (by have:=okM.regs;omega)).mono ?_
   rintro x X1 ⟨rfl,hlr⟩
   have S1:Stg (lwR l pr V nx) L I (oid::E) h X m.2 X K1 I1:=⟨S.ls,S.fr,S.sub,λ_ _=>rfl,λj hj=>by
    rcases List.mem_cons.1 hj with rfl|hj
    ·exact⟨(List.getElem?_eq_some_iff.1 hx).1,hoI⟩
    ·exact S.ap j hj,Nat.le_refl _⟩
   obtain⟨K2,I2,S2⟩:=S1.step (J:=[]) (λj hj=>by cases hj) (by rw[List.append_nil];exact hlr)
   refine⟨rfl,by rw[S2.keep h.length (by rw[hE];simp),y0,←hbo],⟨K2,S2.ls.here⟩,λq=>?_⟩
   refine(mg G S2.ls okM.reg (by omega) ⟨lB e.op,m.2.regs,m.1,q⟩ (hA.frame λj hj=>S2.keep j (by rw[List.mem_singleton.1 hj];simp)) (by simp) (λj hj=>by
    have:=(S2.ap oid (by simp)).2
    rw[List.mem_singleton.1 hj]
    simpa using this)).mono ?_
   rintro x X3 ⟨rfl,hlr⟩
   have S2':Stg (lwR l pr V nx) L I E h X m.2.reg X1 K2 I2:=⟨S2.ls,S2.fr,S2.sub,λj hj=>S2.keep j (by simp[hj]),λj hj=>S2.ap j (by simp[hj]),S2.ge⟩
   obtain⟨K3,I3,S3⟩:=S2'.step hJE hlr
   exact⟨rfl,S3.lr⟩
  simp-implicitDefEqProofs[-AV.cells,-AV.isCell,aE,ag,ah,an,al,aD,af,am,aj,y0,hbo]
  refine aG (λc11=>?_) (λc11=>?_)
  ·have c11:e.op=11:=by simpa using c11
   have hq:(if e.op=13 then faI l e.name else 0)=0:=if_neg (by omega)
   rw[hq]
   rw[show lB e.op=10 by rw[c11];rfl] at hF⊢
   simp-implicitDefEqProofs[-AV.cells,-AV.isCell,aE,ag,ah,an,al,aD,af,am,aj]
   refine hF.mono ?_
   rintro x X1 ⟨rfl,y1,⟨K2,yL2⟩,hP⟩
   simp-implicitDefEqProofs[-AV.cells,-AV.isCell,aE,ag,ah,an,al,aD,af,am,aj,aa]
   refine(hP 0).mono ?_
   rintro x X2 ⟨rfl,hlr⟩
   simp-implicitDefEqProofs[aa]
   exact hlr
  have c11:¬e.op=11:=by simpa using c11
  simp-implicitDefEqProofs[-AV.cells,-AV.isCell,aE,ag,ah,an,al,aD,af,am,aj]
  refine aG (λc12=>?_) (λc12=>?_)
  ·have c12:e.op=12:=by simpa using c12
   have hq:(if e.op=13 then faI l e.name else 0)=0:=if_neg (by omega)
   rw[hq]
   rw[show lB e.op=11 by rw[c12];rfl] at hF⊢
   simp-implicitDefEqProofs[-AV.cells,-AV.isCell,aE,ag,ah,an,al,aD,af,am,aj]
   refine hF.mono ?_
   rintro x X1 ⟨rfl,y1,⟨K2,yL2⟩,hP⟩
   simp-implicitDefEqProofs[-AV.cells,-AV.isCell,aE,ag,ah,an,al,aD,af,am,aj,aa]
   refine(hP 0).mono ?_
   rintro x X2 ⟨rfl,hlr⟩
   simp-implicitDefEqProofs[aa]
   exact hlr
  have c12:¬e.op=12:=by simpa using c12
  simp-implicitDefEqProofs[-AV.cells,-AV.isCell,aE,ag,ah,an,al,aD,af,am,aj]
  have yL:=S.ls.here
  simp only[lwR] at yL
  refine aG (λc13=>?_) (λc13=>?_)
  ·have c13:e.op=13:=by simpa using c13
   have hq:(if e.op=13 then faI l e.name else 0)=ixI (sF l e.name):=by rw[if_pos c13,Ia]
   rw[hq]
   rw[show lB e.op=14 by rw[c13];rfl] at hF⊢
   simp-implicitDefEqProofs[-AV.cells,-AV.isCell,aE,ag,ah,an,al,aD,af,am,aj,y0,yL]
   refine hF.mono ?_
   rintro x X1 ⟨rfl,y1,⟨K2,yL2⟩,hP⟩
   rw[hbo] at y1
   simp only[lwR] at yL2
   simp-implicitDefEqProofs[-AV.cells,-AV.isCell,aE,ag,ah,an,al,aD,af,am,aj,aa,y1,yL2]
   refine((Hw G l e.name (by omega)).ac (by simp[below]) (by simp[below]) _).mono ?_
   rintro x X1' ⟨rfl,rfl⟩
   simp-implicitDefEqProofs[-AV.cells,-AV.isCell,aE,ag,ah,an,al,aD,af,am,aj,aa,y1,yL2]
   refine(hP _).mono ?_
   rintro x X2 ⟨rfl,hlr⟩
   simp-implicitDefEqProofs[aa]
   exact hlr
  ·have c13:¬e.op=13:=by simpa using c13
   have hq:(if e.op=13 then faI l e.name else 0)=0:=if_neg c13
   rw[hq]
   rw[show lB e.op=e.op by rw[lB,if_neg c11,if_neg c12,if_neg c13]] at hF⊢
   simp-implicitDefEqProofs[-AV.cells,-AV.isCell,aE,ag,ah,an,al,aD,af,am,aj,y0,yL]
   refine hF.mono ?_
   rintro x X1 ⟨rfl,y1,⟨K2,yL2⟩,hP⟩
   rw[hbo] at y1
   simp-implicitDefEqProofs[-AV.cells,-AV.isCell,aE,ag,ah,an,al,aD,af,am,aj,aa,y1]
   refine(hP 0).mono ?_
   rintro x X2 ⟨rfl,hlr⟩
   simp-implicitDefEqProofs[aa]
   exact hlr
end
section
structure RS (l:List Fd) (pr:Int) (L:Nat) (S I0 E:List Nat) (h:List AO) (w:Lw) (nx:Nat) (vs:Vs) (X:List AO) (K V:AV) (I:List Nat):Prop where
 stb:Stb (lwR l pr V nx) L S I0 (vi V++E) h w X K I
 va:VAt X V vs
 vE:∀i∈vi V,i∉E/\(i∈S\/h.length<=i)
section
variable {l:List Fd} {pr:Int} {L:Nat} {S I0 E E2:List Nat} {h:List AO} {w w2:Lw} {nx nx2:Nat} {vs vs2:Vs} {X X2:List AO} {K K2 V V2:AV} {I I2 J:List Nat}
theorem RS.more(T:RS l pr L S I0 E h w nx vs X K V I)(os:List AO):RS l pr L S I0 E h w nx vs (X++os) K V I:=⟨T.stb.more os,T.va.more os,T.vE⟩
theorem RS.few(T:RS l pr L S I0 E h w nx vs X K V I)(hE:∀i∈E2,i∈E):RS l pr L S I0 E2 h w nx vs X K V I:=
 ⟨⟨T.stb.ls,T.stb.fr,T.stb.hL,T.stb.hS,T.stb.sub,λi hi=>T.stb.ap i (by
   rcases List.mem_append.1 hi with h|h
   ·exact List.mem_append.2 (.inl h)
   ·exact List.mem_append.2 (.inr (hE i h)))⟩,T.va,λi hi=>⟨λh=>(T.vE i hi).1 (hE i h),(T.vE i hi).2⟩⟩
theorem RS.add(T:RS l pr L S I0 E h w nx vs X K V I){j:Nat}(h1:j<X.length)(h2:j∉L::I)(h3:j∉vi V):RS l pr L S I0 (j::E) h w nx vs X K V I:=
 ⟨⟨T.stb.ls,T.stb.fr,T.stb.hL,T.stb.hS,T.stb.sub,λi hi=>by
   rcases List.mem_append.1 hi with h|h
   ·exact T.stb.ap i (List.mem_append.2 (.inl h))
   ·rcases List.mem_cons.1 h with rfl|h
    ·exact⟨h1,h2⟩
    ·exact T.stb.ap i (List.mem_append.2 (.inr h))⟩,T.va,λi hi=>⟨λh=>by
   rcases List.mem_cons.1 h with rfl|h
   ·exact h3 hi
   ·exact(T.vE i hi).1 h,(T.vE i hi).2⟩⟩
theorem RS.box(T:RS l pr L S I0 E h w nx vs X K V I)(o:AO):RS l pr L S I0 (X.length::E) h w nx vs (X++[o]) K V I:=
 (T.more [o]).add (by simp) (by
   simp only[List.mem_cons,not_or]
   exact⟨by have:=T.stb.ls.lt;omega,λhm=>by have:=T.stb.ls.own.lt hm;omega⟩) (λhm=>by have:=T.va.lt _ hm;omega)
theorem RS.start(T:RS l pr L S I0 E h w nx vs X K V I):RS l pr L (L::(vi V++I)) I [] X w nx vs X K V I:=
 ⟨⟨T.stb.ls,Frm.refl _ _,by simp,λj hj=>by simp[hj],λj hj=> .inl hj,λi hi=>T.stb.ap i (by rw[List.append_nil] at hi;exact List.mem_append.2 (.inl hi))⟩,T.va,λi hi=>⟨by simp,.inl (by simp[hi])⟩⟩
theorem RS.of(H:LS (lwR l pr V nx) L w h K I)(hV:VAt h V vs)(hVd:∀i∈vi V,i∉L::I):RS l pr L (L::(vi V++I)) I [] h w nx vs h K V I:=
 ⟨⟨H,Frm.refl _ _,by simp,λj hj=>by simp[hj],λj hj=> .inl hj,λi hi=>by rw[List.append_nil] at hi;exact⟨hV.lt i hi,hVd i hi⟩⟩,hV,λi hi=>⟨by simp,.inl (by simp[hi])⟩⟩
theorem RS.at(T:RS l pr L S I0 E h w nx vs X K V I):(∀i∈E,i<X.length/\i∉L::I)/\(∀i∈vi V,i<X.length/\i∉L::I):=
 ⟨λi hi=>T.stb.ap i (by simp[hi]),λi hi=>T.stb.ap i (by simp[hi])⟩
theorem RS.fresh(T:RS l pr L S I0 E h w nx vs X K V I):(∀j∈[X.length],h.length<=j/\j∉vi V++E)/\(∀j∈[X.length],j≠L/\j∉I):=T.stb.fresh
theorem RS.step(T:RS l pr L S I0 E h w nx vs X K V I)(hJ:∀j∈J,h.length<=j/\j∉vi V++E)(H:LR (lwR l pr V nx) L w2 (I++J) X X2):∃K2 I2,RS l pr L S I0 E h w2 nx vs X2 K2 V I2/\∀i∈E,X2[i]?=X[i]?:=by
 obtain⟨K2,I2,a1,a2⟩:=T.stb.step hJ H
 exact⟨K2,I2,⟨a1,T.va.frame λi hi=>a2 i (by simp[hi]),T.vE⟩,λi hi=>a2 i (by simp[hi])⟩
theorem RS.lift(T:RS l pr L S I0 E h w nx vs X K V I)(T2:RS l pr L (L::(vi V++I)) I [] X w2 nx2 vs2 X2 K2 V2 I2):RS l pr L S I0 E h w2 nx2 vs2 X2 K2 V2 I2/\∀i∈E,X2[i]?=X[i]?:=by
 have hX:=T.stb.fr.1
 have hX2:=T2.stb.fr.1
 refine⟨⟨⟨T2.stb.ls,T.stb.fr.trans T2.stb.fr λj hj=>?_,T.stb.hL,T.stb.hS,λj hj=>?_,λi hi=>?_⟩,T2.va,λi hi=>⟨λhE=>?_,?_⟩⟩,λi hi=>?_⟩
 ·simp only[List.mem_cons,List.mem_append] at hj
  rcases hj with rfl|hj|hj
  ·exact .inl T.stb.hL
  ·exact(T.vE j hj).2
  ·rcases T.stb.sub j hj with h|h
   ·exact .inl (T.stb.hS j h)
   ·exact .inr h
 ·rcases T2.stb.sub j hj with h|h
  ·exact T.stb.sub j h
  ·exact .inr (by omega)
 ·rcases List.mem_append.1 hi with h|h
  ·exact T2.stb.ap i (by simp[h])
  ·have h1:=T.at.1 i h
   refine⟨by omega,λhm=>?_⟩
   have h2:=h1.2
   simp only[List.mem_cons,not_or] at h2 hm
   rcases hm with hm|hm
   ·exact h2.1 hm
   ·rcases T2.stb.sub i hm with h|h
    ·exact h2.2 h
    ·omega
 ·have h1:=T.at.1 i hE
  rcases(T2.vE i hi).2 with h|h
  ·simp only[List.mem_cons,List.mem_append] at h
   rcases h with rfl|h|h
   ·exact h1.2 (by simp)
   ·exact(T.vE i h).1 hE
   ·exact h1.2 (by simp[h])
  ·omega
 ·rcases(T2.vE i hi).2 with h|h
  ·simp only[List.mem_cons,List.mem_append] at h
   rcases h with rfl|h|h
   ·exact .inl T.stb.hL
   ·exact(T.vE i h).2
   ·rcases T.stb.sub i h with h|h
    ·exact .inl (T.stb.hS i h)
    ·exact .inr h
  ·exact .inr (by omega)
 ·have h1:=T.at.1 i hi
  have h2:=h1.2
  simp only[List.mem_cons,not_or] at h2
  refine T2.stb.fr.2 i h1.1 ?_
  simp only[List.mem_cons,List.mem_append,not_or]
  exact⟨h2.1,λhm=>(T.vE i hm).1 hi,h2.2⟩
theorem RS.alt(T:RS l pr L S I0 E h w nx vs X K V I)(hX:X.length<=X2.length)(hL:X2[L]?=some (lwR l pr V2 nx2 w K))(e:∀i,i<X.length->i≠L->i∉vi V->X2[i]?=X[i]?)(hv:VAt X2 V2 vs2)(hv2:∀i∈vi V2,i∈vi V\/X.length<=i):RS l pr L S I0 E h w nx2 vs2 X2 K V2 I/\∀i∈E,X2[i]?=X[i]?:=by
 have hXl:=T.stb.fr.1
 have hI:∀i∈I,X2[i]?=X[i]?:=λi hi=>e i (T.stb.ls.own.lt hi) (λe=>(List.nodup_cons.1 T.stb.ls.nd).1 (e▸hi)) λhm=>(T.at.2 i hm).2 (by simp[hi])
 refine⟨⟨⟨⟨hL,T.stb.ls.own.frame hI,T.stb.ls.nd,T.stb.ls.noc.1,λkid n rows eK hg=>?_⟩,T.stb.fr.trans (T:=L::vi V) ⟨hX,λi hi hn=>?_⟩ λj hj=>?_,T.stb.hL,T.stb.hS,T.stb.sub,λi hi=>?_⟩,hv,λi hi=>⟨λhE=>?_,?_⟩⟩,λi hi=>?_⟩
 ·have ho:=T.stb.ls.own
  rw[eK] at ho
  rw[hI kid (pI ho)] at hg
  exact T.stb.ls.noc.2 kid n rows eK hg
 ·simp only[List.mem_cons,not_or] at hn
  exact e i hi hn.1 hn.2
 ·rcases List.mem_cons.1 hj with rfl|hj
  ·exact .inl T.stb.hL
  ·exact(T.vE j hj).2
 ·rcases List.mem_append.1 hi with h|h
  ·refine⟨hv.lt i h,?_⟩
   rcases hv2 i h with h|h
   ·exact(T.at.2 i h).2
   ·simp only[List.mem_cons,not_or]
    exact⟨by have:=T.stb.ls.lt;omega,λhm=>by have:=T.stb.ls.own.lt hm;omega⟩
  ·have:=T.at.1 i h
   exact⟨by omega,this.2⟩
 ·rcases hv2 i hi with h|h
  ·exact(T.vE i h).1 hE
  ·have:=(T.at.1 i hE).1;omega
 ·rcases hv2 i hi with h|h
  ·exact(T.vE i h).2
  ·exact .inr (by omega)
 ·have h1:=T.at.1 i hi
  refine e i h1.1 (λe=>h1.2 (by simp[e])) λhm=>(T.vE i hm).1 hi
theorem VAt.form(H:VAt X V vs):(V= .nils/\vs=[])\/∃vid,V= .sl vid 3 0 vs.length:=by
 cases H with
 |nil=>exact .inl ⟨rfl,rfl⟩
 |sl vid rows _ _ _=>exact .inr ⟨vid,rfl⟩
variable (G:aB)
theorem jh(T:RS l pr L S I0 E h w nx vs X K V I){B:Nat}(hok:w.Ok B)(hB:B<=1073741824):
 AC Tryz.prog G bG [.ptr L 8 0 0] X λr h'=>r= .ret (.p (.int .i64 w.bs.length))/\∃K' I',RS l pr L S I0 E h (w.name 1) nx vs h' K' V I'/\∀i∈E,h'[i]?=X[i]?:=
 (rn G T.stb.ls hok hB ⟨T.va.is.1,T.va.is.2.1⟩).mono λr h' ⟨a,b⟩=>⟨a,T.step (J:=[]) (λj hj=>by cases hj) (by rw[List.append_nil];exact b)⟩
theorem pJ(T:RS l pr L S I0 E h w nx vs X K V I){B:Nat}(hok:w.Ok B)(j o:Int)(a:Int)(g:Nat){gI:Int}(hg:gI=(g:Int)):
 AC Tryz.prog G bi [.ptr L 8 0 0,.p (.int .i64 j),.p (.int .i64 o),.sl X.length 1 0 1,.p (.int .i64 gI)] (X++[.row 1 [[.p (.int .i64 a)]]]) λr h'=>r= .ret (.tup [])/\∃K' I',RS l pr L S I0 E h (w.fin j o g [a]) nx vs h' K' V I'/\∀i∈E,h'[i]?=X[i]?:=by
 obtain⟨f1,f2⟩:=T.fresh
 have hm:=kM G (T.stb.ls.more [.row 1 ([a].map λn=>[AV.p (.int .i64 n)])]) hok j o g [a] (fp X [a] rfl) (by simp) f2
 simp only[List.map_cons,List.map_nil,List.length_cons,List.length_nil] at hm
 rw[hg]
 refine hm.mono λr h' ⟨e,b⟩=>⟨e,?_⟩
 obtain⟨K2,I2,a1,a2⟩:=(T.more [_]).step f1 b
 exact⟨K2,I2,a1,λi hi=>(a2 i hi).trans (List.getElem?_append_left (T.at.1 i hi).1)⟩
theorem Ap(T:RS l pr L S I0 E h w nx vs X K V I){B:Nat}(hok:w.Ok B)(j o:Int)(a b:Int)(g:Nat){gI:Int}(hg:gI=(g:Int)):
 AC Tryz.prog G bi [.ptr L 8 0 0,.p (.int .i64 j),.p (.int .i64 o),.sl X.length 1 0 2,.p (.int .i64 gI)] (X++[.row 1 [[.p (.int .i64 a)],[.p (.int .i64 b)]]]) λr h'=>r= .ret (.tup [])/\∃K' I',RS l pr L S I0 E h (w.fin j o g [a,b]) nx vs h' K' V I'/\∀i∈E,h'[i]?=X[i]?:=by
 obtain⟨f1,f2⟩:=T.fresh
 have hm:=kM G (T.stb.ls.more [.row 1 ([a,b].map λn=>[AV.p (.int .i64 n)])]) hok j o g [a,b] (fp X [a,b] rfl) (by simp) f2
 simp only[List.map_cons,List.map_nil,List.length_cons,List.length_nil] at hm
 rw[hg]
 refine hm.mono λr h' ⟨e,b⟩=>⟨e,?_⟩
 obtain⟨K2,I2,a1,a2⟩:=(T.more [_]).step f1 b
 exact⟨K2,I2,a1,λi hi=>(a2 i hi).trans (List.getElem?_append_left (T.at.1 i hi).1)⟩
theorem Fa(T:RS l pr L S I0 E h w nx vs X K V I){B:Nat}(hok:w.Ok B)(j o:Int)(g:Nat){gI:Int}(hg:gI=(g:Int)):
 AC Tryz.prog G bi [.ptr L 8 0 0,.p (.int .i64 j),.p (.int .i64 o),.p (ay []),.p (.int .i64 gI)] X λr h'=>r= .ret (.tup [])/\∃K' I',RS l pr L S I0 E h (w.fin j o g []) nx vs h' K' V I'/\∀i∈E,h'[i]?=X[i]?:=by
 rw[hg]
 exact(kM G T.stb.ls hok j o g [] (Y:= .p (ay [])) (J:=[]) (.p _ (λh=>by cases h) .nil) List.nodup_nil (λj hj=>by cases hj)).mono λr h' ⟨e,b⟩=>⟨e,T.step (J:=[]) (λj hj=>by cases hj) b⟩
theorem Bb(T:RS l pr L S I0 E h w nx vs X K V I){B:Nat}(hok:w.Ok B)(hB:B<=1073741824)(x:Ii){A:AV}(hA:OwnL false X [A] [ay x.args] J)(ndJ:J.Nodup)(hJ:∀j∈J,h.length<=j/\j∉vi V++E)(hJ2:∀j∈J,j≠L/\j∉I):
 AC Tryz.prog G bE [.ptr L 8 0 0,.p (.int .i64 x.op),.p (.int .i64 x.to),.p (.int .i64 x.n),A] X λr h'=>r= .ret (.p (.int .i64 x.to))/\∃K' I',RS l pr L S I0 E h (w.put x) nx vs h' K' V I'/\∀i∈E,h'[i]?=X[i]?:=
 (mg G T.stb.ls hok hB x hA ndJ hJ2).mono λr h' ⟨e,b⟩=>⟨e,T.step hJ b⟩
theorem GN(T:RS l pr L S I0 E h w nx vs X K V I){B:Nat}(hok:w.Ok B){e:Ex}(hB:B+8*e.sz<=1073741823)(he:ExR G l pr L V nx vs e):
 AC Tryz.prog G aU [.ptr L 8 0 0,.agg (e.cs.map .p)] X λx h'=>x= .ret (.p (.int .i64 (lwE (faI l) (rgV vs) e w).1))/\∃K' I',RS l pr L S I0 E h (lwE (faI l) (rgV vs) e w).2 nx vs h' K' V I'/\∀i∈E,h'[i]?=X[i]?:=
 (he w X K I B T.stb.ls hok hB T.va (λi hi=>(T.at.2 i hi).2)).mono λr h' ⟨e,b⟩=>⟨e,T.step (J:=[]) (λj hj=>by cases hj) (by rw[List.append_nil];exact b)⟩
def BZ(l0:List Fd)(pr:Int)(L:Nat)(l:List Sm):Prop:=∀(w:Lw) (h:List AO) (K V:AV) (I:List Nat) (B:Nat) (vs:Vs) (nx:Nat) (m:Scp) (up:List Scp),RS l0 pr L (L::(vi V++I)) I [] h w nx vs h K V I->w.Ok B->B+20*aM l<=1073741000->nx+aM l<=1073741000->vs.length+aM l<=1073741000->rgV vs=scF (-1) (m::up)->
 AC Tryz.prog G aX [.ptr L 8 0 0,.p (smL l)] h λx h'=>x= .ret (.tup [])/\∃K' V' I',RS l0 pr L (L::(vi V++I)) I [] h (aT (faI l0) (-1) l m up nx w).2.2 (aT (faI l0) (-1) l m up nx w).2.1 vs h' K' V' I'
def StR(l0:List Fd)(pr:Int)(L:Nat)(s:Sm):Prop:=∀(w:Lw) (h:List AO) (K V:AV) (I:List Nat) (B:Nat) (vs:Vs) (nx:Nat) (m:Scp) (up:List Scp),RS l0 pr L (L::(vi V++I)) I [] h w nx vs h K V I->w.Ok B->B+20*s.sz<=1073741000->nx+s.sz<=1073741000->vs.length+s.sz<=1073741000->rgV vs=scF (-1) (m::up)->
 AC Tryz.prog G dG [.ptr L 8 0 0,.agg (s.cs.map .p)] h λx h'=>x= .ret (.tup [])/\∃vs' K' V' I',RS l0 pr L (L::(vi V++I)) I [] h (lwS (faI l0) (-1) s m up nx w).2.2 (lwS (faI l0) (-1) s m up nx w).2.1 vs' h' K' V' I'/\vs'.take vs.length=vs/\vs.length<=vs'.length/\vs'.length<=vs.length+1/\rgV vs'=scF (-1) ((lwS (faI l0) (-1) s m up nx w).1::up)
theorem pz{b:List Sm}(hb:BZ G l pr L b)(T:RS l pr L S I0 E h w nx vs X K V I){B:Nat}{m:Scp}{up:List Scp}(hok:w.Ok B)(h1:B+20*aM b<=1073741000)(h2:nx+aM b<=1073741000)(h3:vs.length+aM b<=1073741000)(h4:rgV vs=scF (-1) (m::up)):
 AC Tryz.prog G aX [.ptr L 8 0 0,.p (smL b)] X λx h'=>x= .ret (.tup [])/\∃K' V' I',RS l pr L S I0 E h (aT (faI l) (-1) b m up nx w).2.2 (aT (faI l) (-1) b m up nx w).2.1 vs h' K' V' I'/\∀i∈E,h'[i]?=X[i]?:=
 (hb w X K V I B vs nx m up T.start hok h1 h2 h3 h4).mono λr h' ⟨e,K',V',I',T2⟩=>⟨e,K',V',I',T.lift T2⟩
end
end
section
theorem Hz{fa:List UInt8->Int}{d:Int}{s:Sm}(h:s.op=6){a0:Ex}{ar:List Ex}(ha:s.args=a0::ar)(m:Scp)(up:List Scp)(nx:Nat)(w:Lw){x:Int × Lw}(hx:x=lwE fa (scF d (m::up)) a0 ((w.name 3).fin 1 0 w.bs.length [(w.bs.length:Int)])){y:Scp × Nat × Lw}(hy:y=aT fa d s.body [] (m::up) nx (x.2.fin 2 x.1 (w.bs.length+1) [(w.bs.length:Int)+1,(w.bs.length:Int)+2])):
 lwS fa d s m up nx w=(m,y.2.1,y.2.2.fin 1 0 (w.bs.length+2) [(w.bs.length:Int)]):=by
 subst hy;subst hx
 obtain⟨o,n,a,bd,el⟩:=s
 simp only[Sm.op,Sm.args] at h ha
 rw[lwS,if_pos h,ha];rfl
theorem Hb{fa:List UInt8->Int}{d:Int}{s:Sm}(h:¬s.op=6)(m:Scp)(up:List Scp)(nx:Nat)(w:Lw){x:List Int × Lw}(hx:x=br fa (scF d (m::up)) s.args w):
 lwS fa d s m up nx w=if s.op=1 then(mf m s.name nx,nx+1,x.2.put ⟨2,nx,x.1,0⟩)
  else if s.op=2 then(m,nx,x.2.put ⟨2,scF d (m::up) s.name,x.1,0⟩)
  else if s.op=3 then(m,nx,x.2.put ⟨13,-1,x.1,0⟩)
  else if s.op=4 then(m,nx,x.2.put ⟨12,-1,x.1,0⟩)
  else if s.op=5 then
   let t:=x.2.bs.length
   let y:=aT fa d s.body [] (m::up) nx ((x.2.name 3).fin 2 (x.1.headD 0) t [(t:Int),(t:Int)+1])
   let z:=aT fa d s.els [] (m::up) y.2.1 (y.2.2.fin 1 0 (t+1) [(t:Int)+2])
   (m,z.2.1,z.2.2.fin 1 0 (t+2) [(t:Int)+2])
  else if s.op=7 then(m,nx,(x.2.name 1).fin 3 (x.1.headD 0) x.2.bs.length [])
  else(m,nx,x.2):=by
 subst hx
 obtain⟨o,n,a,bd,el⟩:=s
 simp only[Sm.op] at h
 rw[lwS,if_neg h];rfl
variable (G:aB)
end
section
theorem RS.ofStg{l:List Fd}{pr:Int}{L:Nat}{I:List Nat}{h hB:List AO}{w:Lw}{nx:Nat}{vs:Vs}{X:List AO}{K V:AV}{I1:List Nat}{oid:Nat}(S:Stg (lwR l pr V nx) L I (h.length::vi V) h hB w X K I1)(hv:VAt X V vs)(hV:∀i∈vi V,i<h.length)(ho:oid<X.length)(hoE:oid∉h.length::vi V)(hoI:oid∉L::I1):RS l pr L (L::(vi V++I)) I [oid,h.length] h w nx vs X K V I1:=by
 refine⟨⟨S.ls,⟨S.fr.1,λi hi hn=>S.fr.2 i hi λhm=>hn ?_⟩,by simp,λj hj=>by simp[hj],S.sub,λi hi=>?_⟩,hv,λi hi=>⟨λhm=>?_,.inl (by simp[hi])⟩⟩
 ·rcases List.mem_cons.1 hm with rfl|hm
  ·simp
  ·simp[hm]
 ·simp only[List.mem_append,List.mem_cons,List.not_mem_nil,or_false] at hi
  rcases hi with hi|rfl|rfl
  ·exact S.ap i (by simp[hi])
  ·exact⟨ho,hoI⟩
  ·exact S.ap _ (by simp)
 ·simp only[List.mem_cons,List.not_mem_nil,or_false] at hm
  rcases hm with rfl|rfl
  ·exact hoE (by simp[hi])
  ·have:=hV _ hi;omega
variable (G:aB)
theorem Ff(l0:List Fd)(hl0:l0.length<=1073741824)(pr:Int)(L:Nat)(s:Sm)(o6:s.op=6)(hne:s.args≠[])(ha:∀a∈s.args,bJ 6 a=true)(hb:BZ G l0 pr L s.body){w:Lw}{h:List AO}{K V:AV}{I:List Nat}{B:Nat}{vs:Vs}{nx:Nat}{m:Scp}{up:List Scp}(T:RS l0 pr L (L::(vi V++I)) I [] h w nx vs h K V I)(hok:w.Ok B)(hB:B+20*s.sz<=1073741000)(hnx:nx+s.sz<=1073741000)(hvl:vs.length+s.sz<=1073741000)(hrg:rgV vs=scF (-1) (m::up)):
 AC Tryz.prog G dA [.ptr L 8 0 0,.agg (s.cs.map .p)] h λx h'=>x= .ret (.tup [])/\∃K' V' I',RS l0 pr L (L::(vi V++I)) I [] h (lwS (faI l0) (-1) s m up nx w).2.2 (lwS (faI l0) (-1) s m up nx w).2.1 vs h' K' V' I'/\(lwS (faI l0) (-1) s m up nx w).1=m:=by
 have hsc:=s.cs_eq
 have hsz:=s.sz_eq
 obtain⟨a0,ar,ha0⟩:∃a r,s.args=a::r:=by
  match hx:s.args,hne with
  |a::r,_=>exact⟨a,r,rfl⟩
 obtain⟨t,ht⟩:∃t,t=w.bs.length:=⟨_,rfl⟩
 have hac:=a0.cs_eq
 have hkx:exL s.args= .lst 4 ([.int .i64 a0.op,.int .i64 a0.n,.str a0.name,exL a0.kids]::ar.map Ex.cs):=by rw[ha0,←hac];rfl
 have haz:aP s.args=a0.sz+aP ar:=by rw[ha0,aP]
 have htb:t<=B:=by rw[ht];exact hok.bs
 have T0:=T.box (AO.row 5 [[.p (.int .i64 6),.p (.str s.name),.p (exL s.args),.p (smL s.body),.p (smL s.els)]])
 have r0:(h++[AO.row 5 [[.p (.int .i64 6),.p (.str s.name),.p (exL s.args),.p (smL s.body),.p (smL s.els)]]])[h.length]?=some (AO.row 5 [[.p (.int .i64 6),.p (.str s.name),.p (exL s.args),.p (smL s.body),.p (smL s.els)]]):=by simp
 rw[hkx] at T0 r0
 refine AC.go nh ?_
 rw[hsc,o6,hkx]
 simp-implicitDefEqProofs[-AV.cells,-AV.isCell,aE,ag,ah,an,al,aD,af,am,aj,-Lw.name_len,gA]
 refine(jh G T0 hok (by omega)).mono ?_
 rintro x X1 ⟨rfl,K1,I1,T1,e1⟩
 have r1:=(e1 h.length (by simp)).trans r0
 have ok1:=hok.name 1
 have hl1:(w.name 1).bs.length=t+1:=by rw[Lw.name_len,ht]
 simp-implicitDefEqProofs[-AV.cells,-AV.isCell,aE,ag,ah,an,al,aD,af,am,aj,-Lw.name_len,aa,←ht]
 refine(jh G T1 ok1 (by omega)).mono ?_
 rintro x X2 ⟨rfl,K2,I2,T2,e2⟩
 have r2:=(e2 h.length (by simp)).trans r1
 have ok2:=ok1.name 1
 have hl2:((w.name 1).name 1).bs.length=t+2:=by rw[Lw.name_len,hl1]
 simp-implicitDefEqProofs[-AV.cells,-AV.isCell,aE,ag,ah,an,al,aD,af,am,aj,-Lw.name_len,aa,hl1]
 refine(jh G T2 ok2 (by omega)).mono ?_
 rintro x X3 ⟨rfl,K3,I3,T3,e3⟩
 have r3:=(e3 h.length (by simp)).trans r2
 have ok3:(w.name 3).Ok (B+3):=hok.name 3
 have hn3:((w.name 1).name 1).name 1=w.name 3:=by rw[Lw.name_name,Lw.name_name]
 rw[hn3] at T3
 simp-implicitDefEqProofs[-AV.cells,-AV.isCell,aE,ag,ah,an,al,aD,af,am,aj,-Lw.name_len,aa,hl2]
 refine(pJ G T3 ok3 1 0 t t rfl).mono ?_
 rintro x X4 ⟨rfl,K4,I4,T4,e4⟩
 have r4:=(e4 h.length (by simp)).trans r3
 have ok4:=ok3.fin 1 0 (g:=t) (by rw[Lw.name_len,ht];omega) [(t:Int)]
 simp-implicitDefEqProofs[-AV.cells,-AV.isCell,aE,ag,ah,an,al,aD,af,am,aj,-Lw.name_len,aa,r4]
 have h5:=GN G T4 ok4 (e:=a0) (by omega) (AM G l0 hl0 pr L V nx vs (by omega) 6 a0 (ha a0 (by rw[ha0];simp)))
 obtain⟨ok5,len5⟩:=lJ (faI l0) (rgV vs) a0 _ _ ok4
 obtain⟨x5,hx5⟩:∃x5,x5=lwE (faI l0) (rgV vs) a0 ((w.name 3).fin 1 0 t [(t:Int)]):=⟨_,rfl⟩
 rw[hac,←hx5] at h5
 rw[←hx5] at ok5 len5
 simp only[Lw.fin_len,Lw.name_len,←ht] at len5
 refine h5.mono ?_
 rintro x X5 ⟨rfl,K5,I5,T5,e5⟩
 have r5:=(e5 h.length (by simp)).trans r4
 simp-implicitDefEqProofs[-AV.cells,-AV.isCell,aE,ag,ah,an,al,aD,af,am,aj,-Lw.name_len,aa]
 refine(Ap G T5 ok5 2 x5.1 ((t:Int)+1) ((t:Int)+2) (t+1) (by omega)).mono ?_
 rintro x X6 ⟨rfl,K6,I6,T6,e6⟩
 have r6:=(e6 h.length (by simp)).trans r5
 have ok6:=ok5.fin 2 x5.1 (g:=t+1) (by omega) [(t:Int)+1,(t:Int)+2]
 simp-implicitDefEqProofs[-AV.cells,-AV.isCell,aE,ag,ah,an,al,aD,af,am,aj,-Lw.name_len,aa,r6]
 have h7:=pz G hb T6 (m:=[]) (up:=m::up) ok6 (by omega) (by omega) (by omega) (by rw[hrg];rfl)
 have okb:=dI (faI l0) (-1) s.body [] (m::up) nx _ _ ok6
 obtain⟨y7,hy7⟩:∃y,y=aT (faI l0) (-1) s.body [] (m::up) nx (x5.2.fin 2 x5.1 (t+1) [(t:Int)+1,(t:Int)+2]):=⟨_,rfl⟩
 rw[←hy7] at h7 okb
 refine h7.mono ?_
 rintro x X7 ⟨rfl,K7,V7,I7,T7,e7⟩
 obtain⟨ok7,len7,nx7,nxx7⟩:=okb
 simp-implicitDefEqProofs[-AV.cells,-AV.isCell,aE,ag,ah,an,al,aD,af,am,aj,-Lw.name_len,aa]
 refine(pJ G T7 ok7 1 0 t (t+2) (by omega)).mono ?_
 rintro x X8 ⟨rfl,K8,I8,T8,e8⟩
 simp-implicitDefEqProofs[-AV.cells,-AV.isCell,aE,ag,ah,an,al,aD,af,am,aj,-Lw.name_len,aa]
 subst ht
 rw[hrg] at hx5
 rw[Hz o6 ha0 m up nx w hx5 hy7]
 exact⟨⟨K8,V7,I8,T8.few (λi hi=>by cases hi)⟩,rfl⟩
theorem Fb(l0:List Fd)(hl0:l0.length<=1073741824)(pr:Int)(L:Nat)(s:Sm)(hne:s.args≠[])(ha:∀a∈s.args,bJ 6 a=true)(hb:BZ G l0 pr L s.body)(he:BZ G l0 pr L s.els):StR G l0 pr L s:=by
 intro w h K V I B vs nx m up T hok hB hnx hvl hrg
 have hsc:=s.cs_eq
 have hsz:=s.sz_eq
 have H:=T.stb.ls
 have hV:=T.va
 have hVd:=λi hi=>(T.at.2 i hi).2
 have hLl:=H.lt
 have hxl:∀l,exL l= .lst 4 (l.map Ex.cs):=λ_=>rfl
 obtain⟨v1,v2,v3⟩:=hV.is
 obtain⟨E,hE⟩:∃E,E=h.length::vi V:=⟨_,rfl⟩
 obtain⟨bo,hbo⟩:∃bo,bo=AO.row 5 [[.p (.int .i64 s.op),.p (.str s.name),.p (exL s.args),.p (smL s.body),.p (smL s.els)]]:=⟨_,rfl⟩
 refine AC.go ml ?_
 rw[hsc]
 by_cases o6:s.op=6
 ·have T0:=T.box bo
  have hF:=Ff G l0 hl0 pr L s o6 hne ha hb T0.start hok hB hnx hvl hrg
  rw[hsc] at hF
  rw[o6] at hbo hF
  simp-implicitDefEqProofs[-AV.cells,-AV.isCell,aE,ag,ah,an,al,aD,af,am,aj,-Lw.name_len,dE,o6]
  rw[←hbo]
  refine hF.mono ?_
  rintro x X1 ⟨rfl,K1,V1,I1,T1,hm1⟩
  simp-implicitDefEqProofs[-AV.cells,-AV.isCell,aE,ag,ah,an,al,aD,af,am,aj,-Lw.name_len,aa]
  exact⟨vs,⟨K1,V1,I1,(T0.lift T1).1.few (λi hi=>by cases hi)⟩,by rw[List.take_length],Nat.le_refl _,by omega,by rw[hm1];exact hrg⟩
 have hS0:Stg (lwR l0 pr V nx) L I E h (h++[bo]) w (h++[bo]) K I:=Stg.of H [bo] (λi hi=>by
  rw[hE] at hi
  rcases List.mem_cons.1 hi with rfl|hi
  ·refine⟨by simp,?_⟩
   simp only[List.mem_cons,not_or]
   exact⟨by have:=H.lt;omega,λhm=>by have:=H.own.lt hm;omega⟩
  ·exact⟨by have:=hV.lt i hi;simp;omega,hVd i hi⟩)
 have hb0:(h++[bo])[h.length]?=some bo:=by simp
 have kE:∀{w2:Lw} {X:List AO} {K2:AV} {I2:List Nat},Stg (lwR l0 pr V nx) L I E h (h++[bo]) w2 X K2 I2->X[h.length]?=some bo/\VAt X V vs/\(∀i∈vi V,i∉L::I2):=λ{w2 X K2 I2} S=>⟨(S.keep _ (by rw[hE];simp)).trans hb0,(hV.more [bo]).frame λi hi=>S.keep i (by rw[hE];simp[hi]),λi hi=>(S.ap i (by rw[hE];simp[hi])).2⟩
 have hal:=eJ s.args
 have hbl:(h++[bo]).length=h.length+1:=by simp
 simp-implicitDefEqProofs[-AV.cells,-AV.isCell,aE,ag,ah,an,al,aD,af,am,aj,-Lw.name_len,dE,o6,hxl]
 refine GD 0 (λts' X=>∃oid K1 I1,Stg (lwR l0 pr V nx) L I E h (h++[bo]) (br (faI l0) (rgV vs) s.args w).2 X K1 I1/\X[oid]?=some (pq (br (faI l0) (rgV vs) s.args w).1)/\h.length<oid/\oid∉E/\oid∉L::I1/\∃z,ts'=aC 132 ((20,z)::(19,.p (.int .i64 s.args.length))::(18,.p (.lst 4 (s.args.map Ex.cs)))::(17,.ptr h.length 5 0 2)::(16,.p (.int .i64 s.args.length))::[(4,.sl oid 1 0 s.args.length),(5,.p (.int .i64 s.args.length)),(3,.ptr h.length 5 0 0),(0,.ptr L 8 0 0)])) (λQ' qE=>?_) ?_
 ·rw[hxl] at hbo
  have S00:Stg (lwR l0 pr V nx) L I E h (h++[bo]) w (h++[bo]++[.row 1 []]) K I:=hS0.more _
  have e0:h++[bo]++[AO.row 1 []]=h++[bo,.row 1 []]:=by simp
  rw[e0] at S00
  have hvE:h.length+1∉E:=λhm=>by have:=(hS0.ap _ hm).1;simp at this
  refine aH (λa:MpQ=>aC 132 [(4,.sl a.o 1 0 a.i),(5,.p (.int .i64 a.i)),(3,.ptr h.length 5 0 0),(0,.ptr L 8 0 0)]) (λa=>a.X)
   (λa=>a.i<=s.args.length/\∃K1 I1,Stg (lwR l0 pr V nx) L I E h (h++[bo]) (br (faI l0) (rgV vs) (s.args.take a.i) w).2 a.X K1 I1/\a.X[a.o]?=some (pq (br (faI l0) (rgV vs) (s.args.take a.i) w).1)/\h.length<a.o/\a.o∉E/\a.o∉L::I1) (λa=>s.args.length-a.i) ⟨0,h++[bo,.row 1 []],h.length+1⟩ ⟨Nat.zero_le _,K,I,by rw[List.take_zero,br];exact S00,by rw[List.take_zero,br,←e0,List.getElem?_append_right (by simp)];simp[pq],by simp,hvE,by
     simp only[List.mem_cons,not_or]
     exact⟨by omega,λhm=>by have:=H.own.lt hm;omega⟩⟩ ?_ ?_
  ·rw[hbo]
   exact ab (by simp) (by simp[below];omega)
  rintro⟨i,X,o⟩ ⟨hi,K1,I1,S,hx,ho,hoE,hoI⟩
  simp only at hi S hx ho hoE hoI
  have hXl:=S.fr.1
  have hXL:=S.ls.lt
  have hox:o<X.length:=(List.getElem?_eq_some_iff.1 hx).1
  have hlen:(br (faI l0) (rgV vs) (s.args.take i) w).1.length=i:=by rw[gb,List.length_take];omega
  obtain⟨y0,yV,yd⟩:=kE S
  rw[hbo] at y0
  have hbX:h.length<X.length:=(List.getElem?_eq_some_iff.1 y0).1
  simp-implicitDefEqProofs[y0]
  refine aG (λhc1=>?_) (λhc1=>?_)
  ·simp at hc1
   have hg:=List.getElem?_eq_getElem hc1
   have hm:=List.getElem_mem hc1
   have htk:=tu (fa:=faI l0) (sc:=rgV vs) hc1 w
   have hok1:=(jt (faI l0) (rgV vs) (s.args.take i) w B hok).1
   have hzt:aP (s.args.take i)+s.args[i].sz<=aP s.args:=by
    have h1:=List.take_append_drop (i+1) s.args
    have h2:aP s.args=aP (s.args.take (i+1))+aP (s.args.drop (i+1)):=by
     conv=>lhs;rw[←h1]
     rw[dv]
    rw[az hc1,dv] at h2
    simp only[aP] at h2
    omega
   have hcall:=AM G l0 hl0 pr L V nx vs (by omega) 6 s.args[i] (ha _ hm) _ _ K1 I1 _ S.ls hok1 (by omega) yV yd
   generalize s.args[i]=k at*
   have hkc:=k.cs_eq
   generalize br (faI l0) (rgV vs) (s.args.take i) w=cur at*
   obtain⟨out,w1⟩:=cur
   simp only at htk hcall hok1 S hx hlen
   rw[hkc] at hcall
   simp-implicitDefEqProofs[-AV.cells,-AV.isCell,aE,ag,ah,an,al,aD,af,am,aj,-Lw.name_len,y0,hg,hkc]
   refine hcall.mono ?_
   rintro r X2 ⟨rfl,hlr⟩
   have hl2:X.length<=X2.length:=by obtain⟨_,_,_,a,_⟩:=hlr;exact a.1
   have hx2:X2[o]?=some (pq out):=by
    obtain⟨_,_,_,a,_⟩:=hlr
    rw[a.2 o hox hoI];exact hx
   have hE2:∀j∈o::E,j<X.length/\j∉L::I1:=λj hj=>by
    rcases List.mem_cons.1 hj with rfl|hj
    ·exact⟨hox,hoI⟩
    ·exact S.ap j hj
   obtain⟨K2,I2,S2o⟩:=(show Stg (lwR l0 pr V nx) L I (o::E) h X w1 X K1 I1 from⟨S.ls,S.fr,S.sub,λ_ _=>rfl,hE2,Nat.le_refl _⟩).step (J:=[]) (λj hj=>by cases hj) (by rw[List.append_nil];exact hlr)
   have hoI2:o∉L::I2:=(S2o.ap o (by simp)).2
   have S2:Stg (lwR l0 pr V nx) L I E h (h++[bo]) _ X2 K2 I2:=⟨S2o.ls,S2o.fr,S2o.sub,λj hj=>(S2o.keep j (by simp[hj])).trans (S.keep j hj),λj hj=>S2o.ap j (by simp[hj]),Nat.le_trans S.ge hl2⟩
   have hx2':∀t,(X2++t)[o]?=some (.row 1 (out.map λn=>[AV.p (.int .i64 n)])):=λt=>by rw[List.getElem?_append_left (by omega)];exact hx2
   have hot:List.take i (out.map λn=>[AV.p (.int .i64 n)])=out.map λn=>[AV.p (.int .i64 n)]:=List.take_of_length_le (by simp;omega)
   simp-implicitDefEqProofs[-AV.cells,-AV.isCell,aE,ag,ah,an,al,aD,af,am,aj,-Lw.name_len,aa,hx2',hlen,hot]
   refine⟨by omega,⟨i+1,_,X2.length+1⟩,⟨by simp only;omega,K2,I2,by
    rw[htk]
    exact S2.upd (oid:=o) (by simp;omega) (λj hj hn=>by rw[List.getElem?_append_left (by simp;omega),List.getElem?_set_ne (Ne.symm hn),List.getElem?_append_left hj]) (by omega) hoE hoI2,?_,by simp only;omega,λhm=>by have:=(S2.ap _ hm).1;simp only at this;omega,?_⟩,by simp only;omega,ab (by simp;omega) ?_⟩
   ·rw[htk,List.getElem?_append_right (by simp)];simp[pq]
   ·simp only[List.mem_cons,not_or]
    exact⟨by have:=S2.ls.lt;omega,λhm=>by have:=S2.ls.own.lt hm;omega⟩
   ·simp[below,show IntKind.i64.wrap ((i:Int)+1)=(i:Int)+1 from ae (by omega) (by omega)]
    omega
  ·simp at hc1
   have hie:i=s.args.length:=by omega
   subst hie
   rw[List.take_length] at S hx hlen
   simp-implicitDefEqProofs[]
   exact qE _ _ ⟨o,K1,I1,S,hx,ho,hoE,hoI,_,rfl⟩
 ·rintro ts' X ⟨oid,K1,I1,S,hx,ho,hoE,hoI,z,rfl⟩
  obtain⟨y0,yV,yd⟩:=kE S
  rw[hbo] at y0
  obtain⟨okm,lenm⟩:=jt (faI l0) (rgV vs) s.args w B hok
  have hlm:=gb (faI l0) (rgV vs) s.args w
  obtain⟨t1,ht1⟩:∃x,x=br (faI l0) (rgV vs) s.args w:=⟨_,rfl⟩
  have heq:=Hb (fa:=faI l0) (d:= -1) o6 m up nx w (x:=t1) (by rw[←hrg];exact ht1)
  rw[←ht1] at S hx okm lenm hlm
  have hA:OwnL false X [.sl oid 1 0 s.args.length] [ay t1.1] [oid]:=rp hx hlm.symm
  have hox:=(List.getElem?_eq_some_iff.1 hx).1
  rw[hE] at S hoE
  have To:RS l0 pr L (L::(vi V++I)) I [oid,h.length] h t1.2 nx vs X K1 V I1:=RS.ofStg S yV hV.lt hox hoE hoI
  have Tq:RS l0 pr L (L::(vi V++I)) I [h.length] h t1.2 nx vs X K1 V I1:=To.few (by simp)
  have hJ:∀j∈[oid],h.length<=j/\j∉vi V++[h.length]:=λj hj=>by
   rw[List.mem_singleton.1 hj]
   refine⟨by omega,λhm=>hoE ?_⟩
   rcases List.mem_append.1 hm with hm|hm
   ·simp[hm]
   ·rw[List.mem_singleton.1 hm];simp
  have hJ2:∀j∈[oid],j≠L/\j∉I1:=λj hj=>by
   rw[List.mem_singleton.1 hj]
   simpa only[List.mem_cons,not_or] using hoI
  have r1:=y0
  have yL:=S.ls.here
  simp only[lwR] at yL
  clear ht1
  have hsl0:0<s.args.length:=List.length_pos_iff.2 hne
  have hq:∃q0 qr,t1.1=q0::qr:=by
   match hx:t1.1,s.args,hne,hlm with
   |q::r,_,_,_=>exact⟨q,r,rfl⟩
   |[],[],h,_=>exact(h rfl).elim
   |[],_::_,_,h=>simp at h
  simp-implicitDefEqProofs[-AV.cells,-AV.isCell,aE,ag,ah,an,al,aD,af,am,aj,-Lw.name_len,r1]
  refine aG (λo1=>?_) (λo1=>?_)
  ·have o1:s.op=1:=by simpa using o1
   simp-implicitDefEqProofs[-AV.cells,-AV.isCell,aE,ag,ah,an,al,aD,af,am,aj,-Lw.name_len,r1,yL]
   refine(Bb G Tq okm (by omega) ⟨2,nx,t1.1,0⟩ hA (by simp) hJ hJ2).mono ?_
   rintro x X1 ⟨rfl,K2,I2,T2,e2⟩
   simp-implicitDefEqProofs[-AV.cells,-AV.isCell,aE,ag,ah,an,al,aD,af,am,aj,-Lw.name_len,aa]
   have vform:=T2.va
   have dl:=(T2.at.2)
   have yL2:=T2.stb.ls.here
   simp only[lwR] at yL2
   have r2:=(e2 h.length (by simp)).trans r1
   have hrgn:rgV (vs++[(s.name,nx)])=scF (-1) (mf m s.name nx::up):=by
    funext t
    rw[pV,hrg,scF,scF,uL,uL,mM]
    by_cases hst:s.name=t
    ·simp[hst]
    ·simp[hst]
   have hwn:IntKind.i64.wrap ((nx:Int)+1)=(nx:Int)+1:=ae (by omega) (by omega)
   have hLX:=T2.stb.ls.lt
   cases vform with
   |nil=>
    have hLs:∀t o,((X1++t).set L o)[L]?=some o:=λt o=>List.getElem?_set_self (by simp;omega)
    have hLm:∀t,(X1++t)[L]?=X1[L]?:=λt=>List.getElem?_append_left hLX
    have hrm:∀t o,((X1++t).set L o)[h.length]?=X1[h.length]?:=λt o=>by
     rw[List.getElem?_set_ne (λe=>(T2.at.1 h.length (by simp)).2 (by rw[e];simp)),List.getElem?_append_left (T2.at.1 h.length (by simp)).1]
    simp-implicitDefEqProofs[-AV.cells,-AV.isCell,aE,ag,ah,an,al,aD,af,am,aj,-Lw.name_len,r2,yL2,hLm, ↓hLs,hwn,hrm]
    obtain⟨V2,hV2⟩:∃V2,V2=AV.sl X1.length 3 0 1:=⟨_,rfl⟩
    rw[heq,if_pos o1]
    have hX2:∀X2,X2=(X1++[AO.row 3 [[.p (.str s.name),.p (.int .i64 nx),.p (.int .i64 0)]]]).set L (.row 8 [[.p (fdL l0),.p (.int .i64 pr),.p (.int .i64 (t1.2.put ⟨2,nx,t1.1,0⟩).regs),K2,.p (.int .i64 (t1.2.put ⟨2,nx,t1.1,0⟩).pos),.sl X1.length 3 0 1,.p (.int .i64 ((nx:Int)+1)),.nils]])->RS l0 pr L (L::(vi .nils++I)) I [h.length] h (t1.2.put ⟨2,nx,t1.1,0⟩) (nx+1) [(s.name,nx)] X2 K2 (.sl X1.length 3 0 1) I2:=λX2 e=>by
     subst e
     refine(T2.alt (by simp) (by rw[hLs,lwR];simp) (λi hi hn _=>by rw[List.getElem?_set_ne (Ne.symm hn),List.getElem?_append_left hi]) (.sl _ [md (s.name,nx)] [(s.name,nx)] (by rw[List.getElem?_set_ne (by omega),List.getElem?_append_right (Nat.le_refl _)];simp[md]) rfl) (λi hi=> .inr (by rw[List.mem_singleton.1 hi];exact Nat.le_refl _))).1
    refine⟨[(s.name,nx)],⟨_,_,_,(hX2 _ (by simp[List.set_set])).few (E2:=[]) (λi hi=>by cases hi)⟩,?_⟩
    simpa using hrgn
   |sl vid rows _ hv1 hv2=>
    have hvX:=(List.getElem?_eq_some_iff.1 hv1).1
    have hvd:=(T2.at.2 vid (by simp[vi])).2
    simp only[List.mem_cons,not_or] at hvd
    have hLs:∀t u o,(((X1++t).set vid .dead++u).set L o)[L]?=some o:=λt u o=>List.getElem?_set_self (by simp;omega)
    have hLm:∀t u,((X1++t).set vid .dead++u)[L]?=X1[L]?:=λt u=>by rw[List.getElem?_append_left (by simp;omega),List.getElem?_set_ne hvd.1,List.getElem?_append_left hLX]
    have hLs0:∀u o,((X1.set vid .dead++u).set L o)[L]?=some o:=λu o=>List.getElem?_set_self (by simp;omega)
    have hLm0:∀u,(X1.set vid .dead++u)[L]?=X1[L]?:=λu=>by rw[List.getElem?_append_left (by simp;omega),List.getElem?_set_ne hvd.1]
    have hvk:vs.length<=rows.length:=by
     have:=congrArg List.length hv2
     rw[List.length_take,List.length_map] at this
     omega
    simp-implicitDefEqProofs[-AV.cells,-AV.isCell,aE,ag,ah,an,al,aD,af,am,aj,-Lw.name_len,r2,yL2,hv1,hv2, ↓hLs, ↓hLm, ↓hLs0, ↓hLm0,hwn]
    rw[heq,if_pos o1]
    have hX2:∀X2,X2=(X1.set vid .dead++[AO.row 3 (vs.map md++[[.p (.str s.name),.p (.int .i64 nx),.p (.int .i64 0)]])]).set L (.row 8 [[.p (fdL l0),.p (.int .i64 pr),.p (.int .i64 (t1.2.put ⟨2,nx,t1.1,0⟩).regs),K2,.p (.int .i64 (t1.2.put ⟨2,nx,t1.1,0⟩).pos),.sl X1.length 3 0 (vs.length+1),.p (.int .i64 ((nx:Int)+1)),.nils]])->RS l0 pr L (L::(vi (.sl vid 3 0 vs.length)++I)) I [h.length] h (t1.2.put ⟨2,nx,t1.1,0⟩) (nx+1) (vs++[(s.name,nx)]) X2 K2 (.sl X1.length 3 0 (vs.length+1)) I2:=λX2 e=>by
     subst e
     have hlv:(vs++[(s.name,nx)]).length=vs.length+1:=by simp
     refine(T2.alt (by simp) (by rw[hLs0,lwR];simp) (λi hi hn hv=>by
      rw[List.getElem?_set_ne (Ne.symm hn),List.getElem?_append_left (by simpa using hi),List.getElem?_set_ne (λe=>hv (by rw[←e];simp[vi]))]) (hlv▸ .sl _ (vs.map md++[md (s.name,nx)]) (vs++[(s.name,nx)]) (by rw[List.getElem?_set_ne (by omega),List.getElem?_append_right (by simp)];simp[md]) (by rw[List.take_of_length_le (by simp)];simp)) (λi hi=> .inr (by rw[List.mem_singleton.1 hi];exact Nat.le_refl _))).1
    refine⟨⟨by omega,by omega⟩,vs++[(s.name,nx)],⟨_,_,_,(hX2 _ (by simp[List.set_set])).few (E2:=[]) (λi hi=>by cases hi)⟩,?_⟩
    simpa using hrgn
  have o1:¬s.op=1:=by simpa using o1
  simp-implicitDefEqProofs[-AV.cells,-AV.isCell,aE,ag,ah,an,al,aD,af,am,aj,-Lw.name_len,r1]
  refine aG (λo2=>?_) (λo2=>?_)
  ·have o2:s.op=2:=by simpa using o2
   simp-implicitDefEqProofs[-AV.cells,-AV.isCell,aE,ag,ah,an,al,aD,af,am,aj,-Lw.name_len,r1,yL]
   refine(Dp G S.ls.here yV (by omega) s.name).mono ?_
   rintro x X' ⟨rfl,rfl⟩
   simp-implicitDefEqProofs[-AV.cells,-AV.isCell,aE,ag,ah,an,al,aD,af,am,aj,-Lw.name_len,aa,r1]
   refine(Bb G Tq okm (by omega) ⟨2,rgV vs s.name,t1.1,0⟩ hA (by simp) hJ hJ2).mono ?_
   rintro x X1 ⟨rfl,K2,I2,T2,e2⟩
   simp-implicitDefEqProofs[-AV.cells,-AV.isCell,aE,ag,ah,an,al,aD,af,am,aj,-Lw.name_len,aa]
   rw[hrg] at T2
   rw[heq,if_neg o1,if_pos o2]
   exact⟨vs,⟨_,_,_,T2.few (λi hi=>by cases hi)⟩,by rw[List.take_length],Nat.le_refl _,by omega,hrg⟩
  have o2:¬s.op=2:=by simpa using o2
  simp-implicitDefEqProofs[-AV.cells,-AV.isCell,aE,ag,ah,an,al,aD,af,am,aj,-Lw.name_len,r1]
  refine aG (λo3=>?_) (λo3=>?_)
  ·have o3:s.op=3:=by simpa using o3
   simp-implicitDefEqProofs[-AV.cells,-AV.isCell,aE,ag,ah,an,al,aD,af,am,aj,-Lw.name_len,r1,yL]
   refine(Bb G Tq okm (by omega) ⟨13,-1,t1.1,0⟩ hA (by simp) hJ hJ2).mono ?_
   rintro x X1 ⟨rfl,K2,I2,T2,e2⟩
   simp-implicitDefEqProofs[-AV.cells,-AV.isCell,aE,ag,ah,an,al,aD,af,am,aj,-Lw.name_len,aa]
   rw[heq,if_neg o1,if_neg o2,if_pos o3]
   exact⟨vs,⟨_,_,_,T2.few (λi hi=>by cases hi)⟩,by rw[List.take_length],Nat.le_refl _,by omega,hrg⟩
  have o3:¬s.op=3:=by simpa using o3
  simp-implicitDefEqProofs[-AV.cells,-AV.isCell,aE,ag,ah,an,al,aD,af,am,aj,-Lw.name_len,r1]
  refine aG (λo4=>?_) (λo4=>?_)
  ·have o4:s.op=4:=by simpa using o4
   simp-implicitDefEqProofs[-AV.cells,-AV.isCell,aE,ag,ah,an,al,aD,af,am,aj,-Lw.name_len,r1,yL]
   refine(Bb G Tq okm (by omega) ⟨12,-1,t1.1,0⟩ hA (by simp) hJ hJ2).mono ?_
   rintro x X1 ⟨rfl,K2,I2,T2,e2⟩
   simp-implicitDefEqProofs[-AV.cells,-AV.isCell,aE,ag,ah,an,al,aD,af,am,aj,-Lw.name_len,aa]
   rw[heq,if_neg o1,if_neg o2,if_neg o3,if_pos o4]
   exact⟨vs,⟨_,_,_,T2.few (λi hi=>by cases hi)⟩,by rw[List.take_length],Nat.le_refl _,by omega,hrg⟩
  have o4:¬s.op=4:=by simpa using o4
  simp-implicitDefEqProofs[-AV.cells,-AV.isCell,aE,ag,ah,an,al,aD,af,am,aj,-Lw.name_len,r1]
  refine aG (λo7=>?_) (λo7=>?_)
  ·have o7:s.op=7:=by simpa using o7
   obtain⟨q0,qr,hq⟩:=hq
   obtain⟨t,ht⟩:∃t,t=t1.2.bs.length:=⟨_,rfl⟩
   have htb:t<=B+8*aP s.args:=by rw[ht];exact okm.bs
   have ho1:X[oid]?=some (.row 1 ([.p (.int .i64 q0)]::qr.map λn=>[AV.p (.int .i64 n)])):=by rw[hx,pq,hq];rfl
   have hhd:t1.1.headD 0=q0:=by rw[hq];rfl
   simp-implicitDefEqProofs[-AV.cells,-AV.isCell,aE,ag,ah,an,al,aD,af,am,aj,-Lw.name_len,r1,ho1,hsl0]
   refine(jh G To okm (by omega)).mono ?_
   rintro x X2 ⟨rfl,K2,I2,T2,e2⟩
   have o2':=(e2 oid (by simp)).trans ho1
   have r2:=(e2 h.length (by simp)).trans r1
   have ok2:=okm.name 1
   simp-implicitDefEqProofs[-AV.cells,-AV.isCell,aE,ag,ah,an,al,aD,af,am,aj,-Lw.name_len,aa,←ht,o2',hsl0,r2]
   refine(Fa G T2 ok2 3 q0 t rfl).mono ?_
   rintro x X3 ⟨rfl,K3,I3,T3,e3⟩
   simp-implicitDefEqProofs[-AV.cells,-AV.isCell,aE,ag,ah,an,al,aD,af,am,aj,-Lw.name_len,aa]
   rw[heq,if_neg o1,if_neg o2,if_neg o3,if_neg o4,if_neg (by omega),if_pos o7,hhd,←ht]
   exact⟨vs,⟨_,_,_,T3.few (λi hi=>by cases hi)⟩,by rw[List.take_length],Nat.le_refl _,by omega,hrg⟩
  have o7:¬s.op=7:=by simpa using o7
  simp-implicitDefEqProofs[-AV.cells,-AV.isCell,aE,ag,ah,an,al,aD,af,am,aj,-Lw.name_len,r1]
  refine aG (λo5=>?_) (λo5=>?_)
  ·have o5:s.op=5:=by simpa using o5
   obtain⟨q0,qr,hq⟩:=hq
   obtain⟨t,ht⟩:∃t,t=t1.2.bs.length:=⟨_,rfl⟩
   have htb:t<=B+8*aP s.args:=by rw[ht];exact okm.bs
   have ho1:X[oid]?=some (.row 1 ([.p (.int .i64 q0)]::qr.map λn=>[AV.p (.int .i64 n)])):=by rw[hx,pq,hq];rfl
   have hhd:t1.1.headD 0=q0:=by rw[hq];rfl
   simp-implicitDefEqProofs[-AV.cells,-AV.isCell,aE,ag,ah,an,al,aD,af,am,aj,-Lw.name_len,r1]
   refine(jh G To okm (by omega)).mono ?_
   rintro x X2 ⟨rfl,K2,I2,T2,e2⟩
   have r2:=(e2 h.length (by simp)).trans r1
   have ok2:=okm.name 1
   have hl2:(t1.2.name 1).bs.length=t+1:=by rw[Lw.name_len,ht]
   simp-implicitDefEqProofs[-AV.cells,-AV.isCell,aE,ag,ah,an,al,aD,af,am,aj,-Lw.name_len,aa,←ht,r2]
   refine(jh G T2 ok2 (by omega)).mono ?_
   rintro x X3 ⟨rfl,K3,I3,T3,e3⟩
   have r3:=(e3 h.length (by simp)).trans r2
   have ok3:=ok2.name 1
   have hl3:((t1.2.name 1).name 1).bs.length=t+2:=by rw[Lw.name_len,hl2]
   simp-implicitDefEqProofs[-AV.cells,-AV.isCell,aE,ag,ah,an,al,aD,af,am,aj,-Lw.name_len,aa,hl2,r3]
   refine(jh G T3 ok3 (by omega)).mono ?_
   rintro x X4 ⟨rfl,K4,I4,T4,e4⟩
   have r4:=(e4 h.length (by simp)).trans r3
   have ok4:(t1.2.name 3).Ok _:=okm.name 3
   have hn4:((t1.2.name 1).name 1).name 1=t1.2.name 3:=by rw[Lw.name_name,Lw.name_name]
   rw[hn4] at T4
   have o4':=(e4 oid (by simp)).trans ((e3 oid (by simp)).trans ((e2 oid (by simp)).trans ho1))
   simp-implicitDefEqProofs[-AV.cells,-AV.isCell,aE,ag,ah,an,al,aD,af,am,aj,-Lw.name_len,aa,hl3,r4,o4',hsl0]
   refine(Ap G T4 ok4 2 q0 t ((t:Int)+1) t rfl).mono ?_
   rintro x X5 ⟨rfl,K5,I5,T5,e5⟩
   have r5:=(e5 h.length (by simp)).trans r4
   have ok5:=ok4.fin 2 q0 (g:=t) (by rw[Lw.name_len,ht];omega) [(t:Int),(t:Int)+1]
   simp-implicitDefEqProofs[-AV.cells,-AV.isCell,aE,ag,ah,an,al,aD,af,am,aj,-Lw.name_len,aa,r5]
   have h6:=pz G hb T5 (m:=[]) (up:=m::up) ok5 (by omega) (by omega) (by omega) (by rw[hrg];rfl)
   have okb:=dI (faI l0) (-1) s.body [] (m::up) nx _ _ ok5
   obtain⟨y6,hy6⟩:∃y,y=aT (faI l0) (-1) s.body [] (m::up) nx ((t1.2.name 3).fin 2 q0 t [(t:Int),(t:Int)+1]):=⟨_,rfl⟩
   rw[←hy6] at h6 okb
   refine h6.mono ?_
   rintro x X6 ⟨rfl,K6,V6,I6,T6,e6⟩
   obtain⟨ok6,len6,nx6,nxx6⟩:=okb
   simp only[Lw.fin_len,Lw.name_len,←ht] at len6
   have r6:=(e6 h.length (by simp)).trans r5
   simp-implicitDefEqProofs[-AV.cells,-AV.isCell,aE,ag,ah,an,al,aD,af,am,aj,-Lw.name_len,aa,r6]
   refine(pJ G T6 ok6 1 0 ((t:Int)+2) (t+1) (by omega)).mono ?_
   rintro x X7 ⟨rfl,K7,I7,T7,e7⟩
   have r7:=(e7 h.length (by simp)).trans r6
   have ok7:=ok6.fin 1 0 (g:=t+1) (by omega) [(t:Int)+2]
   simp-implicitDefEqProofs[-AV.cells,-AV.isCell,aE,ag,ah,an,al,aD,af,am,aj,-Lw.name_len,aa,r7]
   have h8:=pz G he T7 (m:=[]) (up:=m::up) ok7 (by omega) (by omega) (by omega) (by rw[hrg];rfl)
   have okb:=dI (faI l0) (-1) s.els [] (m::up) y6.2.1 _ _ ok7
   obtain⟨y8,hy8⟩:∃y,y=aT (faI l0) (-1) s.els [] (m::up) y6.2.1 (y6.2.2.fin 1 0 (t+1) [(t:Int)+2]):=⟨_,rfl⟩
   rw[←hy8] at h8 okb
   refine h8.mono ?_
   rintro x X8 ⟨rfl,K8,V8,I8,T8,e8⟩
   obtain⟨ok8,len8,nx8,nxx8⟩:=okb
   simp only[Lw.fin_len] at len8
   have r8:=(e8 h.length (by simp)).trans r7
   simp-implicitDefEqProofs[-AV.cells,-AV.isCell,aE,ag,ah,an,al,aD,af,am,aj,-Lw.name_len,aa,r8]
   refine(pJ G T8 ok8 1 0 ((t:Int)+2) (t+2) (by omega)).mono ?_
   rintro x X9 ⟨rfl,K9,I9,T9,e9⟩
   simp-implicitDefEqProofs[-AV.cells,-AV.isCell,aE,ag,ah,an,al,aD,af,am,aj,-Lw.name_len,aa]
   have hE5:lwS (faI l0) (-1) s m up nx w=(m,y8.2.1,y8.2.2.fin 1 0 (t+2) [(t:Int)+2]):=by
    rw[heq,if_neg o1,if_neg o2,if_neg o3,if_neg o4,if_pos o5]
    simp only[hhd,←ht]
    rw[←hy6,←hy8]
   rw[hE5]
   exact⟨vs,⟨_,_,_,T9.few (λi hi=>by cases hi)⟩,by rw[List.take_length],Nat.le_refl _,by omega,hrg⟩
  have o5:¬s.op=5:=by simpa using o5
  simp-implicitDefEqProofs[-AV.cells,-AV.isCell,aE,ag,ah,an,al,aD,af,am,aj,-Lw.name_len,r1]
  rw[heq,if_neg o1,if_neg o2,if_neg o3,if_neg o4,if_neg o5,if_neg o7]
  exact⟨vs,⟨_,_,_,Tq.few (λi hi=>by cases hi)⟩,by rw[List.take_length],Nat.le_refl _,by omega,hrg⟩
structure SlS where (i:Nat) (X:List AO)
theorem rP(l0:List Fd)(pr:Int)(L:Nat)(b:List Sm)(hs:∀s∈b,StR G l0 pr L s):BZ G l0 pr L b:=by
 intro w h K V I B vs nx m up T hok hB hnx hvl hrg
 have hsl:∀l,smL l= .lst 5 (l.map Sm.cs):=λ_=>rfl
 have hll:=dL b
 have yL0:=T.stb.ls.here
 simp only[lwR] at yL0
 refine AC.go lP ?_
 rcases T.va.form with⟨hVe,hve⟩|⟨vid0,hVe⟩
 ·have hv00:vs.length=0:=by rw[hve];rfl
  rw[hVe] at yL0
  simp-implicitDefEqProofs[dt,yL0,hsl]
  refine aH (λa:SlS=>aC 32 [(5,.p (.int .i64 a.i)),(4,.p (.int .i64 0)),(0,.ptr L 8 0 0),(1,.p (smL b))]) (λa=>a.X)
   (λa=>a.i<=b.length/\∃vs1 K1 V1 I1,RS l0 pr L (L::(vi V++I)) I [] h (aT (faI l0) (-1) (b.take a.i) m up nx w).2.2 (aT (faI l0) (-1) (b.take a.i) m up nx w).2.1 vs1 a.X K1 V1 I1/\vs1.take vs.length=vs/\vs.length<=vs1.length/\vs1.length<=vs.length+a.i/\rgV vs1=scF (-1) ((aT (faI l0) (-1) (b.take a.i) m up nx w).1::up)) (λa=>b.length-a.i) ⟨0,h⟩ ⟨Nat.zero_le _,vs,K,V,I,by rw[List.take_zero,aT];exact T,by rw[List.take_length],Nat.le_refl _,by simp,by rw[List.take_zero,aT];exact hrg⟩ ?_ ?_
  ·exact ab (Nat.le_refl _) (by simp[below,hsl,T.stb.ls.lt])
  rintro⟨i,X⟩ ⟨hi,vs1,K1,V1,I1,T1,p1,p2,p3,p4⟩
  simp only at hi T1 p3 p4
  have hXL:=T1.stb.ls.lt
  simp-implicitDefEqProofs[hsl]
  refine aG (λhc=>?_) (λhc=>?_)
  ·simp at hc
   have hg:=List.getElem?_eq_getElem hc
   have hm:=List.getElem_mem hc
   have htk:=tD (fa:=faI l0) (d:= -1) hc m up nx w
   have hok1:=dI (faI l0) (-1) (b.take i) m up nx w B hok
   have hzt:aM (b.take i)+b[i].sz<=aM b:=by
    have h1:=List.take_append_drop (i+1) b
    have h2:aM b=aM (b.take (i+1))+aM (b.drop (i+1)):=by
     conv=>lhs;rw[←h1]
     rw[ce]
    rw[az hc,ce] at h2
    simp only[aM] at h2
    omega
   have htl:i<=aM (b.take i):=by
    have:=dL (b.take i)
    rw[List.length_take] at this
    omega
   have hst:=hs b[i] hm
   generalize b[i]=s at hg hm htk hzt hst
   have hsc:=s.cs_eq
   generalize aT (faI l0) (-1) (b.take i) m up nx w=cur at*
   obtain⟨mc,nc,wc⟩:=cur
   simp only at htk hok1 T1 p4
   obtain⟨okc,_,_,hnc⟩:=hok1
   have hcall:=hst wc X K1 V1 I1 _ vs1 nc mc up T1.start okc (by omega) (by omega) (by omega) p4
   rw[hsc] at hcall
   simp-implicitDefEqProofs[hg,hsc]
   refine hcall.mono ?_
   rintro r X2 ⟨rfl,vs2,K2,V2,I2,T2,q1,q2,q3,q4⟩
   obtain⟨T3,_⟩:=T1.lift T2
   simp-implicitDefEqProofs[aa]
   refine⟨⟨i+1,X2⟩,⟨by simp only;omega,vs2,⟨K2,V2,I2,by rw[htk];exact T3⟩,?_,by omega,by simp only;omega,by rw[htk];exact q4⟩,by simp only;omega,ab (Nat.le_trans T1.stb.fr.1 T2.stb.fr.1) ?_⟩
   ·rw[←q1,List.take_take,Nat.min_eq_left p2] at p1
    exact p1
   ·simp[below,hsl,show IntKind.i64.wrap ((i:Int)+1)=(i:Int)+1 from ae (by omega) (by omega)]
    exact T3.stb.ls.lt
  ·simp at hc
   have hie:i=b.length:=by omega
   subst hie
   rw[List.take_length] at T1
   have yL:=T1.stb.ls.here
   simp only[lwR] at yL
   have fin:∀V2,VAt (X.set L (lwR l0 pr V2 (aT (faI l0) (-1) b m up nx w).2.1 (aT (faI l0) (-1) b m up nx w).2.2 K1)) V2 vs->(∀i∈vi V2,i∈vi V1)->RS l0 pr L (L::(vi V++I)) I [] h (aT (faI l0) (-1) b m up nx w).2.2 (aT (faI l0) (-1) b m up nx w).2.1 vs (X.set L (lwR l0 pr V2 (aT (faI l0) (-1) b m up nx w).2.1 (aT (faI l0) (-1) b m up nx w).2.2 K1)) K1 V2 I1:=λV2 hv2 hs2=>(T1.alt (by simp) (List.getElem?_set_self T1.stb.ls.lt) (λi hi hn _=>List.getElem?_set_ne (Ne.symm hn)) hv2 (λi hi=> .inl (hs2 i hi))).1
   have va:=T1.va
   have vd:=T1.at.2
   cases va with
   |nil=>
    have hv0:vs=[]:=List.length_eq_zero_iff.1 (by simpa using p2)
    have hv1:vs.length=0:=by rw[hv0];rfl
    simp-implicitDefEqProofs[yL,hv1]
    exact⟨K1,.nils,I1,by have:=fin .nils (by rw[hv0];exact .nil) (λi hi=>hi);simpa only[lwR] using this⟩
   |sl vid rows _ h1 h2=>
    have hvl2:vs1.length<=rows.length:=by
     have:=congrArg List.length h2
     rw[List.length_take,List.length_map] at this
     omega
    have hne:vid≠L:=λe=>(vd vid (by simp[vi])).2 (by rw[e];simp)
    simp-implicitDefEqProofs[yL,h1,p2]
    refine⟨K1,.sl vid 3 0 0,I1,?_⟩
    have:=fin (.sl vid 3 0 vs.length) (.sl vid rows vs (by rw[List.getElem?_set_ne (Ne.symm hne)];exact h1) (by
     have e:=congrArg (List.take vs.length) h2
     rw[List.take_take,Nat.min_eq_left p2,←List.map_take,p1] at e
     exact e)) (λi hi=>by simpa[vi] using hi)
    rw[hv00] at this
    simpa only[lwR] using this
 ·rw[hVe] at yL0
  simp-implicitDefEqProofs[dt,yL0,hsl]
  refine aH (λa:SlS=>aC 32 [(5,.p (.int .i64 a.i)),(4,.p (.int .i64 vs.length)),(0,.ptr L 8 0 0),(1,.p (smL b))]) (λa=>a.X)
   (λa=>a.i<=b.length/\∃vs1 K1 V1 I1,RS l0 pr L (L::(vi V++I)) I [] h (aT (faI l0) (-1) (b.take a.i) m up nx w).2.2 (aT (faI l0) (-1) (b.take a.i) m up nx w).2.1 vs1 a.X K1 V1 I1/\vs1.take vs.length=vs/\vs.length<=vs1.length/\vs1.length<=vs.length+a.i/\rgV vs1=scF (-1) ((aT (faI l0) (-1) (b.take a.i) m up nx w).1::up)) (λa=>b.length-a.i) ⟨0,h⟩ ⟨Nat.zero_le _,vs,K,V,I,by rw[List.take_zero,aT];exact T,by rw[List.take_length],Nat.le_refl _,by simp,by rw[List.take_zero,aT];exact hrg⟩ ?_ ?_
  ·exact ab (Nat.le_refl _) (by simp[below,hsl,T.stb.ls.lt])
  rintro⟨i,X⟩ ⟨hi,vs1,K1,V1,I1,T1,p1,p2,p3,p4⟩
  simp only at hi T1 p3 p4
  have hXL:=T1.stb.ls.lt
  simp-implicitDefEqProofs[hsl]
  refine aG (λhc=>?_) (λhc=>?_)
  ·simp at hc
   have hg:=List.getElem?_eq_getElem hc
   have hm:=List.getElem_mem hc
   have htk:=tD (fa:=faI l0) (d:= -1) hc m up nx w
   have hok1:=dI (faI l0) (-1) (b.take i) m up nx w B hok
   have hzt:aM (b.take i)+b[i].sz<=aM b:=by
    have h1:=List.take_append_drop (i+1) b
    have h2:aM b=aM (b.take (i+1))+aM (b.drop (i+1)):=by
     conv=>lhs;rw[←h1]
     rw[ce]
    rw[az hc,ce] at h2
    simp only[aM] at h2
    omega
   have htl:i<=aM (b.take i):=by
    have:=dL (b.take i)
    rw[List.length_take] at this
    omega
   have hst:=hs b[i] hm
   generalize b[i]=s at hg hm htk hzt hst
   have hsc:=s.cs_eq
   generalize aT (faI l0) (-1) (b.take i) m up nx w=cur at*
   obtain⟨mc,nc,wc⟩:=cur
   simp only at htk hok1 T1 p4
   obtain⟨okc,_,_,hnc⟩:=hok1
   have hcall:=hst wc X K1 V1 I1 _ vs1 nc mc up T1.start okc (by omega) (by omega) (by omega) p4
   rw[hsc] at hcall
   simp-implicitDefEqProofs[hg,hsc]
   refine hcall.mono ?_
   rintro r X2 ⟨rfl,vs2,K2,V2,I2,T2,q1,q2,q3,q4⟩
   obtain⟨T3,_⟩:=T1.lift T2
   simp-implicitDefEqProofs[aa]
   refine⟨⟨i+1,X2⟩,⟨by simp only;omega,vs2,⟨K2,V2,I2,by rw[htk];exact T3⟩,?_,by omega,by simp only;omega,by rw[htk];exact q4⟩,by simp only;omega,ab (Nat.le_trans T1.stb.fr.1 T2.stb.fr.1) ?_⟩
   ·rw[←q1,List.take_take,Nat.min_eq_left p2] at p1
    exact p1
   ·simp[below,hsl,show IntKind.i64.wrap ((i:Int)+1)=(i:Int)+1 from ae (by omega) (by omega)]
    exact T3.stb.ls.lt
  ·simp at hc
   have hie:i=b.length:=by omega
   subst hie
   rw[List.take_length] at T1
   have yL:=T1.stb.ls.here
   simp only[lwR] at yL
   have fin:∀V2,VAt (X.set L (lwR l0 pr V2 (aT (faI l0) (-1) b m up nx w).2.1 (aT (faI l0) (-1) b m up nx w).2.2 K1)) V2 vs->(∀i∈vi V2,i∈vi V1)->RS l0 pr L (L::(vi V++I)) I [] h (aT (faI l0) (-1) b m up nx w).2.2 (aT (faI l0) (-1) b m up nx w).2.1 vs (X.set L (lwR l0 pr V2 (aT (faI l0) (-1) b m up nx w).2.1 (aT (faI l0) (-1) b m up nx w).2.2 K1)) K1 V2 I1:=λV2 hv2 hs2=>(T1.alt (by simp) (List.getElem?_set_self T1.stb.ls.lt) (λi hi hn _=>List.getElem?_set_ne (Ne.symm hn)) hv2 (λi hi=> .inl (hs2 i hi))).1
   have va:=T1.va
   have vd:=T1.at.2
   cases va with
   |nil=>
    have hv0:vs=[]:=List.length_eq_zero_iff.1 (by simpa using p2)
    have hv1:vs.length=0:=by rw[hv0];rfl
    simp-implicitDefEqProofs[yL,hv1]
    exact⟨K1,.nils,I1,by have:=fin .nils (by rw[hv0];exact .nil) (λi hi=>hi);simpa only[lwR] using this⟩
   |sl vid rows _ h1 h2=>
    have hvl2:vs1.length<=rows.length:=by
     have:=congrArg List.length h2
     rw[List.length_take,List.length_map] at this
     omega
    have hne:vid≠L:=λe=>(vd vid (by simp[vi])).2 (by rw[e];simp)
    simp-implicitDefEqProofs[yL,h1,p2]
    refine⟨K1,.sl vid 3 0 vs.length,I1,?_⟩
    have:=fin (.sl vid 3 0 vs.length) (.sl vid rows vs (by rw[List.getElem?_set_ne (Ne.symm hne)];exact h1) (by
     have e:=congrArg (List.take vs.length) h2
     rw[List.take_take,Nat.min_eq_left p2,←List.map_take,p1] at e
     exact e)) (λi hi=>by simpa[vi] using hi)
    simpa only[lwR] using this
theorem DM(l0:List Fd)(hl0:l0.length<=1073741824)(pr:Int)(L:Nat):∀(d:Nat) (b:List Sm),(∀s∈b,aO d s=true)->BZ G l0 pr L b:=by
 intro d
 induction d with
 |zero=>
  intro b hb
  refine rP G l0 pr L b λs hs=>?_
  have:=hb s hs
  cases this
 |succ d ih=>
  intro b hb
  refine rP G l0 pr L b λs hs=>?_
  have hf:=hb s hs
  exact Fb G l0 hl0 pr L s (Hq hf) (CV hf) (ih s.body (Cr hf)) (ih s.els (Gl hf))
end
section
theorem zd(nf:Bool)(id n:Nat):(vaC nf id n).isCell=true:=by cases nf<;>rfl
theorem BB(nf:Bool)(id n:Nat):(vaC nf id n).cells=[vaC nf id n]:=by cases nf<;>rfl
attribute [simp ↓] zd BB
variable (G:aB)
end
section
def w0(fns:List Fd)(k:Nat)(f:Fd):WS:=⟨[],0,if sF fns f.name=some k then 0 else 2⟩
variable (G:aB)
end
section
def AX(b0:AO)(fns:List Fd)(k:Nat)(up:List GS)(gap:List AO)(c:Int):List AO:=b0::cO fns k c::(scH up++gap)
variable (G:aB)
end
section
theorem Fd.cs_eq'(f:Fd):f.cs=[.str f.name,bB f.params,smL f.body]:=rfl
variable (G:aB)
end
section
theorem AW:∀(a b:List (List UInt8)) (m:Scp) (i:Nat),psS (a++b) m i=psS b (psS a m i) (i+a.length)
 |[],b,m,i=>by simp[psS]
 |p::r,b,m,i=>by rw[List.cons_append,psS,psS,AW r];simp;congr 1;omega
theorem DN{l:List (List UInt8)}{i:Nat}(h:i<l.length)(m:Scp):psS (l.take (i+1)) m 0=mf (psS (l.take i) m 0) l[i] i:=by
 rw[az h,AW,psS,psS,List.length_take,Nat.min_eq_left (by omega),Nat.zero_add]
variable (G:aB)
end
section
def oV(l:List Cd):List (List AV):=l.map λc=>c.cs.map .p
theorem Cd.cs_eq'(c:Cd):c.cs=[.int .i64 c.params,.int .i64 c.regs,bkL c.blocks]:=rfl
variable (G:aB)
end
section
variable (G:aB)
theorem tv(b:Bool):VF Tryz.prog G fI [.p (.bool b)] (.p (.int .i64 (if b then 1 else 0))):=by
 refine AC.go rH ?_
 cases b<;>simp-implicitDefEqProofs[jY]
end
end Go.Proofs.YtdfplkcigiblcaaGreat
