/-
  Contracts and lemmas that the card needs, part 10.
-/
import Derived.Test.YtokiapglmedipaaGreatDoorCj9
namespace Go.Proofs.YtokiapglmedipaaGreatDoor
open Go Go.Aw
set_option maxRecDepth 100000
set_option maxHeartbeats 4000000
section
theorem Cc:AK.whole mg=FK.ak lQ:=rfl
def iB(x:Sm):Sm:= .mk x.op x.name x.args (if x.op=5/\lH x 0=true then[] else x.body) (if x.op=5/\lH x 0=false/\Cn x=true then[] else x.els)
def eG:List Sm->List Sm
 |[]=>[]
 |x::r=>if jr x=true then eG r else iB x::(if x.op=7 then[] else eG r)
def inS(H:List Sm->List Sm)(x:Sm):Sm:= .mk x.op x.name x.args (H x.body) (H x.els)
theorem MV:∀l:List Sm,eG (l.map (inS aK))=aK l
 |[]=>by rw[aK];rfl
 |x::r=>by
  have hz:jr (inS aK x)=jr x:=rfl
  have ha:iB (inS aK x)=dq x:=by
   obtain⟨o,s,a,bd,el⟩:=x;rw[dq];rfl
  rw[abd,eG,dV,MV r,hz,ha];rfl
theorem EM:∀{a b:List Sm},nb7 a->eG (a++b)=eG a++eG b
 |[],b,_=>rfl
 |x::r,b,h=>by
  have h2:=EM (a:=r) (b:=b) (λy hy=>h y (by simp[hy]));rw[abr,eG,eG,if_neg (h x (by simp)),if_neg (h x (by simp)),h2];split<;>rfl
theorem JK:∀l:List Sm,(eG l).length<=l.length
 |[]=>aa3 _
 |x::r=>by
  have h:=JK r;rw[eG];split
  ·simp;omega
  ·split
   ·simp
   ·simp;exact h
variable (G:au)
theorem Jd{o0:AO}(ho0:Ξ 0 o0)(l:List Sm)(hf:∀x∈l,x.args≠[])(hz:l.length<=1073741824):AC Tryz.prog G bj [.p (Θ l)] [o0] λx h=>∃id,1<=id/\x= .ret (slE id 5 (smR (eG l)))/\h[0]?=some o0/\h[id]?=some (bm 5 (smR (eG l))):=by
 have A8:∀l,Θ l= .lst 5 (l.map Sm.cs):=λ_=>rfl
 have A3:∀l,Φ l= .lst 4 (l.map Ex.cs):=λ_=>rfl
 ·show AC Tryz.prog G bj [.p (Θ l)] [o0] λx h=>∃id,1<=id/\x= .ret (slE id 5 (smR (eG l)))/\h[0]?=some o0/\h[id]?=some (bm 5 (smR (eG l)))
  refine AC.goK Cx Cc ?_;simp-implicitDefEqProofs[mg,lQ,A8]
  refine aJ (λi:Nat=>ah 57 [(3,slE 1 5 (smR (eG (l.take i)))),(6,.p (Θ l)),(7,.p (.int .i64 l.length)),(8,.p (.int .i64 i))]) (λi=>[o0,bm 5 (smR (eG (l.take i)))])
   (λi=>i<=l.length/\nb7 (l.take i)) (λi=>l.length-i) 0 ⟨by simp,λx hx=>by simp at hx⟩ ?_ ?_
  ·have e1:slE 1 5 (smR (eG (l.take 0)))= .nils:=rfl;have e2:bm 5 (smR (eG (l.take 0)))= .dead:=rfl;rw[e1,e2];exact iM (h:=[o0]) (by simp) (by simp) (by simpa using bG ho0) (by simp[Ω,A8])
  rintro i ⟨hi,U5⟩;have J6:(eG (l.take i)).length<=i:=by have:=JK (l.take i);rw[abg] at this;omega
  have G3:(smR (eG (l.take i))).length=(eG (l.take i)).length:=by rw[dj]
  simp-implicitDefEqProofs[A8];refine aU (λh=>?_) (λh=>?_)
  ·simp at h;have hg:=Γ h;have F7:=l[i].cs_eq;have hfx:=hf l[i] (aa2 h);have I6:=al h;have hdr:=abC h;have R8:=abq i l;generalize hgs:l[i]=s at hg F7 hfx I6 hdr
   obtain⟨a,r,ha⟩:∃a r,s.args=a::r:=by
    match hx:s.args,hfx with
    |a::r,_=>exact⟨a,r,rfl⟩
   have A5:=a.cs_eq;have HI:=Ay G a 0;rw[A5] at HI;simp only[abd,abM,A3] at HI;have hNa:∀n,lH s n=isN a n:=λn=>by rw[lH,ha]
   have hCa:Cn s=decide (a.op=1):=by rw[Cn,ha]
   have Z1:jr s=(decide (s.op=6)&&isN a 0):=by rw[jr,hNa]
   have eall:eG l=eG (l.take i)++eG (s::l.drop (i+1)):=by
    conv=>lhs;rw[←R8,hdr]
    exact EM U5
   have enxt:eG (l.take (i+1))=eG (l.take i)++eG [s]:=by rw[I6];exact EM U5
   generalize eG (l.take i)=out at G3 J6 eall enxt⊢;simp-implicitDefEqProofs[hg,F7,A3,ha,A5];have enil:Θ []= .lst 5 []:=rfl
   refine rx (λ_:Unit=>ah 57 [(3,slE 1 5 (smR out)),(5,.ptr 2 5 0 0),(6,.p (Θ l)),(7,.p (.int .i64 l.length)),(8,.p (.int .i64 i))])
    (λ_=>[o0,bm 5 (smR out),.row 5 [[.p (.int .i64 s.op),.p (.str s.name),.p (.lst 4 ([.int .i64 a.op,.int .i64 a.n,.str a.name,.lst 4 (a.kids.map Ex.cs)]::r.map Ex.cs)),.p (Θ (iB s).body),.p (Θ (iB s).els)]]]) (λ_=>jr s=false) ?_ ?_
   ·have hb:(iB s).body=if s.op=5/\isN a 0=true then[] else s.body:=by rw[iB,←hNa];rfl
    have U0:(iB s).els=if s.op=5/\isN a 0=false/\decide (a.op=1)=true then[] else s.els:=by rw[iB,←hNa,←hCa];rfl
    by_cases o6:s.op=6
    ·have o5:¬s.op=5:=by omega
     rw[hb,U0,if_neg (by omega),if_neg (by omega)];simp-implicitDefEqProofs[o6];refine HI.use ?_
     by_cases h0:isN a 0=true
     ·have ez:jr s=true:=by rw[Z1,h0,o6];rfl
      have e1:eG [s]=[]:=by rw[eG,if_pos ez];rfl
      rw[e1,abF] at enxt;simp-implicitDefEqProofs[h0];refine⟨i+1,⟨by omega,?_⟩,by omega,?_⟩
      ·rw[I6];intro x hx;rcases aaZ.1 hx with hx|hx
       ·exact U5 x hx
       ·rw[aa0.1 hx,o6];omega
      ·rw[enxt];exact bB [0,1] (by simp) (by decide) (by decide) (bt rfl ho0 (zW rfl (aL out) aP)) (by simp[Ω,ren,A8,w1 (i:=i) (by omega)])
     ·have h0:isN a 0=false:=by simpa using h0
      simp-implicitDefEqProofs[h0,Z1];exact bB [0,1,2] (by simp) (by decide) (by decide) (bt rfl ho0 (zW rfl (aL out) (aw rfl (by simp[Ω]) aP))) (by simp[Ω,ren,A8])
    ·have hz0:jr s=false:=by rw[Z1];simp[o6]
     by_cases o5:s.op=5
     ·rw[hb,U0]
      by_cases h0:isN a 0=true
      ·simp-implicitDefEqProofs[o5,hz0];refine HI.use ?_;simp-implicitDefEqProofs[h0];refine cI 3 (by omega) (by simp) rfl (.same (bG ho0) (.same (bG (IV (aL out))) (.one (.keep (by simp[Ω]) (.keep (by simp[Ω]) (.keep (by simp[Ω]) (.one (.nils 5) (.keep (by simp[Ω]) .nil))))) (.nil _)))) ?_;exact⟨.keep (by simp[Ω]) .nil,.keep (by simp[Ω]) .nil,.keep (by simp[Ω,A8]) .nil,.keep (by simp[Ω]) .nil,.keep (by simp[Ω]) .nil,trivial⟩
      ·have h0:isN a 0=false:=by simpa using h0
       simp-implicitDefEqProofs[o5,hz0];refine HI.use ?_
       by_cases a1:a.op=1
       ·simp-implicitDefEqProofs[h0,a1];refine cI 3 (by omega) (by simp) rfl (.same (bG ho0) (.same (bG (IV (aL out))) (.one (.keep (by simp[Ω]) (.keep (by simp[Ω]) (.keep (by simp[Ω]) (.keep (by simp[Ω]) (.one (.nils 5) .nil))))) (.nil _)))) ?_;exact⟨.keep (by simp[Ω]) .nil,.keep (by simp[Ω]) .nil,.keep (by simp[Ω,A8]) .nil,.keep (by simp[Ω]) .nil,.keep (by simp[Ω]) .nil,trivial⟩
       ·simp-implicitDefEqProofs[h0,a1];exact bB [0,1,2] (by simp) (by decide) (by decide) (bt rfl ho0 (zW rfl (aL out) (aw rfl (by simp[Ω]) aP))) (by simp[Ω,ren,A8])
     ·rw[hb,U0,if_neg (by omega),if_neg (by omega)];simp-implicitDefEqProofs[o6,o5,hz0];exact bB [0,1,2] (by simp) (by decide) (by decide) (bt rfl ho0 (zW rfl (aL out) (aw rfl (by simp[Ω]) aP))) (by simp[Ω,ren,A8])
   intro _ hzf;simp-implicitDefEqProofs[G3];refine⟨⟨by omega,by omega⟩,?_⟩;have htk2:List.take out.length (smR out)=smR out:=aaX (by omega)
   have h1:smR [iB s]=[[.p (.int .i64 s.op),.p (.str s.name),.p (.lst 4 ([.int .i64 a.op,.int .i64 a.n,.str a.name,.lst 4 (a.kids.map Ex.cs)]::r.map Ex.cs)),.p (Θ (iB s).body),.p (Θ (iB s).els)]]:=by
    have e3:Φ s.args= .lst 4 ([.int .i64 a.op,.int .i64 a.n,.str a.name,.lst 4 (a.kids.map Ex.cs)]::r.map Ex.cs):=by rw[ha,A3,abd,A5,A3]
    have e4:(iB s).cs=[.int .i64 s.op,.str s.name,Φ s.args,Θ (iB s).body,Θ (iB s).els]:=by rw[Sm.cs_eq];rfl
    rw[smR,abD,e4,e3];rfl
   have h2:smR out++[[.p (.int .i64 s.op),.p (.str s.name),.p (.lst 4 ([.int .i64 a.op,.int .i64 a.n,.str a.name,.lst 4 (a.kids.map Ex.cs)]::r.map Ex.cs)),.p (Θ (iB s).body),.p (Θ (iB s).els)]]=smR (out++[iB s]):=by rw[rj,h1]
   have B8:smR (out++[iB s])≠[]:=by rw[rj];simp[smR]
   have e2:(smR (out++[iB s])).length=out.length+1:=by rw[dj];simp
   try rw[htk2]
   rw[h2];refine aU (λh7=>?_) (λh7=>?_)
   ·simp at h7;have e1:eG l=out++[iB s]:=by rw[eall,eG,if_neg (by rw[hzf];simp),if_pos h7]
    have e3:out.length+1=(eG l).length:=by rw[e1];simp
    simp-implicitDefEqProofs[];rw[←e1] at B8⊢;refine⟨4,by omega,?_,by rw[eb B8];rfl⟩;rw[dt B8,dj,e3]
   ·simp at h7;have e1:eG [s]=[iB s]:=by rw[eG,if_neg (by rw[hzf];simp),if_neg h7];rfl
    rw[e1] at enxt;simp-implicitDefEqProofs[];refine⟨i+1,⟨by omega,?_⟩,by omega,?_⟩
    ·rw[I6];intro x hx;rcases aaZ.1 hx with hx|hx
     ·exact U5 x hx
     ·rw[aa0.1 hx];exact h7
    ·rw[enxt,dt B8,eb B8,e2];exact bB [0,4] (by simp) (by decide) (by decide) (bt rfl ho0 (aw rfl (aL _) aP)) (by simp[Ω,ren,A8,w1 (i:=i) (by omega)])
  ·simp at h;have E3:i=l.length:=by omega
   subst E3;rw[abp];simp-implicitDefEqProofs[];exact⟨1,by omega,rfl,rfl⟩
theorem Mn{o0:AO}(ho0:Ξ 0 o0)(l:List Sm)(hf:∀x∈l,x.args≠[])(hz:l.length<=1073741824):AC Tryz.prog G bj [.p (Θ l)] [o0] λx h=>x= .ret (.p (Θ (eG l)))/\h=[o0]:=by
 refine(Jd G ho0 l hf hz).frz 1 (by simp) (λt v h ⟨_,_,e,_⟩=>by cases e) ?_;rintro v h ⟨id,A7,e,h0,h1⟩;cases e
 match h,h0 with
 |o::r,h0=>
  simp at h0;subst h0
  have ht:(tail 1 (o::r))[id]?=some (bm 5 (((eG l).map Sm.cs).map (·.map .p))):=by
   have hh:smR (eG l)=((eG l).map Sm.cs).map (·.map .p):=by simp[smR]
   rw[←hh,←h1];obtain⟨k,rfl⟩:∃k,id=k+1:=⟨id-1,by omega⟩;rfl
  have hv:=Bl ht (λx hx=>by obtain⟨b,_,rfl⟩:=abb.1 hx;simp);have hh:smR (eG l)=((eG l).map Sm.cs).map (·.map .p):=by simp[smR]
  refine⟨.p (Θ (eG l)),[o],by simp,rfl,.one ?_ .nil,.same (bG ho0) (.nil _),rfl,rfl⟩;rw[hh];exact hv
end
section
def rR(x:Sm):Sm:= .mk x.op x.name (aN x.args) x.body x.els
theorem PU(x:Sm):(rR x).cs=[.int .i64 x.op,.str x.name,Φ (aN x.args),Θ x.body,Θ x.els]:=by rw[Sm.cs_eq];rfl
variable (G:au)
theorem Ob(hK:G dc=some cU)(hS:G bv=some [PV.tbl opK opV])(l:List Sm)(hf:∀x∈l,∀a∈x.args,iG a=true)(hz:aq l<=1073741824):
 AC Tryz.prog G aW [.sl 0 5 0 l.length] [.row 5 (smR l)] λx h=>x= .ret (.sl 0 5 0 l.length)/\h=[.row 5 (smR (l.map rR))]:=by
 have E7:=bF l;have A3:∀l,Φ l= .lst 4 (l.map Ex.cs):=λ_=>rfl
 let L:Nat->List Sm:=λi=>(l.take i).map rR++l.drop i
 have hLl:∀i,i<=l.length->(L i).length=l.length:=λi hi=>by simp[L];omega
 have hLg:∀i,i<l.length->(L i)[i]?=l[i]?:=λi hi=>by
  have:((l.take i).map rR).length=i:=by simp;omega
  rw[aa5 (by omega),this,aca,abK,acq]
 have hLs:∀i f,l[i]?=some f->(L i).set i (rR f)=L (i+1):=λi f hi=>by
  have F3:=(Δ.1 hi).1;have A0:((l.take i).map rR).length=i:=by simp;omega
  show((l.take i).map rR++l.drop i).set i (rR f)=(l.take (i+1)).map rR++l.drop (i+1);rw[acg _ _ (by omega),A0,aca,abC F3,acF,al F3,abT,abn];have:l[i]=f:=by rw[Γ F3] at hi;exact Option.some.inj hi
  rw[this];rfl
 have hL0:L 0=l:=by simp[L]
 have hLe:L l.length=l.map rR:=by
  show(l.take l.length).map rR++l.drop l.length=_;rw[abp,acY,abF]
 generalize hLL:L=L2 at hLl hLg hLs hL0 hLe;refine AC.go lC ?_;simp-implicitDefEqProofs[gx];refine aJ (λi:Nat=>ah 21 [(0,.sl 0 5 0 l.length),(5,.p (.int .i64 l.length)),(6,.p (.int .i64 i))]) (λi=>[.row 5 (smR (L2 i))]) (λi=>i<=l.length) (λi=>l.length-i) 0 (by simp) ?_ ?_
 ·rw[hL0];exact bB [0] (by simp) (by decide) (by decide) (aw rfl (aL l) aP) (by simp[Ω,ren])
 intro i hi;have M4:=dj (L2 i);rw[hLl i hi] at M4;simp-implicitDefEqProofs[];refine aU (λh=>?_) (λh=>?_)
 ·simp at h;have hg:=Γ h;have hm:=aa2 h;have F7:=l[i].cs_eq
  have R7:(smR (L2 i))[i]?=some [.p (.int .i64 l[i].op),.p (.str l[i].name),.p (Φ l[i].args),.p (Θ l[i].body),.p (Θ l[i].els)]:=by rw[smR,aa8,hLg i h,hg,acB,F7];rfl
  have I8:=hLs i l[i] hg;have K4:=ce hm;have hfb:=hf l[i] hm;generalize l[i]=s at hg hm R7 I8 K4 hfb F7;have D0:=s.sz_eq;have X4:=bg s.args;have C7:∀o∈[AO.row 5 (smR (L2 i))],Ξ [AO.row 5 (smR (L2 i))].length o:=ag (bG (aL _)) dZ
  have HM:=tw G (My js [.row 5 (smR (L2 i))] C7) (λ(st:Unit) x=>(dx x,st)) (λ_ _=>True) s.args (by omega) (by show 0<1;omega)
   (λj st hj _=>⟨trivial,by
     have hk:=aa2 hj;have h1:=hfb _ hk;have h2:=aQ hk;rw[iG,aa1,decide_eq_true_eq] at h1;exact(Vy G hK hS 6 s.args[j] h1.1 (by omega) h1.2 (by omega)).ac (by simp[Ω]) (by simp[Ω]) _⟩) () trivial
  rw[gL,←dg] at HM
  have hst2:(smR (L2 i)).set i [.p (.int .i64 s.op),.p (.str s.name),.p (Φ (aN s.args)),.p (Θ s.body),.p (Θ s.els)]=smR (L2 (i+1)):=by rw[←I8,smR,smR,acj,PU];rfl
  simp-implicitDefEqProofs[M4,R7];refine⟨h,?_⟩;refine HM.mono ?_;rintro r h' ⟨rfl,rfl⟩;simp-implicitDefEqProofs[aa,My,M4,R7,hst2];refine⟨h,i+1,by omega,by omega,bB [0] (by simp) (by decide) (by decide) (aw rfl (aL _) aP) (by simp[Ω,ren,w1 (i:=i) (by omega)])⟩
 ·simp at h;have E3:i=l.length:=by omega
  subst E3;rw[hLe];simp-implicitDefEqProofs[]
theorem LK:AC Tryz.prog G aW [.nils] [] λx h=>x= .ret .nils:=by
 refine AC.go lC ?_;simp-implicitDefEqProofs[gx];refine aJ (λ_:Unit=>ah 21 [(0,.nils),(5,.p (.int .i64 0)),(6,.p (.int .i64 0))]) (λ_=>[]) (λ_=>True) (λ_=>0) () trivial ?_ ?_
 ·exact ab (by simp) (by simp) (by simp[Ω])
 intro _ _;simp-implicitDefEqProofs[]
end
section
variable (G:au)
theorem Ig:∀(N:Nat) (e:Ex),e.sz<=N->e.sz<=1073741824->VF Tryz.prog G cQ [.agg (e.cs.map .p)] (.agg (e.cs.map .p)):=by
 intro N
 induction N with
 |zero=>intro e h;have:=e.sz_eq;omega
 |succ N ih=>
  intro e he hz;have hc:=e.cs_eq;have hzz:=e.sz_eq;have A0:=bg e.kids;refine AC.go Bg ?_;simp-implicitDefEqProofs[pz,hc]
  have HM:=tw G (My cQ [.row 4 [[.p (.int .i64 e.op),.p (.int .i64 e.n),.p (.str e.name),.p (Φ e.kids)]],.row 4 [[.p (.int .i64 0),.p (.int .i64 0),.p (.str []),.nils]]] (by simp[Ξ,Ω])) (λ(st:Unit) x=>(x,st)) (λ_ _=>True) e.kids (by omega) (by show 0<2;omega)
   (λi st hi _=>⟨trivial,by
     have h2:=aQ (aa2 hi);exact(ih e.kids[i] (by omega) (by omega)).ac (by simp[Ω]) (by simp[Ω]) _⟩) () trivial
  rw[show(λ(st:Unit) (x:Ex)=>(x,st))=(λ(st:Unit) x=>(id x,st)) from rfl,gL,adn] at HM;refine HM.mono ?_;rintro r h ⟨rfl,rfl⟩;simp-implicitDefEqProofs[aa,My]
def cH(l:List Fd)(B:AV):List AO:=[.row 1 [[.p (fdL l)]],.row 1 [[B]],.row 1 [[.nils]],.row 1 [[.fn (.func aI) [.ptr 1 1 0 0,.ptr 3 1 0 0]]]]
theorem SE(l:List Fd){B:AV}(hB:Ω 0 B){m:Nat}(hm:4<=m):∀o∈cH l B,Ξ m o:=by
 have hb:=aR (abN m) [B] ⟨hB,trivial⟩;refine ag (by simp[Ξ,Ω]) (ag (by intro e he;rw[aa0.1 he];exact hb) (ag (by simp[Ξ,Ω]) (ag ?_ dZ)));intro e he;rw[aa0.1 he];simp only[aj,Ω];exact⟨⟨by omega,by omega,trivial⟩,trivial⟩
def Pe(l:List Fd)(B:AV)(hB:Ω 0 B)(F:FuncId)(caps:List AV)(hc:aj 4 caps):Vis Unit where
 I:=λ_=>cH l B
 n:=4
 F:=F
 caps:=caps
 len:=λ_=>rfl
 ok:=λ_=>SE l hB (aa3 _)
 capsOk:=hc
def rO(l0:List Fd)(B:AV)(H:List Sm->List Sm)(l:List Sm):Prop:=AC Tryz.prog G aI [.p (Θ l),.ptr 1 1 0 0,.ptr 3 1 0 0] (cH l0 B) λx h=>x= .ret (.p (Θ (H l)))/\h=cH l0 B
theorem BZ(l0:List Fd){B:AV}(hB:Ω 0 B)(H:List Sm->List Sm)(s:Sm)(hz:s.sz<=1073741824)(hb:rO G l0 B H s.body)(he:rO G l0 B H s.els):
 AC Tryz.prog G bZ [.agg (s.cs.map .p),.ptr 3 1 0 0] (cH l0 B) λx h=>x= .ret (.agg ((inS H s).cs.map .p))/\h=cH l0 B:=by
 have E6:=s.cs_eq;have hzz:=s.sz_eq;have A0:=bg s.args;have V2:(inS H s).cs=[.int .i64 s.op,.str s.name,Φ s.args,Θ (H s.body),Θ (H s.els)]:=by rw[Sm.cs_eq];rfl
 let V:=Pe l0 B hB aI [] trivial
 refine V.trim G (st:=()) (st':=()) (AC.go yL ?_) (by rw[V2];simp[Ω]);have hI:V.I ()=cH l0 B:=rfl;have H6:(cH l0 B).length=4:=rfl;have M2:∀r:List AO,(cH l0 B++r)[3]?=some (.row 1 [[.fn (.func aI) [.ptr 1 1 0 0,.ptr 3 1 0 0]]]):=λr=>rfl
 have Q0:∀h:3<(cH l0 B).length,(cH l0 B)[3]= .row 1 [[.fn (.func aI) [.ptr 1 1 0 0,.ptr 3 1 0 0]]]:=λ_=>rfl
 have hVp:∀(l:List Sm),rO G l0 B H l->∀rest,AC Tryz.prog G aI [.p (Θ l),.ptr 1 1 0 0,.ptr 3 1 0 0] (cH l0 B++rest) λx h=>x= .ret (.p (Θ (H l)))/\h=cH l0 B++rest:=λl w rest=>
  V.pre G (st:=()) (st':=()) w rest ⟨by simp[Ω],by simp only[Ω];show 1<4;omega,by simp only[Ω];show 3<4;omega,trivial⟩
 have hCl:∀rest,(∀o∈rest,Ξ 0 o)->AC Tryz.prog G bc [.p (Φ s.args),.fn (.func cQ) []] (cH l0 B++rest) λx h=>x= .ret (.p (Φ s.args))/\h=cH l0 B++rest:=by
  intro rest hr
  have C7:∀o∈cH l0 B++rest,Ξ (cH l0 B++rest).length o:=by
   intro o ho;rcases aaZ.1 ho with h|h
   ·exact SE l0 hB (by rw[aa9,H6];omega) o h
   ·exact bG (hr o h)
  have HM:=tw G (My cQ (cH l0 B++rest) C7) (λ(st:Unit) x=>(id x,st)) (λ_ _=>True) s.args (by omega) (by show 0<(cH l0 B++rest).length;rw[aa9,H6];omega)
   (λi st hi _=>⟨trivial,by
     have h2:=aQ (aa2 hi);exact(Ig G _ s.args[i] (aa3 _) (by omega)).ac (by simp[Ω]) (by simp[Ω]) _⟩) () trivial
  rw[gL,adn] at HM;exact HM
 rw[hI];generalize hh:cH l0 B=C at*
 rw[V2];simp-implicitDefEqProofs[nO,E6,H6,Q0];refine(hCl _ (by simp[Ξ])).mono ?_;rintro r h ⟨rfl,rfl⟩;simp-implicitDefEqProofs[aa,H6,Q0];refine(hVp _ hb _).mono ?_;rintro r h ⟨rfl,rfl⟩;simp-implicitDefEqProofs[aa,H6,Q0];refine(hVp _ he _).mono ?_;rintro r h ⟨rfl,rfl⟩;simp-implicitDefEqProofs[aa,H6,Q0]
def CB:AV:= .fn (.func bj) []
theorem BF(l0:List Fd)(l:List Sm)(hf:∀x∈l,x.args≠[])(hz:aq l<=1073741824)(ih:∀x∈l,rO G l0 CB aK x.body/\rO G l0 CB aK x.els):rO G l0 CB aK l:=by
 have E7:=bF l;have hB:Ω 0 CB:=by simp[CB,Ω]
 let V:=Pe l0 CB hB bZ [.ptr 3 1 0 0] (by simp[Ω])
 refine V.trim G (st:=()) (st':=()) (AC.go pU ?_) (by simp[Ω]);have hI:V.I ()=cH l0 CB:=rfl;have H6:(cH l0 CB).length=4:=rfl;have hg1:(cH l0 CB)[1]?=some (.row 1 [[CB]]):=rfl
 have HM:=Oj G V (λ(st:Unit) x=>(inS aK x,st)) (λ_ _=>True) l (by omega) (by show 0<4;omega)
  (λi st hi _=>⟨trivial,by
    have hm:=aa2 hi;have h2:=ce hm;exact BZ G l0 hB aK l[i] (by omega) (ih _ hm).1 (ih _ hm).2⟩) () trivial
 rw[gL] at HM
 have HB:=Mn G (o0:= .row 1 [[.p (fdL l0)]]) (by simp[Ξ,Ω]) (l.map (inS aK)) (λx hx=>by
  obtain⟨y,hy,rfl⟩:=abb.1 hx;exact hf y hy) (by rw[abi];omega)
 rw[MV] at HB;have HB2:=(AC.pre HB [.row 1 [[CB]],.row 1 [[.nils]],.row 1 [[.fn (.func aI) [.ptr 1 1 0 0,.ptr 3 1 0 0]]]] (by simp[Ω]) (by simp[Ξ,Ω]) (by rintro x h ⟨_,rfl⟩;rfl));rw[hI];have HM2:AC Tryz.prog G bf [.p (Θ l),.fn (.func bZ) [.ptr 3 1 0 0]] (cH l0 CB) λx h=>x= .ret (.p (Θ (l.map (inS aK))))/\h=cH l0 CB:=HM
 have HB3:AC Tryz.prog G bj [.p (Θ (l.map (inS aK)))] (cH l0 CB) λx h=>x= .ret (.p (Θ (aK l)))/\h=cH l0 CB:=by
  refine HB2.mono ?_;rintro x h ⟨h1,⟨rfl,rfl⟩,rfl⟩;exact⟨rfl,rfl⟩
 have hg10:∀h:1<(cH l0 CB).length,(cH l0 CB)[1]= .row 1 [[.fn (.func bj) []]]:=λ_=>rfl
 generalize hh:cH l0 CB=C at*
 simp-implicitDefEqProofs[kM,H6,hg10];refine HM2.mono ?_;rintro r h ⟨rfl,rfl⟩;simp-implicitDefEqProofs[aa,H6,hg10];refine HB3.mono ?_;rintro r h ⟨rfl,rfl⟩;simp-implicitDefEqProofs[aa,H6]
 trace_state
theorem OZ(l0:List Fd):∀(d:Nat) (l:List Sm),(∀x∈l,an d x=true)->aq l<=1073741824->rO G l0 CB aK l:=by
 intro d
 induction d with
 |zero=>
  intro l hf hz;exact BF G l0 l (λx hx=>by have:=hf x hx;cases this) hz (λx hx=>by have:=hf x hx;cases this)
 |succ d ih=>
  intro l hf hz;refine BF G l0 l (λx hx=>IJ (hf x hx)) hz (λx hx=>?_);have h1:=ce hx;have h2:=x.sz_eq;exact⟨ih x.body (gF (hf x hx)) (by omega),ih x.els (pB (hf x hx)) (by omega)⟩
theorem PY(l:List (List UInt8))(hl:l.length<=1073741824):VF Tryz.prog G dY [.p (ay l)] (.p (ay l)):=by
 have A8:ay l= .lst 1 (l.map λw=>[.str w]):=rfl
 have key:AC Tryz.prog G dY [.p (ay l)] [] λx h=>∃v,x= .ret v/\View h v (ay l):=by
  refine AC.go rV ?_;simp-implicitDefEqProofs[kE,A8];cases l with
  |nil=>
   simp[KY];exact⟨.nils 1,fV (l:=[]) rfl⟩
  |cons w r=>
   simp only[abc] at hl;simp[KY];exact⟨⟨by omega,by omega⟩,fV (l:=w::r) rfl⟩
 refine key.freezeR (λt v h ⟨_,e,_⟩=>by cases e) λv h ⟨u,e1,e2⟩=>?_
 cases e1;exact .one e2 .nil
theorem Ek(l0:List Fd){B:AV}(hB:Ω 0 B)(H:List Sm->List Sm)(f:Fd)(hz:f.sz<=1073741824)(hb:rO G l0 B H f.body):
 AC Tryz.prog G cN [.agg (f.cs.map .p),.ptr 3 1 0 0] (cH l0 B) λx h=>x= .ret (.agg ((eaF H f).cs.map .p))/\h=cH l0 B:=by
 have E6:f.cs=[.str f.name,ay f.params,Θ f.body]:=rfl;have V2:(eaF H f).cs=[.str f.name,ay f.params,Θ (H f.body)]:=rfl;have K4:f.sz=1+f.name.length+(f.params.length+(f.params.map List.length).sum)+aq f.body:=rfl
 let V:=Pe l0 B hB aI [] trivial
 refine V.trim G (st:=()) (st':=()) (AC.go AZ ?_) (by rw[V2];simp[Ω]);have hI:V.I ()=cH l0 B:=rfl;have H6:(cH l0 B).length=4:=rfl;have Q0:∀h:3<(cH l0 B).length,(cH l0 B)[3]= .row 1 [[.fn (.func aI) [.ptr 1 1 0 0,.ptr 3 1 0 0]]]:=λ_=>rfl
 have hVp:∀rest,AC Tryz.prog G aI [.p (Θ f.body),.ptr 1 1 0 0,.ptr 3 1 0 0] (cH l0 B++rest) λx h=>x= .ret (.p (Θ (H f.body)))/\h=cH l0 B++rest:=λrest=>
  V.pre G (st:=()) (st':=()) hb rest ⟨by simp[Ω],by simp only[Ω];show 1<4;omega,by simp only[Ω];show 3<4;omega,trivial⟩
 rw[hI];generalize hh:cH l0 B=C at*
 rw[V2];simp-implicitDefEqProofs[pH,E6,H6,Q0];refine(PY G f.params (by omega)).use ?_;simp-implicitDefEqProofs[H6,Q0];refine(hVp _).mono ?_;rintro r h ⟨rfl,rfl⟩;simp-implicitDefEqProofs[aa,H6,Q0]
theorem Ip(l:List Fd)(hz:aD l<=1073741824)(hf:∀f∈l,∀x∈f.body,an 4 x=true):VF Tryz.prog G cA [.agg [.p (fdL l)],CB] (.agg [.p (fdL (gJ l))]):=by
 have E7:=dC l;have hB:Ω 0 CB:=by simp[CB,Ω]
 let V:=Pe l CB hB cN [.ptr 3 1 0 0] (by simp[Ω])
 have HM:=MK G V (λ(st:Unit) x=>(eaF aK x,st)) (λ_ _=>True) l (by omega) (by show 0<4;omega)
  (λi st hi _=>⟨trivial,by
    have hm:=aa2 hi;have h2:=cL hm;have h3:l[i].sz=1+l[i].name.length+(l[i].params.length+(l[i].params.map List.length).sum)+aq l[i].body:=rfl;exact Ek G l hB aK l[i] (by omega) (OZ G l 4 _ (hf _ hm) (by omega))⟩) () trivial
 rw[gL] at HM;have HM2:AC Tryz.prog G bP [.p (fdL l),.fn (.func cN) [.ptr 3 1 0 0]] [.row 1 [[.p (fdL l)]],.row 1 [[.fn (.func bj) []]],.row 1 [[.nils]],.row 1 [[.fn (.func aI) [.ptr 1 1 0 0,.ptr 3 1 0 0]]]] λx h=>x= .ret (.p (fdL (gJ l)))/\h=[.row 1 [[.p (fdL l)]],.row 1 [[.fn (.func bj) []]],.row 1 [[.nils]],.row 1 [[.fn (.func aI) [.ptr 1 1 0 0,.ptr 3 1 0 0]]]]:=HM
 show VF Tryz.prog G cA [.agg [.p (fdL l)],.fn (.func bj) []] (.agg [.p (fdL (gJ l))]);refine AC.go tq ?_;simp-implicitDefEqProofs[no];refine HM2.mono ?_;rintro r h ⟨rfl,rfl⟩;simp-implicitDefEqProofs[aa]
end
section
variable (G:au)
theorem LE{σ:Type}(V:Vis σ)(g:σ->Sm->Sm × σ)(inv:Nat->σ->Prop)(l:List Sm)(hb:l.length<=1073741824)(hn:0<V.n)
 (hv:∀(i:Nat) st (h:i<l.length),inv i st->inv (i+1) (g st l[i]).2/\AC Tryz.prog G V.F (.agg (l[i].cs.map .p)::V.caps) (V.I st) λx h'=>x= .ret (.agg ((g st l[i]).1.cs.map .p))/\h'=V.I (g st l[i]).2)(st:σ)(h0:inv 0 st):
 AC Tryz.prog G bf [.p (Θ l),.fn (.func V.F) V.caps] (V.I st) λx h=>x= .ret (slE V.n 5 (smR (bl g st l).1))/\h=V.I (bl g st l).2++[bm 5 (smR (bl g st l).1)]:=by
 have A3:∀l,Θ l= .lst 5 (l.map Sm.cs):=λ_=>rfl
 have A0:=V.len;have H8:=V.capsOk
 have H5:∀i,i<=l.length->inv i (bl g st (l.take i)).2:=λi hi=>by
  have:=te (g:=g) (inv:=inv) (l:=l) (st:=st) (k:=0) h0 (λi st h hi=>by rw[abz] at hi⊢;exact(hv i st h hi).1) i hi
  rwa[abz] at this
 have hRp:∀l:List Sm,∀x∈smR l,aj 0 x:=aL;have hRl:∀l:List Sm,(smR l).length=l.length:=λl=>by simp[smR]
 have hRa:∀(l:List Sm) (y:Sm),smR (l++[y])=smR l++[y.cs.map .p]:=λl y=>by simp[smR]
 have key:AC Tryz.prog G bf [.p (Θ l),.fn (.func V.F) V.caps] (V.I st) λx h=>x= .ret (slE V.n 5 (smR (bl g st l).1))/\h=V.I (bl g st l).2++[bm 5 (smR (bl g st l).1)]:=by
  refine AC.go jm ?_;simp-implicitDefEqProofs[fm,A3]
  refine aJ (λi:Nat=>ah 22 [(5,slE V.n 5 (smR (bl g st (l.take i)).1)),(0,.p (Θ l)),(1,.fn (.func V.F) V.caps),(8,.p (Θ l)),(9,.p (.int .i64 l.length)),(10,.p (.int .i64 i))])
   (λi=>V.I (bl g st (l.take i)).2++[bm 5 (smR (bl g st (l.take i)).1)]) (λi=>i<=l.length) (λi=>l.length-i) 0 (by simp) ?_ ?_
  ·have e:bm 5 (smR (bl g st (l.take 0)).1)= .dead:=rfl;rw[e];exact iM (by rw[A0];exact aa3 _) (by rw[A0];exact hn) (by rw[A0];exact V.ok st) (by simp[Ω,A3,H8,A0,bl,smR,oQ])
  intro i hi;have hT:=λh=>tI (g:=g) (l:=l) (st:=st) (i:=i) h
  have M3:=H5 i hi;have G8:=sf g (l.take i) st;rw[abg,ab2 hi] at G8;generalize L3:bl g st (l.take i)=cur at hT M3 G8⊢;obtain⟨out,s⟩:=cur;simp only at hT M3 G8⊢;simp-implicitDefEqProofs[A3];refine aU (λhc=>?_) (λhc=>?_)
  ·simp at hc;have hg:=Γ hc;have hT:=hT hc;obtain⟨_,hA⟩:=hv i s hc M3;generalize l[i]=x at hg hT hA;have F1:=x.cs_eq;have hyc:=(g s x).1.cs_eq;rw[F1] at hA;simp-implicitDefEqProofs[hg,F1,A0];refine(V.pre G hA _ ⟨by simp[Ω],H8⟩).mono ?_;rintro r h ⟨rfl,rfl⟩;rw[hyc];simp-implicitDefEqProofs[aa,A0];have G3:=hRl out;refine⟨⟨by omega,by omega⟩,i+1,hc,by omega,?_⟩;rw[hT];simp only[hRa];rw[rH _ (by simp),ny _ (by simp),hyc];refine HZ (mid:=[_,_,_]) (s:=[]) (A0 _) rfl (aa3 _) (V.ok _) ?_ ?_ ?_
   ·intro x hx;rcases aaZ.1 hx with h|h
    ·exact hRp _ x h
    ·rw[aa0.1 h];simp
   ·simp[Ω,A3,H8,w1 (i:=i) (by omega)]
   ·simp
  ·simp at hc;have E3:i=l.length:=by omega
   subst E3;rw[abp] at L3;rw[L3];simp-implicitDefEqProofs[]
 exact key
theorem SG(l:List Sm):(l.map (inS aG)).map rR=aG l:=by
 rw[jn,acW];refine abh λx _=>?_
 rw[cx];rfl
def FB:AV:= .fn (.func aW) []
theorem zm(hK:G dc=some cU)(hS:G bv=some [PV.tbl opK opV])(l0:List Fd)(l:List Sm)(hf:∀x∈l,∀a∈x.args,iG a=true)(hz:aq l<=1073741824)(V9:aq (l.map (inS aG))<=1073741824)(ih:∀x∈l,rO G l0 FB aG x.body/\rO G l0 FB aG x.els):rO G l0 FB aG l:=by
 have E7:=bF l;have hB:Ω 0 FB:=by simp[FB,Ω]
 let V:=Pe l0 FB hB bZ [.ptr 3 1 0 0] (by simp[Ω])
 have H6:(cH l0 FB).length=4:=rfl
 have HM:=LE G V (λ(st:Unit) x=>(inS aG x,st)) (λ_ _=>True) l (by omega) (by show 0<4;omega)
  (λi st hi _=>⟨trivial,by
    have hm:=aa2 hi;have h2:=ce hm;exact BZ G l0 hB aG l[i] (by omega) (ih _ hm).1 (ih _ hm).2⟩) () trivial
 rw[gL] at HM;have HM2:AC Tryz.prog G bf [.p (Θ l),.fn (.func bZ) [.ptr 3 1 0 0]] (cH l0 FB) λx h=>x= .ret (slE 4 5 (smR (l.map (inS aG))))/\h=cH l0 FB++[bm 5 (smR (l.map (inS aG)))]:=HM
 have key:AC Tryz.prog G aI [.p (Θ l),.ptr 1 1 0 0,.ptr 3 1 0 0] (cH l0 FB) λx h=>x= .ret (slE 4 5 (smR (aG l)))/\∃r,h=cH l0 FB++bm 5 (smR (aG l))::r:=by
  refine AC.go pU ?_;have hg10:∀h:1<(cH l0 FB).length,(cH l0 FB)[1]= .row 1 [[.fn (.func aW) []]]:=λ_=>rfl
  generalize hh:cH l0 FB=C at*
  simp-implicitDefEqProofs[kM,H6,hg10];refine HM2.mono ?_;rintro r h ⟨rfl,rfl⟩;simp-implicitDefEqProofs[aa,H6,hg10];cases l with
  |nil=>
   have e0:smR (([]:List Sm).map (inS aG))=[]:=rfl;have e1:smR (aG [])=[]:=rfl;rw[e1];simp-implicitDefEqProofs[oQ,za,smR];refine(VF.ac (r:= .nils) (LK G) (by simp[Ω]) (by simp[Ω]) _).mono ?_;rintro r h ⟨rfl,rfl⟩;simp-implicitDefEqProofs[aa]
  |cons x r=>
   have Q6:∀y∈(x::r).map (inS aG),∀a∈y.args,iG a=true:=λy hy=>by
    obtain⟨q,hq,rfl⟩:=abb.1 hy;exact hf q hq
   have HB:=Ob G hK hS ((x::r).map (inS aG)) Q6 V9;rw[SG] at HB;have G1:((x::r).map (inS aG)).length=(x::r).length:=abi _;have C4:=vJ (x::r);have B8:smR ((x::r).map (inS aG))≠[]:=by simp[smR]
   have hne2:smR (aG (x::r))≠[]:=by simp[smR,aG]
   rw[dt B8,eb B8,dt hne2,eb hne2,dj,dj,G1,C4];rw[G1] at HB;generalize hq:smR ((x::r).map (inS aG))=q1 at HB;have hp1:∀y∈q1,aj 0 y:=by rw[←hq];exact aL _
   have N8:∀y∈smR (aG (x::r)),aj 0 y:=aL _;generalize hq2:smR (aG (x::r))=q2 at HB N8;refine(AC.frame (args:=[.sl 4 5 0 (x::r).length]) (h:=C++[.row 5 q1]) HB [4] (by simp) (by simp[TW,ren,Ω]) (aw (by rw[aa5 (by omega),H6];rfl) hp1 aP)).mono ?_;rintro z h' ⟨x0,h0',⟨rfl,rfl⟩,_,rfl,rfl⟩
   have hm:mrg (C++[AO.row 5 q1]) [4] [AO.row 5 q2]=C++[.row 5 q2]:=by
    simp only[mrg];rw[acg _ _ (by omega),H6];rfl
   have hrq:∀ρ,jf ρ (AO.row 5 q2)= .row 5 q2:=λρ=>by
    simp only[jf];rw[abh (g:=id) (λy hy=>dM ρ y (N8 y hy)),adn]
   simp-implicitDefEqProofs[aa,Db,ren,hrq,hm]
 refine key.frz 4 (by rw[H6];exact aa3 _) (λt v h ⟨e,_⟩=>by cases e) ?_;rintro v h ⟨e,r,rfl⟩;cases e;refine⟨.p (Θ (aG l)),cH l0 FB,by rw[aa9,H6];omega,H6,.one ?_ .nil,zR (SE l0 hB (aa3 _)),rfl,rfl⟩;have ht:=CA (r:=r) (o:=bm 5 (smR (aG l))) H6;have hh:smR (aG l)=((aG l).map Sm.cs).map (·.map .p):=by simp[smR]
 rw[hh] at ht⊢;exact Bl ht (λx hx=>by obtain⟨b,_,rfl⟩:=abb.1 hx;simp)
theorem Ns(H:List Sm->List Sm):∀l:List Sm,(∀x∈l,aq (H x.body)<=aq x.body/\aq (H x.els)<=aq x.els)->aq (l.map (inS H))<=aq l
 |[],_=>aa3 _
 |x::r,h=>by
  have h1:=h x (by simp);have h2:=Ns H r (λy hy=>h y (by simp[hy]));have h3:=x.sz_eq;have h4:(inS H x).sz=1+x.name.length+br x.args+aq (H x.body)+aq (H x.els):=by rw[Sm.sz_eq];rfl
  rw[abd,aq,aq];omega
theorem IY{d:Nat}{x:Sm}(h:an d x=true):∀a∈x.args,iG a=true:=by
 obtain⟨d,rfl⟩:=jc h;rw[an,aa1,aa1] at h;have h1:=h.1.1;simp only[fx,aa1,aaY] at h1;exact h1.1.1.1.2
theorem La(hK:G dc=some cU)(hS:G bv=some [PV.tbl opK opV])(l0:List Fd):∀(d:Nat) (l:List Sm),(∀x∈l,an d x=true)->aq l<=1073741824->rO G l0 FB aG l:=by
 intro d;have M9:∀l:List Sm,aq l<=1073741824->aq (l.map (inS aG))<=1073741824:=λl hz=>abe (Ns aG l λx _=>⟨mK _,mK _⟩) hz
 induction d with
 |zero=>
  intro l hf hz;exact zm G hK hS l0 l (λx hx=>by have:=hf x hx;cases this) hz (M9 l hz) (λx hx=>by have:=hf x hx;cases this)
 |succ d ih=>
  intro l hf hz;refine zm G hK hS l0 l (λx hx=>IY (hf x hx)) hz (M9 l hz) (λx hx=>?_);have h1:=ce hx;have h2:=x.sz_eq;exact⟨ih x.body (gF (hf x hx)) (by omega),ih x.els (pB (hf x hx)) (by omega)⟩
theorem FO(hK:G dc=some cU)(hS:G bv=some [PV.tbl opK opV])(l:List Fd)(hz:aD l<=1073741824)(hf:∀f∈l,∀x∈f.body,an 4 x=true):VF Tryz.prog G cA [.agg [.p (fdL l)],FB] (.agg [.p (fdL (dh l))]):=by
 have E7:=dC l;have hB:Ω 0 FB:=by simp[FB,Ω]
 let V:=Pe l FB hB cN [.ptr 3 1 0 0] (by simp[Ω])
 have HM:=MK G V (λ(st:Unit) x=>(eaF aG x,st)) (λ_ _=>True) l (by omega) (by show 0<4;omega)
  (λi st hi _=>⟨trivial,by
    have hm:=aa2 hi;have h2:=cL hm;have h3:l[i].sz=1+l[i].name.length+(l[i].params.length+(l[i].params.map List.length).sum)+aq l[i].body:=rfl;exact Ek G l hB aG l[i] (by omega) (La G hK hS l 4 _ (hf _ hm) (by omega))⟩) () trivial
 rw[gL] at HM;have HM2:AC Tryz.prog G bP [.p (fdL l),.fn (.func cN) [.ptr 3 1 0 0]] [.row 1 [[.p (fdL l)]],.row 1 [[.fn (.func aW) []]],.row 1 [[.nils]],.row 1 [[.fn (.func aI) [.ptr 1 1 0 0,.ptr 3 1 0 0]]]] λx h=>x= .ret (.p (fdL (dh l)))/\h=[.row 1 [[.p (fdL l)]],.row 1 [[.fn (.func aW) []]],.row 1 [[.nils]],.row 1 [[.fn (.func aI) [.ptr 1 1 0 0,.ptr 3 1 0 0]]]]:=HM
 show VF Tryz.prog G cA [.agg [.p (fdL l)],.fn (.func aW) []] (.agg [.p (fdL (dh l))]);refine AC.go tq ?_;simp-implicitDefEqProofs[no];refine HM2.mono ?_;rintro r h ⟨rfl,rfl⟩;simp-implicitDefEqProofs[aa]
end
section
variable (G:au)
variable (hK:G dc=some cU) (hS:G bv=some [PV.tbl opK opV])
include hK hS
theorem FR(l:List Fd)(hz:aD l<=1073741824)(h0:am l=0):VF Tryz.prog G dQ [.agg [.p (fdL l)]] (.tup [.agg [.p (fdL (dh l))],.p (.bool true)]):=by
 have HC:VF Tryz.prog G cA [.agg [.p (fdL l)],.fn (.func aW) []] (.agg [.p (fdL (dh l))]):=FO G hK hS l hz (fD h0).2;refine AC.go nt ?_;simp-implicitDefEqProofs[iY];refine(Bm G hK hS l hz).use ?_;simp-implicitDefEqProofs[h0];refine HC.use ?_;simp-implicitDefEqProofs[]
theorem Hp(l:List Fd)(hz:aD l<=1073741824)(h0:am l=0):VF Tryz.prog G eF [.agg [.p (fdL l)]] (.tup [.agg [.p (fdL (gJ l))],.p (.bool true)]):=by
 have HC:VF Tryz.prog G cA [.agg [.p (fdL l)],.fn (.func bj) []] (.agg [.p (fdL (gJ l))]):=Ip G l hz (fD h0).2;refine AC.go oy ?_;simp-implicitDefEqProofs[jE];refine(Bm G hK hS l hz).use ?_;simp-implicitDefEqProofs[h0];refine HC.use ?_;simp-implicitDefEqProofs[]
end
section
variable (G:au)
variable (hK:G dc=some cU) (hS:G bv=some [PV.tbl opK opV])
include hK hS
theorem Ey(l:List Fd)(hz:aD l<=1073741824):VF Tryz.prog G dQ [.agg [.p (fdL l)]] (.tup [.agg [.p (fdL (orN (decide (am l=0)) (dh l)))],.p (.bool (decide (am l=0)))]):=by
 by_cases h0:am l=0
 ·rw[decide_eq_true h0];exact FR G hK hS l hz h0
 ·rw[decide_eq_false h0]
  have key:AC Tryz.prog G dQ [.agg [.p (fdL l)]] [] λx h=>x= .ret (.tup [.agg [.nils],.p (.bool false)]):=by
   refine AC.go nt ?_;simp-implicitDefEqProofs[iY];refine(Bm G hK hS l hz).use ?_;simp-implicitDefEqProofs[h0]
  refine key.freezeR (λt v h e=>by cases e) λv h e=>?_
  cases e;exact .tup (.agg (.one (.nils 3) .nil) (.keep (by simp) .nil)) .nil
theorem Fi(l:List Fd)(hz:aD l<=1073741824):VF Tryz.prog G eF [.agg [.p (fdL l)]] (.tup [.agg [.p (fdL (orN (decide (am l=0)) (gJ l)))],.p (.bool (decide (am l=0)))]):=by
 by_cases h0:am l=0
 ·rw[decide_eq_true h0];exact Hp G hK hS l hz h0
 ·rw[decide_eq_false h0]
  have key:AC Tryz.prog G eF [.agg [.p (fdL l)]] [] λx h=>x= .ret (.tup [.agg [.nils],.p (.bool false)]):=by
   refine AC.go oy ?_;simp-implicitDefEqProofs[jE];refine(Bm G hK hS l hz).use ?_;simp-implicitDefEqProofs[h0]
  refine key.freezeR (λt v h e=>by cases e) λv h e=>?_
  cases e;exact .tup (.agg (.one (.nils 3) .nil) (.keep (by simp) .nil)) .nil
end
section
theorem Wb:∀x∈triL,x.length=3/\∀n∈x,V5 n:=by
 intro x hx;simp only[triL,aa6,abo,or_false] at hx;rcases hx with rfl|rfl|rfl<;>refine⟨rfl,λn hn=>?_⟩<;>simp only[aa6,abo,or_false] at hn<;>(rcases hn with rfl|rfl|rfl<;>exact⟨by decide,by decide⟩)
theorem Gy{l:List Fd}(hc:am l=0){us:List Int}(h:us∈zF l):gU l us=true/\us.length<=3:=by
 obtain⟨f,hf,h3,_,e⟩:=Hc hc;rw[e] at h;obtain⟨x,hx,rfl⟩:=abb.1 h;obtain⟨h1,h2⟩:=Wb x hx;refine⟨Kv hc hf (by rw[abg];omega) λn hn=>h2 n (abv hn),by rw[abg];omega⟩
theorem JD(l:List Fd):(zF l).length<=3:=by
 unfold zF;split
 ·split
  ·simp[rS,triL]
  ·simp
 ·simp
variable (G:au)
theorem Li(code:List Int)(hb:Byt code):AC Tryz.prog G ga [.p (ui code)] [] λx _=>DrP 900000000 x:=by
 refine AC.go rW ?_;simp-implicitDefEqProofs[kF];refine(AC.lift (RE G code) (by simp) rfl rfl).mono ?_;rintro r h ⟨rfl,rfl⟩;have hr:∀n,cV n (Ψ (code.take 2000) 0)=Ψ (code.take 2000) 0:=λn=>by simp[Ψ,cV,dD,cG]
 simp-implicitDefEqProofs[aa,cG,hr];refine(YO G (JO G (JT hb 2000) (by rw[abg];omega) (p:=0) (by omega)) (λv q ⟨⟨l,e,_⟩,_⟩=>by rw[e];simp[Ω]) (h:=[.row 1 [[.nils]],Ψ (code.take 2000) 0]) (k:=1) rfl trivial).mono ?_;rintro r h ⟨v,q,rfl,rfl,⟨l,rfl,hz⟩,_⟩;simp-implicitDefEqProofs[aa];exact⟨l,rfl,hz⟩
theorem JH(code:List Int)(hb:Byt code):AC Tryz.prog G fC [.p (ui code)] [] λx _=>DrP 900000000 x:=by
 refine AC.go ry ?_;simp-implicitDefEqProofs[jH];refine(AC.lift (RE G code) (by simp) rfl rfl).mono ?_;rintro r h ⟨rfl,rfl⟩;have hr:∀n,cV n (Ψ (code.take 2000) 0)=Ψ (code.take 2000) 0:=λn=>by simp[Ψ,cV,dD,cG]
 simp-implicitDefEqProofs[aa,cG,hr];refine(YO G (JO G (JT hb 2000) (by rw[abg];omega) (p:=0) (by omega)) (λv q ⟨⟨l,e,_⟩,_⟩=>by rw[e];simp[Ω]) (h:=[.row 1 [[.nils]],Ψ (code.take 2000) 0]) (k:=1) rfl trivial).mono ?_;rintro r h ⟨v,q,rfl,rfl,⟨l,rfl,hz⟩,_⟩;simp-implicitDefEqProofs[aa];exact⟨l,rfl,hz⟩
def fus:List Int:=[0,7,50,600]
theorem Wh:∀x∈fus,∃F:Nat,x=(F:Int)/\F<=4000:=by
 intro x hx;simp only[fus,aa6,abo,or_false] at hx;rcases hx with rfl|rfl|rfl|rfl
 ·exact⟨0,rfl,by omega⟩
 ·exact⟨7,rfl,by omega⟩
 ·exact⟨50,rfl,by omega⟩
 ·exact⟨600,rfl,by omega⟩
structure RunI (l:List Fd) (us:List Int) (fZ:Nat) (s':S5) (r:O5 Int):Prop where
 ev:Ev l (.cal (l.length-1) us (s0 fZ) s' r)
 said:s'.said.length<=4000
 cells:s'.cells.length=16
 left:s'.left<=fZ
 impl:VF Tryz.prog G cy [.agg [.p (fdL l)],.p (bx us),.p (.int .i64 fZ)] (.tup [.agg ((yR s' r).map .p),.p (.bool true)])
section
variable (hK:G dc=some cU) (hS:G bv=some [.tbl opK opV])
include hK hS
theorem Hi{l:List Fd}{us:List Int}{fZ:Nat}{s':S5}{r:O5 Int}(hz:aD l<=1073741824)(hl:us.length<=1000000000000)(ho:gU l us=true)(T5:fZ<=4000)(hE:Ev l (.cal (l.length-1) us (s0 fZ) s' r)):RunI G l us fZ s' r:=by
 obtain⟨hc,h0,⟨f,hf1,Q6⟩,hv⟩:=pR ho;exact⟨hE,abe (UA hE) T5,(aZ hE ⟨tJ fZ,hv⟩).1.len,Uq hE,Fu G hK hS hz hl ho hc h0 hv T5 hE⟩
theorem Wz{l:List Fd}{us:List Int}{fZ:Nat}(hz:aD l<=1073741824)(hl:us.length<=1000000000000)(ho:gU l us=true)(T5:fZ<=4000):∃s' r,RunI G l us fZ s' r:=by
 obtain⟨hc,h0,⟨f,hf1,Q6⟩,hv⟩:=pR ho;obtain⟨s',r,hE,_⟩:=ZT hc hf1 Q6 hv fZ;exact⟨s',r,Hi G hK hS hz hl ho T5 hE⟩
theorem Vr{l:List Fd}{us:List Int}{s':S5}{r:O5 Int}(hz:aD l<=1073741824)(hl:us.length<=1000000000000)(ho:gU l us=true)(R:RunI G l us 4000 s' r):
 VF Tryz.prog G iJ [.agg [.p (fdL l)],.p (bx us)] (.p (.int .i64 (if uy r=3 then-1 else((4000-s'.left:Nat):Int)))):=by
 obtain⟨hc,h0,⟨f,hf1,Q6⟩,hv⟩:=pR ho;exact Ox G hK hS hz hl ho hc h0 hv R.ev
end
variable (hT:G tL=some pvTries) (hK:G dc=some cU) (hS:G bv=some [.tbl opK opV])
include hT hK hS
theorem RJ(code:List Int)(hb:Byt code)(hl:code.length<=9223372036854775807):VF Tryz.prog G oO [.p (ui code)] (.p (.bool true)):=by
 refine AC.go zJ ?_;have O9:ui code= .lst 1 (code.map λn=>[.int .u8 n]):=rfl;simp-implicitDefEqProofs[oF,O9];rw[←O9]
 by_cases hc:(1048576:Int)<code.length
 ·simp-implicitDefEqProofs[hc]
 simp-implicitDefEqProofs[hc];refine(JG G (JH G code hb) Js (by simp) _).mono ?_;rintro r h ⟨⟨l,rfl,hz⟩,rfl⟩;simp-implicitDefEqProofs[aa];have W9:=Ey G hK hS l (by omega);have S6:=EY G l (by omega);have R9:aD (dh l)<=1073741824:=abe (KZ l) (by omega);refine W9.use ?_;simp-implicitDefEqProofs[];refine S6.use ?_
 by_cases h0:am l=0
 case neg=>
  have hd:decide (am l=0)=false:=decide_eq_false h0;have F6:=jZ G [] [] (by simp[aD]) (by simp[aD]);rw[oC rfl] at F6;simp-implicitDefEqProofs[hd,orN];refine F6.use ?_;simp-implicitDefEqProofs[];refine F6.use ?_;simp-implicitDefEqProofs[]
 have hd:decide (am l=0)=true:=decide_eq_true h0;have F6:=jZ G (dh l) (dh l) R9 R9;rw[oC rfl] at F6;have hinp:=BH G hT hK hS l (by omega);have F3:=JD l;have G1:∀L,nsL L= .lst 1 (L.map λx=>[bx x]):=λ_=>rfl
 have hcx:=HK h0;have hpx:aY l=true:=((om l).1 h0).1;have hpf:aY (dh l)=true:=((om _).1 hcx).1;have hcp:=nH G hK hS (dh l) R9;have hs1:=CV G hK hS l (by omega);have hs2:=CV G hK hS (dh l) R9;rw[if_pos hpx] at hs1;rw[if_pos hpf,Gl] at hs2;rw[hcx] at hcp;have C7:∀us∈zF l,gU l us=true/\us.length<=3:=λus h=>Gy h0 h
 have hox:∀us,gU l us=true->gU (dh l) us=true:=λus h=>Gq (λ_=>rfl) hcx h
 have Q5:∀(us:List Int) (F:Nat) (s':S5) (r:O5 Int),(∀n∈us,V5 n)->Ev l (.cal (l.length-1) us (s0 F) s' r)->Ev (dh l) (.cal ((dh l).length-1) us (s0 F) s' r):=λus F s' r hu h=>by
  have:(dh l).length=l.length:=by simp[dh]
  rw[this];exact SA hpx h (tJ F) hu
 simp-implicitDefEqProofs[hd,orN];refine F6.use ?_;simp-implicitDefEqProofs[];refine hinp.use ?_;generalize zF l=L at*
 generalize dh l=x at*
 simp-implicitDefEqProofs[G1];refine aJ (λi:Nat=>ah 103 [(3,.ptr 0 1 0 0),(4,.ptr 1 1 0 0),(53,.p (nsL L)),(54,.p (.int .i64 L.length)),(55,.p (.int .i64 i))]) (λ_=>[.row 1 [[.p (fdL l)]],.row 1 [[.p (fdL x)]]]) (λi=>i<=L.length) (λi=>L.length-i) 0 (by simp) ?_ ?_
 ·refine cK [0,1] rfl (by simp) (bt rfl (by simp[Ξ,Ω]) (bt rfl (by simp[Ξ,Ω]) aP)) ?_;simp[Ω,ren,G1]
 intro i hi;simp-implicitDefEqProofs[G1];refine aU (λh1=>?_) (λh1=>?_)
 ·simp at h1;have hg:L[i]?=some L[i]:=Γ h1;obtain⟨ho,hul⟩:=C7 L[i] (aa2 h1);generalize L[i]=us at hg ho hul;simp-implicitDefEqProofs[hg];refine aJ (λj:Nat=>ah 103 [(3,.ptr 0 1 0 0),(4,.ptr 1 1 0 0),(9,.p (bx us)),(53,.p (nsL L)),(54,.p (.int .i64 L.length)),(55,.p (.int .i64 i)),(59,.sl 2 1 0 4),(60,.p (.int .i64 4)),(61,.p (.int .i64 j))]) (λ_=>[.row 1 [[.p (fdL l)]],.row 1 [[.p (fdL x)]],jv fus]) (λj=>j<=4) (λj=>4-j) 0 (by simp) ?_ ?_
  ·refine cK [0,1,2] rfl (by simp) (bt rfl (by simp[Ξ,Ω]) (bt rfl (by simp[Ξ,Ω]) (aw (by simp[jv,fus]) (By fus) aP))) ?_;simp[Ω,ren,G1,bx]
  intro j hj;have T5:jv fus= .row 1 (fus.map λn=>[.p (.int .i64 n)]):=rfl;have hfl4:fus.length=4:=rfl;have hfm:=Wh;generalize fus=fs at T5 hfl4 hfm⊢;simp-implicitDefEqProofs[T5];refine aU (λh2=>?_) (λh2=>?_)
  ·simp at h2;have hj4:j<fs.length:=by omega
   have hgj:fs[j]?=some fs[j]:=Γ hj4;obtain⟨F,hFe,hF⟩:=hfm fs[j] (aa2 hj4);rw[hFe] at hgj;obtain⟨s',r,R⟩:=Wz G hK hS (l:=l) (us:=us) (fZ:=F) (by omega) (by omega) ho hF;have R2:=Hi G hK hS R9 (by omega) (hox us ho) hF (Q5 us F s' r (pR ho).2.2.2 R.ev);have A8:=R.said;have F4:=R.cells;have him:=Nx G s'.said s'.cells (uy r) (LR r) (by omega) (by omega);have hi1:=R.impl;have M3:=R2.impl;simp-implicitDefEqProofs[hgj];refine⟨by omega,?_⟩;refine hi1.use ?_;simp-implicitDefEqProofs[yR];refine M3.use ?_;simp-implicitDefEqProofs[yR];refine him.use ?_;simp-implicitDefEqProofs[];refine⟨j+1,by omega,by omega,?_⟩;refine cK [0,1,2] rfl (by simp) (bt rfl (by simp[Ξ,Ω]) (bt rfl (by simp[Ξ,Ω]) (aw rfl (By fs) aP))) ?_;simp[Ω,ren,G1,bx,w1 (i:=j) (by omega)]
  ·simp-implicitDefEqProofs[];refine⟨i+1,by omega,by omega,?_⟩;refine cK [0,1] rfl (by simp) (bt rfl (by simp[Ξ,Ω]) (bt rfl (by simp[Ξ,Ω]) aP)) ?_;simp[Ω,ren,G1,w1 (i:=i) (by omega)]
 ·simp-implicitDefEqProofs[];refine hcp.use ?_;simp-implicitDefEqProofs[];refine hs2.useQ ?_;simp-implicitDefEqProofs[];refine hs1.use ?_;simp-implicitDefEqProofs[]
theorem FQ(code:List Int)(hb:Byt code)(hl:code.length<=9223372036854775807):VF Tryz.prog G pG [.p (ui code)] (.p (.bool true)):=by
 refine AC.go Bj ?_;have O9:ui code= .lst 1 (code.map λn=>[.int .u8 n]):=rfl;simp-implicitDefEqProofs[pX,O9];rw[←O9]
 by_cases hc:(1048576:Int)<code.length
 ·simp-implicitDefEqProofs[hc]
 simp-implicitDefEqProofs[hc];refine(JG G (Li G code hb) Js (by simp) _).mono ?_;rintro r h ⟨⟨l,rfl,hz⟩,rfl⟩;simp-implicitDefEqProofs[aa];have W9:=Fi G hK hS l (by omega);have S6:=Hn G l (by omega);have R9:aD (gJ l)<=1073741824:=abe (Ow l) (by omega);refine W9.use ?_;simp-implicitDefEqProofs[];refine S6.use ?_
 by_cases h0:am l=0
 case neg=>
  have hd:decide (am l=0)=false:=decide_eq_false h0;have F6:=jZ G [] [] (by simp[aD]) (by simp[aD]);rw[oC rfl] at F6;simp-implicitDefEqProofs[hd,orN];refine F6.use ?_;simp-implicitDefEqProofs[];refine F6.use ?_;simp-implicitDefEqProofs[]
 have hd:decide (am l=0)=true:=decide_eq_true h0;have F6:=jZ G (gJ l) (gJ l) R9 R9;rw[oC rfl] at F6;have hinp:=BH G hT hK hS l (by omega);have F3:=JD l;have G1:∀L,nsL L= .lst 1 (L.map λx=>[bx x]):=λ_=>rfl
 have hcx:=JR h0;have hpx:aY l=true:=((om l).1 h0).1;have hpf:aY (gJ l)=true:=((om _).1 hcx).1;have hcp:=nH G hK hS (gJ l) R9;have hs1:=CV G hK hS l (by omega);have hs2:=CV G hK hS (gJ l) R9;rw[if_pos hpx] at hs1;rw[if_pos hpf] at hs2;have R3:(jw (gJ l):Int)<=(jw l:Int):=by have:=Jf l;omega
 rw[hcx] at hcp;have C7:∀us∈zF l,gU l us=true/\us.length<=3:=λus h=>Gy h0 h
 have hox:∀us,gU l us=true->gU (gJ l) us=true:=λus h=>Gq (λ_=>rfl) hcx h
 have A0:(gJ l).length=l.length:=by simp[gJ]
 have Q5:∀(us:List Int) (s':S5) (r:O5 Int),us.length<=3->gU l us=true->RunI G l us 4000 s' r->∃t' q,RunI G (gJ l) us 4000 t' q/\(r≠ .st 3->q=r/\Ge t' s'):=λus s' r hu ho R=>by
  by_cases h3:r= .st 3
  ·obtain⟨t',q,R2⟩:=Wz G hK hS (l:=gJ l) (us:=us) (fZ:=4000) R9 (by omega) (hox us ho) (aa3 _);exact⟨t',q,R2,λh=>absurd h3 h⟩
  ·obtain⟨t',g,e⟩:=Uf R.ev h3;rw[←A0] at e;exact⟨t',r,Hi G hK hS R9 (by omega) (hox us ho) (aa3 _) e,λ_=>⟨rfl,g⟩⟩
 simp-implicitDefEqProofs[hd,orN];refine F6.use ?_;simp-implicitDefEqProofs[];refine hinp.use ?_;generalize zF l=L at*
 generalize gJ l=x at*
 simp-implicitDefEqProofs[G1];refine aJ (λi:Nat=>ah 115 [(3,.ptr 0 1 0 0),(4,.ptr 1 1 0 0),(53,.p (nsL L)),(54,.p (.int .i64 L.length)),(55,.p (.int .i64 i))]) (λ_=>[.row 1 [[.p (fdL l)]],.row 1 [[.p (fdL x)]]]) (λi=>i<=L.length) (λi=>L.length-i) 0 (by simp) ?_ ?_
 ·refine cK [0,1] rfl (by simp) (bt rfl (by simp[Ξ,Ω]) (bt rfl (by simp[Ξ,Ω]) aP)) ?_;simp[Ω,ren,G1]
 intro i hi;simp-implicitDefEqProofs[G1];refine aU (λh1=>?_) (λh1=>?_)
 ·simp at h1;have hg:L[i]?=some L[i]:=Γ h1;obtain⟨ho,hul⟩:=C7 L[i] (aa2 h1);generalize L[i]=us at hg ho hul;obtain⟨s',r,R⟩:=Wz G hK hS (l:=l) (us:=us) (fZ:=4000) (by omega) (by omega) ho (aa3 _);obtain⟨t',q,R2,hq⟩:=Q5 us s' r hul ho R;have hn:=Vr G hK hS (by omega) (by omega) ho R;have hm:=Vr G hK hS R9 (by omega) (hox us ho) R2;have hi1:=R.impl;have M3:=R2.impl;have A8:=R.said;have F4:=R.cells;have J6:=R.left;have hle2:=R2.left;have him:=Nx G s'.said s'.cells (uy r) (LR r) (by omega) (by omega)
  by_cases h3:uy r=3
  ·rw[if_pos h3] at hn;simp-implicitDefEqProofs[hg];refine hn.use ?_;simp-implicitDefEqProofs[];refine hm.use ?_;simp-implicitDefEqProofs[];refine hi1.use ?_;simp-implicitDefEqProofs[yR];refine M3.use ?_;simp-implicitDefEqProofs[yR];refine⟨i+1,by omega,by omega,?_⟩;refine cK [0,1] rfl (by simp) (bt rfl (by simp[Ξ,Ω]) (bt rfl (by simp[Ξ,Ω]) aP)) ?_;simp[Ω,ren,G1,w1 (i:=i) (by omega)]
  ·rw[if_neg h3] at hn;obtain⟨rfl,g⟩:=hq λe=>h3 (endI_three.2 e)
   rw[if_neg h3] at hm;have g3:=g.left;have e1:yR t' q=yR s' q:=by simp only[yR,g.said,g.cells]
   rw[e1] at M3;have hN:(0:Int)<=((4000-s'.left:Nat):Int):=by omega
   have hM:¬((4000-t'.left:Nat):Int)<0:=by omega
   have hMN:¬(4000-s'.left)<(4000-t'.left):=by omega
   generalize 4000-s'.left=N at*
   generalize 4000-t'.left=M at*
   simp-implicitDefEqProofs[hg];refine hn.use ?_;simp-implicitDefEqProofs[];refine hm.use ?_;simp-implicitDefEqProofs[hMN];refine hi1.use ?_;simp-implicitDefEqProofs[yR];refine M3.use ?_;simp-implicitDefEqProofs[yR];refine him.use ?_;simp-implicitDefEqProofs[];refine⟨i+1,by omega,by omega,?_⟩;refine cK [0,1] rfl (by simp) (bt rfl (by simp[Ξ,Ω]) (bt rfl (by simp[Ξ,Ω]) aP)) ?_;simp[Ω,ren,G1,w1 (i:=i) (by omega)]
 ·simp-implicitDefEqProofs[];refine hcp.use ?_;simp-implicitDefEqProofs[];refine hs2.useQ ?_;simp-implicitDefEqProofs[];refine hs1.use ?_;simp-implicitDefEqProofs[R3]
end
end Go.Proofs.YtokiapglmedipaaGreatDoor
namespace Go.Proofs.YtokiapglmedipaaGreatDoor
open Go Go.Aw Go.ChangeShapes Go.WideShapes Go.ChangeAt Go.RowKit
set_option maxRecDepth 100000
abbrev VP:TypeId:=24
abbrev Yu:TypeId:=22
abbrev aay:TypeId:=122
abbrev VM:TypeId:=55
abbrev XQ:TypeId:=9
abbrev TE:TypeId:=120
abbrev WJ:TypeId:=206
abbrev Th:TypeId:=204
abbrev Vv:TypeId:=245
abbrev Vg:TypeId:=3
abbrev Vt:TypeId:=4
abbrev LI:TypeId:=160
abbrev QY:TypeId:=240
abbrev UJ:TypeId:=241
abbrev MZ:TypeId:=45
abbrev HN:TypeId:=5
theorem YH:Kids Tryz.prog (· <Tryz.prog.types.size):=kids_rows (by kernel_rfl) (by kernel_rfl)
theorem YI:∀t e,t<Tryz.prog.types.size->Tryz.prog.underlying t=some (.slice e)->0<Tryz.prog.cellsOf e:=slices_full_of Tryz.prog (by kernel_rfl)
def QK:List TypeId:=[VP,Yu,aay,VM,XQ,TE,WJ,Th,Vv,Vg,Vt,LI,QY]
theorem Sz:Plain Tryz.prog QK=true:=by kernel_rfl
theorem aac:ownKnob Tryz.prog.godebug=none:=by kernel_rfl
theorem Dv{H:Type}:∀l:List (DataW H),Rows.uptoBulkAll l=(l.map Rows.uptoBulk).sum
 |[]=>by simp[Rows.uptoBulkAll]
 |d::r=>by simp[Rows.uptoBulkAll,Dv r]
theorem TB{H:Type}:BulkOk (Rows.uptoBulk (H:=H)) where
 lit:=λl=>by cases l<;>simp[Rows.uptoBulk]
 str:=λs=>by simp[Rows.uptoBulk]
 nil:=by simp[Rows.uptoBulk]
 slice:=λes sp=>by simp only[Rows.uptoBulk,Dv];omega
 agg:=λps=>by simp only[Rows.uptoBulk,Dv];omega
theorem QG{t e:TypeId}{vs:List PV}(h:Conf Tryz.prog t vs)(hu:Tryz.prog.underlying t=some (.slice e)):∃es,vs=[.lst (Tryz.prog.cellsOf e) es]/\es.length<=9223372036854775807/\∀x∈es,Conf Tryz.prog e x:=by
 cases h with
 |sl es e' hl hs=>rw[hu] at e';cases e';exact⟨es,rfl,hl,hs⟩
 |bool b e=>rw[e] at hu;cases hu
 |int n e=>rw[e] at hu;cases hu
 |str s e=>rw[e] at hu;cases hu
 |st vs e=>rw[e] at hu;cases hu
 |arr vs e=>rw[e] at hu;cases hu
def G0:au:=λg=>if g=dc then some cU else if g=bv then some [.tbl opK opV] else none
theorem Wt:∀k,ku Tryz.prog (k+10) LI (Rows.laid_loop_example_wholeway_impl_keys (H:=Unit))=cU:=λk=>by kernel_rfl
theorem aah{W:World}{laid:List (String × DataW Unit)}(hL:laidMet Tryz.prog laid W)(h1:("loop.example/wholeway/impl.keys",Rows.laid_loop_example_wholeway_impl_keys)∈laid)(h2:("loop.example/wholeway/impl.opSign",Rows.laid_loop_example_wholeway_impl_opSign)∈laid):
 ∀g cs,G0 g=some cs->g<W.heap.size/\∀(j:Nat) (c:PV),cs[j]?=some c->∃v,W.cell? ⟨g,j,none⟩=some v/\PRel W (· <W.heap.size) c v:=by
 intro g cs h;unfold G0 at h;split at h
 ·rename_i e;subst e;cases h;exact Gs Sz hL (n:= "loop.example/wholeway/impl.keys") (d:=Rows.laid_loop_example_wholeway_impl_keys) (t:=LI) h1 (by kernel_rfl) (by kernel_rfl) (by decide) Wt
 ·split at h
  ·rename_i e;subst e;cases h;exact QD Sz hL (n:= "loop.example/wholeway/impl.opSign") h2 (t:=UJ) (k:=Vg) (e:=QY) (by kernel_rfl) (by kernel_rfl) (by kernel_rfl) (.inl ⟨.i64,by kernel_rfl⟩) (by decide) (by kernel_rfl) (by kernel_rfl) (λm=>by kernel_rfl)
  ·cases h
theorem Lw{vs:List PV}(h:Conf Tryz.prog MZ vs):∃l:List Int,vs=[ui l]/\l.length<=9223372036854775807/\Byt l:=by
 obtain⟨es,rfl,hl,h4⟩:=QG h (e:=HN) (by kernel_rfl);have hk:∀x∈es,∃n:Int,x=[PV.int .u8 n]/\(Lit.int .u8 n).wf=true:=λx hx=>SH (h4 x hx) (by kernel_rfl)
 obtain⟨l,rfl⟩:=Nu (λn:Int=>[PV.int .u8 n]) (λx hx=>by obtain⟨n,e,_⟩:=hk x hx;exact⟨n,e⟩);rw[show Tryz.prog.cellsOf HN=1 by kernel_rfl];refine⟨l,rfl,by rwa[abi] at hl,λn hn=>?_⟩;obtain⟨m,e,hw⟩:=hk [PV.int .u8 n] (abb.2 ⟨n,hn,rfl⟩);cases e;simp[Lit.wf,IntKind.min,IntKind.max,IntKind.bits,IntKind.signed] at hw;omega
end Go.Proofs.YtokiapglmedipaaGreatDoor
namespace Go.Proofs.YtokiapglmedipaaGreatDoor
open Go Go.Aw Go.ChangeShapes Go.WideShapes Go.ChangeAt Go.RowKit
set_option maxRecDepth 100000
abbrev Rn:TypeId:=154
abbrev WV:TypeId:=153
def NE:List TypeId:=Rn::WV::QK
theorem lP:Plain Tryz.prog NE=true:=by kernel_rfl
def KN:List TypeId:=MZ::HN::NE
theorem Tt:Plain Tryz.prog KN=true:=by kernel_rfl
def G0T:au:=λg=>if g=tL then some pvTries else G0 g
theorem TI:∀k,ku Tryz.prog (k+10) Rn (Rows.laid_loop_example_wholeway_impl_tries (H:=Unit))=pvTries:=λk=>by kernel_rfl
theorem aap{W:World}{laid:List (String × DataW Unit)}(hL:laidMet Tryz.prog laid W)(h1:("loop.example/wholeway/impl.keys",Rows.laid_loop_example_wholeway_impl_keys)∈laid)(h2:("loop.example/wholeway/impl.opSign",Rows.laid_loop_example_wholeway_impl_opSign)∈laid)(h3:("loop.example/wholeway/impl.tries",Rows.laid_loop_example_wholeway_impl_tries)∈laid):
 ∀g cs,G0T g=some cs->g<W.heap.size/\∀(j:Nat) (c:PV),cs[j]?=some c->∃v,W.cell? ⟨g,j,none⟩=some v/\PRel W (· <W.heap.size) c v:=by
 intro g cs h;unfold G0T at h;split at h
 ·rename_i e;subst e;cases h;exact Gs lP hL (n:= "loop.example/wholeway/impl.tries") (d:=Rows.laid_loop_example_wholeway_impl_tries) (t:=Rn) h3 (by kernel_rfl) (by kernel_rfl) (by decide) TI
 ·exact aah hL h1 h2 g cs h
end Go.Proofs.YtokiapglmedipaaGreatDoor
