/-
  Contracts and lemmas that the card needs, part 8.
-/
import Derived.Test.YtokiapglmedipaaGreatDoorCj7
namespace Go.Proofs.YtokiapglmedipaaGreatDoor
open Go Go.Aw
set_option maxRecDepth 100000
set_option maxHeartbeats 4000000
section
variable (G:au)
def PgQ(p n m:Nat)(v:AV)(q:Nat):Prop:=(∃l:List Fd,v= .agg [.p (fdL l)]/\aD l<=n)/\p<=q/\q<=p+m
theorem FW{h:List AO}{id sz:Nat}{rows:List (List AV)}{es:List (List PV)}(he:h[id]?=some (.row sz rows))(hl:rows.length=es.length)(hs:∀e∈es,e.length=sz)(hv:∀(i j:Nat) (e:List PV) (q:PV) (e':List AV) (a:AV),es[i]?=some e->e[j]?=some q->rows[i]?=some e'->e'[j]?=some a->View h a q){n:Nat}(hn:n=es.length):View h (.sl id sz 0 n) (.lst sz es):=by
 subst hn;exact .sl id sz 0 rows es he (by omega) hs λi j e q e' a a1 a2 a3 a4=>hv i j e q e' a a1 a2 (by rwa[abz] at a3) a4
theorem vL{h:List AO}{e:List PV}{j:Nat}{q:PV}{a:AV}(h1:e[j]?=some q)(h2:(e.map AV.p)[j]?=some a):View h a q:=by rw[aa8,h1] at h2;cases h2;exact .p _
theorem Of{h:List AO}{id k:Nat}{l:List Fd}{f:Fd}{P B:AV}(he:h[id]?=some (.row 3 ((aH l).set k [.p (.str f.name),P,B])))(hk:k<l.length)(hP:View h P (ay f.params))(hB:View h B (Θ f.body)){n:Nat}(hn:n=l.length):View h (.sl id 3 0 n) (fdL (l.set k f)):=by
 refine FW (es:=(l.set k f).map Fd.cs) he (by simp[aH]) (λe he=>by obtain⟨x,_,rfl⟩:=abb.1 he;simp) (λi j e q e' a a1 a2 a3 a4=>?_) (by simpa using hn);rw[aa8] at a1
 by_cases hik:k=i
 ·subst hik;rw[aa7 hk] at a1;rw[aa7 (by simpa[aH] using hk)] at a3;cases a1;cases a3;exact Ej (s:=f.name) (ps:=f.params) (bd:=f.body) hP hB j q a a2 a4
 ·rw[aaV hik] at a1 a3;obtain⟨g,g1,g2⟩:=aaU.1 a1;subst g2;rw[aH,aa8,g1] at a3;cases a3;exact vL a2 a4
theorem Po{h:List AO}{id:Nat}{l:List (List UInt8)}{s:List UInt8}(he:h[id]?=some (.row 1 (List.take l.length (l.map λw=>[AV.p (.str w)])++[[.p (.str s)]]))):View h (.sl id 1 0 (l.length+1)) (ay (l++[s])):=by
 have e:h[id]?=some (gq (l++[s])):=by rw[he,aaX (by simp)];simp[gq]
 have:=fV e;rwa[aa9,acH] at this
theorem Ad{h:List AO}{id:Nat}{l:List Sm}{s:Sm}{r:List AV}(he:h[id]?=some (.row 5 (List.take l.length (smR l)++[r])))(hr:∀(j:Nat) (q:PV) (a:AV),s.cs[j]?=some q->r[j]?=some a->View h a q):View h (.sl id 5 0 (l.length+1)) (Θ (l++[s])):=by
 have hl:=dj l;refine FW (es:=(l++[s]).map Sm.cs) he (by simp[hl]) (λe he=>by obtain⟨x,_,rfl⟩:=abb.1 he;simp) (λi j e q e' a a1 a2 a3 a4=>?_) (by simp);rw[aaX (by omega)] at a3;rw[abT] at a1;rcases abx i l.length with hi|hi
 ·rw[aaT (by simpa using hi)] at a1;rw[aaT (by omega)] at a3;rw[aa8] at a1;obtain⟨g,g1,g2⟩:=aaU.1 a1;subst g2;rw[smR,aa8,g1] at a3;cases a3;exact vL a2 a4
 ·rw[aa5 (by simpa using hi)] at a1;rw[aa5 (by omega),hl] at a3;simp only[abi] at a1;generalize i-l.length=k at a1 a3;cases k with
  |zero=>cases a1;cases a3;exact hr j q a a2 a4
  |succ k=>simp at a1
theorem SB{h:List AO}{id:Nat}{l:List Fd}{f:Fd}(he:h[id]?=some (.row 3 (List.take l.length (aH l)++[f.cs.map .p]))):View h (.sl id 3 0 (l.length+1)) (fdL (l++[f])):=by
 have hl:=nJ l;have:=tK (h:=h) (id:=id) (l:=l++[f]) (by rw[he,aaX (by omega)];simp[aH]);rwa[aa9,acH] at this
theorem KM(l:List Fd)(k:Nat)(f:Fd):aD (l.set k f)<=aD l+f.sz:=by
 by_cases hk:k<l.length
 ·rw[fY f hk];have e:l=l.take k++l.drop k:=(abq _ _).symm;have e2:l.drop k=l[k]::l.drop (k+1):=abC hk;have h1:aD l=aD (l.take k)+aD (l.drop k):=by rw[←lu,←e]
  rw[lu];have h3:aD (f::l.drop (k+1))=f.sz+aD (l.drop (k+1)):=by simp[aD]
  have h4:aD (l.drop k)=l[k].sz+aD (l.drop (k+1)):=by rw[e2];unfold aD;rw[abd,ab8]
  omega
 ·rw[acl (by omega)];omega
theorem Gm{l:List Fd}{f:Fd}(h:f∈l):f.sz<=aD l:=by
 induction l with
 |nil=>cases h
 |cons x r ih=>
  have e:aD (x::r)=x.sz+aD r:=by simp[aD]
  rcases aa6.1 h with rfl|h
  ·omega
  ·have:=ih h;omega
theorem Fa:AK.whole pa=FK.ak po:=rfl
structure NsS where (i:Nat) (o:Int) (w:List UInt8) (A B C:PV) (q:Nat)
structure BdS where (i:Nat) (bd:List Sm)
structure CfS where (f:Fd) (q:Nat)
theorem Rm{b:List Int}(hb:Byt b)(hl:b.length<=2000){p:Nat}(hp:p<=10000000000):AC Tryz.prog G pm [.ptr 0 2 0 0] [Ψ b p] λx h=>∃v q,x= .ret v/\h=[Ψ b q]/\PgQ p 500000000 200200000 v q:=by
 refine oI G (AC.goK FJ Fa ?_)
 have P8:AC Tryz.prog G dF [.ptr 0 2 0 0] [Ψ b p] λx h=>∃v q,x= .ret v/\h=[Ψ b q]/\((∃l:List Fd,v= .agg [.p (fdL l)]/\aY l=true/\aD l<=200000000)/\p<=q/\q<=p+200000000):=
  (Ly G hb hl hp).mono λx h ⟨l,q,e1,e2,e3,e4,e5,e6⟩=>⟨_,q,e1,e2,⟨l,rfl,e3,e4⟩,e5,e6⟩
 simp-implicitDefEqProofs[pa,po];refine(jC G P8 _ (by simp[Ω])).mono ?_;rintro r h ⟨v,q,rfl,rfl,⟨l,rfl,C7,hz⟩,h1,h2⟩;have A0:=((cT l).1 C7).1;obtain⟨n,hn⟩:∃n,l.length=n+1:=⟨l.length-1,by omega⟩;have G1:n<l.length:=by omega
 have K4:=Gm (aa2 G1);obtain⟨f,hfe⟩:∃f,l[n]=f:=⟨_,rfl⟩;rw[hfe] at K4;have hg:l[n]?=some f:=by rw[Γ G1,hfe]
 have fin:∀(r1:List (Nat × AV)) (f':Fd) (q':Nat) (rest:List AO) (P B:AV),Aw.look r1 0= .ptr 0 2 0 0->Aw.look r1 2= .ptr 1 1 0 0->Aw.look r1 3= .ptr 2 1 0 0->Aw.look r1 4= .ptr 3 3 0 0->View (.dead:: .dead:: .dead:: .dead::rest) P (ay f'.params)->View (.dead:: .dead:: .dead:: .dead::rest) B (Θ f'.body)->f'.sz<=300000000->q<=q'->q'<=q+100000->
  ∃s:CfS,(s.f.sz<=300000000/\q<=s.q/\s.q<=q+100000)/\Wk 1 (ah 145 r1) (Ψ b q':: .row 1 [[.nils]]:: .row 1 [[.p (.lst 3 (l.map Fd.cs))]]:: .row 3 [[.p (.str f'.name),P,B]]::rest) (ah 145 [(4,.ptr 3 3 0 0),(3,.ptr 2 1 0 0),(2,.ptr 1 1 0 0),(0,.ptr 0 2 0 0)])
   [Ψ b s.q,.row 1 [[.nils]],.row 1 [[.p (.lst 3 (l.map Fd.cs))]],.row 3 [[.p (.str s.f.name),.p (ay s.f.params),.p (Θ s.f.body)]]]:=λr1 f' q' rest P B e0 e2 e3 e4 hP hB hz' h3 h4=>
  ⟨⟨f',q'⟩,⟨hz',h3,h4⟩,cI 4 (by omega) (by simp) rfl (.same (bJ _ _ _) (.same (by simp[Ξ,Ω]) (.same (by simp[Ξ,Ω]) (.one (.keep (by simp[Ω]) (.one hP (.one hB .nil))) (.nil _))))) (by
    simp only[FzA,e0,e2,e3,e4];exact⟨.keep (by simp[Ω]) .nil,.keep (by simp[Ω]) .nil,.keep (by simp[Ω]) .nil,.keep (by simp[Ω]) .nil,trivial⟩)⟩
 have hfsz:f.sz=1+f.name.length+(f.params.length+(f.params.map List.length).sum)+aq f.body:=rfl;have hln:l.length<=4:=A0.2;have O9:=bF f.body;have E6:f.cs=[.str f.name,ay f.params,Θ f.body]:=rfl;have C4:fdL l= .lst 3 (l.map Fd.cs):=rfl;have hw:IntKind.i64.wrap ((l.length:Int)-1)=(n:Int):=by rw[ae (by omega) (by omega)];omega
 have A8:ay f.params= .lst 1 (f.params.map λw=>[.str w]):=rfl;have G8:Θ f.body= .lst 5 (f.body.map Sm.cs):=rfl;simp-implicitDefEqProofs[aa,C4,hw,hg,E6]
 refine rx (λ_:CfS=>ah 145 [(4,.ptr 3 3 0 0),(3,.ptr 2 1 0 0),(2,.ptr 1 1 0 0),(0,.ptr 0 2 0 0)]) (λs=>[Ψ b s.q,.row 1 [[.nils]],.row 1 [[.p (.lst 3 (l.map Fd.cs))]],.row 3 [[.p (.str s.f.name),.p (ay s.f.params),.p (Θ s.f.body)]]])
  (λs=>s.f.sz<=300000000/\q<=s.q/\s.q<=q+100000) ?_ ?_
 rotate_left
 ·rintro⟨f',q'⟩ ⟨h3,h4,h5⟩;simp only at h3 h4 h5;simp-implicitDefEqProofs[hw,G1,hfe,E6];exact⟨⟨by omega,by omega⟩,_,_,q',.agg [.p (fdL (l.set n f'))],rfl,rfl,.agg (.one (Of (f:=f') rfl G1 (.p _) (.p _) rfl) .nil) .nil,⟨_,rfl,by have:=KM l n f';omega⟩,by omega,by omega⟩
 simp-implicitDefEqProofs[];refine(aV G b hb hl q (by omega) 32 _).mono ?_;rintro r h ⟨k,rfl,rfl,_⟩
 by_cases k0:k=0
 ·subst k0;simp-implicitDefEqProofs[aa];refine(ID G hb hl (p:=q+1) (by omega) [[102],[100,111],[],[103]] (k:=4) (by simp) (by simp) (by omega) rfl rfl).mono ?_;rintro r h ⟨s,hs,rfl,rfl⟩;have hs8:s.length<=8:=by simp at hs;rcases hs with rfl|rfl|rfl|rfl<;>simp
  simp-implicitDefEqProofs[aa];exact fin _ ⟨s,f.params,f.body⟩ _ _ _ _ (by simp) (by simp) (by simp) (by simp) (.p _) (.p _) (by simp only[Fd.sz];omega) (by omega) (by omega)
 by_cases k1:k=1
 ·subst k1;simp-implicitDefEqProofs[aa,A8];refine⟨⟨by omega,by omega⟩,?_⟩;refine(ID G hb hl (p:=q+1) (by omega) [[97],[120],[105,102]] (k:=6) (by simp) (by simp) (by omega) rfl rfl).mono ?_;rintro r h ⟨s,hs,rfl,rfl⟩;have hs8:s.length<=8:=by simp at hs;rcases hs with rfl|rfl|rfl<;>simp
  simp-implicitDefEqProofs[aa];refine⟨⟨by omega,by omega⟩,?_⟩;exact fin _ ⟨f.name,f.params++[s],f.body⟩ _ _ _ _ (by simp) (by simp) (by simp) (by simp) (Po rfl) (.p _) (by simp[Fd.sz];omega) (by omega) (by omega)
 by_cases k2:k=2
 ·subst k2;simp-implicitDefEqProofs[aa,G8];refine⟨⟨by omega,by omega⟩,?_⟩;refine(jC G (Rb G hb hl (p:=q+1) (by omega)) _ (by simp[Ω])).mono ?_;rintro r h ⟨v,q2,rfl,rfl,⟨e,rfl,he⟩,h3,h4⟩;have B9:=e.cs_eq;simp-implicitDefEqProofs[aa,B9];refine⟨⟨by omega,by omega⟩,?_⟩;exact fin _ ⟨f.name,f.params,f.body++[⟨3,[],[e],[],[]⟩]⟩ _ _ _ _ (by simp) (by simp) (by simp) (by simp) (.p _) (Ad rfl (db (fS (l:=[e]) (by rw[abD,B9];rfl)) (View.nils 5) (View.nils 5))) (by simp[Fd.sz,bE,aq,Sm.sz,br];omega) (by omega) (by omega)
 by_cases k3:k=3
 ·subst k3;simp-implicitDefEqProofs[aa,G8];refine⟨⟨by omega,by omega⟩,?_⟩;refine(aV G b hb hl (q+1) (by omega) 10 _).mono ?_;rintro r h ⟨o,rfl,rfl,_⟩;simp-implicitDefEqProofs[aa];refine(ID G hb hl (p:=q+1+1) (by omega) [[],[97],[122,122]] (k:=6) (by simp) (by simp) (by omega) rfl rfl).mono ?_;rintro r h ⟨s,hs,rfl,rfl⟩;have hs8:s.length<=8:=by simp at hs;rcases hs with rfl|rfl|rfl<;>simp
  simp-implicitDefEqProofs[aa];refine(CD G (Io G hb hl (d:=1) (by omega) (p:=q+1+1+1) (by omega)) _ (by simp[Ω])).mono ?_;rintro r h ⟨e,q2,rfl,rfl,he,h3,h4⟩;simp-implicitDefEqProofs[aa];refine⟨⟨by omega,by omega⟩,?_⟩;obtain⟨eo,en,es,ek⟩:=e;exact fin _ ⟨f.name,f.params,f.body++[⟨o,s,[⟨eo,en,es,ek⟩],[],[]⟩]⟩ _ _ _ _ (by simp) (by simp) (by simp) (by simp) (.p _) (Ad rfl (db (bR (p0:=(Ex.mk eo en es ek).cs) rfl (Ex.cs_len _) (kj (jG rfl))) (View.nils 5) (View.nils 5))) (by simp[Fd.sz,bE,aq,Sm.sz,br];omega) (by omega) (by omega)
 by_cases k5:k=5
 ·subst k5;simp-implicitDefEqProofs[aa];exact⟨_,_,q+1,.agg [.p (fdL [])],rfl,rfl,.agg (.one (View.nils 3) .nil) .nil,⟨[],rfl,by simp[aD]⟩,by omega,by omega⟩
 by_cases k7:k=7
 ·subst k7;simp-implicitDefEqProofs[aa,C4];have hl0:0<l.length:=by omega
  have hf0:=Gm (aa2 hl0);obtain⟨f0,hg0,hf0⟩:∃f0,l[0]?=some f0/\f0.sz<=aD l:=⟨_,Γ hl0,hf0⟩;have L4:f0.cs=[.str f0.name,ay f0.params,Θ f0.body]:=rfl;have V4:aD (l++[f0])=aD l+f0.sz:=by rw[lu];simp[aD]
  simp-implicitDefEqProofs[hg0,L4];exact⟨⟨by omega,by omega⟩,⟨by omega,by omega⟩,_,_,q+1,.agg [.p (fdL (l++[f0]))],rfl,rfl,.agg (.one (SB rfl) .nil) .nil,⟨_,rfl,by omega⟩,by omega,by omega⟩
 by_cases k4:k=4
 ·subst k4;simp-implicitDefEqProofs[aa]
  refine rx (λ_:NsS=>ah 145 [(5,.ptr 5 5 0 0),(4,.ptr 3 3 0 0),(3,.ptr 2 1 0 0),(2,.ptr 1 1 0 0),(0,.ptr 0 2 0 0)])
   (λa=>[Ψ b a.q,.row 1 [[.nils]],.row 1 [[.p (.lst 3 (l.map Fd.cs))]],.row 3 [[.p (.str f.name),.p (ay f.params),.p (Θ f.body)]],.dead,.row 5 [[.p (.int .i64 a.o),.p (.str a.w),.p a.A,.p a.B,.p a.C]]])
   (λa=>(∃s:Sm,s.cs=[.int .i64 a.o,.str a.w,a.A,a.B,a.C]/\br s.args<=1/\s.sz+2*a.i<=20)/\q+2<=a.q/\a.q+a.i<=q+10) ?_ ?_
  rotate_left
  ·rintro⟨i,o,w,A,B,C,q1⟩ ⟨⟨s,F7,j1,j2⟩,j3,j4⟩;simp only at F7 j1 j2 j3 j4;have hss:∀(h:List AO) (id:Nat),h[id]?=some (.row 5 (List.take f.body.length (smR f.body)++[[.p (.int .i64 o),.p (.str w),.p A,.p B,.p C]]))->View h (.sl id 5 0 (f.body.length+1)) (Θ (f.body++[s])):=λh id e=>Ad e (λj q a a1 a2=>vL (e:=[.int .i64 o,.str w,A,B,C]) (F7▸a1) a2)
   simp-implicitDefEqProofs[G8];refine⟨⟨by omega,by omega⟩,⟨by omega,by omega⟩,?_⟩;exact fin _ ⟨f.name,f.params,f.body++[s]⟩ _ _ _ _ (by simp) (by simp) (by simp) (by simp) (.p _) (hss _ _ rfl) (by simp[Fd.sz,bE,aq];omega) (by omega) (by omega)
  simp-implicitDefEqProofs[];refine(aV G b hb hl (q+1) (by omega) 5 _).mono ?_;rintro r h ⟨i0,rfl,rfl,Q3⟩;simp-implicitDefEqProofs[aa];have hs0:(Sm.mk 6 [] [⟨1,0,[],[]⟩] [] []).cs=[.int .i64 6,.str [],Φ [⟨1,0,[],[]⟩],Θ [],Θ []]:=Sm.cs_eq _
  refine aJ (λa:NsS=>ah 145 [(6,.p (.int .i64 a.i)),(5,.ptr 5 5 0 0),(4,.ptr 3 3 0 0),(3,.ptr 2 1 0 0),(2,.ptr 1 1 0 0),(0,.ptr 0 2 0 0)])
   (λa=>[Ψ b a.q,.row 1 [[.nils]],.row 1 [[.p (.lst 3 (l.map Fd.cs))]],.row 3 [[.p (.str f.name),.p (ay f.params),.p (Θ f.body)]],.dead,.row 5 [[.p (.int .i64 a.o),.p (.str a.w),.p a.A,.p a.B,.p a.C]]])
   (λa=>(∃s:Sm,s.cs=[.int .i64 a.o,.str a.w,a.A,a.B,a.C]/\br s.args<=1/\s.sz+2*a.i<=20)/\q+2<=a.q/\a.q+a.i<=q+10) (λa=>a.i) ⟨i0,6,[],Φ [⟨1,0,[],[]⟩],Θ [],Θ [],q+1+1⟩ ⟨⟨_,hs0,by simp[Sm.args,br,Ex.sz],by simp[Sm.sz,br,Ex.sz,aq];omega⟩,by simp only;omega,by simp only;omega⟩ ?_ ?_
  ·refine sZ (hX:=[.dead,.dead,.dead,.dead,.row 4 [[.p (.int .i64 1),.p (.int .i64 0),.p (.str []),.nils]],.dead]) (by simp)
    (.same (bJ _ _ _) (.same (by simp[Ξ,Ω]) (.same (by simp[Ξ,Ω]) (.same (by simp[Ξ,Ω]) (.give (.one ?_ .nil)))))) ?_
   ·exact .keep (by simp[Ω]) (.keep (by simp[Ω]) (.one (bR (p0:=(Ex.mk 1 0 [] []).cs) rfl (Ex.cs_len _) (kj (View.nils 4))) (.one (View.nils 5) (.one (View.nils 5) .nil))))
   ·exact⟨.keep (by simp[Ω]) .nil,.keep (by simp[Ω]) .nil,.keep (by simp[Ω]) .nil,.keep (by simp[Ω]) .nil,.keep (by simp[Ω]) .nil,.keep (by simp[Ω]) .nil,trivial⟩
  rintro⟨i,o,w,A,B,C,q1⟩ ⟨⟨s,F7,j1,j2⟩,j3,j4⟩;simp only at F7 j1 j2 j3 j4
  have hcs1:∀n:Int,(Sm.mk n [] s.args [s] []).cs=[.int .i64 n,.str [],A,.lst 5 [[.int .i64 o,.str w,A,B,C]],.lst 5 []]:=λn=>by
   have hsa:=s.cs_eq;rw[F7] at hsa;simp only[List.cons.injEq] at hsa;rw[Sm.cs_eq];simp only[Sm.op,Sm.name,Sm.args,Sm.body,Sm.els];rw[←F7,hsa.2.2.1];rfl
  have D0:∀n:Int,(Sm.mk n [] s.args [s] []).sz=1+br s.args+s.sz:=λn=>by simp[Sm.sz,aq]
  simp-implicitDefEqProofs[];refine aU (λhc=>?_) (λhc=>?_)
  ·simp at hc;simp-implicitDefEqProofs[];refine(HQ G hb hl (p:=q1) (by omega) [5,6] (by simp) (by simp) _).mono ?_;rintro r h ⟨n1,_,rfl,rfl⟩;have hwk:IntKind.i64.wrap ((i:Int)-1)=((i-1:Nat):Int):=by rw[ae (by omega) (by omega)];omega
   simp-implicitDefEqProofs[aa];refine⟨⟨i-1,n1,[],A,.lst 5 [[.int .i64 o,.str w,A,B,C]],.lst 5 [],q1+1⟩,⟨⟨_,hcs1 n1,j1,by simp only[D0];omega⟩,by simp only;omega,by simp only;omega⟩,by simp only;omega,?_⟩;refine sZ (hX:=[.dead,.dead,.dead,.dead,.dead,.dead]) (by simp) (.same (bJ _ _ _) (.same (by simp[Ξ,Ω]) (.same (by simp[Ξ,Ω]) (.same (by simp[Ξ,Ω]) (.drop (.one (.keep (by simp[Ω]) (.keep (by simp[Ω]) (.keep (by simp[Ω]) (.keep (by simp[Ω]) (.one (View.nils 5) .nil))))) .nil)))))) ?_;simp only[hwk];exact⟨.keep (by simp[Ω]) .nil,.keep (by simp[Ω]) .nil,.keep (by simp[Ω]) .nil,.keep (by simp[Ω]) .nil,.keep (by simp[Ω]) .nil,.keep (by simp[Ω]) .nil,trivial⟩
  ·simp at hc;exact⟨⟨i,o,w,A,B,C,q1⟩,⟨⟨s,F7,j1,j2⟩,j3,j4⟩,jx (m:=6) (by simp) (fp rfl rfl (ag (bJ _ _ _) (ag (by simp[Ξ,Ω]) (ag (by simp[Ξ,Ω]) (ag (by simp[Ξ,Ω]) (ag (by simp[Ξ]) (ag (by simp[Ξ,Ω]) dZ))))))) (by simp[Ω])⟩
 by_cases k6:k=6
 ·subst k6;simp-implicitDefEqProofs[aa];refine(mj G hb hl (p:=q+1) (by omega) [20,40,41] (k:=4) (by simp) (by simp) (by omega) rfl rfl).mono ?_;rintro r h ⟨i0,Q3,rfl,rfl⟩;obtain⟨i,rfl,hi⟩:∃J:Nat,i0=J/\J<=41:=⟨i0.toNat,by simp at Q3;omega,by simp at Q3;omega⟩;simp-implicitDefEqProofs[aa]
  refine aJ (λa:BdS=>ah 145 [(7,.p (.int .i64 a.i)),(4,.ptr 3 3 0 0),(3,.ptr 2 1 0 0),(2,.ptr 1 1 0 0),(0,.ptr 0 2 0 0)])
   (λa=>[Ψ b (q+1+1),.row 1 [[.nils]],.row 1 [[.p (.lst 3 (l.map Fd.cs))]],.row 3 [[.p (.str f.name),.p (ay f.params),.p (Θ a.bd)]]])
   (λa=>a.i<=41/\aq a.bd+10*a.i<=aq f.body+500) (λa=>a.i) ⟨i,f.body⟩ ⟨hi,by simp only;omega⟩ ?_ ?_
  ·exact jx (m:=4) (by simp) (fp rfl rfl (ag (bJ _ _ _) (ag (by simp[Ξ,Ω]) (ag (by simp[Ξ,Ω]) (ag (by simp[Ξ,Ω]) dZ))))) (by simp[Ω])
  rintro⟨i1,bd⟩ ⟨j1,j2⟩;simp only at j1 j2;have hbl2:=bF bd;have hml2:Θ bd= .lst 5 (bd.map Sm.cs):=rfl;simp-implicitDefEqProofs[hml2];refine aU (λhc=>?_) (λhc=>?_)
  ·simp at hc;have hwk:IntKind.i64.wrap ((i1:Int)-1)=((i1-1:Nat):Int):=by rw[ae (by omega) (by omega)];omega
   simp-implicitDefEqProofs[hml2];refine⟨⟨by omega,by omega⟩,⟨by omega,by omega⟩,⟨i1-1,bd++[⟨3,[],[⟨1,i1,[],[]⟩],[],[]⟩]⟩,⟨by simp only;omega,by simp[bE,aq,Sm.sz,br,Ex.sz];omega⟩,by simp only;omega,?_⟩;refine cI 4 (by omega) (by simp) rfl (.same (bJ _ _ _) (.same (by simp[Ξ,Ω]) (.same (by simp[Ξ,Ω]) (.one (.keep (by simp[Ω]) (.keep (by simp[Ω]) (.one (Ad rfl (db (bR (p0:=(Ex.mk 1 i1 [] []).cs) rfl (Ex.cs_len _) (kj (View.nils 4))) (View.nils 5) (View.nils 5))) .nil))) (.nil _))))) ?_;simp only[hwk];exact⟨.keep (by simp[Ω]) .nil,.keep (by simp[Ω]) .nil,.keep (by simp[Ω]) .nil,.keep (by simp[Ω]) .nil,.keep (by simp[Ω]) .nil,trivial⟩
  ·simp at hc;exact fin _ ⟨f.name,f.params,bd⟩ _ _ _ _ (by simp) (by simp) (by simp) (by simp) (.p _) (.p _) (by simp[Fd.sz];omega) (by omega) (by omega)
 have c1:¬(k:Int)=1:=by omega
 have c2:¬(k:Int)=2:=by omega
 have c3:¬(k:Int)=3:=by omega
 have c4:¬(k:Int)=4:=by omega
 have c5:¬(k:Int)=5:=by omega
 have c6:¬(k:Int)=6:=by omega
 have c7:¬(k:Int)=7:=by omega
 simp-implicitDefEqProofs[aa,k0,c1,c2,c3,c4,c5,c6,c7];exact fin _ ⟨f.name,f.params,f.body⟩ _ _ _ _ (by simp) (by simp) (by simp) (by simp) (.p _) (.p _) (by simp only[Fd.sz];omega) (by omega) (by omega)
end
section
variable (G:au)
def PshF(s:Bool)(sz:Nat)(D:List (List PV))(h0:List AO)(a:PshS):Prop:=a.i<=D.length/\h0.length<=a.id/\h0.length<=a.h.length/\(∀j,j<h0.length->a.h[j]?=h0[j]?)/\∃rows J,RowOwn s a.h a.id sz rows (D.take a.i) J/\∀j∈J,h0.length<=j
theorem EU{h h2:List AO}(hl:h.length<=h2.length)(hf:∀j,j<h.length->h2[j]?=h[j]?):h2=h++h2.drop h.length:=by
 have e:h2.take h.length=h:=by
  apply ab4;intro j
  by_cases hj:j<h.length
  ·rw[acJ hj];exact hf j hj
  ·rw[abB (by rw[abg];omega),abB (by omega)]
 have e2:=abq h.length h2;rw[e] at e2;exact e2.symm
theorem PshF.init{s:Bool}{sz:Nat}{D:List (List PV)}(h0 os:List AO):PshF s sz D h0 ⟨0,h0.length,h0++ .row sz []::os⟩:=
 ⟨abN _,aa3 _,by simp,λj hj=>aaT hj,[],[],⟨by simp,rfl,λ_ h=>(by cases h),λ_ h=>(by cases h),.nil,by simp⟩,λj hj=>by cases hj⟩
theorem PshF.step{s:Bool}{sz i id:Nat}{D:List (List PV)}{h0 h:List AO}(H:PshF s sz D h0 ⟨i,id,h⟩){e:List PV}(hi:D[i]?=some e){h2:List AO}(hl:h.length<=h2.length)(hf:∀j,j<h.length->h2[j]?=h[j]?){r':List AV}{I2:List Nat}(ho:OwnL s h2 r' e I2)(nd2:I2.Nodup)(hn:∀j∈I2,h.length<=j)(he:e.length=sz):
 ∃rows,(∀os,(h2++os)[id]?=some (.row sz rows))/\rows.length=i/\i<D.length/\id<h2.length/\∀os1 os2,PshF s sz D h0 ⟨i+1,(h2++os1).length,(h2++os1).set id .dead++ .row sz (rows++[r'])::os2⟩:=by
 obtain⟨h1,h3,h4,h5,rows,J,hr,hJ⟩:=H;have F3:i<D.length:=(Δ.1 hi).1;have A0:=hr.len;simp only at h1 h3 h4 h5 A0 hr;rw[abg,ab2 h1] at A0;have e2:=EU hl hf;have A7:=hr.lt;have h2e:h2[id]?=some (.row sz rows):=by rw[hf id A7];exact hr.here
 refine⟨rows,λos=>by rw[aaT (by omega)];exact h2e,A0,F3,by omega,λos1 os2=>⟨F3,by simp only[aa9];omega,by simp;omega,λj hj=>?_,rows++[r'],J++I2,?_,λj hj=>?_⟩⟩
 ·simp only;rw[aaT (by simp only[abu,aa9,abc];omega),aaV (by omega),aaT (by omega),hf j (by omega)];exact h5 j hj
 ·have hp:=(hr.push (h2:=h2++os1) (os:=h2.drop h.length++os1) (by rw[←abn,←e2]) (ho.more os1) nd2 hn he).more os2;have hd:D.take i++[e]=D.take (i+1):=by rw[acs,hi];rfl
  rw[hd,abn] at hp;exact hp
 ·rcases aaZ.1 hj with hj|hj
  ·exact hJ j hj
  ·have:=hn j hj;omega
theorem PshF.done{s:Bool}{sz i id:Nat}{D:List (List PV)}{h0 h:List AO}(H:PshF s sz D h0 ⟨i,id,h⟩)(hi:D.length<=i):h0.length<=h.length/\(∀j,j<h0.length->h[j]?=h0[j]?)/\∃I,OwnL s h [.sl id sz 0 i] [.lst sz D] I/\I.Nodup/\∀j∈I,h0.length<=j:=by
 obtain⟨h1,h3,h4,h5,rows,J,hr,hJ⟩:=H;simp only at h1 h3 h4 h5 hr;rw[aaX hi] at hr
 exact⟨h4,h5,id::J,hr.tree (by omega),hr.nd,λj hj=>by
  rcases aa6.1 hj with rfl|hj
  ·exact h3
  ·exact hJ j hj⟩
theorem Jr{s:Bool}{n:Nat}{h1 os:List AO}{a b:List AV}{c d:List PV}{I1 I2:List Nat}(H1:OwnL s h1 a c I1)(n1:I1.Nodup)(f1:∀i∈I1,n<=i)(H2:OwnL s (h1++os) b d I2)(n2:I2.Nodup)(f2:∀i∈I2,h1.length<=i)(hn:n<=h1.length):
 OwnL s (h1++os) (a++b) (c++d) (I1++I2)/\(I1++I2).Nodup/\∀i∈I1++I2,n<=i:=by
 refine⟨(H1.more os).app H2,?_,λi hi=>?_⟩
 ·rw[abE];refine⟨n1,n2,λa ha b hb e=>?_⟩;have:=H1.lt ha;have:=f2 b hb;omega
 ·rcases aaZ.1 hi with hi|hi
  ·exact f1 i hi
  ·have:=f2 i hi;omega
theorem DR{α:Type}(l:List α)(a b:α):(l++[a]).set l.length b=l++[b]:=by rw[acg _ _ (aa3 _),aca];rfl
theorem UQ{h:List AO}{s:Sm}{A B E:AV}{I:List Nat}(H:OwnL true h ([A]++[B]++[E]) ([Φ s.args]++[Θ s.body]++[Θ s.els]) I):OwnL true h [.p (.int .i64 s.op),.p (.str s.name),A,B,E] s.cs I:=by
 rw[s.cs_eq];exact .p _ (λ_=>rfl) (.p _ (λ_=>rfl) H)
theorem RF{s:Bool}{h:List AO}{v:AV}{q:PV}{I:List Nat}(H:OwnL s h [v] [q] I):v.cells=[v]/\v.isCell=true:=by
 cases H with
 |p=>exact⟨rfl,rfl⟩
 |nils=>exact⟨rfl,rfl⟩
 |sl=>exact⟨rfl,rfl⟩
theorem mH{s:Bool}{h:List AO}{v:AV}{q:PV}{I:List Nat}(H:OwnL s h [v] [q] I):(∃q',v= .p q')\/v= .nils\/∃a b n,v= .sl a b 0 n:=by
 cases H with
 |p q=>exact .inl ⟨_,rfl⟩
 |nils=>exact .inr (.inl rfl)
 |sl id sz n=>exact .inr (.inr ⟨_,_,_,rfl⟩)
theorem UG{s:Bool}{h:List AO}{e:Ex}{K:AV}{I:List Nat}(H:OwnL s h [K] [Φ e.kids] I):OwnL s h [.p (.int .i64 e.op),.p (.int .i64 e.n),.p (.str e.name),K] e.cs I:=by
 rw[e.cs_eq];exact .p _ (λ_=>rfl) (.p _ (λ_=>rfl) (.p _ (λ_=>rfl) H))
theorem Qy:∀(N:Nat) (e:Ex),e.sz<=N->e.sz<=1073741824->AC Tryz.prog G ln [.agg (e.cs.map .p)] [] (MkW .agg true e.cs):=by
 intro N
 induction N with
 |zero=>intro e he;have:=e.sz_eq;omega
 |succ N ih=>
  intro e he hb;have D0:=e.sz_eq;have G6:=bg e.kids;refine AC.go Fc ?_;have B9:=e.cs_eq;have A8:Φ e.kids= .lst 4 (e.kids.map Ex.cs):=rfl;simp-implicitDefEqProofs[uU,B9,A8];obtain⟨N7,ehb⟩:∃N7:List AO,N7=[.row 4 [[.p (.int .i64 e.op),.p (.int .i64 e.n),.p (.str e.name),.p (.lst 4 (e.kids.map Ex.cs))]],.row 4 [[.p (.int .i64 0),.p (.int .i64 0),.p (.str []),.nils]]]:=⟨_,rfl⟩
  have hini:PshF true 4 (e.kids.map Ex.cs) N7 ⟨0,2,[.row 4 [[.p (.int .i64 e.op),.p (.int .i64 e.n),.p (.str e.name),.p (.lst 4 (e.kids.map Ex.cs))]],.row 4 [[.p (.int .i64 0),.p (.int .i64 0),.p (.str []),.nils]],.row 4 []]⟩:=by rw[ehb];exact PshF.init _ []
  refine aJ (λa:PshS=>ah 25 [(4,.p (.int .i64 a.i)),(3,.sl a.id 4 0 a.i),(2,.ptr 1 4 0 0),(1,.ptr 0 4 0 0)]) (λa=>a.h) (PshF true 4 (e.kids.map Ex.cs) N7) (λa=>e.kids.length-a.i) _ hini ?_ ?_
  ·exact bO (by simp) (by simp[Ω])
  rintro⟨i,id,h'⟩ hJ;have hl0:N7.length=2:=by rw[ehb];rfl
  have g0:h'[0]?=some (.row 4 [[.p (.int .i64 e.op),.p (.int .i64 e.n),.p (.str e.name),.p (.lst 4 (e.kids.map Ex.cs))]]):=by rw[hJ.2.2.2.1 0 (by omega),ehb];rfl
  have g1:h'[1]?=some (.row 4 [[.p (.int .i64 0),.p (.int .i64 0),.p (.str []),.nils]]):=by rw[hJ.2.2.2.1 1 (by omega),ehb];rfl
  have H7:2<=h'.length:=by have:=hJ.2.2.1;simp only at this;omega
  simp-implicitDefEqProofs[g0];refine aU (λh1=>?_) (λh1=>?_)
  ·simp at h1;have hg:=Γ h1;have hm:=aQ (aa2 h1);have hH:=ih e.kids[i] (by omega) (by omega);have E6:=e.kids[i].cs_eq;have hDa:(e.kids.map Ex.cs)[i]?=some e.kids[i].cs:=by rw[aa8,hg];rfl
   generalize e.kids[i]=k at hg hH E6 hDa;have hA:=AC.mkLift CS hH (h:=h') (by rw[E6];simp);rw[E6] at hA;simp-implicitDefEqProofs[g0,hg,E6];refine hA.mono ?_;rintro r h2 ⟨vs,I2,os,rfl,e2,ho,nd,hf⟩;rw[←E6] at ho;obtain⟨rows,k1,k2,k3,k4,k5⟩:=hJ.step hDa (h2:=h2) (by rw[e2];simp) (λx hx=>by rw[e2,aaT hx]) ho nd hf k.cs_len;obtain⟨K,rfl,hK⟩:=LU ho;have Q7:=w1 (i:=i) (by omega);rcases mH hK with⟨q1,rfl⟩|rfl|⟨x1,x2,x3,rfl⟩
   ·have k6:=k5 [.row 4 [[.p (.int .i64 k.op),.p (.int .i64 k.n),.p (.str k.name),.p q1]]] [];simp-implicitDefEqProofs[aa,k1,k2];rw[aaX (l:=rows) (i:=i) (by omega)];refine⟨⟨by omega,by omega⟩,_,k6,by simp only;omega,bO (by simp) ?_⟩;simp[Ω,Q7]
   ·have k6:=k5 [.row 4 [[.p (.int .i64 k.op),.p (.int .i64 k.n),.p (.str k.name),.nils]]] [];simp-implicitDefEqProofs[aa,k1,k2];rw[aaX (l:=rows) (i:=i) (by omega)];refine⟨⟨by omega,by omega⟩,_,k6,by simp only;omega,bO (by simp) ?_⟩;simp[Ω,Q7]
   ·have k6:=k5 [.row 4 [[.p (.int .i64 k.op),.p (.int .i64 k.n),.p (.str k.name),.sl x1 x2 0 x3]]] [];simp-implicitDefEqProofs[aa,k1,k2];rw[aaX (l:=rows) (i:=i) (by omega)];refine⟨⟨by omega,by omega⟩,_,k6,by simp only;omega,bO (by simp) ?_⟩;simp[Ω,Q7]
  ·simp at h1;have E3:i=e.kids.length:=by have:=hJ.1;simp at this;omega
   obtain⟨d1,d2,I,ho,nd,hI⟩:=hJ.done (by simpa using h1);subst E3;have I5:0∉I:=λhm=>by have:=hI 0 hm;omega
   have J8:1∉I:=λhm=>by have:=hI 1 hm;omega
   have s0:∀x,(h'.set 0 x)[0]?=some x:=λx=>aa7 (by omega)
   have s1:∀x,(h'.set 0 x)[1]?=some (.row 4 [[.p (.int .i64 0),.p (.int .i64 0),.p (.str []),.nils]]):=λx=>by rw[aaV (by omega)];exact g1
   have s2:∀x y,((h'.set 0 x).set 1 y)[1]?=some y:=λx y=>aa7 (by rw[abu];omega)
   simp-implicitDefEqProofs[g0,g1,s0,s1,s2];rw[←A8,←B9];exact⟨_,I,rfl,UG ((ho.set_out I5 _).set_out J8 _),nd⟩
theorem AU:∀(N:Nat) (l:List Sm),aq l<N->aq l<=1073741824->AC Tryz.prog G dT [.p (Θ l)] [] (MkW eV true [Θ l]):=by
 intro N
 induction N with
 |zero=>intro l he;omega
 |succ N ih=>
  intro l hN hz;have A8:∀l,Θ l= .lst 5 (l.map Sm.cs):=λ_=>rfl
  have E7:=bF l;refine AC.go DF ?_;simp-implicitDefEqProofs[tk,A8];refine aJ (λa:PshS=>ah 52 [(4,.p (.int .i64 a.i)),(3,.sl a.id 5 0 a.i),(0,.p (Θ l))]) (λa=>a.h) (PshF true 5 (l.map Sm.cs) []) (λa=>l.length-a.i) ⟨0,0,[.row 5 []]⟩ (PshF.init [] []) ?_ ?_
  ·exact bO (by simp) (by simp[Ω,A8])
  rintro⟨i,id,hh⟩ hI;simp-implicitDefEqProofs[A8];refine aU (λh1=>?_) (λh1=>?_)
  ·simp at h1;have hg:=Γ h1;have hm:=ce (aa2 h1);have E6:=l[i].cs_eq;have F7:=l[i].sz_eq;have hD:(l.map Sm.cs)[i]?=some l[i].cs:=by rw[aa8,hg];rfl
   generalize l[i]=s at hg hm E6 F7 hD;simp-implicitDefEqProofs[hg,E6,DR];have A7:id<hh.length:=by obtain⟨_,_,_,_,_,_,hr,_⟩:=hI;exact hr.lt
   have X4:=bg s.args;have A3:Φ s.args= .lst 4 (s.args.map Ex.cs):=rfl;obtain⟨hb,ehb⟩:∃hb,hb=hh++[AO.row 5 [[.p (.int .i64 s.op),.p (.str s.name),.p (Φ s.args),.p (Θ s.body),.p (Θ s.els)]]]:=⟨_,rfl⟩;have O9:hb.length=hh.length+1:=by rw[ehb];simp
   have hbx:hb[hh.length]?=some (.row 5 [[.p (.int .i64 s.op),.p (.str s.name),.p (Φ s.args),.p (Θ s.body),.p (Θ s.els)]]):=by rw[ehb];simp
   have hini:PshF true 4 (s.args.map Ex.cs) hb ⟨0,hh.length+1,hh++[AO.row 5 [[.p (.int .i64 s.op),.p (.str s.name),.p (Φ s.args),.p (Θ s.body),.p (Θ s.els)]],.row 4 []]⟩:=by
    have:=PshF.init (s:=true) (sz:=4) (D:=s.args.map Ex.cs) hb [];rw[O9,ehb,abn] at this;rw[ehb];exact this
   refine aJ (λa:PshS=>ah 52 [(7,.p (.int .i64 a.i)),(6,.sl a.id 4 0 a.i),(5,.ptr hh.length 5 0 0),(4,.p (.int .i64 i)),(3,.sl id 5 0 i),(0,.p (Θ l))]) (λa=>a.h) (PshF true 4 (s.args.map Ex.cs) hb) (λa=>s.args.length-a.i) _ hini ?_ ?_
   ·refine bO (by simp) ?_;simp[Ω,A8];omega
   rintro⟨j,id2,h'⟩ hJ
   have hjb:h'[hh.length]?=some (.row 5 [[.p (.int .i64 s.op),.p (.str s.name),.p (Φ s.args),.p (Θ s.body),.p (Θ s.els)]]):=by rw[hJ.2.2.2.1 _ (by omega)];exact hbx
   have hlb:hh.length+1<=h'.length:=by have:=hJ.2.2.1;simp only at this;omega
   simp-implicitDefEqProofs[hjb,A3];refine aU (λh2=>?_) (λh2=>?_)
   ·simp at h2;have P3:=Γ h2;have hma:=aQ (aa2 h2);have hC:=Qy G _ s.args[j] (aa3 _) (by omega);have G7:=s.args[j].cs_eq;have hDa:(s.args.map Ex.cs)[j]?=some s.args[j].cs:=by rw[aa8,P3];rfl
    generalize s.args[j]=e at P3 hma hC G7 hDa;have hA:=AC.mkLift CS hC (h:=h') (by rw[G7];simp);rw[G7] at hA;simp-implicitDefEqProofs[hjb,P3,G7,A3];refine hA.mono ?_;rintro r h2 ⟨vs,I2,os,rfl,e2,ho,nd,hf⟩;rw[←G7] at ho;obtain⟨rows,k1,k2,k3,k4,k5⟩:=hJ.step hDa (h2:=h2) (by rw[e2];simp) (λx hx=>by rw[e2,aaT hx]) ho nd hf e.cs_len;obtain⟨K,rfl,hK⟩:=LU ho;have hwj:=w1 (i:=j) (by omega);have H7:h'.length<=h2.length:=by rw[e2];simp
    rcases mH hK with⟨q1,rfl⟩|rfl|⟨x1,x2,x3,rfl⟩
    ·have k6:=k5 [.row 4 [[.p (.int .i64 e.op),.p (.int .i64 e.n),.p (.str e.name),.p q1]]] [];simp-implicitDefEqProofs[aa,k1,k2];rw[aaX (l:=rows) (i:=j) (by omega)];refine⟨⟨by omega,by omega⟩,_,k6,by simp only;omega,bO (by simp) ?_⟩;simp[Ω,A8,hwj];omega
    ·have k6:=k5 [.row 4 [[.p (.int .i64 e.op),.p (.int .i64 e.n),.p (.str e.name),.nils]]] [];simp-implicitDefEqProofs[aa,k1,k2];rw[aaX (l:=rows) (i:=j) (by omega)];refine⟨⟨by omega,by omega⟩,_,k6,by simp only;omega,bO (by simp) ?_⟩;simp[Ω,A8,hwj];omega
    ·have k6:=k5 [.row 4 [[.p (.int .i64 e.op),.p (.int .i64 e.n),.p (.str e.name),.sl x1 x2 0 x3]]] [];simp-implicitDefEqProofs[aa,k1,k2];rw[aaX (l:=rows) (i:=j) (by omega)];refine⟨⟨by omega,by omega⟩,_,k6,by simp only;omega,bO (by simp) ?_⟩;simp[Ω,A8,hwj];omega
   ·simp at h2;have D8:j=s.args.length:=by have:=hJ.1;simp at this;omega
    obtain⟨d1,d2,IA,oA,nA,fA⟩:=hJ.done (by simpa using h2);subst D8;have hB:=ih s.body (by omega) (by omega);have hE:=ih s.els (by omega) (by omega);simp-implicitDefEqProofs[hjb];refine(AC.mkLift ow hB (h:=h') (by simp)).mono ?_;rintro r h3 ⟨vB,IB,o1,rfl,e3,oB,nB,fB⟩;obtain⟨B,rfl⟩:=fK oB
    have hjb3:h3[hh.length]?=some (.row 5 [[.p (.int .i64 s.op),.p (.str s.name),.p (Φ s.args),.p (Θ s.body),.p (Θ s.els)]]):=by rw[e3,aaT (by omega)];exact hjb
    simp-implicitDefEqProofs[aa,eV,hjb3];refine(AC.mkLift ow hE (h:=h3) (by simp)).mono ?_;rintro r h4 ⟨vE,IE,o2,rfl,e4,oE,nE,fE⟩;obtain⟨E,rfl⟩:=fK oE
    have hjb4:h4[hh.length]?=some (.row 5 [[.p (.int .i64 s.op),.p (.str s.name),.p (Φ s.args),.p (Θ s.body),.p (Θ s.els)]]):=by
     have:hh.length<h3.length:=(Δ.1 hjb3).1;rw[e4,aaT this];exact hjb3
    have cB:=mH oB;have cE:=mH oE;obtain⟨a1,a2,a3⟩:=Jr oA nA fA (by rw[←e3];exact oB) nB fB d1;rw[←e3] at a1;obtain⟨b1,b2,b3⟩:=Jr a1 a2 a3 (by rw[←e4];exact oE) nE fE (by rw[e3];simp;omega);rw[←e4] at b1;have hS:=UQ (s:=s) b1
    obtain⟨rows,k1,k2,k3,k4,k5⟩:=hI.step hD (h2:=h4) (by rw[e4,e3];simp;omega) (λx hx=>by rw[e4,aaT (by rw[e3];simp;omega),e3,aaT (by omega),d2 x (by omega),ehb,aaT hx]) hS b2 (λx hx=>by have:=b3 x hx;omega) s.cs_len
    have k6:=k5 [.row 5 [[.p (.int .i64 s.op),.p (.str s.name),.sl id2 4 0 s.args.length,B,E]]] [];have Q7:=w1 (i:=i) (by omega);rcases cB with⟨q1,rfl⟩|rfl|⟨x1,x2,x3,rfl⟩<;>rcases cE with⟨q2,rfl⟩|rfl|⟨y1,y2,y3,rfl⟩<;>
    ·simp-implicitDefEqProofs[aa,eV,hjb4,k1,k2];rw[aaX (l:=rows) (i:=i) (by omega)];refine⟨⟨by omega,by omega⟩,_,k6,by simp only;omega,bO (by simp) ?_⟩;simp[Ω,A8,Q7]
  ·simp at h1;obtain⟨_,_,I,ho,nd,_⟩:=hI.done (by simpa using h1);have E3:i=l.length:=by have:=hI.1;simp at this;omega
   subst E3;simp-implicitDefEqProofs[];exact⟨_,I,rfl,ho,nd⟩
def cpK(a:PshS):AV:=if a.i=0 then .nils else .sl a.id 3 0 a.i
def CpI(l:List Fd)(a:PshS):Prop:=a.i<=l.length/\a.h[0]?=some (.row 1 [[.p (fdL l)]])/\a.h[1]?=some (.row 1 [[.nils]])/\a.h[2]?=some (.row 1 [[cpK a]])/\
 (0<a.i->3<=a.id/\∃rows J,RowOwn true a.h a.id 3 rows ((l.map Fd.cs).take a.i) J/\∀j∈J,3<=j)
theorem py:∀l:List Fd,l.length<=aD l
 |[]=>aa3 _
 |f::r=>by
  have:=py r;have h1:aD (f::r)=f.sz+aD r:=by simp[aD]
  have h2:f.sz=1+f.name.length+(f.params.length+(f.params.map List.length).sum)+aq f.body:=rfl;simp only[abc];omega
theorem Jl{h:List AO}{id:Nat}{l:List (List UInt8)}(e:h[id]?=some (gq l)){n:Nat}(hn:n=l.length):OwnL true h [.sl id 1 0 n] [ay l] [id]:=by
 have hr:RowOwn true h id 1 (l.map λw=>[AV.p (.str w)]) (l.map λw=>[PV.str w]) []:=by
  refine⟨e,by simp,λx hx=>by obtain⟨w,_,rfl⟩:=abb.1 hx;rfl,λx hx=>by obtain⟨w,_,rfl⟩:=abb.1 hx;rfl,?_,by simp⟩;clear e hn
  induction l with
  |nil=>exact .nil
  |cons w r ih=>exact .p _ (λ_=>rfl) ih
 exact hr.tree (by simpa using hn)
theorem RY{h3:List AO}(hl:3<=h3.length){r:List AV}{f:Fd}{I2:List Nat}(ho:OwnL true h3 r f.cs I2)(nd:I2.Nodup)(hf:∀j∈I2,3<=j)(o x:AO):∃J,RowOwn true ((h3++[o,.row 3 [r]]).set 2 x) (h3.length+1) 3 [r] [f.cs] J/\∀j∈J,3<=j:=by
 have hr:r.length=3:=by rw[ho.len,Fd.cs_len]
 refine⟨I2,⟨?_,rfl,λe he=>by rw[aa0.1 he];exact hr,λe he=>by rw[aa0.1 he];exact Fd.cs_len f,?_,?_⟩,hf⟩
 ·rw[aaV (by omega),aa5 (by omega),abI];rfl
 ·have:=(ho.more [o,.row 3 [r]]).set_out (λhm=>by have:=hf 2 hm;omega:2∉I2) x;simpa using this
 ·rw[aby];exact⟨λhm=>by have:=ho.lt hm;omega,nd⟩
theorem Ux{h h3:List AO}{id:Nat}{rows:List (List AV)}{D:List (List PV)}{J:List Nat}(H:RowOwn true h id 3 rows D J)(hJ:∀j∈J,3<=j)(A7:3<=id)(hh:3<=h.length)(e3:h3=h++h3.drop h.length){r:List AV}{f:Fd}{I2:List Nat}(ho:OwnL true h3 r f.cs I2)(nd:I2.Nodup)(hf:∀j∈I2,h.length<=j)(o x:AO):
 ∃J,RowOwn true (((h3++[o]).set id .dead++[AO.row 3 (rows++[r])]).set 2 x) (h3.length+1) 3 (rows++[r]) (D++[f.cs]) J/\∀j∈J,3<=j:=by
 have hp:=H.push (h2:=h3++[o]) (os:=h3.drop h.length++[o]) (by rw[←abn,←e3]) (ho.more [o]) nd hf (Fd.cs_len f);have hl:(h3++[o]).length=h3.length+1:=by simp
 rw[hl] at hp;have hl3:h.length<=h3.length:=by rw[e3];simp
 refine⟨J++I2,hp.frame λk hk=>?_,λj hj=>?_⟩
 ·have:3<=k:=by
   rcases aa6.1 hk with rfl|hk
   ·omega
   ·rcases aaZ.1 hk with hk|hk
    ·exact hJ k hk
    ·have:=hf k hk;omega
  rw[aaV (by omega)]
 ·rcases aaZ.1 hj with hj|hj
  ·exact hJ j hj
  ·have:=hf j hj;omega
theorem JC(l:List Fd)(hz:aD l<=1073741824):AC Tryz.prog G fT [.agg [.p (fdL l)]] [] (MkW .agg true [fdL l]):=by
 have C4:∀l,fdL l= .lst 3 (l.map Fd.cs):=λ_=>rfl
 have E7:l.length<=aD l:=py l;refine AC.go uY ?_;simp-implicitDefEqProofs[pc,C4];refine aJ (λa:PshS=>ah 35 [(4,.p (.int .i64 a.i)),(3,.ptr 2 1 0 0),(2,.ptr 1 1 0 0),(1,.ptr 0 1 0 0)]) (λa=>a.h) (CpI l) (λa=>l.length-a.i) ⟨0,0,[.row 1 [[.p (fdL l)]],.row 1 [[.nils]],.row 1 [[.nils]]]⟩ ⟨abN _,rfl,rfl,rfl,λh=>by simp at h⟩ ?_ ?_
 ·exact bO (by simp) (by simp[Ω])
 rintro⟨i,id,h⟩ ⟨i1,i2,i3,i4,i5⟩;simp only at i1 i2 i3 i4 i5;have hl3:3<=h.length:=by have:=(Δ.1 i4).1;omega
 have j2:∀os,(h++os)[0]?=some (.row 1 [[.p (fdL l)]]):=λos=>by rw[aaT (by omega)];exact i2
 have j4:∀os,(h++os)[2]?=some (.row 1 [[cpK ⟨i,id,h⟩]]):=λos=>by rw[aaT (by omega)];exact i4
 simp-implicitDefEqProofs[i2,C4];refine aU (λh1=>?_) (λh1=>?_)
 ·simp at h1;have hg:=Γ h1;have hm:=cL (aa2 h1);have hD:(l.map Fd.cs)[i]?=some l[i].cs:=by rw[aa8,hg];rfl
  generalize l[i]=f at hg hm hD;have E6:f.cs=[.str f.name,ay f.params,Θ f.body]:=rfl;have F6:ay f.params= .lst 1 (f.params.map λw=>[.str w]):=rfl;have K4:f.sz=1+f.name.length+(f.params.length+(f.params.map List.length).sum)+aq f.body:=rfl;have hB:=AU G _ f.body (aci _) (by omega)
  by_cases Q3:i=0
  ·subst Q3;have hk:cpK ⟨0,id,h⟩= .nils:=rfl;rw[hk] at j4 i4
   have fin0:∀(h3:List AO) (r:List AV) (I2:List Nat) (l0:List (Nat × AV)),h.length+3<=h3.length->(∀j,j<h.length->h3[j]?=h[j]?)->OwnL true h3 r f.cs I2->I2.Nodup->(∀j∈I2,h.length<=j)->∀(o:AO) (hw:Aw.look l0 4= .p (.int .i64 (IntKind.i64.wrap 1))/\Aw.look l0 3= .ptr 2 1 0 0/\Aw.look l0 2= .ptr 1 1 0 0/\Aw.look l0 1= .ptr 0 1 0 0),
    ∃a',CpI l a'/\l.length-a'.i<l.length/\Wk 0 (ah 35 l0) ((h3++[o,.row 3 [r]]).set 2 (.row 1 [[.sl (h3.length+1) 3 0 1]])) (ah 35 [(4,.p (.int .i64 a'.i)),(3,.ptr 2 1 0 0),(2,.ptr 1 1 0 0),(1,.ptr 0 1 0 0)]) a'.h:=by
    intro h3 r I2 l0 H6 M2 oR nR fR o ⟨e4,e3,e2,e1⟩;obtain⟨J,hJ,hJ3⟩:=RY (by omega) oR nR (λj hj=>by have:=fR j hj;omega) o (.row 1 [[.sl (h3.length+1) 3 0 1]]);have hd:(l.map Fd.cs).take 1=[f.cs]:=by rw[acs,hD];rfl
    refine⟨⟨1,h3.length+1,_⟩,⟨by simp only;omega,?_,?_,?_,λ_=>⟨by simp only;omega,_,J,by simp only[hd];exact hJ,hJ3⟩⟩,by simp only;omega,bO (by simp) ?_⟩
    ·rw[aaV (by omega),aaT (by omega),M2 0 (by omega)];exact i2
    ·rw[aaV (by omega),aaT (by omega),M2 1 (by omega)];exact i3
    ·rw[aa7 (by simp;omega)];rfl
    ·simp[e1,e2,e3,e4,Ω];exact⟨by have:=w1 (i:=0) (by omega);simpa using this,by omega⟩
   simp-implicitDefEqProofs[i2,C4,hg,E6,F6,DR, ↓j2, ↓j4];refine⟨⟨by omega,by omega⟩,?_⟩;refine(AC.mkLift ow hB (by simp)).mono ?_;rintro r h3 ⟨vB,IB,o1,rfl,e3,oB,nB,fB⟩;obtain⟨B,rfl⟩:=fK oB;simp at fB;have M2:∀j,j<h.length->h3[j]?=h[j]?:=λj hj=>by rw[e3,abn,aaT hj]
   have p0:h3[h.length]?=some (.row 3 [[.p (.str f.name),.p (.lst 1 (f.params.map λw=>[.str w])),.p (Θ f.body)]]):=by rw[e3,abn,aa5 (aa3 _),aca];rfl
   have p2:h3[h.length+2]?=some (gq f.params):=by
    rw[e3,abn,aa5 (by omega),abI];simp[gq,Function.comp_def]
   have oP:=Jl p2 (n:=f.params.length) rfl;have H6:h.length+3<=h3.length:=by rw[e3];simp
   have q0:∀os,(h3++os)[2]?=some (.row 1 [[.nils]]):=λos=>by rw[aaT (by omega),M2 2 (by omega)];exact i4
   have q1:h3[2]?=some (.row 1 [[.nils]]):=by rw[M2 2 (by omega)];exact i4
   have q2:∀os,(h3++os)[h.length]?=some (.row 3 [[.p (.str f.name),.p (.lst 1 (f.params.map λw=>[.str w])),.p (Θ f.body)]]):=λos=>by rw[aaT (by omega)];exact p0
   clear p2
   have hfR:∀j∈[h.length+2]++IB,h.length<=j:=λj hj=>by
    rcases aaZ.1 hj with hj|hj
    ·rw[aa0.1 hj];omega
    ·have:=fB j hj;omega
   have hnR:([h.length+2]++IB).Nodup:=aby.2 ⟨λhm=>by have:=fB _ hm;omega,nB⟩;rcases mH oB with⟨b1,rfl⟩|rfl|⟨x1,x2,x3,rfl⟩
   ·have oR:=sD (s:=true) (w:=f.name) oP oB;simp-implicitDefEqProofs[aa,eV, ↓q1, ↓p0, ↓q0, ↓q2];exact fin0 h3 _ _ _ H6 M2 oR hnR hfR _ (by simp)
   ·have oR:=sD (s:=true) (w:=f.name) oP oB;simp-implicitDefEqProofs[aa,eV, ↓q1, ↓p0, ↓q0, ↓q2];exact fin0 h3 _ _ _ H6 M2 oR hnR hfR _ (by simp)
   ·have oR:=sD (s:=true) (w:=f.name) oP oB;simp-implicitDefEqProofs[aa,eV, ↓q1, ↓p0, ↓q0, ↓q2];exact fin0 h3 _ _ _ H6 M2 oR hnR hfR _ (by simp)
  ·have hk:cpK ⟨i,id,h⟩= .sl id 3 0 i:=if_neg Q3;rw[hk] at j4 i4;obtain⟨hid3,rows,J,hr,hJ3⟩:=i5 (by omega);have G9:rows.length=i:=by have:=hr.len;rw[abg,abi] at this;omega
   have T9:=hr.lt
   have fin0:∀(h3:List AO) (r:List AV) (I2:List Nat) (l0:List (Nat × AV)),h.length+3<=h3.length->(∀j,j<h.length->h3[j]?=h[j]?)->OwnL true h3 r f.cs I2->I2.Nodup->(∀j∈I2,h.length<=j)->∀(o:AO) (hw:Aw.look l0 4= .p (.int .i64 (IntKind.i64.wrap ((i:Int)+1)))/\Aw.look l0 3= .ptr 2 1 0 0/\Aw.look l0 2= .ptr 1 1 0 0/\Aw.look l0 1= .ptr 0 1 0 0),
    ∃a',CpI l a'/\l.length-a'.i<l.length-i/\Wk 0 (ah 35 l0) (((h3++[o]).set id .dead++[AO.row 3 (rows++[r])]).set 2 (.row 1 [[.sl (h3.length+1) 3 0 (i+1)]])) (ah 35 [(4,.p (.int .i64 a'.i)),(3,.ptr 2 1 0 0),(2,.ptr 1 1 0 0),(1,.ptr 0 1 0 0)]) a'.h:=by
    intro h3 r I2 l0 H6 M2 oR nR fR o ⟨e4,e3,e2,e1⟩;obtain⟨J2,hJ,hJ4⟩:=Ux hr hJ3 hid3 hl3 (EU (by omega) M2) oR nR fR o (.row 1 [[.sl (h3.length+1) 3 0 (i+1)]]);have hd:(l.map Fd.cs).take i++[f.cs]=(l.map Fd.cs).take (i+1):=by rw[acs,hD];rfl
    rw[hd] at hJ;refine⟨⟨i+1,h3.length+1,_⟩,⟨by simp only;omega,?_,?_,?_,λ_=>⟨by simp only;omega,_,J2,hJ,hJ4⟩⟩,by simp only;omega,bO (by simp) ?_⟩
    ·rw[aaV (by omega),aaT (by simp only[abu,aa9,abc];omega),aaV (by omega),aaT (by omega),M2 0 (by omega)];exact i2
    ·rw[aaV (by omega),aaT (by simp only[abu,aa9,abc];omega),aaV (by omega),aaT (by omega),M2 1 (by omega)];exact i3
    ·rw[aa7 (by simp;omega),cpK,if_neg (show¬(i+1=0) by omega)]
    ·simp[e1,e2,e3,e4,Ω];exact⟨w1 (i:=i) (by omega),by omega⟩
   simp-implicitDefEqProofs[i2,C4,hg,E6,F6,DR, ↓j2, ↓j4];refine⟨⟨by omega,by omega⟩,?_⟩;refine(AC.mkLift ow hB (by simp)).mono ?_;rintro r h3 ⟨vB,IB,o1,rfl,e3,oB,nB,fB⟩;obtain⟨B,rfl⟩:=fK oB;simp at fB;have M2:∀j,j<h.length->h3[j]?=h[j]?:=λj hj=>by rw[e3,abn,aaT hj]
   have p0:h3[h.length]?=some (.row 3 [[.p (.str f.name),.p (.lst 1 (f.params.map λw=>[.str w])),.p (Θ f.body)]]):=by rw[e3,abn,aa5 (aa3 _),aca];rfl
   have p2:h3[h.length+2]?=some (gq f.params):=by
    rw[e3,abn,aa5 (by omega),abI];simp[gq,Function.comp_def]
   have oP:=Jl p2 (n:=f.params.length) rfl;have H6:h.length+3<=h3.length:=by rw[e3];simp
   have q0:∀os,(h3++os)[2]?=some (.row 1 [[.sl id 3 0 i]]):=λos=>by rw[aaT (by omega),M2 2 (by omega)];exact i4
   have q1:h3[2]?=some (.row 1 [[.sl id 3 0 i]]):=by rw[M2 2 (by omega)];exact i4
   have q2:∀os,(h3++os)[h.length]?=some (.row 3 [[.p (.str f.name),.p (.lst 1 (f.params.map λw=>[.str w])),.p (Θ f.body)]]):=λos=>by rw[aaT (by omega)];exact p0
   clear p2
   have q4:∀x o y,((h3++x).set id o++y)[2]?=some (.row 1 [[.sl id 3 0 i]]):=λx o y=>by rw[aaT (by simp only[abu,aa9];omega),aaV (by omega),aaT (by omega),M2 2 (by omega)];exact i4
   have q3:∀os,(h3++os)[id]?=some (.row 3 rows):=λos=>by rw[aaT (by omega),M2 id T9];exact hr.here
   have hfR:∀j∈[h.length+2]++IB,h.length<=j:=λj hj=>by
    rcases aaZ.1 hj with hj|hj
    ·rw[aa0.1 hj];omega
    ·have:=fB j hj;omega
   have hnR:([h.length+2]++IB).Nodup:=aby.2 ⟨λhm=>by have:=fB _ hm;omega,nB⟩;rcases mH oB with⟨b1,rfl⟩|rfl|⟨x1,x2,x3,rfl⟩
   ·have oR:=sD (s:=true) (w:=f.name) oP oB;simp-implicitDefEqProofs[aa,eV, ↓q1, ↓p0, ↓q0, ↓q2, ↓q3, ↓q4,G9];rw[aaX (l:=rows) (i:=i) (by omega)];refine⟨⟨by omega,by omega⟩,?_⟩;exact fin0 h3 _ _ _ H6 M2 oR hnR hfR _ (by simp)
   ·have oR:=sD (s:=true) (w:=f.name) oP oB;simp-implicitDefEqProofs[aa,eV, ↓q1, ↓p0, ↓q0, ↓q2, ↓q3, ↓q4,G9];rw[aaX (l:=rows) (i:=i) (by omega)];refine⟨⟨by omega,by omega⟩,?_⟩;exact fin0 h3 _ _ _ H6 M2 oR hnR hfR _ (by simp)
   ·have oR:=sD (s:=true) (w:=f.name) oP oB;simp-implicitDefEqProofs[aa,eV, ↓q1, ↓p0, ↓q0, ↓q2, ↓q3, ↓q4,G9];rw[aaX (l:=rows) (i:=i) (by omega)];refine⟨⟨by omega,by omega⟩,?_⟩;exact fin0 h3 _ _ _ H6 M2 oR hnR hfR _ (by simp)
 ·simp at h1;have E3:i=l.length:=by omega
  subst E3;have s1:∀x,(h.set 1 x)[1]?=some x:=λx=>aa7 (by omega)
  by_cases Q3:l.length=0
  ·have hk:cpK ⟨l.length,id,h⟩= .nils:=if_pos Q3;rw[hk] at i4;simp-implicitDefEqProofs[i4,i3,s1];obtain rfl:=abH Q3;exact⟨[.nils],[],rfl,.nils 3 .nil,by simp⟩
  ·have hk:cpK ⟨l.length,id,h⟩= .sl id 3 0 l.length:=if_neg Q3;rw[hk] at i4;obtain⟨hid3,rows,J,hr,hJ3⟩:=i5 (by omega);rw[aaX (by simp)] at hr;simp-implicitDefEqProofs[i4,i3,s1];have ho:=hr.tree (n:=l.length) (by simp)
   exact⟨[.sl id 3 0 l.length],id::J,rfl,ho.set_out (λhm=>by
    rcases aa6.1 hm with hm|hm
    ·omega
    ·have:=hJ3 _ hm;omega) _,hr.nd⟩
end
section
variable (G:au)
theorem KP{s:Bool}{b:List Int}{q:Nat}{T:List AO}{vs:List AV}{qs:List PV}{I:List Nat}(H:OwnL s (Ψ b q::T) vs qs I)(hI:∀i∈I,1<=i)(o:AO):OwnL s (o::T) vs qs I:=
 H.frame λi hi=>by
  have:=hI i hi;obtain⟨k,rfl⟩:∃k,i=k+1:=⟨i-1,by omega⟩;rfl
theorem QW{b:List Int}{p q:Nat}{T:List AO}{v:AV}{l:List Fd}{I:List Nat}(H:OwnL true (Ψ b q::T) [v] [fdL l] I)(hI:∀i∈I,1<=i)(hz:aD l<=900000000)(h1:p<=q)(h2:q<=p+400500000):DP b (PgQ p 900000000 400500000) (.ret (.agg [v])) (Ψ b q::T):=
 ⟨_,T,q,.agg [.p (fdL l)],rfl,rfl,.agg (.one ((KP H hI .dead).view 0 v _ rfl rfl) .nil) .nil,⟨l,rfl,hz⟩,h1,h2⟩
theorem IP{l:List Sm}{k:Nat}{s0:Sm}(s:Sm)(h:l[k]?=some s0):aq (l.set k s)+s0.sz=aq l+s.sz:=by
 obtain⟨hk,h⟩:=Δ.1 h;subst h
 ·rw[fY s hk,bE];have e:l=l.take k++l.drop k:=(abq _ _).symm;have h1:aq l=aq (l.take k)+aq (l.drop k):=by rw[←bE,←e]
  have h4:aq (l.drop k)=l[k].sz+aq (l.drop (k+1)):=by rw[abC hk];rfl
  simp only[aq];omega
theorem Kr(l:List Ex)(k:Nat)(s:Ex):br (l.set k s)<=br l+s.sz:=by
 by_cases hk:k<l.length
 ·rw[fY s hk,gC];have e:l=l.take k++l.drop k:=(abq _ _).symm;have h1:br l=br (l.take k)+br (l.drop k):=by rw[←gC,←e]
  have h4:br (l.drop k)=l[k].sz+br (l.drop (k+1)):=by rw[abC hk];rfl
  simp only[br];omega
 ·rw[acl (by omega)];omega
theorem pV{α:Type}{l:List α}{k:Nat}{x:α}(h:l[k]?=some x):l.set k x=l:=by
 apply ab4;intro i
 by_cases hi:k=i
 ·subst hi;rw[aa7 (Δ.1 h).1,h]
 ·rw[aaV hi]
theorem QM{h:List AO}{id sz n m:Nat}{es:List (List PV)}(H:View h (.sl id sz 0 n) (.lst sz es))(hm:m<=es.length):View h (.sl id sz 0 m) (.lst sz (es.take m)):=by
 cases H with
 |sl _ _ _ rows _ e1 e2 e3 e4=>
  have hl:(es.take m).length=m:=by rw[abg];omega
  have:=View.sl id sz 0 rows (es.take m) e1 (by omega) (λe he=>e3 e (abv he)) (λi j e q e' a a1 a2 a3 a4=>by
   have hi:i<m:=by have:=(Δ.1 a1).1;omega
   rw[acJ hi] at a1;exact e4 i j e q e' a a1 a2 a3 a4)
  rwa[hl] at this
theorem QX{b:List Int}(hb:Byt b)(hl:b.length<=2000){p:Nat}(hp:p<=5000000000):AC Tryz.prog G pj [.ptr 0 2 0 0] [Ψ b p] λx h=>∃v q,x= .ret v/\h=[Ψ b q]/\PgQ p 900000000 400500000 v q:=by
 refine oI G (AC.go FH ?_)
 have P8:AC Tryz.prog G dF [.ptr 0 2 0 0] [Ψ b p] λx h=>∃v q,x= .ret v/\h=[Ψ b q]/\((∃l:List Fd,v= .agg [.p (fdL l)]/\aY l=true/\aD l<=200000000)/\p<=q/\q<=p+200000000):=
  (Ly G hb hl (by omega)).mono λx h ⟨l,q,e1,e2,e3,e4,e5,e6⟩=>⟨_,q,e1,e2,⟨l,rfl,e3,e4⟩,e5,e6⟩
 simp-implicitDefEqProofs[vp];refine(jC G P8 _ (by simp[Ω])).mono ?_;rintro r h ⟨v,q,rfl,rfl,⟨l,rfl,C7,hz⟩,h1,h2⟩;have A0:=((cT l).1 C7).1;have Q5:=((cT l).1 C7).2.1;simp-implicitDefEqProofs[aa];refine(aV G b hb hl q (by omega) 5 _).mono ?_;rintro r h ⟨k1,rfl,rfl,_⟩;simp-implicitDefEqProofs[aa];refine aU (λhc=>?_) (λhc=>?_)
 ·simp-implicitDefEqProofs[];exact⟨_,_,q+1,.agg [.p (fdL l)],rfl,rfl,.keep (by simp) .nil,⟨l,rfl,by omega⟩,by omega,by omega⟩
 simp-implicitDefEqProofs[];refine(aV G b hb hl (q+1) (by omega) 6 _).mono ?_;rintro r h ⟨k2,rfl,rfl,_⟩;simp-implicitDefEqProofs[aa];refine aU (λX3=>?_) (λX3=>?_)
 ·simp-implicitDefEqProofs[];refine(jC G (Rm G hb hl (p:=q+1+1) (by omega)) _ (by simp[Ω])).mono ?_;rintro r h ⟨v,q2,rfl,rfl,⟨l2,rfl,V9⟩,h3,h4⟩;simp-implicitDefEqProofs[aa];exact⟨_,_,q2,.agg [.p (fdL l2)],rfl,rfl,.keep (by simp) .nil,⟨l2,rfl,by omega⟩,by omega,by omega⟩
 simp-implicitDefEqProofs[];refine(AC.mkLift CS (JC G l (by omega)) (by simp)).mono ?_;rintro r h ⟨vs,I,os,rfl,rfl,ho,nd,hI⟩;obtain⟨v,rfl⟩:=fK ho;have B8:l.map Fd.cs≠[]:=by intro h;rw[ab0] at h;rw[h] at A0;simp at A0
 simp at hI;rcases ho.inv nd with⟨h0,_⟩|⟨h0,_⟩|⟨id,rowsF,JF,rfl,rfl,hF⟩
 ·exact absurd h0 B8
 ·cases h0
 have hid3:3<=id:=hI id (by simp);obtain⟨fF,rfl⟩:∃fF,id=fF+1:=⟨id-1,by omega⟩;rw[abi];simp-implicitDefEqProofs[aa]
 have N9:∀q',RowOwn true (Ψ b q':: .row 1 [[.nils]]:: .row 1 [[.sl (fF+1) 3 0 l.length]]::os) (fF+1) 3 rowsF (l.map Fd.cs) JF:=λq'=>hF.frame λi hi=>by
  have:=hI i (by simpa using hi);obtain⟨k,rfl⟩:∃k,i=k+3:=⟨i-3,by omega⟩;rfl
 have hI3:∀j∈JF,3<=j:=λj hj=>hI j (by simp[hj])
 have hnF:=hF.nd;clear hF ho;obtain⟨T,hT⟩:∃T,T= .row 1 [[.nils]]:: .row 1 [[AV.sl (fF+1) 3 0 l.length]]::os:=⟨_,rfl⟩;rw[←hT] at N9⊢;have t0:T[0]?=some (.row 1 [[.nils]]):=by rw[hT];rfl
 have t1:T[1]?=some (.row 1 [[.sl (fF+1) 3 0 l.length]]):=by rw[hT];rfl
 have tF:T[fF]?=some (.row 3 rowsF):=(N9 0).here;clear hT;refine(aV G b hb hl (q+1+1) (by omega) l.length _).mono ?_;rintro r h ⟨k,rfl,rfl,hk⟩;have G6:k<l.length:=by omega
 have W4:=Γ G6;have hfk:=Q5 _ (aa2 G6);have hzk:=cL (aa2 G6);have hDk:(l.map Fd.cs)[k]?=some l[k].cs:=by rw[aa8,W4];rfl
 generalize l[k]=f at W4 hfk hzk hDk;obtain⟨rF,J1,Jk,J2,r1,rfl,r2,r5⟩:=(N9 (q+1+1+1)).own.put (N9 0).len (N9 0).rl (N9 0).dl hDk;obtain⟨A,B,IA,IB,rfl,rfl,oA,oB⟩:=SN r2;have hltJ:∀j∈J1++(IA++IB++J2),j<T.length+1:=λj hj=>by have:=(N9 0).own.lt hj;simpa using this
 have hnd:=hnF;rw[aby] at hnd;have J8:fF+1∉J1++(IA++IB++J2):=hnd.1;have O0:=hnd.2;have X6:∀j∈IB,3<=j:=λj hj=>hI3 j (by simp[hj])
 have nIB:IB.Nodup:=(abE.1 (abE.1 (abE.1 O0).2.1).1).2.1;have hDl:(l.map Fd.cs).length=l.length:=by simp
 have finG:∀(U:List AO) (q':Nat) (B':AV) (I':List Nat) (sl':List Sm),(∀i,2<=i->i<T.length->i≠fF->i+1∉IB->U[i]?=T[i]?)->U[fF]?=some (.row 3 (rowsF.set k [.p (.str f.name),A,B']))->OwnL true (Ψ b q'::U) [B'] [Θ sl'] I'->(∀i∈I',1<=i)->
  aq sl'<=450000000->p<=q'->q'<=p+400500000->DP b (PgQ p 900000000 400500000) (.ret (.agg [.sl (fF+1) 3 0 l.length])) (Ψ b q'::U):=by
  intro U q' B' I' sl' hU hUF oB' hI' hz' h3 h4
  have K5:∀j∈J1++J2++IA,(Ψ b q'::U)[j]?=(Ψ b (q+1+1+1)::T)[j]?:=λj hj=>by
   have hjm:j∈J1++(IA++IB++J2):=by simp only[aaZ] at hj⊢;rcases hj with(hj|hj)|hj<;>simp[hj]
   have hj3:=hI3 j hjm;have D8:=hltJ j hjm;obtain⟨i,rfl⟩:∃i,j=i+1:=⟨j-1,by omega⟩;rw[aa4,aa4];refine hU i (by omega) (by omega) (λe=>J8 (e▸hjm)) λhm=>?_
   simp only[abE,aaZ] at O0;obtain⟨n1,⟨⟨n2,n3,n4⟩,n5,n6⟩,n7⟩:=O0;simp only[aaZ] at hj;rcases hj with(hj|hj)|hj
   ·exact n7 _ hj _ (.inl (.inr hm)) rfl
   ·exact n6 _ (.inr hm) _ hj rfl
   ·exact n4 _ hj _ hm rfl
  have oR:=sD (s:=true) (w:=f.name) (oA.frame λi hi=>K5 i (by simp[hi])) oB';have oW:=r5 (Ψ b q'::U) _ _ _ (λj hj=>K5 j (by simp only[aaZ] at hj⊢;exact .inl hj)) oR;have hD':(l.map Fd.cs).set k (Fd.mk f.name f.params sl').cs=(l.set k ⟨f.name,f.params,sl'⟩).map Fd.cs:=by rw[acj]
  have tree:=OwnL.sl (s:=true) (h:=Ψ b q'::U) (fF+1) 3 l.length (rowsF.set k [.p (.str f.name),A,B']) ((l.map Fd.cs).set k (Fd.mk f.name f.params sl').cs) hUF (by simp) (by have:=(N9 0).len;simpa using this) (λe he=>by
   rcases abs he with h|rfl
   ·exact(N9 0).rl e h
   ·rfl) (λe he=>by
   rcases abs he with h|rfl
   ·exact(N9 0).dl e h
   ·rfl) oW .nil
  rw[hD'] at tree;have D0:=KM l k ⟨f.name,f.params,sl'⟩;have K4:f.sz=1+f.name.length+(f.params.length+(f.params.map List.length).sum)+aq f.body:=rfl;have hfz':(Fd.mk f.name f.params sl').sz=1+f.name.length+(f.params.length+(f.params.map List.length).sum)+aq sl':=rfl;refine QW (l:=l.set k ⟨f.name,f.params,sl'⟩) tree (λi hi=>?_) (by omega) h3 h4;simp only[aa6,aaZ,abo,or_false] at hi;rcases hi with rfl|hi|(hi|hi)|hi
  ·omega
  ·have:=hI3 i (by simp[hi]);omega
  ·have:=hI3 i (by simp[hi]);omega
  ·exact hI' i hi
  ·have:=hI3 i (by simp[hi]);omega
 have N2:rowsF.set k [.p (.str f.name),A,B]=rowsF:=by
  apply ab4;intro i
  by_cases hi:k=i
  ·subst hi;rw[aa7 (Δ.1 r1).1,r1]
  ·rw[aaV hi]
 have Q6:2<=fF:=by omega
 have s0:∀x,(T.set 0 x)[0]?=some x:=λx=>aa7 (by have:=(Δ.1 t0).1;omega)
 have hbz:f.sz=1+f.name.length+(f.params.length+(f.params.map List.length).sum)+aq f.body:=rfl;simp-implicitDefEqProofs[aa,t0,t1,tF,r1,G6]
 have fin0:∀q' x,p<=q'->q'<=p+400500000->DP b (PgQ p 900000000 400500000) (.ret (.agg [.sl (fF+1) 3 0 l.length])) (Ψ b q'::T.set 0 x):=λq' x h3 h4=>
  finG (T.set 0 x) q' B IB f.body (λi h1 _ _ _=>aaV (by omega)) (by rw[aaV (by omega),N2];exact tF) (oB.frame λj hj=>by
   have:=X6 j hj;obtain⟨i,rfl⟩:∃i,j=i+1:=⟨j-1,by omega⟩;rw[aa4,aa4,aaV (by omega)]) (λi hi=>by have:=X6 i hi;omega) (by omega) h3 h4
 rcases oB.inv nIB with⟨h0,_,rfl|rfl⟩|⟨h0,_⟩|⟨idB,rowsB,JB,rfl,rfl,hB⟩
 ·simp-implicitDefEqProofs[t0,t1,s0];exact fin0 _ _ (by omega) (by omega)
 ·simp-implicitDefEqProofs[t0,t1,s0];exact fin0 _ _ (by omega) (by omega)
 ·cases h0
 rw[abi] at*
 by_cases hbe:f.body.length=0
 ·simp-implicitDefEqProofs[hbe,t0,t1,s0];have:=fin0 (q+1+1+1) (.row 1 [[.sl (fF+1) 3 0 l.length]]) (by omega) (by omega);exact this
 simp-implicitDefEqProofs[hbe,t0,t1,tF,r1];refine(aV G b hb hl (q+1+1+1) (by omega) f.body.length _).mono ?_;rintro r h ⟨j,rfl,rfl,hj⟩;have D8:j<f.body.length:=by omega
 obtain⟨fB,rfl⟩:∃fB,idB=fB+1:=⟨idB-1,by have:=X6 idB (by simp);omega⟩;have hB3:=X6 (fB+1) (by simp);have tB:T[fB]?=some (.row 5 rowsB):=hB.here;have hgj:=Γ D8;have hzj:=ce (aa2 D8)
 have hok5:an 4 f.body[j]=true:=by
  simp only[ig,aa1] at hfk;exact aaY.1 hfk.2 _ (aa2 D8)
 have hDj:(f.body.map Sm.cs)[j]?=some f.body[j].cs:=by rw[aa8,hgj];rfl
 generalize f.body[j]=sm at hgj hzj hok5 hDj;obtain⟨rB,K1,Kj,K2,u1,rfl,u2,u5⟩:=hB.own.put hB.len hB.rl hB.dl hDj;obtain⟨A1,B1,E1,I1,I2,I3,rfl,rfl,oA1,oB1,oE1⟩:=Sa u2;simp-implicitDefEqProofs[aa,D8,t0,t1,tF,r1,tB,u1];refine(ID G hb hl (p:=q+1+1+1+1) (by omega) [[122,122],[97],[98],[99],[100]] (k:=T.length+1) (by simp) (by simp) (by omega) rfl (by simp[gq])).mono ?_;rintro r h ⟨s,hs,rfl,rfl⟩;have hs8:s.length<=8:=by simp at hs;rcases hs with rfl|rfl|rfl|rfl|rfl<;>simp
 have nB:=nIB;rw[aby] at nB
 have finS:∀(U:List AO) (q':Nat) (o':Int) (nm':List UInt8) (A':AV) (I':List Nat) (ar':List Ex),(∀i,2<=i->i<T.length->i≠fB->i+1∉I1->U[i]?=T[i]?)->U[fB]?=some (.row 5 (rowsB.set j [.p (.int .i64 o'),.p (.str nm'),A',B1,E1]))->OwnL true (Ψ b q'::U) [A'] [Φ ar'] I'->(∀i∈I',1<=i)->
  br ar'+nm'.length<=br sm.args+sm.name.length+1000->p<=q'->q'<=p+400500000->DP b (PgQ p 900000000 400500000) (.ret (.agg [.sl (fF+1) 3 0 l.length])) (Ψ b q'::U):=by
  intro U q' o' nm' A' I' ar' hU hUB oA' hI' hz' h3 h4
  have K8:∀x∈K1++K2++I2++I3,x∈K1++(I1++(I2++I3)++K2):=λx hx=>by
   simp only[aaZ] at hx⊢;rcases hx with((hx|hx)|hx)|hx<;>simp[hx]
  have hltB:∀x∈K1++(I1++(I2++I3)++K2),x<T.length+1:=λx hx=>by have:=hB.own.lt hx;simpa using this
  have K5:∀x∈K1++K2++I2++I3,(Ψ b q'::U)[x]?=(Ψ b (q+1+1+1)::T)[x]?:=λx hx=>by
   have hm:=K8 x hx;have hx3:=X6 x (abw _ hm);have A3:=hltB x hm;obtain⟨i,rfl⟩:∃i,x=i+1:=⟨x-1,by omega⟩;rw[aa4,aa4];refine hU i (by omega) (by omega) (λe=>nB.1 (e▸hm)) λQ1=>?_
   have hn:=nB.2;simp only[abE,aaZ] at hn;obtain⟨n1,⟨⟨n2,⟨n3,n3',n3''⟩,n4⟩,n5,n6⟩,n7⟩:=hn;simp only[aaZ] at hx;rcases hx with((hx|hx)|hx)|hx
   ·exact n7 _ hx _ (.inl (.inl Q1)) rfl
   ·exact n6 _ (.inl Q1) _ hx rfl
   ·exact n4 _ Q1 _ (.inl hx) rfl
   ·exact n4 _ Q1 _ (.inr hx) rfl
  have oS:=Ll (s:=true) (o:=o') (w:=nm') oA' (oB1.frame λi hi=>K5 i (by simp[hi])) (oE1.frame λi hi=>K5 i (by simp[hi]));have oW:=u5 (Ψ b q'::U) _ _ _ (λx hx=>K5 x (by simp only[aaZ] at hx⊢;exact .inl (.inl hx))) oS;have hD':(f.body.map Sm.cs).set j (Sm.mk o' nm' ar' sm.body sm.els).cs=(f.body.set j ⟨o',nm',ar',sm.body,sm.els⟩).map Sm.cs:=by rw[acj]
  have tree:=OwnL.sl (s:=true) (h:=Ψ b q'::U) (fB+1) 5 f.body.length (rowsB.set j [.p (.int .i64 o'),.p (.str nm'),A',B1,E1]) ((f.body.map Sm.cs).set j (Sm.mk o' nm' ar' sm.body sm.els).cs) hUB (by simp) (by have:=hB.len;simpa using this) (λe he=>by
   rcases abs he with h|rfl
   ·exact hB.rl e h
   ·rfl) (λe he=>by
   rcases abs he with h|rfl
   ·exact hB.dl e h
   ·exact Sm.cs_len _) oW .nil
  rw[hD'] at tree;have D0:=IP (s:=⟨o',nm',ar',sm.body,sm.els⟩) hgj;have hsm:=sm.sz_eq;have hsm':(Sm.mk o' nm' ar' sm.body sm.els).sz=1+nm'.length+br ar'+aq sm.body+aq sm.els:=rfl;have hFB:fF≠fB:=λe=>J8 (by rw[e];simp)
  have hFI:fF+1∉I1:=λhm=>J8 (by simp[hm])
  have hFT:fF<T.length:=(Δ.1 tF).1;refine finG U q' (.sl (fB+1) 5 0 f.body.length) _ (f.body.set j ⟨o',nm',ar',sm.body,sm.els⟩) (λi g1 g2 g3 g4=>hU i g1 g2 (λe=>g4 (by rw[e];simp)) λhm=>g4 (by simp[hm])) (by rw[hU fF Q6 hFT hFB hFI,N2];exact tF) tree (λi hi=>?_) (by omega) h3 h4;simp only[aa6,aaZ,abo,or_false] at hi;rcases hi with rfl|hi|(hi|hi|hi)|hi
  ·omega
  ·have:=X6 i (by simp[hi]);omega
  ·exact hI' i hi
  ·have:=X6 i (by simp[hi]);omega
  ·have:=X6 i (by simp[hi]);omega
  ·have:=X6 i (by simp[hi]);omega
 have hTl:2<=T.length:=by have:=(Δ.1 t1).1;omega
 have hBT:fB<T.length:=(Δ.1 tB).1;have hI1:∀i∈I1,3<=i/\i<T.length+1:=λi hi=>⟨X6 i (by simp[hi]),by have:=oA1.lt hi;simpa using this⟩
 have oA1u:∀(U:List AO) (q':Nat),(∀i,2<=i->i<T.length->i+1∈I1->U[i]?=T[i]?)->OwnL true (Ψ b q'::U) [A1] [Φ sm.args] I1:=λU q' hU=>oA1.frame λx hx=>by
  obtain⟨h3,h4⟩:=hI1 x hx;obtain⟨i,rfl⟩:∃i,x=i+1:=⟨x-1,by omega⟩;rw[aa4,aa4];exact hU i (by omega) (by omega) hx
 have hsmz:=sm.sz_eq
 have finU:∀(U:List AO) (q':Nat),(∀i,2<=i->i<T.length->U[i]?=T[i]?)->p<=q'->q'<=p+400500000->DP b (PgQ p 900000000 400500000) (.ret (.agg [.sl (fF+1) 3 0 l.length])) (Ψ b q'::U):=λU q' hU h3 h4=>
  finS U q' sm.op sm.name A1 I1 sm.args (λi a1 a2 _ _=>hU i a1 a2) (by rw[hU fB (by omega) hBT,pV u1];exact tB) (oA1u U q' λi a1 a2 _=>hU i a1 a2) (λi hi=>by have:=(hI1 i hi).1;omega) (by omega) h3 h4
 have a0:∀os,(T++os)[0]?=some (.row 1 [[.nils]]):=λos=>by rw[aaT (Δ.1 t0).1];exact t0
 have a1:∀os,(T++os)[1]?=some (.row 1 [[.sl (fF+1) 3 0 l.length]]):=λos=>by rw[aaT (Δ.1 t1).1];exact t1
 have aF:∀os,(T++os)[fF]?=some (.row 3 rowsF):=λos=>by rw[aaT (Δ.1 tF).1];exact tF
 have aB:∀os,(T++os)[fB]?=some (.row 5 (rowsB)):=λos=>by rw[aaT (Δ.1 tB).1];exact tB
 simp-implicitDefEqProofs[aa];refine(aV G b hb hl (q+1+1+1+1+1) (by omega) 4 _).mono ?_;rintro r h ⟨k3,rfl,rfl,_⟩;have nI1:I1.Nodup:=(abE.1 (abE.1 (abE.1 nB.2).2.1).1).1
 have J7:0<sm.args.length:=by
  simp only[an,fx,aa1,decide_eq_true_eq] at hok5;have:=hok5.1.1.1.1.1.1.1.1.2;rw[this];unfold gV;split<;>omega
 have hA0:sm.args.map Ex.cs≠[]:=by intro h;rw[ab0] at h;rw[h] at J7;simp at J7
 obtain⟨idA,rowsA,JA,rfl,rfl,hA⟩:∃id rows J,A1= .sl id 4 0 sm.args.length/\I1=id::J/\RowOwn true (Ψ b (q+1+1+1)::T) id 4 rows (sm.args.map Ex.cs) J:=by
  rcases oA1.inv nI1 with⟨h0,_⟩|⟨h0,_⟩|⟨id,rows,J,e1,e2,e3⟩
  ·exact absurd h0 hA0
  ·cases h0
  ·rw[abi] at e1;exact⟨id,rows,J,e1,e2,e3⟩
 obtain⟨fA,rfl⟩:∃fA,idA=fA+1:=⟨idA-1,by have:=(hI1 idA (by simp)).1;omega⟩;have hA3:=hI1 (fA+1) (by simp);have tA:T[fA]?=some (.row 4 rowsA):=hA.here;have aA:∀os,(T++os)[fA]?=some (.row 4 rowsA):=λos=>by rw[aaT (by omega)];exact tA
 have hg0:=Γ J7;have hz0:=aQ (aa2 J7);have hD0:(sm.args.map Ex.cs)[0]?=some sm.args[0].cs:=by rw[aa8,hg0];rfl
 generalize sm.args[0]=e0 at hg0 hz0 hD0;obtain⟨r0,L1,L0,L2,g1,rfl,g3,g5⟩:=hA.own.put hA.len hA.rl hA.dl hD0;obtain⟨K0,rfl,_⟩:=LU g3;have nA:=nI1;rw[aby] at nA
 have finA:∀(U:List AO) (q':Nat) (o n:Int) (w:List UInt8) (K:AV) (IK:List Nat) (ks:List Ex),(∀i,2<=i->i<T.length->i≠fA->U[i]?=T[i]?)->U[fA]?=some (.row 4 (rowsA.set 0 [.p (.int .i64 o),.p (.int .i64 n),.p (.str w),K]))->OwnL true (Ψ b q'::U) [K] [Φ ks] IK->(∀i∈IK,1<=i)->
  (Ex.mk o n w ks).sz<=500->p<=q'->q'<=p+400500000->DP b (PgQ p 900000000 400500000) (.ret (.agg [.sl (fF+1) 3 0 l.length])) (Ψ b q'::U):=by
  intro U q' o n w K IK ks hU hUA oK hIK hz' h3 h4
  have K5:∀x∈L1++L2,(Ψ b q'::U)[x]?=(Ψ b (q+1+1+1)::T)[x]?:=λx hx=>by
   have hm:x∈L1++(L0++L2):=by
    simp only[aaZ] at hx⊢;rcases hx with hx|hx
    ·exact .inl hx
    ·exact .inr (.inr hx)
   obtain⟨hx3,hx4⟩:=hI1 x (abw _ hm);obtain⟨i,rfl⟩:∃i,x=i+1:=⟨x-1,by omega⟩;rw[aa4,aa4];exact hU i (by omega) (by omega) λe=>nA.1 (e▸hm)
  have oW:=g5 (Ψ b q'::U) _ _ _ K5 (Pz (o:=o) (n:=n) (w:=w) oK);have hD':(sm.args.map Ex.cs).set 0 (Ex.mk o n w ks).cs=(sm.args.set 0 ⟨o,n,w,ks⟩).map Ex.cs:=by rw[acj]
  have tree:=OwnL.sl (s:=true) (h:=Ψ b q'::U) (fA+1) 4 sm.args.length (rowsA.set 0 [.p (.int .i64 o),.p (.int .i64 n),.p (.str w),K]) ((sm.args.map Ex.cs).set 0 (Ex.mk o n w ks).cs) hUA (by simp) (by have:=hA.len;simpa using this) (λe he=>by
   rcases abs he with h|rfl
   ·exact hA.rl e h
   ·rfl) (λe he=>by
   rcases abs he with h|rfl
   ·exact hA.dl e h
   ·exact Ex.cs_len _) oW .nil
  rw[hD'] at tree;have D0:=Kr sm.args 0 ⟨o,n,w,ks⟩;have hBA:fB≠fA:=λe=>nB.1 (by rw[e];simp)
  refine finS U q' sm.op sm.name (.sl (fA+1) 4 0 sm.args.length) _ (sm.args.set 0 ⟨o,n,w,ks⟩) (λi g1 g2 _ g4=>hU i g1 g2 λe=>g4 (by rw[e];simp)) (by rw[hU fB (by omega) hBT hBA,pV u1];exact tB) tree (λi hi=>?_) (by omega) h3 h4;simp only[aa6,aaZ,abo,or_false] at hi;rcases hi with rfl|hi|hi|hi
  ·omega
  ·have:=(hI1 i (by simp[hi])).1;omega
  ·exact hIK i hi
  ·have:=(hI1 i (by simp[hi])).1;omega
 have w0:∀os x,((T++os).set 0 x)[0]?=some x:=λos x=>aa7 (by simp only[aa9];omega)
 have v0:∀os x,((T++os).set fA x)[0]?=some (.row 1 [[.nils]]):=λos x=>by rw[aaV (by omega)];exact a0 os
 have v1:∀os x,((T++os).set fA x)[1]?=some (.row 1 [[.sl (fF+1) 3 0 l.length]]):=λos x=>by rw[aaV (by omega)];exact a1 os
 have v2:∀os x y,(((T++os).set fA x).set 0 y)[0]?=some y:=λos x y=>aa7 (by simp only[abu,aa9];omega)
 have hv:∀os x y (i:Nat),2<=i->i<T.length->i≠fA->(((T++os).set fA x).set 0 y)[i]?=T[i]?:=λos x y i h1 h2 h3=>by rw[aaV (by omega),aaV (by omega),aaT h2]
 have aE:∀x y os,(T++x::y::os)[T.length+1]?=some y:=λx y os=>by rw[aa5 (by omega),abI];rfl
 have aE2:∀x y z os,(T++x::y::os).set (T.length+1) z=T++x::z::os:=λx y z os=>by rw[acg _ _ (by omega),abI];rfl
 by_cases c1:k3=1
 ·subst c1;simp-implicitDefEqProofs[aa, ↓a0, ↓a1, ↓aF, ↓aB,u1,D8];refine aU (λhn=>?_) (λhn=>?_)
  ·simp-implicitDefEqProofs[];refine(ID G hb hl (p:=q+1+1+1+1+1+1) (by omega) [[97],[98],[122,122],[99],[100]] (k:=T.length+2+1) (by simp) (by simp) (by omega) rfl (by simp[gq])).mono ?_;rintro r h ⟨s2,hs2,rfl,rfl⟩;have hs28:s2.length<=8:=by simp at hs2;rcases hs2 with rfl|rfl|rfl|rfl|rfl<;>simp
   have v0:∀os x,((T++os).set fB x)[0]?=some (.row 1 [[.nils]]):=λos x=>by rw[aaV (by omega)];exact a0 os
   have v1:∀os x,((T++os).set fB x)[1]?=some (.row 1 [[.sl (fF+1) 3 0 l.length]]):=λos x=>by rw[aaV (by omega)];exact a1 os
   have v2:∀os x y,(((T++os).set fB x).set 0 y)[0]?=some y:=λos x y=>aa7 (by simp only[abu,aa9];omega)
   simp-implicitDefEqProofs[aa, ↓a0, ↓a1, ↓aF, ↓aB,u1,D8, ↓v0, ↓v1, ↓v2,-getElem?_pos,abX,aa4]
   have hv:∀os x y (i:Nat),2<=i->i<T.length->i≠fB->(((T++os).set fB x).set 0 y)[i]?=T[i]?:=λos x y i h1 h2 h3=>by rw[aaV (by omega),aaV (by omega),aaT h2]
   refine finS _ _ sm.op s2 (.sl (fA+1) 4 0 sm.args.length) _ sm.args ?_ ?_ (oA1u _ _ ?_) (λi hi=>by have:=(hI1 i hi).1;omega) (by omega) (by omega) (by omega)
   ·intro i h1 h2 h3 _;exact hv _ _ _ i h1 h2 h3
   ·rw[aaV (by omega),aa7 (by simp only[aa9];omega)]
   ·intro i h1 h2 h3;exact hv _ _ _ i h1 h2 (λe=>nB.1 (by rw[←e];simp only[aaZ];exact .inr (.inl (.inl h3))))
  ·simp-implicitDefEqProofs[↓a0, ↓a1, ↓w0,-getElem?_pos,abX,aa4];refine finU _ _ ?_ (by omega) (by omega);intro i h1 h2;rw[aaV (by omega),aaT h2]
 by_cases c2:k3=2
 ·subst c2
  have hw:∀(q':Nat) (os:List AO),OwnL true (Ψ b q'::(T++os)) [.sl (fB+1) 5 0 f.body.length] [Θ f.body] ((fB+1)::(K1++(((fA+1)::(L1++(L0++L2)))++(I2++I3)++K2))):=λq' os=>oB.frame λx hx=>by
   have h3:=X6 x hx;have h4:x<T.length+1:=by have:=oB.lt hx;simpa using this
   obtain⟨i,rfl⟩:∃i,x=i+1:=⟨x-1,by omega⟩;rw[aa4,aa4,aaT (by omega)]
  have Z0:∀(q':Nat) (os:List AO),View (Ψ b q'::(T++os)) (.sl (fB+1) 5 0 1) (Θ (f.body.take 1)):=λq' os=>by
   have:=QM (m:=1) ((hw q' os).view 0 _ _ rfl rfl) (by simp;omega);rw[←acm] at this;exact this
  have hz1:aq (f.body.take 1)<=aq f.body:=by
   have e:f.body=f.body.take 1++f.body.drop 1:=(abq _ _).symm;have:aq f.body=aq (f.body.take 1)+aq (f.body.drop 1):=by rw[←bE,←e]
   omega
  have hS:=AU G _ (f.body.take 1) (aci _) (by omega);simp-implicitDefEqProofs[aa, ↓a0, ↓a1, ↓aF, ↓aB,r1,G6];refine⟨by omega,?_⟩;refine(AC.mkLend ow hS (.one (Z0 _ _) .nil)).mono ?_;rintro r h ⟨vs,IN,os2,rfl,rfl,oN,nN,hN⟩;obtain⟨vN,rfl⟩:=fK oN;have I7:(f.body.take 1).length=1:=by rw[abg];omega
  have hneN:(f.body.take 1).map Sm.cs≠[]:=by intro h;rw[ab0] at h;rw[h] at I7;simp at I7
  obtain⟨idN,rowsN,JN,rfl,rfl,hRN⟩:∃id rows J,vN= .sl id 5 0 1/\IN=id::J/\RowOwn true _ id 5 rows ((f.body.take 1).map Sm.cs) J:=by
   rcases oN.inv nN with⟨h0,_⟩|⟨h0,_⟩|⟨id,rows,J,e1,e2,e3⟩
   ·exact absurd h0 hneN
   ·cases h0
   ·rw[abi,I7] at e1;exact⟨id,rows,J,e1,e2,e3⟩
  have hidN:=hN idN (by simp);simp at hidN;obtain⟨fN,rfl⟩:∃fN,idN=fN+1:=⟨idN-1,by omega⟩;have hFT:fF<T.length:=(Δ.1 tF).1;have tN:=hRN.here;simp only[abr,abn,aa4,ace] at tN;have hrN:rowsN.length=1:=by have:=hRN.len;rw[abi,I7] at this;exact this
  have hrB:rowsB.length=f.body.length:=by have:=hB.len;simpa using this
  have z1:∀os o y,((T++os).set fB o++y)[fF]?=some (.row 3 rowsF):=λos o y=>by rw[aaT (by simp only[abu,aa9];omega),aaV (λe=>J8 (by rw[←e];simp))];exact aF os
  have z2:∀os o y x,(((T++os).set fB o++y).set fF x)[0]?=some (.row 1 [[.nils]]):=λos o y x=>by rw[aaV (by omega),aaT (by simp only[abu,aa9];omega),aaV (by omega)];exact a0 os
  have z3:∀os o y x,(((T++os).set fB o++y).set fF x)[1]?=some (.row 1 [[.sl (fF+1) 3 0 l.length]]):=λos o y x=>by rw[aaV (by omega),aaT (by simp only[abu,aa9];omega),aaV (by omega)];exact a1 os
  have z4:∀os o y x w,((((T++os).set fB o++y).set fF x).set 0 w)[0]?=some w:=λos o y x w=>aa7 (by simp only[abu,aa9];omega)
  simp-implicitDefEqProofs[aa,eV, ↓a0, ↓a1, ↓aF, ↓aB, ↓tN, ↓z1, ↓z2, ↓z3, ↓z4,r1,G6,hrN,hrB,-getElem?_pos,abX,aa4];rw[aaX (l:=rowsB) (by omega),aaX (l:=rowsN) (by omega)];have O9:=bF f.body;refine⟨⟨by omega,by omega⟩,?_⟩;have hJB:∀x∈K1++(((fA+1)::(L1++(L0++L2)))++(I2++I3)++K2),3<=x/\x<T.length+1/\x≠fF+1/\x≠fB+1:=λx hx=>⟨X6 x (abw _ hx),by have:=hB.own.lt hx;simpa using this,λe=>J8 (by rw[←e];simp only[aaZ];exact .inr (.inl (.inr (abw _ hx)))),λe=>nB.1 (e▸hx)⟩
  have hJN:∀x∈JN,T.length+3<=x/\x<T.length+3+os2.length:=λx hx=>⟨by have:=hN x (by simp[hx]);simp at this;omega,by have:=hRN.own.lt hx;simp at this;omega⟩
  have nle:∀(W:List AO) (fo bo:AO) (x y:AO),∀i,2<=i->i<T.length->i≠fF->i≠fB->(((((T++W).set fB bo)++[y]).set fF fo).set 0 x)[i]?=T[i]?:=λW fo bo x y i h1 h2 h3 h4=>by rw[aaV (by omega),aaV (by omega),aaT (by simp only[abu,aa9];omega),aaV (by omega),aaT h2]
  have nri:∀(W:List AO) (fo bo:AO) (x y:AO),∀i,T.length<=i->i<(T++W).length->(((((T++W).set fB bo)++[y]).set fF fo).set 0 x)[i]?=(T++W)[i]?:=λW fo bo x y i h1 h2=>by rw[aaV (by omega),aaV (by omega),aaT (by simpa using h2),aaV (by omega)]
  have hbl2:=bF f.body;have hzN:aq (f.body++f.body.take 1)<=400000000:=by rw[bE];omega
  refine finG _ _ (.sl (T.length+(os2.length+1+1)+1) 5 0 (f.body.length+1)) ((T.length+(os2.length+1+1)+1)::((K1++(((fA+1)::(L1++(L0++L2)))++(I2++I3)++K2))++JN++[])) (f.body++f.body.take 1) (λi g1 g2 g3 g4=>nle _ _ _ _ _ i g1 g2 g3 (λe=>g4 (by rw[e];simp))) ?_ ?_ ?_ (by omega) (by omega) (by omega)
  ·rw[aaV (by omega),aa7 (by simp only[abu,aa9];omega)]
  ·refine OwnL.sl _ 5 (f.body.length+1) (rowsB++rowsN) ((f.body++f.body.take 1).map Sm.cs) ?_ (by rw[abi,aa9,I7]) (by rw[aa9,abi,aa9,I7,hrB,hrN]) (λe he=>?_) (λe he=>by obtain⟨x,_,rfl⟩:=abb.1 he;simp) ?_ .nil
   ·rw[aa4,aaV (by omega),aaV (by omega),aa5 (by simp)];simp
   ·rcases aaZ.1 he with h|h
    ·exact hB.rl e h
    ·exact hRN.rl e h
   ·rw[abT,abL,abL];refine(hB.own.frame λx hx=>?_).app (hRN.own.frame λx hx=>?_)
    ·obtain⟨x1,x2,x3,x4⟩:=hJB x hx;obtain⟨i,rfl⟩:∃i,x=i+1:=⟨x-1,by omega⟩;rw[aa4,aa4];exact nle _ _ _ _ _ i (by omega) (by omega) (by omega) (by omega)
    ·obtain⟨x1,x2⟩:=hJN x hx;obtain⟨i,rfl⟩:∃i,x=i+1:=⟨x-1,by omega⟩;simp only[abr,abn,aa4,ace];exact nri _ _ _ _ _ i (by omega) (by simp;omega)
  ·intro i hi;simp only[aa6,aaZ,abo,or_false] at hi;rcases hi with rfl|hi|hi
   ·omega
   ·have:=(hJB i (by simp only[aa6,aaZ];exact hi)).1;omega
   ·have:=(hJN i hi).1;omega
 by_cases c0:k3=0
 ·subst c0;simp-implicitDefEqProofs[aa];refine(ID G hb hl (p:=q+1+1+1+1+1+1) (by omega) [[102],[103],[109],[113]] (k:=T.length+2+1) (by simp) (by simp) (by omega) rfl (by simp[gq])).mono ?_;rintro r h ⟨s2,hs2,rfl,rfl⟩;have hs28:s2.length<=8:=by simp at hs2;rcases hs2 with rfl|rfl|rfl|rfl<;>simp
  simp-implicitDefEqProofs[aa, ↓a0, ↓a1, ↓aB,u1,D8, ↓aE, ↓aE2,-getElem?_pos,abX,aa4];refine aU (λhn=>?_) (λhn=>?_)
  ·simp-implicitDefEqProofs[↓a0, ↓a1, ↓aB, ↓aA,u1,D8,g1,J7, ↓v0, ↓v1, ↓v2, ↓aE,-getElem?_pos,abX,aa4];refine finA _ _ 13 0 s2 (.sl (T.length+3+1) 4 0 1) [T.length+3+1] [⟨1,1,[],[]⟩] (λi h1 h2 h3=>hv _ _ _ i h1 h2 h3) ?_ ?_ (by simp) (by simp[Ex.sz,br];omega) (by omega) (by omega)
   ·rw[aaV (by omega),aa7 (by simp only[aa9];omega)]
   ·refine RowOwn.tree (rows:=[[.p (.int .i64 1),.p (.int .i64 1),.p (.str []),.nils]]) (J:=[]) ⟨?_,rfl,by simp,by simp,?_,by simp⟩ rfl
    ·rw[aa4,aaV (by omega),aaV (by omega),aa5 (by omega),abI];rfl
    ·simpa using Pz (s:=true) (o:=1) (n:=1) (w:=[]) (k:=[]) (.nils 4 .nil)
  ·simp-implicitDefEqProofs[↓a0, ↓a1, ↓w0,-getElem?_pos,abX,aa4];refine finU _ _ ?_ (by omega) (by omega);intro i h1 h2;rw[aaV (by omega),aaT h2]
 have d1:¬(k3:Int)=1:=by omega
 have d2:¬(k3:Int)=2:=by omega
 simp-implicitDefEqProofs[aa,c0,d1,d2, ↓a0, ↓a1, ↓aF, ↓aB,u1,D8];refine aU (λhn=>?_) (λhn=>?_)
 ·simp-implicitDefEqProofs[↓a0, ↓a1, ↓aB, ↓aA,u1,D8,g1,J7, ↓v0, ↓v1, ↓v2, ↓aE,-getElem?_pos,abX,aa4];refine finA _ _ 2 0 s .nils [] [] (λi h1 h2 h3=>hv _ _ _ i h1 h2 h3) ?_ (.nils 4 .nil) (by simp) (by simp[Ex.sz,br];omega) (by omega) (by omega);rw[aaV (by omega),aa7 (by simp only[aa9];omega)]
 ·simp-implicitDefEqProofs[↓a0, ↓a1, ↓w0,-getElem?_pos,abX,aa4];refine finU _ _ ?_ (by omega) (by omega);intro i h1 h2;rw[aaV (by omega),aaT h2]
end
section
def Cok(l:List Fd)(k:Nat)(x:Ex):Prop:=∃j f,cn l x.name=some j/\j<k/\l[j]?=some f/\f.params.length=x.kids.length
mutual
theorem SF{fns:List Fd}{k:Nat}{vs:List LV}:∀(e:Ex) (c:Int),ik fns k vs e c=0->∀x∈e.pre,x.op=13->Cok fns k x
 | .mk o n t ks,c,h,x,hx,E9=>by
   rw[ik] at h;rw[Ex.pre] at hx;have h0:=cP h;rcases aa6.1 hx with rfl|hx
   ·have hop':o=13:=E9;have hz:¬(13:Int)=2:=by omega
    rw[gf,hop',if_neg hz,if_pos rfl,mv] at h0;show∃j f,cn fns t=some j/\j<k/\fns[j]?=some f/\f.params.length=ks.length;cases e:cn fns t with
    |none=>rw[e] at h0;simp only[fl] at h0;split at h0<;>omega
    |some j=>
     rw[e] at h0;simp only[fl] at h0
     by_cases hj:k<=j
     ·rw[if_pos hj] at h0;split at h0<;>omega
     ·rw[if_neg hj] at h0;have D8:j<fns.length:=(abf.1 e).1;have hg:=Γ D8;refine⟨j,fns[j],rfl,by omega,hg,?_⟩;rw[Cs,hg] at h0;simp only at h0
      by_cases hp:fns[j].params.length=ks.length
      ·exact hp
      ·rw[if_neg hp] at h0;split at h0<;>omega
   ·exact AN ks _ h x hx E9
theorem AN{fns:List Fd}{k:Nat}{vs:List LV}:∀(l:List Ex) (c:Int),be fns k vs l c=0->∀x∈da l,x.op=13->Cok fns k x
 |[],c,h,x,hx,_=>by simp[da] at hx
 |e::r,c,h,x,hx,E9=>by
  rw[be] at h;rw[da] at hx;rcases aaZ.1 hx with hx|hx
  ·exact SF e _ (cP h) x hx E9
  ·exact AN r _ h x hx E9
end
mutual
theorem Uh{fns:List Fd}{k:Nat}:∀(s:Sm) (b d:Nat) (w:WS),(stW fns k b s w).code=0->∀x∈da s.args++(fe (d+1) s.body++fe (d+1) s.els),x.op=13->Cok fns k x
 | .mk o n a bd el,b,d,w,h,x,hx,E9=>by
   rw[stW] at h;rw[cS] at h;have h1:=bz h;rw[cS] at h1;have h2:=bz h1;have h3:=sG h2;simp only[Sm.args,Sm.body,Sm.els,aaZ] at hx;rcases hx with hx|hx|hx
   ·exact AN a _ h3 x hx E9
   ·exact zB bd _ (d+1) _ h1 x hx E9
   ·exact zB el _ (d+1) _ h x hx E9
theorem zB{fns:List Fd}{k:Nat}:∀(l:List Sm) (b d:Nat) (w:WS),(bA fns k b l w).code=0->∀x∈fe d l,x.op=13->Cok fns k x
 |[],b,d,w,h,x,hx,_=>by simp[fe,cm] at hx
 |s::r,b,d,w,h,x,hx,E9=>by
  rw[bA] at h;rw[rt] at hx;rcases aaZ.1 hx with hx|hx
  ·exact Uh s b d _ (bz h) x hx E9
  ·exact zB r b d _ h x hx E9
end
theorem TN{l:List Fd}{k:Nat}{f:Fd}(hc:am l=0)(hk:l[k]?=some f):(fnW l k f).code=0:=by
 unfold am at hc;split at hc
 ·have:=(lI l l 0).1 hc k f hk;rwa[abz] at this
 ·omega
theorem Su{l:List Fd}{k:Nat}{f:Fd}(hc:am l=0)(hk:l[k]?=some f):∀x∈fe 1 f.body,x.op=13->Cok l k x:=by
 have h:=TN hc hk;rw[fnW] at h;exact zB _ _ 1 _ h
def CoE(l:List Fd)(k:Nat)(e:Ex):Prop:=∀x∈e.pre,x.op=13->Cok l k x
def CoS(l:List Fd)(k d:Nat)(xs:List Sm):Prop:=∀x∈fe d xs,x.op=13->Cok l k x
theorem DU{a:Ex}:∀{l:List Ex},a∈l->∀x∈a.pre,x∈da l
 |b::r,h,x,hx=>by
  rw[da];rcases aa6.1 h with rfl|h
  ·exact acI _ hx
  ·exact acw _ (DU h x hx)
theorem CoE.kid{l:List Fd}{k:Nat}{e a:Ex}(h:CoE l k e)(ha:a∈e.kids):CoE l k a:=λx hx ho=>h x (by rw[Ex.pre_eq];exact abw _ (DU ha x hx)) ho
theorem CoS.head{l:List Fd}{k d:Nat}{s:Sm}{r:List Sm}(h:CoS l k d (s::r)):(∀a∈s.args,CoE l k a)/\CoS l k (d+1) s.body/\CoS l k (d+1) s.els/\CoS l k d r:=by
 have e:=rt d s r;unfold CoS at*
 rw[e] at h;simp only[aaZ] at h;exact⟨λa ha x hx ho=>h x (.inl (.inl (DU ha x hx))) ho,λx hx ho=>h x (.inl (.inr (.inl hx))) ho,λx hx ho=>h x (.inl (.inr (.inr hx))) ho,λx hx ho=>h x (.inr hx) ho⟩
end
section
structure In5 (v:List Sc5) (s:S5):Prop where
 g:G5 s
 ge:GE5 v
 un:Un5 v
 m:M5 s<=4000
 f:(nM v).length+s.left<=1073750000
theorem In5.ex{l:List Fd}{k:Nat}{v:List Sc5}{s s':S5}{e:Ex}{r:O5 Int}(I:In5 v s)(h:Ev l (.ex k v s e s' r)):In5 v s'/\∀n,r= .ok n->V5 n:=by
 have a:=aZ h ⟨I.g,I.ge⟩;have b:=yP h;exact⟨⟨a.1,I.ge,I.un,abe b.1 I.m,by have:=b.2;have:=I.f;omega⟩,a.2.2⟩
structure WfE (l:List Fd) (k:Nat) (e:Ex):Prop where
 form:∃d,aT d e=true
 co:CoE l k e
 sz:e.sz<=1073741824
theorem OX{d:Nat}{e a:Ex}(h:aT d e=true)(ha:a∈e.kids):∃d,aT d a=true:=by
 obtain⟨c,rfl⟩:=bK h;exact⟨c,bh h ha⟩
theorem WfE.kid{l:List Fd}{k:Nat}{e a:Ex}(h:WfE l k e)(ha:a∈e.kids):WfE l k a:=by
 obtain⟨d,hd⟩:=h.form;exact⟨OX hd ha,h.co.kid ha,by have:=aQ ha;have:=e.sz_eq;have:=h.sz;omega⟩
variable (G:au)
theorem RI.ended{R cid:Nat}{l:List Fd}{sid:Nat}{s:S5}{e c:Int}{o:Bool}{h:List AO}(H:RI R cid l sid s e o h):RI R cid l sid s c true (h.set R (Oo l sid cid s c true)):=
 ⟨aa7 H.lt.1,by rw[aaV H.neR.1];exact H.said,by rw[aaV H.neR.2];exact H.cells,H.ne⟩
theorem Fr.set{K:List Nat}{h h2:List AO}(F:Fr K h h2){i:Nat}(hi:i∈K)(o:AO):Fr K h (h2.set i o):=
 ⟨by rw[abu];exact F.1,λj hj hn=>by
   rw[aaV (show i≠j from λe=>hn (e▸hi))];exact F.2 j hj hn⟩
end
section
theorem Fy:AK.whole cY=FK.ak cW:=rfl
variable (G:au)
theorem AM(e:Ex)(h:e.op=1):VF Tryz.prog G fW [.agg (e.cs.map .p),.nils,.nils] (.tup [.p (.int .i64 e.n),.p (.int .i64 0)]):=by
 have hc:=e.cs_eq;refine AC.go uH ?_;simp-implicitDefEqProofs[pi,hc,h]
theorem Ol(e a b:Ex)(hk:e.kids=[a,b])(ha:a.op=1)(hb:b.op=1)(h3:3<=e.op)(Q4:e.op<=10)(va:V5 a.n)(vb:V5 b.n):VF Tryz.prog G fW [.agg (e.cs.map .p),.nils,.nils] (uz (ar5 e.op a.n b.n)):=by
 have hc:=e.cs_eq;refine AC.go uH ?_;have A3:∀l,Φ l= .lst 4 (l.map Ex.cs):=λ_=>rfl
 have o1:¬e.op=1:=by omega
 have o2:¬e.op=2:=by omega
 have o11:¬e.op=11:=by omega
 simp-implicitDefEqProofs[pi,hc,o1,o2,A3,hk];refine(AM G a ha).use ?_;simp-implicitDefEqProofs[o11]
 by_cases o10:e.op=10
 ·by_cases a0:a.n=0
  ·simp-implicitDefEqProofs[o10,a0,ar5,uz,tr5]
  ·simp-implicitDefEqProofs[o10,a0];refine(AM G b hb).use ?_;simp-implicitDefEqProofs[o10];refine(tW G _).use ?_;simp-implicitDefEqProofs[ar5,uz,a0]
 ·simp-implicitDefEqProofs[o10];refine(AM G b hb).use ?_;simp-implicitDefEqProofs[o10];have H:=Tq G e.op a.n b.n h3 (by omega) va vb;rw[ar5,if_neg o10];cases hq:gQ e.op a.n b.n with
  |none=>
   rw[hq] at H;simp only[uz] at H;refine H.use ?_;simp-implicitDefEqProofs[uz]
  |some q=>
   rw[hq] at H;simp only[uz] at H;refine H.use ?_;simp-implicitDefEqProofs[uz]
theorem PF{d:Nat}{e:Ex}(hf:aT d e=true)(hz:e.sz<=1099511627776):VF Tryz.prog G lm [.agg (e.cs.map .p)] (.agg ((fw e.op e.n e.name e.kids).cs.map .p)):=by
 have hc:=e.cs_eq;have A3:∀l,Φ l= .lst 4 (l.map Ex.cs):=λ_=>rfl
 have hem:e= .mk e.op e.n e.name e.kids:=by cases e;rfl
 have hzz:=e.sz_eq;obtain⟨d,rfl⟩:=bK hf;have hkf:∀a∈e.kids,aT d a=true:=λa ha=>bh hf ha
 have G4:∀a∈e.kids,a.sz<=1099511627776:=λa ha=>by have:=aQ ha;omega
 have T7:∀q,(cf q).cs=[.int .i64 1,.int .i64 q,.str [],.lst 4 []]:=λq=>rfl
 refine AC.goK Fl Fy ?_
 by_cases o11:e.op=11
 ·obtain⟨l1,l2,_⟩:=dL hf;rw[o11] at l1 l2;have e1:loK 11=1:=rfl;have e2:hiK 11=1:=rfl;rw[e1] at l1;rw[e2] at l2
  obtain⟨a,hk⟩:∃a,e.kids=[a]:=by
   match hx:e.kids,l1,l2 with
   |[x],_,_=>exact⟨x,rfl⟩
  have A5:=a.cs_eq
  have hp:fw e.op e.n e.name e.kids=kA e.op e.n e.name a:=by
   unfold fw;rw[if_neg (by omega),hk]
  rw[hp]
  by_cases a1:a.op=1
  ·rw[kA,if_pos a1];simp-implicitDefEqProofs[cY,cW,hc,o11,hk,A3,A5,a1];refine(tW G _).use ?_;simp-implicitDefEqProofs[];refine(gO G _).use ?_;simp-implicitDefEqProofs[T7]
  ·have same:(∀c,a.kids=[c]->¬(e.op=11/\a.op=11/\c.op=11))->kA e.op e.n e.name a=e:=by
    intro h;have h0:Ex.mk e.op e.n e.name [a]=e:=by rw[←hk];exact hem.symm
    unfold kA;rw[if_neg a1];split
    ·rename_i c hc';split
     ·rename_i h3;exact(h c hc' ⟨o11,h3⟩).elim
     ·exact h0
    ·exact h0
   by_cases a11:a.op=11
   ·have haf:=hkf a (by rw[hk];simp);obtain⟨l1,l2,_⟩:=dL haf;rw[a11,e1] at l1;rw[a11,e2] at l2
    obtain⟨c,F1⟩:∃c,a.kids=[c]:=by
     match hx:a.kids,l1,l2 with
     |[x],_,_=>exact⟨x,rfl⟩
    have C5:=c.cs_eq
    by_cases c11:c.op=11
    ·have hq:kA e.op e.n e.name a=c:=by
      unfold kA;rw[if_neg a1,F1];exact if_pos ⟨a11,c11⟩
     rw[hq];simp-implicitDefEqProofs[cY,cW,hc,o11,hk,A3,A5,a11,F1,C5,c11]
    ·rw[same (λx hx h=>by rw[F1] at hx;cases hx;exact c11 h.2.2)];simp-implicitDefEqProofs[cY,cW,hc,o11,hk,A3,A5,a11,F1,C5,c11]
   ·rw[same (λx hx h=>a11 h.2.1)];simp-implicitDefEqProofs[cY,cW,hc,o11,hk,A3,A5,a1,a11]
 by_cases hr:3<=e.op/\e.op<=10
 case neg=>
  have hp:fw e.op e.n e.name e.kids=e:=by
   obtain⟨_,_,l3,l4⟩:=dL hf;unfold fw;split
   ·exact hem.symm
   ·rename_i hn;split
    ·rename_i a hk;exact(o11 (ME hf hk hn)).elim
    ·rename_i a b hk;exact(hr (DM hf hk hn)).elim
    ·exact hem.symm
  have M9:inR e.op 3 10=false:=by simp only[inR,Bool.and_eq_false_iff,decide_eq_false_iff_not];omega
  rw[hp]
  by_cases hl:e.kids.length=1
  ·simp-implicitDefEqProofs[cY,cW,hc,o11,A3,hl];refine(sU G _ _ _).use ?_;simp-implicitDefEqProofs[M9]
  ·have hl':¬(e.kids.length:Int)=1:=by omega
   simp-implicitDefEqProofs[cY,cW,hc,o11,A3,hl'];refine(sU G _ _ _).use ?_;simp-implicitDefEqProofs[M9]
 obtain⟨h3,Q4⟩:=hr
 obtain⟨a,b,hk⟩:∃a b,e.kids=[a,b]:=by
  obtain⟨l1,l2,_⟩:=dL hf;have e1:loK e.op=2:=by rw[loK,if_neg (by omega),if_neg (by omega),if_neg (by omega)]
  have e2:hiK e.op=2:=by rw[hiK,if_neg (by omega),if_neg (by omega),if_neg (by omega)]
  rw[e1] at l1;rw[e2] at l2
  match hx:e.kids,l1,l2 with
  |[a,b],_,_=>exact⟨a,b,rfl⟩
 have A5:=a.cs_eq;have A6:=b.cs_eq;have haf:=hkf a (by rw[hk];simp);have Y9:=hkf b (by rw[hk];simp)
 have hp:fw e.op e.n e.name e.kids=mR e.op e.n e.name a b:=by
  unfold fw;rw[if_neg (by omega),hk]
 have M9:inR e.op 3 10=true:=by simp only[inR,aa1,decide_eq_true_eq];omega
 rw[hp];simp-implicitDefEqProofs[cY,cW,hc,o11,hk,A3];refine(sU G _ _ _).use ?_;simp-implicitDefEqProofs[M9,A5,A6];have HA0:=Eb G a 0;have HA1:=Eb G a 1;have HB0:=Eb G b 0;have HB1:=Eb G b 1;have HSA:=JM G d a haf (G4 a (by rw[hk];simp));have HSB:=JM G d b Y9 (G4 b (by rw[hk];simp));rw[A5] at HA0 HA1 HSA;rw[A6] at HB0 HB1 HSB;simp only[abd,abM] at HA0 HA1 HB0 HB1 HSA HSB
 refine rx (λ_:Unit=>ah 148 [(1,.ptr 0 4 0 0),(2,.ptr 1 4 0 0),(4,.ptr 2 4 0 0),(5,.ptr 3 4 0 0)])
  (λ_=>[.row 4 [[.p (.int .i64 e.op),.p (.int .i64 e.n),.p (.str e.name),.p (.lst 4 [a.cs,b.cs])]],.row 4 [[.p (.int .i64 0),.p (.int .i64 0),.p (.str []),.nils]],.row 4 [[.p (.int .i64 a.op),.p (.int .i64 a.n),.p (.str a.name),.p (Φ a.kids)]],.row 4 [[.p (.int .i64 b.op),.p (.int .i64 b.n),.p (.str b.name),.p (Φ b.kids)]]])
  (λ_=>(if a.op=1/\b.op=1 then ar5 e.op a.n b.n else none)=none) ?_ ?_
 ·
  by_cases a1:a.op=1
  ·by_cases b1:b.op=1
   ·have H:=Ol G e a b hk a1 b1 h3 Q4 (zb (kK haf)) (zb (kK Y9));rw[hc,A3,hk] at H;simp only[abd,abM,A5,A6,a1,b1] at H
    have N8:∀q,ar5 e.op a.n b.n=some q->mR e.op e.n e.name a b=cf q:=by
     intro q hq;unfold mR;rw[if_pos ⟨a1,b1⟩,hq]
    cases hq:ar5 e.op a.n b.n with
    |none=>
     rw[hq] at H;simp only[uz] at H;simp-implicitDefEqProofs[a1,b1,A5,A6];refine H.use ?_;simp-implicitDefEqProofs[hq];exact ab (by simp) (by simp[Ξ,Ω]) (by simp[Ω])
    |some q=>
     rw[hq] at H;simp only[uz] at H;rw[N8 q hq];simp-implicitDefEqProofs[a1,b1,A5,A6];refine H.use ?_;simp-implicitDefEqProofs[];refine(gO G _).use ?_;simp-implicitDefEqProofs[T7]
   ·simp-implicitDefEqProofs[a1,b1,A5,A6];exact ab (by simp) (by simp[Ξ,Ω]) (by simp[Ω])
  ·simp-implicitDefEqProofs[a1,A5,A6];exact ab (by simp) (by simp[Ξ,Ω]) (by simp[Ω])
 intro _ hn
 have N8:mR e.op e.n e.name a b=if e.op=10/\isN a 0=true then cf 0 else if(e.op=3\/e.op=4)/\isN b 0=true\/(e.op=5\/e.op=6)/\isN b 1=true then a else if e.op=3/\isN a 0=true\/e.op=5/\isN a 1=true then b
  else if e.op=5/\(isN b 0=true/\dI a=true\/isN a 0=true/\dI b=true) then cf 0 else e:=by
  unfold mR;rw[hn];simp only;rw[←hk,←hem]
 rw[N8];simp only[A5,A6];have ho:e.op=3\/e.op=4\/e.op=5\/e.op=6\/e.op=7\/e.op=8\/e.op=9\/e.op=10:=by omega
 rcases ho with ho|ho|ho|ho|ho|ho|ho|ho
 ·simp-implicitDefEqProofs[ho];refine HB0.use ?_
  by_cases D6:isN b 0=true
  ·simp-implicitDefEqProofs[D6,ho,hc,A3,hk,A5,A6]
  ·simp-implicitDefEqProofs[D6,ho,hc,A3,hk,A5,A6];refine HB1.use ?_
   by_cases C6:isN b 1=true
   ·simp-implicitDefEqProofs[C6,ho,hc,A3,hk,A5,A6];refine HA0.use ?_
    by_cases A9:isN a 0=true
    ·simp-implicitDefEqProofs[A9,ho,hc,A3,hk,A5,A6]
    ·simp-implicitDefEqProofs[A9,ho,hc,A3,hk,A5,A6];refine HA1.use ?_
     by_cases A4:isN a 1=true
     ·simp-implicitDefEqProofs[A4,ho,hc,A3,hk,A5,A6]
     ·simp-implicitDefEqProofs[A4,ho,hc,A3,hk,A5,A6]
   ·simp-implicitDefEqProofs[C6,ho,hc,A3,hk,A5,A6];refine HA0.use ?_
    by_cases A9:isN a 0=true
    ·simp-implicitDefEqProofs[A9,ho,hc,A3,hk,A5,A6]
    ·simp-implicitDefEqProofs[A9,ho,hc,A3,hk,A5,A6];refine HA1.use ?_
     by_cases A4:isN a 1=true
     ·simp-implicitDefEqProofs[A4,ho,hc,A3,hk,A5,A6]
     ·simp-implicitDefEqProofs[A4,ho,hc,A3,hk,A5,A6]
 ·simp-implicitDefEqProofs[ho];refine HB0.use ?_
  by_cases D6:isN b 0=true
  ·simp-implicitDefEqProofs[D6,ho,hc,A3,hk,A5,A6]
  ·simp-implicitDefEqProofs[D6,ho,hc,A3,hk,A5,A6];refine HB1.use ?_
   by_cases C6:isN b 1=true
   ·simp-implicitDefEqProofs[C6,ho,hc,A3,hk,A5,A6];refine HA0.use ?_
    by_cases A9:isN a 0=true
    ·simp-implicitDefEqProofs[A9,ho,hc,A3,hk,A5,A6];refine HA1.use ?_
     by_cases A4:isN a 1=true
     ·simp-implicitDefEqProofs[A4,ho,hc,A3,hk,A5,A6]
     ·simp-implicitDefEqProofs[A4,ho,hc,A3,hk,A5,A6]
    ·simp-implicitDefEqProofs[A9,ho,hc,A3,hk,A5,A6];refine HA1.use ?_
     by_cases A4:isN a 1=true
     ·simp-implicitDefEqProofs[A4,ho,hc,A3,hk,A5,A6]
     ·simp-implicitDefEqProofs[A4,ho,hc,A3,hk,A5,A6]
   ·simp-implicitDefEqProofs[C6,ho,hc,A3,hk,A5,A6];refine HA0.use ?_
    by_cases A9:isN a 0=true
    ·simp-implicitDefEqProofs[A9,ho,hc,A3,hk,A5,A6];refine HA1.use ?_
     by_cases A4:isN a 1=true
     ·simp-implicitDefEqProofs[A4,ho,hc,A3,hk,A5,A6]
     ·simp-implicitDefEqProofs[A4,ho,hc,A3,hk,A5,A6]
    ·simp-implicitDefEqProofs[A9,ho,hc,A3,hk,A5,A6];refine HA1.use ?_
     by_cases A4:isN a 1=true
     ·simp-implicitDefEqProofs[A4,ho,hc,A3,hk,A5,A6]
     ·simp-implicitDefEqProofs[A4,ho,hc,A3,hk,A5,A6]
 ·simp-implicitDefEqProofs[ho];refine HB0.use ?_
  by_cases D6:isN b 0=true
  ·simp-implicitDefEqProofs[D6,ho,hc,A3,hk,A5,A6];refine HB1.use ?_
   by_cases C6:isN b 1=true
   ·simp-implicitDefEqProofs[C6,ho,hc,A3,hk,A5,A6]
   ·simp-implicitDefEqProofs[C6,ho,hc,A3,hk,A5,A6];refine HA0.use ?_
    by_cases A9:isN a 0=true
    ·simp-implicitDefEqProofs[A9,ho,hc,A3,hk,A5,A6];refine HA1.use ?_
     by_cases A4:isN a 1=true
     ·simp-implicitDefEqProofs[A4,ho,hc,A3,hk,A5,A6]
     ·simp-implicitDefEqProofs[A4,ho,hc,A3,hk,A5,A6];refine HB0.use ?_;simp-implicitDefEqProofs[D6];refine HSA.use ?_
      by_cases P9:dI a=true
      ·simp-implicitDefEqProofs[P9,ho,hc,A3,hk,A5,A6];refine(gO G _).use ?_;simp-implicitDefEqProofs[T7]
      ·simp-implicitDefEqProofs[P9,ho,hc,A3,hk,A5,A6];refine HA0.use ?_;simp-implicitDefEqProofs[A9];refine HSB.use ?_
       by_cases K9:dI b=true
       ·simp-implicitDefEqProofs[K9,ho,hc,A3,hk,A5,A6];refine(gO G _).use ?_;simp-implicitDefEqProofs[T7]
       ·simp-implicitDefEqProofs[K9,ho,hc,A3,hk,A5,A6]
    ·simp-implicitDefEqProofs[A9,ho,hc,A3,hk,A5,A6];refine HA1.use ?_
     by_cases A4:isN a 1=true
     ·simp-implicitDefEqProofs[A4,ho,hc,A3,hk,A5,A6]
     ·simp-implicitDefEqProofs[A4,ho,hc,A3,hk,A5,A6];refine HB0.use ?_;simp-implicitDefEqProofs[D6];refine HSA.use ?_
      by_cases P9:dI a=true
      ·simp-implicitDefEqProofs[P9,ho,hc,A3,hk,A5,A6];refine(gO G _).use ?_;simp-implicitDefEqProofs[T7]
      ·simp-implicitDefEqProofs[P9,ho,hc,A3,hk,A5,A6];refine HA0.use ?_;simp-implicitDefEqProofs[A9]
  ·simp-implicitDefEqProofs[D6,ho,hc,A3,hk,A5,A6];refine HB1.use ?_
   by_cases C6:isN b 1=true
   ·simp-implicitDefEqProofs[C6,ho,hc,A3,hk,A5,A6]
   ·simp-implicitDefEqProofs[C6,ho,hc,A3,hk,A5,A6];refine HA0.use ?_
    by_cases A9:isN a 0=true
    ·simp-implicitDefEqProofs[A9,ho,hc,A3,hk,A5,A6];refine HA1.use ?_
     by_cases A4:isN a 1=true
     ·simp-implicitDefEqProofs[A4,ho,hc,A3,hk,A5,A6]
     ·simp-implicitDefEqProofs[A4,ho,hc,A3,hk,A5,A6];refine HB0.use ?_;simp-implicitDefEqProofs[D6];refine HA0.use ?_;simp-implicitDefEqProofs[A9];refine HSB.use ?_
      by_cases K9:dI b=true
      ·simp-implicitDefEqProofs[K9,ho,hc,A3,hk,A5,A6];refine(gO G _).use ?_;simp-implicitDefEqProofs[T7]
      ·simp-implicitDefEqProofs[K9,ho,hc,A3,hk,A5,A6]
    ·simp-implicitDefEqProofs[A9,ho,hc,A3,hk,A5,A6];refine HA1.use ?_
     by_cases A4:isN a 1=true
     ·simp-implicitDefEqProofs[A4,ho,hc,A3,hk,A5,A6]
     ·simp-implicitDefEqProofs[A4,ho,hc,A3,hk,A5,A6];refine HB0.use ?_;simp-implicitDefEqProofs[D6];refine HA0.use ?_;simp-implicitDefEqProofs[A9]
 ·simp-implicitDefEqProofs[ho];refine HB0.use ?_
  by_cases D6:isN b 0=true
  ·simp-implicitDefEqProofs[D6,ho,hc,A3,hk,A5,A6];refine HB1.use ?_
   by_cases C6:isN b 1=true
   ·simp-implicitDefEqProofs[C6,ho,hc,A3,hk,A5,A6]
   ·simp-implicitDefEqProofs[C6,ho,hc,A3,hk,A5,A6];refine HA0.use ?_
    by_cases A9:isN a 0=true
    ·simp-implicitDefEqProofs[A9,ho,hc,A3,hk,A5,A6];refine HA1.use ?_
     by_cases A4:isN a 1=true
     ·simp-implicitDefEqProofs[A4,ho,hc,A3,hk,A5,A6]
     ·simp-implicitDefEqProofs[A4,ho,hc,A3,hk,A5,A6]
    ·simp-implicitDefEqProofs[A9,ho,hc,A3,hk,A5,A6];refine HA1.use ?_
     by_cases A4:isN a 1=true
     ·simp-implicitDefEqProofs[A4,ho,hc,A3,hk,A5,A6]
     ·simp-implicitDefEqProofs[A4,ho,hc,A3,hk,A5,A6]
  ·simp-implicitDefEqProofs[D6,ho,hc,A3,hk,A5,A6];refine HB1.use ?_
   by_cases C6:isN b 1=true
   ·simp-implicitDefEqProofs[C6,ho,hc,A3,hk,A5,A6]
   ·simp-implicitDefEqProofs[C6,ho,hc,A3,hk,A5,A6];refine HA0.use ?_
    by_cases A9:isN a 0=true
    ·simp-implicitDefEqProofs[A9,ho,hc,A3,hk,A5,A6];refine HA1.use ?_
     by_cases A4:isN a 1=true
     ·simp-implicitDefEqProofs[A4,ho,hc,A3,hk,A5,A6]
     ·simp-implicitDefEqProofs[A4,ho,hc,A3,hk,A5,A6]
    ·simp-implicitDefEqProofs[A9,ho,hc,A3,hk,A5,A6];refine HA1.use ?_
     by_cases A4:isN a 1=true
     ·simp-implicitDefEqProofs[A4,ho,hc,A3,hk,A5,A6]
     ·simp-implicitDefEqProofs[A4,ho,hc,A3,hk,A5,A6]
 ·simp-implicitDefEqProofs[ho];refine HB0.use ?_
  by_cases D6:isN b 0=true
  ·simp-implicitDefEqProofs[D6,ho,hc,A3,hk,A5,A6];refine HB1.use ?_
   by_cases C6:isN b 1=true
   ·simp-implicitDefEqProofs[C6,ho,hc,A3,hk,A5,A6];refine HA0.use ?_
    by_cases A9:isN a 0=true
    ·simp-implicitDefEqProofs[A9,ho,hc,A3,hk,A5,A6];refine HA1.use ?_
     by_cases A4:isN a 1=true
     ·simp-implicitDefEqProofs[A4,ho,hc,A3,hk,A5,A6]
     ·simp-implicitDefEqProofs[A4,ho,hc,A3,hk,A5,A6]
    ·simp-implicitDefEqProofs[A9,ho,hc,A3,hk,A5,A6];refine HA1.use ?_
     by_cases A4:isN a 1=true
     ·simp-implicitDefEqProofs[A4,ho,hc,A3,hk,A5,A6]
     ·simp-implicitDefEqProofs[A4,ho,hc,A3,hk,A5,A6]
   ·simp-implicitDefEqProofs[C6,ho,hc,A3,hk,A5,A6];refine HA0.use ?_
    by_cases A9:isN a 0=true
    ·simp-implicitDefEqProofs[A9,ho,hc,A3,hk,A5,A6];refine HA1.use ?_
     by_cases A4:isN a 1=true
     ·simp-implicitDefEqProofs[A4,ho,hc,A3,hk,A5,A6]
     ·simp-implicitDefEqProofs[A4,ho,hc,A3,hk,A5,A6]
    ·simp-implicitDefEqProofs[A9,ho,hc,A3,hk,A5,A6];refine HA1.use ?_
     by_cases A4:isN a 1=true
     ·simp-implicitDefEqProofs[A4,ho,hc,A3,hk,A5,A6]
     ·simp-implicitDefEqProofs[A4,ho,hc,A3,hk,A5,A6]
  ·simp-implicitDefEqProofs[D6,ho,hc,A3,hk,A5,A6];refine HB1.use ?_
   by_cases C6:isN b 1=true
   ·simp-implicitDefEqProofs[C6,ho,hc,A3,hk,A5,A6];refine HA0.use ?_
    by_cases A9:isN a 0=true
    ·simp-implicitDefEqProofs[A9,ho,hc,A3,hk,A5,A6];refine HA1.use ?_
     by_cases A4:isN a 1=true
     ·simp-implicitDefEqProofs[A4,ho,hc,A3,hk,A5,A6]
     ·simp-implicitDefEqProofs[A4,ho,hc,A3,hk,A5,A6]
    ·simp-implicitDefEqProofs[A9,ho,hc,A3,hk,A5,A6];refine HA1.use ?_
     by_cases A4:isN a 1=true
     ·simp-implicitDefEqProofs[A4,ho,hc,A3,hk,A5,A6]
     ·simp-implicitDefEqProofs[A4,ho,hc,A3,hk,A5,A6]
   ·simp-implicitDefEqProofs[C6,ho,hc,A3,hk,A5,A6];refine HA0.use ?_
    by_cases A9:isN a 0=true
    ·simp-implicitDefEqProofs[A9,ho,hc,A3,hk,A5,A6];refine HA1.use ?_
     by_cases A4:isN a 1=true
     ·simp-implicitDefEqProofs[A4,ho,hc,A3,hk,A5,A6]
     ·simp-implicitDefEqProofs[A4,ho,hc,A3,hk,A5,A6]
    ·simp-implicitDefEqProofs[A9,ho,hc,A3,hk,A5,A6];refine HA1.use ?_
     by_cases A4:isN a 1=true
     ·simp-implicitDefEqProofs[A4,ho,hc,A3,hk,A5,A6]
     ·simp-implicitDefEqProofs[A4,ho,hc,A3,hk,A5,A6]
 ·simp-implicitDefEqProofs[ho];refine HB0.use ?_
  by_cases D6:isN b 0=true
  ·simp-implicitDefEqProofs[D6,ho,hc,A3,hk,A5,A6];refine HB1.use ?_
   by_cases C6:isN b 1=true
   ·simp-implicitDefEqProofs[C6,ho,hc,A3,hk,A5,A6];refine HA0.use ?_
    by_cases A9:isN a 0=true
    ·simp-implicitDefEqProofs[A9,ho,hc,A3,hk,A5,A6];refine HA1.use ?_
     by_cases A4:isN a 1=true
     ·simp-implicitDefEqProofs[A4,ho,hc,A3,hk,A5,A6]
     ·simp-implicitDefEqProofs[A4,ho,hc,A3,hk,A5,A6]
    ·simp-implicitDefEqProofs[A9,ho,hc,A3,hk,A5,A6];refine HA1.use ?_
     by_cases A4:isN a 1=true
     ·simp-implicitDefEqProofs[A4,ho,hc,A3,hk,A5,A6]
     ·simp-implicitDefEqProofs[A4,ho,hc,A3,hk,A5,A6]
   ·simp-implicitDefEqProofs[C6,ho,hc,A3,hk,A5,A6];refine HA0.use ?_
    by_cases A9:isN a 0=true
    ·simp-implicitDefEqProofs[A9,ho,hc,A3,hk,A5,A6];refine HA1.use ?_
     by_cases A4:isN a 1=true
     ·simp-implicitDefEqProofs[A4,ho,hc,A3,hk,A5,A6]
     ·simp-implicitDefEqProofs[A4,ho,hc,A3,hk,A5,A6]
    ·simp-implicitDefEqProofs[A9,ho,hc,A3,hk,A5,A6];refine HA1.use ?_
     by_cases A4:isN a 1=true
     ·simp-implicitDefEqProofs[A4,ho,hc,A3,hk,A5,A6]
     ·simp-implicitDefEqProofs[A4,ho,hc,A3,hk,A5,A6]
  ·simp-implicitDefEqProofs[D6,ho,hc,A3,hk,A5,A6];refine HB1.use ?_
   by_cases C6:isN b 1=true
   ·simp-implicitDefEqProofs[C6,ho,hc,A3,hk,A5,A6];refine HA0.use ?_
    by_cases A9:isN a 0=true
    ·simp-implicitDefEqProofs[A9,ho,hc,A3,hk,A5,A6];refine HA1.use ?_
     by_cases A4:isN a 1=true
     ·simp-implicitDefEqProofs[A4,ho,hc,A3,hk,A5,A6]
     ·simp-implicitDefEqProofs[A4,ho,hc,A3,hk,A5,A6]
    ·simp-implicitDefEqProofs[A9,ho,hc,A3,hk,A5,A6];refine HA1.use ?_
     by_cases A4:isN a 1=true
     ·simp-implicitDefEqProofs[A4,ho,hc,A3,hk,A5,A6]
     ·simp-implicitDefEqProofs[A4,ho,hc,A3,hk,A5,A6]
   ·simp-implicitDefEqProofs[C6,ho,hc,A3,hk,A5,A6];refine HA0.use ?_
    by_cases A9:isN a 0=true
    ·simp-implicitDefEqProofs[A9,ho,hc,A3,hk,A5,A6];refine HA1.use ?_
     by_cases A4:isN a 1=true
     ·simp-implicitDefEqProofs[A4,ho,hc,A3,hk,A5,A6]
     ·simp-implicitDefEqProofs[A4,ho,hc,A3,hk,A5,A6]
    ·simp-implicitDefEqProofs[A9,ho,hc,A3,hk,A5,A6];refine HA1.use ?_
     by_cases A4:isN a 1=true
     ·simp-implicitDefEqProofs[A4,ho,hc,A3,hk,A5,A6]
     ·simp-implicitDefEqProofs[A4,ho,hc,A3,hk,A5,A6]
 ·simp-implicitDefEqProofs[ho];refine HB0.use ?_
  by_cases D6:isN b 0=true
  ·simp-implicitDefEqProofs[D6,ho,hc,A3,hk,A5,A6];refine HB1.use ?_
   by_cases C6:isN b 1=true
   ·simp-implicitDefEqProofs[C6,ho,hc,A3,hk,A5,A6];refine HA0.use ?_
    by_cases A9:isN a 0=true
    ·simp-implicitDefEqProofs[A9,ho,hc,A3,hk,A5,A6];refine HA1.use ?_
     by_cases A4:isN a 1=true
     ·simp-implicitDefEqProofs[A4,ho,hc,A3,hk,A5,A6]
     ·simp-implicitDefEqProofs[A4,ho,hc,A3,hk,A5,A6]
    ·simp-implicitDefEqProofs[A9,ho,hc,A3,hk,A5,A6];refine HA1.use ?_
     by_cases A4:isN a 1=true
     ·simp-implicitDefEqProofs[A4,ho,hc,A3,hk,A5,A6]
     ·simp-implicitDefEqProofs[A4,ho,hc,A3,hk,A5,A6]
   ·simp-implicitDefEqProofs[C6,ho,hc,A3,hk,A5,A6];refine HA0.use ?_
    by_cases A9:isN a 0=true
    ·simp-implicitDefEqProofs[A9,ho,hc,A3,hk,A5,A6];refine HA1.use ?_
     by_cases A4:isN a 1=true
     ·simp-implicitDefEqProofs[A4,ho,hc,A3,hk,A5,A6]
     ·simp-implicitDefEqProofs[A4,ho,hc,A3,hk,A5,A6]
    ·simp-implicitDefEqProofs[A9,ho,hc,A3,hk,A5,A6];refine HA1.use ?_
     by_cases A4:isN a 1=true
     ·simp-implicitDefEqProofs[A4,ho,hc,A3,hk,A5,A6]
     ·simp-implicitDefEqProofs[A4,ho,hc,A3,hk,A5,A6]
  ·simp-implicitDefEqProofs[D6,ho,hc,A3,hk,A5,A6];refine HB1.use ?_
   by_cases C6:isN b 1=true
   ·simp-implicitDefEqProofs[C6,ho,hc,A3,hk,A5,A6];refine HA0.use ?_
    by_cases A9:isN a 0=true
    ·simp-implicitDefEqProofs[A9,ho,hc,A3,hk,A5,A6];refine HA1.use ?_
     by_cases A4:isN a 1=true
     ·simp-implicitDefEqProofs[A4,ho,hc,A3,hk,A5,A6]
     ·simp-implicitDefEqProofs[A4,ho,hc,A3,hk,A5,A6]
    ·simp-implicitDefEqProofs[A9,ho,hc,A3,hk,A5,A6];refine HA1.use ?_
     by_cases A4:isN a 1=true
     ·simp-implicitDefEqProofs[A4,ho,hc,A3,hk,A5,A6]
     ·simp-implicitDefEqProofs[A4,ho,hc,A3,hk,A5,A6]
   ·simp-implicitDefEqProofs[C6,ho,hc,A3,hk,A5,A6];refine HA0.use ?_
    by_cases A9:isN a 0=true
    ·simp-implicitDefEqProofs[A9,ho,hc,A3,hk,A5,A6];refine HA1.use ?_
     by_cases A4:isN a 1=true
     ·simp-implicitDefEqProofs[A4,ho,hc,A3,hk,A5,A6]
     ·simp-implicitDefEqProofs[A4,ho,hc,A3,hk,A5,A6]
    ·simp-implicitDefEqProofs[A9,ho,hc,A3,hk,A5,A6];refine HA1.use ?_
     by_cases A4:isN a 1=true
     ·simp-implicitDefEqProofs[A4,ho,hc,A3,hk,A5,A6]
     ·simp-implicitDefEqProofs[A4,ho,hc,A3,hk,A5,A6]
 ·simp-implicitDefEqProofs[ho];refine HA0.use ?_
  by_cases A9:isN a 0=true
  ·simp-implicitDefEqProofs[A9,ho,hc,A3,hk,A5,A6];refine(gO G _).use ?_;simp-implicitDefEqProofs[T7]
  ·simp-implicitDefEqProofs[A9,ho,hc,A3,hk,A5,A6];refine HB0.use ?_
   by_cases D6:isN b 0=true
   ·simp-implicitDefEqProofs[D6,ho,hc,A3,hk,A5,A6];refine HB1.use ?_
    by_cases C6:isN b 1=true
    ·simp-implicitDefEqProofs[C6,ho,hc,A3,hk,A5,A6];refine HA0.use ?_;simp-implicitDefEqProofs[A9];refine HA1.use ?_
     by_cases A4:isN a 1=true
     ·simp-implicitDefEqProofs[A4,ho,hc,A3,hk,A5,A6]
     ·simp-implicitDefEqProofs[A4,ho,hc,A3,hk,A5,A6]
    ·simp-implicitDefEqProofs[C6,ho,hc,A3,hk,A5,A6];refine HA0.use ?_;simp-implicitDefEqProofs[A9];refine HA1.use ?_
     by_cases A4:isN a 1=true
     ·simp-implicitDefEqProofs[A4,ho,hc,A3,hk,A5,A6]
     ·simp-implicitDefEqProofs[A4,ho,hc,A3,hk,A5,A6]
   ·simp-implicitDefEqProofs[D6,ho,hc,A3,hk,A5,A6];refine HB1.use ?_
    by_cases C6:isN b 1=true
    ·simp-implicitDefEqProofs[C6,ho,hc,A3,hk,A5,A6];refine HA0.use ?_;simp-implicitDefEqProofs[A9];refine HA1.use ?_
     by_cases A4:isN a 1=true
     ·simp-implicitDefEqProofs[A4,ho,hc,A3,hk,A5,A6]
     ·simp-implicitDefEqProofs[A4,ho,hc,A3,hk,A5,A6]
    ·simp-implicitDefEqProofs[C6,ho,hc,A3,hk,A5,A6];refine HA0.use ?_;simp-implicitDefEqProofs[A9];refine HA1.use ?_
     by_cases A4:isN a 1=true
     ·simp-implicitDefEqProofs[A4,ho,hc,A3,hk,A5,A6]
     ·simp-implicitDefEqProofs[A4,ho,hc,A3,hk,A5,A6]
end
section
def bl{σ α β:Type}(g:σ->α->β × σ):σ->List α->List β × σ
 |st,[]=>([],st)
 |st,x::r=>((g st x).1::(bl g (g st x).2 r).1,(bl g (g st x).2 r).2)
theorem Kt{σ α β:Type}(g:σ->α->β × σ):∀(a b:List α) (st:σ),bl g st (a++b)=((bl g st a).1++(bl g (bl g st a).2 b).1,(bl g (bl g st a).2 b).2)
 |[],b,st=>rfl
 |x::r,b,st=>by rw[abr,bl,Kt g r];rfl
theorem tI{σ α β:Type}{g:σ->α->β × σ}{l:List α}{st:σ}{i:Nat}(h:i<l.length):bl g st (l.take (i+1))=((bl g st (l.take i)).1++[(g (bl g st (l.take i)).2 l[i]).1],(g (bl g st (l.take i)).2 l[i]).2):=by rw[al h,Kt];rfl
theorem sf{σ α β:Type}(g:σ->α->β × σ):∀(l:List α) (st:σ),(bl g st l).1.length=l.length
 |[],st=>rfl
 |x::r,st=>by rw[bl,abc,abc,sf g r]
theorem te{σ α β:Type}{g:σ->α->β × σ}{inv:Nat->σ->Prop}:∀{l:List α} {st:σ} {k:Nat},inv k st->(∀(i:Nat) st (h:i<l.length),inv (k+i) st->inv (k+i+1) (g st l[i]).2)->∀i,i<=l.length->inv (k+i) (bl g st (l.take i)).2
 |[],st,k,h0,_,i,hi=>by
  have:i=0:=by simpa using hi
  subst this;exact h0
 |x::r,st,k,h0,hs,0,_=>h0
 |x::r,st,k,h0,hs,i+1,hi=>by
  have h1:=hs 0 st (by simp) h0
  have:=te (g:=g) (l:=r) (st:=(g st x).2) (k:=k+1) h1 (λj st hj hv=>by
   have:=hs (j+1) st (by simp;omega) (by rw[show k+(j+1)=k+1+j by omega];exact hv);rw[show k+(j+1)+1=k+1+j+1 by omega] at this;exact this) i (by simpa using hi)
  rw[act,bl,show k+(i+1)=k+1+i by omega];exact this
theorem Vx{n k:Nat}{A:List AO}{π:List Nat}{h r1:List AO}(hl:A.length=n)(ha:∀o∈A,Ξ n o)(hh:∀i,i<n->h[i]?=A[i]?)(ρ:List Nat)(hρ:∀i,i<n->ρ.getD i 0=i)(hρn:n<=ρ.length)(hk:k=n)(hr:HW ρ h π r1):HW ρ h (List.range' 0 k++π) (A++r1):=by
 subst hk
 have key:∀(B:List AO) (s:Nat),(∀i:Nat,B[i]?=h[s+i]?\/B.length<=i)->s+B.length=k->(∀o∈B,Ξ k o)->HW ρ h (List.range' s B.length++π) (B++r1):=by
  intro B
  induction B with
  |nil=>intro s _ _ _;exact hr
  |cons o r ih=>
   intro s hb hs ho;rw[abc,acX]
   have h0:h[s]?=some o:=by
    rcases hb 0 with h0|h0
    ·simpa using h0.symm
    ·simp at h0
   have C7:=ho o (by simp)
   have ih:=ih (s+1) (λi=>by
    rcases hb (i+1) with h1|h1
    ·rw[aa4] at h1;left;rw[h1];congr 1;omega
    ·right;simpa using h1) (by simp at hs;omega) (λo ho'=>ho o (by simp[ho']))
   have A8:=(Δ.1 h0).1;cases o with
   |dead=>exact gk A8 ih
   |row sz es=>
    refine bT (λx hx=>aR hρn _ (C7 x hx)) ?_ ih;rw[h0,abh (g:=id) λx hx=>mX hρ x (C7 x hx)];simp
   |mp es=>exact⟨A8,⟨λx hx=>by exact(aR hρn [x.2] ⟨C7 x hx,trivial⟩).1,by rw[h0,abh (g:=id) λx hx=>by rw[mD hρ x.2 (C7 x hx)];rfl];simp⟩,ih⟩
   |sit s p=>exact⟨A8,h0,ih⟩
 have:=key A 0 (λi=>by
  rcases abx i A.length with hi|hi
  ·left;rw[abz];exact(hh i (by omega)).symm
  ·right;exact hi) (by omega) ha
 rwa[hl] at this
theorem HZ{kk q n m d sz c:Nat}{A mid s:List AO}{es:List (List AV)}{l l1:List (Nat × AV)}(hl:A.length=n)(hm:mid.length=m)(hk:kk<=n)(ha:∀o∈A,Ξ n o)(he:∀x∈es,aj 0 x)(H:FgA n l l1)(hd:Aw.look l d= .sl (n+m) sz 0 c):
 Wk kk (ah q l) (A++(mid++ .row sz es::s)) (ah q ((d,.sl n sz 0 c)::l1)) (A++[.row sz es]):=by
 have hρ:∀i,i<n->(List.range' 0 n++[n+m]).getD i 0=i:=λi hi=>by rw[aba,aaT (by simp;exact hi)];simp[hi]
 have hρn:(List.range' 0 n++[n+m]).getD n 0=n+m:=by rw[aba,aa5 (by simp)];simp
 refine bB (List.range' 0 n++[n+m]) (by simp;omega) (λi hi=>hρ i (by omega)) ?_ ?_ ?_
 ·refine abE.2 ⟨adm,by simp,λa ha b hb e=>?_⟩;rw[aa0] at hb;have:=(List.mem_range'_1.1 ha).2;omega
 ·refine Vx hl ha (λi hi=>by rw[aaT (by omega)]) _ hρ (by simp) rfl ?_;refine aw ?_ he aP;rw[aa5 (by omega),hl,abI,aa5 (by omega),hm,aca];rfl
 ·refine⟨⟨by simp only[Ω];simp,by simp only[ren,hρn];exact hd.symm⟩,?_⟩;clear hd
  induction l1 with
  |nil=>trivial
  |cons x r ih=>
   obtain⟨⟨a,c⟩,e⟩:=H;exact⟨⟨(aR (by simp) [x.2] ⟨a,trivial⟩).1,by rw[mD hρ _ a,c]⟩,ih e⟩
theorem zR{hF:List AO}{n:Nat}:∀{A r:List AO},(∀o∈A,Ξ n o)->FzO hF n (A++r) A
 |[],r,_=> .nil r
 |o::a,r,h=> .same (h o (by simp)) (zR λo ho=>h o (by simp[ho]))
theorem CA{n:Nat}{A r:List AO}{o:AO}(hl:A.length=n):(tail n (A++o::r))[n]?=some o:=by
 unfold tail;rw[aa5 (by simp),List.length_replicate,aca,←hl,List.drop_left']
 ·rfl
 ·rfl
variable (G:au)
theorem tw{σ:Type}(V:Vis σ)(g:σ->Ex->Ex × σ)(inv:Nat->σ->Prop)(l:List Ex)(hb:l.length<=1073741824)(hn:0<V.n)
 (hv:∀(i:Nat) st (h:i<l.length),inv i st->inv (i+1) (g st l[i]).2/\AC Tryz.prog G V.F (.agg (l[i].cs.map .p)::V.caps) (V.I st) λx h'=>x= .ret (.agg ((g st l[i]).1.cs.map .p))/\h'=V.I (g st l[i]).2)(st:σ)(h0:inv 0 st):
 AC Tryz.prog G bc [.p (Φ l),.fn (.func V.F) V.caps] (V.I st) λx h=>x= .ret (.p (Φ (bl g st l).1))/\h=V.I (bl g st l).2:=by
 have A3:∀l,Φ l= .lst 4 (l.map Ex.cs):=λ_=>rfl
 have A0:=V.len;have H8:=V.capsOk
 have H5:∀i,i<=l.length->inv i (bl g st (l.take i)).2:=λi hi=>by
  have:=te (g:=g) (inv:=inv) (l:=l) (st:=st) (k:=0) h0 (λi st h hi=>by rw[abz] at hi⊢;exact(hv i st h hi).1) i hi
  rwa[abz] at this
 have hRp:∀l:List Ex,∀x∈exR l,aj 0 x:=dS;have hRl:∀l:List Ex,(exR l).length=l.length:=λl=>by simp[exR]
 have hRa:∀(l:List Ex) (y:Ex),exR (l++[y])=exR l++[y.cs.map .p]:=λl y=>by simp[exR]
 have key:AC Tryz.prog G bc [.p (Φ l),.fn (.func V.F) V.caps] (V.I st) λx h=>x= .ret (slE V.n 4 (exR (bl g st l).1))/\h=V.I (bl g st l).2++[bm 4 (exR (bl g st l).1)]:=by
  refine AC.go pI ?_;simp-implicitDefEqProofs[jq,A3]
  refine aJ (λi:Nat=>ah 22 [(5,slE V.n 4 (exR (bl g st (l.take i)).1)),(0,.p (Φ l)),(1,.fn (.func V.F) V.caps),(8,.p (Φ l)),(9,.p (.int .i64 l.length)),(10,.p (.int .i64 i))])
   (λi=>V.I (bl g st (l.take i)).2++[bm 4 (exR (bl g st (l.take i)).1)]) (λi=>i<=l.length) (λi=>l.length-i) 0 (by simp) ?_ ?_
  ·have e:bm 4 (exR (bl g st (l.take 0)).1)= .dead:=rfl;rw[e];exact iM (by rw[A0];exact aa3 _) (by rw[A0];exact hn) (by rw[A0];exact V.ok st) (by simp[Ω,A3,H8,A0,bl,exR,oQ])
  intro i hi;have hT:=λh=>tI (g:=g) (l:=l) (st:=st) (i:=i) h
  have M3:=H5 i hi;have G8:=sf g (l.take i) st;rw[abg,ab2 hi] at G8;generalize L3:bl g st (l.take i)=cur at hT M3 G8⊢;obtain⟨out,s⟩:=cur;simp only at hT M3 G8⊢;simp-implicitDefEqProofs[A3];refine aU (λhc=>?_) (λhc=>?_)
  ·simp at hc;have hg:=Γ hc;have hT:=hT hc;obtain⟨_,hA⟩:=hv i s hc M3;generalize l[i]=x at hg hT hA;have F1:=x.cs_eq;have hyc:=(g s x).1.cs_eq;rw[F1] at hA;simp-implicitDefEqProofs[hg,F1,A0];refine(V.pre G hA _ ⟨by simp[Ω],H8⟩).mono ?_;rintro r h ⟨rfl,rfl⟩;rw[hyc];simp-implicitDefEqProofs[aa,A0];have G3:=hRl out;refine⟨⟨by omega,by omega⟩,i+1,hc,by omega,?_⟩;rw[hT];simp only[hRa];rw[rH _ (by simp),ny _ (by simp),hyc];refine HZ (mid:=[_,_,_]) (s:=[]) (A0 _) rfl (aa3 _) (V.ok _) ?_ ?_ ?_
   ·intro x hx;rcases aaZ.1 hx with h|h
    ·exact hRp _ x h
    ·rw[aa0.1 h];simp
   ·simp[Ω,A3,H8,w1 (i:=i) (by omega)]
   ·simp
  ·simp at hc;have E3:i=l.length:=by omega
   subst E3;rw[abp] at L3;rw[L3];simp-implicitDefEqProofs[]
 refine key.frz V.n (by rw[A0];exact aa3 _) (λt v h ⟨e,_⟩=>by cases e) ?_;rintro v h ⟨e,rfl⟩;cases e;refine⟨_,V.I (bl g st l).2,by rw[aa9,A0];omega,A0 _,.one ?_ .nil,zR (V.ok _),rfl,rfl⟩;have ht:=CA (r:=[]) (o:=bm 4 (exR (bl g st l).1)) (A0 (bl g st l).2);have hh:exR (bl g st l).1=((bl g st l).1.map Ex.cs).map (·.map .p):=by simp[exR]
 rw[hh] at ht⊢;exact Bl ht (λx hx=>by obtain⟨b,_,rfl⟩:=abb.1 hx;simp)
theorem Oj{σ:Type}(V:Vis σ)(g:σ->Sm->Sm × σ)(inv:Nat->σ->Prop)(l:List Sm)(hb:l.length<=1073741824)(hn:0<V.n)
 (hv:∀(i:Nat) st (h:i<l.length),inv i st->inv (i+1) (g st l[i]).2/\AC Tryz.prog G V.F (.agg (l[i].cs.map .p)::V.caps) (V.I st) λx h'=>x= .ret (.agg ((g st l[i]).1.cs.map .p))/\h'=V.I (g st l[i]).2)(st:σ)(h0:inv 0 st):
 AC Tryz.prog G bf [.p (Θ l),.fn (.func V.F) V.caps] (V.I st) λx h=>x= .ret (.p (Θ (bl g st l).1))/\h=V.I (bl g st l).2:=by
 have A3:∀l,Θ l= .lst 5 (l.map Sm.cs):=λ_=>rfl
 have A0:=V.len;have H8:=V.capsOk
 have H5:∀i,i<=l.length->inv i (bl g st (l.take i)).2:=λi hi=>by
  have:=te (g:=g) (inv:=inv) (l:=l) (st:=st) (k:=0) h0 (λi st h hi=>by rw[abz] at hi⊢;exact(hv i st h hi).1) i hi
  rwa[abz] at this
 have hRp:∀l:List Sm,∀x∈smR l,aj 0 x:=aL;have hRl:∀l:List Sm,(smR l).length=l.length:=λl=>by simp[smR]
 have hRa:∀(l:List Sm) (y:Sm),smR (l++[y])=smR l++[y.cs.map .p]:=λl y=>by simp[smR]
 have key:AC Tryz.prog G bf [.p (Θ l),.fn (.func V.F) V.caps] (V.I st) λx h=>x= .ret (slE V.n 5 (smR (bl g st l).1))/\h=V.I (bl g st l).2++[bm 5 (smR (bl g st l).1)]:=by
  refine AC.go jm ?_;simp-implicitDefEqProofs[fm,A3]
  refine aJ (λi:Nat=>ah 22 [(5,slE V.n 5 (smR (bl g st (l.take i)).1)),(0,.p (Θ l)),(1,.fn (.func V.F) V.caps),(8,.p (Θ l)),(9,.p (.int .i64 l.length)),(10,.p (.int .i64 i))])
   (λi=>V.I (bl g st (l.take i)).2++[bm 5 (smR (bl g st (l.take i)).1)]) (λi=>i<=l.length) (λi=>l.length-i) 0 (by simp) ?_ ?_
  ·have e:bm 5 (smR (bl g st (l.take 0)).1)= .dead:=rfl;rw[e];exact iM (by rw[A0];exact aa3 _) (by rw[A0];exact hn) (by rw[A0];exact V.ok st) (by simp[Ω,A3,H8,A0,bl,smR,oQ])
  intro i hi;have hT:=λh=>tI (g:=g) (l:=l) (st:=st) (i:=i) h
  have M3:=H5 i hi;have G8:=sf g (l.take i) st;rw[abg,ab2 hi] at G8;generalize L3:bl g st (l.take i)=cur at hT M3 G8⊢;obtain⟨out,s⟩:=cur;simp only at hT M3 G8⊢;simp-implicitDefEqProofs[A3];refine aU (λhc=>?_) (λhc=>?_)
  ·simp at hc;have hg:=Γ hc;have hT:=hT hc;obtain⟨_,hA⟩:=hv i s hc M3;generalize l[i]=x at hg hT hA;have F1:=x.cs_eq;have hyc:=(g s x).1.cs_eq;rw[F1] at hA;simp-implicitDefEqProofs[hg,F1,A0];refine(V.pre G hA _ ⟨by simp[Ω],H8⟩).mono ?_;rintro r h ⟨rfl,rfl⟩;rw[hyc];simp-implicitDefEqProofs[aa,A0];have G3:=hRl out;refine⟨⟨by omega,by omega⟩,i+1,hc,by omega,?_⟩;rw[hT];simp only[hRa];rw[rH _ (by simp),ny _ (by simp),hyc];refine HZ (mid:=[_,_,_]) (s:=[]) (A0 _) rfl (aa3 _) (V.ok _) ?_ ?_ ?_
   ·intro x hx;rcases aaZ.1 hx with h|h
    ·exact hRp _ x h
    ·rw[aa0.1 h];simp
   ·simp[Ω,A3,H8,w1 (i:=i) (by omega)]
   ·simp
  ·simp at hc;have E3:i=l.length:=by omega
   subst E3;rw[abp] at L3;rw[L3];simp-implicitDefEqProofs[]
 refine key.frz V.n (by rw[A0];exact aa3 _) (λt v h ⟨e,_⟩=>by cases e) ?_;rintro v h ⟨e,rfl⟩;cases e;refine⟨_,V.I (bl g st l).2,by rw[aa9,A0];omega,A0 _,.one ?_ .nil,zR (V.ok _),rfl,rfl⟩;have ht:=CA (r:=[]) (o:=bm 5 (smR (bl g st l).1)) (A0 (bl g st l).2);have hh:smR (bl g st l).1=((bl g st l).1.map Sm.cs).map (·.map .p):=by simp[smR]
 rw[hh] at ht⊢;exact Bl ht (λx hx=>by obtain⟨b,_,rfl⟩:=abb.1 hx;simp)
theorem MK{σ:Type}(V:Vis σ)(g:σ->Fd->Fd × σ)(inv:Nat->σ->Prop)(l:List Fd)(hb:l.length<=1073741824)(hn:0<V.n)
 (hv:∀(i:Nat) st (h:i<l.length),inv i st->inv (i+1) (g st l[i]).2/\AC Tryz.prog G V.F (.agg (l[i].cs.map .p)::V.caps) (V.I st) λx h'=>x= .ret (.agg ((g st l[i]).1.cs.map .p))/\h'=V.I (g st l[i]).2)(st:σ)(h0:inv 0 st):
 AC Tryz.prog G bP [.p (fdL l),.fn (.func V.F) V.caps] (V.I st) λx h=>x= .ret (.p (fdL (bl g st l).1))/\h=V.I (bl g st l).2:=by
 have A3:∀l,fdL l= .lst 3 (l.map Fd.cs):=λ_=>rfl
 have A0:=V.len;have H8:=V.capsOk
 have H5:∀i,i<=l.length->inv i (bl g st (l.take i)).2:=λi hi=>by
  have:=te (g:=g) (inv:=inv) (l:=l) (st:=st) (k:=0) h0 (λi st h hi=>by rw[abz] at hi⊢;exact(hv i st h hi).1) i hi
  rwa[abz] at this
 have hRp:∀l:List Fd,∀x∈aH l,aj 0 x:=fU;have hRl:∀l:List Fd,(aH l).length=l.length:=λl=>by simp[aH]
 have hRa:∀(l:List Fd) (y:Fd),aH (l++[y])=aH l++[y.cs.map .p]:=λl y=>by simp[aH]
 have key:AC Tryz.prog G bP [.p (fdL l),.fn (.func V.F) V.caps] (V.I st) λx h=>x= .ret (slE V.n 3 (aH (bl g st l).1))/\h=V.I (bl g st l).2++[bm 3 (aH (bl g st l).1)]:=by
  refine AC.go rT ?_;simp-implicitDefEqProofs[kw,A3]
  refine aJ (λi:Nat=>ah 22 [(5,slE V.n 3 (aH (bl g st (l.take i)).1)),(0,.p (fdL l)),(1,.fn (.func V.F) V.caps),(8,.p (fdL l)),(9,.p (.int .i64 l.length)),(10,.p (.int .i64 i))])
   (λi=>V.I (bl g st (l.take i)).2++[bm 3 (aH (bl g st (l.take i)).1)]) (λi=>i<=l.length) (λi=>l.length-i) 0 (by simp) ?_ ?_
  ·have e:bm 3 (aH (bl g st (l.take 0)).1)= .dead:=rfl;rw[e];exact iM (by rw[A0];exact aa3 _) (by rw[A0];exact hn) (by rw[A0];exact V.ok st) (by simp[Ω,A3,H8,A0,bl,aH,oQ])
  intro i hi;have hT:=λh=>tI (g:=g) (l:=l) (st:=st) (i:=i) h
  have M3:=H5 i hi;have G8:=sf g (l.take i) st;rw[abg,ab2 hi] at G8;generalize L3:bl g st (l.take i)=cur at hT M3 G8⊢;obtain⟨out,s⟩:=cur;simp only at hT M3 G8⊢;simp-implicitDefEqProofs[A3];refine aU (λhc=>?_) (λhc=>?_)
  ·simp at hc;have hg:=Γ hc;have hT:=hT hc;obtain⟨_,hA⟩:=hv i s hc M3;generalize l[i]=x at hg hT hA;have F1:=x.cs_eq';have hyc:=(g s x).1.cs_eq';rw[F1] at hA;simp-implicitDefEqProofs[hg,F1,A0];refine(V.pre G hA _ ⟨by simp[Ω],H8⟩).mono ?_;rintro r h ⟨rfl,rfl⟩;rw[hyc];simp-implicitDefEqProofs[aa,A0];have G3:=hRl out;refine⟨⟨by omega,by omega⟩,i+1,hc,by omega,?_⟩;rw[hT];simp only[hRa];rw[rH _ (by simp),ny _ (by simp),hyc];refine HZ (mid:=[_,_,_]) (s:=[]) (A0 _) rfl (aa3 _) (V.ok _) ?_ ?_ ?_
   ·intro x hx;rcases aaZ.1 hx with h|h
    ·exact hRp _ x h
    ·rw[aa0.1 h];simp
   ·simp[Ω,A3,H8,w1 (i:=i) (by omega)]
   ·simp
  ·simp at hc;have E3:i=l.length:=by omega
   subst E3;rw[abp] at L3;rw[L3];simp-implicitDefEqProofs[]
 refine key.frz V.n (by rw[A0];exact aa3 _) (λt v h ⟨e,_⟩=>by cases e) ?_;rintro v h ⟨e,rfl⟩;cases e;refine⟨_,V.I (bl g st l).2,by rw[aa9,A0];omega,A0 _,.one ?_ .nil,zR (V.ok _),rfl,rfl⟩;have ht:=CA (r:=[]) (o:=bm 3 (aH (bl g st l).1)) (A0 (bl g st l).2);have hh:aH (bl g st l).1=((bl g st l).1.map Fd.cs).map (·.map .p):=by simp[aH]
 rw[hh] at ht⊢;exact Bl ht (λx hx=>by obtain⟨b,_,rfl⟩:=abb.1 hx;simp)
end
section
variable (G:au)
theorem Sb{σ:Type}(V:Vis σ)(step:σ->Ex->σ)(inv:σ->Prop)(P:Ex->Prop)(hP:∀e,P e->∀a∈e.kids,P a)(B:Nat)(hB:B<=1073741824)
 (hv:∀st e,inv st->P e->e.sz<=B->inv (step st e)/\AC Tryz.prog G V.F (.agg (e.cs.map .p)::V.caps) (V.I st) λx h=>x= .ret (.tup [])/\h=V.I (step st e)):
 ∀(N:Nat) (e:Ex),P e->e.sz<N->e.sz<=B->∀st,inv st->inv (e.pre.foldl step st)/\AC Tryz.prog G gR [.agg (e.cs.map .p),.fn (.func V.F) V.caps] (V.I st) λx h=>x= .ret (.tup [])/\h=V.I (e.pre.foldl step st):=by
 intro N
 induction N with
 |zero=>intro e _ h;omega
 |succ N ih=>
  intro e hpe he hz st hi;have B9:=e.cs_eq;have D0:=e.sz_eq;have G6:=bg e.kids;have A3:Φ e.kids= .lst 4 (e.kids.map Ex.cs):=rfl;have A0:=V.len;obtain⟨i1,h1⟩:=hv st e hi hpe hz
  have H5:∀i,i<=e.kids.length->inv ((da (e.kids.take i)).foldl step (step st e)):=by
   intro i
   induction i with
   |zero=>intro _;exact i1
   |succ i ihi=>
    intro hl;have hg:i<e.kids.length:=by omega
    have G4:=aQ (aa2 hg);rw[al hg,pP,ab9,da,da,abF];exact(ih e.kids[i] (hP e hpe _ (aa2 hg)) (by omega) (by omega) _ (ihi (by omega))).1
  refine⟨?_,?_⟩
  ·rw[Ex.pre_eq,abZ];have:=H5 e.kids.length (aa3 _);rwa[abp] at this
  refine V.trim G (AC.go zQ ?_) (by simp[Ω]);have H8:=V.capsOk;have Z5:aj (V.n+1) V.caps:=aR (by omega) _ H8;rw[B9] at h1;simp-implicitDefEqProofs[rG,B9,A0];refine(V.pre G h1 _ ⟨by simp[Ω],H8⟩).mono ?_;rintro r h ⟨rfl,rfl⟩;simp-implicitDefEqProofs[aa,A0,A3]
  refine aJ (λi:Nat=>ah 20 [(1,.fn (.func V.F) V.caps),(2,.ptr V.n 4 0 0),(10,.p (Φ e.kids)),(11,.p (.int .i64 e.kids.length)),(12,.p (.int .i64 i))])
   (λi=>V.I ((da (e.kids.take i)).foldl step (step st e))++[.row 4 [[.p (.int .i64 e.op),.p (.int .i64 e.n),.p (.str e.name),.p (Φ e.kids)]]]) (λi=>i<=e.kids.length) (λi=>e.kids.length-i) 0 (by simp) ?_ ?_
  ·refine V.same (r:=[_]) (s:=[]) _ (aa3 _) (by simp[Ξ,Ω]) ?_;simp[Ω,A3,Z5]
  intro i F3;simp-implicitDefEqProofs[A3];refine aU (λhc=>?_) (λhc=>?_)
  ·simp at hc;have hg:=Γ hc;have G4:=aQ (aa2 hc);have F1:=e.kids[i].cs_eq;have hI:=(ih e.kids[i] (hP e hpe _ (aa2 hc)) (by omega) (by omega) _ (H5 i F3)).2;rw[F1] at hI;simp-implicitDefEqProofs[hg,F1,A0];refine(V.pre G hI _ ⟨by simp[Ω],by simp[Ω,H8],trivial⟩).mono ?_;rintro r h ⟨rfl,rfl⟩;simp-implicitDefEqProofs[aa];refine⟨i+1,hc,by omega,?_⟩
   have hf:(da (e.kids.take (i+1))).foldl step (step st e)=e.kids[i].pre.foldl step ((da (e.kids.take i)).foldl step (step st e)):=by rw[al hc,pP,ab9,da,da,abF]
   rw[hf];refine V.same (r:=[_]) (s:=[_]) _ (aa3 _) (by simp[Ξ,Ω]) ?_;simp[Ω,A3,Z5,w1 (i:=i) (by omega)]
  ·simp at hc;have E3:i=e.kids.length:=by omega
   subst E3;rw[abp,Ex.pre_eq,abZ];simp-implicitDefEqProofs[]
theorem mF(n:Int):VF Tryz.prog G fj [.p (.int .i64 n)] (.agg ((cf n).cs.map .p)):=by
 have key:AC Tryz.prog G fj [.p (.int .i64 n)] [] λx h=>x= .ret (.agg [.p (.int .i64 1),.p (.int .i64 n),.p (.str []),.nils]):=by
  refine AC.go EV ?_;simp-implicitDefEqProofs[tp]
 refine key.freezeR (λt v h e=>by cases e) λv h e=>?_
 cases e;exact .agg (.one (.p _) (.one (.p _) (.one (.p _) (.one (.nils 4) .nil)))) .nil
theorem Ay(e:Ex)(n:Int):VF Tryz.prog G jV [.agg (e.cs.map .p),.p (.int .i64 n)] (.p (.bool (isN e n))):=by
 refine AC.go GK ?_
 by_cases h1:e.op=1
 ·simp-implicitDefEqProofs[rq,Ex.cs_eq,isN,h1]
 ·simp-implicitDefEqProofs[rq,Ex.cs_eq,isN,h1]
theorem pC(b:Bool):VF Tryz.prog G mQ [.p (.bool b)] (.p (.int .i64 (tr5 b))):=by
 refine AC.go DZ ?_;cases b<;>simp-implicitDefEqProofs[sM,tr5]
def zE:Option Int->AV
 |some q=> .tup [.p (.int .i64 q),.p (.bool true)]
 |none=> .tup [.p (.int .i64 0),.p (.bool false)]
theorem JQ(a b:Int):VF Tryz.prog G gM [.p (.int .i64 11),.p (.int .i64 a),.p (.int .i64 b)] (.tup [.p (.int .i64 (tr5 (decide (a=0)))),.p (.bool true)]):=by
 refine AC.go zH ?_;simp-implicitDefEqProofs[rp];refine(pC G _).use ?_;simp-implicitDefEqProofs[]
theorem CU(o a b:Int)(ho:3<=o)(h9:o<=10)(ha:V5 a)(hb:V5 b):VF Tryz.prog G gM [.p (.int .i64 o),.p (.int .i64 a),.p (.int .i64 b)] (zE (ar5 o a b)):=by
 obtain⟨a0,a1⟩:=ha;obtain⟨b0,b1⟩:=hb;refine AC.go zH ?_
 have hm:a*b<=65025:=by
  have h1:=Int.mul_le_mul_of_nonneg_right a1 b0;omega
 have hm0:0<=a*b:=adx a0 b0;have ho':o=3\/o=4\/o=5\/o=6\/o=7\/o=8\/o=9\/o=10:=by omega
 rcases ho' with rfl|rfl|rfl|rfl|rfl|rfl|rfl|rfl
 all_goals simp-implicitDefEqProofs[rp,ar5,gQ]
 ·rw[ae (by omega) (by omega),ab3 (by omega)];rfl
 ·have hw:IntKind.i64.wrap (a-b)=a-b:=ae (by omega) (by omega);rw[hw,ae (by omega) (by omega),ab3 (by omega)];have:(a-b+256)%256=(a-b)%256:=by omega
  rw[this];rfl
 ·rw[ae (by omega) (by omega),ab3 (by omega)];rfl
 ·refine aU (λh=>?_) (λh=>?_)
  ·simp at h;simp-implicitDefEqProofs[h,zE]
  ·simp at h;simp-implicitDefEqProofs[h,zE];rw[acU (by omega)];have h1:a/b<=a:=adp b a0;have h2:0<=a/b:=adt a0 b0;exact ae (by omega) (by omega)
 ·refine aU (λh=>?_) (λh=>?_)
  ·simp at h;simp-implicitDefEqProofs[h,zE]
  ·simp at h;simp-implicitDefEqProofs[h,zE];rw[ab3 (by omega)]
 ·refine(pC G _).use ?_;simp-implicitDefEqProofs[zE]
 ·refine(pC G _).use ?_;simp-implicitDefEqProofs[zE]
 ·by_cases h:a=0
  ·simp-implicitDefEqProofs[h];refine(pC G _).use ?_;simp-implicitDefEqProofs[zE]
  ·simp-implicitDefEqProofs[h];refine(pC G _).use ?_;simp-implicitDefEqProofs[zE]
def okP(e:Ex):Bool:= !decide (e.op=12)&& !decide (e.op=13)&& !dvE e
mutual
theorem JE:∀e:Ex,e.pre.all okP=dI e
 | .mk o n s ks=>by
   rw[Kc,Ex.pre_eq,ac0,okP];show(_&&(da ks).all okP)=_;rw[FZ ks];rfl
theorem FZ:∀l:List Ex,(da l).all okP=l.all dI
 |[]=>rfl
 |e::r=>by rw[da,ade,ac0,JE e,FZ r]
end
def vI(p:List PV):Vis Bool where
 I:=λst=>[.row 4 [p.map .p],.row 1 [[.p (.bool st)]]]
 n:=2
 F:=eC
 caps:=[.ptr 1 1 0 0]
 len:=λ_=>rfl
 ok:=λst=>by simp[Ξ,Ω]
 capsOk:=by simp[Ω]
theorem GZ(p:List PV)(st:Bool){d:Nat}{e:Ex}(hf:aT d e=true):AC Tryz.prog G eC [.agg (e.cs.map .p),.ptr 1 1 0 0] ((vI p).I st) λx h=>x= .ret (.tup [])/\h=(vI p).I (st&&okP e):=by
 refine(vI p).trim G (AC.go Al ?_) (by simp[Ω]);have B9:=e.cs_eq;have A3:∀l,Φ l= .lst 4 (l.map Ex.cs):=λ_=>rfl
 cases st with
 |false=>simp-implicitDefEqProofs[bw,B9,vI]
 |true=>
  by_cases o12:e.op=12
  ·simp-implicitDefEqProofs[bw,B9,vI,o12,okP]
  by_cases o13:e.op=13
  ·simp-implicitDefEqProofs[bw,B9,vI,o13,okP]
  by_cases o67:e.op=6\/e.op=7
  ·have hk:∃a b,e.kids=[a,b]:=by
    obtain⟨l1,l2,_⟩:=dL hf;have e1:loK e.op=2/\hiK e.op=2:=by rcases o67 with h|h<;>rw[h]<;>exact⟨rfl,rfl⟩
    rw[e1.1] at l1;rw[e1.2] at l2
    match hx:e.kids,l1,l2 with
    |[a,b],_,_=>exact⟨a,b,rfl⟩
   obtain⟨a,b,hk⟩:=hk;have A6:=b.cs_eq
   have hd:okP e=(decide (b.op=1)&& !decide (b.n=0)):=by
    rw[okP,dvE,hk];rcases o67 with h|h<;>simp[h]
   rw[hd];rcases o67 with o6|o7
   ·by_cases b1:b.op=1
    ·simp-implicitDefEqProofs[bw,B9,vI,o6,A3,hk,A6,b1]
    ·simp-implicitDefEqProofs[bw,B9,vI,o6,A3,hk,A6,b1]
   ·by_cases b1:b.op=1
    ·simp-implicitDefEqProofs[bw,B9,vI,o7,A3,hk,A6,b1]
    ·simp-implicitDefEqProofs[bw,B9,vI,o7,A3,hk,A6,b1]
  ·have o6:¬e.op=6:=λh=>o67 (.inl h)
   have o7:¬e.op=7:=λh=>o67 (.inr h)
   have hd:okP e=true:=by simp[okP,dvE,o6,o7,o12,o13]
   rw[hd];simp-implicitDefEqProofs[bw,B9,vI,o6,o7,o12,o13]
theorem OI(l:List Ex)(b:Bool):l.foldl (λst e=>st&&okP e) b=(b&&l.all okP):=by
 induction l generalizing b with
 |nil=>simp
 |cons e r ih=>rw[abZ,ih,ac0,Bool.and_assoc]
theorem Dh(hK:G dc=some cU)(hS:G bv=some [PV.tbl opK opV]){e:Ex}(hx:iG e=true)(hz:e.sz<=1073741824):VF Tryz.prog G iW [.agg (e.cs.map .p)] (.p (.bool (dI e))):=by
 refine AC.go Cw ?_;have B9:=e.cs_eq;have HV:=BX G hK hS e hz
 have HP:=(Sb G (vI e.cs) (λst e=>st&&okP e) (λ_=>True) (λe=>∃d,aT d e=true) (λe ⟨d,h⟩ a ha=>by
  obtain⟨d,rfl⟩:=bK h;exact⟨d,bh h ha⟩) 1073741824 (by omega) (λst x _ ⟨d,h⟩ _=>⟨trivial,GZ G e.cs st h⟩) (e.sz+1) e ⟨6,pO hx⟩ (by omega) hz true trivial).2
 rw[OI,aco,JE] at HP;rw[B9] at HV HP;have hI:∀st,(vI [.int .i64 e.op,.int .i64 e.n,.str e.name,Φ e.kids]).I st=[.row 4 [[.p (.int .i64 e.op),.p (.int .i64 e.n),.p (.str e.name),.p (Φ e.kids)]],.row 1 [[.p (.bool st)]]]:=λ_=>rfl
 have hF:(vI [.int .i64 e.op,.int .i64 e.n,.str e.name,Φ e.kids]).F=eC:=rfl;have hc:(vI [.int .i64 e.op,.int .i64 e.n,.str e.name,Φ e.kids]).caps=[.ptr 1 1 0 0]:=rfl;rw[hI,hI,hF,hc] at HP;simp-implicitDefEqProofs[rM,B9];refine HV.use ?_;simp-implicitDefEqProofs[hx];refine HP.mono ?_;rintro r h ⟨rfl,rfl⟩;simp-implicitDefEqProofs[aa]
end
section
def eU:O5 Int->ARes
 | .ok n=> .ret (.p (.int .i64 n))
 | .st c=> .pan ck (.int .i64 c)
structure PL (M:Nat) (l:List Fd) (fZ sid:Nat) (h:List AO) (s':S5) (sv':AV) (sid':Nat) (h':List AO):Prop where
 run:MI M l fZ sv' sid' s' h'
 fr:Fr [M,sid] h h'
 fs:sid'=sid\/h.length<=sid'
def PxL(M:Nat)(l:List Fd)(fZ sid:Nat)(h:List AO)(s':S5)(r:O5 Int)(x:ARes)(h':List AO):Prop:=x=eU r/\∃sv' sid',PL M l fZ sid h s' sv' sid' h'
structure CI (h:List AO) (u:AV) (v:List Sc5) (I:List Nat) (M sid:Nat):Prop where
 chn:Chn h u v I
 nd:I.Nodup
 sn:sid∉I
 mn:M∉I
section
variable {M:Nat} {l:List Fd} {fZ sid:Nat} {h h' h2 os:List AO} {s s1 s':S5} {sv sv1 sv':AV} {sid1 sid':Nat} {u:AV} {v:List Sc5} {I:List Nat}
theorem CI.more(C:CI h u v I M sid)(os:List AO):CI (h++os) u v I M sid:=⟨C.chn.more os,C.nd,C.sn,C.mn⟩
theorem PL.from(P:PL M l fZ sid (h++os) s' sv' sid' h'):PL M l fZ sid h s' sv' sid' h':=⟨P.run,P.fr.from,by
 rcases P.fs with e|e
 ·exact .inl e
 ·exact .inr (by simp at e;omega)⟩
theorem CI.after(C:CI h u v I M sid)(P:PL M l fZ sid h s' sv' sid' h'):CI h' u v I M sid':=
 ⟨C.chn.frame λi hi=>P.fr.2 i (C.chn.lt i hi) (by simp only[aa6,abo,or_false,not_or];exact⟨λe=>C.mn (e▸hi),λe=>C.sn (e▸hi)⟩),C.nd,λhm=>by
   rcases P.fs with e|e
   ·exact C.sn (e▸hm)
   ·have:=C.chn.lt _ hm;omega,C.mn⟩
theorem PL.keep(H:MI M l fZ sv sid s h)(P:PL M l fZ sid (h++os) s' sv' sid' h'){i:Nat}(hi:i<os.length):h'[h.length+i]?=os[i]?:=by
 have a:=H.lt;have b:=H.said.lt;rw[P.fr.2 (h.length+i) (by simp;omega) (by simp;omega),aa5 (by omega),abI]
theorem PL.trans(P:PL M l fZ sid h s1 sv1 sid1 h2)(Q:PL M l fZ sid1 h2 s' sv' sid' h'):PL M l fZ sid h s' sv' sid' h':=by
 refine⟨Q.run,P.fr.trans Q.fr λi hi=>?_,?_⟩
 ·have:=P.fs;simp only[aa6,abo,or_false] at hi⊢;omega
 ·have:=P.fs;have:=Q.fs;have:=P.fr.1;omega
theorem PL.refl(H:MI M l fZ sv sid s h)(os:List AO):PL M l fZ sid h s sv sid (h++os):=⟨H.more os,Fr.more _ _ _,.inl rfl⟩
end
variable (G:au)
def PxC(l:List Fd)(M k fZ:Nat)(e:Ex):Prop:=∀v s s' r,Ev l (.ex k v s e s' r)->In5 v s->∀u I sid sv h,MI M l fZ sv sid s h->CI h u v I M sid->
 AC Tryz.prog G cC [.ptr M 20 0 0,.agg (e.cs.map .p),u] h (PxL M l fZ sid h s' r)
inductive AgV (h:List AO) (lo sid:Nat):AV->List Int->Prop where
 |nn:AgV h lo sid .nils []
 |ss (aid:Nat) (xs:List Int):h[aid]?=some (gr xs)->lo<=aid->aid≠sid->AgV h lo sid (.sl aid 1 0 xs.length) xs
 |pp (xs:List Int):AgV h lo sid (.p (bx xs)) xs
def PcC(l:List Fd)(M k fZ:Nat):Prop:=∀us s s' r,Ev l (.cal k us s s' r)->(∀n∈us,V5 n)->G5 s->M5 s<=4000->∀av sid sv h,MI M l fZ sv sid s h->AgV h 0 sid av us->
 AC Tryz.prog G fh [.ptr M 20 0 0,.p (.int .i64 k),av] h (PxL M l fZ sid h s' r)
theorem VQ{l:List Fd}{M k fZ:Nat}(hC:∀e:Ex,e.op=13->WfE l k e->(∀a∈e.kids,PxC G l M k fZ a)->PxC G l M k fZ e):∀(N:Nat) (e:Ex),e.sz<=N->WfE l k e->PxC G l M k fZ e:=by
 intro N
 induction N with
 |zero=>intro e he;have:=e.sz_eq;omega
 |succ N ih=>
  intro e hN W;have D0:=e.sz_eq;have ihk:∀a∈e.kids,PxC G l M k fZ a:=λa ha=>ih a (by have:=aQ ha;omega) (W.kid ha)
  by_cases E9:e.op=13
  ·exact hC e E9 W ihk
  intro v s s' r hE I0 u I sid sv h H C;have B9:=e.cs_eq;have G6:=bg e.kids;have A8:Φ e.kids= .lst 4 (e.kids.map Ex.cs):=rfl;have fin0:∀n os,PxL M l fZ sid h s (.ok n) (.ret (.p (.int .i64 n))) (h++os):=λn os=>⟨rfl,_,_,PL.refl H os⟩
  obtain⟨e0,rfl,_,hue⟩:=C.chn.is;obtain⟨box,D4⟩:∃box,box=AO.row 4 [[.p (.int .i64 e.op),.p (.int .i64 e.n),.p (.str e.name),.p (.lst 4 (e.kids.map Ex.cs))]]:=⟨_,rfl⟩
  have first:∀a s1 r1 (Q:ARes->List AO->Prop),a∈e.kids->Ev l (.ex k v s a s1 r1)->(∀sv1 sid1 h2,PL M l fZ sid (h++[box]) s1 sv1 sid1 h2->CI h2 (.ptr e0 2 0 0) v I M sid1->h2[h.length]?=some box->In5 v s1->(∀n,r1= .ok n->V5 n)->Q (eU r1) h2)->
   AC Tryz.prog G cC [.ptr M 20 0 0,.agg [.p (.int .i64 a.op),.p (.int .i64 a.n),.p (.str a.name),.p (Φ a.kids)],.ptr e0 2 0 0] (h++[box]) Q:=λa s1 r1 Q ha hE1 hq=>by
   have A5:a.cs.map AV.p=[.p (.int .i64 a.op),.p (.int .i64 a.n),.p (.str a.name),.p (Φ a.kids)]:=by rw[a.cs_eq];rfl
   rw[←A5];refine(ihk a ha v s s1 r1 hE1 I0 _ I sid sv _ (H.more [box]) (C.more [box])).mono ?_;rintro z h2 ⟨rfl,sv1,sid1,P⟩;have I1:=I0.ex hE1;exact hq sv1 sid1 h2 P ((C.more [box]).after P) (by have:=PL.keep H P (i:=0) (by simp);simpa using this) I1.1 I1.2
  have second:∀a s1 s2 r2 sv1 sid1 h2 (Q:ARes->List AO->Prop),a∈e.kids->Ev l (.ex k v s1 a s2 r2)->In5 v s1->PL M l fZ sid (h++[box]) s1 sv1 sid1 h2->CI h2 (.ptr e0 2 0 0) v I M sid1->
   (∀sv2 sid2 h3,PL M l fZ sid (h++[box]) s2 sv2 sid2 h3->h3[h.length]?=some box->In5 v s2->(∀n,r2= .ok n->V5 n)->Q (eU r2) h3)->
   AC Tryz.prog G cC [.ptr M 20 0 0,.agg [.p (.int .i64 a.op),.p (.int .i64 a.n),.p (.str a.name),.p (Φ a.kids)],.ptr e0 2 0 0] h2 Q:=λa s1 s2 r2 sv1 sid1 h2 Q ha hE1 I1 P1 C1 hq=>by
   have A5:a.cs.map AV.p=[.p (.int .i64 a.op),.p (.int .i64 a.n),.p (.str a.name),.p (Φ a.kids)]:=by rw[a.cs_eq];rfl
   rw[←A5];refine(ihk a ha v s1 s2 r2 hE1 I1 _ I sid1 sv1 _ P1.run C1).mono ?_;rintro z h3 ⟨rfl,sv2,sid2,P⟩;have I2:=I1.ex hE1;exact hq sv2 sid2 h3 (P1.trans P) (by have:=PL.keep H (P1.trans P) (i:=0) (by simp);simpa using this) I2.1 I2.2
  have kids2:3<=e.op->e.op<=10->∃a b,e.kids=[a,b]:=λq1 q2=>by
   obtain⟨d,hd⟩:=W.form;obtain⟨f1,f2,_,_⟩:=dL hd
   have A0:e.kids.length=2:=by
    have:e.op=3\/e.op=4\/e.op=5\/e.op=6\/e.op=7\/e.op=8\/e.op=9\/e.op=10:=by omega
    rcases this with q|q|q|q|q|q|q|q<;>rw[q] at f1 f2<;>simp[loK,hiK] at f1 f2<;>omega
   match hk:e.kids,A0 with
   |[a,b],_=>exact⟨a,b,rfl⟩
  refine AC.go mo ?_;cases hE with
  |num E9 hv=>
   simp-implicitDefEqProofs[aC,B9,E9];exact fin0 _ _
  | @var _ _ _ _ n E9 hv=>
    simp-implicitDefEqProofs[aC,B9,E9];refine(Nr G (C.more _).chn C.nd hv).mono ?_;rintro z h1 ⟨rfl,e1,rfl,m,c,w,g1,g2,g3,g4,g5⟩;have hq:=EB e.name c;rw[g3] at hq;simp-implicitDefEqProofs[aa,g1,g2,hq];exact fin0 _ _
  |call h0 _ _ _ _=>exact(E9 h0).elim
  |callS h0 _=>exact(E9 h0).elim
  | @firstS _ _ _ _ a rr _ c h1 h2 h3 h4=>
    have ha:a∈e.kids:=by rw[h3];simp
    have n1:¬e.op=1:=by omega
    have n2:¬e.op=2:=by omega
    have hg:e.kids[0]?=some a:=by rw[h3];rfl
    have G7:=a.cs_eq
    by_cases o10:e.op=10
    ·rw[o10] at D4;simp-implicitDefEqProofs[aC,B9,A8,hg,G7,o10];rw[←D4];refine first a _ _ _ ha h4 λsv1 sid1 h2 P C1 b1 I1 hv=>?_
     simp-implicitDefEqProofs[eU];exact⟨rfl,sv1,sid1,P.from⟩
    by_cases o12:e.op=12
    ·rw[o12] at D4;simp-implicitDefEqProofs[aC,B9,A8,hg,G7,o12];rw[←D4];refine first a _ _ _ ha h4 λsv1 sid1 h2 P C1 b1 I1 hv=>?_
     simp-implicitDefEqProofs[eU];exact⟨rfl,sv1,sid1,P.from⟩
    simp-implicitDefEqProofs[aC,B9,A8,hg,G7,n1,n2,E9,o10,o12];rw[←D4];refine first a _ _ _ ha h4 λsv1 sid1 h2 P C1 b1 I1 hv=>?_
    simp-implicitDefEqProofs[eU];exact⟨rfl,sv1,sid1,P.from⟩
  | @and0 _ _ _ _ a b _ h1 h2 h3=>
    have ha:a∈e.kids:=by rw[h2];simp
    have n1:¬e.op=1:=by omega
    have n2:¬e.op=2:=by omega
    have hg:e.kids[0]?=some a:=by rw[h2];rfl
    have G7:=a.cs_eq;rw[h1] at D4;simp-implicitDefEqProofs[aC,B9,A8,hg,G7,n1,n2,E9,h1];rw[←D4];refine first a _ _ _ ha h3 λsv1 sid1 h2 P C1 b1 I1 hv=>?_
    simp-implicitDefEqProofs[eU,aa];exact⟨rfl,sv1,sid1,P.from⟩
  | @and1 _ _ _ _ a b s1 n _ m h1 h2 h3 h4 h5=>
    have ha:a∈e.kids:=by rw[h2];simp
    have n1:¬e.op=1:=by omega
    have n2:¬e.op=2:=by omega
    have hg:e.kids[0]?=some a:=by rw[h2];rfl
    have G7:=a.cs_eq;have hb:b∈e.kids:=by rw[h2];simp
    have hgb:e.kids[1]?=some b:=by rw[h2];rfl
    have W5:=b.cs_eq;rw[h1] at D4;simp-implicitDefEqProofs[aC,B9,A8,hg,G7,n1,n2,E9,h1];rw[←D4];refine first a _ _ _ ha h3 λsv1 sid1 h2 P C1 b1 I1 hv=>?_
    rw[D4] at b1;simp-implicitDefEqProofs[eU,aa,h4,b1,A8,hgb,W5];refine second b _ _ _ _ _ _ _ hb h5 I1 P C1 λsv2 sid2 h3 P2 b2 I2 O7=>?_
    have hA:ar5 10 1 m=some (tr5 (decide (m≠0))):=by simp[ar5]
    have hT:=CU G 10 1 m (by omega) (by omega) ⟨by omega,by omega⟩ (O7 m rfl);rw[hA] at hT;simp only[zE] at hT;simp-implicitDefEqProofs[eU,aa];refine hT.use ?_;simp-implicitDefEqProofs[];exact⟨by simp[eU],sv2,sid2,P2.from⟩
  | @andS _ _ _ _ a b s1 n _ c h1 h2 h3 h4 h5=>
    have ha:a∈e.kids:=by rw[h2];simp
    have n1:¬e.op=1:=by omega
    have n2:¬e.op=2:=by omega
    have hg:e.kids[0]?=some a:=by rw[h2];rfl
    have G7:=a.cs_eq;have hb:b∈e.kids:=by rw[h2];simp
    have hgb:e.kids[1]?=some b:=by rw[h2];rfl
    have W5:=b.cs_eq;rw[h1] at D4;simp-implicitDefEqProofs[aC,B9,A8,hg,G7,n1,n2,E9,h1];rw[←D4];refine first a _ _ _ ha h3 λsv1 sid1 h2 P C1 b1 I1 hv=>?_
    rw[D4] at b1;simp-implicitDefEqProofs[eU,aa,h4,b1,A8,hgb,W5];refine second b _ _ _ _ _ _ _ hb h5 I1 P C1 λsv2 sid2 h3 P2 b2 I2 O7=>?_
    simp-implicitDefEqProofs[eU];exact⟨rfl,sv2,sid2,P2.from⟩
  | @not _ _ _ _ a _ n h1 h2 h3=>
    have ha:a∈e.kids:=by rw[h2];simp
    have n1:¬e.op=1:=by omega
    have n2:¬e.op=2:=by omega
    have hg:e.kids[0]?=some a:=by rw[h2];rfl
    have G7:=a.cs_eq;have I7:e.kids.length=1:=by rw[h2];rfl
    rw[h1] at D4;simp-implicitDefEqProofs[aC,B9,A8,hg,G7,n1,n2,E9,h1];rw[←D4];refine first a _ _ _ ha h3 λsv1 sid1 h2 P C1 b1 I1 hv=>?_
    rw[D4] at b1;simp-implicitDefEqProofs[eU,aa,b1,A8,I7];refine(JQ G n 0).use ?_;simp-implicitDefEqProofs[];exact⟨by simp[eU],sv1,sid1,P.from⟩
  | @at_ _ _ _ _ a s1 n m h1 h2 h3 h4 h5=>
    have ha:a∈e.kids:=by rw[h2];simp
    have n1:¬e.op=1:=by omega
    have n2:¬e.op=2:=by omega
    have hg:e.kids[0]?=some a:=by rw[h2];rfl
    have G7:=a.cs_eq;rw[h1] at D4;simp-implicitDefEqProofs[aC,B9,A8,hg,G7,n1,n2,E9,h1];rw[←D4];refine first a _ _ _ ha h3 λsv1 sid1 h2 P C1 b1 I1 hv=>?_
    simp-implicitDefEqProofs[eU,aa];refine(LD G P.run n (by omega)).mono ?_;rintro z h3 hz;rw[if_neg (by omega)] at hz;obtain⟨rfl,rfl⟩:=hz;have hm:=P.run.men;simp only[lJ] at hm
    have F4:∀a b c d,(a::b::c::d::s'.cells.map (λn=>AV.p (.int .i64 n)))[4+n]?=some (.p (.int .i64 m)):=λa b c d=>by
     rw[show 4+n=n+1+1+1+1 by omega];simp[h5]
    simp-implicitDefEqProofs[aa,hm,F4];exact⟨rfl,sv1,sid1,P.from⟩
  | @atS _ _ _ _ a _ n h1 h2 h3 h4=>
    have ha:a∈e.kids:=by rw[h2];simp
    have n1:¬e.op=1:=by omega
    have n2:¬e.op=2:=by omega
    have hg:e.kids[0]?=some a:=by rw[h2];rfl
    have G7:=a.cs_eq;rw[h1] at D4;simp-implicitDefEqProofs[aC,B9,A8,hg,G7,n1,n2,E9,h1];rw[←D4];refine first a _ _ _ ha h3 λsv1 sid1 h2 P C1 b1 I1 hv=>?_
    simp-implicitDefEqProofs[eU,aa];obtain⟨q0,q1⟩:=hv n rfl;obtain⟨i,rfl⟩:∃i:Nat,n=(i:Int):=⟨n.toNat,by omega⟩;refine(LD G P.run i (by omega)).mono ?_;rintro z h3 hz;rw[if_pos (by omega)] at hz;obtain⟨rfl,rfl⟩:=hz;simp-implicitDefEqProofs[];exact⟨rfl,sv1,sid1,P.from⟩
  | @bin _ _ _ _ a b s1 n _ m q h1 h2 h3 h4 h5 h6=>
    have ha:a∈e.kids:=by rw[h3];simp
    have n1:¬e.op=1:=by omega
    have n2:¬e.op=2:=by omega
    have hg:e.kids[0]?=some a:=by rw[h3];rfl
    have G7:=a.cs_eq;have hb:b∈e.kids:=by rw[h3];simp
    have hgb:e.kids[1]?=some b:=by rw[h3];rfl
    have W5:=b.cs_eq;have H7:e.kids.length=2:=by rw[h3];rfl
    have R7:e.kids[1]'(by omega)=b:=(Δ.1 hgb).2;have o10:¬e.op=10:=by omega
    have o12:¬e.op=12:=by omega
    simp-implicitDefEqProofs[aC,B9,A8,hg,G7,n1,n2,E9,o10,o12];rw[←D4];refine first a _ _ _ ha h4 λsv1 sid1 h2 P C1 b1 I1 hv=>?_
    rw[D4] at b1;simp-implicitDefEqProofs[eU,aa,b1,A8,R7,W5,H7];refine second b _ _ _ _ _ _ _ hb h5 I1 P C1 λsv2 sid2 h3 P2 b2 I2 O7=>?_
    rw[D4] at b2;have hT:=CU G e.op n m h1 (by omega) (hv n rfl) (O7 m rfl);rw[ar5,if_neg o10,h6] at hT;simp only[zE] at hT;simp-implicitDefEqProofs[eU,aa,b2];refine hT.use ?_;simp-implicitDefEqProofs[];exact⟨rfl,sv2,sid2,P2.from⟩
  | @binS _ _ _ _ a b s1 n _ c h1 h2 h3 h4 h5=>
    have ha:a∈e.kids:=by rw[h3];simp
    have n1:¬e.op=1:=by omega
    have n2:¬e.op=2:=by omega
    have hg:e.kids[0]?=some a:=by rw[h3];rfl
    have G7:=a.cs_eq;have hb:b∈e.kids:=by rw[h3];simp
    have hgb:e.kids[1]?=some b:=by rw[h3];rfl
    have W5:=b.cs_eq;have H7:e.kids.length=2:=by rw[h3];rfl
    have R7:e.kids[1]'(by omega)=b:=(Δ.1 hgb).2;have o10:¬e.op=10:=by omega
    have o12:¬e.op=12:=by omega
    simp-implicitDefEqProofs[aC,B9,A8,hg,G7,n1,n2,E9,o10,o12];rw[←D4];refine first a _ _ _ ha h4 λsv1 sid1 h2 P C1 b1 I1 hv=>?_
    rw[D4] at b1;simp-implicitDefEqProofs[eU,aa,b1,A8,R7,W5,H7];refine second b _ _ _ _ _ _ _ hb h5 I1 P C1 λsv2 sid2 h3 P2 b2 I2 O7=>?_
    simp-implicitDefEqProofs[eU];exact⟨rfl,sv2,sid2,P2.from⟩
  | @binD _ _ _ _ a b s1 n _ m h1 h2 h3 h4 h5 h6=>
    have ha:a∈e.kids:=by rw[h3];simp
    have n1:¬e.op=1:=by omega
    have n2:¬e.op=2:=by omega
    have hg:e.kids[0]?=some a:=by rw[h3];rfl
    have G7:=a.cs_eq;have hb:b∈e.kids:=by rw[h3];simp
    have hgb:e.kids[1]?=some b:=by rw[h3];rfl
    have W5:=b.cs_eq;have H7:e.kids.length=2:=by rw[h3];rfl
    have R7:e.kids[1]'(by omega)=b:=(Δ.1 hgb).2;have o10:¬e.op=10:=by omega
    have o12:¬e.op=12:=by omega
    simp-implicitDefEqProofs[aC,B9,A8,hg,G7,n1,n2,E9,o10,o12];rw[←D4];refine first a _ _ _ ha h4 λsv1 sid1 h2 P C1 b1 I1 hv=>?_
    rw[D4] at b1;simp-implicitDefEqProofs[eU,aa,b1,A8,R7,W5,H7];refine second b _ _ _ _ _ _ _ hb h5 I1 P C1 λsv2 sid2 h3 P2 b2 I2 O7=>?_
    rw[D4] at b2;have hT:=CU G e.op n m h1 (by omega) (hv n rfl) (O7 m rfl);rw[ar5,if_neg o10,h6] at hT;simp only[zE] at hT;simp-implicitDefEqProofs[eU,aa,b2];refine hT.use ?_;simp-implicitDefEqProofs[];refine(LT G 1 h3).mono ?_;rintro z h4 ⟨rfl,rfl⟩;simp-implicitDefEqProofs[];exact⟨rfl,sv2,sid2,P2.from⟩
end
section
theorem FG:AK.whole pf=FK.ak pg:=rfl
theorem Dd:AK.whole mS=FK.ak mU:=rfl
variable (G:au)
theorem Ca{l:List Ex}{j:Nat}(h:j<l.length):aN (l.take (j+1))=aN (l.take j)++[dx l[j]]:=by rw[al h,dg,dg,abT];rfl
theorem rv(l:List Ex):(aN l).length=l.length:=by rw[dg,abi]
theorem Rx:∀(d:Nat) (e:Ex),aT d e=true->e.sz<=1099511627776->VF Tryz.prog G ll [.agg (e.cs.map .p)] (.agg ((dx e).cs.map .p)):=by
 intro d
 induction d with
 |zero=>intro e h;cases h
 |succ d ih=>
  intro e hf hz;have hzz:=e.sz_eq;have A0:=bg e.kids;have hc:=e.cs_eq;have A3:∀l,Φ l= .lst 4 (l.map Ex.cs):=λ_=>rfl
  refine AC.goK FA FG ?_;rw[dv];simp-implicitDefEqProofs[pf,pg,hc]
  refine aJ (λj:Nat=>ah 26 [(1,.ptr 0 4 0 0),(2,.ptr 1 4 0 0),(3,.sl 2 4 0 j),(4,.p (.int .i64 j))])
   (λj=>[.row 4 [[.p (.int .i64 e.op),.p (.int .i64 e.n),.p (.str e.name),.p (Φ e.kids)]],.row 4 [[.p (.int .i64 0),.p (.int .i64 0),.p (.str []),.nils]],.row 4 (exR (aN (e.kids.take j)))])
   (λj=>j<=e.kids.length) (λj=>e.kids.length-j) 0 (by simp) ?_ ?_
  ·refine ab (h:=[_,_,.row 4 []]) (by simp) (by simp[Ξ,Ω]) (by simp[Ω])
  intro j hj;have G9:(exR (aN (e.kids.take j))).length=j:=by rw[CF,rv];simp;omega
  simp-implicitDefEqProofs[A3];refine aU (λh=>?_) (λh=>?_)
  ·simp at h;have hg:=Γ h;have G4:=aQ (aa2 h);have F1:=(dx e.kids[j]).cs_eq;simp-implicitDefEqProofs[hg];refine(ih e.kids[j] (bh hf (aa2 h)) (by omega)).use ?_;simp-implicitDefEqProofs[F1,G9];refine⟨⟨by omega,by omega⟩,j+1,by omega,by omega,?_⟩;have I6:List.take j (exR (aN (e.kids.take j)))=exR (aN (e.kids.take j)):=aaX (by omega);rw[Ca h,CG,I6];have h1:exR [dx e.kids[j]]=[[.p (.int .i64 (dx e.kids[j]).op),.p (.int .i64 (dx e.kids[j]).n),.p (.str (dx e.kids[j]).name),.p (Φ (dx e.kids[j]).kids)]]:=by rw[exR,abD,F1];rfl
   rw[h1];refine bB [0,1,4] (by simp) (by decide) (by decide) (aw rfl (by simp[Ω]) (aw rfl (by simp[Ω]) (aw rfl (λx hx=>?_) aP))) (by simp[Ω,ren,A3,w1 (i:=j) (by omega)]);rcases aaZ.1 hx with h|h
   ·exact dS _ x h
   ·rw[aa0.1 h];simp
  ·simp at h;have Z3:j=e.kids.length:=by omega
   subst Z3;rw[abp] at G9⊢;simp-implicitDefEqProofs[];refine ju (ah 26 [(1,.ptr 0 4 0 0),(2,.ptr 1 4 0 0)]) [.row 4 [[.p (.int .i64 e.op),.p (.int .i64 e.n),.p (.str e.name),.p (Φ (aN e.kids))]],.row 4 [[.p (.int .i64 0),.p (.int .i64 0),.p (.str []),.nils]]] ?_ ?_
   ·simp-implicitDefEqProofs[];refine cI 2 (by omega) (by simp) rfl (.one (.keep (by simp[Ω]) (.keep (by simp[Ω]) (.keep (by simp[Ω]) (.one ?_ .nil)))) (.same (by simp[Ξ,Ω]) (.nil _))) ?_
    ·have H7:=rv e.kids;rw[←H7];exact zf rfl
    ·exact⟨.keep (by simp[Ω]) .nil,.keep (by simp[Ω]) .nil,trivial⟩
   have H:VF Tryz.prog G lm [.agg [.p (.int .i64 e.op),.p (.int .i64 e.n),.p (.str e.name),.p (Φ (aN e.kids))]] (.agg ((fw e.op e.n e.name (aN e.kids)).cs.map .p)):=by
    have H0:=PF G (bL hf) (by
     have h2:=pA e.kids;rw[Ex.sz_eq];show 1+e.name.length+br (aN e.kids)<=_;omega)
    rw[Ex.cs_eq (.mk e.op e.n e.name (aN e.kids))] at H0;exact H0
   simp-implicitDefEqProofs[];refine H.use ?_;have hq:=(fw e.op e.n e.name (aN e.kids)).cs_eq;rw[hq];simp-implicitDefEqProofs[]
theorem Jp{l:List Sm}{j:Nat}(h:j<l.length):aG (l.take (j+1))=aG (l.take j)++[kB l[j]]:=by rw[al h,jn,jn,abT];rfl
theorem vJ(l:List Sm):(aG l).length=l.length:=by rw[jn,abi]
theorem BL(l:List Sm)(hf:∀x∈l,∀a∈x.args,aT 6 a=true)(hz:aq l<=1099511627776)
 (ih:∀x∈l,VF Tryz.prog G cw [.p (Θ x.body)] (.p (Θ (aG x.body)))/\VF Tryz.prog G cw [.p (Θ x.els)] (.p (Θ (aG x.els)))):VF Tryz.prog G cw [.p (Θ l)] (.p (Θ (aG l))):=by
 have E7:=bF l;have A8:∀l,Θ l= .lst 5 (l.map Sm.cs):=λ_=>rfl
 have A3:∀l,Φ l= .lst 4 (l.map Ex.cs):=λ_=>rfl
 have key:AC Tryz.prog G cw [.p (Θ l)] [] λx h=>∃v,x= .ret v/\View h v (Θ (aG l)):=by
  refine AC.goK EO Dd ?_;simp-implicitDefEqProofs[mS,mU]
  refine aJ (λi:Nat=>ah 51 [(0,.p (Θ l)),(3,.sl 0 5 0 i),(4,.p (.int .i64 i))]) (λi=>[.row 5 (smR (aG (l.take i)))])
   (λi=>i<=l.length) (λi=>l.length-i) 0 (by simp) ?_ ?_
  ·refine ab (h:=[.row 5 []]) (by simp) (by simp[Ξ,Ω]) (by simp[Ω])
  intro i hi;have G3:(smR (aG (l.take i))).length=i:=by rw[dj,vJ];simp;omega
  simp-implicitDefEqProofs[A8];refine aU (λh=>?_) (λh=>?_)
  ·simp at h;have hg:=Γ h;have F5:=GY h;have F7:=l[i].cs_eq;have D0:=l[i].sz_eq;have hfx:=hf l[i] (aa2 h);have hix:=ih l[i] (aa2 h);have eR:=Jp h;have hfc:=(kB l[i]).cs_eq;rw[cx] at hfc;simp only[Sm.op,Sm.name,Sm.args,Sm.body,Sm.els] at hfc;generalize hgs:l[i]=s at hg F5 F7 D0 hfx hix eR hfc;generalize aG (l.take i)=out at G3 eR⊢;simp-implicitDefEqProofs[hg,F7]
   refine aJ (λj:Nat=>ah 51 [(0,.p (Θ l)),(3,.sl 0 5 0 i),(4,.p (.int .i64 i)),(5,.ptr 1 5 0 0),(6,.sl 2 4 0 j),(7,.p (.int .i64 j))])
    (λj=>[.row 5 (smR out),.row 5 [[.p (.int .i64 s.op),.p (.str s.name),.p (Φ s.args),.p (Θ s.body),.p (Θ s.els)]],.row 4 (exR (aN (s.args.take j)))])
    (λj=>j<=s.args.length) (λj=>s.args.length-j) 0 (by simp) ?_ ?_
   ·refine ab (h:=[_,_,.row 4 []]) (by simp) (ag (bG (aL out)) (ag (by simp[Ξ,Ω]) (by simp[Ξ,Ω]))) (by simp[Ω,A8])
   intro j hj;have G9:(exR (aN (s.args.take j))).length=j:=by rw[CF,rv];simp;omega
   have X4:=bg s.args;simp-implicitDefEqProofs[A3];refine aU (λC5=>?_) (λC5=>?_)
   ·simp at C5;have P3:=Γ C5;have G4:=aQ (aa2 C5);have F1:=(dx s.args[j]).cs_eq;simp-implicitDefEqProofs[P3];refine(Rx G 6 s.args[j] (hfx _ (aa2 C5)) (by omega)).use ?_;simp-implicitDefEqProofs[F1,G9];refine⟨⟨by omega,by omega⟩,j+1,by omega,by omega,?_⟩;have I6:List.take j (exR (aN (s.args.take j)))=exR (aN (s.args.take j)):=aaX (by omega);rw[Ca C5,CG,I6];have h1:exR [dx s.args[j]]=[[.p (.int .i64 (dx s.args[j]).op),.p (.int .i64 (dx s.args[j]).n),.p (.str (dx s.args[j]).name),.p (Φ (dx s.args[j]).kids)]]:=by rw[exR,abD,F1];rfl
    rw[h1];refine bB [0,1,4] (by simp) (by decide) (by decide) (aw rfl (aL out) (aw rfl (by simp[Ω]) (aw rfl (λx hx=>?_) aP))) (by simp[Ω,ren,A3,A8,w1 (i:=j) (by omega)]);rcases aaZ.1 hx with h|h
    ·exact dS _ x h
    ·rw[aa0.1 h];simp
   simp at C5;have Z3:j=s.args.length:=by omega
   subst Z3;rw[abp] at G9⊢;simp-implicitDefEqProofs[]
   refine ju (ah 51 [(0,.p (Θ l)),(3,.sl 0 5 0 i),(4,.p (.int .i64 i)),(5,.ptr 1 5 0 0)])
    [.row 5 (smR out),.row 5 [[.p (.int .i64 s.op),.p (.str s.name),.p (Φ (aN s.args)),.p (Θ s.body),.p (Θ s.els)]]] ?_ ?_
   ·simp-implicitDefEqProofs[];refine cI 2 (by omega) (by simp) rfl (.same (bG (aL out)) (.one (.keep (by simp[Ω]) (.keep (by simp[Ω]) (.one ?_ (.keep (by simp[Ω]) (.keep (by simp[Ω]) .nil))))) (.nil _))) ?_
    ·have H7:=rv s.args;rw[←H7];exact zf rfl
    ·exact⟨.keep (by simp[Ω]) .nil,.keep (by simp[Ω]) .nil,.keep (by simp[Ω]) .nil,.keep (by simp[Ω]) .nil,trivial⟩
   simp-implicitDefEqProofs[];refine hix.1.use ?_;simp-implicitDefEqProofs[];refine hix.2.use ?_;simp-implicitDefEqProofs[G3];refine⟨⟨by omega,by omega⟩,i+1,by omega,by omega,?_⟩;have I6:List.take i (smR out)=smR out:=aaX (by omega);rw[eR,rj,I6];have h1:smR [kB s]=[[.p (.int .i64 s.op),.p (.str s.name),.p (Φ (aN s.args)),.p (Θ (aG s.body)),.p (Θ (aG s.els))]]:=by rw[smR,abD,cx,Sm.cs_eq];rfl
   rw[h1];refine bB [3] (by simp) (by decide) (by decide) (aw rfl (λx hx=>?_) aP) (by simp[Ω,ren,A8,w1 (i:=i) (by omega)]);rcases aaZ.1 hx with h|h
   ·exact aL out x h
   ·rw[aa0.1 h];simp
  ·simp at h;have E3:i=l.length:=by omega
   subst E3;rw[abp] at G3⊢;simp-implicitDefEqProofs[];have H7:=vJ l;rw[←H7];exact fP rfl
 refine key.freezeR (λt v h ⟨_,e,_⟩=>by cases e) λv h ⟨u,e1,e2⟩=>?_
 cases e1;exact .one e2 .nil
theorem ON:∀(d:Nat) (l:List Sm),(∀x∈l,an d x=true)->aq l<=1099511627776->VF Tryz.prog G cw [.p (Θ l)] (.p (Θ (aG l))):=by
 intro d
 induction d with
 |zero=>
  intro l hf hz;exact BL G l (λx hx=>by have:=hf x hx;cases this) hz (λx hx=>by have:=hf x hx;cases this)
 |succ d ih=>
  intro l hf hz;refine BL G l (λx hx=>bN (hf x hx)) hz (λx hx=>?_);have h1:=ce hx;have h2:=x.sz_eq;exact⟨ih x.body (gF (hf x hx)) (by omega),ih x.els (pB (hf x hx)) (by omega)⟩
end
section
theorem FT:AK.whole oY=FK.ak pk:=rfl
def nb7(l:List Sm):Prop:=∀x∈l,x.op≠7
theorem AG:∀{a b:List Sm},nb7 a->aK (a++b)=aK a++aK b
 |[],b,_=>by rw[aK];rfl
 |x::r,b,h=>by
  have h2:=AG (a:=r) (b:=b) (λy hy=>h y (by simp[hy]));rw[abr,dV,dV,if_neg (h x (by simp)),if_neg (h x (by simp)),h2];split<;>rfl
theorem AE{x:Sm}{r:List Sm}:aK (x::r)=if jr x=true then aK r else if x.op=7 then[dq x] else dq x::aK r:=by
 rw[dV];split
 ·rfl
 ·split<;>rfl
theorem Gi:∀l:List Sm,(aK l).length<=l.length
 |[]=>by rw[aK];exact aa3 _
 |x::r=>by
  have h:=Gi r;rw[dV];split
  ·simp;omega
  ·split
   ·simp
   ·simp;exact h
theorem Uu(x:Sm):(dq x).cs=[.int .i64 x.op,.str x.name,Φ x.args,Θ (dq x).body,Θ (dq x).els]:=by rw[Sm.cs_eq,iU,pZ,cM]
variable (G:au)
theorem EE(l:List Sm)(hf:∀x∈l,x.args≠[])(hz:aq l<=1099511627776)
 (ih:∀x∈l,VF Tryz.prog G cX [.p (Θ x.body)] (.p (Θ (aK x.body)))/\VF Tryz.prog G cX [.p (Θ x.els)] (.p (Θ (aK x.els)))):VF Tryz.prog G cX [.p (Θ l)] (.p (Θ (aK l))):=by
 have E7:=bF l;have A8:∀l,Θ l= .lst 5 (l.map Sm.cs):=λ_=>rfl
 have A3:∀l,Φ l= .lst 4 (l.map Ex.cs):=λ_=>rfl
 have key:AC Tryz.prog G cX [.p (Θ l)] [] λx h=>∃v,x= .ret v/\View h v (Θ (aK l)):=by
  refine AC.goK FE FT ?_;simp-implicitDefEqProofs[oY,pk]
  refine aJ (λi:Nat=>ah 60 [(0,.p (Θ l)),(3,.sl 0 5 0 (aK (l.take i)).length),(4,.p (.int .i64 i))]) (λi=>[.row 5 (smR (aK (l.take i)))])
   (λi=>i<=l.length/\nb7 (l.take i)) (λi=>l.length-i) 0 ⟨by simp,λx hx=>by simp at hx⟩ ?_ ?_
  ·have e0:aK (l.take 0)=[]:=by rw[acT,aK]
   rw[e0];refine ab (h:=[.row 5 []]) (by simp) (by simp[Ξ,Ω]) (by simp[Ω])
  rintro i ⟨hi,U5⟩;have G3:(smR (aK (l.take i))).length=(aK (l.take i)).length:=by rw[dj]
  have J6:(aK (l.take i)).length<=i:=by have:=Gi (l.take i);rw[abg] at this;omega
  simp-implicitDefEqProofs[A8];refine aU (λh=>?_) (λh=>?_)
  ·simp at h;have hg:=Γ h;have F5:=GY h;have F7:=l[i].cs_eq;have D0:=l[i].sz_eq;have hfx:=hf l[i] (aa2 h);have hix:=ih l[i] (aa2 h);have I6:=al h;have hdr:=abC h;have R8:=abq i l;generalize hgs:l[i]=s at hg F5 F7 D0 hfx hix I6 hdr;have E6:=Uu s
   obtain⟨a,r,ha⟩:∃a r,s.args=a::r:=by
    match hx:s.args,hfx with
    |a::r,_=>exact⟨a,r,rfl⟩
   have A5:=a.cs_eq;have HI:=Eb G a 0;rw[A5] at HI;simp only[abd,abM] at HI;have hNa:∀n,lH s n=isN a n:=λn=>by rw[lH,ha]
   have hCa:Cn s=decide (a.op=1):=by rw[Cn,ha]
   have Z1:jr s=(decide (s.op=6)&&isN a 0):=by rw[jr,hNa]
   have eall:aK l=aK (l.take i)++aK (s::l.drop (i+1)):=by
    conv=>lhs;rw[←R8,hdr]
    exact AG U5
   have enxt:aK (l.take (i+1))=aK (l.take i)++aK [s]:=by rw[I6];exact AG U5
   generalize aK (l.take i)=out at G3 J6 eall enxt⊢;simp-implicitDefEqProofs[hg,F7,A3,ha,A5];refine hix.1.use ?_;simp-implicitDefEqProofs[];refine hix.2.use ?_;simp-implicitDefEqProofs[]
   refine rx (λ_:Unit=>ah 60 [(0,.p (Θ l)),(3,.sl 0 5 0 out.length),(4,.p (.int .i64 i)),(5,.ptr 1 5 0 0),(6,.ptr 2 4 0 0)])
    (λ_=>[AO.row 5 (smR out),.row 5 [[.p (.int .i64 s.op),.p (.str s.name),.p (.lst 4 ([.int .i64 a.op,.int .i64 a.n,.str a.name,.lst 4 (a.kids.map Ex.cs)]::r.map Ex.cs)),.p (Θ (aK s.body)),.p (Θ (aK s.els))]],.row 4 [[.p (.int .i64 a.op),.p (.int .i64 a.n),.p (.str a.name),.p (.lst 4 (a.kids.map Ex.cs))]]])
    (λ_=>jr s=false) ?_ ?_
   ·by_cases o6:s.op=6
    ·simp-implicitDefEqProofs[o6];refine HI.use ?_
     by_cases h0:isN a 0=true
     ·have ez:jr s=true:=by rw[Z1,h0,o6];rfl
      have e1:aK [s]=[]:=by rw[AE,if_pos ez,aK]
      rw[e1,abF] at enxt;simp-implicitDefEqProofs[h0];refine⟨i+1,⟨by omega,?_⟩,by omega,?_⟩
      ·rw[I6];intro x hx;rcases aaZ.1 hx with hx|hx
       ·exact U5 x hx
       ·rw[aa0.1 hx,o6];omega
      ·rw[enxt];refine cK [0] rfl (by decide) (aw rfl (aL out) aP) (by simp[Ω,ren,A8,w1 (i:=i) (by omega)])
     ·have h0:isN a 0=false:=by simpa using h0
      simp-implicitDefEqProofs[h0,Z1];exact ab (by simp) (ag (bG (aL out)) (ag (by simp[Ξ,Ω]) (ag (by simp[Ξ,Ω]) dZ))) (by simp[Ω,A8])
    ·simp-implicitDefEqProofs[o6,Z1];exact ab (by simp) (ag (bG (aL out)) (ag (by simp[Ξ,Ω]) (ag (by simp[Ξ,Ω]) dZ))) (by simp[Ω,A8])
   intro _ hzf
   refine ju (ah 60 [(0,.p (Θ l)),(3,.sl 0 5 0 out.length),(4,.p (.int .i64 i)),(5,.ptr 1 5 0 0)])
    [AO.row 5 (smR out),.row 5 [[.p (.int .i64 s.op),.p (.str s.name),.p (.lst 4 ([.int .i64 a.op,.int .i64 a.n,.str a.name,.lst 4 (a.kids.map Ex.cs)]::r.map Ex.cs)),.p (Θ (dq s).body),.p (Θ (dq s).els)]]] ?_ ?_
   ·rw[Hr,Kd,hNa,hCa]
    by_cases o5:s.op=5
    ·by_cases a1:a.op=1
     ·by_cases a0:a.n=0
      ·have hn:isN a 0=true:=isN_iff.2 ⟨a1,a0⟩;simp-implicitDefEqProofs[o5,a1,a0,hn];refine cI 2 (by omega) (by simp) rfl (.same (bG (aL out)) (.one (.keep (by simp[Ω]) (.keep (by simp[Ω]) (.keep (by simp[Ω]) (.one ?_ (.keep (by simp[Ω]) .nil))))) (.nil _))) ?_
       ·exact fP (l:=[]) rfl
       ·exact⟨.keep (by simp[Ω,A8]) .nil,.keep (by simp[Ω]) .nil,.keep (by simp[Ω]) .nil,.keep (by simp[Ω]) .nil,trivial⟩
      ·have hn:isN a 0=false:=by
        rw[isN];simp[a1,a0]
       simp-implicitDefEqProofs[o5,a1,a0,hn];refine cI 2 (by omega) (by simp) rfl (.same (bG (aL out)) (.one (.keep (by simp[Ω]) (.keep (by simp[Ω]) (.keep (by simp[Ω]) (.keep (by simp[Ω]) (.one ?_ .nil))))) (.nil _))) ?_
       ·exact fP (l:=[]) rfl
       ·exact⟨.keep (by simp[Ω,A8]) .nil,.keep (by simp[Ω]) .nil,.keep (by simp[Ω]) .nil,.keep (by simp[Ω]) .nil,trivial⟩
     ·have hn:isN a 0=false:=by
       rw[isN];simp[a1]
      simp-implicitDefEqProofs[o5,a1,hn];exact cK [0,1] rfl (by decide) (aw rfl (aL out) (aw rfl (by simp[Ω]) aP)) (by simp[Ω,ren,A8])
    ·simp-implicitDefEqProofs[o5];exact cK [0,1] rfl (by decide) (aw rfl (aL out) (aw rfl (by simp[Ω]) aP)) (by simp[Ω,ren,A8])
   simp-implicitDefEqProofs[G3];refine⟨⟨by omega,by omega⟩,?_⟩;have htk2:List.take out.length (smR out)=smR out:=aaX (by omega)
   have h1:smR [dq s]=[[.p (.int .i64 s.op),.p (.str s.name),.p (.lst 4 ([.int .i64 a.op,.int .i64 a.n,.str a.name,.lst 4 (a.kids.map Ex.cs)]::r.map Ex.cs)),.p (Θ (dq s).body),.p (Θ (dq s).els)]]:=by
    have e3:Φ s.args= .lst 4 ([.int .i64 a.op,.int .i64 a.n,.str a.name,.lst 4 (a.kids.map Ex.cs)]::r.map Ex.cs):=by rw[ha,A3,abd,A5,A3]
    rw[smR,abD,E6,e3];rfl
   have h2:smR out++[[.p (.int .i64 s.op),.p (.str s.name),.p (.lst 4 ([.int .i64 a.op,.int .i64 a.n,.str a.name,.lst 4 (a.kids.map Ex.cs)]::r.map Ex.cs)),.p (Θ (dq s).body),.p (Θ (dq s).els)]]=smR (out++[dq s]):=by rw[rj,h1]
   rw[htk2,h2];refine aU (λh7=>?_) (λh7=>?_)
   ·simp at h7;have e1:aK l=out++[dq s]:=by rw[eall,AE,if_neg (by rw[hzf];simp),if_pos h7]
    have e2:out.length+1=(aK l).length:=by rw[e1];simp
    simp-implicitDefEqProofs[];rw[←e1,e2];exact fP rfl
   ·simp at h7;have e1:aK [s]=[dq s]:=by rw[AE,if_neg (by rw[hzf];simp),if_neg h7,aK]
    rw[e1] at enxt;have e2:out.length+1=(out++[dq s]).length:=by simp
    simp-implicitDefEqProofs[];refine⟨i+1,⟨by omega,?_⟩,by omega,?_⟩
    ·rw[I6];intro x hx;rcases aaZ.1 hx with hx|hx
     ·exact U5 x hx
     ·rw[aa0.1 hx];exact h7
    ·rw[enxt];refine bB [3] (by simp) (by decide) (by decide) (aw rfl (aL _) aP) (by simp[Ω,ren,A8,w1 (i:=i) (by omega)])
  ·simp at h;have E3:i=l.length:=by omega
   subst E3;rw[abp] at G3⊢;simp-implicitDefEqProofs[];exact fP rfl
 refine key.freezeR (λt v h ⟨_,e,_⟩=>by cases e) λv h ⟨u,e1,e2⟩=>?_
 cases e1;exact .one e2 .nil
theorem IJ{d:Nat}{x:Sm}(h:an d x=true):x.args≠[]:=by
 obtain⟨d,rfl⟩:=jc h;rw[an,aa1,aa1] at h;have h1:=h.1.1;simp only[fx,aa1,decide_eq_true_eq] at h1;have h2:=h1.1.1.1.1.1.1.2;intro e;rw[e] at h2;simp only[abO,gV] at h2;split at h2<;>omega
theorem Ss:∀(d:Nat) (l:List Sm),(∀x∈l,an d x=true)->aq l<=1099511627776->VF Tryz.prog G cX [.p (Θ l)] (.p (Θ (aK l))):=by
 intro d
 induction d with
 |zero=>
  intro l hf hz;exact EE G l (λx hx=>by have:=hf x hx;cases this) hz (λx hx=>by have:=hf x hx;cases this)
 |succ d ih=>
  intro l hf hz;refine EE G l (λx hx=>IJ (hf x hx)) hz (λx hx=>?_);have h1:=ce hx;have h2:=x.sz_eq;exact⟨ih x.body (gF (hf x hx)) (by omega),ih x.els (pB (hf x hx)) (by omega)⟩
end
end Go.Proofs.YtokiapglmedipaaGreatDoor
