/-
  Contracts and lemmas that the card needs, part 9.
-/
import Derived.Test.YtghpabfdmbdpfaaGreatDoorKc8
namespace Go.Proofs.YtghpabfdmbdpfaaGreatDoor
open Go Go.Aw
set_option maxRecDepth 100000
set_option maxHeartbeats 4000000
section
variable (G:aL)
def PgQ(p n m:Nat)(v:AV)(q:Nat):Prop:=(∃l:List Fd,v= .agg [.p (fdL l)]/\aY l<=n)/\p<=q/\q<=p+m
theorem DW{h:List AO}{id sz:Nat}{rows:List (List AV)}{es:List (List PV)}(he:h[id]?=some (.row sz rows))(hl:rows.length=es.length)(hs:∀e∈es,e.length=sz)(hv:∀(i j:Nat) (e:List PV) (q:PV) (e':List AV) (a:AV),es[i]?=some e->e[j]?=some q->rows[i]?=some e'->e'[j]?=some a->View h a q){n:Nat}(hn:n=es.length):View h (.sl id sz 0 n) (.lst sz es):=by
 subst hn
 exact .sl id sz 0 rows es he (by omega) hs λi j e q e' a a1 a2 a3 a4=>hv i j e q e' a a1 a2 (by rwa[XD] at a3) a4
theorem tc{h:List AO}{e:List PV}{j:Nat}{q:PV}{a:AV}(h1:e[j]?=some q)(h2:(e.map AV.p)[j]?=some a):View h a q:=by
 rw[Xd,h1] at h2;cases h2;exact .p _
theorem Lo{h:List AO}{id k:Nat}{l:List Fd}{f:Fd}{P B:AV}(he:h[id]?=some (.row 3 ((bi l).set k [.p (.str f.name),P,B])))(hk:k<l.length)(hP:View h P (aN f.params))(hB:View h B (smL f.body)){n:Nat}(hn:n=l.length):View h (.sl id 3 0 n) (fdL (l.set k f)):=by
 refine DW (es:=(l.set k f).map Fd.cs) he (by simp[bi]) (λe he=>by obtain⟨x,_,rfl⟩:=Xl.1 he;simp) (λi j e q e' a a1 a2 a3 a4=>?_) (by simpa using hn)
 rw[Xd] at a1
 by_cases hik:k=i
 ·subst hik
  rw[WT hk] at a1
  rw[WT (by simpa[bi] using hk)] at a3
  cases a1;cases a3
  exact Bt (s:=f.name) (ps:=f.params) (bd:=f.body) hP hB j q a a2 a4
 ·rw[WM hik] at a1 a3
  obtain⟨g,g1,g2⟩:=WL.1 a1
  subst g2
  rw[bi,Xd,g1] at a3
  cases a3
  exact tc a2 a4
theorem KW{h:List AO}{id:Nat}{l:List (List UInt8)}{s:List UInt8}(he:h[id]?=some (.row 1 (List.take l.length (l.map λw=>[AV.p (.str w)])++[[.p (.str s)]]))):View h (.sl id 1 0 (l.length+1)) (aN (l++[s])):=by
 have e:h[id]?=some (cb (l++[s])):=by rw[he,WQ (by simp)];simp[cb]
 have:=eC e
 rwa[Xa,List.length_singleton] at this
theorem tX{h:List AO}{id:Nat}{l:List Sm}{s:Sm}{r:List AV}(he:h[id]?=some (.row 5 (List.take l.length (smR l)++[r])))(hr:∀(j:Nat) (q:PV) (a:AV),s.cs[j]?=some q->r[j]?=some a->View h a q):View h (.sl id 5 0 (l.length+1)) (smL (l++[s])):=by
 have hl:=gz l
 refine DW (es:=(l++[s]).map Sm.cs) he (by simp[hl]) (λe he=>by obtain⟨x,_,rfl⟩:=Xl.1 he;simp) (λi j e q e' a a1 a2 a3 a4=>?_) (by simp)
 rw[WQ (by omega)] at a3
 rw[List.map_append] at a1
 rcases Xy i l.length with hi|hi
 ·rw[WI (by simpa using hi)] at a1
  rw[WI (by omega)] at a3
  rw[Xd] at a1
  obtain⟨g,g1,g2⟩:=WL.1 a1
  subst g2
  rw[smR,Xd,g1] at a3
  cases a3
  exact tc a2 a4
 ·rw[WP (by simpa using hi)] at a1
  rw[WP (by omega),hl] at a3
  simp only[Xp] at a1
  generalize i-l.length=k at a1 a3
  cases k with
  |zero=>cases a1;cases a3;exact hr j q a a2 a4
  |succ k=>simp at a1
theorem NQ{h:List AO}{id:Nat}{l:List Fd}{f:Fd}(he:h[id]?=some (.row 3 (List.take l.length (bi l)++[f.cs.map .p]))):View h (.sl id 3 0 (l.length+1)) (fdL (l++[f])):=by
 have hl:=Bb l
 have:=vQ (h:=h) (id:=id) (l:=l++[f]) (by rw[he,WQ (by omega)];simp[bi])
 rwa[Xa,List.length_singleton] at this
theorem Hg(l:List Fd)(k:Nat)(f:Fd):aY (l.set k f)<=aY l+f.sz:=by
 by_cases hk:k<l.length
 ·rw[gr f hk]
  have e:l=l.take k++l.drop k:=(Xm _ _).symm
  have e2:l.drop k=l[k]::l.drop (k+1):=List.drop_eq_getElem_cons hk
  have h1:aY l=aY (l.take k)+aY (l.drop k):=by rw[←nP,←e]
  rw[nP]
  have h3:aY (f::l.drop (k+1))=f.sz+aY (l.drop (k+1)):=by simp[aY]
  have h4:aY (l.drop k)=l[k].sz+aY (l.drop (k+1)):=by rw[e2];unfold aY;rw[Xj,List.sum_cons]
  omega
 ·rw[List.set_eq_of_length_le (by omega)];omega
theorem Dt{l:List Fd}{f:Fd}(h:f∈l):f.sz<=aY l:=by
 induction l with
 |nil=>cases h
 |cons x r ih=>
  have e:aY (x::r)=x.sz+aY r:=by simp[aY]
  rcases WN.1 h with rfl|h
  ·omega
  ·have:=ih h;omega
theorem CL:AK.whole nh=FK.ak mV:=rfl
structure NsS where (i:Nat) (o:Int) (w:List UInt8) (A B C:PV) (q:Nat)
structure BdS where (i:Nat) (bd:List Sm)
structure CfS where (f:Fd) (q:Nat)
theorem Nq{b:List Int}(hb:Byt b)(hl:b.length<=2000){p:Nat}(hp:p<=10000000000):AC Tryz.prog G nj [.ptr 0 2 0 0] [rdO b p] λx h=>∃v q,x= .ret v/\h=[rdO b q]/\PgQ p 500000000 200200000 v q:=by
 refine oG G (AC.goK Dc CL ?_)
 have hprog:AC Tryz.prog G dw [.ptr 0 2 0 0] [rdO b p] λx h=>∃v q,x= .ret v/\h=[rdO b q]/\((∃l:List Fd,v= .agg [.p (fdL l)]/\bu l=true/\aY l<=200000000)/\p<=q/\q<=p+200000000):=
  (Ia G hb hl hp).mono λx h ⟨l,q,e1,e2,e3,e4,e5,e6⟩=>⟨_,q,e1,e2,⟨l,rfl,e3,e4⟩,e5,e6⟩
 simp-implicitDefEqProofs[nh,mV]
 refine(ku G hprog _ (by simp[below])).mono ?_
 rintro r h ⟨v,q,rfl,rfl,⟨l,rfl,hok,hz⟩,h1,h2⟩
 have hlen:=((ec l).1 hok).1
 obtain⟨n,hn⟩:∃n,l.length=n+1:=⟨l.length-1,by omega⟩
 have hnl:n<l.length:=by omega
 have hfz:=Dt (WY hnl)
 obtain⟨f,hfe⟩:∃f,l[n]=f:=⟨_,rfl⟩
 rw[hfe] at hfz
 have hg:l[n]?=some f:=by rw[WK hnl,hfe]
 have fin:∀(r1:List (Nat × AV)) (f':Fd) (q':Nat) (rest:List AO) (P B:AV),Aw.look r1 0= .ptr 0 2 0 0->Aw.look r1 2= .ptr 1 1 0 0->Aw.look r1 3= .ptr 2 1 0 0->Aw.look r1 4= .ptr 3 3 0 0->View (.dead:: .dead:: .dead:: .dead::rest) P (aN f'.params)->View (.dead:: .dead:: .dead:: .dead::rest) B (smL f'.body)->f'.sz<=300000000->q<=q'->q'<=q+100000->
  ∃s:CfS,(s.f.sz<=300000000/\q<=s.q/\s.q<=q+100000)/\Wk 1 (aC 145 r1) (rdO b q':: .row 1 [[.nils]]:: .row 1 [[.p (.lst 3 (l.map Fd.cs))]]:: .row 3 [[.p (.str f'.name),P,B]]::rest) (aC 145 [(4,.ptr 3 3 0 0),(3,.ptr 2 1 0 0),(2,.ptr 1 1 0 0),(0,.ptr 0 2 0 0)])
   [rdO b s.q,.row 1 [[.nils]],.row 1 [[.p (.lst 3 (l.map Fd.cs))]],.row 3 [[.p (.str s.f.name),.p (aN s.f.params),.p (smL s.f.body)]]]:=λr1 f' q' rest P B e0 e2 e3 e4 hP hB hz' h3 h4=>
  ⟨⟨f',q'⟩,⟨hz',h3,h4⟩,oI 4 (by omega) (by simp) rfl (.same (bv _ _ _) (.same (by simp[okO,below]) (.same (by simp[okO,below]) (.one (.keep (by simp[below]) (.one hP (.one hB .nil))) (.nil _))))) (by
    simp only[FzA,e0,e2,e3,e4]
    exact⟨.keep (by simp[below]) .nil,.keep (by simp[below]) .nil,.keep (by simp[below]) .nil,.keep (by simp[below]) .nil,trivial⟩)⟩
 have hfsz:f.sz=1+f.name.length+(f.params.length+(f.params.map List.length).sum)+aD f.body:=rfl
 have hln:l.length<=4:=hlen.2
 have hbl:=bI f.body
 have hcs:f.cs=[.str f.name,aN f.params,smL f.body]:=rfl
 have hfl:fdL l= .lst 3 (l.map Fd.cs):=rfl
 have hw:IntKind.i64.wrap ((l.length:Int)-1)=(n:Int):=by rw[ab (by omega) (by omega)];omega
 have hsl:aN f.params= .lst 1 (f.params.map λw=>[.str w]):=rfl
 have hml:smL f.body= .lst 5 (f.body.map Sm.cs):=rfl
 simp-implicitDefEqProofs[aa,hfl,hw,hg,hcs]
 refine lB (λ_:CfS=>aC 145 [(4,.ptr 3 3 0 0),(3,.ptr 2 1 0 0),(2,.ptr 1 1 0 0),(0,.ptr 0 2 0 0)]) (λs=>[rdO b s.q,.row 1 [[.nils]],.row 1 [[.p (.lst 3 (l.map Fd.cs))]],.row 3 [[.p (.str s.f.name),.p (aN s.f.params),.p (smL s.f.body)]]])
  (λs=>s.f.sz<=300000000/\q<=s.q/\s.q<=q+100000) ?_ ?_
 rotate_left
 ·rintro⟨f',q'⟩ ⟨h3,h4,h5⟩
  simp only at h3 h4 h5
  simp-implicitDefEqProofs[hw,hnl,hfe,hcs]
  exact⟨⟨by omega,by omega⟩,_,_,q',.agg [.p (fdL (l.set n f'))],rfl,rfl,.agg (.one (Lo (f:=f') rfl hnl (.p _) (.p _) rfl) .nil) .nil,⟨_,rfl,by have:=Hg l n f';omega⟩,by omega,by omega⟩
 simp-implicitDefEqProofs[]
 refine(bf G b hb hl q (by omega) 32 _).mono ?_
 rintro r h ⟨k,rfl,rfl,_⟩
 by_cases k0:k=0
 ·subst k0
  simp-implicitDefEqProofs[aa]
  refine(Ht G hb hl (p:=q+1) (by omega) [[102],[100,111],[],[103]] (k:=4) (by simp) (by simp) (by omega) rfl rfl).mono ?_
  rintro r h ⟨s,hs,rfl,rfl⟩
  have hs8:s.length<=8:=by simp at hs;rcases hs with rfl|rfl|rfl|rfl<;>simp
  simp-implicitDefEqProofs[aa]
  exact fin _ ⟨s,f.params,f.body⟩ _ _ _ _ (by simp) (by simp) (by simp) (by simp) (.p _) (.p _) (by simp only[Fd.sz];omega) (by omega) (by omega)
 by_cases k1:k=1
 ·subst k1
  simp-implicitDefEqProofs[aa,hsl]
  refine⟨⟨by omega,by omega⟩,?_⟩
  refine(Ht G hb hl (p:=q+1) (by omega) [[97],[120],[105,102]] (k:=6) (by simp) (by simp) (by omega) rfl rfl).mono ?_
  rintro r h ⟨s,hs,rfl,rfl⟩
  have hs8:s.length<=8:=by simp at hs;rcases hs with rfl|rfl|rfl<;>simp
  simp-implicitDefEqProofs[aa]
  refine⟨⟨by omega,by omega⟩,?_⟩
  exact fin _ ⟨f.name,f.params++[s],f.body⟩ _ _ _ _ (by simp) (by simp) (by simp) (by simp) (KW rfl) (.p _) (by simp[Fd.sz];omega) (by omega) (by omega)
 by_cases k2:k=2
 ·subst k2
  simp-implicitDefEqProofs[aa,hml]
  refine⟨⟨by omega,by omega⟩,?_⟩
  refine(ku G (Nx G hb hl (p:=q+1) (by omega)) _ (by simp[below])).mono ?_
  rintro r h ⟨v,q2,rfl,rfl,⟨e,rfl,he⟩,h3,h4⟩
  have hec:=e.cs_eq
  simp-implicitDefEqProofs[aa,hec]
  refine⟨⟨by omega,by omega⟩,?_⟩
  exact fin _ ⟨f.name,f.params,f.body++[⟨3,[],[e],[],[]⟩]⟩ _ _ _ _ (by simp) (by simp) (by simp) (by simp) (.p _) (tX rfl (cr (ey (l:=[e]) (by rw[List.map_singleton,hec];rfl)) (View.nils 5) (View.nils 5))) (by simp[Fd.sz,aW,aD,Sm.sz,aJ];omega) (by omega) (by omega)
 by_cases k3:k=3
 ·subst k3
  simp-implicitDefEqProofs[aa,hml]
  refine⟨⟨by omega,by omega⟩,?_⟩
  refine(bf G b hb hl (q+1) (by omega) 10 _).mono ?_
  rintro r h ⟨o,rfl,rfl,_⟩
  simp-implicitDefEqProofs[aa]
  refine(Ht G hb hl (p:=q+1+1) (by omega) [[],[97],[122,122]] (k:=6) (by simp) (by simp) (by omega) rfl rfl).mono ?_
  rintro r h ⟨s,hs,rfl,rfl⟩
  have hs8:s.length<=8:=by simp at hs;rcases hs with rfl|rfl|rfl<;>simp
  simp-implicitDefEqProofs[aa]
  refine(Aj G (Eu G hb hl (d:=1) (by omega) (p:=q+1+1+1) (by omega)) _ (by simp[below])).mono ?_
  rintro r h ⟨e,q2,rfl,rfl,he,h3,h4⟩
  simp-implicitDefEqProofs[aa]
  refine⟨⟨by omega,by omega⟩,?_⟩
  obtain⟨eo,en,es,ek⟩:=e
  exact fin _ ⟨f.name,f.params,f.body++[⟨o,s,[⟨eo,en,es,ek⟩],[],[]⟩]⟩ _ _ _ _ (by simp) (by simp) (by simp) (by simp) (.p _) (tX rfl (cr (bH (p0:=(Ex.mk eo en es ek).cs) rfl (Ex.cs_len _) (iJ (iU rfl))) (View.nils 5) (View.nils 5))) (by simp[Fd.sz,aW,aD,Sm.sz,aJ];omega) (by omega) (by omega)
 by_cases k5:k=5
 ·subst k5
  simp-implicitDefEqProofs[aa]
  exact⟨_,_,q+1,.agg [.p (fdL [])],rfl,rfl,.agg (.one (View.nils 3) .nil) .nil,⟨[],rfl,by simp[aY]⟩,by omega,by omega⟩
 by_cases k7:k=7
 ·subst k7
  simp-implicitDefEqProofs[aa,hfl]
  have hl0:0<l.length:=by omega
  have hf0:=Dt (WY hl0)
  obtain⟨f0,hg0,hf0⟩:∃f0,l[0]?=some f0/\f0.sz<=aY l:=⟨_,WK hl0,hf0⟩
  have hc0:f0.cs=[.str f0.name,aN f0.params,smL f0.body]:=rfl
  have hfa:aY (l++[f0])=aY l+f0.sz:=by rw[nP];simp[aY]
  simp-implicitDefEqProofs[hg0,hc0]
  exact⟨⟨by omega,by omega⟩,⟨by omega,by omega⟩,_,_,q+1,.agg [.p (fdL (l++[f0]))],rfl,rfl,.agg (.one (NQ rfl) .nil) .nil,⟨_,rfl,by omega⟩,by omega,by omega⟩
 by_cases k4:k=4
 ·subst k4
  simp-implicitDefEqProofs[aa]
  refine lB (λ_:NsS=>aC 145 [(5,.ptr 5 5 0 0),(4,.ptr 3 3 0 0),(3,.ptr 2 1 0 0),(2,.ptr 1 1 0 0),(0,.ptr 0 2 0 0)])
   (λa=>[rdO b a.q,.row 1 [[.nils]],.row 1 [[.p (.lst 3 (l.map Fd.cs))]],.row 3 [[.p (.str f.name),.p (aN f.params),.p (smL f.body)]],.dead,.row 5 [[.p (.int .i64 a.o),.p (.str a.w),.p a.A,.p a.B,.p a.C]]])
   (λa=>(∃s:Sm,s.cs=[.int .i64 a.o,.str a.w,a.A,a.B,a.C]/\aJ s.args<=1/\s.sz+2*a.i<=20)/\q+2<=a.q/\a.q+a.i<=q+10) ?_ ?_
  rotate_left
  ·rintro⟨i,o,w,A,B,C,q1⟩ ⟨⟨s,hse,j1,j2⟩,j3,j4⟩
   simp only at hse j1 j2 j3 j4
   have hss:∀(h:List AO) (id:Nat),h[id]?=some (.row 5 (List.take f.body.length (smR f.body)++[[.p (.int .i64 o),.p (.str w),.p A,.p B,.p C]]))->View h (.sl id 5 0 (f.body.length+1)) (smL (f.body++[s])):=λh id e=>tX e (λj q a a1 a2=>tc (e:=[.int .i64 o,.str w,A,B,C]) (hse▸a1) a2)
   simp-implicitDefEqProofs[hml]
   refine⟨⟨by omega,by omega⟩,⟨by omega,by omega⟩,?_⟩
   exact fin _ ⟨f.name,f.params,f.body++[s]⟩ _ _ _ _ (by simp) (by simp) (by simp) (by simp) (.p _) (hss _ _ rfl) (by simp[Fd.sz,aW,aD];omega) (by omega) (by omega)
  simp-implicitDefEqProofs[]
  refine(bf G b hb hl (q+1) (by omega) 5 _).mono ?_
  rintro r h ⟨i0,rfl,rfl,hi0⟩
  simp-implicitDefEqProofs[aa]
  have hs0:(Sm.mk 6 [] [⟨1,0,[],[]⟩] [] []).cs=[.int .i64 6,.str [],exL [⟨1,0,[],[]⟩],smL [],smL []]:=Sm.cs_eq _
  refine aM (λa:NsS=>aC 145 [(6,.p (.int .i64 a.i)),(5,.ptr 5 5 0 0),(4,.ptr 3 3 0 0),(3,.ptr 2 1 0 0),(2,.ptr 1 1 0 0),(0,.ptr 0 2 0 0)])
   (λa=>[rdO b a.q,.row 1 [[.nils]],.row 1 [[.p (.lst 3 (l.map Fd.cs))]],.row 3 [[.p (.str f.name),.p (aN f.params),.p (smL f.body)]],.dead,.row 5 [[.p (.int .i64 a.o),.p (.str a.w),.p a.A,.p a.B,.p a.C]]])
   (λa=>(∃s:Sm,s.cs=[.int .i64 a.o,.str a.w,a.A,a.B,a.C]/\aJ s.args<=1/\s.sz+2*a.i<=20)/\q+2<=a.q/\a.q+a.i<=q+10) (λa=>a.i) ⟨i0,6,[],exL [⟨1,0,[],[]⟩],smL [],smL [],q+1+1⟩ ⟨⟨_,hs0,by simp[Sm.args,aJ,Ex.sz],by simp[Sm.sz,aJ,Ex.sz,aD];omega⟩,by simp only;omega,by simp only;omega⟩ ?_ ?_
  ·refine Fs (hX:=[.dead,.dead,.dead,.dead,.row 4 [[.p (.int .i64 1),.p (.int .i64 0),.p (.str []),.nils]],.dead]) (by simp)
    (.same (bv _ _ _) (.same (by simp[okO,below]) (.same (by simp[okO,below]) (.same (by simp[okO,below]) (.give (.one ?_ .nil)))))) ?_
   ·exact .keep (by simp[below]) (.keep (by simp[below]) (.one (bH (p0:=(Ex.mk 1 0 [] []).cs) rfl (Ex.cs_len _) (iJ (View.nils 4))) (.one (View.nils 5) (.one (View.nils 5) .nil))))
   ·exact⟨.keep (by simp[below]) .nil,.keep (by simp[below]) .nil,.keep (by simp[below]) .nil,.keep (by simp[below]) .nil,.keep (by simp[below]) .nil,.keep (by simp[below]) .nil,trivial⟩
  rintro⟨i,o,w,A,B,C,q1⟩ ⟨⟨s,hse,j1,j2⟩,j3,j4⟩
  simp only at hse j1 j2 j3 j4
  have hcs1:∀n:Int,(Sm.mk n [] s.args [s] []).cs=[.int .i64 n,.str [],A,.lst 5 [[.int .i64 o,.str w,A,B,C]],.lst 5 []]:=λn=>by
   have hsa:=s.cs_eq
   rw[hse] at hsa
   simp only[List.cons.injEq] at hsa
   rw[Sm.cs_eq];simp only[Sm.op,Sm.name,Sm.args,Sm.body,Sm.els];rw[←hse,hsa.2.2.1];rfl
  have hsz:∀n:Int,(Sm.mk n [] s.args [s] []).sz=1+aJ s.args+s.sz:=λn=>by simp[Sm.sz,aD]
  simp-implicitDefEqProofs[]
  refine aO (λhc=>?_) (λhc=>?_)
  ·simp at hc
   simp-implicitDefEqProofs[]
   refine(Ep G hb hl (p:=q1) (by omega) [5,6] (by simp) (by simp) _).mono ?_
   rintro r h ⟨n1,_,rfl,rfl⟩
   have hwk:IntKind.i64.wrap ((i:Int)-1)=((i-1:Nat):Int):=by rw[ab (by omega) (by omega)];omega
   simp-implicitDefEqProofs[aa]
   refine⟨⟨i-1,n1,[],A,.lst 5 [[.int .i64 o,.str w,A,B,C]],.lst 5 [],q1+1⟩,⟨⟨_,hcs1 n1,j1,by simp only[hsz];omega⟩,by simp only;omega,by simp only;omega⟩,by simp only;omega,?_⟩
   refine Fs (hX:=[.dead,.dead,.dead,.dead,.dead,.dead]) (by simp) (.same (bv _ _ _) (.same (by simp[okO,below]) (.same (by simp[okO,below]) (.same (by simp[okO,below]) (.drop (.one (.keep (by simp[below]) (.keep (by simp[below]) (.keep (by simp[below]) (.keep (by simp[below]) (.one (View.nils 5) .nil))))) .nil)))))) ?_
   simp only[hwk]
   exact⟨.keep (by simp[below]) .nil,.keep (by simp[below]) .nil,.keep (by simp[below]) .nil,.keep (by simp[below]) .nil,.keep (by simp[below]) .nil,.keep (by simp[below]) .nil,trivial⟩
  ·simp at hc
   exact⟨⟨i,o,w,A,B,C,q1⟩,⟨⟨s,hse,j1,j2⟩,j3,j4⟩,dv (m:=6) (by simp) (bT rfl rfl (au (bv _ _ _) (au (by simp[okO,below]) (au (by simp[okO,below]) (au (by simp[okO,below]) (au (by simp[okO]) (au (by simp[okO,below]) dq))))))) (by simp[below])⟩
 by_cases k6:k=6
 ·subst k6
  simp-implicitDefEqProofs[aa]
  refine(mO G hb hl (p:=q+1) (by omega) [20,40,41] (k:=4) (by simp) (by simp) (by omega) rfl rfl).mono ?_
  rintro r h ⟨i0,hi0,rfl,rfl⟩
  obtain⟨i,rfl,hi⟩:∃J:Nat,i0=J/\J<=41:=⟨i0.toNat,by simp at hi0;omega,by simp at hi0;omega⟩
  simp-implicitDefEqProofs[aa]
  refine aM (λa:BdS=>aC 145 [(7,.p (.int .i64 a.i)),(4,.ptr 3 3 0 0),(3,.ptr 2 1 0 0),(2,.ptr 1 1 0 0),(0,.ptr 0 2 0 0)])
   (λa=>[rdO b (q+1+1),.row 1 [[.nils]],.row 1 [[.p (.lst 3 (l.map Fd.cs))]],.row 3 [[.p (.str f.name),.p (aN f.params),.p (smL a.bd)]]])
   (λa=>a.i<=41/\aD a.bd+10*a.i<=aD f.body+500) (λa=>a.i) ⟨i,f.body⟩ ⟨hi,by simp only;omega⟩ ?_ ?_
  ·exact dv (m:=4) (by simp) (bT rfl rfl (au (bv _ _ _) (au (by simp[okO,below]) (au (by simp[okO,below]) (au (by simp[okO,below]) dq))))) (by simp[below])
  rintro⟨i1,bd⟩ ⟨j1,j2⟩
  simp only at j1 j2
  have hbl2:=bI bd
  have hml2:smL bd= .lst 5 (bd.map Sm.cs):=rfl
  simp-implicitDefEqProofs[hml2]
  refine aO (λhc=>?_) (λhc=>?_)
  ·simp at hc
   have hwk:IntKind.i64.wrap ((i1:Int)-1)=((i1-1:Nat):Int):=by rw[ab (by omega) (by omega)];omega
   simp-implicitDefEqProofs[hml2]
   refine⟨⟨by omega,by omega⟩,⟨by omega,by omega⟩,⟨i1-1,bd++[⟨3,[],[⟨1,i1,[],[]⟩],[],[]⟩]⟩,⟨by simp only;omega,by simp[aW,aD,Sm.sz,aJ,Ex.sz];omega⟩,by simp only;omega,?_⟩
   refine oI 4 (by omega) (by simp) rfl (.same (bv _ _ _) (.same (by simp[okO,below]) (.same (by simp[okO,below]) (.one (.keep (by simp[below]) (.keep (by simp[below]) (.one (tX rfl (cr (bH (p0:=(Ex.mk 1 i1 [] []).cs) rfl (Ex.cs_len _) (iJ (View.nils 4))) (View.nils 5) (View.nils 5))) .nil))) (.nil _))))) ?_
   simp only[hwk]
   exact⟨.keep (by simp[below]) .nil,.keep (by simp[below]) .nil,.keep (by simp[below]) .nil,.keep (by simp[below]) .nil,.keep (by simp[below]) .nil,trivial⟩
  ·simp at hc
   exact fin _ ⟨f.name,f.params,bd⟩ _ _ _ _ (by simp) (by simp) (by simp) (by simp) (.p _) (.p _) (by simp[Fd.sz];omega) (by omega) (by omega)
 have c1:¬(k:Int)=1:=by omega
 have c2:¬(k:Int)=2:=by omega
 have c3:¬(k:Int)=3:=by omega
 have c4:¬(k:Int)=4:=by omega
 have c5:¬(k:Int)=5:=by omega
 have c6:¬(k:Int)=6:=by omega
 have c7:¬(k:Int)=7:=by omega
 simp-implicitDefEqProofs[aa,k0,c1,c2,c3,c4,c5,c6,c7]
 exact fin _ ⟨f.name,f.params,f.body⟩ _ _ _ _ (by simp) (by simp) (by simp) (by simp) (.p _) (.p _) (by simp only[Fd.sz];omega) (by omega) (by omega)
end
section
variable (G:aL)
def PshF(s:Bool)(sz:Nat)(D:List (List PV))(h0:List AO)(a:PshS):Prop:=a.i<=D.length/\h0.length<=a.id/\h0.length<=a.h.length/\(∀j,j<h0.length->a.h[j]?=h0[j]?)/\∃rows J,RowOwn s a.h a.id sz rows (D.take a.i) J/\∀j∈J,h0.length<=j
theorem Bg{h h2:List AO}(hl:h.length<=h2.length)(hf:∀j,j<h.length->h2[j]?=h[j]?):h2=h++h2.drop h.length:=by
 have e:h2.take h.length=h:=by
  apply List.ext_getElem?
  intro j
  by_cases hj:j<h.length
  ·rw[List.getElem?_take_of_lt hj];exact hf j hj
  ·rw[XE (by rw[Xi];omega),XE (by omega)]
 have e2:=Xm h.length h2
 rw[e] at e2
 exact e2.symm
theorem PshF.init{s:Bool}{sz:Nat}{D:List (List PV)}(h0 os:List AO):PshF s sz D h0 ⟨0,h0.length,h0++ .row sz []::os⟩:=
 ⟨Xr _,WV _,by simp,λj hj=>WI hj,[],[],⟨by simp,rfl,λ_ h=>(by cases h),λ_ h=>(by cases h),.nil,by simp⟩,λj hj=>by cases hj⟩
theorem PshF.step{s:Bool}{sz i id:Nat}{D:List (List PV)}{h0 h:List AO}(H:PshF s sz D h0 ⟨i,id,h⟩){e:List PV}(hi:D[i]?=some e){h2:List AO}(hl:h.length<=h2.length)(hf:∀j,j<h.length->h2[j]?=h[j]?){r':List AV}{I2:List Nat}(ho:OwnL s h2 r' e I2)(nd2:I2.Nodup)(hn:∀j∈I2,h.length<=j)(he:e.length=sz):
 ∃rows,(∀os,(h2++os)[id]?=some (.row sz rows))/\rows.length=i/\i<D.length/\id<h2.length/\∀os1 os2,PshF s sz D h0 ⟨i+1,(h2++os1).length,(h2++os1).set id .dead++ .row sz (rows++[r'])::os2⟩:=by
 obtain⟨h1,h3,h4,h5,rows,J,hr,hJ⟩:=H
 have hil:i<D.length:=(WJ.1 hi).1
 have hlen:=hr.len
 simp only at h1 h3 h4 h5 hlen hr
 rw[Xi,Nat.min_eq_left h1] at hlen
 have e2:=Bg hl hf
 have hid:=hr.lt
 have h2e:h2[id]?=some (.row sz rows):=by rw[hf id hid];exact hr.here
 refine⟨rows,λos=>by rw[WI (by omega)];exact h2e,hlen,hil,by omega,λos1 os2=>⟨hil,by simp only[Xa];omega,by simp;omega,λj hj=>?_,rows++[r'],J++I2,?_,λj hj=>?_⟩⟩
 ·simp only
  rw[WI (by simp only[XB,Xa,Xb];omega),WM (by omega),WI (by omega),hf j (by omega)]
  exact h5 j hj
 ·have hp:=(hr.push (h2:=h2++os1) (os:=h2.drop h.length++os1) (by rw[←Xx,←e2]) (ho.more os1) nd2 hn he).more os2
  have hd:D.take i++[e]=D.take (i+1):=by rw[List.take_add_one,hi];rfl
  rw[hd,Xx] at hp
  exact hp
 ·rcases WO.1 hj with hj|hj
  ·exact hJ j hj
  ·have:=hn j hj;omega
theorem PshF.done{s:Bool}{sz i id:Nat}{D:List (List PV)}{h0 h:List AO}(H:PshF s sz D h0 ⟨i,id,h⟩)(hi:D.length<=i):h0.length<=h.length/\(∀j,j<h0.length->h[j]?=h0[j]?)/\∃I,OwnL s h [.sl id sz 0 i] [.lst sz D] I/\I.Nodup/\∀j∈I,h0.length<=j:=by
 obtain⟨h1,h3,h4,h5,rows,J,hr,hJ⟩:=H
 simp only at h1 h3 h4 h5 hr
 rw[WQ hi] at hr
 exact⟨h4,h5,id::J,hr.tree (by omega),hr.nd,λj hj=>by
  rcases WN.1 hj with rfl|hj
  ·exact h3
  ·exact hJ j hj⟩
theorem Gw{s:Bool}{n:Nat}{h1 os:List AO}{a b:List AV}{c d:List PV}{I1 I2:List Nat}(H1:OwnL s h1 a c I1)(n1:I1.Nodup)(f1:∀i∈I1,n<=i)(H2:OwnL s (h1++os) b d I2)(n2:I2.Nodup)(f2:∀i∈I2,h1.length<=i)(hn:n<=h1.length):
 OwnL s (h1++os) (a++b) (c++d) (I1++I2)/\(I1++I2).Nodup/\∀i∈I1++I2,n<=i:=by
 refine⟨(H1.more os).app H2,?_,λi hi=>?_⟩
 ·rw[XI]
  refine⟨n1,n2,λa ha b hb e=>?_⟩
  have:=H1.lt ha;have:=f2 b hb;omega
 ·rcases WO.1 hi with hi|hi
  ·exact f1 i hi
  ·have:=f2 i hi;omega
theorem Cu{α:Type}(l:List α)(a b:α):(l++[a]).set l.length b=l++[b]:=by
 rw[List.set_append_right _ _ (WV _),Nat.sub_self];rfl
theorem Qa{h:List AO}{s:Sm}{A B E:AV}{I:List Nat}(H:OwnL true h ([A]++[B]++[E]) ([exL s.args]++[smL s.body]++[smL s.els]) I):OwnL true h [.p (.int .i64 s.op),.p (.str s.name),A,B,E] s.cs I:=by
 rw[s.cs_eq]
 exact .p _ (λ_=>rfl) (.p _ (λ_=>rfl) H)
theorem ll{s:Bool}{h:List AO}{v:AV}{q:PV}{I:List Nat}(H:OwnL s h [v] [q] I):(∃q',v= .p q')\/v= .nils\/∃a b n,v= .sl a b 0 n:=by
 cases H with
 |p q=>exact .inl ⟨_,rfl⟩
 |nils=>exact .inr (.inl rfl)
 |sl id sz n=>exact .inr (.inr ⟨_,_,_,rfl⟩)
theorem Qb{s:Bool}{h:List AO}{e:Ex}{K:AV}{I:List Nat}(H:OwnL s h [K] [exL e.kids] I):OwnL s h [.p (.int .i64 e.op),.p (.int .i64 e.n),.p (.str e.name),K] e.cs I:=by
 rw[e.cs_eq]
 exact .p _ (λ_=>rfl) (.p _ (λ_=>rfl) (.p _ (λ_=>rfl) H))
theorem MY:∀(N:Nat) (e:Ex),e.sz<=N->e.sz<=1073741824->AC Tryz.prog G jF [.agg (e.cs.map .p)] [] (MkW .agg true e.cs):=by
 intro N
 induction N with
 |zero=>intro e he;have:=e.sz_eq;omega
 |succ N ih=>
  intro e he hb
  have hsz:=e.sz_eq
  have hkl:=bm e.kids
  refine AC.go CX ?_
  have hec:=e.cs_eq
  have hsl:exL e.kids= .lst 4 (e.kids.map Ex.cs):=rfl
  simp-implicitDefEqProofs[sG,hec,hsl]
  obtain⟨hb0,ehb⟩:∃hb0:List AO,hb0=[.row 4 [[.p (.int .i64 e.op),.p (.int .i64 e.n),.p (.str e.name),.p (.lst 4 (e.kids.map Ex.cs))]],.row 4 [[.p (.int .i64 0),.p (.int .i64 0),.p (.str []),.nils]]]:=⟨_,rfl⟩
  have hini:PshF true 4 (e.kids.map Ex.cs) hb0 ⟨0,2,[.row 4 [[.p (.int .i64 e.op),.p (.int .i64 e.n),.p (.str e.name),.p (.lst 4 (e.kids.map Ex.cs))]],.row 4 [[.p (.int .i64 0),.p (.int .i64 0),.p (.str []),.nils]],.row 4 []]⟩:=by
   rw[ehb];exact PshF.init _ []
  refine aM (λa:PshS=>aC 25 [(4,.p (.int .i64 a.i)),(3,.sl a.id 4 0 a.i),(2,.ptr 1 4 0 0),(1,.ptr 0 4 0 0)]) (λa=>a.h) (PshF true 4 (e.kids.map Ex.cs) hb0) (λa=>e.kids.length-a.i) _ hini ?_ ?_
  ·exact aq (by simp) (by simp[below])
  rintro⟨i,id,h'⟩ hJ
  have hl0:hb0.length=2:=by rw[ehb];rfl
  have g0:h'[0]?=some (.row 4 [[.p (.int .i64 e.op),.p (.int .i64 e.n),.p (.str e.name),.p (.lst 4 (e.kids.map Ex.cs))]]):=by rw[hJ.2.2.2.1 0 (by omega),ehb];rfl
  have g1:h'[1]?=some (.row 4 [[.p (.int .i64 0),.p (.int .i64 0),.p (.str []),.nils]]):=by rw[hJ.2.2.2.1 1 (by omega),ehb];rfl
  have hl2:2<=h'.length:=by have:=hJ.2.2.1;simp only at this;omega
  simp-implicitDefEqProofs[g0]
  refine aO (λh1=>?_) (λh1=>?_)
  ·simp at h1
   have hg:=WK h1
   have hm:=bU (WY h1)
   have hH:=ih e.kids[i] (by omega) (by omega)
   have hcs:=e.kids[i].cs_eq
   have hDa:(e.kids.map Ex.cs)[i]?=some e.kids[i].cs:=by rw[Xd,hg];rfl
   generalize e.kids[i]=k at hg hH hcs hDa
   have hA:=AC.mkLift uX hH (h:=h') (by rw[hcs];simp)
   rw[hcs] at hA
   simp-implicitDefEqProofs[g0,hg,hcs]
   refine hA.mono ?_
   rintro r h2 ⟨vs,I2,os,rfl,e2,ho,nd,hf⟩
   rw[←hcs] at ho
   obtain⟨rows,k1,k2,k3,k4,k5⟩:=hJ.step hDa (h2:=h2) (by rw[e2];simp) (λx hx=>by rw[e2,WI hx]) ho nd hf k.cs_len
   obtain⟨K,rfl,hK⟩:=IL ho
   have hwi:=w1 (i:=i) (by omega)
   rcases ll hK with⟨q1,rfl⟩|rfl|⟨x1,x2,x3,rfl⟩
   ·have k6:=k5 [.row 4 [[.p (.int .i64 k.op),.p (.int .i64 k.n),.p (.str k.name),.p q1]]] []
    simp-implicitDefEqProofs[aa,k1,k2]
    rw[WQ (l:=rows) (i:=i) (by omega)]
    refine⟨⟨by omega,by omega⟩,_,k6,by simp only;omega,aq (by simp) ?_⟩
    simp[below,hwi]
   ·have k6:=k5 [.row 4 [[.p (.int .i64 k.op),.p (.int .i64 k.n),.p (.str k.name),.nils]]] []
    simp-implicitDefEqProofs[aa,k1,k2]
    rw[WQ (l:=rows) (i:=i) (by omega)]
    refine⟨⟨by omega,by omega⟩,_,k6,by simp only;omega,aq (by simp) ?_⟩
    simp[below,hwi]
   ·have k6:=k5 [.row 4 [[.p (.int .i64 k.op),.p (.int .i64 k.n),.p (.str k.name),.sl x1 x2 0 x3]]] []
    simp-implicitDefEqProofs[aa,k1,k2]
    rw[WQ (l:=rows) (i:=i) (by omega)]
    refine⟨⟨by omega,by omega⟩,_,k6,by simp only;omega,aq (by simp) ?_⟩
    simp[below,hwi]
  ·simp at h1
   have hie:i=e.kids.length:=by have:=hJ.1;simp at this;omega
   obtain⟨d1,d2,I,ho,nd,hI⟩:=hJ.done (by simpa using h1)
   subst hie
   have hn0:0∉I:=λhm=>by have:=hI 0 hm;omega
   have hn1:1∉I:=λhm=>by have:=hI 1 hm;omega
   have s0:∀x,(h'.set 0 x)[0]?=some x:=λx=>WT (by omega)
   have s1:∀x,(h'.set 0 x)[1]?=some (.row 4 [[.p (.int .i64 0),.p (.int .i64 0),.p (.str []),.nils]]):=λx=>by rw[WM (by omega)];exact g1
   have s2:∀x y,((h'.set 0 x).set 1 y)[1]?=some y:=λx y=>WT (by rw[XB];omega)
   simp-implicitDefEqProofs[g0,g1,s0,s1,s2]
   rw[←hsl,←hec]
   exact⟨_,I,rfl,Qb ((ho.set_out hn0 _).set_out hn1 _),nd⟩
theorem Eb:∀(N:Nat) (l:List Sm),aD l<N->aD l<=1073741824->AC Tryz.prog G dU [.p (smL l)] [] (MkW dZ true [smL l]):=by
 intro N
 induction N with
 |zero=>intro l he;omega
 |succ N ih=>
  intro l hN hz
  have hsl:∀l,smL l= .lst 5 (l.map Sm.cs):=λ_=>rfl
  have hll:=bI l
  refine AC.go AT ?_
  simp-implicitDefEqProofs[rp,hsl]
  refine aM (λa:PshS=>aC 52 [(4,.p (.int .i64 a.i)),(3,.sl a.id 5 0 a.i),(0,.p (smL l))]) (λa=>a.h) (PshF true 5 (l.map Sm.cs) []) (λa=>l.length-a.i) ⟨0,0,[.row 5 []]⟩ (PshF.init [] []) ?_ ?_
  ·exact aq (by simp) (by simp[below,hsl])
  rintro⟨i,id,hh⟩ hI
  simp-implicitDefEqProofs[hsl]
  refine aO (λh1=>?_) (λh1=>?_)
  ·simp at h1
   have hg:=WK h1
   have hm:=fm (WY h1)
   have hcs:=l[i].cs_eq
   have hse:=l[i].sz_eq
   have hD:(l.map Sm.cs)[i]?=some l[i].cs:=by rw[Xd,hg];rfl
   generalize l[i]=s at hg hm hcs hse hD
   simp-implicitDefEqProofs[hg,hcs,Cu]
   have hid:id<hh.length:=by obtain⟨_,_,_,_,_,_,hr,_⟩:=hI;exact hr.lt
   have hal:=bm s.args
   have hxl:exL s.args= .lst 4 (s.args.map Ex.cs):=rfl
   obtain⟨hb,ehb⟩:∃hb,hb=hh++[AO.row 5 [[.p (.int .i64 s.op),.p (.str s.name),.p (exL s.args),.p (smL s.body),.p (smL s.els)]]]:=⟨_,rfl⟩
   have hbl:hb.length=hh.length+1:=by rw[ehb];simp
   have hbx:hb[hh.length]?=some (.row 5 [[.p (.int .i64 s.op),.p (.str s.name),.p (exL s.args),.p (smL s.body),.p (smL s.els)]]):=by rw[ehb];simp
   have hini:PshF true 4 (s.args.map Ex.cs) hb ⟨0,hh.length+1,hh++[AO.row 5 [[.p (.int .i64 s.op),.p (.str s.name),.p (exL s.args),.p (smL s.body),.p (smL s.els)]],.row 4 []]⟩:=by
    have:=PshF.init (s:=true) (sz:=4) (D:=s.args.map Ex.cs) hb []
    rw[hbl,ehb,Xx] at this
    rw[ehb];exact this
   refine aM (λa:PshS=>aC 52 [(7,.p (.int .i64 a.i)),(6,.sl a.id 4 0 a.i),(5,.ptr hh.length 5 0 0),(4,.p (.int .i64 i)),(3,.sl id 5 0 i),(0,.p (smL l))]) (λa=>a.h) (PshF true 4 (s.args.map Ex.cs) hb) (λa=>s.args.length-a.i) _ hini ?_ ?_
   ·refine aq (by simp) ?_
    simp[below,hsl]
    omega
   rintro⟨j,id2,h'⟩ hJ
   have hjb:h'[hh.length]?=some (.row 5 [[.p (.int .i64 s.op),.p (.str s.name),.p (exL s.args),.p (smL s.body),.p (smL s.els)]]):=by
    rw[hJ.2.2.2.1 _ (by omega)];exact hbx
   have hlb:hh.length+1<=h'.length:=by have:=hJ.2.2.1;simp only at this;omega
   simp-implicitDefEqProofs[hjb,hxl]
   refine aO (λh2=>?_) (λh2=>?_)
   ·simp at h2
    have hga:=WK h2
    have hma:=bU (WY h2)
    have hC:=MY G _ s.args[j] (WV _) (by omega)
    have hka:=s.args[j].cs_eq
    have hDa:(s.args.map Ex.cs)[j]?=some s.args[j].cs:=by rw[Xd,hga];rfl
    generalize s.args[j]=e at hga hma hC hka hDa
    have hA:=AC.mkLift uX hC (h:=h') (by rw[hka];simp)
    rw[hka] at hA
    simp-implicitDefEqProofs[hjb,hga,hka,hxl]
    refine hA.mono ?_
    rintro r h2 ⟨vs,I2,os,rfl,e2,ho,nd,hf⟩
    rw[←hka] at ho
    obtain⟨rows,k1,k2,k3,k4,k5⟩:=hJ.step hDa (h2:=h2) (by rw[e2];simp) (λx hx=>by rw[e2,WI hx]) ho nd hf e.cs_len
    obtain⟨K,rfl,hK⟩:=IL ho
    have hwj:=w1 (i:=j) (by omega)
    have hl2:h'.length<=h2.length:=by rw[e2];simp
    rcases ll hK with⟨q1,rfl⟩|rfl|⟨x1,x2,x3,rfl⟩
    ·have k6:=k5 [.row 4 [[.p (.int .i64 e.op),.p (.int .i64 e.n),.p (.str e.name),.p q1]]] []
     simp-implicitDefEqProofs[aa,k1,k2]
     rw[WQ (l:=rows) (i:=j) (by omega)]
     refine⟨⟨by omega,by omega⟩,_,k6,by simp only;omega,aq (by simp) ?_⟩
     simp[below,hsl,hwj]
     omega
    ·have k6:=k5 [.row 4 [[.p (.int .i64 e.op),.p (.int .i64 e.n),.p (.str e.name),.nils]]] []
     simp-implicitDefEqProofs[aa,k1,k2]
     rw[WQ (l:=rows) (i:=j) (by omega)]
     refine⟨⟨by omega,by omega⟩,_,k6,by simp only;omega,aq (by simp) ?_⟩
     simp[below,hsl,hwj]
     omega
    ·have k6:=k5 [.row 4 [[.p (.int .i64 e.op),.p (.int .i64 e.n),.p (.str e.name),.sl x1 x2 0 x3]]] []
     simp-implicitDefEqProofs[aa,k1,k2]
     rw[WQ (l:=rows) (i:=j) (by omega)]
     refine⟨⟨by omega,by omega⟩,_,k6,by simp only;omega,aq (by simp) ?_⟩
     simp[below,hsl,hwj]
     omega
   ·simp at h2
    have hjl:j=s.args.length:=by have:=hJ.1;simp at this;omega
    obtain⟨d1,d2,IA,oA,nA,fA⟩:=hJ.done (by simpa using h2)
    subst hjl
    have hB:=ih s.body (by omega) (by omega)
    have hE:=ih s.els (by omega) (by omega)
    simp-implicitDefEqProofs[hjb]
    refine(AC.mkLift tV hB (h:=h') (by simp)).mono ?_
    rintro r h3 ⟨vB,IB,o1,rfl,e3,oB,nB,fB⟩
    obtain⟨B,rfl⟩:=gQ oB
    have hjb3:h3[hh.length]?=some (.row 5 [[.p (.int .i64 s.op),.p (.str s.name),.p (exL s.args),.p (smL s.body),.p (smL s.els)]]):=by
     rw[e3,WI (by omega)];exact hjb
    simp-implicitDefEqProofs[aa,dZ,hjb3]
    refine(AC.mkLift tV hE (h:=h3) (by simp)).mono ?_
    rintro r h4 ⟨vE,IE,o2,rfl,e4,oE,nE,fE⟩
    obtain⟨E,rfl⟩:=gQ oE
    have hjb4:h4[hh.length]?=some (.row 5 [[.p (.int .i64 s.op),.p (.str s.name),.p (exL s.args),.p (smL s.body),.p (smL s.els)]]):=by
     have:hh.length<h3.length:=(WJ.1 hjb3).1
     rw[e4,WI this];exact hjb3
    have cB:=ll oB
    have cE:=ll oE
    obtain⟨a1,a2,a3⟩:=Gw oA nA fA (by rw[←e3];exact oB) nB fB d1
    rw[←e3] at a1
    obtain⟨b1,b2,b3⟩:=Gw a1 a2 a3 (by rw[←e4];exact oE) nE fE (by rw[e3];simp;omega)
    rw[←e4] at b1
    have hS:=Qa (s:=s) b1
    obtain⟨rows,k1,k2,k3,k4,k5⟩:=hI.step hD (h2:=h4) (by rw[e4,e3];simp;omega) (λx hx=>by
     rw[e4,WI (by rw[e3];simp;omega),e3,WI (by omega),d2 x (by omega),ehb,WI hx]) hS b2 (λx hx=>by have:=b3 x hx;omega) s.cs_len
    have k6:=k5 [.row 5 [[.p (.int .i64 s.op),.p (.str s.name),.sl id2 4 0 s.args.length,B,E]]] []
    have hwi:=w1 (i:=i) (by omega)
    rcases cB with⟨q1,rfl⟩|rfl|⟨x1,x2,x3,rfl⟩<;>rcases cE with⟨q2,rfl⟩|rfl|⟨y1,y2,y3,rfl⟩<;>
    ·simp-implicitDefEqProofs[aa,dZ,hjb4,k1,k2]
     rw[WQ (l:=rows) (i:=i) (by omega)]
     refine⟨⟨by omega,by omega⟩,_,k6,by simp only;omega,aq (by simp) ?_⟩
     simp[below,hsl,hwi]
  ·simp at h1
   obtain⟨_,_,I,ho,nd,_⟩:=hI.done (by simpa using h1)
   have hie:i=l.length:=by have:=hI.1;simp at this;omega
   subst hie
   simp-implicitDefEqProofs[]
   exact⟨_,I,rfl,ho,nd⟩
def cpK(a:PshS):AV:=if a.i=0 then .nils else .sl a.id 3 0 a.i
def CpI(l:List Fd)(a:PshS):Prop:=a.i<=l.length/\a.h[0]?=some (.row 1 [[.p (fdL l)]])/\a.h[1]?=some (.row 1 [[.nils]])/\a.h[2]?=some (.row 1 [[cpK a]])/\
 (0<a.i->3<=a.id/\∃rows J,RowOwn true a.h a.id 3 rows ((l.map Fd.cs).take a.i) J/\∀j∈J,3<=j)
theorem Dv:∀l:List Fd,l.length<=aY l
 |[]=>WV _
 |f::r=>by
  have:=Dv r
  have h1:aY (f::r)=f.sz+aY r:=by simp[aY]
  have h2:f.sz=1+f.name.length+(f.params.length+(f.params.map List.length).sum)+aD f.body:=rfl
  simp only[Xb];omega
theorem FB{h:List AO}{id:Nat}{l:List (List UInt8)}(e:h[id]?=some (cb l)){n:Nat}(hn:n=l.length):OwnL true h [.sl id 1 0 n] [aN l] [id]:=by
 have hr:RowOwn true h id 1 (l.map λw=>[AV.p (.str w)]) (l.map λw=>[PV.str w]) []:=by
  refine⟨e,by simp,λx hx=>by obtain⟨w,_,rfl⟩:=Xl.1 hx;rfl,λx hx=>by obtain⟨w,_,rfl⟩:=Xl.1 hx;rfl,?_,by simp⟩
  clear e hn
  induction l with
  |nil=>exact .nil
  |cons w r ih=>exact .p _ (λ_=>rfl) ih
 exact hr.tree (by simpa using hn)
theorem Nl{h3:List AO}(hl:3<=h3.length){r:List AV}{f:Fd}{I2:List Nat}(ho:OwnL true h3 r f.cs I2)(nd:I2.Nodup)(hf:∀j∈I2,3<=j)(o x:AO):∃J,RowOwn true ((h3++[o,.row 3 [r]]).set 2 x) (h3.length+1) 3 [r] [f.cs] J/\∀j∈J,3<=j:=by
 have hr:r.length=3:=by rw[ho.len,Fd.cs_len]
 refine⟨I2,⟨?_,rfl,λe he=>by rw[WR.1 he];exact hr,λe he=>by rw[WR.1 he];exact Fd.cs_len f,?_,?_⟩,hf⟩
 ·rw[WM (by omega),WP (by omega),XL];rfl
 ·have:=(ho.more [o,.row 3 [r]]).set_out (λhm=>by have:=hf 2 hm;omega:2∉I2) x
  simpa using this
 ·rw[Xh]
  exact⟨λhm=>by have:=ho.lt hm;omega,nd⟩
theorem Qf{h h3:List AO}{id:Nat}{rows:List (List AV)}{D:List (List PV)}{J:List Nat}(H:RowOwn true h id 3 rows D J)(hJ:∀j∈J,3<=j)(hid:3<=id)(hh:3<=h.length)(e3:h3=h++h3.drop h.length){r:List AV}{f:Fd}{I2:List Nat}(ho:OwnL true h3 r f.cs I2)(nd:I2.Nodup)(hf:∀j∈I2,h.length<=j)(o x:AO):
 ∃J,RowOwn true (((h3++[o]).set id .dead++[AO.row 3 (rows++[r])]).set 2 x) (h3.length+1) 3 (rows++[r]) (D++[f.cs]) J/\∀j∈J,3<=j:=by
 have hp:=H.push (h2:=h3++[o]) (os:=h3.drop h.length++[o]) (by rw[←Xx,←e3]) (ho.more [o]) nd hf (Fd.cs_len f)
 have hl:(h3++[o]).length=h3.length+1:=by simp
 rw[hl] at hp
 have hl3:h.length<=h3.length:=by rw[e3];simp
 refine⟨J++I2,hp.frame λk hk=>?_,λj hj=>?_⟩
 ·have:3<=k:=by
   rcases WN.1 hk with rfl|hk
   ·omega
   ·rcases WO.1 hk with hk|hk
    ·exact hJ k hk
    ·have:=hf k hk;omega
  rw[WM (by omega)]
 ·rcases WO.1 hj with hj|hj
  ·exact hJ j hj
  ·have:=hf j hj;omega
theorem Na(l:List Fd)(hz:aY l<=1073741824):AC Tryz.prog G nw [.agg [.p (fdL l)]] [] (MkW .agg true [fdL l]):=by
 have hfl:∀l,fdL l= .lst 3 (l.map Fd.cs):=λ_=>rfl
 have hll:l.length<=aY l:=Dv l
 refine AC.go CZ ?_
 simp-implicitDefEqProofs[sQ,hfl]
 refine aM (λa:PshS=>aC 35 [(4,.p (.int .i64 a.i)),(3,.ptr 2 1 0 0),(2,.ptr 1 1 0 0),(1,.ptr 0 1 0 0)]) (λa=>a.h) (CpI l) (λa=>l.length-a.i) ⟨0,0,[.row 1 [[.p (fdL l)]],.row 1 [[.nils]],.row 1 [[.nils]]]⟩ ⟨Xr _,rfl,rfl,rfl,λh=>by simp at h⟩ ?_ ?_
 ·exact aq (by simp) (by simp[below])
 rintro⟨i,id,h⟩ ⟨i1,i2,i3,i4,i5⟩
 simp only at i1 i2 i3 i4 i5
 have hl3:3<=h.length:=by have:=(WJ.1 i4).1;omega
 have j2:∀os,(h++os)[0]?=some (.row 1 [[.p (fdL l)]]):=λos=>by rw[WI (by omega)];exact i2
 have j4:∀os,(h++os)[2]?=some (.row 1 [[cpK ⟨i,id,h⟩]]):=λos=>by rw[WI (by omega)];exact i4
 simp-implicitDefEqProofs[i2,hfl]
 refine aO (λh1=>?_) (λh1=>?_)
 ·simp at h1
  have hg:=WK h1
  have hm:=ff (WY h1)
  have hD:(l.map Fd.cs)[i]?=some l[i].cs:=by rw[Xd,hg];rfl
  generalize l[i]=f at hg hm hD
  have hcs:f.cs=[.str f.name,aN f.params,smL f.body]:=rfl
  have hsp:aN f.params= .lst 1 (f.params.map λw=>[.str w]):=rfl
  have hfz:f.sz=1+f.name.length+(f.params.length+(f.params.map List.length).sum)+aD f.body:=rfl
  have hB:=Eb G _ f.body (Nat.lt_succ_self _) (by omega)
  by_cases hi0:i=0
  ·subst hi0
   have hk:cpK ⟨0,id,h⟩= .nils:=rfl
   rw[hk] at j4 i4
   have fin0:∀(h3:List AO) (r:List AV) (I2:List Nat) (l0:List (Nat × AV)),h.length+3<=h3.length->(∀j,j<h.length->h3[j]?=h[j]?)->OwnL true h3 r f.cs I2->I2.Nodup->(∀j∈I2,h.length<=j)->∀(o:AO) (hw:Aw.look l0 4= .p (.int .i64 (IntKind.i64.wrap 1))/\Aw.look l0 3= .ptr 2 1 0 0/\Aw.look l0 2= .ptr 1 1 0 0/\Aw.look l0 1= .ptr 0 1 0 0),
    ∃a',CpI l a'/\l.length-a'.i<l.length/\Wk 0 (aC 35 l0) ((h3++[o,.row 3 [r]]).set 2 (.row 1 [[.sl (h3.length+1) 3 0 1]])) (aC 35 [(4,.p (.int .i64 a'.i)),(3,.ptr 2 1 0 0),(2,.ptr 1 1 0 0),(1,.ptr 0 1 0 0)]) a'.h:=by
    intro h3 r I2 l0 hl4 hg3 oR nR fR o ⟨e4,e3,e2,e1⟩
    obtain⟨J,hJ,hJ3⟩:=Nl (by omega) oR nR (λj hj=>by have:=fR j hj;omega) o (.row 1 [[.sl (h3.length+1) 3 0 1]])
    have hd:(l.map Fd.cs).take 1=[f.cs]:=by rw[List.take_add_one,hD];rfl
    refine⟨⟨1,h3.length+1,_⟩,⟨by simp only;omega,?_,?_,?_,λ_=>⟨by simp only;omega,_,J,by simp only[hd];exact hJ,hJ3⟩⟩,by simp only;omega,aq (by simp) ?_⟩
    ·rw[WM (by omega),WI (by omega),hg3 0 (by omega)];exact i2
    ·rw[WM (by omega),WI (by omega),hg3 1 (by omega)];exact i3
    ·rw[WT (by simp;omega)];rfl
    ·simp[e1,e2,e3,e4,below]
     exact⟨by have:=w1 (i:=0) (by omega);simpa using this,by omega⟩
   simp-implicitDefEqProofs[i2,hfl,hg,hcs,hsp,Cu, ↓j2, ↓j4]
   refine⟨⟨by omega,by omega⟩,?_⟩
   refine(AC.mkLift tV hB (by simp)).mono ?_
   rintro r h3 ⟨vB,IB,o1,rfl,e3,oB,nB,fB⟩
   obtain⟨B,rfl⟩:=gQ oB
   simp at fB
   have hg3:∀j,j<h.length->h3[j]?=h[j]?:=λj hj=>by rw[e3,Xx,WI hj]
   have p0:h3[h.length]?=some (.row 3 [[.p (.str f.name),.p (.lst 1 (f.params.map λw=>[.str w])),.p (smL f.body)]]):=by
    rw[e3,Xx,WP (WV _),Nat.sub_self];rfl
   have p2:h3[h.length+2]?=some (cb f.params):=by
    rw[e3,Xx,WP (by omega),XL]
    simp[cb,Function.comp_def]
   have oP:=FB p2 (n:=f.params.length) rfl
   have hl4:h.length+3<=h3.length:=by rw[e3];simp
   have q0:∀os,(h3++os)[2]?=some (.row 1 [[.nils]]):=λos=>by rw[WI (by omega),hg3 2 (by omega)];exact i4
   have q1:h3[2]?=some (.row 1 [[.nils]]):=by rw[hg3 2 (by omega)];exact i4
   have q2:∀os,(h3++os)[h.length]?=some (.row 3 [[.p (.str f.name),.p (.lst 1 (f.params.map λw=>[.str w])),.p (smL f.body)]]):=λos=>by rw[WI (by omega)];exact p0
   clear p2
   have hfR:∀j∈[h.length+2]++IB,h.length<=j:=λj hj=>by
    rcases WO.1 hj with hj|hj
    ·rw[WR.1 hj];omega
    ·have:=fB j hj;omega
   have hnR:([h.length+2]++IB).Nodup:=Xh.2 ⟨λhm=>by have:=fB _ hm;omega,nB⟩
   rcases ll oB with⟨b1,rfl⟩|rfl|⟨x1,x2,x3,rfl⟩
   ·have oR:=tM (s:=true) (w:=f.name) oP oB
    simp-implicitDefEqProofs[aa,dZ, ↓q1, ↓p0, ↓q0, ↓q2]
    exact fin0 h3 _ _ _ hl4 hg3 oR hnR hfR _ (by simp)
   ·have oR:=tM (s:=true) (w:=f.name) oP oB
    simp-implicitDefEqProofs[aa,dZ, ↓q1, ↓p0, ↓q0, ↓q2]
    exact fin0 h3 _ _ _ hl4 hg3 oR hnR hfR _ (by simp)
   ·have oR:=tM (s:=true) (w:=f.name) oP oB
    simp-implicitDefEqProofs[aa,dZ, ↓q1, ↓p0, ↓q0, ↓q2]
    exact fin0 h3 _ _ _ hl4 hg3 oR hnR hfR _ (by simp)
  ·have hk:cpK ⟨i,id,h⟩= .sl id 3 0 i:=if_neg hi0
   rw[hk] at j4 i4
   obtain⟨hid3,rows,J,hr,hJ3⟩:=i5 (by omega)
   have hrl:rows.length=i:=by have:=hr.len;rw[Xi,Xp] at this;omega
   have hidl:=hr.lt
   have fin0:∀(h3:List AO) (r:List AV) (I2:List Nat) (l0:List (Nat × AV)),h.length+3<=h3.length->(∀j,j<h.length->h3[j]?=h[j]?)->OwnL true h3 r f.cs I2->I2.Nodup->(∀j∈I2,h.length<=j)->∀(o:AO) (hw:Aw.look l0 4= .p (.int .i64 (IntKind.i64.wrap ((i:Int)+1)))/\Aw.look l0 3= .ptr 2 1 0 0/\Aw.look l0 2= .ptr 1 1 0 0/\Aw.look l0 1= .ptr 0 1 0 0),
    ∃a',CpI l a'/\l.length-a'.i<l.length-i/\Wk 0 (aC 35 l0) (((h3++[o]).set id .dead++[AO.row 3 (rows++[r])]).set 2 (.row 1 [[.sl (h3.length+1) 3 0 (i+1)]])) (aC 35 [(4,.p (.int .i64 a'.i)),(3,.ptr 2 1 0 0),(2,.ptr 1 1 0 0),(1,.ptr 0 1 0 0)]) a'.h:=by
    intro h3 r I2 l0 hl4 hg3 oR nR fR o ⟨e4,e3,e2,e1⟩
    obtain⟨J2,hJ,hJ4⟩:=Qf hr hJ3 hid3 hl3 (Bg (by omega) hg3) oR nR fR o (.row 1 [[.sl (h3.length+1) 3 0 (i+1)]])
    have hd:(l.map Fd.cs).take i++[f.cs]=(l.map Fd.cs).take (i+1):=by rw[List.take_add_one,hD];rfl
    rw[hd] at hJ
    refine⟨⟨i+1,h3.length+1,_⟩,⟨by simp only;omega,?_,?_,?_,λ_=>⟨by simp only;omega,_,J2,hJ,hJ4⟩⟩,by simp only;omega,aq (by simp) ?_⟩
    ·rw[WM (by omega),WI (by simp only[XB,Xa,Xb];omega),WM (by omega),WI (by omega),hg3 0 (by omega)];exact i2
    ·rw[WM (by omega),WI (by simp only[XB,Xa,Xb];omega),WM (by omega),WI (by omega),hg3 1 (by omega)];exact i3
    ·rw[WT (by simp;omega),cpK,if_neg (show¬(i+1=0) by omega)]
    ·simp[e1,e2,e3,e4,below]
     exact⟨w1 (i:=i) (by omega),by omega⟩
   simp-implicitDefEqProofs[i2,hfl,hg,hcs,hsp,Cu, ↓j2, ↓j4]
   refine⟨⟨by omega,by omega⟩,?_⟩
   refine(AC.mkLift tV hB (by simp)).mono ?_
   rintro r h3 ⟨vB,IB,o1,rfl,e3,oB,nB,fB⟩
   obtain⟨B,rfl⟩:=gQ oB
   simp at fB
   have hg3:∀j,j<h.length->h3[j]?=h[j]?:=λj hj=>by rw[e3,Xx,WI hj]
   have p0:h3[h.length]?=some (.row 3 [[.p (.str f.name),.p (.lst 1 (f.params.map λw=>[.str w])),.p (smL f.body)]]):=by
    rw[e3,Xx,WP (WV _),Nat.sub_self];rfl
   have p2:h3[h.length+2]?=some (cb f.params):=by
    rw[e3,Xx,WP (by omega),XL]
    simp[cb,Function.comp_def]
   have oP:=FB p2 (n:=f.params.length) rfl
   have hl4:h.length+3<=h3.length:=by rw[e3];simp
   have q0:∀os,(h3++os)[2]?=some (.row 1 [[.sl id 3 0 i]]):=λos=>by rw[WI (by omega),hg3 2 (by omega)];exact i4
   have q1:h3[2]?=some (.row 1 [[.sl id 3 0 i]]):=by rw[hg3 2 (by omega)];exact i4
   have q2:∀os,(h3++os)[h.length]?=some (.row 3 [[.p (.str f.name),.p (.lst 1 (f.params.map λw=>[.str w])),.p (smL f.body)]]):=λos=>by rw[WI (by omega)];exact p0
   clear p2
   have q4:∀x o y,((h3++x).set id o++y)[2]?=some (.row 1 [[.sl id 3 0 i]]):=λx o y=>by
    rw[WI (by simp only[XB,Xa];omega),WM (by omega),WI (by omega),hg3 2 (by omega)];exact i4
   have q3:∀os,(h3++os)[id]?=some (.row 3 rows):=λos=>by rw[WI (by omega),hg3 id hidl];exact hr.here
   have hfR:∀j∈[h.length+2]++IB,h.length<=j:=λj hj=>by
    rcases WO.1 hj with hj|hj
    ·rw[WR.1 hj];omega
    ·have:=fB j hj;omega
   have hnR:([h.length+2]++IB).Nodup:=Xh.2 ⟨λhm=>by have:=fB _ hm;omega,nB⟩
   rcases ll oB with⟨b1,rfl⟩|rfl|⟨x1,x2,x3,rfl⟩
   ·have oR:=tM (s:=true) (w:=f.name) oP oB
    simp-implicitDefEqProofs[aa,dZ, ↓q1, ↓p0, ↓q0, ↓q2, ↓q3, ↓q4,hrl]
    rw[WQ (l:=rows) (i:=i) (by omega)]
    refine⟨⟨by omega,by omega⟩,?_⟩
    exact fin0 h3 _ _ _ hl4 hg3 oR hnR hfR _ (by simp)
   ·have oR:=tM (s:=true) (w:=f.name) oP oB
    simp-implicitDefEqProofs[aa,dZ, ↓q1, ↓p0, ↓q0, ↓q2, ↓q3, ↓q4,hrl]
    rw[WQ (l:=rows) (i:=i) (by omega)]
    refine⟨⟨by omega,by omega⟩,?_⟩
    exact fin0 h3 _ _ _ hl4 hg3 oR hnR hfR _ (by simp)
   ·have oR:=tM (s:=true) (w:=f.name) oP oB
    simp-implicitDefEqProofs[aa,dZ, ↓q1, ↓p0, ↓q0, ↓q2, ↓q3, ↓q4,hrl]
    rw[WQ (l:=rows) (i:=i) (by omega)]
    refine⟨⟨by omega,by omega⟩,?_⟩
    exact fin0 h3 _ _ _ hl4 hg3 oR hnR hfR _ (by simp)
 ·simp at h1
  have hie:i=l.length:=by omega
  subst hie
  have s1:∀x,(h.set 1 x)[1]?=some x:=λx=>WT (by omega)
  by_cases hi0:l.length=0
  ·have hk:cpK ⟨l.length,id,h⟩= .nils:=if_pos hi0
   rw[hk] at i4
   simp-implicitDefEqProofs[i4,i3,s1]
   obtain rfl:=XP hi0
   exact⟨[.nils],[],rfl,.nils 3 .nil,by simp⟩
  ·have hk:cpK ⟨l.length,id,h⟩= .sl id 3 0 l.length:=if_neg hi0
   rw[hk] at i4
   obtain⟨hid3,rows,J,hr,hJ3⟩:=i5 (by omega)
   rw[WQ (by simp)] at hr
   simp-implicitDefEqProofs[i4,i3,s1]
   have ho:=hr.tree (n:=l.length) (by simp)
   exact⟨[.sl id 3 0 l.length],id::J,rfl,ho.set_out (λhm=>by
    rcases WN.1 hm with hm|hm
    ·omega
    ·have:=hJ3 _ hm;omega) _,hr.nd⟩
end
section
variable (G:aL)
theorem OQ{s:Bool}{b:List Int}{q:Nat}{T:List AO}{vs:List AV}{qs:List PV}{I:List Nat}(H:OwnL s (rdO b q::T) vs qs I)(hI:∀i∈I,1<=i)(o:AO):OwnL s (o::T) vs qs I:=
 H.frame λi hi=>by
  have:=hI i hi
  obtain⟨k,rfl⟩:∃k,i=k+1:=⟨i-1,by omega⟩
  rfl
theorem Ny{b:List Int}{p q:Nat}{T:List AO}{v:AV}{l:List Fd}{I:List Nat}(H:OwnL true (rdO b q::T) [v] [fdL l] I)(hI:∀i∈I,1<=i)(hz:aY l<=900000000)(h1:p<=q)(h2:q<=p+400500000):DP b (PgQ p 900000000 400500000) (.ret (.agg [v])) (rdO b q::T):=
 ⟨_,T,q,.agg [.p (fdL l)],rfl,rfl,.agg (.one ((OQ H hI .dead).view 0 v _ rfl rfl) .nil) .nil,⟨l,rfl,hz⟩,h1,h2⟩
theorem Nd{l:List Sm}{k:Nat}{s0:Sm}(s:Sm)(h:l[k]?=some s0):aD (l.set k s)+s0.sz=aD l+s.sz:=by
 obtain⟨hk,h⟩:=WJ.1 h
 subst h
 ·rw[gr s hk,aW]
  have e:l=l.take k++l.drop k:=(Xm _ _).symm
  have h1:aD l=aD (l.take k)+aD (l.drop k):=by rw[←aW,←e]
  have h4:aD (l.drop k)=l[k].sz+aD (l.drop (k+1)):=by rw[List.drop_eq_getElem_cons hk];rfl
  simp only[aD]
  omega
theorem Mn(l:List Ex)(k:Nat)(s:Ex):aJ (l.set k s)<=aJ l+s.sz:=by
 by_cases hk:k<l.length
 ·rw[gr s hk,aZ]
  have e:l=l.take k++l.drop k:=(Xm _ _).symm
  have h1:aJ l=aJ (l.take k)+aJ (l.drop k):=by rw[←aZ,←e]
  have h4:aJ (l.drop k)=l[k].sz+aJ (l.drop (k+1)):=by rw[List.drop_eq_getElem_cons hk];rfl
  simp only[aJ]
  omega
 ·rw[List.set_eq_of_length_le (by omega)];omega
theorem FM{α:Type}{l:List α}{k:Nat}{x:α}(h:l[k]?=some x):l.set k x=l:=by
 apply List.ext_getElem?
 intro i
 by_cases hi:k=i
 ·subst hi;rw[WT (WJ.1 h).1,h]
 ·rw[WM hi]
theorem Nt{h:List AO}{id sz n m:Nat}{es:List (List PV)}(H:View h (.sl id sz 0 n) (.lst sz es))(hm:m<=es.length):View h (.sl id sz 0 m) (.lst sz (es.take m)):=by
 cases H with
 |sl _ _ _ rows _ e1 e2 e3 e4=>
  have hl:(es.take m).length=m:=by rw[Xi];omega
  have:=View.sl id sz 0 rows (es.take m) e1 (by omega) (λe he=>e3 e (List.mem_of_mem_take he)) (λi j e q e' a a1 a2 a3 a4=>by
   have hi:i<m:=by have:=(WJ.1 a1).1;omega
   rw[List.getElem?_take_of_lt hi] at a1
   exact e4 i j e q e' a a1 a2 a3 a4)
  rwa[hl] at this
 |fl _ sz' _ rows ps e1 e2=>
  have hl:(ps.take m).length=m:=by rw[Xi];rw[Xp] at hm;omega
  have:=View.fl id sz' 0 rows (ps.take m) e1 (λi q hq=>by
   have hi:i<m:=by have:=(WJ.1 hq).1;omega
   rw[List.getElem?_take_of_lt hi] at hq
   exact e2 i q hq)
  rw[hl,List.map_take] at this
  exact this
theorem Oe{b:List Int}(hb:Byt b)(hl:b.length<=2000){p:Nat}(hp:p<=5000000000):AC Tryz.prog G nr [.ptr 0 2 0 0] [rdO b p] λx h=>∃v q,x= .ret v/\h=[rdO b q]/\PgQ p 900000000 400500000 v q:=by
 refine oG G (AC.go Di ?_)
 have hprog:AC Tryz.prog G dw [.ptr 0 2 0 0] [rdO b p] λx h=>∃v q,x= .ret v/\h=[rdO b q]/\((∃l:List Fd,v= .agg [.p (fdL l)]/\bu l=true/\aY l<=200000000)/\p<=q/\q<=p+200000000):=
  (Ia G hb hl (by omega)).mono λx h ⟨l,q,e1,e2,e3,e4,e5,e6⟩=>⟨_,q,e1,e2,⟨l,rfl,e3,e4⟩,e5,e6⟩
 simp-implicitDefEqProofs[sY]
 refine(ku G hprog _ (by simp[below])).mono ?_
 rintro r h ⟨v,q,rfl,rfl,⟨l,rfl,hok,hz⟩,h1,h2⟩
 have hlen:=((ec l).1 hok).1
 have hfd:=((ec l).1 hok).2.1
 simp-implicitDefEqProofs[aa]
 refine(bf G b hb hl q (by omega) 5 _).mono ?_
 rintro r h ⟨k1,rfl,rfl,_⟩
 simp-implicitDefEqProofs[aa]
 refine aO (λhc=>?_) (λhc=>?_)
 ·simp-implicitDefEqProofs[]
  exact⟨_,_,q+1,.agg [.p (fdL l)],rfl,rfl,.keep (by simp) .nil,⟨l,rfl,by omega⟩,by omega,by omega⟩
 simp-implicitDefEqProofs[]
 refine(bf G b hb hl (q+1) (by omega) 6 _).mono ?_
 rintro r h ⟨k2,rfl,rfl,_⟩
 simp-implicitDefEqProofs[aa]
 refine aO (λhc2=>?_) (λhc2=>?_)
 ·simp-implicitDefEqProofs[]
  refine(ku G (Nq G hb hl (p:=q+1+1) (by omega)) _ (by simp[below])).mono ?_
  rintro r h ⟨v,q2,rfl,rfl,⟨l2,rfl,hz2⟩,h3,h4⟩
  simp-implicitDefEqProofs[aa]
  exact⟨_,_,q2,.agg [.p (fdL l2)],rfl,rfl,.keep (by simp) .nil,⟨l2,rfl,by omega⟩,by omega,by omega⟩
 simp-implicitDefEqProofs[]
 refine(AC.mkLift uX (Na G l (by omega)) (by simp)).mono ?_
 rintro r h ⟨vs,I,os,rfl,rfl,ho,nd,hI⟩
 obtain⟨v,rfl⟩:=gQ ho
 have hne:l.map Fd.cs≠[]:=by intro h;rw[List.map_eq_nil_iff] at h;rw[h] at hlen;simp at hlen
 simp at hI
 rcases ho.inv nd with⟨h0,_⟩|⟨h0,_⟩|⟨id,rowsF,JF,rfl,rfl,hF⟩
 ·exact absurd h0 hne
 ·cases h0
 have hid3:3<=id:=hI id (by simp)
 obtain⟨fF,rfl⟩:∃fF,id=fF+1:=⟨id-1,by omega⟩
 rw[Xp]
 simp-implicitDefEqProofs[aa]
 have hF2:∀q',RowOwn true (rdO b q':: .row 1 [[.nils]]:: .row 1 [[.sl (fF+1) 3 0 l.length]]::os) (fF+1) 3 rowsF (l.map Fd.cs) JF:=λq'=>hF.frame λi hi=>by
  have:=hI i (by simpa using hi)
  obtain⟨k,rfl⟩:∃k,i=k+3:=⟨i-3,by omega⟩
  rfl
 have hI3:∀j∈JF,3<=j:=λj hj=>hI j (by simp[hj])
 have hnF:=hF.nd
 clear hF ho
 obtain⟨T,hT⟩:∃T,T= .row 1 [[.nils]]:: .row 1 [[AV.sl (fF+1) 3 0 l.length]]::os:=⟨_,rfl⟩
 rw[←hT] at hF2⊢
 have t0:T[0]?=some (.row 1 [[.nils]]):=by rw[hT];rfl
 have t1:T[1]?=some (.row 1 [[.sl (fF+1) 3 0 l.length]]):=by rw[hT];rfl
 have tF:T[fF]?=some (.row 3 rowsF):=(hF2 0).here
 clear hT
 refine(bf G b hb hl (q+1+1) (by omega) l.length _).mono ?_
 rintro r h ⟨k,rfl,rfl,hk⟩
 have hkl:k<l.length:=by omega
 have hgk:=WK hkl
 have hfk:=hfd _ (WY hkl)
 have hzk:=ff (WY hkl)
 have hDk:(l.map Fd.cs)[k]?=some l[k].cs:=by rw[Xd,hgk];rfl
 generalize l[k]=f at hgk hfk hzk hDk
 obtain⟨rF,J1,Jk,J2,r1,rfl,r2,r5⟩:=(hF2 (q+1+1+1)).own.put (hF2 0).len (hF2 0).rl (hF2 0).dl hDk
 obtain⟨A,B,IA,IB,rfl,rfl,oA,oB⟩:=RH r2
 have hltJ:∀j∈J1++(IA++IB++J2),j<T.length+1:=λj hj=>by have:=(hF2 0).own.lt hj;simpa using this
 have hnd:=hnF
 rw[Xh] at hnd
 have hn1:fF+1∉J1++(IA++IB++J2):=hnd.1
 have hn2:=hnd.2
 have hIB:∀j∈IB,3<=j:=λj hj=>hI3 j (by simp[hj])
 have nIB:IB.Nodup:=(XI.1 (XI.1 (XI.1 hn2).2.1).1).2.1
 have hDl:(l.map Fd.cs).length=l.length:=by simp
 have finG:∀(U:List AO) (q':Nat) (B':AV) (I':List Nat) (sl':List Sm),(∀i,2<=i->i<T.length->i≠fF->i+1∉IB->U[i]?=T[i]?)->U[fF]?=some (.row 3 (rowsF.set k [.p (.str f.name),A,B']))->OwnL true (rdO b q'::U) [B'] [smL sl'] I'->(∀i∈I',1<=i)->
  aD sl'<=450000000->p<=q'->q'<=p+400500000->DP b (PgQ p 900000000 400500000) (.ret (.agg [.sl (fF+1) 3 0 l.length])) (rdO b q'::U):=by
  intro U q' B' I' sl' hU hUF oB' hI' hz' h3 h4
  have hfr:∀j∈J1++J2++IA,(rdO b q'::U)[j]?=(rdO b (q+1+1+1)::T)[j]?:=λj hj=>by
   have hjm:j∈J1++(IA++IB++J2):=by simp only[WO] at hj⊢;rcases hj with(hj|hj)|hj<;>simp[hj]
   have hj3:=hI3 j hjm
   have hjl:=hltJ j hjm
   obtain⟨i,rfl⟩:∃i,j=i+1:=⟨j-1,by omega⟩
   rw[Xc,Xc]
   refine hU i (by omega) (by omega) (λe=>hn1 (e▸hjm)) λhm=>?_
   simp only[XI,WO] at hn2
   obtain⟨n1,⟨⟨n2,n3,n4⟩,n5,n6⟩,n7⟩:=hn2
   simp only[WO] at hj
   rcases hj with(hj|hj)|hj
   ·exact n7 _ hj _ (.inl (.inr hm)) rfl
   ·exact n6 _ (.inr hm) _ hj rfl
   ·exact n4 _ hj _ hm rfl
  have oR:=tM (s:=true) (w:=f.name) (oA.frame λi hi=>hfr i (by simp[hi])) oB'
  have oW:=r5 (rdO b q'::U) _ _ _ (λj hj=>hfr j (by simp only[WO] at hj⊢;exact .inl hj)) oR
  have hD':(l.map Fd.cs).set k (Fd.mk f.name f.params sl').cs=(l.set k ⟨f.name,f.params,sl'⟩).map Fd.cs:=by rw[List.map_set]
  have tree:=OwnL.sl (s:=true) (h:=rdO b q'::U) (fF+1) 3 l.length (rowsF.set k [.p (.str f.name),A,B']) ((l.map Fd.cs).set k (Fd.mk f.name f.params sl').cs) hUF (by simp) (by have:=(hF2 0).len;simpa using this) (λe he=>by
   rcases Xw he with h|rfl
   ·exact(hF2 0).rl e h
   ·rfl) (λe he=>by
   rcases Xw he with h|rfl
   ·exact(hF2 0).dl e h
   ·rfl) oW .nil
  rw[hD'] at tree
  have hsz:=Hg l k ⟨f.name,f.params,sl'⟩
  have hfz:f.sz=1+f.name.length+(f.params.length+(f.params.map List.length).sum)+aD f.body:=rfl
  have hfz':(Fd.mk f.name f.params sl').sz=1+f.name.length+(f.params.length+(f.params.map List.length).sum)+aD sl':=rfl
  refine Ny (l:=l.set k ⟨f.name,f.params,sl'⟩) tree (λi hi=>?_) (by omega) h3 h4
  simp only[WN,WO,XC,or_false] at hi
  rcases hi with rfl|hi|(hi|hi)|hi
  ·omega
  ·have:=hI3 i (by simp[hi]);omega
  ·have:=hI3 i (by simp[hi]);omega
  ·exact hI' i hi
  ·have:=hI3 i (by simp[hi]);omega
 have hset:rowsF.set k [.p (.str f.name),A,B]=rowsF:=by
  apply List.ext_getElem?
  intro i
  by_cases hi:k=i
  ·subst hi;rw[WT (WJ.1 r1).1,r1]
  ·rw[WM hi]
 have hf2:2<=fF:=by omega
 have s0:∀x,(T.set 0 x)[0]?=some x:=λx=>WT (by have:=(WJ.1 t0).1;omega)
 have hbz:f.sz=1+f.name.length+(f.params.length+(f.params.map List.length).sum)+aD f.body:=rfl
 simp-implicitDefEqProofs[aa,t0,t1,tF,r1,hkl]
 have fin0:∀q' x,p<=q'->q'<=p+400500000->DP b (PgQ p 900000000 400500000) (.ret (.agg [.sl (fF+1) 3 0 l.length])) (rdO b q'::T.set 0 x):=λq' x h3 h4=>
  finG (T.set 0 x) q' B IB f.body (λi h1 _ _ _=>WM (by omega)) (by rw[WM (by omega),hset];exact tF) (oB.frame λj hj=>by
   have:=hIB j hj
   obtain⟨i,rfl⟩:∃i,j=i+1:=⟨j-1,by omega⟩
   rw[Xc,Xc,WM (by omega)]) (λi hi=>by have:=hIB i hi;omega) (by omega) h3 h4
 rcases oB.inv nIB with⟨h0,_,rfl|rfl⟩|⟨h0,_⟩|⟨idB,rowsB,JB,rfl,rfl,hB⟩
 ·simp-implicitDefEqProofs[t0,t1,s0]
  exact fin0 _ _ (by omega) (by omega)
 ·simp-implicitDefEqProofs[t0,t1,s0]
  exact fin0 _ _ (by omega) (by omega)
 ·cases h0
 rw[Xp] at*
 by_cases hbe:f.body.length=0
 ·simp-implicitDefEqProofs[hbe,t0,t1,s0]
  have:=fin0 (q+1+1+1) (.row 1 [[.sl (fF+1) 3 0 l.length]]) (by omega) (by omega)
  exact this
 simp-implicitDefEqProofs[hbe,t0,t1,tF,r1]
 refine(bf G b hb hl (q+1+1+1) (by omega) f.body.length _).mono ?_
 rintro r h ⟨j,rfl,rfl,hj⟩
 have hjl:j<f.body.length:=by omega
 obtain⟨fB,rfl⟩:∃fB,idB=fB+1:=⟨idB-1,by have:=hIB idB (by simp);omega⟩
 have hB3:=hIB (fB+1) (by simp)
 have tB:T[fB]?=some (.row 5 rowsB):=hB.here
 have hgj:=WK hjl
 have hzj:=fm (WY hjl)
 have hok5:aK 4 f.body[j]=true:=by
  simp only[jV,WX] at hfk
  exact WU.1 hfk.2 _ (WY hjl)
 have hDj:(f.body.map Sm.cs)[j]?=some f.body[j].cs:=by rw[Xd,hgj];rfl
 generalize f.body[j]=sm at hgj hzj hok5 hDj
 obtain⟨rB,K1,Kj,K2,u1,rfl,u2,u5⟩:=hB.own.put hB.len hB.rl hB.dl hDj
 obtain⟨A1,B1,E1,I1,I2,I3,rfl,rfl,oA1,oB1,oE1⟩:=Rx u2
 simp-implicitDefEqProofs[aa,hjl,t0,t1,tF,r1,tB,u1]
 refine(Ht G hb hl (p:=q+1+1+1+1) (by omega) [[122,122],[97],[98],[99],[100]] (k:=T.length+1) (by simp) (by simp) (by omega) rfl (by simp[cb])).mono ?_
 rintro r h ⟨s,hs,rfl,rfl⟩
 have hs8:s.length<=8:=by simp at hs;rcases hs with rfl|rfl|rfl|rfl|rfl<;>simp
 have nB:=nIB
 rw[Xh] at nB
 have finS:∀(U:List AO) (q':Nat) (o':Int) (nm':List UInt8) (A':AV) (I':List Nat) (ar':List Ex),(∀i,2<=i->i<T.length->i≠fB->i+1∉I1->U[i]?=T[i]?)->U[fB]?=some (.row 5 (rowsB.set j [.p (.int .i64 o'),.p (.str nm'),A',B1,E1]))->OwnL true (rdO b q'::U) [A'] [exL ar'] I'->(∀i∈I',1<=i)->
  aJ ar'+nm'.length<=aJ sm.args+sm.name.length+1000->p<=q'->q'<=p+400500000->DP b (PgQ p 900000000 400500000) (.ret (.agg [.sl (fF+1) 3 0 l.length])) (rdO b q'::U):=by
  intro U q' o' nm' A' I' ar' hU hUB oA' hI' hz' h3 h4
  have hmem:∀x∈K1++K2++I2++I3,x∈K1++(I1++(I2++I3)++K2):=λx hx=>by
   simp only[WO] at hx⊢
   rcases hx with((hx|hx)|hx)|hx<;>simp[hx]
  have hltB:∀x∈K1++(I1++(I2++I3)++K2),x<T.length+1:=λx hx=>by have:=hB.own.lt hx;simpa using this
  have hfr:∀x∈K1++K2++I2++I3,(rdO b q'::U)[x]?=(rdO b (q+1+1+1)::T)[x]?:=λx hx=>by
   have hm:=hmem x hx
   have hx3:=hIB x (Xg _ hm)
   have hxl:=hltB x hm
   obtain⟨i,rfl⟩:∃i,x=i+1:=⟨x-1,by omega⟩
   rw[Xc,Xc]
   refine hU i (by omega) (by omega) (λe=>nB.1 (e▸hm)) λhm1=>?_
   have hn:=nB.2
   simp only[XI,WO] at hn
   obtain⟨n1,⟨⟨n2,⟨n3,n3',n3''⟩,n4⟩,n5,n6⟩,n7⟩:=hn
   simp only[WO] at hx
   rcases hx with((hx|hx)|hx)|hx
   ·exact n7 _ hx _ (.inl (.inl hm1)) rfl
   ·exact n6 _ (.inl hm1) _ hx rfl
   ·exact n4 _ hm1 _ (.inl hx) rfl
   ·exact n4 _ hm1 _ (.inr hx) rfl
  have oS:=Ru (s:=true) (o:=o') (w:=nm') oA' (oB1.frame λi hi=>hfr i (by simp[hi])) (oE1.frame λi hi=>hfr i (by simp[hi]))
  have oW:=u5 (rdO b q'::U) _ _ _ (λx hx=>hfr x (by simp only[WO] at hx⊢;exact .inl (.inl hx))) oS
  have hD':(f.body.map Sm.cs).set j (Sm.mk o' nm' ar' sm.body sm.els).cs=(f.body.set j ⟨o',nm',ar',sm.body,sm.els⟩).map Sm.cs:=by rw[List.map_set]
  have tree:=OwnL.sl (s:=true) (h:=rdO b q'::U) (fB+1) 5 f.body.length (rowsB.set j [.p (.int .i64 o'),.p (.str nm'),A',B1,E1]) ((f.body.map Sm.cs).set j (Sm.mk o' nm' ar' sm.body sm.els).cs) hUB (by simp) (by have:=hB.len;simpa using this) (λe he=>by
   rcases Xw he with h|rfl
   ·exact hB.rl e h
   ·rfl) (λe he=>by
   rcases Xw he with h|rfl
   ·exact hB.dl e h
   ·exact Sm.cs_len _) oW .nil
  rw[hD'] at tree
  have hsz:=Nd (s:=⟨o',nm',ar',sm.body,sm.els⟩) hgj
  have hsm:=sm.sz_eq
  have hsm':(Sm.mk o' nm' ar' sm.body sm.els).sz=1+nm'.length+aJ ar'+aD sm.body+aD sm.els:=rfl
  have hFB:fF≠fB:=λe=>hn1 (by rw[e];simp)
  have hFI:fF+1∉I1:=λhm=>hn1 (by simp[hm])
  have hFT:fF<T.length:=(WJ.1 tF).1
  refine finG U q' (.sl (fB+1) 5 0 f.body.length) _ (f.body.set j ⟨o',nm',ar',sm.body,sm.els⟩) (λi g1 g2 g3 g4=>hU i g1 g2 (λe=>g4 (by rw[e];simp)) λhm=>g4 (by simp[hm])) (by rw[hU fF hf2 hFT hFB hFI,hset];exact tF) tree (λi hi=>?_) (by omega) h3 h4
  simp only[WN,WO,XC,or_false] at hi
  rcases hi with rfl|hi|(hi|hi|hi)|hi
  ·omega
  ·have:=hIB i (by simp[hi]);omega
  ·exact hI' i hi
  ·have:=hIB i (by simp[hi]);omega
  ·have:=hIB i (by simp[hi]);omega
  ·have:=hIB i (by simp[hi]);omega
 have hTl:2<=T.length:=by have:=(WJ.1 t1).1;omega
 have hBT:fB<T.length:=(WJ.1 tB).1
 have hI1:∀i∈I1,3<=i/\i<T.length+1:=λi hi=>⟨hIB i (by simp[hi]),by have:=oA1.lt hi;simpa using this⟩
 have oA1u:∀(U:List AO) (q':Nat),(∀i,2<=i->i<T.length->i+1∈I1->U[i]?=T[i]?)->OwnL true (rdO b q'::U) [A1] [exL sm.args] I1:=λU q' hU=>oA1.frame λx hx=>by
  obtain⟨h3,h4⟩:=hI1 x hx
  obtain⟨i,rfl⟩:∃i,x=i+1:=⟨x-1,by omega⟩
  rw[Xc,Xc]
  exact hU i (by omega) (by omega) hx
 have hsmz:=sm.sz_eq
 have finU:∀(U:List AO) (q':Nat),(∀i,2<=i->i<T.length->U[i]?=T[i]?)->p<=q'->q'<=p+400500000->DP b (PgQ p 900000000 400500000) (.ret (.agg [.sl (fF+1) 3 0 l.length])) (rdO b q'::U):=λU q' hU h3 h4=>
  finS U q' sm.op sm.name A1 I1 sm.args (λi a1 a2 _ _=>hU i a1 a2) (by rw[hU fB (by omega) hBT,FM u1];exact tB) (oA1u U q' λi a1 a2 _=>hU i a1 a2) (λi hi=>by have:=(hI1 i hi).1;omega) (by omega) h3 h4
 have a0:∀os,(T++os)[0]?=some (.row 1 [[.nils]]):=λos=>by rw[WI (WJ.1 t0).1];exact t0
 have a1:∀os,(T++os)[1]?=some (.row 1 [[.sl (fF+1) 3 0 l.length]]):=λos=>by rw[WI (WJ.1 t1).1];exact t1
 have aF:∀os,(T++os)[fF]?=some (.row 3 rowsF):=λos=>by rw[WI (WJ.1 tF).1];exact tF
 have aB:∀os,(T++os)[fB]?=some (.row 5 (rowsB)):=λos=>by rw[WI (WJ.1 tB).1];exact tB
 simp-implicitDefEqProofs[aa]
 refine(bf G b hb hl (q+1+1+1+1+1) (by omega) 4 _).mono ?_
 rintro r h ⟨k3,rfl,rfl,_⟩
 have nI1:I1.Nodup:=(XI.1 (XI.1 (XI.1 nB.2).2.1).1).1
 have hargs:0<sm.args.length:=by
  simp only[aK,gq,WX,decide_eq_true_eq] at hok5
  have:=hok5.1.1.1.1.1.1.1.1.2
  rw[this];unfold jW;split<;>omega
 have hA0:sm.args.map Ex.cs≠[]:=by intro h;rw[List.map_eq_nil_iff] at h;rw[h] at hargs;simp at hargs
 obtain⟨idA,rowsA,JA,rfl,rfl,hA⟩:∃id rows J,A1= .sl id 4 0 sm.args.length/\I1=id::J/\RowOwn true (rdO b (q+1+1+1)::T) id 4 rows (sm.args.map Ex.cs) J:=by
  rcases oA1.inv nI1 with⟨h0,_⟩|⟨h0,_⟩|⟨id,rows,J,e1,e2,e3⟩
  ·exact absurd h0 hA0
  ·cases h0
  ·rw[Xp] at e1;exact⟨id,rows,J,e1,e2,e3⟩
 obtain⟨fA,rfl⟩:∃fA,idA=fA+1:=⟨idA-1,by have:=(hI1 idA (by simp)).1;omega⟩
 have hA3:=hI1 (fA+1) (by simp)
 have tA:T[fA]?=some (.row 4 rowsA):=hA.here
 have aA:∀os,(T++os)[fA]?=some (.row 4 rowsA):=λos=>by rw[WI (by omega)];exact tA
 have hg0:=WK hargs
 have hz0:=bU (WY hargs)
 have hD0:(sm.args.map Ex.cs)[0]?=some sm.args[0].cs:=by rw[Xd,hg0];rfl
 generalize sm.args[0]=e0 at hg0 hz0 hD0
 obtain⟨r0,L1,L0,L2,g1,rfl,g3,g5⟩:=hA.own.put hA.len hA.rl hA.dl hD0
 obtain⟨K0,rfl,_⟩:=IL g3
 have nA:=nI1
 rw[Xh] at nA
 have finA:∀(U:List AO) (q':Nat) (o n:Int) (w:List UInt8) (K:AV) (IK:List Nat) (ks:List Ex),(∀i,2<=i->i<T.length->i≠fA->U[i]?=T[i]?)->U[fA]?=some (.row 4 (rowsA.set 0 [.p (.int .i64 o),.p (.int .i64 n),.p (.str w),K]))->OwnL true (rdO b q'::U) [K] [exL ks] IK->(∀i∈IK,1<=i)->
  (Ex.mk o n w ks).sz<=500->p<=q'->q'<=p+400500000->DP b (PgQ p 900000000 400500000) (.ret (.agg [.sl (fF+1) 3 0 l.length])) (rdO b q'::U):=by
  intro U q' o n w K IK ks hU hUA oK hIK hz' h3 h4
  have hfr:∀x∈L1++L2,(rdO b q'::U)[x]?=(rdO b (q+1+1+1)::T)[x]?:=λx hx=>by
   have hm:x∈L1++(L0++L2):=by
    simp only[WO] at hx⊢
    rcases hx with hx|hx
    ·exact .inl hx
    ·exact .inr (.inr hx)
   obtain⟨hx3,hx4⟩:=hI1 x (Xg _ hm)
   obtain⟨i,rfl⟩:∃i,x=i+1:=⟨x-1,by omega⟩
   rw[Xc,Xc]
   exact hU i (by omega) (by omega) λe=>nA.1 (e▸hm)
  have oW:=g5 (rdO b q'::U) _ _ _ hfr (OW (o:=o) (n:=n) (w:=w) oK)
  have hD':(sm.args.map Ex.cs).set 0 (Ex.mk o n w ks).cs=(sm.args.set 0 ⟨o,n,w,ks⟩).map Ex.cs:=by rw[List.map_set]
  have tree:=OwnL.sl (s:=true) (h:=rdO b q'::U) (fA+1) 4 sm.args.length (rowsA.set 0 [.p (.int .i64 o),.p (.int .i64 n),.p (.str w),K]) ((sm.args.map Ex.cs).set 0 (Ex.mk o n w ks).cs) hUA (by simp) (by have:=hA.len;simpa using this) (λe he=>by
   rcases Xw he with h|rfl
   ·exact hA.rl e h
   ·rfl) (λe he=>by
   rcases Xw he with h|rfl
   ·exact hA.dl e h
   ·exact Ex.cs_len _) oW .nil
  rw[hD'] at tree
  have hsz:=Mn sm.args 0 ⟨o,n,w,ks⟩
  have hBA:fB≠fA:=λe=>nB.1 (by rw[e];simp)
  refine finS U q' sm.op sm.name (.sl (fA+1) 4 0 sm.args.length) _ (sm.args.set 0 ⟨o,n,w,ks⟩) (λi g1 g2 _ g4=>hU i g1 g2 λe=>g4 (by rw[e];simp)) (by rw[hU fB (by omega) hBT hBA,FM u1];exact tB) tree (λi hi=>?_) (by omega) h3 h4
  simp only[WN,WO,XC,or_false] at hi
  rcases hi with rfl|hi|hi|hi
  ·omega
  ·have:=(hI1 i (by simp[hi])).1;omega
  ·exact hIK i hi
  ·have:=(hI1 i (by simp[hi])).1;omega
 have w0:∀os x,((T++os).set 0 x)[0]?=some x:=λos x=>WT (by simp only[Xa];omega)
 have v0:∀os x,((T++os).set fA x)[0]?=some (.row 1 [[.nils]]):=λos x=>by rw[WM (by omega)];exact a0 os
 have v1:∀os x,((T++os).set fA x)[1]?=some (.row 1 [[.sl (fF+1) 3 0 l.length]]):=λos x=>by rw[WM (by omega)];exact a1 os
 have v2:∀os x y,(((T++os).set fA x).set 0 y)[0]?=some y:=λos x y=>WT (by simp only[XB,Xa];omega)
 have hv:∀os x y (i:Nat),2<=i->i<T.length->i≠fA->(((T++os).set fA x).set 0 y)[i]?=T[i]?:=λos x y i h1 h2 h3=>by
  rw[WM (by omega),WM (by omega),WI h2]
 have aE:∀x y os,(T++x::y::os)[T.length+1]?=some y:=λx y os=>by rw[WP (by omega),XL];rfl
 have aE2:∀x y z os,(T++x::y::os).set (T.length+1) z=T++x::z::os:=λx y z os=>by rw[List.set_append_right _ _ (by omega),XL];rfl
 by_cases c1:k3=1
 ·subst c1
  simp-implicitDefEqProofs[aa, ↓a0, ↓a1, ↓aF, ↓aB,u1,hjl]
  refine aO (λhn=>?_) (λhn=>?_)
  ·simp-implicitDefEqProofs[]
   refine(Ht G hb hl (p:=q+1+1+1+1+1+1) (by omega) [[97],[98],[122,122],[99],[100]] (k:=T.length+2+1) (by simp) (by simp) (by omega) rfl (by simp[cb])).mono ?_
   rintro r h ⟨s2,hs2,rfl,rfl⟩
   have hs28:s2.length<=8:=by simp at hs2;rcases hs2 with rfl|rfl|rfl|rfl|rfl<;>simp
   have v0:∀os x,((T++os).set fB x)[0]?=some (.row 1 [[.nils]]):=λos x=>by rw[WM (by omega)];exact a0 os
   have v1:∀os x,((T++os).set fB x)[1]?=some (.row 1 [[.sl (fF+1) 3 0 l.length]]):=λos x=>by rw[WM (by omega)];exact a1 os
   have v2:∀os x y,(((T++os).set fB x).set 0 y)[0]?=some y:=λos x y=>WT (by simp only[XB,Xa];omega)
   simp-implicitDefEqProofs[aa, ↓a0, ↓a1, ↓aF, ↓aB,u1,hjl, ↓v0, ↓v1, ↓v2,-getElem?_pos,List.getElem?_cons_zero,Xc]
   have hv:∀os x y (i:Nat),2<=i->i<T.length->i≠fB->(((T++os).set fB x).set 0 y)[i]?=T[i]?:=λos x y i h1 h2 h3=>by
    rw[WM (by omega),WM (by omega),WI h2]
   refine finS _ _ sm.op s2 (.sl (fA+1) 4 0 sm.args.length) _ sm.args ?_ ?_ (oA1u _ _ ?_) (λi hi=>by have:=(hI1 i hi).1;omega) (by omega) (by omega) (by omega)
   ·intro i h1 h2 h3 _;exact hv _ _ _ i h1 h2 h3
   ·rw[WM (by omega),WT (by simp only[Xa];omega)]
   ·intro i h1 h2 h3
    exact hv _ _ _ i h1 h2 (λe=>nB.1 (by rw[←e];simp only[WO];exact .inr (.inl (.inl h3))))
  ·simp-implicitDefEqProofs[↓a0, ↓a1, ↓w0,-getElem?_pos,List.getElem?_cons_zero,Xc]
   refine finU _ _ ?_ (by omega) (by omega)
   intro i h1 h2
   rw[WM (by omega),WI h2]
 by_cases c2:k3=2
 ·subst c2
  have hw:∀(q':Nat) (os:List AO),OwnL true (rdO b q'::(T++os)) [.sl (fB+1) 5 0 f.body.length] [smL f.body] ((fB+1)::(K1++(((fA+1)::(L1++(L0++L2)))++(I2++I3)++K2))):=λq' os=>oB.frame λx hx=>by
   have h3:=hIB x hx
   have h4:x<T.length+1:=by have:=oB.lt hx;simpa using this
   obtain⟨i,rfl⟩:∃i,x=i+1:=⟨x-1,by omega⟩
   rw[Xc,Xc,WI (by omega)]
  have hv1:∀(q':Nat) (os:List AO),View (rdO b q'::(T++os)) (.sl (fB+1) 5 0 1) (smL (f.body.take 1)):=λq' os=>by
   have:=Nt (m:=1) ((hw q' os).view 0 _ _ rfl rfl) (by simp;omega)
   rw[←List.map_take] at this
   exact this
  have hz1:aD (f.body.take 1)<=aD f.body:=by
   have e:f.body=f.body.take 1++f.body.drop 1:=(Xm _ _).symm
   have:aD f.body=aD (f.body.take 1)+aD (f.body.drop 1):=by rw[←aW,←e]
   omega
  have hS:=Eb G _ (f.body.take 1) (Nat.lt_succ_self _) (by omega)
  simp-implicitDefEqProofs[aa, ↓a0, ↓a1, ↓aF, ↓aB,r1,hkl]
  refine⟨by omega,?_⟩
  refine(AC.mkLend tV hS (.one (hv1 _ _) .nil)).mono ?_
  rintro r h ⟨vs,IN,os2,rfl,rfl,oN,nN,hN⟩
  obtain⟨vN,rfl⟩:=gQ oN
  have hl1:(f.body.take 1).length=1:=by rw[Xi];omega
  have hneN:(f.body.take 1).map Sm.cs≠[]:=by intro h;rw[List.map_eq_nil_iff] at h;rw[h] at hl1;simp at hl1
  obtain⟨idN,rowsN,JN,rfl,rfl,hRN⟩:∃id rows J,vN= .sl id 5 0 1/\IN=id::J/\RowOwn true _ id 5 rows ((f.body.take 1).map Sm.cs) J:=by
   rcases oN.inv nN with⟨h0,_⟩|⟨h0,_⟩|⟨id,rows,J,e1,e2,e3⟩
   ·exact absurd h0 hneN
   ·cases h0
   ·rw[Xp,hl1] at e1;exact⟨id,rows,J,e1,e2,e3⟩
  have hidN:=hN idN (by simp)
  simp at hidN
  obtain⟨fN,rfl⟩:∃fN,idN=fN+1:=⟨idN-1,by omega⟩
  have hFT:fF<T.length:=(WJ.1 tF).1
  have tN:=hRN.here
  simp only[Xu,Xx,Xc,List.nil_append] at tN
  have hrN:rowsN.length=1:=by have:=hRN.len;rw[Xp,hl1] at this;exact this
  have hrB:rowsB.length=f.body.length:=by have:=hB.len;simpa using this
  have z1:∀os o y,((T++os).set fB o++y)[fF]?=some (.row 3 rowsF):=λos o y=>by
   rw[WI (by simp only[XB,Xa];omega),WM (λe=>hn1 (by rw[←e];simp))];exact aF os
  have z2:∀os o y x,(((T++os).set fB o++y).set fF x)[0]?=some (.row 1 [[.nils]]):=λos o y x=>by
   rw[WM (by omega),WI (by simp only[XB,Xa];omega),WM (by omega)];exact a0 os
  have z3:∀os o y x,(((T++os).set fB o++y).set fF x)[1]?=some (.row 1 [[.sl (fF+1) 3 0 l.length]]):=λos o y x=>by
   rw[WM (by omega),WI (by simp only[XB,Xa];omega),WM (by omega)];exact a1 os
  have z4:∀os o y x w,((((T++os).set fB o++y).set fF x).set 0 w)[0]?=some w:=λos o y x w=>WT (by simp only[XB,Xa];omega)
  simp-implicitDefEqProofs[aa,dZ, ↓a0, ↓a1, ↓aF, ↓aB, ↓tN, ↓z1, ↓z2, ↓z3, ↓z4,r1,hkl,hrN,hrB,-getElem?_pos,List.getElem?_cons_zero,Xc]
  rw[WQ (l:=rowsB) (by omega),WQ (l:=rowsN) (by omega)]
  have hbl:=bI f.body
  refine⟨⟨by omega,by omega⟩,?_⟩
  have hJB:∀x∈K1++(((fA+1)::(L1++(L0++L2)))++(I2++I3)++K2),3<=x/\x<T.length+1/\x≠fF+1/\x≠fB+1:=λx hx=>⟨hIB x (Xg _ hx),by have:=hB.own.lt hx;simpa using this,λe=>hn1 (by rw[←e];simp only[WO];exact .inr (.inl (.inr (Xg _ hx)))),λe=>nB.1 (e▸hx)⟩
  have hJN:∀x∈JN,T.length+3<=x/\x<T.length+3+os2.length:=λx hx=>⟨by have:=hN x (by simp[hx]);simp at this;omega,by have:=hRN.own.lt hx;simp at this;omega⟩
  have nle:∀(W:List AO) (fo bo:AO) (x y:AO),∀i,2<=i->i<T.length->i≠fF->i≠fB->(((((T++W).set fB bo)++[y]).set fF fo).set 0 x)[i]?=T[i]?:=λW fo bo x y i h1 h2 h3 h4=>by
   rw[WM (by omega),WM (by omega),WI (by simp only[XB,Xa];omega),WM (by omega),WI h2]
  have nri:∀(W:List AO) (fo bo:AO) (x y:AO),∀i,T.length<=i->i<(T++W).length->(((((T++W).set fB bo)++[y]).set fF fo).set 0 x)[i]?=(T++W)[i]?:=λW fo bo x y i h1 h2=>by
   rw[WM (by omega),WM (by omega),WI (by simpa using h2),WM (by omega)]
  have hbl2:=bI f.body
  have hzN:aD (f.body++f.body.take 1)<=400000000:=by rw[aW];omega
  refine finG _ _ (.sl (T.length+(os2.length+1+1)+1) 5 0 (f.body.length+1)) ((T.length+(os2.length+1+1)+1)::((K1++(((fA+1)::(L1++(L0++L2)))++(I2++I3)++K2))++JN++[])) (f.body++f.body.take 1) (λi g1 g2 g3 g4=>nle _ _ _ _ _ i g1 g2 g3 (λe=>g4 (by rw[e];simp))) ?_ ?_ ?_ (by omega) (by omega) (by omega)
  ·rw[WM (by omega),WT (by simp only[XB,Xa];omega)]
  ·refine OwnL.sl _ 5 (f.body.length+1) (rowsB++rowsN) ((f.body++f.body.take 1).map Sm.cs) ?_ (by rw[Xp,Xa,hl1]) (by rw[Xa,Xp,Xa,hl1,hrB,hrN]) (λe he=>?_) (λe he=>by obtain⟨x,_,rfl⟩:=Xl.1 he;simp) ?_ .nil
   ·rw[Xc,WM (by omega),WM (by omega),WP (by simp)]
    simp
   ·rcases WO.1 he with h|h
    ·exact hB.rl e h
    ·exact hRN.rl e h
   ·rw[List.map_append,XK,XK]
    refine(hB.own.frame λx hx=>?_).app (hRN.own.frame λx hx=>?_)
    ·obtain⟨x1,x2,x3,x4⟩:=hJB x hx
     obtain⟨i,rfl⟩:∃i,x=i+1:=⟨x-1,by omega⟩
     rw[Xc,Xc]
     exact nle _ _ _ _ _ i (by omega) (by omega) (by omega) (by omega)
    ·obtain⟨x1,x2⟩:=hJN x hx
     obtain⟨i,rfl⟩:∃i,x=i+1:=⟨x-1,by omega⟩
     simp only[Xu,Xx,Xc,List.nil_append]
     exact nri _ _ _ _ _ i (by omega) (by simp;omega)
  ·intro i hi
   simp only[WN,WO,XC,or_false] at hi
   rcases hi with rfl|hi|hi
   ·omega
   ·have:=(hJB i (by simp only[WN,WO];exact hi)).1;omega
   ·have:=(hJN i hi).1;omega
 by_cases c0:k3=0
 ·subst c0
  simp-implicitDefEqProofs[aa]
  refine(Ht G hb hl (p:=q+1+1+1+1+1+1) (by omega) [[102],[103],[109],[113]] (k:=T.length+2+1) (by simp) (by simp) (by omega) rfl (by simp[cb])).mono ?_
  rintro r h ⟨s2,hs2,rfl,rfl⟩
  have hs28:s2.length<=8:=by simp at hs2;rcases hs2 with rfl|rfl|rfl|rfl<;>simp
  simp-implicitDefEqProofs[aa, ↓a0, ↓a1, ↓aB,u1,hjl, ↓aE, ↓aE2,-getElem?_pos,List.getElem?_cons_zero,Xc]
  refine aO (λhn=>?_) (λhn=>?_)
  ·simp-implicitDefEqProofs[↓a0, ↓a1, ↓aB, ↓aA,u1,hjl,g1,hargs, ↓v0, ↓v1, ↓v2, ↓aE,-getElem?_pos,List.getElem?_cons_zero,Xc]
   refine finA _ _ 13 0 s2 (.sl (T.length+3+1) 4 0 1) [T.length+3+1] [⟨1,1,[],[]⟩] (λi h1 h2 h3=>hv _ _ _ i h1 h2 h3) ?_ ?_ (by simp) (by simp[Ex.sz,aJ];omega) (by omega) (by omega)
   ·rw[WM (by omega),WT (by simp only[Xa];omega)]
   ·refine RowOwn.tree (rows:=[[.p (.int .i64 1),.p (.int .i64 1),.p (.str []),.nils]]) (J:=[]) ⟨?_,rfl,by simp,by simp,?_,by simp⟩ rfl
    ·rw[Xc,WM (by omega),WM (by omega),WP (by omega),XL];rfl
    ·simpa using OW (s:=true) (o:=1) (n:=1) (w:=[]) (k:=[]) (.nils 4 .nil)
  ·simp-implicitDefEqProofs[↓a0, ↓a1, ↓w0,-getElem?_pos,List.getElem?_cons_zero,Xc]
   refine finU _ _ ?_ (by omega) (by omega)
   intro i h1 h2
   rw[WM (by omega),WI h2]
 have d1:¬(k3:Int)=1:=by omega
 have d2:¬(k3:Int)=2:=by omega
 simp-implicitDefEqProofs[aa,c0,d1,d2, ↓a0, ↓a1, ↓aF, ↓aB,u1,hjl]
 refine aO (λhn=>?_) (λhn=>?_)
 ·simp-implicitDefEqProofs[↓a0, ↓a1, ↓aB, ↓aA,u1,hjl,g1,hargs, ↓v0, ↓v1, ↓v2, ↓aE,-getElem?_pos,List.getElem?_cons_zero,Xc]
  refine finA _ _ 2 0 s .nils [] [] (λi h1 h2 h3=>hv _ _ _ i h1 h2 h3) ?_ (.nils 4 .nil) (by simp) (by simp[Ex.sz,aJ];omega) (by omega) (by omega)
  rw[WM (by omega),WT (by simp only[Xa];omega)]
 ·simp-implicitDefEqProofs[↓a0, ↓a1, ↓w0,-getElem?_pos,List.getElem?_cons_zero,Xc]
  refine finU _ _ ?_ (by omega) (by omega)
  intro i h1 h2
  rw[WM (by omega),WI h2]
end
section
variable (G:aL)
theorem Nf{ρ:List Nat}:∀{args:List AV},az 0 args->TW ρ args args
 |[],_=>trivial
 |v::r,h=>⟨.inr ⟨(aT (Xr _) [v] ⟨h.1,trivial⟩).1,by have:=dN ρ [v] ⟨h.1,trivial⟩;simpa[br] using this⟩,Nf h.2⟩
theorem PM{f:FuncId}{args:List AV}{b:List Int}{p:Nat}{Q:AV->Nat->Prop}(H:AC Tryz.prog G f (.ptr 0 2 0 0::args) [rdO b p] λx h=>∃v q,x= .ret v/\h=[rdO b q]/\Q v q)(hq:∀v q,Q v q->below 0 v){h:List AO}{k:Nat}(hk:h[k]?=some (rdO b p))(ha:az 0 args):
 AC Tryz.prog G f (.ptr k 2 0 0::args) h λx h'=>∃v q,x= .ret v/\h'=h.set k (rdO b q)/\Q v q:=by
 refine(H.frame (h:=h) (args:= .ptr k 2 0 0::args) [k] (by simp) ⟨.inr ⟨by simp[below],by simp[ren]⟩,Nf ha⟩ (bQ hk (bv _ _ _) bJ)).mono ?_
 rintro x h' ⟨x0,h0,⟨v,q,rfl,rfl,r⟩,hl,rfl,rfl⟩
 refine⟨v,q,?_,?_,r⟩
 ·simp only[Ce]
  have:=dN ([k]++List.range' h.length ([rdO b q].length-[rdO b p].length)) [v] ⟨hq v q r,trivial⟩
  simpa[br] using this
 ·have hp2:∀σ,gU σ (rdO b q)=rdO b q:=λσ=>by simp[rdO,gU,br,ren]
  simp[mrg,hp2]
theorem NP{l:List Int}(h:Byt l)(n:Nat):Byt (l.take n):=λx hx=>h x (List.mem_of_mem_take hx)
theorem Hb{f:FuncId}{args:List AV}{R:ARes->Prop}(H:AC Tryz.prog G f args [] λx _=>R x)(hR:∀x,R x->∃v,x= .ret v/\below 0 v)(ha:az 0 args)(h:List AO):AC Tryz.prog G f args h λx h'=>R x/\h'=h:=by
 have H2:AC Tryz.prog G f args [] λx h'=>R x/\h'=[]:=by
  refine H.wk (λt v h' r=>by obtain⟨_,e,_⟩:=hR _ r;cases e) λv h' r=>?_
  obtain⟨v',e,hv⟩:=hR _ r
  cases e
  exact⟨v,[],OM rfl ⟨.inr ⟨hv,rfl⟩,trivial⟩,r,rfl⟩
 refine(H2.pre h ha (λo ho=>by cases ho) (λx h' r=>by rw[r.2])).mono ?_
 rintro x h' ⟨h1,⟨r,rfl⟩,rfl⟩
 exact⟨r,rfl⟩
variable (hK:G iQ=some gV) (hS:G dJ=some [.tbl opK opV])
include hK hS
end
section
abbrev Wds:=List (List UInt8)
mutual
def nmE(op:Int):Ex->Wds->Wds
 | .mk o _ s ks,out=>iI op ks (if o=op/\s∉out then out++[s] else out)
def iI(op:Int):List Ex->Wds->Wds
 |[],out=>out
 |e::r,out=>iI op r (nmE op e out)
end
mutual
def clS:Sm->Wds->Wds
 | .mk _ _ a b e,out=>ig e (ig b (iI 13 a out))
def ig:List Sm->Wds->Wds
 |[],out=>out
 |s::r,out=>ig r (clS s out)
end
def Ak(l:List Fd)(bd:List Sm)(k:Nat):List Nat:=(List.range k).filter λi=>match l[i]? with|some g=>decide (g.name∈ig bd [])|none=>false
def uS(l:List Fd)(k:Int):List Nat:=if cm l=0/\inR k 0 ((l.length:Int)-1)=true then(match l[k.toNat]? with|some f=>Ak l f.body k.toNat|none=>[]) else[]
theorem SM(op:Int)(e:Ex)(out:Wds):nmE op e out=iI op e.kids (if e.op=op/\e.name∉out then out++[e.name] else out):=by cases e;rfl
theorem SF(s:Sm)(out:Wds):clS s out=ig s.els (ig s.body (iI 13 s.args out)):=by cases s;rfl
theorem FY(op:Int):∀(a b:List Ex) (out:Wds),iI op (a++b) out=iI op b (iI op a out)
 |[],b,out=>rfl
 |e::r,b,out=>by rw[Xu,iI,iI,FY op r]
theorem DQ{op:Int}{l:List Ex}{out:Wds}{i:Nat}(h:i<l.length):iI op (l.take (i+1)) out=nmE op l[i] (iI op (l.take i) out):=by
 rw[an h,FY];rfl
theorem Fv:∀(a b:List Sm) (out:Wds),ig (a++b) out=ig b (ig a out)
 |[],b,out=>rfl
 |e::r,b,out=>by rw[Xu,ig,ig,Fv r]
theorem KJ{l:List Sm}{out:Wds}{i:Nat}(h:i<l.length):ig (l.take (i+1)) out=clS l[i] (ig (l.take i) out):=by
 rw[an h,Fv];rfl
theorem LL(l:List Ex)(i:Nat):aJ (l.take i)<=aJ l:=by
 have e:aJ l=aJ (l.take i)+aJ (l.drop i):=by rw[←aZ,Xm]
 omega
theorem Kt{l:List Ex}{i:Nat}(h:i<l.length):aJ (l.take i)+l[i].sz<=aJ l:=by
 have e:aJ l=aJ (l.take i)+aJ (l.drop i):=by rw[←aZ,Xm]
 rw[List.drop_eq_getElem_cons h] at e
 simp only[aJ] at e
 omega
mutual
theorem Qm(op:Int):∀(e:Ex) (out:Wds),(nmE op e out).length<=out.length+e.sz
 | .mk o _ s ks,out=>by
   have h:=pZ op ks (if o=op/\s∉out then out++[s] else out)
   have h2:(if o=op/\s∉out then out++[s] else out).length<=out.length+1:=by split<;>simp
   rw[nmE,Ex.sz];omega
theorem pZ(op:Int):∀(l:List Ex) (out:Wds),(iI op l out).length<=out.length+aJ l
 |[],out=>by simp[iI,aJ]
 |e::r,out=>by
  have h1:=Qm op e out
  have h2:=pZ op r (nmE op e out)
  rw[iI,aJ];omega
end
mutual
theorem QZ:∀(s:Sm) (out:Wds),(clS s out).length<=out.length+s.sz
 | .mk _ _ a b e,out=>by
   have h1:=pZ 13 a out
   have h2:=nK b (iI 13 a out)
   have h3:=nK e (ig b (iI 13 a out))
   rw[clS,Sm.sz];omega
theorem nK:∀(l:List Sm) (out:Wds),(ig l out).length<=out.length+aD l
 |[],out=>by simp[ig,aD]
 |s::r,out=>by
  have h1:=QZ s out
  have h2:=nK r (clS s out)
  rw[ig,aD];omega
end
theorem AP:AK.whole lQ=FK.ak lP:=rfl
variable (G:aL)
theorem Ff(l:Wds)(s:List UInt8)(hl:l.length<=1099511627776):VF Tryz.prog G kW [.p (aN l),.p (.str s)] (.p (.bool (decide (s∈l)))):=by
 refine AC.go EY ?_
 have hsl:∀l,aN l= .lst 1 (l.map λw=>[.str w]):=λ_=>rfl
 simp-implicitDefEqProofs[vf,hsl]
 refine aM (λi:Nat=>aC 18 [(0,.p (aN l)),(1,.p (.str s)),(5,.p (.int .i64 i))]) (λ_=>[]) (λi=>i<=l.length/\s∉l.take i) (λi=>l.length-i) 0 (by simp) (bg rfl (by simp[below,hsl])) ?_
 rintro i ⟨hi,hn⟩
 simp-implicitDefEqProofs[hsl]
 refine aO (λh=>?_) (λh=>?_)
 ·simp at h
  have hg:=WK h
  have hmem:=WY h
  have htk:=an h
  generalize l[i]=w at hg hmem htk
  by_cases he:w=s
  ·have hm:s∈l:=he▸hmem
   simp-implicitDefEqProofs[hg,he,hm]
  ·simp-implicitDefEqProofs[hg,he]
   refine⟨i+1,⟨h,λhp=>?_⟩,by omega,bg rfl (by simp[below,hsl,w1 (i:=i) (by omega)])⟩
   rw[htk] at hp
   rcases WO.1 hp with hp|hp
   ·exact hn hp
   ·rw[WR] at hp;exact he hp.symm
 ·simp at h
  rw[WQ h] at hn
  simp-implicitDefEqProofs[hn]
theorem BP{f:FuncId}{args:List AV}{l l':Wds}(H:AC Tryz.prog G f (args++[.sl 0 1 0 l.length]) [cb l] λx h=>x= .ret (.sl 1 1 0 l'.length)/\h=[.dead,cb l'])(ha:az 0 args){h:List AO}{id:Nat}(e:h[id]?=some (cb l)):
 AC Tryz.prog G f (args++[.sl id 1 0 l.length]) h λx h'=>x= .ret (.sl h.length 1 0 l'.length)/\h'=h.set id .dead++[cb l']:=by
 have hTW:TW [id] (args++[.sl id 1 0 l.length]) (args++[.sl 0 1 0 l.length]):=by
  clear H
  induction args with
  |nil=>simp[below,ren]
  |cons v r ih=>
   rw[Xu,Xu,uu]
   refine⟨.inr ⟨(aT (Xr _) [v] ⟨ha.1,trivial⟩).1,?_⟩,ih ha.2⟩
   have:=dN [id] [v] ⟨ha.1,trivial⟩
   simpa[br] using this
 refine(H.frame [id] (by simp) hTW (bQ e (λx hx=>bD l x hx) bJ)).mono ?_
 rintro x h' ⟨x0,h0,⟨rfl,rfl⟩,_,rfl,rfl⟩
 refine⟨?_,?_⟩
 ·simp[Ce,ren]
 ·have hp:∀σ,gU σ (cb l')=cb l':=λσ=>by simp[cb,gU,br,ren]
  simp only[Xb,XA,List.take_succ_cons,List.take_zero,Xj,XG,List.drop_succ_cons,List.drop_zero,hp,mrg]
  rfl
theorem KQ:∀(N:Nat) (e:Ex),e.sz<=N->∀(op:Int) (out:Wds),out.length+e.sz<=1099511627776->
 AC Tryz.prog G eY [.agg (e.cs.map .p),.p (.int .i64 op),.sl 0 1 0 out.length] [cb out] λx h=>x= .ret (.sl 1 1 0 (nmE op e out).length)/\h=[.dead,cb (nmE op e out)]:=by
 intro N
 induction N with
 |zero=>intro e he;have:=e.sz_eq;omega
 |succ N ih=>
  intro e he op out hb
  have hec:=e.cs_eq
  have hsz:=e.sz_eq
  have hkl:=bm e.kids
  rw[SM]
  have key:AC Tryz.prog G eY [.agg (e.cs.map .p),.p (.int .i64 op),.sl 0 1 0 out.length] [cb out] λx h=>∃r,∃out',out'=iI op e.kids (if e.op=op/\e.name∉out then out++[e.name] else out)/\x= .ret (.sl 2 1 0 out'.length)/\h= .dead::r::[cb out']:=by
   refine AC.goK BB AP ?_
   have hso:∀l,cb l= .row 1 (l.map λn=>[.p (.str n)]):=λ_=>rfl
   have hbox:∀o:AO,o= .row 4 [[.p (.int .i64 e.op),.p (.int .i64 e.n),.p (.str e.name),.p (exL e.kids)]]->okO 0 o:=λo h=>by rw[h];simp[okO,below]
   simp-implicitDefEqProofs[lQ,lP,hec]
   obtain⟨out1,ho1⟩:∃out1,out1=(if e.op=op/\e.name∉out then out++[e.name] else out):=⟨_,rfl⟩
   rw[←ho1]
   have hol1:out1.length<=out.length+1:=by rw[ho1];split<;>simp
   refine oe (aC 40 [(1,.p (.int .i64 op)),(2,.sl 2 1 0 out1.length),(3,.ptr 1 4 0 0)]) [.dead,.row 4 [[.p (.int .i64 e.op),.p (.int .i64 e.n),.p (.str e.name),.p (exL e.kids)]],cb out1] ?_ ?_
   ·by_cases ho:e.op=op
    ·by_cases hm:e.name∈out
     ·have h1:out1=out:=by rw[ho1,if_neg (λh=>h.2 hm)]
      simp-implicitDefEqProofs[ho]
      refine((Ff G out e.name (by omega)).lend (.one (eC rfl) (.keep (by simp) .nil)) rfl).mono ?_
      rintro r h ⟨rfl,rfl⟩
      simp-implicitDefEqProofs[aa,hm]
      rw[h1]
      exact ur [0,1,0] (by simp) (by decide) (by simp[ib,cb]) (bX (by simp) (bQ rfl (by simp[okO]) (bQ rfl (λx hx=>bD out x hx) bJ))) (by simp[below,ren])
     ·have h1:out1=out++[e.name]:=by rw[ho1,if_pos ⟨ho,hm⟩]
      simp-implicitDefEqProofs[ho]
      refine((Ff G out e.name (by omega)).lend (.one (eC rfl) (.keep (by simp) .nil)) rfl).mono ?_
      rintro r h ⟨rfl,rfl⟩
      simp-implicitDefEqProofs[aa,hm,hso]
      refine⟨by omega,?_⟩
      have htk:List.take out.length (out.map λn=>[AV.p (.str n)])=out.map λn=>[AV.p (.str n)]:=WQ (by simp)
      have hl1:out1.length=out.length+1:=by rw[h1];simp
      rw[hl1,htk]
      refine dp [0,1,3] (by simp) (by decide) (by decide) (bX (by simp) (bQ rfl (by simp[okO]) (bQ ?_ (λx hx=>bD out1 x hx) bJ))) (by simp[below,ren])
      rw[h1];simp
    ·have h1:out1=out:=by rw[ho1,if_neg (λh=>ho h.1)]
     simp-implicitDefEqProofs[ho]
     rw[h1]
     exact ur [0,1,0] (by simp) (by decide) (by simp[ib,cb]) (bX (by simp) (bQ rfl (by simp[okO]) (bQ rfl (λx hx=>bD out x hx) bJ))) (by simp[below,ren])
   have hxl:exL e.kids= .lst 4 (e.kids.map Ex.cs):=rfl
   simp-implicitDefEqProofs[]
   refine aM (λi:Nat=>aC 40 [(1,.p (.int .i64 op)),(2,.sl 2 1 0 (iI op (e.kids.take i) out1).length),(3,.ptr 1 4 0 0),(7,.p (.int .i64 i))])
    (λi=>[.dead,.row 4 [[.p (.int .i64 e.op),.p (.int .i64 e.n),.p (.str e.name),.p (exL e.kids)]],cb (iI op (e.kids.take i) out1)])
    (λi=>i<=e.kids.length) (λi=>e.kids.length-i) 0 (by simp) ?_ ?_
   ·exact al (by simp) (au trivial (au (cJ (hbox _ rfl)) (au (cJ (bD _)) dq))) (by simp[below,iI])
   ·intro i hi
    have hl2:=pZ op (e.kids.take i) out1
    have hzt:=LL e.kids i
    simp-implicitDefEqProofs[hxl]
    refine aO (λh=>?_) (λh=>?_)
    ·simp at h
     have hg:=WK h
     have hks:=bU (WY h)
     have hT:=DQ (op:=op) (out:=out1) h
     have hzt2:=Kt h
     generalize hcur:iI op (e.kids.take i) out1=cur at hl2 hT
     generalize e.kids[i]=c at hg hks hT hzt2
     simp-implicitDefEqProofs[hg]
     refine(BP G (args:=[.agg (c.cs.map .p),.p (.int .i64 op)]) (ih c (by omega) op cur (by omega)) (by simp[below]) (id:=2) rfl).mono ?_
     rintro r h ⟨rfl,rfl⟩
     simp-implicitDefEqProofs[aa]
     refine⟨i+1,h,by omega,?_⟩
     rw[hT]
     exact dp [0,1,3] (by simp) (by decide) (by decide) (bX (by simp) (bQ rfl (by simp[okO]) (bQ rfl (λx hx=>bD _ x hx) bJ))) (by simp[below,ren,w1 (i:=i) (by omega)])
    ·simp at h
     have hie:i=e.kids.length:=by omega
     subst hie
     rw[Xk]
     simp-implicitDefEqProofs[]
  refine key.wk (λt v h ⟨_,_,_,e,_⟩=>by cases e) ?_
  rintro v h ⟨r,out',rfl,e,rfl⟩
  cases e
  exact⟨_,_,Wk.of [0,2] (by simp) (λi hi=>by simp at hi;subst hi;rfl) (by decide) (by simp[below,ren]) (bX (by simp) (bQ rfl (λx hx=>bD _ x hx) bJ)),rfl,rfl⟩
theorem KD:∀(N:Nat) (l:List Sm),aD l<N->∀out:Wds,out.length+aD l<=1099511627776->
 AC Tryz.prog G fe [.p (smL l),.sl 0 1 0 out.length] [cb out] λx h=>x= .ret (.sl 1 1 0 (ig l out).length)/\h=[.dead,cb (ig l out)]:=by
 intro N
 induction N with
 |zero=>intro l hl;omega
 |succ N ih=>
  intro l hl out hb
  have hll:=bI l
  have hsl:∀l,smL l= .lst 5 (l.map Sm.cs):=λ_=>rfl
  have hxl:∀l,exL l= .lst 4 (l.map Ex.cs):=λ_=>rfl
  refine AC.go AR ?_
  simp-implicitDefEqProofs[pQ]
  refine aM (λi:Nat=>aC 47 [(0,.p (smL l)),(1,.sl 1 1 0 (ig (l.take i) out).length),(5,.p (.int .i64 i))]) (λi=>[.dead,cb (ig (l.take i) out)]) (λi=>i<=l.length) (λi=>l.length-i) 0 (by simp) ?_ ?_
  ·exact ur [0,0] (by simp) (by simp) (by simp[ib,cb]) (bX (by simp) (bQ rfl (λx hx=>bD out x hx) bJ)) (by simp[below,ren,ig,hsl])
  ·intro i hi
   have hl2:=nK (l.take i) out
   simp-implicitDefEqProofs[hsl]
   refine aO (λh=>?_) (λh=>?_)
   ·simp at h
    have hg:=WK h
    have hat:=KA h
    have hT:=KJ (out:=out) h
    have hse:=l[i].cs_eq
    have hsz:=l[i].sz_eq
    have hcl:=SF l[i]
    generalize ig (l.take i) out=cur at hl2 hT⊢
    generalize l[i]=s at hg hat hT hse hsz hcl
    obtain⟨o,nme,a,bd,el⟩:=s
    simp only[Sm.op,Sm.name,Sm.args,Sm.body,Sm.els] at hse hsz hcl
    simp-implicitDefEqProofs[]
    refine aM (λj:Nat=>aC 47 [(0,.p (smL l)),(1,.sl 1 1 0 (iI 13 (a.take j) cur).length),(5,.p (.int .i64 i)),(6,.p (.int .i64 j))]) (λj=>[.dead,cb (iI 13 (a.take j) cur)]) (λj=>j<=a.length) (λj=>a.length-j) 0 (by simp) ?_ ?_
    ·exact al (by simp) (au trivial (au (cJ (bD _)) dq)) (by simp[below,iI,hsl])
    ·intro j hj
     have hl3:=pZ 13 (a.take j) cur
     have hal:=bm a
     simp-implicitDefEqProofs[hsl,hg,hse,hxl]
     refine aO (λhc=>?_) (λhc=>?_)
     ·simp at hc
      have hga:=WK hc
      have hzt:=Kt hc
      have hT2:=DQ (op:=13) (out:=cur) hc
      generalize iI 13 (a.take j) cur=cj at hl3 hT2⊢
      generalize a[j]=c at hga hzt hT2
      simp-implicitDefEqProofs[hg,hse,hsl,hxl,hga]
      refine(BP G (args:=[.agg (c.cs.map .p),.p (.int .i64 13)]) (KQ G c.sz c (WV _) 13 cj (by omega)) (by simp[below]) (id:=1) rfl).mono ?_
      rintro r h ⟨rfl,rfl⟩
      simp-implicitDefEqProofs[aa]
      refine⟨j+1,hc,by omega,?_⟩
      rw[hT2]
      exact dp [0,2] (by simp) (by decide) (by decide) (bX (by simp) (bQ rfl (λx hx=>bD _ x hx) bJ)) (by simp[below,ren,hsl,w1 (i:=j) (by omega)])
     ·simp at hc
      have hje:j=a.length:=by omega
      subst hje
      rw[Xk] at hl3⊢
      have hl4:=nK bd (iI 13 a cur)
      simp-implicitDefEqProofs[hg,hse]
      refine(BP G (args:=[.p (smL bd)]) (ih bd (by omega) (iI 13 a cur) (by omega)) (by simp[below]) (id:=1) rfl).mono ?_
      rintro r h ⟨rfl,rfl⟩
      simp-implicitDefEqProofs[aa,hg,hse,hsl]
      refine(BP G (args:=[.p (smL el)]) (ih el (by omega) (ig bd (iI 13 a cur)) (by omega)) (by simp[below]) (id:=2) rfl).mono ?_
      rintro r h ⟨rfl,rfl⟩
      simp-implicitDefEqProofs[aa]
      refine⟨i+1,h,by omega,?_⟩
      rw[hT,hcl]
      exact dp [0,3] (by simp) (by decide) (by decide) (bX (by simp) (bQ rfl (λx hx=>bD _ x hx) bJ)) (by simp[below,ren,hsl,w1 (i:=i) (by omega)])
   ·simp at h
    have hie:i=l.length:=by omega
    subst hie
    rw[Xk]
    simp-implicitDefEqProofs[]
def eS(l:List Fd)(bd:List Sm)(i:Nat):List Nat:=(List.range i).filter λi=>match l[i]? with|some g=>decide (g.name∈ig bd [])|none=>false
theorem EM(l:List Fd)(bd:List Sm)(i:Nat)(g:Fd)(hg:l[i]?=some g):eS l bd (i+1)=if g.name∈ig bd [] then eS l bd i++[i] else eS l bd i:=by
 rw[eS,List.range_succ,List.filter_append]
 simp only[List.filter_cons,List.filter_nil,hg]
 by_cases h:g.name∈ig bd []
 ·simp[h,eS]
 ·simp[h,eS]
theorem FJ(l:List Fd)(bd:List Sm)(i:Nat):(eS l bd i).length<=i:=by
 have:=List.length_filter_le (λi=>match l[i]? with|some g=>decide (g.name∈ig bd [])|none=>false) (List.range i)
 rw[List.length_range] at this
 exact this
theorem Ig{fns:List Fd}{k:Nat}{f:Fd}(hk:fns[k]?=some f)(hz:aY fns<=1073741824):VF Tryz.prog G gC [.agg [.p (fdL fns)],.p (.int .i64 k)] (.p (Ra (Ak fns f.body k))):=by
 have hfl:=dQ fns
 have hfm:=ff (WW hk)
 have hfz:f.sz=1+f.name.length+(f.params.length+(f.params.map List.length).sum)+aD f.body:=rfl
 have hkl:=(WJ.1 hk).1
 have hcn:Ak fns f.body k=eS fns f.body k:=rfl
 have hlc:=nK f.body []
 have key:AC Tryz.prog G gC [.agg [.p (fdL fns)],.p (.int .i64 k)] [] λx h=>x= .ret (.sl 3 1 0 (eS fns f.body k).length)/\h[3]?=some (EV (eS fns f.body k)):=by
  refine AC.go zH ?_
  have hfd:∀l,fdL l= .lst 3 (l.map Fd.cs):=λ_=>rfl
  have hcs:f.cs=[.str f.name,aN f.params,smL f.body]:=rfl
  have hno:∀l,EV l= .row 1 (l.map λ(n:Nat)=>[.p (.int .i64 (n:Int))]):=λ_=>rfl
  simp-implicitDefEqProofs[pc,hfd,hk,hcs]
  have hst0:AO.row 1 []=cb []:=rfl
  refine(BP G (args:=[.p (smL f.body)]) (l:=[]) (KD G (aD f.body+1) f.body (by omega) [] (by simp;omega)) (by simp[below]) (id:=1) rfl).mono ?_
  rintro r h ⟨rfl,rfl⟩
  simp-implicitDefEqProofs[aa]
  generalize hnm:ig f.body []=nm at hlc
  refine aM (λi:Nat=>aC 35 [(1,.p (.int .i64 k)),(2,.ptr 0 1 0 0),(5,.sl 2 1 0 nm.length),(6,.sl 3 1 0 (eS fns f.body i).length),(7,.p (.int .i64 i))]) (λi=>[.row 1 [[.p (.lst 3 (fns.map Fd.cs))]],.dead,cb nm,EV (eS fns f.body i)]) (λi=>i<=k) (λi=>k-i) 0 (by simp) ?_ ?_
  ·exact al (h:=[.row 1 [[.p (.lst 3 (fns.map Fd.cs))]],.dead,cb nm,.row 1 []]) (by simp) (au (by simp[okO,below]) (au trivial (au (cJ (bD _)) (au (by simp[okO]) dq)))) (by simp[below,eS])
  ·intro i hi
   have hcl:=FJ fns f.body i
   simp-implicitDefEqProofs[]
   refine aO (λh=>?_) (λh=>?_)
   ·simp at h
    have hil:i<fns.length:=by omega
    have hg:=WK hil
    generalize fns[i]=g at hg
    have hS:=EM fns f.body i g hg
    rw[hnm] at hS
    have hgs:g.cs=[.str g.name,aN g.params,smL g.body]:=rfl
    simp-implicitDefEqProofs[hg,hgs]
    refine((Ff G nm g.name (by simp at hlc;omega)).lend (.one (eC rfl) (.keep (by simp) .nil)) rfl).mono ?_
    rintro r h ⟨rfl,rfl⟩
    generalize eS fns f.body i=c at hcl hS⊢
    by_cases hm:g.name∈nm
    ·rw[if_pos hm] at hS
     simp-implicitDefEqProofs[aa,hm,hno]
     refine⟨by omega,i+1,h,by omega,?_⟩
     have htk:List.take c.length (c.map λ(n:Nat)=>[AV.p (.int .i64 (n:Int))])=c.map λ(n:Nat)=>[AV.p (.int .i64 (n:Int))]:=WQ (by simp)
     rw[hS,htk,List.map_append]
     refine Hj [0,1,2,5] rfl (by decide) (bq rfl (by simp) (bX (by simp) (bQ rfl (λx hx=>bD _ x hx) (bq rfl (λx hx=>?_) bJ)))) (by simp[below,ren,w1 (i:=i) (by omega)])
     rcases WO.1 hx with h|h
     ·exact yY _ x h
     ·exact yY _ x h
    ·rw[if_neg hm] at hS
     simp-implicitDefEqProofs[aa,hm]
     refine⟨i+1,h,by omega,?_⟩
     rw[hS]
     exact al (h:=[.row 1 [[.p (.lst 3 (fns.map Fd.cs))]],.dead,cb nm,EV c]) (by simp) (au (by simp[okO,below]) (au trivial (au (cJ (bD _)) (au (cJ (yY _)) dq)))) (by simp[below,w1 (i:=i) (by omega)])
   ·simp at h
    have hie:i=k:=by omega
    subst hie
    simp-implicitDefEqProofs[]
 rw[hcn]
 refine key.freezeR (λt v h ⟨e,_⟩=>by cases e) λv h ⟨e1,e2⟩=>?_
 cases e1
 exact .one (DV e2) .nil
theorem IW(l:List Fd)(hz:aY l<=1073741824)(k:Int):VF Tryz.prog G gx [.agg [.p (fdL l)],.p (.int .i64 k)] (.p (Ra (uS l k))):=by
 have hll:=dQ l
 have hfl:fdL l= .lst 3 (l.map Fd.cs):=rfl
 have hw:IntKind.i64.wrap ((l.length:Int)-1)=(l.length:Int)-1:=ab (by omega) (by omega)
 by_cases hc:cm l=0/\inR k 0 ((l.length:Int)-1)=true
 case neg=>
  have hcb:uS l k=[]:=if_neg hc
  rw[hcb]
  have key:AC Tryz.prog G gx [.agg [.p (fdL l)],.p (.int .i64 k)] [] λx h=>x= .ret (.sl 1 1 0 0)/\h[1]?=some (EV []):=by
   refine AC.go pk ?_
   simp-implicitDefEqProofs[kj]
   refine(Bi G l hz).use ?_
   by_cases h0:cm l=0
   case neg=>
    simp-implicitDefEqProofs[h0,EV]
   simp-implicitDefEqProofs[h0,hfl,hw]
   rw[←hfl]
   refine(cI G _ _ _).use ?_
   have h1':inR k 0 ((l.length:Int)-1)=false:=by
    cases e:inR k 0 ((l.length:Int)-1) with
    |false=>rfl
    |true=>exact absurd ⟨h0,e⟩ hc
   rw[h1']
   simp-implicitDefEqProofs[EV]
  refine key.freezeR (λt v h ⟨e,_⟩=>by cases e) λv h ⟨e1,e2⟩=>?_
  cases e1
  exact .one (DV e2) .nil
 obtain⟨h0,h1⟩:=hc
 have hk:0<=k/\k<=(l.length:Int)-1:=by simpa[inR] using h1
 obtain⟨n,rfl⟩:∃n:Nat,k=n:=⟨k.toNat,by omega⟩
 have hn:n<l.length:=by omega
 have hg:=WK hn
 have hcb:uS l n=Ak l l[n].body n:=by rw[uS,if_pos ⟨h0,h1⟩];simp only[Int.toNat_natCast,hg]
 rw[hcb]
 refine AC.go pk ?_
 simp-implicitDefEqProofs[kj]
 refine(Bi G l hz).use ?_
 simp-implicitDefEqProofs[h0,hfl,hw]
 rw[←hfl]
 refine(cI G _ _ _).use ?_
 rw[h1]
 simp-implicitDefEqProofs[]
 refine(Ig G hg hz).use ?_
 simp-implicitDefEqProofs[]
end
section
theorem sj:AK.whole fT=FK.ak fS:=rfl
variable (G:aL)
def DrK(n:Nat)(x:ARes):Prop:=∃(l:List Fd) (k:Int),x= .ret (.tup [.agg [.p (fdL l)],.p (.int .i64 k)])/\aY l<=n
theorem Gd{n:Nat}:∀x,DrK n x->∃v,x= .ret v/\below 0 v:=λx ⟨l,k,e,_⟩=>⟨_,e,by simp[below]⟩
structure DkS where (l:List Fd) (q i:Nat)
theorem Ck(code:List Int)(hb:Byt code):AC Tryz.prog G gd [.p (uh code)] [] λx _=>DrK 900000000 x:=by
 refine AC.goK sq sj ?_
 simp-implicitDefEqProofs[fT,fS]
 refine(AC.lift (RQ G code) (by simp) rfl rfl).mono ?_
 rintro r h ⟨rfl,rfl⟩
 have hr:∀n,dj n (rdO (code.take 2000) 0)=rdO (code.take 2000) 0:=λn=>by simp[rdO,dj,dK,cz]
 have hbt:=NP hb 2000
 have hbl:(code.take 2000).length<=2000:=by rw[Xi];omega
 generalize code.take 2000=b at hr hbt hbl
 simp-implicitDefEqProofs[aa,cz,hr]
 refine(PM G (Oe G hbt hbl (p:=0) (by omega)) (λv q ⟨⟨l,e,_⟩,_⟩=>by rw[e];simp[below]) (h:=[.row 1 [[.nils]],rdO b 0]) (k:=1) rfl trivial).mono ?_
 rintro r h ⟨v,q,rfl,rfl,⟨l,rfl,hz⟩,hq1,hq2⟩
 simp-implicitDefEqProofs[aa]
 have hok:∀(q:Nat) (l:List Fd),∀o∈[AO.row 1 [[.nils]],rdO b q,.row 1 [[.p (fdL l)]]],okO 3 o:=λq l=>au (by simp[okO,below]) (au (bv _ _ _) (au (by simp[okO,below]) dq))
 refine lB (λ_:DkS=>aC 49 [(2,.ptr 0 1 0 0),(4,.ptr 1 2 0 0),(5,.ptr 2 1 0 0)]) (λs=>[.row 1 [[.nils]],rdO b s.q,.row 1 [[.p (fdL s.l)]]]) (λs=>aY s.l<=900000000/\s.q<=5000000000) ?_ ?_
 ·simp-implicitDefEqProofs[]
  refine aM (λs:DkS=>aC 49 [(2,.ptr 0 1 0 0),(4,.ptr 1 2 0 0),(5,.ptr 2 1 0 0),(6,.p (.int .i64 s.i))]) (λs=>[.row 1 [[.nils]],rdO b s.q,.row 1 [[.p (fdL s.l)]]]) (λs=>s.i<=6/\aY s.l<=900000000/\s.q<=400500000+s.i*200000010) (λs=>6-s.i) ⟨l,q,0⟩ ⟨by simp,hz,by simp only[Nat.zero_mul];omega⟩ ?_ ?_
  ·exact al (h:=[AO.row 1 [[.nils]],rdO b q,.row 1 [[.p (fdL l)]]]) (by simp) (hok q l) (by simp[below])
  rintro⟨l,q,i⟩ ⟨hi,hz,hq⟩
  simp only at hi hz hq
  have hll:=dQ l
  have hfl:fdL l= .lst 3 (l.map Fd.cs):=rfl
  have hwl:IntKind.i64.wrap ((l.length:Int)-1)=(l.length:Int)-1:=ab (by omega) (by omega)
  by_cases h6:i<6
  case neg=>
   have h6':¬(i:Int)<6:=by omega
   simp-implicitDefEqProofs[h6']
   exact⟨⟨l,q,0⟩,⟨hz,by simp only;omega⟩,al (h:=[AO.row 1 [[.nils]],rdO b q,.row 1 [[.p (fdL l)]]]) (by simp) (hok q l) (by simp[below])⟩
  have h6':(i:Int)<6:=by omega
  simp-implicitDefEqProofs[h6']
  refine(PM G (Q:=λv q2=>∃k:Nat,v= .p (.int .i64 k)/\q2=q+1) ((NK G b hbt hbl q (by omega) 8).mono λx h ⟨k,e1,e2,_⟩=>⟨_,_,e1,e2,k,rfl,rfl⟩) (λv q ⟨k,e,_⟩=>by rw[e];simp[below]) (h:=[.row 1 [[.nils]],rdO b q,.row 1 [[.p (fdL l)]]]) (k:=1) rfl (by simp[below])).mono ?_
  rintro r h ⟨v,q2,rfl,rfl,k,rfl,rfl⟩
  simp-implicitDefEqProofs[aa]
  refine aO (λhk=>?_) (λhk=>?_)
  rotate_left
  ·exact⟨⟨l,q+1,0⟩,⟨hz,by simp only;omega⟩,al (h:=[AO.row 1 [[.nils]],rdO b (q+1),.row 1 [[.p (fdL l)]]]) (by simp) (hok (q+1) l) (by simp[below])⟩
  refine oe (aC 49 [(2,.ptr 0 1 0 0),(4,.ptr 1 2 0 0),(5,.ptr 2 1 0 0),(6,.p (.int .i64 i))]) [.row 1 [[.nils]],rdO b (q+1),.row 1 [[.p (fdL l)]]] ?_ ?_
  rotate_left
  ·simp-implicitDefEqProofs[]
   refine(PM G (Q:=λv q2=>(∃l:List Fd,v= .agg [.p (fdL l)]/\aY l<=200000000)/\q2<=q+1+200000000) ((Ia G hbt hbl (p:=q+1) (by omega)).mono λx h ⟨l,q,e1,e2,_,e4,_,e6⟩=>⟨_,q,e1,e2,⟨l,rfl,e4⟩,e6⟩) (λv q ⟨⟨l,e,_⟩,_⟩=>by rw[e];simp[below]) (h:=[.row 1 [[.nils]],rdO b (q+1),.row 1 [[.p (fdL l)]]]) (k:=1) rfl (by simp)).mono ?_
   rintro r h ⟨v,q2,rfl,rfl,⟨l2,rfl,hz2⟩,hq2⟩
   simp-implicitDefEqProofs[aa]
   have hwi:=w1 (i:=i) (by omega)
   exact⟨⟨l2,q2,i+1⟩,⟨h6,by simp only;omega,by simp only;omega⟩,by simp only;omega,al (h:=[AO.row 1 [[.nils]],rdO b q2,.row 1 [[.p (fdL l2)]]]) (by simp) (hok q2 l2) (by simp[below,hwi])⟩
  simp-implicitDefEqProofs[hfl,hwl]
  rw[←hfl]
  refine aM (λm:Nat=>aC 49 [(2,.ptr 0 1 0 0),(4,.ptr 1 2 0 0),(5,.ptr 2 1 0 0),(6,.p (.int .i64 i)),(7,.p (.int .i64 ((m:Int)-1)))]) (λ_=>[.row 1 [[.nils]],rdO b (q+1),.row 1 [[.p (fdL l)]]]) (λm=>m<=l.length) (λm=>m) l.length (WV _) ?_ ?_
  ·exact al (h:=[AO.row 1 [[.nils]],rdO b (q+1),.row 1 [[.p (fdL l)]]]) (by simp) (hok (q+1) l) (by simp[below])
  intro m hm
  simp-implicitDefEqProofs[]
  refine aO (λhm1=>?_) (λhm1=>?_)
  ·simp at hm1
   have hwm:IntKind.i64.wrap ((m:Int)-1-1)=(m:Int)-1-1:=ab (by omega) (by omega)
   have hcb:=IW G l (by omega) ((m:Int)-1)
   have hnl:∀l,Ra l= .lst 1 (l.map λ(n:Nat)=>[.int .i64 (n:Int)]):=λ_=>rfl
   simp-implicitDefEqProofs[]
   refine hcb.use ?_
   simp-implicitDefEqProofs[hnl]
   refine aO (λhc=>?_) (λhc=>?_)
   ·simp-implicitDefEqProofs[]
    exact⟨l,_,rfl,hz⟩
   ·simp-implicitDefEqProofs[]
    exact⟨m-1,by omega,by omega,al (h:=[AO.row 1 [[.nils]],rdO b (q+1),.row 1 [[.p (fdL l)]]]) (by simp) (hok (q+1) l) (by simp[below];omega)⟩
  ·exact al (h:=[AO.row 1 [[.nils]],rdO b (q+1),.row 1 [[.p (fdL l)]]]) (by simp) (hok (q+1) l) (by simp[below])
 ·rintro⟨l,q,i⟩ ⟨hz,hq⟩
  simp only at hz hq
  have hll:=dQ l
  have hfl:fdL l= .lst 3 (l.map Fd.cs):=rfl
  have hw:IntKind.i64.wrap ((l.length:Int)-1)=(l.length:Int)-1:=ab (by omega) (by omega)
  simp-implicitDefEqProofs[hfl,hw]
  refine(PM G (args:=[.p (bG [(l.length:Int)-1,0,1,-1,l.length])]) (Q:=λv q2=>∃n:Int,v= .p (.int .i64 n)/\q2=q+1) ((Ep G hbt hbl (p:=q) (by omega) _ (by simp) (by simp) []).mono λx h ⟨n,_,e1,e2⟩=>⟨_,_,e1,e2,n,rfl,rfl⟩) (λv q ⟨k,e,_⟩=>by rw[e];simp[below]) (k:=1) rfl (by simp[below])).mono ?_
  rintro r h ⟨v,q2,rfl,rfl,n,rfl,rfl⟩
  simp-implicitDefEqProofs[aa]
  exact⟨l,n,rfl,hz⟩
def Fd.more(f:Fd):Fd:=⟨f.name,f.params,f.body++[⟨1,[122,113],[⟨1,0,[],[]⟩],[],[]⟩]⟩
variable (hK:G iQ=some gV) (hS:G dJ=some [.tbl opK opV])
include hK hS
end
section
theorem DI:∀a b:List Ex,cf (a++b)=cf a+cf b
 |[],b=>by simp[cf]
 |e::r,b=>by rw[Xu,cf,cf,DI r b,XR]
theorem tz{l:List Ex}{i:Nat}(h:i<l.length):cf (l.take (i+1))=cf (l.take i)+um l[i]:=by rw[an h,DI,cf,cf];rfl
theorem Dw:∀a b:List Sm,ce (a++b)=ce a+ce b
 |[],b=>by simp[ce]
 |e::r,b=>by rw[Xu,ce,ce,Dw r b,XR]
theorem Jl{l:List Sm}{i:Nat}(h:i<l.length):ce (l.take (i+1))=ce (l.take i)+ER l[i]:=by rw[an h,Dw,ce,ce];rfl
variable (G:aL)
theorem NO:∀(N:Nat) (e:Ex),e.sz<=N->N<=1099511627776->VF Tryz.prog G jR [.agg (e.cs.map .p)] (.p (.int .i64 (um e))):=by
 intro N
 induction N with
 |zero=>intro e h;have:=e.sz_eq;omega
 |succ N ih=>
  intro e h hN
  have hc:=e.cs_eq
  have hz:=e.sz_eq
  have hkl:=bm e.kids
  have hxl:exL e.kids= .lst 4 (e.kids.map Ex.cs):=rfl
  have hae:=QX e
  obtain⟨n0,hn0⟩:∃n0:Nat,n0=if e.op=10 then 1 else 0:=⟨_,rfl⟩
  rw[←hn0] at hae
  have hn1:n0<=1:=by rw[hn0];split<;>omega
  have hle:=ke e.kids
  refine AC.go Dk ?_
  obtain⟨bo,hbo⟩:∃bo,bo=AO.row 4 [[.p (.int .i64 e.op),.p (.int .i64 e.n),.p (.str e.name),.p (.lst 4 (e.kids.map Ex.cs))]]:=⟨_,rfl⟩
  have main:AKW Tryz.prog G 0 (.skip) [] [] (λ_ _ _=>True):=trivial
  have loop:∀(Q:Aw.AX->List AV->List AO->Prop),True:=λ_=>trivial
  by_cases ho:e.op=10
  ·rw[if_pos ho] at hn0
   subst hn0
   simp-implicitDefEqProofs[nn,hc,ho,hxl]
   refine aM (λi:Nat=>aC 22 [(12,.p (.int .i64 i)),(11,.p (.int .i64 e.kids.length)),(10,.p (.lst 4 (e.kids.map Ex.cs))),(3,.p (.int .i64 ((1+cf (e.kids.take i):Nat))))]) (λ_=>[]) (λi=>i<=e.kids.length) (λi=>e.kids.length-i) 0 (Xr _) (bg rfl (by simp[below,cf])) ?_
   intro i hi
   simp-implicitDefEqProofs[]
   refine aO (λhc1=>?_) (λhc1=>?_)
   ·simp at hc1
    have hg:=WK hc1
    have htk:=tz hc1
    have hmz:=bU (WY hc1)
    have hka:=Ab e.kids[i]
    have hle2:=ke (e.kids.take i)
    have hcall:=ih e.kids[i] (by omega) (by omega)
    have hzz:aJ (e.kids.take i)<=aJ e.kids:=by
     have:=aZ (e.kids.take i) (e.kids.drop i)
     rw[Xm] at this
     omega
    generalize e.kids[i]=k at*
    have hkc:=k.cs_eq
    rw[hkc] at hcall
    obtain⟨M,hM⟩:∃M,M=cf (e.kids.take i):=⟨_,rfl⟩
    rw[←hM] at htk hle2⊢
    have hw:IntKind.i64.wrap (1+(M:Int)+(um k:Int))=1+(cf (e.kids.take (i+1)):Int):=by rw[ab (by omega) (by omega)];omega
    simp-implicitDefEqProofs[hg,hkc]
    refine hcall.use ?_
    simp-implicitDefEqProofs[hw]
    exact⟨i+1,by omega,by omega,bg rfl (by simp[below,w1 (i:=i) (by omega)])⟩
   ·simp at hc1
    rw[WQ hc1]
    simp-implicitDefEqProofs[hae]
  ·rw[if_neg ho] at hn0
   subst hn0
   simp-implicitDefEqProofs[nn,hc,ho,hxl]
   refine aM (λi:Nat=>aC 22 [(12,.p (.int .i64 i)),(11,.p (.int .i64 e.kids.length)),(10,.p (.lst 4 (e.kids.map Ex.cs))),(3,.p (.int .i64 (cf (e.kids.take i))))]) (λ_=>[]) (λi=>i<=e.kids.length) (λi=>e.kids.length-i) 0 (Xr _) (bg rfl (by simp[below,cf])) ?_
   intro i hi
   simp-implicitDefEqProofs[]
   refine aO (λhc1=>?_) (λhc1=>?_)
   ·simp at hc1
    have hg:=WK hc1
    have htk:=tz hc1
    have hmz:=bU (WY hc1)
    have hka:=Ab e.kids[i]
    have hle2:=ke (e.kids.take i)
    have hcall:=ih e.kids[i] (by omega) (by omega)
    have hzz:aJ (e.kids.take i)<=aJ e.kids:=by
     have:=aZ (e.kids.take i) (e.kids.drop i)
     rw[Xm] at this
     omega
    generalize e.kids[i]=k at*
    have hkc:=k.cs_eq
    rw[hkc] at hcall
    obtain⟨M,hM⟩:∃M,M=cf (e.kids.take i):=⟨_,rfl⟩
    rw[←hM] at htk hle2⊢
    have hw:IntKind.i64.wrap ((M:Int)+(um k:Int))=(cf (e.kids.take (i+1)):Int):=by rw[ab (by omega) (by omega)];omega
    simp-implicitDefEqProofs[hg,hkc]
    refine hcall.use ?_
    simp-implicitDefEqProofs[hw]
    exact⟨i+1,by omega,by omega,bg rfl (by simp[below,w1 (i:=i) (by omega)])⟩
   ·simp at hc1
    rw[WQ hc1]
    simp-implicitDefEqProofs[hae]
theorem ES:∀(N:Nat) (l:List Sm),aD l<=N->N<=1099511627776->VF Tryz.prog G dt [.p (smL l)] (.p (.int .i64 (ce l))):=by
 intro N
 induction N with
 |zero=>
  intro l hl _
  have:l=[]:=by
   cases l with
   |nil=>rfl
   |cons s r=>have:=s.sz_eq;simp only[aD] at hl;omega
  subst this
  refine AC.go mM ?_
  have hsl:smL []= .lst 5 []:=rfl
  simp-implicitDefEqProofs[iG,hsl]
  refine aM (λ_:Unit=>aC 49 [(8,.p (.lst 5 [])),(9,.p (.int .i64 0)),(3,.p (.int .i64 0)),(10,.p (.int .i64 0))]) (λ_=>[]) (λ_=>True) (λ_=>0) () trivial (bg rfl (by simp[below])) ?_
  intro _ _
  simp-implicitDefEqProofs[ce]
 |succ N ih=>
  intro l hl hN
  have hll:=bI l
  have hsl:∀l,smL l= .lst 5 (l.map Sm.cs):=λ_=>rfl
  have hxl:∀l,exL l= .lst 4 (l.map Ex.cs):=λ_=>rfl
  refine AC.go mM ?_
  simp-implicitDefEqProofs[iG,hsl]
  refine aM (λi:Nat=>aC 49 [(10,.p (.int .i64 i)),(9,.p (.int .i64 l.length)),(8,.p (.lst 5 (l.map Sm.cs))),(3,.p (.int .i64 (ce (l.take i))))]) (λ_=>[]) (λi=>i<=l.length) (λi=>l.length-i) 0 (Xr _) (bg rfl (by simp[below,ce])) ?_
  intro i hi
  simp-implicitDefEqProofs[]
  refine aO (λhc=>?_) (λhc=>?_)
  ·simp at hc
   have hg:=WK hc
   have hmz:=fm (WY hc)
   have htk:=Jl hc
   have hle:=lK (l.take i)
   have hzz:aD (l.take i)<=aD l:=by
    have:=aW (l.take i) (l.drop i)
    rw[Xm] at this
    omega
   generalize l[i]=s at hg hmz htk
   have hsc:=s.cs_eq
   have hsz:=s.sz_eq
   have hbe:=Ql s
   have hb:=ih s.body (by omega) (by omega)
   have he:=ih s.els (by omega) (by omega)
   have hbl:=lK s.body
   have hel:=lK s.els
   have hal:=ke s.args
   have hgl:=bm s.args
   obtain⟨M,hM⟩:∃M,M=ce (l.take i):=⟨_,rfl⟩
   rw[←hM] at htk hle⊢
   rw[hsl] at hb he
   simp-implicitDefEqProofs[hg,hsc,hxl,hsl]
   refine aM (λj:Nat=>aC 49 [(17,.p (.int .i64 j)),(16,.p (.int .i64 s.args.length)),(15,.p (.lst 4 (s.args.map Ex.cs))),(5,.ptr 0 5 0 0),(10,.p (.int .i64 i)),(9,.p (.int .i64 l.length)),(8,.p (.lst 5 (l.map Sm.cs))),(3,.p (.int .i64 ((M+2*cf (s.args.take j):Nat))))]) (λ_=>[.row 5 [[.p (.int .i64 s.op),.p (.str s.name),.p (.lst 4 (s.args.map Ex.cs)),.p (.lst 5 (s.body.map Sm.cs)),.p (.lst 5 (s.els.map Sm.cs))]]]) (λj=>j<=s.args.length) (λj=>s.args.length-j) 0 (Xr _) (aq (by simp) (by simp[below,cf])) ?_
   intro j hj
   simp-implicitDefEqProofs[]
   refine aO (λhc2=>?_) (λhc2=>?_)
   ·simp at hc2
    have hg2:=WK hc2
    have htk2:=tz hc2
    have hmz2:=bU (WY hc2)
    have hka:=Ab s.args[j]
    have hle2:=ke (s.args.take j)
    have hzz2:aJ (s.args.take j)<=aJ s.args:=by
     have:=aZ (s.args.take j) (s.args.drop j)
     rw[Xm] at this
     omega
    have hcall:=NO G (aJ s.args) s.args[j] hmz2 (by omega)
    generalize s.args[j]=k at*
    have hkc:=k.cs_eq
    rw[hkc] at hcall
    obtain⟨A,hA⟩:∃A,A=cf (s.args.take j):=⟨_,rfl⟩
    rw[←hA] at htk2 hle2⊢
    have hw1:IntKind.i64.wrap (2*(um k:Int))=2*(um k:Int):=ab (by omega) (by omega)
    have hw2:IntKind.i64.wrap ((M:Int)+2*(A:Int)+2*(um k:Int))=(M:Int)+2*(cf (s.args.take (j+1)):Int):=by rw[ab (by omega) (by omega)];omega
    simp-implicitDefEqProofs[hg2,hkc]
    refine hcall.use ?_
    simp-implicitDefEqProofs[hw1,hw2]
    exact⟨j+1,by omega,by omega,dv (m:=1) (by omega) (bT rfl rfl (by simp[okO,below])) (by simp[below,w1 (i:=j) (by omega)])⟩
   ·simp at hc2
    rw[WQ hc2]
    obtain⟨A,hA⟩:∃A,A=cf s.args:=⟨_,rfl⟩
    rw[←hA] at hbe hal⊢
    have hn2:ce (l.take (i+1))=M+ER s:=htk
    have fin:∀(q:Nat),(if s.op=5\/s.op=6 then 3 else if s.op=7 then 1 else 0)=q->q<=3/\IntKind.i64.wrap ((M:Int)+2*(A:Int)+(q:Int)+(ce s.body:Int))=(M:Int)+2*(A:Int)+(q:Int)+(ce s.body:Int)/\IntKind.i64.wrap ((M:Int)+2*(A:Int)+(q:Int)+(ce s.body:Int)+(ce s.els:Int))=(ce (l.take (i+1)):Int):=λq hq=>by
     have hq3:q<=3:=by rw[←hq];split;omega;split<;>omega
     rw[hq] at hbe
     exact⟨hq3,ab (by omega) (by omega),by rw[ab (by omega) (by omega)];omega⟩
    have hwi:=w1 (i:=i) (by omega)
    by_cases o5:s.op=5
    ·obtain⟨_,f1,f2⟩:=fin 3 (by rw[if_pos (.inl o5)])
     have w0:IntKind.i64.wrap ((M:Int)+2*(A:Int)+3)=(M:Int)+2*(A:Int)+3:=ab (by omega) (by omega)
     simp only[Int.cast_ofNat_Int] at f1 f2
     simp-implicitDefEqProofs[o5,w0]
     refine hb.use ?_
     simp-implicitDefEqProofs[f1]
     refine he.use ?_
     simp-implicitDefEqProofs[f2]
     exact⟨i+1,by omega,by omega,bg rfl (by simp[below,hwi])⟩
    by_cases o6:s.op=6
    ·obtain⟨_,f1,f2⟩:=fin 3 (by rw[if_pos (.inr o6)])
     have w0:IntKind.i64.wrap ((M:Int)+2*(A:Int)+3)=(M:Int)+2*(A:Int)+3:=ab (by omega) (by omega)
     simp only[Int.cast_ofNat_Int] at f1 f2
     simp-implicitDefEqProofs[o6,w0]
     refine hb.use ?_
     simp-implicitDefEqProofs[f1]
     refine he.use ?_
     simp-implicitDefEqProofs[f2]
     exact⟨i+1,by omega,by omega,bg rfl (by simp[below,hwi])⟩
    by_cases o7:s.op=7
    ·obtain⟨_,f1,f2⟩:=fin 1 (by rw[if_neg (by omega),if_pos o7])
     have w0:IntKind.i64.wrap ((M:Int)+2*(A:Int)+1)=(M:Int)+2*(A:Int)+1:=ab (by omega) (by omega)
     simp only[Int.cast_ofNat_Int] at f1 f2
     simp-implicitDefEqProofs[o7,w0]
     refine hb.use ?_
     simp-implicitDefEqProofs[f1]
     refine he.use ?_
     simp-implicitDefEqProofs[f2]
     exact⟨i+1,by omega,by omega,bg rfl (by simp[below,hwi])⟩
    ·obtain⟨_,f1,f2⟩:=fin 0 (by rw[if_neg (by omega),if_neg o7])
     simp only[Int.cast_ofNat_Int,Int.add_zero] at f1 f2
     simp-implicitDefEqProofs[o5,o6,o7]
     refine hb.use ?_
     simp-implicitDefEqProofs[f1]
     refine he.use ?_
     simp-implicitDefEqProofs[f2]
     exact⟨i+1,by omega,by omega,bg rfl (by simp[below,hwi])⟩
  ·simp at hc
   rw[WQ hc]
   simp-implicitDefEqProofs[]
theorem uO(code:List Int)(hb:Byt code):AC Tryz.prog G ee [.p (uh code)] [] λx _=>DrK 900000000 x:=by
 refine AC.go oJ ?_
 simp-implicitDefEqProofs[iH]
 refine(Hb G (Ck G code hb) Gd (by simp) _).mono ?_
 rintro r h ⟨⟨l,k,rfl,hz⟩,rfl⟩
 simp-implicitDefEqProofs[aa]
 exact⟨l,k,rfl,hz⟩
variable (hK:G iQ=some gV) (hS:G dJ=some [.tbl opK opV])
include hK hS
theorem zO(code:List Int)(hb:Byt code)(hl:code.length<=9223372036854775807):VF Tryz.prog G jS [.p (uh code)] (.p (.bool true)):=by
 have hbl:uh code= .lst 1 (code.map λn=>[.int .u8 n]):=rfl
 refine AC.go ru ?_
 simp-implicitDefEqProofs[jU,hbl]
 refine aO (λ_=>?_) (λ_=>?_)
 ·simp-implicitDefEqProofs[]
 simp-implicitDefEqProofs[]
 have hd:=Hb G (uO G code hb) Gd (by simp) []
 rw[hbl] at hd
 refine hd.mono ?_
 rintro r h ⟨⟨l,k,rfl,hz⟩,rfl⟩
 simp-implicitDefEqProofs[aa]
 refine(CJ G hK hS l (by omega) k).use ?_
 simp-implicitDefEqProofs[]
 refine(ta G l (by omega) k).use ?_
 by_cases hneg:tm l k<0
 ·have hm1:tm l k= -1:=by
   by_cases hc:eJ l=true/\inR k 0 ((l.length:Int)-1)=true
   ·rw[tm,if_pos hc] at hneg⊢
    split at hneg
    ·omega
    ·rfl
   ·rw[tm,if_neg hc]
  simp-implicitDefEqProofs[hneg]
  refine(ta G l (by omega) k).use ?_
  simp-implicitDefEqProofs[hm1]
 ·have hc:eJ l=true/\inR k 0 ((l.length:Int)-1)=true:=by
   refine Classical.byContradiction λhc=>hneg ?_
   rw[tm,if_neg hc];omega
  have hk2:=hc.2
  simp only[inR,WX,decide_eq_true_eq] at hk2
  obtain⟨m,rfl⟩:∃m:Nat,k=m:=⟨k.toNat,by omega⟩
  have hlt:m<l.length:=by omega
  obtain⟨f,hf⟩:∃f,l[m]?=some f:=⟨_,WK hlt⟩
  have hfc:=f.cs_eq'
  have hfm:=WW hf
  have hp:=vR (vp hc.1).1
  have hcnt:=Pl l 0 f (ri hp f hfm)
  have hs:=kY hp
  have hfz:=rG hfm
  have hfz2:f.sz=1+f.name.length+(f.params.length+(f.params.map List.length).sum)+aD f.body:=rfl
  have hbz:=lK f.body
  have hlb:tm l m=1+ce f.body:=by
   have hum:(unL l)[m]?=some (lwF l 0 f):=by rw[unL,Xd,hf];rfl
   rw[tm,if_pos hc]
   simp only[Int.toNat_natCast,hum,hcnt.1]
   omega
  have hfl:fdL l= .lst 3 (l.map Fd.cs):=rfl
  clear hlt
  have hnn:¬(1+(ce f.body:Int))<0:=by omega
  have hw:IntKind.i64.wrap (1+(ce f.body:Int))=1+(ce f.body:Int):=ab (by omega) (by omega)
  rw[hlb]
  simp-implicitDefEqProofs[hnn,hfl,hf,hfc]
  refine(ES G (aD f.body) f.body (WV _) (by omega)).use ?_
  simp-implicitDefEqProofs[hw]
end
end Go.Proofs.YtghpabfdmbdpfaaGreatDoor
namespace Go.Proofs.YtghpabfdmbdpfaaGreatDoor
open Go Go.Aw Go.ChangeShapes Go.WideShapes Go.ChangeAt Go.RowKit
set_option maxRecDepth 100000
abbrev Sd:TypeId:=37
abbrev UD:TypeId:=35
abbrev Wm:TypeId:=91
abbrev RP:TypeId:=30
abbrev TK:TypeId:=9
abbrev QK:TypeId:=89
abbrev RD:TypeId:=177
abbrev Pr:TypeId:=175
abbrev Se:TypeId:=221
abbrev Rh:TypeId:=3
abbrev RJ:TypeId:=4
abbrev ID:TypeId:=205
abbrev Ms:TypeId:=236
abbrev QY:TypeId:=237
abbrev Ky:TypeId:=22
abbrev EF:TypeId:=5
theorem UF:Kids Tryz.prog (· <Tryz.prog.types.size):=kids_rows (by kernel_rfl) (by kernel_rfl)
theorem Ug:∀t e,t<Tryz.prog.types.size->Tryz.prog.underlying t=some (.slice e)->0<Tryz.prog.cellsOf e:=slices_full_of Tryz.prog (by kernel_rfl)
def NG:List TypeId:=[Sd,UD,Wm,RP,TK,QK,RD,Pr,Se,Rh,RJ,ID,Ms]
theorem Ox:Plain Tryz.prog NG=true:=by kernel_rfl
theorem VC:ownKnob Tryz.prog.godebug=none:=by kernel_rfl
theorem Ch{H:Type}:∀l:List (DataW H),Rows.uptoBulkAll l=(l.map Rows.uptoBulk).sum
 |[]=>by simp[Rows.uptoBulkAll]
 |d::r=>by simp[Rows.uptoBulkAll,Ch r]
theorem PB{H:Type}:BulkOk (Rows.uptoBulk (H:=H)) where
 lit:=λl=>by cases l<;>simp[Rows.uptoBulk]
 str:=λs=>by simp[Rows.uptoBulk]
 nil:=by simp[Rows.uptoBulk]
 slice:=λes sp=>by simp only[Rows.uptoBulk,Ch];omega
 agg:=λps=>by simp only[Rows.uptoBulk,Ch];omega
theorem Nh{t e:TypeId}{vs:List PV}(h:Conf Tryz.prog t vs)(hu:Tryz.prog.underlying t=some (.slice e)):∃es,vs=[.lst (Tryz.prog.cellsOf e) es]/\es.length<=9223372036854775807/\∀x∈es,Conf Tryz.prog e x:=by
 cases h with
 |sl es e' hl hs=>rw[hu] at e';cases e';exact⟨es,rfl,hl,hs⟩
 |bool b e=>rw[e] at hu;cases hu
 |int n e=>rw[e] at hu;cases hu
 |str s e=>rw[e] at hu;cases hu
 |st vs e=>rw[e] at hu;cases hu
 |arr vs e=>rw[e] at hu;cases hu
def G0:aL:=λg=>if g=iQ then some gV else if g=dJ then some [.tbl opK opV] else none
theorem Sy:∀k,jA Tryz.prog (k+10) ID (Rows.laid_loop_example_wholeway_impl_keys (H:=Unit))=gV:=λk=>by kernel_rfl
theorem Wg{W:World}{laid:List (String × DataW Unit)}(hL:laidMet Tryz.prog laid W)(h1:("loop.example/wholeway/impl.keys",Rows.laid_loop_example_wholeway_impl_keys)∈laid)(h2:("loop.example/wholeway/impl.opSign",Rows.laid_loop_example_wholeway_impl_opSign)∈laid):
 ∀g cs,G0 g=some cs->g<W.heap.size/\∀(j:Nat) (c:PV),cs[j]?=some c->∃v,W.cell? ⟨g,j,none⟩=some v/\PRel W (· <W.heap.size) c v:=by
 intro g cs h
 unfold G0 at h
 split at h
 ·rename_i e;subst e;cases h
  exact Lr Ox hL (n:= "loop.example/wholeway/impl.keys") (d:=Rows.laid_loop_example_wholeway_impl_keys) (t:=ID) h1 (by kernel_rfl) (by kernel_rfl) (by decide) Sy
 ·split at h
  ·rename_i e;subst e;cases h
   exact NU Ox hL (n:= "loop.example/wholeway/impl.opSign") h2 (t:=QY) (k:=Rh) (e:=Ms) (by kernel_rfl) (by kernel_rfl) (by kernel_rfl) (.inl ⟨.i64,by kernel_rfl⟩) (by decide) (by kernel_rfl) (by kernel_rfl) (λm=>by kernel_rfl)
  ·cases h
def Jz:List TypeId:=Ky::EF::NG
theorem RL:Plain Tryz.prog Jz=true:=by kernel_rfl
theorem Ih{vs:List PV}(h:Conf Tryz.prog Ky vs):∃l:List Int,vs=[uh l]/\l.length<=9223372036854775807/\Byt l:=by
 obtain⟨es,rfl,hl,h4⟩:=Nh h (e:=EF) (by kernel_rfl)
 have hk:∀x∈es,∃n:Int,x=[PV.int .u8 n]/\(Lit.int .u8 n).wf=true:=λx hx=>Mp (h4 x hx) (by kernel_rfl)
 obtain⟨l,rfl⟩:=JY (λn:Int=>[PV.int .u8 n]) (λx hx=>by obtain⟨n,e,_⟩:=hk x hx;exact⟨n,e⟩)
 rw[show Tryz.prog.cellsOf EF=1 by kernel_rfl]
 refine⟨l,rfl,by rwa[Xp] at hl,λn hn=>?_⟩
 obtain⟨m,e,hw⟩:=hk [PV.int .u8 n] (Xl.2 ⟨n,hn,rfl⟩)
 cases e
 simp[Lit.wf,IntKind.min,IntKind.max,IntKind.bits,IntKind.signed] at hw
 omega
end Go.Proofs.YtghpabfdmbdpfaaGreatDoor
