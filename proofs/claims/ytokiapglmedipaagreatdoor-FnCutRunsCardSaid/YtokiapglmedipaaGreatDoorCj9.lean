/-
  Contracts and lemmas that the card needs, part 9.
-/
import Derived.Test.YtokiapglmedipaaGreatDoorCj8
namespace Go.Proofs.YtokiapglmedipaaGreatDoor
open Go Go.Aw
set_option maxRecDepth 100000
set_option maxHeartbeats 4000000
section
variable (G:au)
theorem Ov(l:List Fd)(hz:aD l<=1073741824)(B8:l≠[]):AC Tryz.prog G fT [.agg [.p (fdL l)]] [] λx h=>x= .ret (.agg [.sl 3 3 0 l.length])/\h=[.row 1 [[.p (fdL l)]],.row 1 [[.sl 3 3 0 l.length]],.row 1 [[.sl 3 3 0 l.length]],.row 3 (aH l)]:=by
 have E7:=dC l;have C4:∀l,fdL l= .lst 3 (l.map Fd.cs):=λ_=>rfl
 refine AC.go uY ?_;simp-implicitDefEqProofs[pc];refine aJ (λi:Nat=>ah 35 [(1,.ptr 0 1 0 0),(2,.ptr 1 1 0 0),(3,.ptr 2 1 0 0),(4,.p (.int .i64 i))]) (λi=>[.row 1 [[.p (fdL l)]],.row 1 [[.nils]],.row 1 [[slE 3 3 (aH (l.take i))]],bm 3 (aH (l.take i))]) (λi=>i<=l.length) (λi=>l.length-i) 0 (by simp) ?_ ?_
 ·have e1:slE 3 3 (aH (l.take 0))= .nils:=rfl;have e2:bm 3 (aH (l.take 0))= .dead:=rfl;rw[e1,e2];exact iM (h:=[AO.row 1 [[.p (fdL l)]],.row 1 [[.nils]],.row 1 [[.nils]]]) (by simp) (by simp) (by simp[Ξ,Ω]) (by simp[Ω])
 intro i hi;simp-implicitDefEqProofs[C4];refine aU (λh=>?_) (λh=>?_)
 ·simp at h;have hg:=Γ h;have hT:l.take (i+1)=l.take i++[l[i]]:=al h;have K8:=cL (aa2 h);have G3:(l.take i).length=i:=by rw[abg];omega
  generalize l[i]=f at hg hT K8;have G9:(aH (l.take i)).length=i:=by rw[nJ];exact G3
  have E6:f.cs=[.str f.name,ay f.params,Θ f.body]:=rfl;have F6:ay f.params= .lst 1 (f.params.map λw=>[.str w]):=rfl;have K4:f.sz=1+f.name.length+(f.params.length+(f.params.map List.length).sum)+aq f.body:=rfl;have hB:VF Tryz.prog G dT [.p (Θ f.body)] (.p (Θ f.body)):=AC.mkFreeze ow (AU G _ f.body (aci _) (by omega));generalize l.take i=out at hT G3 G9⊢;simp-implicitDefEqProofs[hg,E6,F6];have hpl:f.params.length<=1073741824:=by omega
  refine⟨⟨by omega,by omega⟩,?_⟩;refine hB.use ?_;simp-implicitDefEqProofs[G9];refine⟨⟨by omega,by omega⟩,i+1,by omega,by omega,?_⟩;have hR:aH (out++[f])=aH out++[[.p (.str f.name),.p (ay f.params),.p (Θ f.body)]]:=by rw[Ee];rfl
  have hR1:slE 3 3 (aH (out++[f]))= .sl 3 3 0 (i+1):=by rw[hR,rH _ (by simp),G9];rfl
  have hR2:bm 3 (aH (out++[f]))= .row 3 (aH (out++[f])):=by rw[hR,ny _ (by simp)]
  rw[hT,hR1,hR2]
  refine Wk.trans (bB (l1:=[(1,.ptr 0 1 0 0),(2,.ptr 1 1 0 0),(3,.ptr 2 1 0 0),(4,.p (.int .i64 ((i+1:Nat):Int)))]) (h1:=[.row 1 [[.p (fdL l)]],.row 1 [[.nils]],.row 1 [[.sl 3 3 0 (i+1)]],.row 3 (aH out++[[.p (.str f.name),.sl 4 1 0 f.params.length,.p (Θ f.body)]]),gq f.params]) [0,1,2,8,6] (by simp) (by decide) (by decide)
   (aw rfl (by simp[Ω]) (aw rfl (by simp[Ω]) (bT (es:=[[.sl 3 3 0 (i+1)]]) (by simp[Ω]) (by simp[ren,bu]) ?_))) (by simp[Ω,ren,C4,w1 (i:=i) (by omega)])) (cI 4 (by omega) (by simp) rfl (.same (by simp[Ξ,Ω]) (.same (by simp[Ξ,Ω]) (.same (by simp[Ξ,Ω]) (.rows ?_ ?_ (.nil _))))) ?_)
  ·refine bT (λx hx=>?_) ?_ (aw rfl (λx hx=>?_) aP)
   ·rcases aaZ.1 hx with hx|hx
    ·exact aR (abN _) _ (fU out x hx)
    ·rw[aa0.1 hx];simp[Ω]
   ·rw[abT,abh (g:=id) (λx hx=>dM _ x (fU out x hx)),adn];simp[ren,bu]
   ·obtain⟨w,_,rfl⟩:=abb.1 hx;simp[Ω]
  ·rw[hR];simp
  ·rw[hR];intro j e e1 he X7
   by_cases hj:j<(aH out).length
   ·rw[aaT hj] at he X7;rw[he] at X7;cases X7;have:=fU out e (aaW he);exact iy (aR (abN _) _ this)
   ·have Q8:j=(aH out).length:=by
     have:=(Δ.1 he).1;simp at this;omega
    subst Q8;simp at he X7;subst he;subst X7;refine .keep (by simp[Ω]) (.one ?_ (.keep (by simp[Ω]) .nil));exact fV rfl
  ·exact⟨.keep (by simp[Ω]) .nil,.keep (by simp[Ω]) .nil,.keep (by simp[Ω]) .nil,.keep (by simp[Ω]) .nil,trivial⟩
 ·simp at h;have E3:i=l.length:=by omega
  subst E3;rw[abp]
  have h0:aH l≠[]:=by
   intro e;apply B8;have:=congrArg List.length e;rw[nJ] at this;exact acO.1 this
  rw[dt h0,eb h0,nJ];simp-implicitDefEqProofs[C4]
def eaF(h:List Sm->List Sm)(f:Fd):Fd:=⟨f.name,f.params,h f.body⟩
theorem IZ(cut:Bool)(l:List Fd)(hz:aD l<=1073741824)(B8:l≠[])(hf:∀f∈l,∀x∈f.body,an 4 x=true):VF Tryz.prog G eJ [.agg [.p (fdL l)],.p (.bool cut)] (.agg [.p (fdL (if cut then gJ l else dh l))]):=by
 have E7:=dC l;have C4:∀l,fdL l= .lst 3 (l.map Fd.cs):=λ_=>rfl
 have hln:0<l.length:=by
  cases l with
  |nil=>exact(B8 rfl).elim
  |cons x r=>simp
 let g:Fd->Fd:=if cut then Ck else sy
 have hg0:(if cut then gJ l else dh l)=l.map g:=by cases cut<;>rfl
 rw[hg0]
 have key:AC Tryz.prog G eJ [.agg [.p (fdL l)],.p (.bool cut)] [] λx h=>∃v,x= .ret (.agg [v])/\View h v (fdL (l.map g)):=by
  refine AC.go FN ?_;simp-implicitDefEqProofs[vu];refine(AC.lift (Ov G l hz B8) (by simp[Ω]) (by simp[Bn,uI]) ?_).mono ?_
  ·simp[JI,uI,Bn];intro x hx;obtain⟨f,_,rfl⟩:=abb.1 hx;rfl
  rintro r h ⟨rfl,rfl⟩;simp-implicitDefEqProofs[rL,aa,cG,dD]
  let L:Nat->List Fd:=λi=>(l.take i).map g++l.drop i
  have hLl:∀i,i<=l.length->(L i).length=l.length:=λi hi=>by simp[L];omega
  have hLg:∀i,i<l.length->(L i)[i]?=l[i]?:=λi hi=>by
   have:((l.take i).map g).length=i:=by simp;omega
   rw[aa5 (by omega),this,aca,abK,acq]
  have hLs:∀i f,l[i]?=some f->(L i).set i (g f)=L (i+1):=λi f hi=>by
   have F3:=(Δ.1 hi).1;have A0:((l.take i).map g).length=i:=by simp;omega
   show((l.take i).map g++l.drop i).set i (g f)=(l.take (i+1)).map g++l.drop (i+1);rw[acg _ _ (by omega),A0,aca,abC F3,acF,al F3,abT,abn];have:l[i]=f:=by rw[Γ F3] at hi;exact Option.some.inj hi
   rw[this];rfl
  have hL0:L 0=l:=by simp[L]
  have hLe:L l.length=l.map g:=by
   show(l.take l.length).map g++l.drop l.length=_;rw[abp,acY,abF]
  generalize hLL:L=L2 at hLl hLg hLs hL0 hLe;refine aJ (λi:Nat=>ah 42 [(1,.p (.bool cut)),(4,.ptr 0 1 0 0),(5,.ptr 2 1 0 0),(6,.p (.int .i64 i))]) (λi=>[.row 1 [[.nils]],.row 3 (aH (L2 i)),.row 1 [[.sl 1 3 0 l.length]]]) (λi=>i<=l.length) (λi=>l.length-i) 0 (by simp) ?_ ?_
  ·rw[hL0]
   have e:cV 2 (AO.row 3 (aH l))= .row 3 (aH l):=by
    have e2:(aH l).map (dD 2)=aH l:=by
     conv=>rhs;rw[←adn (aH l)]
     refine abh λx hx=>?_
     obtain⟨f,_,rfl⟩:=abb.1 hx;rfl
    show AO.row 3 ((aH l).map (dD 2))=_;rw[e2]
   rw[e];exact cK [1,5,6] rfl (by decide) (aw rfl (by simp[Ω]) (aw rfl (fU l) (bT (es:=[[.sl 1 3 0 l.length]]) (by simp[Ω]) (by simp[ren,bu]) aP))) (by simp[Ω,ren])
  intro i hi;have M4:=nJ (L2 i);rw[hLl i hi] at M4;simp-implicitDefEqProofs[M4];refine aU (λh=>?_) (λh=>?_)
  ·simp at h;have hg:=Γ h;have hm:=aa2 h
   have R7:(aH (L2 i))[i]?=some [.p (.str l[i].name),.p (ay l[i].params),.p (Θ l[i].body)]:=by rw[aH,aa8,hLg i h,hg];rfl
   have I8:=hLs i l[i] hg;have K4:=cL hm;have hfb:=hf l[i] hm;generalize l[i]=f at hg hm R7 I8 K4 hfb;have hfz2:f.sz=1+f.name.length+(f.params.length+(f.params.map List.length).sum)+aq f.body:=rfl;cases cut with
   |true=>
    simp-implicitDefEqProofs[M4,R7];refine⟨h,?_⟩;refine(Ss G 4 f.body hfb (by omega)).use ?_
    have hst2:(aH (L2 i)).set i [.p (.str f.name),.p (ay f.params),.p (Θ (aK f.body))]=aH (L2 (i+1)):=by rw[←I8,aH,aH,acj];rfl
    simp-implicitDefEqProofs[M4,R7,hst2];refine⟨h,i+1,by omega,by omega,ab (by simp) (ag (by simp[Ξ,Ω]) (ag (bG (fU _)) (ag (by simp[Ξ,Ω]) dZ))) (by simp[Ω,w1 (i:=i) (by omega)])⟩
   |false=>
    simp-implicitDefEqProofs[M4,R7];refine⟨h,?_⟩;refine(ON G 4 f.body hfb (by omega)).use ?_
    have hst2:(aH (L2 i)).set i [.p (.str f.name),.p (ay f.params),.p (Θ (aG f.body))]=aH (L2 (i+1)):=by rw[←I8,aH,aH,acj];rfl
    simp-implicitDefEqProofs[M4,R7,hst2];refine⟨h,i+1,by omega,by omega,ab (by simp) (ag (by simp[Ξ,Ω]) (ag (bG (fU _)) (ag (by simp[Ξ,Ω]) dZ))) (by simp[Ω,w1 (i:=i) (by omega)])⟩
  ·simp at h;have E3:i=l.length:=by omega
   subst E3;simp-implicitDefEqProofs[];rw[hLe];have H7:(l.map g).length=l.length:=abi _;rw[←H7];exact tK rfl
 refine key.freezeR (λt v h ⟨_,e,_⟩=>by cases e) λv h ⟨u,e1,e2⟩=>?_
 cases e1;exact .agg (.one e2 .nil) .nil
end
section
theorem fD{l:List Fd}(h:am l=0):l≠[]/\∀f∈l,∀x∈f.body,an 4 x=true:=by
 have hp:=((om l).1 h).1;obtain⟨h1,h2,h3⟩:=(cT l).1 hp;refine⟨?_,λf hf x hx=>?_⟩
 ·rintro rfl;simp at h1
 ·have:=h2 f hf;simp only[ig,aa1,aaY] at this;exact this.2 x hx
variable (G:au)
theorem UI{l:List Fd}(hz:aD l<=1073741824)(h:am l=0):VF Tryz.prog G eJ [.agg [.p (fdL l)],.p (.bool false)] (.agg [.p (fdL (dh l))]):=IZ G false l hz (fD h).1 (fD h).2
theorem Tg{l:List Fd}(hz:aD l<=1073741824)(h:am l=0):VF Tryz.prog G eJ [.agg [.p (fdL l)],.p (.bool true)] (.agg [.p (fdL (gJ l))]):=IZ G true l hz (fD h).1 (fD h).2
def orN(b:Bool)(l:List Fd):List Fd:=if b then l else[]
theorem EY(l:List Fd)(hz:aD l<=1073741824):VF Tryz.prog G fL [.agg [.p (fdL l)]] (.tup [.agg [.p (fdL (orN (decide (am l=0)) (dh l)))],.p (.bool (decide (am l=0)))]):=by
 have key:AC Tryz.prog G fL [.agg [.p (fdL l)]] [] λx h=>∃v,x= .ret (.tup [.agg [v],.p (.bool (decide (am l=0)))])/\View h v (fdL (orN (decide (am l=0)) (dh l))):=by
  refine AC.go yU ?_;simp-implicitDefEqProofs[nG];refine(DK G l hz).use ?_
  by_cases h0:am l=0
  ·simp-implicitDefEqProofs[h0];refine(UI G hz h0).use ?_;simp-implicitDefEqProofs[orN];exact .p _
  ·simp-implicitDefEqProofs[h0,orN];exact .nils 3
 refine key.freezeR (λt v h ⟨_,e,_⟩=>by cases e) λv h ⟨u,e1,e2⟩=>?_
 cases e1;exact .tup (.agg (.one e2 .nil) (.keep (by simp) .nil)) .nil
theorem Hn(l:List Fd)(hz:aD l<=1073741824):VF Tryz.prog G gh [.agg [.p (fdL l)]] (.tup [.agg [.p (fdL (orN (decide (am l=0)) (gJ l)))],.p (.bool (decide (am l=0)))]):=by
 have key:AC Tryz.prog G gh [.agg [.p (fdL l)]] [] λx h=>∃v,x= .ret (.tup [.agg [v],.p (.bool (decide (am l=0)))])/\View h v (fdL (orN (decide (am l=0)) (gJ l))):=by
  refine AC.go Ar ?_;simp-implicitDefEqProofs[oh];refine(DK G l hz).use ?_
  by_cases h0:am l=0
  ·simp-implicitDefEqProofs[h0];refine(Tg G hz h0).use ?_;simp-implicitDefEqProofs[orN];exact .p _
  ·simp-implicitDefEqProofs[h0,orN];exact .nils 3
 refine key.freezeR (λt v h ⟨_,e,_⟩=>by cases e) λv h ⟨u,e1,e2⟩=>?_
 cases e1;exact .tup (.agg (.one e2 .nil) (.keep (by simp) .nil)) .nil
end
section
variable (G:au)
def LZ(xs:List Int):O5 (List Int)->O5 (List Int)
 | .ok us=> .ok (xs++us)
 | .st c=> .st c
end
section
theorem AgV.step{h h':List AO}{lo sid sid':Nat}{av:AV}{xs:List Int}(A:AgV h lo sid av xs)(e:∀i,lo<=i->i<h.length->i≠sid->h'[i]?=h[i]?)(hs:sid'=sid\/h.length<=sid'):AgV h' lo sid' av xs:=by
 cases A with
 |nn=>exact .nn
 |pp xs=>exact .pp xs
 |ss aid xs h1 h2 h3=>
  have hl:=(Δ.1 h1).1;exact .ss aid xs (by rw[e aid h2 hl h3];exact h1) h2 (by omega)
theorem AgV.low{h:List AO}{lo lo' sid:Nat}{av:AV}{xs:List Int}(A:AgV h lo sid av xs)(hl:lo'<=lo):AgV h lo' sid av xs:=by
 cases A with
 |nn=>exact .nn
 |pp xs=>exact .pp xs
 |ss aid xs h1 h2 h3=>exact .ss aid xs h1 (abe hl h2) h3
theorem AgV.sl_inv{h:List AO}{lo sid nid n:Nat}{xs:List Int}(A:AgV h lo sid (.sl nid 1 0 n) xs):h[nid]?=some (gr xs)/\lo<=nid/\nid≠sid:=by
 generalize hz:AV.sl nid 1 0 n=z at A;cases A with
 |nn=>cases hz
 |pp=>cases hz
 |ss aid _ h1 h2 h3=>
  simp only[AV.sl.injEq] at hz;obtain⟨rfl,_⟩:=hz;exact⟨h1,h2,h3⟩
structure CbS where (i sid:Nat) (sv:AV) (hh:List AO) (av:AV) (xs:List Int) (s:S5)
structure CbI (l:List Fd) (M k fZ sid:Nat) (u:AV) (v:List Sc5) (I:List Nat) (h:List AO) (box:AO) (e:Ex) (s1:S5) (rr:O5 (List Int)) (a:CbS):Prop where
 pl:PL M l fZ sid (h++[box]) a.s a.sv a.sid a.hh
 ci:CI a.hh u v I M a.sid
 args:AgV a.hh (h.length+1) a.sid a.av a.xs
 np:∀xs,a.av≠ .p (bx xs)
 xl:a.xs.length=a.i
 il:a.i<=e.kids.length
 v5:∀n∈a.xs,V5 n
 go:In5 v a.s/\∃r2,Ev l (.exs k v a.s (e.kids.drop a.i) s1 r2)/\rr=LZ a.xs r2
variable (G:au)
theorem KA{P:Program}{k:Nat}{c:AK}{ts:List AV}{h:List AO}{Q:Aw.AX->List AV->List AO->Prop}(n:Nat)(R:List AV->List AO->Prop)(Z:TypeId->PV->List AO->Prop)
 (h1:∀Q',(∀ts' h',R ts' h'->Q' (.exit n) ts' h')->(∀t v ts' h',Z t v h'->Q' (.pan t v) ts' h')->AKW P G k c ts h Q')(h2:∀ts' h',R ts' h'->Q (.exit n) ts' h')(h3:∀t v ts' h',Z t v h'->Q (.pan t v) ts' h'):AKW P G k c ts h Q:=h1 Q h2 h3
theorem TG{l:List Fd}{M k fZ:Nat}(hc:am l=0)(hz:aD l<=1073741824)(hB:∀j,j<k->PcC G l M j fZ)(e:Ex)(E9:e.op=13)(W:WfE l k e)(ihk:∀a∈e.kids,PxC G l M k fZ a):PxC G l M k fZ e:=by
 intro v s s' r hE I0 u I sid sv h H C;obtain⟨j,f,hj,hjk,hf,hpl⟩:=W.co e (by rw[Ex.pre_eq];simp) E9
 obtain⟨s1,rr,hX,hX2⟩:∃s1 rr,Ev l (.exs k v s e.kids s1 rr)/\((∃us,rr= .ok us/\Ev l (.cal j us s1 s' r))\/∃c,rr= .st c/\s'=s1/\r= .st c):=by
  cases hE with
  |call _ h1 h2 h3 h4=>
   rw[hj] at h2;cases h2;exact⟨_,_,h1,.inl ⟨_,rfl,h4⟩⟩
  |callS _ h1=>exact⟨_,_,h1,.inr ⟨_,rfl,rfl,rfl⟩⟩
  |num h1 _=>omega
  |var h1 _=>omega
  |firstS h1 h2 _ _=>omega
  |and0 h1 _ _=>omega
  |and1 h1 _ _ _ _=>omega
  |andS h1 _ _ _ _=>omega
  |not h1 _ _=>omega
  |at_ h1 _ _ _ _=>omega
  |atS h1 _ _ _=>omega
  |bin _ h1 _ _ _ _=>omega
  |binS _ h1 _ _ _=>omega
  |binD _ h1 _ _ _ _=>omega
 have B9:=e.cs_eq;have A8:Φ e.kids= .lst 4 (e.kids.map Ex.cs):=rfl;have E7:l.length<=aD l:=py l;obtain⟨e0,rfl,_,hue⟩:=C.chn.is;obtain⟨box,D4⟩:∃box,box=AO.row 4 [[.p (.int .i64 13),.p (.int .i64 e.n),.p (.str e.name),.p (.lst 4 (e.kids.map Ex.cs))]]:=⟨_,rfl⟩;refine AC.go mo ?_;simp-implicitDefEqProofs[aC,B9,A8,E9];rw[←D4]
 have J0:CbI l M k fZ sid (.ptr e0 2 0 0) v I h box e s1 rr ⟨0,sid,sv,h++[box],.nils,[],s⟩:=by
  refine⟨⟨H.more _,Fr.refl _ _,.inl rfl⟩,C.more _,.nn,(λxs h=>by cases h),rfl,abN _,(λn h=>by cases h),I0,rr,hX,?_⟩;cases rr<;>rfl
 have hmb:M<h.length:=H.lt;have hsb:=H.said.lt
 refine KA G 1 (λts' h'=>∃a,CbI l M k fZ sid (.ptr e0 2 0 0) v I h box e s1 rr a/\a.i=e.kids.length/\h'=a.hh/\∃z,ts'=ah 126 ((75,z)::[(74,.p (.int .i64 a.i)),(73,.p (.int .i64 e.kids.length)),(72,.p (.lst 4 (e.kids.map Ex.cs))),(9,a.av),(4,.ptr h.length 4 0 0),(0,.ptr M 20 0 0),(2,.ptr e0 2 0 0)]))
  (λt x h'=>∃c,t=ck/\x= .int .i64 c/\rr= .st c/\∃sv' sid',PL M l fZ sid h s1 sv' sid' h') (λQ' qE qP=>?_) ?_ ?_
 ·refine aJ (λa:CbS=>ah 126 [(74,.p (.int .i64 a.i)),(73,.p (.int .i64 e.kids.length)),(72,.p (.lst 4 (e.kids.map Ex.cs))),(9,a.av),(4,.ptr h.length 4 0 0),(0,.ptr M 20 0 0),(2,.ptr e0 2 0 0)]) (λa=>a.hh) (CbI l M k fZ sid (.ptr e0 2 0 0) v I h box e s1 rr) (λa=>e.kids.length-a.i) ⟨0,sid,sv,h++[box],.nils,[],s⟩ J0 ?_ ?_
  ·refine bO (by simp) ?_;simp[Ω];omega
  clear J0;rintro⟨i,sidc,svc,hh,av,xs,sc⟩ J;have jB:hh[h.length]?=some box:=by have:=PL.keep H J.pl (i:=0) (by simp);simpa using this
  have jl:=J.pl.fr.1;simp only[aa9,abc,abO] at jl;have A3:=J.xl;have F3:=J.il;simp only at A3 F3
  by_cases h1:i<e.kids.length
  ·have hg:=Γ h1;have ha:=aa2 h1;obtain⟨a,P3⟩:∃a,a=e.kids[i]:=⟨_,rfl⟩;rw[←P3] at hg ha;have G7:=a.cs_eq
   have hdr:e.kids.drop i=a::e.kids.drop (i+1):=by rw[abC h1,P3]
   obtain⟨Ic,r2,hx,hr⟩:=J.go;simp only[hdr] at hx hr Ic;simp-implicitDefEqProofs[h1,hg,G7];rw[←P3];have P0:PL M l fZ sid (h++[box]) sc svc sidc (hh++[.row 4 [a.cs.map .p]]):=⟨J.pl.run.more _,J.pl.fr.trans (Fr.more [] _ _) (λi hi=>by cases hi),J.pl.fs⟩;have C0:CI (hh++[.row 4 [a.cs.map .p]]) (.ptr e0 2 0 0) v I M sidc:=J.ci.more _;have hexc:=λs2 r3 (he:Ev l (.ex k v sc a s2 r3))=>ihk a ha v sc s2 r3 he Ic _ I sidc svc (hh++[.row 4 [a.cs.map .p]]) P0.run C0
   have Q7:=w1 (i:=i) (by have:=W.sz;have:=bg e.kids;have:=e.sz_eq;omega);have hav:=J.args;have hnp:=J.np;simp only at hav hnp
   have step:∀s2 n r4,Ev l (.ex k v sc a s2 (.ok n))->Ev l (.exs k v s2 (e.kids.drop (i+1)) s1 r4)->rr=LZ (xs++[n]) r4->AC Tryz.prog G cC [.ptr M 20 0 0,.agg (a.cs.map .p),.ptr e0 2 0 0] (hh++[.row 4 [a.cs.map .p]]) λz h2=>z= .ret (.p (.int .i64 n))/\∃sv2 sid2,CI h2 (.ptr e0 2 0 0) v I M sid2/\PL M l fZ sid (h++[box]) s2 sv2 sid2 h2/\V5 n/\In5 v s2/\AgV h2 (h.length+1) sid2 av xs:=λs2 n r4 q1 q2 q3=>by
    refine(hexc _ _ q1).mono ?_;rintro z h2 ⟨rfl,sv2,sid2,P⟩;have Ie:=Ic.ex q1;refine⟨rfl,sv2,sid2,C0.after P,P0.trans P,Ie.2 n rfl,Ie.1,AgV.step hav (λj j1 j2 j3=>?_) ?_⟩
    ·rw[P.fr.2 j (by simp;omega) (by simp only[aa6,abo,or_false,not_or];exact⟨by omega,j3⟩),aaT j2]
    ·rcases P.fs with q|q
     ·exact .inl q
     ·simp at q;exact .inr (by omega)
   have next:∀s2 n r4,Ev l (.exs k v s2 (e.kids.drop (i+1)) s1 r4)->rr=LZ (xs++[n]) r4->∀sv2 sid2 h2,CI h2 (.ptr e0 2 0 0) v I M sid2->PL M l fZ sid (h++[box]) s2 sv2 sid2 h2->V5 n->In5 v s2->∀h5 nid,h2.length<=nid->(∀j,j<h2.length->j<h.length+1\/j=sid2->h5[j]?=h2[j]?)->h5[nid]?=some (gr (xs++[n]))->
    CbI l M k fZ sid (.ptr e0 2 0 0) v I h box e s1 rr ⟨i+1,sid2,sv2,h5,.sl nid 1 0 (xs++[n]).length,xs++[n],s2⟩:=λs2 n r4 q2 q3 sv2 sid2 h2 C2 P hn I2 h5 nid g1 g2 g3=>by
    have G1:=(Δ.1 g3).1;have hM:=P.run.lt;have hS:=P.run.said.lt;have hl:=P.fr.1;simp only[aa9,abc,abO] at hl;refine⟨⟨P.run.frame (by simp only;omega) (g2 _ hM (.inl (by omega))) (g2 _ hS (.inr rfl)),⟨by simp only[aa9,abc,abO];omega,λj j1 j2=>?_⟩,P.fs⟩,⟨C2.chn.frame λj j1=>g2 j (C2.chn.lt j j1) (.inl (by have:=C.chn.lt j j1;omega)),C2.nd,C2.sn,C2.mn⟩,.ss _ _ g3 (by omega) (by simp only;omega),(λxs h=>by cases h),by simp[A3],by simp only;omega,λm hm=>?_,I2,r4,q2,q3⟩
    ·simp only[aa9,abc,abO] at j1;rw[g2 j (by omega) (.inl (by omega))];exact P.fr.2 j (by simp;omega) j2
    ·rcases aaZ.1 hm with hm|hm
     ·exact J.v5 m hm
     ·rw[aa0.1 hm];exact hn
   have fin:∀(h5:List AO) (sl:List (Nat × AV)) (nid sid2:Nat) (sv2:AV) (n:Int) (s2:S5),CbI l M k fZ sid (.ptr e0 2 0 0) v I h box e s1 rr ⟨i+1,sid2,sv2,h5,.sl nid 1 0 (xs++[n]).length,xs++[n],s2⟩->Aw.look sl 74= .p (.int .i64 (IntKind.i64.wrap ((i:Int)+1)))->Aw.look sl 73= .p (.int .i64 e.kids.length)->Aw.look sl 72= .p (.lst 4 (e.kids.map Ex.cs))->Aw.look sl 9= .sl nid 1 0 (xs++[n]).length->Aw.look sl 4= .ptr h.length 4 0 0->Aw.look sl 0= .ptr M 20 0 0->Aw.look sl 2= .ptr e0 2 0 0->
    ∃a:CbS,CbI l M k fZ sid (.ptr e0 2 0 0) v I h box e s1 rr a/\e.kids.length-a.i<e.kids.length-i/\Wk h.length (ah 126 sl) h5 (ah 126 [(74,.p (.int .i64 a.i)),(73,.p (.int .i64 e.kids.length)),(72,.p (.lst 4 (e.kids.map Ex.cs))),(9,a.av),(4,.ptr h.length 4 0 0),(0,.ptr M 20 0 0),(2,.ptr e0 2 0 0)]) a.hh:=λh5 sl nid sid2 sv2 n s2 J5 e74 e73 e72 e9 e4 e0' e2=>by
    have hl5:=J5.pl.fr.1;simp only[aa9,abc,abO] at hl5
    have hn5:nid<h5.length:=by exact(Δ.1 J5.args.sl_inv.1).1
    refine⟨_,J5,by simp only;omega,bO (by omega) ?_⟩;simp[Ω,e74,e73,e72,e9,e4,e0',e2,Q7];omega
   have hx':(∃c,Ev l (.ex k v sc a s1 (.st c))/\rr= .st c)\/∃s2 n r4,Ev l (.ex k v sc a s2 (.ok n))/\Ev l (.exs k v s2 (e.kids.drop (i+1)) s1 r4)/\rr=LZ (xs++[n]) r4:=by
    cases hx with
    |consS h1=>exact .inl ⟨_,h1,hr⟩
    |cons h1 h2=>exact .inr ⟨_,_,_,h1,h2,by rw[hr];simp[LZ]⟩
    |consT h1 h2=>exact .inr ⟨_,_,_,h1,h2,by rw[hr];simp[LZ]⟩
   rcases hx' with⟨c,h1,hr'⟩|⟨s2,n,r4,h1,h2,hr'⟩
   ·refine(hexc _ _ h1).mono ?_;rintro z h3 ⟨rfl,sv2,sid2,P⟩;simp-implicitDefEqProofs[eU];exact λts=>qP _ _ _ _ ⟨c,rfl,rfl,hr',sv2,sid2,(P0.trans P).from⟩
   ·have W5:e.kids.length<=1073741824:=by have:=W.sz;have:=bg e.kids;have:=e.sz_eq;omega
    cases hav with
    |pp=>exact(hnp _ rfl).elim
    |nn=>
     refine(step s2 n _ h1 h2 hr').mono ?_;rintro z h3 ⟨rfl,sv2,sid2,C2,P,hn,I2,A2⟩;simp-implicitDefEqProofs[aa];refine fin _ _ (h3.length+1) _ _ n _ (next _ n _ h2 hr' _ _ _ C2 P hn I2 _ _ (by omega) (λj j1 j2=>by rw[aaT j1]) ?_) (by simp) (by simp) (by simp) (by simp) (by simp) (by simp) (by simp);rw[aa5 (by omega)];simp[gr]
    |ss aid _ hu h4 h5=>
     refine(step s2 n _ h1 h2 hr').mono ?_;rintro z h3 ⟨rfl,sv2,sid2,C2,P,hn,I2,A2⟩;obtain⟨hu3,h43,h53⟩:=A2.sl_inv;have hul:=(Δ.1 hu3).1;simp only[gr] at hu3;have hua:∀os,(h3++os)[aid]?=some (.row 1 (xs.map λn=>[.p (.int .i64 n)])):=λos=>by rw[aaT hul];exact hu3
     simp-implicitDefEqProofs[aa, ↓hua];refine⟨⟨by omega,by omega⟩,?_⟩;refine fin _ _ (h3.length+1) _ _ n _ (next _ n _ h2 hr' _ _ _ C2 P hn I2 _ _ (by omega) (λj j1 j2=>?_) ?_) (by simp) (by simp) (by simp) (by simp) (by simp) (by simp) (by simp)
     ·rw[aaT (by simp;omega),aaV (by omega),aaT j1]
     ·rw[aa5 (by simp)];simp[gr];exact aaX (by simp)
  ·simp-implicitDefEqProofs[h1];refine qE _ _ ⟨⟨i,sidc,svc,hh,av,xs,sc⟩,J,by simp only;omega,rfl,_,rfl⟩
 ·rintro ts' h' ⟨a,J,hi,rfl,z,rfl⟩;obtain⟨i,sidc,svc,hh,av,xs,sc⟩:=a;have jB:hh[h.length]?=some box:=by have:=PL.keep H J.pl (i:=0) (by simp);simpa using this
  simp only at hi;subst hi;obtain⟨Ic,r2,hx,hr⟩:=J.go;simp only[acY] at hx Ic hr;cases hx with
  |nil=>
  have hrr:rr= .ok xs:=by rw[hr];simp[LZ]
  rcases hX2 with⟨us,h3,hcal⟩|⟨c',h3,_,_⟩
  case inr=>rw[hrr] at h3;cases h3
  rw[hrr] at h3;cases h3;have jM:=J.pl.run.men;simp only[lJ] at jM;rw[D4] at jB;simp-implicitDefEqProofs[jM,jB];refine(Lz G l e.name (by omega)).use ?_;simp-implicitDefEqProofs[hj,ixI];refine(hB j hjk xs s1 s' r hcal J.v5 Ic.g Ic.m av sidc svc hh J.pl.run (J.args.low (abN _))).mono ?_;rintro z h3 ⟨rfl,sv2,sid2,P⟩;have PP:=(J.pl.trans P).from;cases r with
  |ok n=>
   simp-implicitDefEqProofs[aa,eU];exact⟨rfl,sv2,sid2,PP⟩
  |st c=>
   simp-implicitDefEqProofs[eU];exact⟨rfl,sv2,sid2,PP⟩
 ·rintro t x ts' h' ⟨c,rfl,rfl,hr,sv',sid',P⟩;rcases hX2 with⟨us,h3,hcal⟩|⟨c',h3,rfl,rfl⟩
  ·rw[hr] at h3;cases h3
  rw[hr] at h3;cases h3;simp-implicitDefEqProofs[];exact⟨rfl,sv',sid',P⟩
end
section
def ZR(r:O5 (Option Int))(x:ARes)(h':List AO):Prop:=
 match r with
 | .ok none=>x= .ret .nilp
 | .ok (some n)=>∃b,x= .ret (.ptr b 1 0 0)/\h'[b]?=some (.row 1 [[.p (.int .i64 n)]])
 | .st c=>x= .pan ck (.int .i64 c)
structure BkL (M:Nat) (l:List Fd) (fZ sid:Nat) (u:AV) (v':List Sc5) (I:List Nat) (h:List AO) (s':S5) (sv':AV) (sid':Nat) (h':List AO):Prop where
 run:MI M l fZ sv' sid' s' h'
 ci:CI h' u v' I M sid'
 fr:Fr (M::sid::I) h h'
 fs:sid'=sid\/h.length<=sid'
 env:∀i∈I,∀x,h[i]?=some (.row 2 x)->h'[i]?=some (.row 2 x)
def BkX(M:Nat)(l:List Fd)(fZ sid:Nat)(u:AV)(v':List Sc5)(I:List Nat)(h:List AO)(s':S5)(r:O5 (Option Int))(x:ARes)(h':List AO):Prop:=ZR r x h'/\∃sv' sid',BkL M l fZ sid u v' I h s' sv' sid' h'
def lV(h:List AO)(ps:List (List UInt8))(us:List Int)(i:Nat):List AO:=h++[.mp (mpV ((ps.zip us).take i)),.row 2 [[.mp h.length,.nilp]]]
theorem Nf{h:List AO}{ps:List (List UInt8)}{us:List Int}{i j:Nat}(hj:j<h.length):(lV h ps us i)[j]?=h[j]?:=aaT hj
theorem KW{h:List AO}{ps:List (List UInt8)}{us:List Int}{i:Nat}:(lV h ps us i)[h.length]?=some (.mp (mpV ((ps.zip us).take i))):=by simp[lV]
theorem LC{h:List AO}{ps:List (List UInt8)}{us:List Int}{i:Nat}:(lV h ps us i)[h.length+1]?=some (.row 2 [[.mp h.length,.nilp]]):=by simp[lV]
theorem Pr{h:List AO}{ps:List (List UInt8)}{us:List Int}{i:Nat}{p:List UInt8}{n:Int}(hp:ps[i]?=some p)(hn:us[i]?=some n)(hap:ps.Pairwise (· ≠ ·)):
 ∃m,ka (.str p) (.p (.int .i64 n)) (mpV ((ps.zip us).take i))=some m/\(lV h ps us i).set h.length (.mp m)=lV h ps us (i+1):=by
 have hz:(ps.zip us)[i]?=some (p,n):=by rw[List.getElem?_zip_eq_some];exact⟨hp,hn⟩
 have hl:=(Δ.1 hz).1;refine⟨_,Aq p n _,?_⟩
 have X1:p∉((ps.zip us).take i).map (·.1):=λhm=>by
  obtain⟨x,hx,rfl⟩:=abb.1 hm;obtain⟨j,hj,he⟩:=abU.1 hx;have N3:j<i:=by omega
  have:=List.pairwise_iff_getElem.1 hap j i (by simp at hl hj;omega) (Δ.1 hp).1 N3;rw[(Δ.1 hp).2,←he,List.getElem_zip] at this;exact this rfl
 rw[Hh X1];unfold lV;rw[al hl,(Δ.1 hz).2];simp
variable (G:au)
def PbC(l:List Fd)(M k fZ:Nat)(xs:List Sm):Prop:=∀v s v' s' r,Ev l (.blk k v s xs v' s' r)->In5 v s->∀u I sid sv h,MI M l fZ sv sid s h->CI h u v I M sid->
 AC Tryz.prog G bD [.ptr M 20 0 0,.p (Θ xs),u] h (BkX M l fZ sid u v' I h s' r)
theorem WD{l:List Fd}{M k fZ:Nat}(hc:am l=0)(hz:aD l<=1073741824)(hB:∀f,l[k]?=some f->PbC G l M k fZ f.body):PcC G l M k fZ:=by
 intro us s s' r hE hus hg hm av sid sv h H A;cases hE with
 | @cal _ f _ _ v' _ r' q1 q2 q3=>
 have hap:=GX hc q1;have S4:nM [f.params.zip us]=f.params.zip us:=by simp[nM]
 have hz1:(f.params.zip us).map (·.1)=f.params:=List.map_fst_zip (by omega);have V9:(f.params.zip us).map (·.2)=us:=List.map_snd_zip (by omega);have Z1:(f.params.zip us).length=f.params.length:=by rw[List.length_zip];omega
 have K4:=cL (aaW q1);have S6:f.sz=1+f.name.length+(f.params.length+(f.params.map List.length).sum)+aq f.body:=rfl
 have IW:In5 [f.params.zip us] s:=by
  refine⟨hg,λm hm y hy=>?_,Pp hap q2,hm,?_⟩
  ·rw[aa0.1 hm] at hy;exact hus _ (by rw[show y.2=y.2 from rfl];have:=List.mem_map_of_mem (f:=Prod.snd) hy;rw[V9] at this;exact this)
  ·rw[S4,Z1];unfold M5 at hm;omega
 have C4:fdL l= .lst 3 (l.map Fd.cs):=rfl;have hfc:f.cs=[.str f.name,ay f.params,Θ f.body]:=rfl;have hpL:ay f.params= .lst 1 (f.params.map λw=>[.str w]):=rfl;have hmb:=H.lt;have hsb:=H.said.lt;have aM:∀os,(h++os)[M]?=some (lJ l fZ sv s):=λos=>(H.more os).men
 simp only[lJ] at aM;refine AC.go ua ?_;simp-implicitDefEqProofs[my, ↓aM,C4,q1,hfc,hpL];rw[←hpL];have h0:h++[AO.mp [],AO.row 2 [[.mp h.length,.nilp]]]=lV h f.params us 0:=by simp[lV,mpV]
 rw[h0];have hpn:f.params.length<=1073741824:=by omega
 refine KA G 0 (λts' h'=>h'=lV h f.params us f.params.length/\∃z,ts'=ah 57 ((25,z)::[(24,.p (.int .i64 f.params.length)),(23,.p (.int .i64 f.params.length)),(22,.p (ay f.params)),(7,.ptr (h.length+1) 2 0 0),(0,.ptr M 20 0 0),(1,.p (.int .i64 k)),(2,av)]))
  (λt x h'=>False) (λQ' qE _=>?_) ?_ ?_
 ·refine aJ (λi:Nat=>ah 57 [(24,.p (.int .i64 i)),(23,.p (.int .i64 f.params.length)),(22,.p (ay f.params)),(7,.ptr (h.length+1) 2 0 0),(0,.ptr M 20 0 0),(1,.p (.int .i64 k)),(2,av)]) (λi=>lV h f.params us i) (λi=>i<=f.params.length) (λi=>f.params.length-i) 0 (abN _) ?_ ?_
  ·refine bO (by simp[lV]) ?_;cases A with
   |nn=>simp[Ω,lV];omega
   |pp=>simp[Ω,lV];omega
   |ss aid _ q4 q5 q6=>have:=(Δ.1 q4).1;simp[Ω,lV];omega
  rintro i hi
  by_cases h1:i<f.params.length
  ·have hp:=Γ h1;have hu:us[i]?=some us[i]:=Γ (by omega);generalize us[i]=n at hu;obtain⟨m,e1,e2⟩:=Pr (h:=h) hp hu hap;have Q7:=w1 (i:=i) (by omega);cases A with
   |nn=>simp at hu
   |pp=>
    have hnL:bx us= .lst 1 (us.map λn=>[.int .i64 n]):=rfl;simp-implicitDefEqProofs[h1,hpL,hp,hu,LC,KW,e1,hnL];refine⟨i+1,by omega,by omega,?_⟩;rw[e2];refine bO (by simp[lV]) ?_;simp[Ω,lV,Q7,hpL];omega
   |ss aid _ q4 q5 q6=>
    have q7:∀i,(lV h f.params us i)[aid]?=some (gr us):=λi=>by rw[Nf (Δ.1 q4).1];exact q4
    simp only[gr] at q7;simp-implicitDefEqProofs[h1,hpL,hp,hu,LC,KW,e1,q7];refine⟨by omega,i+1,by omega,by omega,?_⟩;rw[e2];have:=(Δ.1 q4).1;refine bO (by simp[lV]) ?_;simp[Ω,lV,Q7,hpL];omega
  ·simp-implicitDefEqProofs[h1];have:i=f.params.length:=by omega
   subst this;exact qE _ _ ⟨rfl,_,rfl⟩
 ·rintro ts' h' ⟨rfl,z,rfl⟩;have hM:(lV h f.params us f.params.length)[M]?=some (lJ l fZ sv s):=by rw[Nf hmb];exact H.men
  simp only[lJ] at hM;have B7:(f.params.zip us).take f.params.length=f.params.zip us:=aaX (by omega)
  have C0:CI (lV h f.params us f.params.length) (.ptr (h.length+1) 2 0 0) [f.params.zip us] [h.length+1,h.length] M sid:=by
   refine⟨.last _ h.length _ LC (by rw[KW,B7]),by simp,?_,?_⟩
   ·simp only[aa6,abo,or_false,not_or];omega
   ·simp only[aa6,abo,or_false,not_or];omega
  simp-implicitDefEqProofs[hM,C4,q1,hfc];refine(hB f q1 _ _ _ _ _ q3 IW _ _ sid sv _ (H.more _) C0).mono ?_;rintro z h2 ⟨hR,sv2,sid2,B⟩
  have PP:PL M l fZ sid h s' sv2 sid2 h2:=by
   have K5:=B.fr;unfold lV at K5;refine⟨B.run,K5.from.sub λi hi=>?_,?_⟩
   ·simp only[aa6,abo,or_false] at hi⊢;omega
   ·have:=B.fs;simp only[lV,aa9] at this;omega
  match r',hR with
  | .ok none,hR=>
    cases hR;simp-implicitDefEqProofs[aa];exact⟨rfl,sv2,sid2,PP⟩
  | .ok (some n),⟨b,J9,O2⟩=>
    cases J9;simp-implicitDefEqProofs[aa,O2];exact⟨rfl,sv2,sid2,PP⟩
  | .st c,hR=>
    cases hR;simp-implicitDefEqProofs[];exact⟨rfl,sv2,sid2,PP⟩
 ·rintro t x ts' h' ⟨⟩
end
section
structure Snc (R cid V sid nid uid:Nat) (hb:List AO) (sid' nid' uid':Nat) (hh:List AO):Prop where
 fr:Fr [R,sid,cid,V,nid,uid] hb hh
 fs:sid'=sid\/hb.length<=sid'
 fn:nid'=nid\/hb.length<=nid'
 fu:uid'=uid\/hb.length<=uid'
section
variable {R cid V sid nid uid:Nat} {hb hh h2:List AO} {sid1 nid1 uid1 sid2 nid2 uid2:Nat}
theorem Snc.init(hb:List AO):Snc R cid V sid nid uid hb sid nid uid hb:=⟨Fr.refl _ _,.inl rfl,.inl rfl,.inl rfl⟩
theorem tM{a b c n m:Nat}(h1:b=a\/n<=b)(h2:c=b\/m<=c)(hnm:n<=m):c=a\/n<=c:=by
 rcases h2 with rfl|h2
 ·exact h1
 ·exact .inr (by omega)
theorem Snc.st(S:Snc R cid V sid nid uid hb sid1 nid1 uid1 hh)(F:Fr [R,sid1,cid,V,nid1,uid1] hh h2)(a:sid2=sid1\/hh.length<=sid2)(b:nid2=nid1\/hh.length<=nid2)(c:uid2=uid1\/hh.length<=uid2):Snc R cid V sid nid uid hb sid2 nid2 uid2 h2:=by
 refine⟨S.fr.trans F λy hy=>?_,tM S.fs a S.fr.1,tM S.fn b S.fr.1,tM S.fu c S.fr.1⟩;have h1:=S.fs;have h2:=S.fn;have h3:=S.fu;simp only[aa6,abo,or_false] at hy⊢;omega
theorem Fr.wide{K:List Nat}{V nid uid:Nat}(F:Fr [R,sid,cid] hb hh):Fr [R,sid,cid,V,nid,uid] hb hh:=F.sub λi hi=> .inl (by simp only[aa6,abo,or_false] at hi⊢;omega)
theorem Snc.ex(S:Snc R cid V sid nid uid hb sid1 nid1 uid1 hh)(F:Fr [R,sid1,cid] hh h2)(a:sid2=sid1\/hh.length<=sid2):Snc R cid V sid nid uid hb sid2 nid1 uid1 h2:=
 S.st (Fr.wide (K:=[]) F) a (.inl rfl) (.inl rfl)
theorem Snc.keep(S:Snc R cid V sid nid uid hb sid1 nid1 uid1 hh){i:Nat}(hi:i<hb.length)(hn:i≠R/\i≠sid/\i≠cid/\i≠V/\i≠nid/\i≠uid):hh[i]?=hb[i]?:=
 S.fr.2 i hi (by simp only[aa6,abo,or_false];omega)
theorem Snc.base{h os:List AO}(S:Snc R cid V sid nid uid (h++os) sid1 nid1 uid1 hh):Snc R cid V sid nid uid h sid1 nid1 uid1 hh:=
 ⟨S.fr.from,tM (.inl rfl) S.fs (by simp),tM (.inl rfl) S.fn (by simp),tM (.inl rfl) S.fu (by simp)⟩
end
structure WfS (l:List Fd) (k:Nat) (x:Sm):Prop where
 form:∃d,an d x=true
 args:∀a∈x.args,WfE l k a
 body:(∀y∈x.body,∃d,an d y=true)/\aq x.body<=1073741824/\∃d,CoS l k d x.body
 els:(∀y∈x.els,∃d,an d y=true)/\aq x.els<=1073741824/\∃d,CoS l k d x.els
 argn:x.args.length=gV x.op
 op:1<=x.op/\x.op<=8
structure InS (v:List Sc5) (s:S5):Prop where
 g:G5 s
 ge:GE5 v
 un:Un5 v
 m:M5 s+1<=4000
 f:(nM v).length+s.left+1<=1073750000
theorem InS.in5{v:List Sc5}{s:S5}(I:InS v s):In5 v s:=⟨I.g,I.ge,I.un,by have:=I.m;omega,by have:=I.f;omega⟩
variable (G:au)
def LpA(l:List Fd)(k:Nat)(x:Sm)(v:List Sc5)(s1:S5)(n:Int)(v':List Sc5)(s':S5)(q:O5 (Option Int)):Prop:=
 (n=0/\v'=v/\s'=s1/\q= .ok none)\/(n≠0/\∃m v1 s2 q1,Ev l (.blk k ([]::v) s1 x.body (m::v1) s2 q1)/\((q1≠ .ok none/\v'=v1/\s'=s2/\q=q1)\/(q1= .ok none/\((s2.left=0/\v'=v1/\s'=s2/\q= .st 3)\/∃F,s2.left=F+1/\Ev l (.lp k v1 (s2.at_ F) x v' s' q)))))
theorem Pw{l:List Fd}{k:Nat}{x:Sm}{v v':List Sc5}{s s':S5}{q:O5 (Option Int)}(h:Ev l (.lp k v s x v' s' q)):∃a s1 r1,x.args=[a]/\Ev l (.ex k v s a s1 r1)/\((∃c,r1= .st c/\v'=v/\s'=s1/\q= .st c)\/∃n,r1= .ok n/\LpA l k x v s1 n v' s' q):=by
 cases h with
 |lpS ha h1=>exact⟨_,_,_,ha,h1,.inl ⟨_,rfl,rfl,rfl,rfl⟩⟩
 |lp0 ha h1=>exact⟨_,_,_,ha,h1,.inr ⟨_,rfl,.inl ⟨rfl,rfl,rfl,rfl⟩⟩⟩
 |lpEnd ha h1 hn h2 hq=>exact⟨_,_,_,ha,h1,.inr ⟨_,rfl,.inr ⟨hn,_,_,_,_,h2,.inl ⟨hq,rfl,rfl,rfl⟩⟩⟩⟩
 |lpFuel ha h1 hn h2 hl=>exact⟨_,_,_,ha,h1,.inr ⟨_,rfl,.inr ⟨hn,_,_,_,_,h2,.inr ⟨rfl,.inl ⟨hl,rfl,rfl,rfl⟩⟩⟩⟩⟩
 |lpGo ha h1 hn h2 hl h3=>exact⟨_,_,_,ha,h1,.inr ⟨_,rfl,.inr ⟨hn,_,_,_,_,h2,.inr ⟨rfl,.inr ⟨_,hl,h3⟩⟩⟩⟩⟩
theorem StL.mk{l:List Fd}{R cid V sid nid uid:Nat}{h hh:List AO}{w:Sc5}{x0:Int}{s':S5}{r:O5 (Option Int)}{sid' nid' uid':Nat}{uv':AV}(H:RI R cid l sid' s' (uy r) (Yp r) hh)(E:EI V nid' uid' uv' w (bkB r) (bkV x0 r) hh)(A:Ap R V sid' cid nid' uid')(S:Snc R cid V sid nid uid h sid' nid' uid' hh):StL R cid l V sid nid uid h w x0 s' r (.ret (.tup [])) hh:=
 ⟨sid',nid',uid',uv',rfl,H,E,A,S.fr,S.fs,S.fn,S.fu⟩
end
section
theorem In5.opn{v:List Sc5}{s:S5}(I:In5 v s):In5 ([]::v) s:=⟨I.g,I.ge.opn,I.un.opn,I.m,by rw[zL];exact I.f⟩
theorem In5.blk{l:List Fd}{k:Nat}{v v':List Sc5}{s s':S5}{xs:List Sm}{q:O5 (Option Int)}(I:In5 v s)(h:Ev l (.blk k v s xs v' s' q)):In5 v' s':=by
 have a:=aZ h ⟨I.g,I.ge⟩;have b:=yP h;have c:=Vn h I.un;exact⟨a.1,a.2.2.1,c,abe b.1 I.m,abe b.2.2 I.f⟩
theorem In5.tl{m:Sc5}{v:List Sc5}{s:S5}(I:In5 (m::v) s):In5 v s:=⟨I.g,I.ge.tail,I.un.tail,I.m,by have:=Am m v;have:=I.f;omega⟩
theorem In5.tick{v:List Sc5}{s:S5}{F:Nat}(I:In5 v s)(h:s.left=F+1):InS v (s.at_ F):=by
 obtain⟨a,b⟩:=Ni h;exact⟨I.g.at_ F,I.ge,I.un,by have:=I.m;omega,by have:=I.f;omega⟩
theorem In5.stm{l:List Fd}{k:Nat}{v v':List Sc5}{s s':S5}{x:Sm}{q:O5 (Option Int)}(I:InS v s)(h:Ev l (.stm k v s x v' s' q)):In5 v' s':=by
 have a:=aZ h ⟨I.g,I.ge⟩;have b:=yP h;have c:=Vn h I.un;simp only[Ug] at b;exact⟨a.1,a.2.2.1,c,by have:=I.m;omega,by have:=I.f;omega⟩
variable (G:au)
end
section
section
variable {M:Nat} {l:List Fd} {fZ sid sid1 sid2:Nat} {u sv sv1 sv2:AV} {v v1 v2:List Sc5} {I:List Nat} {h h1 h2 os:List AO} {s s1 s2:S5}
theorem BkL.refl(H:MI M l fZ sv sid s h)(C:CI h u v I M sid):BkL M l fZ sid u v I h s sv sid h:=⟨H,C,Fr.refl _ _,.inl rfl,λ_ _ _ q=>q⟩
theorem BkL.trans(B:BkL M l fZ sid u v1 I h s1 sv1 sid1 h1)(D:BkL M l fZ sid1 u v2 I h1 s2 sv2 sid2 h2):BkL M l fZ sid u v2 I h s2 sv2 sid2 h2:=by
 have hb:=B.fs;have hd:=D.fs;have hl:=B.fr.1;refine⟨D.run,D.ci,B.fr.trans D.fr λi hi=>?_,by omega,λi hi x q=>D.env i hi x (B.env i hi x q)⟩;simp only[aa6] at hi⊢;rcases hi with rfl|rfl|hi
 ·exact .inl (.inl rfl)
 ·rcases hb with rfl|hb
  ·exact .inl (.inr (.inl rfl))
  ·exact .inr hb
 ·exact .inl (.inr (.inr hi))
theorem BkL.more(B:BkL M l fZ sid u v I h s sv1 sid1 h1)(os:List AO):BkL M l fZ sid u v I h s sv1 sid1 (h1++os):=
 ⟨B.run.more os,B.ci.more os,B.fr.trans (Fr.more [] _ _) (λi hi=>by cases hi),B.fs,λi hi x q=>by rw[aaT (B.ci.chn.lt i hi)];exact B.env i hi x q⟩
theorem BkL.ex(B:BkL M l fZ sid u v I h s1 sv1 sid1 h1)(P:PL M l fZ sid1 h1 s2 sv2 sid2 h2):BkL M l fZ sid u v I h s2 sv2 sid2 h2:=
 B.trans ⟨P.run,B.ci.after P,P.fr.sub λi hi=> .inl (by simp only[aa6,abo,or_false] at hi⊢;omega),P.fs,λi hi x q=>by rw[P.fr.2 i (B.ci.chn.lt i hi) (by simp only[aa6,abo,or_false,not_or];exact⟨λe=>B.ci.mn (e▸hi),λe=>B.ci.sn (e▸hi)⟩)];exact q⟩
theorem BkL.upd(B:BkL M l fZ sid u v I h s1 sv1 sid1 h1)(a1:s2.said=s1.said)(a2:s2.left<=s1.left)(a3:s2.cells.length=16):BkL M l fZ sid u v I h s2 sv1 sid1 (h1.set M (lJ l fZ sv1 s2)):=
 ⟨B.run.upd a1 a2 a3,⟨B.ci.chn.frame λi hi=>aaV (show M≠i from λe=>B.ci.mn (e▸hi)),B.ci.nd,B.ci.sn,B.ci.mn⟩,B.fr.set (by simp) _,B.fs,λi hi x q=>by rw[aaV (show M≠i from λe=>B.ci.mn (e▸hi))];exact B.env i hi x q⟩
end
theorem IF{P:Program}{G:au}{k:Nat}{c:AK}{ts:List AV}{h:List AO}{Q:Aw.AX->List AV->List AO->Prop}(n:Nat)(R Y:List AV->List AO->Prop)(Z:TypeId->PV->List AO->Prop)
 (h1:∀Q',(∀ts' h',R ts' h'->Q' (.exit n) ts' h')->(∀ts' h',Y ts' h'->Q' .ret ts' h')->(∀t v ts' h',Z t v h'->Q' (.pan t v) ts' h')->AKW P G k c ts h Q')(h2:∀ts' h',R ts' h'->Q (.exit n) ts' h')(h4:∀ts' h',Y ts' h'->Q .ret ts' h')(h3:∀t v ts' h',Z t v h'->Q (.pan t v) ts' h'):AKW P G k c ts h Q:=h1 Q h2 h4 h3
variable (G:au)
def PsC(l:List Fd)(M k fZ:Nat)(x:Sm):Prop:=∀v s v' s' r,Ev l (.stm k v s x v' s' r)->InS v s->∀u I sid sv h,MI M l fZ sv sid s h->CI h u v I M sid->
 AC Tryz.prog G iu [.ptr M 20 0 0,.agg (x.cs.map .p),u] h (BkX M l fZ sid u v' I h s' r)
theorem InS.stm{l:List Fd}{k:Nat}{v v':List Sc5}{s s':S5}{x:Sm}{q:O5 (Option Int)}(I:InS v s)(h:Ev l (.stm k v s x v' s' q)):In5 v' s':=In5.stm I h
structure BlS where (i sid:Nat) (sv:AV) (hh:List AO) (v:List Sc5) (s:S5)
structure BlI (l:List Fd) (M k fZ sid:Nat) (u:AV) (I:List Nat) (h:List AO) (xs:List Sm) (v':List Sc5) (s':S5) (r:O5 (Option Int)) (a:BlS):Prop where
 bk:BkL M l fZ sid u a.v I h a.s a.sv a.sid a.hh
 inn:In5 a.v a.s
 ev:Ev l (.blk k a.v a.s (xs.drop a.i) v' s' r)
 il:a.i<=xs.length
theorem TH{l:List Fd}{M k fZ:Nat}{xs:List Sm}(hz:xs.length<=1073741824)(hS:∀x∈xs,PsC G l M k fZ x):PbC G l M k fZ xs:=by
 intro v s v' s' r hE I0 u I sid sv h H C;have A8:Θ xs= .lst 5 (xs.map Sm.cs):=rfl;obtain⟨e0,rfl,_,hue⟩:=C.chn.is;have hmb:=H.lt;refine AC.go td ?_;simp-implicitDefEqProofs[lE,A8]
 refine IF 0 (λts' h'=>r= .ok none/\(∃sv2 sid2,BkL M l fZ sid (.ptr e0 2 0 0) v' I h s' sv2 sid2 h')/\∃l,ts'=ah 26 l)
  (λts' h'=>∃n b,r= .ok (some n)/\(∃sv2 sid2,BkL M l fZ sid (.ptr e0 2 0 0) v' I h s' sv2 sid2 h')/\h'[b]?=some (.row 1 [[.p (.int .i64 n)]])/\∃l,ts'=ah 26 ((6,.ptr b 1 0 0)::l))
  (λt x h'=>∃c,t=ck/\x= .int .i64 c/\r= .st c/\∃sv2 sid2,BkL M l fZ sid (.ptr e0 2 0 0) v' I h s' sv2 sid2 h') (λQ' qE qR qP=>?_) ?_ ?_ ?_
 ·refine aJ (λa:BlS=>ah 26 [(12,.p (.int .i64 a.i)),(11,.p (.int .i64 xs.length)),(10,.p (.lst 5 (xs.map Sm.cs))),(0,.ptr M 20 0 0),(2,.ptr e0 2 0 0)]) (λa=>a.hh) (BlI l M k fZ sid (.ptr e0 2 0 0) I h xs v' s' r) (λa=>xs.length-a.i) ⟨0,sid,sv,h,v,s⟩ ⟨BkL.refl H C,I0,hE,abN _⟩ ?_ ?_
  ·refine bO (aa3 _) ?_;simp[Ω];omega
  rintro⟨i,sidc,svc,hh,vc,sc⟩ J;have F3:=J.il;have jl:=J.bk.fr.1;simp only at F3 jl
  by_cases h1:i<xs.length
  ·have hg:=Γ h1;have ha:=aa2 h1;obtain⟨x,hgx⟩:∃x,x=xs[i]:=⟨_,rfl⟩;rw[←hgx] at hg ha;have hkx:=x.cs_eq
   have hdr:xs.drop i=x::xs.drop (i+1):=by rw[abC h1,hgx]
   have O3:=J.ev;simp only[hdr] at O3;simp-implicitDefEqProofs[h1,hg,hkx];rw[←hgx];have B0:=J.bk.more [.row 5 [x.cs.map .p]];have hM0:=J.bk.run.lt;simp only at hM0 B0;have Q7:=w1 (i:=i) (by omega);refine(SJ G B0.run).mono ?_;rintro z h2 V9
   by_cases hF:sc.left=0
   ·rw[if_pos hF] at V9;obtain⟨rfl,rfl⟩:=V9
    have hr:r= .st 3/\v'=vc/\s'=sc:=by
     cases O3 with
     |bfuel _=>exact⟨rfl,rfl,rfl⟩
     |bgo q _ _=>omega
     |bend q _ _=>omega
    obtain⟨rfl,rfl,rfl⟩:=hr;simp-implicitDefEqProofs[];exact λts=>qP _ _ _ _ ⟨3,rfl,rfl,rfl,_,_,B0⟩
   rw[if_neg hF] at V9;obtain⟨rfl,rfl⟩:=V9;obtain⟨F,hF1⟩:∃F,sc.left=F+1:=⟨sc.left-1,by omega⟩;have hFF:sc.left-1=F:=by omega
   rw[hFF];have IS:=J.inn.tick hF1;have B1:BkL M l fZ sid (.ptr e0 2 0 0) vc I h (sc.at_ F) svc sidc ((hh++[AO.row 5 [x.cs.map AV.p]]).set M (lJ l fZ svc (sc.at_ F))):=B0.upd rfl (by simp only[S5.at_];omega) B0.run.len
   have hb:((hh++[AO.row 5 [x.cs.map AV.p]]).set M (lJ l fZ svc (sc.at_ F)))[hh.length]?=some (.row 5 [x.cs.map .p]):=by rw[aaV (by omega)];simp
   have A0:((hh++[AO.row 5 [x.cs.map AV.p]]).set M (lJ l fZ svc (sc.at_ F))).length=hh.length+1:=by simp
   generalize (hh++[AO.row 5 [x.cs.map AV.p]]).set M (lJ l fZ svc (sc.at_ F))=h2 at B1 hb A0;simp-implicitDefEqProofs[aa,hb]
   have fin:∀v1 s1 sv2 sid2 h3,BkL M l fZ sid (.ptr e0 2 0 0) v1 I h s1 sv2 sid2 h3->In5 v1 s1->Ev l (.blk k v1 s1 (xs.drop (i+1)) v' s' r)->∀sl,Aw.look sl 12= .p (.int .i64 (IntKind.i64.wrap ((i:Int)+1)))->Aw.look sl 11= .p (.int .i64 xs.length)->Aw.look sl 10= .p (.lst 5 (xs.map Sm.cs))->Aw.look sl 0= .ptr M 20 0 0->Aw.look sl 2= .ptr e0 2 0 0->
    ∃a:BlS,BlI l M k fZ sid (.ptr e0 2 0 0) I h xs v' s' r a/\xs.length-a.i<xs.length-i/\Wk h.length (ah 26 sl) h3 (ah 26 [(12,.p (.int .i64 a.i)),(11,.p (.int .i64 xs.length)),(10,.p (.lst 5 (xs.map Sm.cs))),(0,.ptr M 20 0 0),(2,.ptr e0 2 0 0)]) a.hh:=λv1 s1 sv2 sid2 h3 B I1 hE1 sl e12 e11 e10 e0' e2=>by
    have:=B.fr.1;refine⟨⟨i+1,sid2,sv2,h3,v1,s1⟩,⟨B,I1,hE1,by simp only;omega⟩,by simp only;omega,bO (by omega) ?_⟩;simp[Ω,e12,e11,e10,e0',e2,Q7];omega
   have hone:∃v1 s1 q,Ev l (.stm k vc (sc.at_ F) x v1 s1 q)/\((q= .ok none/\Ev l (.blk k v1 s1 (xs.drop (i+1)) v' s' r))\/(q≠ .ok none/\v'=v1/\s'=s1/\r=q)):=by
    cases O3 with
    |bfuel q=>omega
    |bgo q q2 q3=>rw[hF1] at q;cases q;exact⟨_,_,_,q2,.inl ⟨rfl,q3⟩⟩
    |bend q q2 q3=>rw[hF1] at q;cases q;exact⟨_,_,_,q2,.inr ⟨q3,rfl,rfl,rfl⟩⟩
   obtain⟨v1,s1,q,q1,q2⟩:=hone;refine(hS x ha _ _ _ _ _ q1 IS _ I sidc svc h2 B1.run B1.ci).mono ?_;rintro z h3 ⟨hR,sv2,sid2,B2⟩;have B3:=B1.trans B2
   match q,hR with
   | .ok none,hR=>
     cases hR;rcases q2 with⟨_,q2⟩|⟨q2,_⟩
     case inr=>exact(q2 rfl).elim
     simp-implicitDefEqProofs[aa];exact fin _ _ _ _ _ B3 (IS.stm q1) q2 _ (by simp) (by simp) (by simp) (by simp) (by simp)
   | .ok (some n),⟨b,J9,O2⟩=>
     cases J9;rcases q2 with⟨q2,_⟩|⟨_,rfl,rfl,rfl⟩
     ·cases q2
     simp-implicitDefEqProofs[aa];exact qR _ _ ⟨n,b,rfl,⟨sv2,sid2,B3⟩,O2,_,rfl⟩
   | .st c,hR=>
     cases hR;rcases q2 with⟨q2,_⟩|⟨_,rfl,rfl,rfl⟩
     ·cases q2
     simp-implicitDefEqProofs[];exact λts=>qP _ _ _ _ ⟨c,rfl,rfl,rfl,sv2,sid2,B3⟩
  ·simp-implicitDefEqProofs[h1];have:i=xs.length:=by omega
   subst this;have O3:=J.ev;simp only[acY] at O3;cases O3;exact qE _ _ ⟨rfl,⟨svc,sidc,J.bk⟩,_,rfl⟩
 ·rintro ts' h' ⟨rfl,B,l',rfl⟩;simp-implicitDefEqProofs[];exact⟨rfl,B⟩
 ·rintro ts' h' ⟨n,b,rfl,B,hb,l',rfl⟩;simp-implicitDefEqProofs[];exact⟨⟨b,rfl,hb⟩,B⟩
 ·rintro t y ts' h' ⟨c,rfl,rfl,rfl,B⟩;simp-implicitDefEqProofs[];exact⟨rfl,B⟩
end
section
section
variable {M:Nat} {l:List Fd} {fZ sid sid1 sid2:Nat} {u sv sv1 sv2:AV} {v v1 v2:List Sc5} {I:List Nat} {h h1 h2 os:List AO} {s s1 s2:S5}
theorem BkL.map(B:BkL M l fZ sid u v1 I h s1 sv1 sid1 h1){m:Nat}(hm:m∈I){o:AO}{q0:List (PV × AV)}(hq:h1[m]?=some (.mp q0))(hC:Chn (h1.set m o) u v2 I):BkL M l fZ sid u v2 I h s1 sv1 sid1 (h1.set m o):=
 ⟨B.run.frame (by rw[abu];exact aa3 _) (aaV (show m≠M from λe=>B.ci.mn (e▸hm))) (aaV (show m≠sid1 from λe=>B.ci.sn (e▸hm))),⟨hC,B.ci.nd,B.ci.sn,B.ci.mn⟩,B.fr.set (by simp[hm]) _,B.fs,λi hi x q=>by
   have h3:=B.env i hi x q;rw[aaV (show m≠i from λe=>by subst e;rw[hq] at h3;cases h3)];exact h3⟩
theorem Chn.hd{c:Sc5}{up:List Sc5}(H:Chn h u (c::up) I)(nd:I.Nodup):∃e m w,u= .ptr e 2 0 0/\h[e]?=some (.row 2 [[.mp m,w]])/\h[m]?=some (.mp (mpV c))/\m∈I/\∀c',Chn (h.set m (.mp (mpV c'))) u (c'::up) I:=by
 cases H with
 |last e m c h1 h2=>
  have hm:=(Δ.1 h2).1;have B8:m≠e:=λq=>by subst q;rw[h1] at h2;cases h2
  exact⟨e,m,_,rfl,h1,h2,by simp,λc'=> .last e m _ (by rw[aaV B8];exact h1) (aa7 hm)⟩
 |cons e m c u v I h1 h2 H=>
  have hm:=(Δ.1 h2).1;have B8:m≠e:=λq=>by subst q;rw[h1] at h2;cases h2
  simp only[aby,aa6,not_or] at nd;exact⟨e,m,_,rfl,h1,h2,by simp,λc'=> .cons e m _ u _ I (by rw[aaV B8];exact h1) (aa7 hm) (H.frame λi hi=>aaV (show m≠i from λq=>nd.2.1 (q▸hi)))⟩
theorem BkL.say(B:BkL M l fZ sid u v I h s1 sv1 sid1 h1){n:Int}{nid:Nat}(a1:h1.length<=nid)(a2:∀j,j<h1.length->j≠M->j≠sid1->h2[j]?=h1[j]?)(a3:h2[M]?=some (lJ l fZ (.sl nid 1 0 (s1.said++[n]).length) (s1.say n)))(a4:h2[nid]?=some (gr (s1.said++[n]))):
 BkL M l fZ sid u v I h (s1.say n) (.sl nid 1 0 (s1.said++[n]).length) nid h2:=by
 have hn:=(Δ.1 a4).1;have hs:=B.fs;have hl:=B.fr.1;refine⟨⟨a3,.ss _ _ a4,B.run.le,B.run.fu,B.run.len⟩,⟨B.ci.chn.frame λi hi=>a2 i (B.ci.chn.lt i hi) (λe=>B.ci.mn (e▸hi)) (λe=>B.ci.sn (e▸hi)),B.ci.nd,λhm=>by have:=B.ci.chn.lt _ hm;omega,B.ci.mn⟩,⟨by omega,λi hi hk=>?_⟩,.inr (by omega),λi hi x q=>by rw[a2 i (B.ci.chn.lt i hi) (λe=>B.ci.mn (e▸hi)) (λe=>B.ci.sn (e▸hi))];exact B.env i hi x q⟩;simp only[aa6,not_or] at hk;rw[a2 i (by omega) hk.1 (by omega),B.fr.2 i hi (by simp only[aa6,not_or];exact hk)]
end
theorem Um{l:List Fd}{fZ:Nat}{sv:AV}{s:S5}{i:Nat}{m:Int}(hi:i<s.cells.length)(a b c:AV)(ha:a= .p (fdL l))(hb:b= .p (.int .i64 fZ))(hc:c= .p (.int .i64 ((fZ-s.left:Nat):Int))):
 AO.row 20 [List.take (4+i) (a::b::c::sv::s.cells.map λn=> .p (.int .i64 n))++ .p (.int .i64 m)::List.drop (4+i) (b::c::sv::s.cells.map λn=> .p (.int .i64 n))]=lJ l fZ sv (s.put i m):=by
 subst ha;subst hb;subst hc;rw[show 4+i=i+1+1+1+1 by omega];simp only[act,acK,lJ,S5.put,abr,ace];rw[acj,List.set_eq_take_append_cons_drop,if_pos (by simpa using hi)]
variable (G:au)
theorem Chn.tl{h:List AO}{e e2 m:Nat}{c:Sc5}{v:List Sc5}{I:List Nat}(H:Chn h (.ptr e 2 0 0) (c::v) (e::m::I))(hI:I≠[])(he:h[e]?=some (.row 2 [[.mp m,.ptr e2 2 0 0]])):Chn h (.ptr e2 2 0 0) v I:=by
 cases H with
 |last=>exact(hI rfl).elim
 |cons _ _ _ u _ _ h1 h2 h3=>
  rw[he] at h1;simp only[Option.some.injEq,AO.row.injEq,List.cons.injEq,and_true,true_and] at h1;subst h1;exact h3
theorem WX{l:List Fd}{M k fZ sid e0:Nat}{sv:AV}{v v':List Sc5}{m:Sc5}{s s':S5}{I:List Nat}{h2:List AO}{r:O5 (Option Int)}{xs:List Sm}(hP:PbC G l M k fZ xs)(O3:Ev l (.blk k ([]::v) s xs (m::v') s' r))(I1:In5 v s)(H:MI M l fZ sv sid s h2)(C:CI h2 (.ptr e0 2 0 0) v I M sid):
 AC Tryz.prog G bD [.ptr M 20 0 0,.p (Θ xs),.ptr (h2.length+1) 2 0 0] (h2++[.mp [],.row 2 [[.mp h2.length,.ptr e0 2 0 0]]]) (BkX M l fZ sid (.ptr e0 2 0 0) v' I h2 s' r):=by
 have hch:Chn (h2++[.mp [],.row 2 [[.mp h2.length,.ptr e0 2 0 0]]]) (.ptr (h2.length+1) 2 0 0) ([]::v) ((h2.length+1)::h2.length::I):= .cons _ _ [] _ _ _ (by simp) (by simp[mpV]) (C.chn.more _);have hIl:=C.chn.lt;have hM1:=H.lt;have hS1:=H.said.lt
 have C3:CI (h2++[.mp [],.row 2 [[.mp h2.length,.ptr e0 2 0 0]]]) (.ptr (h2.length+1) 2 0 0) ([]::v) ((h2.length+1)::h2.length::I) M sid:=by
  refine⟨hch,?_,?_,?_⟩
  ·simp only[aby,aa6,not_or];exact⟨⟨by omega,λq=>by have:=hIl _ q;omega⟩,λq=>by have:=hIl _ q;omega,C.nd⟩
  ·simp only[aa6,not_or];exact⟨by omega,by omega,C.sn⟩
  ·simp only[aa6,not_or];exact⟨by omega,by omega,C.mn⟩
 have hI0:I≠[]:=by
  obtain⟨_,_,q,_⟩:=C.chn.is;intro e;rw[e] at q;cases q
 refine(hP _ _ _ _ _ O3 I1.opn _ _ sid sv _ (H.more _) C3).mono ?_;rintro z h3 ⟨hR,sv3,sid3,B3⟩
 have hsd:sid3=sid\/h2.length<=sid3:=by
  have:=B3.fs;simp at this;omega
 have K5:Fr (M::sid::I) h2 h3:=B3.fr.from.sub λi hi=>by
  simp only[aa6] at hi⊢;rcases hi with rfl|rfl|rfl|rfl|hi
  ·exact .inl (.inl rfl)
  ·exact .inl (.inr (.inl rfl))
  ·exact .inr (by omega)
  ·exact .inr (aa3 _)
  ·exact .inl (.inr (.inr hi))
 have hsn:=B3.ci.sn;simp only[aa6,not_or] at hsn;refine⟨hR,sv3,sid3,B3.run,⟨B3.ci.chn.tl hI0 (B3.env _ (by simp) _ (by simp)),C.nd,hsn.2.2,C.mn⟩,K5,hsd,λi hi x q=>B3.env i (by simp[hi]) x (by rw[aaT (hIl i hi)];exact q)⟩
theorem WT{l:List Fd}{M k fZ:Nat}{x:Sm}(W:WfS l k x)(hX:∀e,WfE l k e->PxC G l M k fZ e)(hB:PbC G l M k fZ x.body)(hE:PbC G l M k fZ x.els)(n6:x.op≠6):PsC G l M k fZ x:=by
 intro v s v' s' r hS I0 u I sid sv h H C;have hxc:=x.cs_eq;have A8:Φ x.args= .lst 4 (x.args.map Ex.cs):=rfl;obtain⟨e0,rfl,_,hue⟩:=C.chn.is;have hmb:=H.lt;have hsb:=H.said.lt;obtain⟨box,D4⟩:∃box,box=AO.row 5 [[.p (.int .i64 x.op),.p (.str x.name),.p (Φ x.args),.p (Θ x.body),.p (Θ x.els)]]:=⟨_,rfl⟩
 obtain⟨a,M1⟩:∃a,x.args[0]?=some a:=by
  have:x.args.length≠0:=by
   rw[W.argn];obtain⟨q1,q2⟩:=W.op;have:x.op=1\/x.op=2\/x.op=3\/x.op=4\/x.op=5\/x.op=6\/x.op=7\/x.op=8:=by omega
   rcases this with q|q|q|q|q|q|q|q<;>rw[q]<;>decide
  exact⟨x.args[0],Γ (by omega)⟩
 have ham:=aaW M1;have G7:=a.cs_eq
 obtain⟨s1,r1,hx1,E8⟩:∃s1 r1,Ev l (.ex k v s a s1 r1)/\((∃c,r1= .st c/\v'=v/\s'=s1/\r= .st c)\/∃n,r1= .ok n/\
  ((x.op=1/\∃m up,v=m::up/\de m x.name=none/\v'=(m++[(x.name,n)])::up/\s'=s1/\r= .ok none)\/(x.op=2/\(lK v x.name).isSome=true/\v'=mb v x.name n/\s'=s1/\r= .ok none)\/(x.op=3/\v'=v/\s'=s1.say n/\r= .ok none)\/
    (x.op=4/\v'=v/\∃b s2 r2,x.args[1]?=some b/\Ev l (.ex k v s1 b s2 r2)/\((∃c,r2= .st c/\s'=s2/\r= .st c)\/∃m,r2= .ok m/\((16<=n/\s'=s2/\r= .st 2)\/∃i:Nat,n=(i:Int)/\i<16/\s'=s2.put i m/\r= .ok none)))\/
    (x.op=5/\∃m,Ev l (.blk k ([]::v) s1 (if n≠0 then x.body else x.els) (m::v') s' r))\/(x.op=6/\LpA l k x v s1 n v' s' r)\/(x.op=7/\v'=v/\s'=s1/\r= .ok (some n))\/(x.op=8/\v'=v/\s'=s1/\r= .ok none))):=by
  have hd:∀{b:Ex} {q:List Ex},x.args=b::q->b=a:=λ{b q} e=>by rw[e] at M1;cases M1;rfl
  cases hS with
  |argS h6 hA h1=>cases hd hA;exact⟨_,_,h1,.inl ⟨_,rfl,rfl,rfl,rfl⟩⟩
  |slet h6 hA h1 h2 h3=>cases hd hA;exact⟨_,_,h1,.inr ⟨_,rfl,.inl ⟨h6,_,_,h2,h3,rfl,rfl,rfl⟩⟩⟩
  |sset h6 hA h1 h2=>cases hd hA;exact⟨_,_,h1,.inr ⟨_,rfl,.inr (.inl ⟨h6,h2,rfl,rfl,rfl⟩)⟩⟩
  |ssay h6 hA h1=>cases hd hA;exact⟨_,_,h1,.inr ⟨_,rfl,.inr (.inr (.inl ⟨h6,rfl,rfl,rfl⟩))⟩⟩
  |sput h6 hA h1 h2 h3=>cases hd hA;exact⟨_,_,h1,.inr ⟨_,rfl,.inr (.inr (.inr (.inl ⟨h6,rfl,_,_,_,by rw[hA];rfl,h2,.inr ⟨_,rfl,.inr ⟨_,rfl,h3,rfl,rfl⟩⟩⟩)))⟩⟩
  |sputC h6 hA h1 h2 h3=>cases hd hA;exact⟨_,_,h1,.inr ⟨_,rfl,.inr (.inr (.inr (.inl ⟨h6,rfl,_,_,_,by rw[hA];rfl,h2,.inr ⟨_,rfl,.inl ⟨h3,rfl,rfl⟩⟩⟩)))⟩⟩
  |sputS h6 hA h1 h2=>cases hd hA;exact⟨_,_,h1,.inr ⟨_,rfl,.inr (.inr (.inr (.inl ⟨h6,rfl,_,_,_,by rw[hA];rfl,h2,.inl ⟨_,rfl,rfl,rfl⟩⟩)))⟩⟩
  |sif h6 hA h1 h2=>cases hd hA;exact⟨_,_,h1,.inr ⟨_,rfl,.inr (.inr (.inr (.inr (.inl ⟨h6,_,h2⟩))))⟩⟩
  |sloop h6 h1=>
   obtain⟨b,s1,r1,hA,g1,g2⟩:=Pw h1;cases hd hA;rcases g2 with g2|⟨n,g2,g3⟩
   ·exact⟨_,_,g1,.inl g2⟩
   ·exact⟨_,_,g1,.inr ⟨n,g2,.inr (.inr (.inr (.inr (.inr (.inl ⟨h6,g3⟩)))))⟩⟩
  |sback h6 hA h1=>cases hd hA;exact⟨_,_,h1,.inr ⟨_,rfl,.inr (.inr (.inr (.inr (.inr (.inr (.inl ⟨h6,rfl,rfl,rfl⟩))))))⟩⟩
  |sdo h6 hA h1=>cases hd hA;exact⟨_,_,h1,.inr ⟨_,rfl,.inr (.inr (.inr (.inr (.inr (.inr (.inr ⟨h6,rfl,rfl,rfl⟩))))))⟩⟩
 clear hS;refine AC.go mt ?_;simp-implicitDefEqProofs[ic,hxc,A8,M1,G7,n6];have hbox':AO.row 5 [[.p (.int .i64 x.op),.p (.str x.name),.p (.lst 4 (x.args.map Ex.cs)),.p (Θ x.body),.p (Θ x.els)]]=box:=D4.symm;rw[hbox'];have hX1:=hX a (W.args a ham) v s s1 r1 hx1 I0.in5 _ I sid sv _ (H.more [box]) (C.more [box]);rw[show a.cs.map AV.p=[.p (.int .i64 a.op),.p (.int .i64 a.n),.p (.str a.name),.p (Φ a.kids)] by rw[G7];rfl] at hX1;refine hX1.mono ?_;rintro z h2 ⟨rfl,sv1,sid1,P⟩;have b2:h2[h.length]?=some box:=by have:=PL.keep H P (i:=0) (by simp);simpa using this
 have B1:BkL M l fZ sid (.ptr e0 2 0 0) v I h s1 sv1 sid1 h2:=(BkL.refl H C).ex P.from;have I1:=I0.in5.ex hx1;rcases E8 with⟨c,rfl,rfl,rfl,rfl⟩|⟨n,rfl,E8⟩
 ·simp-implicitDefEqProofs[eU];exact⟨rfl,sv1,sid1,B1⟩
 ·rw[D4] at b2;rcases E8 with⟨o1,m,up,rfl,hsg,rfl,rfl,rfl⟩|⟨o2,N1,rfl,rfl,rfl⟩|⟨o3,rfl,rfl,rfl⟩|⟨o4,rfl,b,s2,r2,J9,hx2,E8⟩|⟨o5,m,hbk⟩|⟨o6,hlp⟩|⟨o7,rfl,rfl,rfl⟩|⟨o8,rfl,rfl,rfl⟩
  ·obtain⟨e,mm,w,he,g1,g2,g3,g4⟩:=B1.ci.chn.hd B1.ci.nd;cases he;have hq:=Aq x.name n m;rw[hsg] at hq;simp only[Option.isSome_none,acR,if_false] at hq;simp-implicitDefEqProofs[aa,eU,b2,o1,g1,g2,hq];exact⟨rfl,_,_,B1.map g3 g2 (g4 _)⟩
  ·obtain⟨n0,I5⟩:=ack.1 N1;simp-implicitDefEqProofs[aa,eU,b2,o2];refine(Nr G B1.ci.chn B1.ci.nd I5).mono ?_;rintro z h3 ⟨rfl,e1,rfl,m,c,w,g1,g2,g3,g4,g5⟩;have hq:=Aq x.name n c;rw[if_pos (tt g3)] at hq;simp-implicitDefEqProofs[aa,g1,g2,hq,b2];exact⟨rfl,_,_,B1.map g4 g2 (g5 _)⟩
  ·have jM:=B1.run.men;simp only[lJ] at jM;have hM2:=B1.run.lt;have hm5:=I1.1.m;unfold M5 at hm5;have hsd:=B1.run.said;obtain⟨xs,Y1⟩:∃xs,xs=s1.said:=⟨_,rfl⟩;rw[←Y1] at hsd hm5;cases hsd with
   |nn _ _=>
    have jMa:∀os,(h2++os)[M]?=_:=λos=>(aaT hM2).trans jM
    simp-implicitDefEqProofs[aa,eU,b2,o3,jM, ↓jMa];refine⟨rfl,_,_,B1.say (n:=n) (nid:=h2.length+1) (by omega) (λj j1 j2 _=>by rw[aaV (Ne.symm j2),aaT j1]) ?_ ?_⟩
    ·rw[aa7 (by simp;omega),←Y1];rfl
    ·rw[aaV (by omega),aa5 (by omega),←Y1];simp[gr]
   |ss _ _ hu=>
    have hul:=(Δ.1 hu).1;simp only[gr] at hu;have hua:∀os,(h2++os)[sid1]?=some (.row 1 (xs.map λn=>[.p (.int .i64 n)])):=λos=>by rw[aaT hul];exact hu
    have B8:sid1≠M:=Ne.symm (B1.run.neS (by simp));have jMb:∀os z os',((h2++os).set sid1 z++os')[M]?=_:=λos z os'=>((aaT (by simp;omega)).trans (aaV B8)).trans ((aaT hM2).trans jM)
    simp-implicitDefEqProofs[aa,eU,b2,o3,jM, ↓hua, ↓jMb];have I6:List.take xs.length (xs.map λn=>[AV.p (.int .i64 n)])=xs.map λn=>[AV.p (.int .i64 n)]:=aaX (by simp)
    refine⟨⟨by omega,by omega⟩,?_⟩;refine⟨rfl,_,_,B1.say (n:=n) (nid:=h2.length+1) (by omega) (λj j1 j2 j3=>?_) ?_ ?_⟩
    ·rw[aaV (Ne.symm j2),aaT (by simp;omega),aaV (Ne.symm j3),aaT j1]
    ·rw[aa7 (by simp;omega),←Y1];simp[lJ,S5.say]
    ·rw[aaV (by omega),aa5 (by simp),←Y1];simp[gr,I6]
  ·have hb:=aaW J9;have W5:=b.cs_eq;simp-implicitDefEqProofs[aa,eU,b2,o4,A8,J9,W5];have hX2:=hX b (W.args b hb) _ _ _ _ hx2 I1.1 _ I sid1 sv1 _ P.run B1.ci;rw[show b.cs.map AV.p=[.p (.int .i64 b.op),.p (.int .i64 b.n),.p (.str b.name),.p (Φ b.kids)] by rw[W5];rfl] at hX2;refine hX2.mono ?_;rintro z h3 ⟨rfl,sv2,sid2,P2⟩;have B2:=B1.ex P2;have I2:=I1.1.ex hx2;rcases E8 with⟨c,rfl,rfl,rfl⟩|⟨m,rfl,E8⟩
   ·simp-implicitDefEqProofs[eU];exact⟨rfl,sv2,sid2,B2⟩
   ·simp-implicitDefEqProofs[aa,eU];have hn5:=I1.2 n rfl;obtain⟨i,rfl⟩:∃i:Nat,n=(i:Int):=⟨n.toNat,by have:=hn5.1;omega⟩;refine(LD G B2.run i (by have:=hn5.2;omega)).mono ?_;rintro z h4 hz;rcases E8 with⟨h16,rfl,rfl⟩|⟨i',hi,h16,rfl,rfl⟩
    ·rw[if_pos (by omega)] at hz;obtain⟨rfl,rfl⟩:=hz;simp-implicitDefEqProofs[];exact⟨rfl,sv2,sid2,B2⟩
    ·have hii:i'=i:=by omega
     subst hii;rw[if_neg (by omega)] at hz;obtain⟨rfl,rfl⟩:=hz;have jM:=B2.run.men;simp only[lJ] at jM;have F4:=B2.run.len;simp-implicitDefEqProofs[aa,jM];rw[Um (by omega) _ _ _ rfl rfl rfl];exact⟨by omega,rfl,_,_,B2.upd rfl (aa3 _) (by simp[S5.put,F4])⟩
  ·have fin:∀z h3,BkX M l fZ sid1 (.ptr e0 2 0 0) v' I h2 s' r z h3->BkX M l fZ sid (.ptr e0 2 0 0) v' I h s' r z h3:=λz h3 ⟨hR,sv3,sid3,B3⟩=>⟨hR,sv3,sid3,B1.trans B3⟩
   by_cases I5:n=0
   ·simp-implicitDefEqProofs[aa,eU,b2,o5,I5];refine(Hj G B1.ci.chn).mono ?_;rintro z h3 ⟨rfl,rfl⟩;have b3:∀os,(h2++os)[h.length]?=_:=λos=>(aaT (Δ.1 b2).1).trans b2
    simp-implicitDefEqProofs[aa,b3,b2];rw[if_neg (by omega)] at hbk;refine(WX G hE hbk I1.1 B1.run B1.ci).mono ?_;rintro z h3 hz;have hz:=fin _ _ hz;obtain⟨hR,B3⟩:=hz
    match r,hR with
    | .ok none,hR=>
      cases hR;simp-implicitDefEqProofs[aa];exact⟨rfl,B3⟩
    | .ok (some q),⟨b,J9,O2⟩=>
      cases J9;simp-implicitDefEqProofs[aa];exact⟨⟨b,rfl,O2⟩,B3⟩
    | .st c,hR=>
      cases hR;simp-implicitDefEqProofs[];exact⟨rfl,B3⟩
   ·simp-implicitDefEqProofs[aa,eU,b2,o5,I5];refine(Hj G B1.ci.chn).mono ?_;rintro z h3 ⟨rfl,rfl⟩;have b3:∀os,(h2++os)[h.length]?=_:=λos=>(aaT (Δ.1 b2).1).trans b2
    simp-implicitDefEqProofs[aa,b3,b2];rw[if_pos I5] at hbk;refine(WX G hB hbk I1.1 B1.run B1.ci).mono ?_;rintro z h3 hz;have hz:=fin _ _ hz;obtain⟨hR,B3⟩:=hz
    match r,hR with
    | .ok none,hR=>
      cases hR;simp-implicitDefEqProofs[aa];exact⟨rfl,B3⟩
    | .ok (some q),⟨b,J9,O2⟩=>
      cases J9;simp-implicitDefEqProofs[aa];exact⟨⟨b,rfl,O2⟩,B3⟩
    | .st c,hR=>
      cases hR;simp-implicitDefEqProofs[];exact⟨rfl,B3⟩
  ·exact(n6 o6).elim
  ·simp-implicitDefEqProofs[aa,eU,b2,o7];exact⟨⟨h2.length,rfl,by simp⟩,_,_,B1.more _⟩
  ·simp-implicitDefEqProofs[aa,eU,b2,o8];exact⟨rfl,_,_,B1⟩
end
section
structure LzS where (sid:Nat) (sv:AV) (hh:List AO) (v:List Sc5) (s:S5)
structure LzI (l:List Fd) (M k fZ sid:Nat) (u:AV) (I:List Nat) (h:List AO) (box:AO) (x:Sm) (v':List Sc5) (s':S5) (r:O5 (Option Int)) (a:LzS):Prop where
 bk:BkL M l fZ sid u a.v I (h++[box]) a.s a.sv a.sid a.hh
 inn:In5 a.v a.s
 ev:Ev l (.lp k a.v a.s x v' s' r)
theorem BkL.keep{M:Nat}{l:List Fd}{fZ sid sid1:Nat}{u sv sv1:AV}{v v1:List Sc5}{I:List Nat}{h h1 os:List AO}{s s1:S5}(H:MI M l fZ sv sid s h)(C:CI h u v I M sid)(B:BkL M l fZ sid u v1 I (h++os) s1 sv1 sid1 h1){i:Nat}(hi:i<os.length):h1[h.length+i]?=os[i]?:=by
 have a:=H.lt;have b:=H.said.lt;rw[B.fr.2 (h.length+i) (by simp;omega) (by simp only[aa6,not_or];exact⟨by omega,by omega,λq=>by have:=C.chn.lt _ q;omega⟩),aa5 (by omega),abI]
theorem BkL.from{M:Nat}{l:List Fd}{fZ sid sid1:Nat}{u sv1:AV}{v v1:List Sc5}{I:List Nat}{h h1 os:List AO}{s1:S5}(C:CI h u v I M sid)(B:BkL M l fZ sid u v1 I (h++os) s1 sv1 sid1 h1):BkL M l fZ sid u v1 I h s1 sv1 sid1 h1:=
 ⟨B.run,B.ci,B.fr.from,by have:=B.fs;simp at this;omega,λi hi x q=>B.env i hi x (by rw[aaT (C.chn.lt i hi)];exact q)⟩
variable (G:au)
theorem WL{l:List Fd}{M k fZ:Nat}{x:Sm}(W:WfS l k x)(hX:∀e,WfE l k e->PxC G l M k fZ e)(hB:PbC G l M k fZ x.body)(h6:x.op=6):PsC G l M k fZ x:=by
 intro v s v' s' r hS I0 u I sid sv h H C;have hxc:=x.cs_eq;have A8:Φ x.args= .lst 4 (x.args.map Ex.cs):=rfl;obtain⟨e0,rfl,_,hue⟩:=C.chn.is;have hmb:=H.lt;have hsb:=H.said.lt;obtain⟨box,D4⟩:∃box,box=AO.row 5 [[.p (.int .i64 6),.p (.str x.name),.p (.lst 4 (x.args.map Ex.cs)),.p (Θ x.body),.p (Θ x.els)]]:=⟨_,rfl⟩
 obtain⟨a,M1⟩:∃a,x.args[0]?=some a:=by
  have:x.args.length≠0:=by rw[W.argn,h6];decide
  exact⟨x.args[0],Γ (by omega)⟩
 have ham:=aaW M1;have G7:=a.cs_eq
 have hlp:Ev l (.lp k v s x v' s' r):=by
  cases hS with
  |argS q _ _=>exact(q h6).elim
  |sloop _ q=>exact q
  |slet q _ _ _ _=>omega
  |sset q _ _ _=>omega
  |ssay q _ _=>omega
  |sput q _ _ _ _=>omega
  |sputC q _ _ _ _=>omega
  |sputS q _ _ _=>omega
  |sif q _ _ _=>omega
  |sback q _ _=>omega
  |sdo q _ _=>omega
 clear hS;refine AC.go mt ?_;simp-implicitDefEqProofs[ic,hxc,A8,h6];rw[←D4]
 refine IF 0 (λts' h'=>r= .ok none/\(∃sv2 sid2,BkL M l fZ sid (.ptr e0 2 0 0) v' I h s' sv2 sid2 h')/\∃l,ts'=ah 109 l)
  (λts' h'=>∃n b,r= .ok (some n)/\(∃sv2 sid2,BkL M l fZ sid (.ptr e0 2 0 0) v' I h s' sv2 sid2 h')/\h'[b]?=some (.row 1 [[.p (.int .i64 n)]])/\∃l,ts'=ah 109 ((6,.ptr b 1 0 0)::l))
  (λt x h'=>∃c,t=ck/\x= .int .i64 c/\r= .st c/\∃sv2 sid2,BkL M l fZ sid (.ptr e0 2 0 0) v' I h s' sv2 sid2 h') (λQ' qE qR qP=>?_) ?_ ?_ ?_
 ·refine aJ (λa:LzS=>ah 109 [(4,.ptr h.length 5 0 0),(0,.ptr M 20 0 0),(2,.ptr e0 2 0 0)]) (λa=>a.hh) (LzI l M k fZ sid (.ptr e0 2 0 0) I h box x v' s' r) (λa=>a.s.left) ⟨sid,sv,h++[box],v,s⟩ ⟨BkL.refl (H.more _) (C.more _),I0.in5,hlp⟩ ?_ ?_
  ·refine bO (by simp) ?_;simp[Ω];omega
  rintro⟨sidc,svc,hh,vc,sc⟩ J;have jB:hh[h.length]?=some box:=by have:=BkL.keep H C J.bk (i:=0) (by simp);simpa using this
  have jl:=J.bk.fr.1;simp only[aa9,abc,abO] at jl;rw[D4] at jB;have hge:=J.bk.from C;simp-implicitDefEqProofs[jB,A8,M1,G7];have O3:=J.ev;simp only at O3;obtain⟨a',s1,r1,hxa,hx1,E8⟩:=Pw O3;have haa:a'=a:=by rw[hxa] at M1;cases M1;rfl
  subst haa;have hX1:=hX a' (W.args a' ham) _ _ _ _ hx1 J.inn _ I sidc svc hh J.bk.run J.bk.ci;rw[show a'.cs.map AV.p=[.p (.int .i64 a'.op),.p (.int .i64 a'.n),.p (.str a'.name),.p (Φ a'.kids)] by rw[G7];rfl] at hX1;refine hX1.mono ?_;rintro z h2 ⟨rfl,sv1,sid1,P⟩;have B1:=J.bk.ex P;simp only at B1;have jB2:h2[h.length]?=some box:=by have:=BkL.keep H C B1 (i:=0) (by simp);simpa using this
  rw[D4] at jB2;have I1:=J.inn.ex hx1;have hcn:=yP hx1;simp only[Ug] at hcn;rcases E8 with⟨c,rfl,rfl,rfl,rfl⟩|⟨n,rfl,E8⟩
  ·simp-implicitDefEqProofs[eU];exact λts=>qP _ _ _ _ ⟨c,rfl,rfl,rfl,_,_,B1.from C⟩
  rcases E8 with⟨rfl,rfl,rfl,rfl⟩|⟨I5,m,v1,s2,q1,hbk,E8⟩
  ·simp-implicitDefEqProofs[aa,eU];exact qE _ _ ⟨rfl,⟨_,_,B1.from C⟩,_,rfl⟩
  have b3:∀os,(h2++os)[h.length]?=_:=λos=>(aaT (Δ.1 jB2).1).trans jB2
  simp-implicitDefEqProofs[aa,eU,I5,jB2];refine(Hj G B1.ci.chn).mono ?_;rintro z h3 ⟨rfl,rfl⟩;simp-implicitDefEqProofs[aa,b3,jB2];refine(WX G hB hbk I1.1 B1.run B1.ci).mono ?_;rintro z h3 ⟨hR,sv3,sid3,B3⟩;have B4:=B1.trans B3;have I3:=(I1.1.opn.blk hbk).tl;have H8:=yP hbk;simp only[Ug] at H8
  match q1,hR with
  | .st c,hR=>
    cases hR;rcases E8 with⟨_,rfl,rfl,rfl⟩|⟨q,_⟩
    case inr=>cases q
    simp-implicitDefEqProofs[];exact λts=>qP _ _ _ _ ⟨c,rfl,rfl,rfl,_,_,B4.from C⟩
  | .ok (some q),⟨b,J9,O2⟩=>
    cases J9;rcases E8 with⟨_,rfl,rfl,rfl⟩|⟨q,_⟩
    case inr=>cases q
    simp-implicitDefEqProofs[aa];exact qR _ _ ⟨q,b,rfl,⟨_,_,B4.from C⟩,O2,_,rfl⟩
  | .ok none,hR=>
    cases hR;rcases E8 with⟨q,_⟩|⟨_,E8⟩
    ·exact(q rfl).elim
    simp-implicitDefEqProofs[aa];refine(SJ G B4.run).mono ?_;rintro z h4 hz;rcases E8 with⟨hF,rfl,rfl,rfl⟩|⟨F,hF,hlp2⟩
    ·rw[if_pos hF] at hz;obtain⟨rfl,rfl⟩:=hz;simp-implicitDefEqProofs[];exact λts=>qP _ _ _ _ ⟨3,rfl,rfl,rfl,_,_,B4.from C⟩
    ·rw[if_neg (by omega)] at hz;obtain⟨rfl,rfl⟩:=hz;have hFF:s2.left-1=F:=by omega
     rw[hFF];have B5:=B4.upd (s2:=s2.at_ F) rfl (by simp only[S5.at_];omega) B4.run.len;simp-implicitDefEqProofs[aa];refine⟨⟨sid3,sv3,_,v1,s2.at_ F⟩,⟨B5,(I3.tick hF).in5,hlp2⟩,by simp only[S5.at_];omega,bO (by have:=B5.fr.1;simp at this⊢;omega) ?_⟩;have:=B5.fr.1;simp at this;simp[Ω];omega
 ·rintro ts' h' ⟨rfl,B,l',rfl⟩;simp-implicitDefEqProofs[];exact⟨rfl,B⟩
 ·rintro ts' h' ⟨n,b,rfl,B,hb,l',rfl⟩;simp-implicitDefEqProofs[];exact⟨⟨b,rfl,hb⟩,B⟩
 ·rintro t y ts' h' ⟨c,rfl,rfl,rfl,B⟩;simp-implicitDefEqProofs[];exact⟨rfl,B⟩
end
section
def UW(uid n:Nat):AV->AV
 | .nils=> .nils
 |_=> .sl uid 1 0 n
theorem EI.cut{R cid V sid nid uid:Nat}{uv:AV}{w:Sc5}{b:Bool}{x:Int}{h:List AO}(E:EI V nid uid uv w b x h)(A:Ap R V sid cid nid uid){n:Nat}(hn:n<=w.length):EI V nid uid (UW uid n uv) (w.take n) b x (h.set V (Lc nid n (UW uid n uv) b x)):=by
 obtain⟨t,h1⟩:=E.names;have hl:(w.take n).length=n:=by rw[abg];omega
 refine⟨by rw[hl];exact aa7 E.lt.1,⟨(w.drop n).map (·.1)++t,?_⟩,?_,E.ne,by rw[abu];exact E.ul⟩
 ·rw[aaV E.neN,h1,←abn,←abT,abq]
 ·have hv:=E.vals;have hx:∀z,(h.set V z)[uid]?=h[uid]?:=λz=>aaV (Ne.symm A.uV)
  have hwl:(w.map (·.2)).length=w.length:=by simp
  generalize hvm:w.map (·.2)=vm at hv hwl;have hvt:(w.take n).map (·.2)=vm.take n:=by rw[←hvm,acm]
  rw[hvt];cases hv with
  |nn=>simp only[UW,List.take_nil];exact .nn _
  |ss _ _ t2 h2=>
   have H7:(vm.take n).length=n:=by rw[abg];omega
   have:=UV.ss (h:=h.set V (Lc nid n (UW uid n (.sl uid 1 0 vm.length)) b x)) uid (vm.take n) (vm.drop n++t2) (by rw[hx,h2,←abn,abq]);rw[H7] at this;exact this
variable (G:au)
end
section
theorem CoS.mem{l:List Fd}{k:Nat}{x:Sm}:∀{xs:List Sm} {d:Nat},CoS l k d xs->x∈xs->(∀a∈x.args,CoE l k a)/\(∃d,CoS l k d x.body)/\∃d,CoS l k d x.els
 |y::r,d,h,hx=>by
  obtain⟨a,b,c,e⟩:=h.head;rcases aa6.1 hx with rfl|hx
  ·exact⟨a,⟨_,b⟩,⟨_,c⟩⟩
  ·exact e.mem hx
theorem Wr{l:List Fd}{k d:Nat}{xs:List Sm}{x:Sm}(hf:∀x∈xs,∃d,an d x=true)(hz:aq xs<=1073741824)(hc:CoS l k d xs)(hx:x∈xs):WfS l k x:=by
 obtain⟨c,hform⟩:=hf x hx;obtain⟨h1,h2,h3,h4,h5⟩:=MJ hform;obtain⟨g1,g2,g3⟩:=hc.mem hx;have R9:=ce hx;have F7:=x.sz_eq;exact⟨⟨c,hform⟩,λa ha=>⟨⟨6,pO (h3 a ha)⟩,g1 a ha,by have:=aQ ha;omega⟩,⟨h4,by omega,g2⟩,⟨h5,by omega,g3⟩,h2,h1⟩
variable (G:au)
def LR:O5 Int->Int
 | .ok n=>n
 | .st _=>0
def yR(s:S5)(r:O5 Int):List PV:=[bx s.said,.int .i64 (uy r),.int .i64 (LR r),bx s.cells]
end
section
variable (G:au)
theorem XI{l:List Fd}(hc:am l=0)(hz:aD l<=1073741824)(M fZ:Nat):∀k,PcC G l M k fZ:=by
 intro k
 induction k using Nat.strongRecOn with
 |_ k ih=>
  have hX:∀e,WfE l k e->PxC G l M k fZ e:=λe W=>VQ G (λe E9 W ihk=>TG G hc hz ih e E9 W ihk) e.sz e (aa3 _) W
  have key:∀(N:Nat) (xs:List Sm),aq xs<N->(∀x∈xs,∃d,an d x=true)->aq xs<=1073741824->(∃d,CoS l k d xs)->PbC G l M k fZ xs:=by
   intro N
   induction N with
   |zero=>intro xs h;omega
   |succ N ihN=>
    rintro xs hN hf hzx ⟨d,hco⟩;refine TH G (by have:=bF xs;omega) λx hx=>?_
    have W:=Wr hf hzx hco hx;have R9:=ce hx;have F7:=x.sz_eq;have hB:=ihN x.body (by omega) W.body.1 W.body.2.1 W.body.2.2
    by_cases h6:x.op=6
    ·exact WL G W hX hB h6
    ·exact WT G W hX hB (ihN x.els (by omega) W.els.1 W.els.2.1 W.els.2.2) h6
  refine WD G hc hz λf hf=>?_
  have K4:=cL (aaW hf);have S6:f.sz=1+f.name.length+(f.params.length+(f.params.map List.length).sum)+aq f.body:=rfl;exact key (aq f.body+1) f.body (aci _) (λy hy=>⟨4,(fD hc).2 f (aaW hf) y hy⟩) (by omega) ⟨1,Su hc hf⟩
def sw(l:List Fd)(us:List Int)(fZ:Nat):List AO:=[.row 1 [[.p (fdL l)]],.row 1 [[.p (bx us)]],.row 4 [[.nils,.p (.int .i64 0),.p (.int .i64 0),.nils]],lJ l fZ .nils (s0 fZ),.row 1 [[.ptr 3 20 0 0]],.row 4 [[.nils,.p (.int .i64 0),.p (.int .i64 0),.nils]]]
theorem Ws{l:List Fd}{us:List Int}{fZ:Nat}{s':S5}{r:O5 Int}(hc:am l=0)(hz:aD l<=1073741824)(hl:0<l.length)(hu:∀n∈us,V5 n)(T5:fZ<=4000)(hE:Ev l (.cal (l.length-1) us (s0 fZ) s' r)):
 AC Tryz.prog G fb [.ptr 4 1 0 0,.ptr 0 1 0 0,.ptr 1 1 0 0,.ptr 5 4 0 0] (sw l us fZ++[.row 1 [[.p (.int .i64 0)]]]) λx h'=>∃sv sid h2,MI 3 l fZ sv sid s' h2/\Fr [3] (sw l us fZ++[.row 1 [[.p (.int .i64 0)]]]) h2/\(sid=3\/7<=sid)/\
  (match r with| .ok n=>x= .ret (.tup [])/\h'=h2.set 5 (.row 4 [[.nils,.p (.int .i64 0),.p (.int .i64 n),.nils]])| .st c=>x= .pan ck (.int .i64 c)/\h'=h2):=by
 have C4:fdL l= .lst 3 (l.map Fd.cs):=rfl;have E7:l.length<=aD l:=py l;have J8:IntKind.i64.wrap ((l.length:Int)-1)=((l.length-1:Nat):Int):=by rw[ae (by omega) (by omega)];omega
 have hM:MI 3 l fZ .nils 3 (s0 fZ) (sw l us fZ++[.row 1 [[.p (.int .i64 0)]]]):=⟨rfl,.nn _ (by simp[sw]),aa3 _,T5,by simp[s0]⟩;refine AC.go uw ?_;simp-implicitDefEqProofs[ml,sw,C4,J8];rw[←C4];refine(XI G hc hz 3 fZ (l.length-1) us (s0 fZ) s' r hE hu (tJ fZ) (by simp[M5,s0];omega) _ 3 .nils _ hM (.pp us)).mono ?_;rintro z h2 ⟨rfl,sv,sid,P⟩;have h5:h2[5]?=some (.row 4 [[.nils,.p (.int .i64 0),.p (.int .i64 0),.nils]]):=(P.fr.2 5 (by simp[sw]) (by simp)).trans rfl;have hsid:sid=3\/7<=sid:=by have:=P.fs;simp[sw] at this;exact this
 have hF:Fr [3] (sw l us fZ++[.row 1 [[.p (.int .i64 0)]]]) h2:=P.fr.sub λi hi=>by simp at hi;exact .inl (by simp[hi])
 cases r with
 |ok n=>
  simp-implicitDefEqProofs[aa,eU,h5];exact⟨sv,sid,h2,P.run,hF,hsid,rfl⟩
 |st c=>
  simp-implicitDefEqProofs[eU];exact⟨sv,sid,h2,P.run,hF,hsid,rfl⟩
end
section
variable (G:au)
mutual
def Sm.mq:Sm->Nat
 | .mk _ _ a b e=>2+3*gd a+Tv b+Tv e
def Tv:List Sm->Nat
 |[]=>0
 |s::r=>s.mq+Tv r
end
def Fd.mq(f:Fd):Nat:=1+f.params.length+Tv f.body
end
section
def triL:List (List Int):=[[0,0,0],[1,2,3],[255,16,7]]
def rS(n:Nat):List (List Int):=triL.map (·.take n)
def nsL(l:List (List Int)):PV:= .lst 1 (l.map λx=>[bx x])
def Tm(l:List (List Int)):AO:= .row 1 (l.map λx=>[.p (bx x)])
def zF(l:List Fd):List (List Int):=if am l=0 then(match l[l.length-1]? with|some f=>rS f.params.length|none=>[]) else[]
abbrev tL:Nat:=0
def pvTries:List PV:=[.int .i64 0,.int .i64 0,.int .i64 0,.int .i64 1,.int .i64 2,.int .i64 3,.int .i64 255,.int .i64 16,.int .i64 7]
theorem tg:AK.whole jO=FK.ak jy:=rfl
theorem Cl:AK.whole ma=FK.ak me:=rfl
variable (G:au)
theorem Ry(L:List (List PV))(hl:∀x∈L,x.length=1)(B8:L≠[])(hb:L.length<=1048576):AC Tryz.prog G bX [.p (.lst 1 L)] [] λx h=>x= .ret (.sl 1 1 0 L.length)/\h=[.dead,.row 1 (L.map (·.map .p))]:=by
 obtain⟨x,r,rfl⟩:=List.exists_cons_of_ne_nil B8;refine AC.go na ?_;simp-implicitDefEqProofs[iZ];simp at hb;omega
theorem Dc:VF Tryz.prog G bX [.p (.lst 1 [])] (.p (.lst 1 [])):=by
 have key:AC Tryz.prog G bX [.p (.lst 1 [])] [] λx h=>∃v,x= .ret v/\View h v (.lst 1 []):=by
  refine AC.go na ?_;simp-implicitDefEqProofs[iZ];refine⟨.nils 1,?_⟩;exact View.sl 1 1 0 [] [] rfl (by simp) (by simp) (λi j e q e' a h=>by simp at h)
 exact key.freezeR (λt v h ⟨_,e,_⟩=>by cases e) λv h ⟨u,e1,e2⟩=>by cases e1;exact .one e2 .nil
theorem Lo(n:Nat)(hn:n<=3):VF Tryz.prog G iR [.p (.int .i64 n)] (.p (nsL (rS n))):=by
 have key:AC Tryz.prog G iR [.p (.int .i64 n)] [] λx h=>x= .ret (.sl 0 1 0 3)/\h=[Tm (rS n)]:=by
  refine AC.goK Cj Cl ?_;simp-implicitDefEqProofs[ma,me]
  have hv:∀h:List AO,h[0]?=some (jv [0,0,0])->h[1]?=some (jv [1,2,3])->h[2]?=some (jv [255,16,7])->h[3]?=some (.row 1 [[.sl 0 1 0 3],[.sl 1 1 0 3],[.sl 2 1 0 3]])->View h (.sl 3 1 0 3) (nsL triL):=by
   intro h h0 h1 h2 h3;have v0:=mL h0;have v1:=mL h1;have v2:=mL h2;refine View.sl 3 1 0 _ [[bx [0,0,0]],[bx [1,2,3]],[bx [255,16,7]]] h3 (by simp) (by simp) λi j e q e' a a1 a2 a3 a4=>?_
   rw[abz] at a3
   match i,j,a1,a2,a3,a4 with
   |0,0,a1,a2,a3,a4=>cases a1;cases a2;cases a3;cases a4;exact v0
   |1,0,a1,a2,a3,a4=>cases a1;cases a2;cases a3;cases a4;exact v1
   |2,0,a1,a2,a3,a4=>cases a1;cases a2;cases a3;cases a4;exact v2
   |i+3,_,a1,a2,a3,a4=>simp at a1
   |0,j+1,a1,a2,a3,a4=>cases a1;simp at a2
   |1,j+1,a1,a2,a3,a4=>cases a1;simp at a2
   |2,j+1,a1,a2,a3,a4=>cases a1;simp at a2
  refine ju (ah 29 [(0,.p (.int .i64 n)),(3,.p (nsL triL))]) [] ?_ ?_
  ·simp-implicitDefEqProofs[];refine cI 0 (by omega) (by simp) rfl (.nil _) ⟨.keep (by simp[Ω]) .nil,.one (hv _ rfl rfl rfl rfl) .nil,trivial⟩
  simp-implicitDefEqProofs[];have hns:nsL triL= .lst 1 [[bx [0,0,0]],[bx [1,2,3]],[bx [255,16,7]]]:=rfl;refine aJ (λi:Nat=>ah 29 [(0,.p (.int .i64 n)),(3,.p (nsL triL)),(4,.sl 0 1 0 i),(5,.p (.int .i64 i))]) (λi=>[Tm ((rS n).take i)]) (λi=>i<=3) (λi=>3-i) 0 (by simp) ?_ ?_
  ·have e:Tm ((rS n).take 0)= .row 1 []:=rfl;rw[e];refine ab ?_ ?_ ?_
   ·simp
   ·simp[Ξ]
   ·simp[Ω,hns]
  intro i hi;simp-implicitDefEqProofs[hns];refine aU (λh=>?_) (λh=>?_)
  ·simp at h
   have hx:∃x:List Int,[[bx [0,0,0]],[bx [1,2,3]],[bx [255,16,7]]][i]?=some [bx x]/\x.length=3/\(rS n).take (i+1)=(rS n).take i++[x.take n]/\((rS n).take i).length=i:=by
    match i,h with
    |0,_=>exact⟨[0,0,0],rfl,rfl,rfl,rfl⟩
    |1,_=>exact⟨[1,2,3],rfl,rfl,rfl,rfl⟩
    |2,_=>exact⟨[255,16,7],rfl,rfl,rfl,rfl⟩
   obtain⟨x,hg,hx3,hT,hli⟩:=hx;have A3:bx x= .lst 1 (x.map λn=>[.int .i64 n]):=rfl;have hmin:min n x.length=n:=ab2 (by omega);have W6:n<=x.length:=by omega
   rw[A3] at hg;generalize (rS n).take i=out at hT hli⊢;have M9:∀l,Tm l= .row 1 (l.map λx=>[.p (bx x)]):=λ_=>rfl
   simp-implicitDefEqProofs[hg,W6,hmin,M9];refine⟨⟨by omega,by omega⟩,⟨by omega,by omega,by omega⟩,i+1,by omega,by omega,?_⟩;have e4:List.take (i+1) ((rS n).map λx=>[AV.p (bx x)])=(out.map λx=>[AV.p (bx x)])++[[.p (bx (x.take n))]]:=by rw[←acm,hT,abT];rfl
   rw[e4,aaX (l:=List.map _ out) (by rw[abi];omega)];have hpu:∀y∈out.map λx=>[AV.p (bx x)],aj 0 y:=λy hy=>by obtain⟨_,_,rfl⟩:=abb.1 hy;simp
   refine Wk.trans (ts1:=ah 29 [(0,.p (.int .i64 n)),(3,.p (nsL triL)),(4,.sl 0 1 0 (i+1)),(5,.p (.int .i64 (i+1:Nat)))]) (h1:=[.row 1 ((out.map λx=>[AV.p (bx x)])++[[.sl 1 1 0 n]]),jv (x.take n)]) (bB [4,2] (by simp) (by simp) (by decide) (bT (λy hy=>?_) ?_ (aw ?_ ?_ aP)) ?_) (cI 1 (by omega) (by simp) rfl (.rows (by simp) (λj e e1 h1 h2=>?_) (.nil _)) ?_)
   ·rcases aaZ.1 hy with h|h
    ·exact aR (by simp) _ (hpu y h)
    ·rw[aa0.1 h];simp[Ω]
   ·show some _=some _;rw[abT,abh (g:=id) λy hy=>dM _ y (hpu y hy)];simp[ren,bu]
   ·simp[jv,acm];rfl
   ·exact λy hy=>by obtain⟨_,_,rfl⟩:=abb.1 hy;simp
   ·simp[Ω,ren,hns,w1 (i:=i) (by omega)]
   ·rcases abx j out.length with hj|hj
    ·rw[aaT (by simpa using hj)] at h1 h2;rw[h1] at h2;cases h2;obtain⟨_,_,rfl⟩:=abb.1 (aaW h1);exact .keep (by simp) .nil
    ·rw[aa5 (by simpa using hj)] at h1 h2;rw[abi] at h1 h2;generalize j-out.length=q at h1 h2;cases q with
     |succ q=>simp at h1
     |zero=>
      simp at h1 h2;subst h1;subst h2;have hv:=mL (l:=x.take n) (id:=1) (h:=tail 1 [.row 1 ((out.map λx=>[AV.p (bx x)])++[[.sl 1 1 0 n]]),jv (x.take n)]) rfl;rw[abg,hmin] at hv;exact .one hv .nil
   ·exact⟨.keep (by simp[Ω]) .nil,.keep (by simp[Ω,hns]) .nil,.keep (by simp[Ω]) .nil,.keep (by simp[Ω]) .nil,trivial⟩
  ·simp at h;have E3:i=3:=by omega
   subst E3;have:(rS n).take 3=rS n:=rfl;rw[this];simp-implicitDefEqProofs[]
 refine key.freezeR (λt v h ⟨e,_⟩=>by cases e) λv h ⟨e1,e2⟩=>?_
 cases e1;subst e2;have:=gI (h:=[.row 1 ((rS n).map λx=>[AV.p (bx x)])]) (id:=0) (sz:=1) (n:=3) (ls:=(rS n).map λx=>[bx x]) (by simp) (by simp[rS,triL]) (λx hx=>by obtain⟨b,_,rfl⟩:=abb.1 hx;rfl);exact .one this .nil
end
section
variable (G:au)
def trO(x:List Int)(n:Nat):AO:=jv (x.take n)
def trH(n:Nat):Nat->List AO
 |0=>[]
 |1=>[trO [0,0,0] n,.row 1 [[.sl 0 1 0 n]]]
 |2=>[trO [0,0,0] n,trO [1,2,3] n,.row 1 [[.sl 0 1 0 n],[.sl 1 1 0 n]]]
 |_=>[trO [0,0,0] n,trO [1,2,3] n,trO [255,16,7] n,.row 1 [[.sl 0 1 0 n],[.sl 1 1 0 n],[.sl 2 1 0 n]]]
def trS:Nat->AV
 |0=> .nils
 |i+1=> .sl (i+1) 1 0 (i+1)
theorem rz(x:List Int)(n m:Nat):Ξ m (trO x n):=bG (By _)
theorem VC(x:List Int)(n m:Nat):cV m (trO x n)=trO x n:=by simp only[trO,cV,jv,acW];rfl
theorem zZ(x:List Int)(n:Nat)(hn:0<n)(W6:n<=x.length)(hb:x.length<=1000)(h:List AO):AC Tryz.prog G bX [.p (.lst 1 (List.take n (x.map λv=>[.int .i64 v])))] h λy h'=>y= .ret (.sl (h.length+1) 1 0 n)/\h'=h++[.dead,trO x n]:=by
 have hl:(List.take n (x.map λv=>[PV.int .i64 v])).length=n:=by rw[abg,abi];omega
 have:=Ry G (List.take n (x.map λv=>[.int .i64 v])) (λy hy=>by obtain⟨_,_,rfl⟩:=abb.1 (abv hy);rfl) (by intro e;rw[e] at hl;simp at hl;omega) (by rw[hl];omega);rw[hl] at this
 have e:AO.row 1 ((List.take n (x.map λv=>[PV.int .i64 v])).map (·.map .p))=trO x n:=by rw[trO,jv,←acm,acW];rfl
 rw[e] at this;refine(AC.lift this (by simp) rfl ?_).mono ?_
 ·simp[JI,trO,jv,uI,Bn];intro y hy;obtain⟨_,_,rfl⟩:=abb.1 (abv hy);rfl
 ·rintro y h' ⟨rfl,rfl⟩;refine⟨?_,?_⟩
  ·rfl
  ·simp only[abd,abM,VC];rfl
variable (hT:G tL=some pvTries)
include hT
theorem Mw(n:Nat)(I5:0<n)(hn:n<=3):AC Tryz.prog G gE [.p (.int .i64 n)] [] λx h=>x= .ret (.sl 3 1 0 3)/\h=trH n 3:=by
 unfold tL at hT;refine AC.goK tn tg ?_;simp-implicitDefEqProofs[jO,jy,hT,pvTries];refine aJ (λi:Nat=>ah 18 [(0,.p (.int .i64 n)),(3,trS i),(6,.agg (pvTries.map .p)),(7,.p (.int .i64 i))]) (trH n) (λi=>i<=3) (λi=>3-i) 0 (by simp) ?_ ?_
 ·show Wk 0 _ _ _ [];exact bV rfl (by simp[Ω,trS,pvTries])
 intro i hi;have hnI:(n:Int)<=3:=by omega
 simp-implicitDefEqProofs[pvTries];refine aU (λh=>?_) (λh=>?_)
 ·simp at h;have hi3:i=0\/i=1\/i=2:=by omega
  rcases hi3 with rfl|rfl|rfl
  ·simp-implicitDefEqProofs[];refine ju (ah 18 [(0,.p (.int .i64 n)),(3,.nils),(5,.eptr [.int .i64 0,.int .i64 0,.int .i64 0] 0),(6,.agg (pvTries.map .p)),(7,.p (.int .i64 0))]) [] ?_ ?_
   ·simp-implicitDefEqProofs[trH,trS];refine cI 0 (by omega) (by simp) rfl (.nil _) ?_;exact⟨.keep (by simp[Ω]) .nil,.keep (by simp[Ω]) .nil,.ptr rfl rfl .nil,.keep (by simp[Ω,pvTries]) .nil,.keep (by simp[Ω]) .nil,trivial⟩
   have F4:=zZ G [0,0,0] n I5 hn (by simp) [];simp only[abd,abM] at F4;simp-implicitDefEqProofs[hn];refine F4.mono ?_;rintro r h2 ⟨rfl,rfl⟩;simp-implicitDefEqProofs[aa];refine⟨1,by omega,by omega,?_⟩;have w0:IntKind.i64.wrap 1=1:=by decide
   rw[w0];simp only[trH,trS];refine cK [1,3] (by omega) (by simp) (bt (o:=trO [0,0,0] n) rfl (rz _ _ _) (bT (by simp[Ω]) (by simp[ren,bu]) aP)) ?_;simp[Ω,ren];rfl
  ·simp-implicitDefEqProofs[];refine ju (ah 18 [(0,.p (.int .i64 n)),(3,.sl 1 1 0 1),(5,.eptr [.int .i64 1,.int .i64 2,.int .i64 3] 0),(6,.agg (pvTries.map .p)),(7,.p (.int .i64 1))]) [trO [0,0,0] n,.row 1 [[.sl 0 1 0 n]]] ?_ ?_
   ·simp-implicitDefEqProofs[trH,trS];refine cI 2 (by omega) (by simp) rfl (.same (rz _ _ _) (.same (by simp[Ξ,Ω]) (.nil _))) ?_;exact⟨.keep (by simp[Ω]) .nil,.keep (by simp[Ω]) .nil,.ptr rfl rfl .nil,.keep (by simp[Ω,pvTries]) .nil,.keep (by simp[Ω]) .nil,trivial⟩
   have F4:=zZ G [1,2,3] n I5 hn (by simp) [trO [0,0,0] n,.row 1 [[.sl 0 1 0 n]]];simp only[abd,abM] at F4;simp-implicitDefEqProofs[hn];refine F4.mono ?_;rintro r h2 ⟨rfl,rfl⟩;simp-implicitDefEqProofs[aa];refine⟨2,by omega,by omega,?_⟩;have w0:IntKind.i64.wrap 2=2:=by decide
   rw[w0];simp only[trH,trS];refine cK [0,3,5] (by omega) (by simp) (bt (o:=trO [0,0,0] n) rfl (rz _ _ _) (bt (o:=trO [1,2,3] n) rfl (rz _ _ _) (bT (by simp[Ω]) (by simp[ren,bu]) aP))) ?_;simp[Ω,ren];rfl
  ·simp-implicitDefEqProofs[];refine ju (ah 18 [(0,.p (.int .i64 n)),(3,.sl 2 1 0 2),(5,.eptr [.int .i64 255,.int .i64 16,.int .i64 7] 0),(6,.agg (pvTries.map .p)),(7,.p (.int .i64 2))]) [trO [0,0,0] n,trO [1,2,3] n,.row 1 [[.sl 0 1 0 n],[.sl 1 1 0 n]]] ?_ ?_
   ·simp-implicitDefEqProofs[trH,trS];refine cI 3 (by omega) (by simp) rfl (.same (rz _ _ _) (.same (rz _ _ _) (.same (by simp[Ξ,Ω]) (.nil _)))) ?_;exact⟨.keep (by simp[Ω]) .nil,.keep (by simp[Ω]) .nil,.ptr rfl rfl .nil,.keep (by simp[Ω,pvTries]) .nil,.keep (by simp[Ω]) .nil,trivial⟩
   have F4:=zZ G [255,16,7] n I5 hn (by simp) [trO [0,0,0] n,trO [1,2,3] n,.row 1 [[.sl 0 1 0 n],[.sl 1 1 0 n]]];simp only[abd,abM] at F4;simp-implicitDefEqProofs[hn];refine F4.mono ?_;rintro r h2 ⟨rfl,rfl⟩;simp-implicitDefEqProofs[aa];refine⟨3,by omega,by omega,?_⟩;have w0:IntKind.i64.wrap 3=3:=by decide
   rw[w0];simp only[trH,trS];refine cK [0,1,4,6] (by omega) (by simp) (bt (o:=trO [0,0,0] n) rfl (rz _ _ _) (bt (o:=trO [1,2,3] n) rfl (rz _ _ _) (bt (o:=trO [255,16,7] n) rfl (rz _ _ _) (bT (by simp[Ω]) (by simp[ren,bu]) aP)))) ?_;simp[Ω,ren];rfl
 ·simp at h;have E3:i=3:=by omega
  subst E3;simp-implicitDefEqProofs[trS]
def trZ(i:Nat):List AO:=if i=0 then[] else[.row 1 (List.replicate i [.p (.lst 1 [])])]
def GT(i:Nat):AV:=if i=0 then .nils else .sl 0 1 0 i
theorem KV:AC Tryz.prog G gE [.p (.int .i64 0)] [] λx h=>x= .ret (.sl 0 1 0 3)/\h=[.row 1 (List.replicate 3 [.p (.lst 1 [])])]:=by
 unfold tL at hT;refine AC.goK tn tg ?_;simp-implicitDefEqProofs[jO,jy,hT,pvTries];refine aJ (λi:Nat=>ah 18 [(0,.p (.int .i64 0)),(3,GT i),(6,.agg (pvTries.map .p)),(7,.p (.int .i64 i))]) trZ (λi=>i<=3) (λi=>3-i) 0 (by simp) ?_ ?_
 ·show Wk 0 _ _ _ [];exact bV rfl (by simp[Ω,GT,pvTries])
 intro i hi;simp-implicitDefEqProofs[pvTries];refine aU (λh=>?_) (λh=>?_)
 ·simp at h;have hi3:i=0\/i=1\/i=2:=by omega
  rcases hi3 with rfl|rfl|rfl
  ·simp-implicitDefEqProofs[];refine ju (ah 18 [(0,.p (.int .i64 0)),(3,.nils),(5,.eptr [.int .i64 0,.int .i64 0,.int .i64 0] 0),(6,.agg (pvTries.map .p)),(7,.p (.int .i64 0))]) [] ?_ ?_
   ·simp-implicitDefEqProofs[trZ,GT];refine cI 0 (by omega) (by simp) rfl (.nil _) ?_;exact⟨.keep (by simp[Ω]) .nil,.keep (by simp[Ω]) .nil,.ptr rfl rfl .nil,.keep (by simp[Ω,pvTries]) .nil,.keep (by simp[Ω]) .nil,trivial⟩
   simp-implicitDefEqProofs[];refine(Dc G).use ?_;simp-implicitDefEqProofs[];refine⟨1,by omega,by omega,?_⟩;have w0:IntKind.i64.wrap 1=1:=by decide
   rw[w0];have e1:trZ 1=[.row 1 [[.p (.lst 1 [])]]]:=rfl;have e2:GT 1= .sl 0 1 0 1:=rfl;rw[e1,e2];refine cK [1] (by omega) (by simp) (aw rfl (by simp) aP) ?_;simp[Ω,ren];rfl
  ·simp-implicitDefEqProofs[];refine ju (ah 18 [(0,.p (.int .i64 0)),(3,.sl 0 1 0 1),(5,.eptr [.int .i64 1,.int .i64 2,.int .i64 3] 0),(6,.agg (pvTries.map .p)),(7,.p (.int .i64 1))]) [.row 1 [[.p (.lst 1 [])]]] ?_ ?_
   ·simp-implicitDefEqProofs[trZ,GT];refine cI 1 (by omega) (by simp) rfl (.same (by simp[Ξ,Ω]) (.nil _)) ?_;exact⟨.keep (by simp[Ω]) .nil,.keep (by simp[Ω]) .nil,.ptr rfl rfl .nil,.keep (by simp[Ω,pvTries]) .nil,.keep (by simp[Ω]) .nil,trivial⟩
   simp-implicitDefEqProofs[];refine(Dc G).use ?_;simp-implicitDefEqProofs[];refine⟨2,by omega,by omega,?_⟩;have w0:IntKind.i64.wrap 2=2:=by decide
   rw[w0];have e1:trZ 2=[.row 1 [[.p (.lst 1 [])],[.p (.lst 1 [])]]]:=rfl;have e2:GT 2= .sl 0 1 0 2:=rfl;rw[e1,e2];refine cK [2] (by omega) (by simp) (aw rfl (by simp) aP) ?_;simp[Ω,ren];rfl
  ·simp-implicitDefEqProofs[];refine ju (ah 18 [(0,.p (.int .i64 0)),(3,.sl 0 1 0 2),(5,.eptr [.int .i64 255,.int .i64 16,.int .i64 7] 0),(6,.agg (pvTries.map .p)),(7,.p (.int .i64 2))]) [.row 1 [[.p (.lst 1 [])],[.p (.lst 1 [])]]] ?_ ?_
   ·simp-implicitDefEqProofs[trZ,GT];refine cI 1 (by omega) (by simp) rfl (.same (by simp[Ξ,Ω]) (.nil _)) ?_;exact⟨.keep (by simp[Ω]) .nil,.keep (by simp[Ω]) .nil,.ptr rfl rfl .nil,.keep (by simp[Ω,pvTries]) .nil,.keep (by simp[Ω]) .nil,trivial⟩
   simp-implicitDefEqProofs[];refine(Dc G).use ?_;simp-implicitDefEqProofs[];refine⟨3,by omega,by omega,?_⟩;have w0:IntKind.i64.wrap 3=3:=by decide
   rw[w0];have e1:trZ 3=[.row 1 [[.p (.lst 1 [])],[.p (.lst 1 [])],[.p (.lst 1 [])]]]:=rfl;have e2:GT 3= .sl 0 1 0 3:=rfl;rw[e1,e2];refine cK [2] (by omega) (by simp) (aw rfl (by simp) aP) ?_;simp[Ω,ren];rfl
 ·simp at h;have E3:i=3:=by omega
  subst E3;simp-implicitDefEqProofs[trZ,GT]
omit hT
theorem BA{h:List AO}{id:Nat}{l:List Int}(e:h[id]?=some (jv l)){n:Nat}(hn:n=l.length):OwnL true h [.sl id 1 0 n] [bx l] [id]:=by
 subst hn
 have hf:∀l:List Int,OwnL true h (l.map λw=>[AV.p (.int .i64 w)]).flatten (l.map λw=>[PV.int .i64 w]).flatten []:=by
  intro l
  induction l with
  |nil=>exact .nil
  |cons w r ih=>exact .p _ (λ_=>rfl) ih
 have:RowOwn true h id 1 (l.map λw=>[.p (.int .i64 w)]) (l.map λw=>[.int .i64 w]) []:=⟨e,by simp,by simp,by simp,hf l,by simp⟩;exact this.tree (by simp)
include hT
theorem NS(n:Nat)(hn:n<=3):AC Tryz.prog G gE [.p (.int .i64 n)] [] (MkW eV true [nsL (rS n)]):=by
 rcases acD n with rfl|h0
 ·refine(KV G hT).mono ?_;rintro x h ⟨rfl,rfl⟩;have hr:RowOwn true [AO.row 1 (List.replicate 3 [AV.p (.lst 1 [])])] 0 1 (List.replicate 3 [AV.p (.lst 1 [])]) (List.replicate 3 [PV.lst 1 []]) []:=⟨rfl,rfl,by simp,by simp,.p _ (λ_=>rfl) (.p _ (λ_=>rfl) (.p _ (λ_=>rfl) .nil)),by simp⟩;exact⟨[.sl 0 1 0 3],_,rfl,hr.tree rfl,by simp⟩
 ·refine(Mw G hT n h0 hn).mono ?_;rintro x h ⟨rfl,rfl⟩;have hl:∀x:List Int,x.length=3->n=(x.take n).length:=λx e=>by rw[abg];omega
  have o1:OwnL true (trH n 3) [.sl 0 1 0 n] [bx ([0,0,0].take n)] [0]:=BA rfl (hl _ rfl);have o2:OwnL true (trH n 3) [.sl 1 1 0 n] [bx ([1,2,3].take n)] [1]:=BA rfl (hl _ rfl);have o3:OwnL true (trH n 3) [.sl 2 1 0 n] [bx ([255,16,7].take n)] [2]:=BA rfl (hl _ rfl);have hr:RowOwn true (trH n 3) 3 1 [[.sl 0 1 0 n],[.sl 1 1 0 n],[.sl 2 1 0 n]] [[bx ([0,0,0].take n)],[bx ([1,2,3].take n)],[bx ([255,16,7].take n)]] [0,1,2]:=⟨rfl,rfl,by simp,by simp,o1.app (o2.app o3),by simp⟩;exact⟨[.sl 3 1 0 3],_,rfl,hr.tree rfl,by simp⟩
end
section
variable (G:au)
def uD(l:List Fd)(fZ:Nat)(s:S5):List PV:=[fdL l,.int .i64 fZ,.int .i64 ((fZ-s.left:Nat):Int),bx s.said]++s.cells.map λn=> .int .i64 n
theorem Dx{hF:List AO}{m:Nat}{L:List (Nat × AV)}:∀{l1:List (Nat × AV)},(∀x∈l1,Aw.look L x.1=x.2/\Ω m x.2)->FzA hF m L l1
 |[],_=>trivial
 |x::r,h=>⟨by obtain⟨q1,q2⟩:=h x (by simp);rw[q1];exact .keep q2 .nil,Dx λy hy=>h y (by simp[hy])⟩
theorem VK{l:List Fd}{fZ:Nat}{sv:AV}{sid:Nat}{s:S5}{h:List AO}{r2 r5:AO}{n:Nat}(H:MI 3 l fZ sv sid s h)(h2:h[2]?=some r2)(h4:h[4]?=some (.row 1 [[.ptr 3 20 0 0]]))(h5:h[5]?=some r5)(k2:Ξ h.length r2)(k5:Ξ h.length r5)(hs:sid=3\/7<=sid)
 {l1:List (Nat × AV)}(hl:∀x∈l1,Ω h.length x.2)(I7:∀x∈l1,Aw.look l1 x.1=x.2):
 ∃h',(∀L,(∀x∈l1,Aw.look L x.1=x.2)->Wk 0 (ah n L) h (ah n l1) h')/\h'.length=h.length/\h'[2]?=some r2/\h'[4]?=some (.row 1 [[.eptr (uD l fZ s) 0]])/\h'[5]?=some r5:=by
 have hl3:=H.lt;have hl5:=(Δ.1 h5).1;have hm:=H.men;obtain⟨X,hX⟩:∃X:Nat->AO->AO,X=λi o=>if i=sid/\sid≠3 then o else .dead:=⟨_,rfl⟩
 obtain⟨Y,hY⟩:∃Y:Nat->AO->AO,Y=λi o=>if i=3 then .row 20 [(uD l fZ s).map .p] else if i=2\/i=4\/i=5 then o else .dead:=⟨_,rfl⟩
 have hF1:View (h.mapIdx X) sv (bx s.said):=by
  have hsd:=H.said;have B8:=H.neS;generalize s.said=xs at hsd;cases hsd with
  |nn _ _=>exact .nils _
  |ss _ _ q=>
   have hn3:sid≠3:=λe=>B8 (by simp) e.symm
   exact mL (by rw[acy,q,hX];simp[hn3,gr,jv])
 have E6:∀xs:List Int,Fzs (h.mapIdx X) h.length (xs.map λn=> .p (.int .i64 n)) (xs.map λn=> .p (.int .i64 n)):=λxs=>by
  induction xs with
  |nil=>exact .nil
  |cons x r ih=>exact .keep (by simp[Ω]) ih
 have eX:∀i o,X i o=if i=sid/\sid≠3 then o else .dead:=λ_ _=>by rw[hX]
 have eY:∀i o,Y i o=if i=3 then .row 20 [(uD l fZ s).map .p] else if i=2\/i=4\/i=5 then o else .dead:=λ_ _=>by rw[hY]
 have t1:Thn (h.mapIdx X) h.length h (h.mapIdx X) (h.mapIdx Y):=Hx h X Y λi o hi=>by
  by_cases i3:i=3
  ·subst i3;rw[hm] at hi;cases hi;refine .inr (.inr (.inr ⟨by rw[eX,if_neg (by omega)],20,_,(uD l fZ s).map .p,rfl,by rw[eY,if_pos rfl],?_⟩));simp only[uD,abT,abd,abM,acW];exact .keep (by simp[Ω]) (.keep (by simp[Ω]) (.keep (by simp[Ω]) (.one hF1 (E6 s.cells))))
  by_cases i2:i=2\/i=4\/i=5
  ·refine .inl ⟨by rw[eX,if_neg (by omega)],by rw[eY,if_neg i3,if_pos i2],?_⟩;rcases i2 with rfl|rfl|rfl
   ·rw[h2] at hi;cases hi;exact k2
   ·rw[h4] at hi;cases hi;simp[Ξ,Ω,aj];omega
   ·rw[h5] at hi;cases hi;exact k5
  by_cases is:i=sid/\sid≠3
  ·exact .inr (.inr (.inl ⟨by rw[eX,if_pos is],by rw[eY,if_neg i3,if_neg i2]⟩))
  ·exact .inr (.inl ⟨by rw[eX,if_neg is],by rw[eY,if_neg i3,if_neg i2]⟩)
 have w1:∀L,(∀x∈l1,Aw.look L x.1=x.2)->Wk 0 (ah n L) h (ah n l1) (h.mapIdx Y):=λL hL=>sZ (abN _) t1 (Dx λx hx=>⟨hL x hx,hl x hx⟩)
 have g:∀i o,h[i]?=some o->(h.mapIdx Y)[i]?=some (Y i o):=λi o q=>by rw[acy,q];rfl
 have A0:(h.mapIdx Y).length=h.length:=List.length_mapIdx;generalize h.mapIdx Y=h1 at w1 g A0;have g3:h1[3]?=some (.row 20 [(uD l fZ s).map .p]):=by rw[g 3 _ hm,eY,if_pos rfl]
 have g2:h1[2]?=some r2:=by rw[g 2 _ h2,eY,if_neg (by omega),if_pos (by omega)]
 have g4:h1[4]?=some (.row 1 [[.ptr 3 20 0 0]]):=by rw[g 4 _ h4,eY,if_neg (by omega),if_pos (by omega)]
 have g5:h1[5]?=some r5:=by rw[g 5 _ h5,eY,if_neg (by omega),if_pos (by omega)]
 obtain⟨X2,hX2⟩:∃X:Nat->AO->AO,X=λi o=>if i=3 then o else .dead:=⟨_,rfl⟩
 obtain⟨Y2,hY2⟩:∃Y:Nat->AO->AO,Y=λi o=>if i=4 then .row 1 [[.eptr (uD l fZ s) 0]] else if i=2\/i=5 then o else .dead:=⟨_,rfl⟩
 have eX2:∀i o,X2 i o=if i=3 then o else .dead:=λ_ _=>by rw[hX2]
 have eY2:∀i o,Y2 i o=if i=4 then .row 1 [[.eptr (uD l fZ s) 0]] else if i=2\/i=5 then o else .dead:=λ_ _=>by rw[hY2]
 have f3:(h1.mapIdx X2)[3]?=some (.row 20 [(uD l fZ s).map .p]):=by rw[acy,g3];simp[eX2]
 have t2:Thn (h1.mapIdx X2) h1.length h1 (h1.mapIdx X2) (h1.mapIdx Y2):=Hx h1 X2 Y2 λi o hi=>by
  by_cases i4:i=4
  ·subst i4;rw[g4] at hi;cases hi;exact .inr (.inr (.inr ⟨by rw[eX2,if_neg (by omega)],1,_,_,rfl,by rw[eY2,if_pos rfl],.ptr f3 rfl .nil⟩))
  by_cases i2:i=2\/i=5
  ·refine .inl ⟨by rw[eX2,if_neg (by omega)],by rw[eY2,if_neg i4,if_pos i2],?_⟩;rw[A0];rcases i2 with rfl|rfl
   ·rw[g2] at hi;cases hi;exact k2
   ·rw[g5] at hi;cases hi;exact k5
  by_cases i3:i=3
  ·exact .inr (.inr (.inl ⟨by rw[eX2,if_pos i3],by rw[eY2,if_neg i4,if_neg i2]⟩))
  ·exact .inr (.inl ⟨by rw[eX2,if_neg i3],by rw[eY2,if_neg i4,if_neg i2]⟩)
 have w2:Wk 0 (ah n l1) h1 (ah n l1) (h1.mapIdx Y2):=sZ (abN _) t2 (Dx λx hx=>⟨I7 x hx,by rw[A0];exact hl x hx⟩);refine⟨_,λL hL=>(w1 L hL).trans w2,by rw[List.length_mapIdx,A0],?_,?_,?_⟩
 ·rw[acy,g2];simp[eY2]
 ·rw[acy,g4];simp[eY2]
 ·rw[acy,g5];simp[eY2]
theorem Va(l:List Fd)(us:List Int)(fZ:Nat):sw l us fZ=[.row 1 [[.p (fdL l)]],.row 1 [[.p (bx us)]],.row 4 [[.nils,.p (.int .i64 0),.p (.int .i64 0),.nils]],.row 20 [[.p (fdL l),.p (.int .i64 fZ),.p (.int .i64 0),.nils,.p (.int .i64 0),.p (.int .i64 0),.p (.int .i64 0),.p (.int .i64 0),.p (.int .i64 0),.p (.int .i64 0),.p (.int .i64 0),.p (.int .i64 0),.p (.int .i64 0),.p (.int .i64 0),.p (.int .i64 0),.p (.int .i64 0),.p (.int .i64 0),.p (.int .i64 0),.p (.int .i64 0),.p (.int .i64 0)]],.row 1 [[.ptr 3 20 0 0]],.row 4 [[.nils,.p (.int .i64 0),.p (.int .i64 0),.nils]]]:=by simp[sw,lJ,s0,List.replicate]
theorem Ae:AK.whole jR=FK.ak jW:=rfl
theorem zK{l:List Fd}{us:List Int}{fZ:Nat}{s':S5}{r:O5 Int}(hc:am l=0)(hz:aD l<=1073741824)(hl:0<l.length)(hu:∀n∈us,V5 n)(T5:fZ<=4000)(hE:Ev l (.cal (l.length-1) us (s0 fZ) s' r)):
 VF Tryz.prog G eA [.agg [.p (fdL l)],.p (bx us),.p (.int .i64 fZ)] (.tup [.agg ((yR s' r).map .p),.p (.int .i64 ((fZ-s'.left:Nat):Int))]):=by
 have key:AC Tryz.prog G eA [.agg [.p (fdL l)],.p (bx us),.p (.int .i64 fZ)] [] λx h=>∃sv cid,x= .ret (.tup [.agg [sv,.p (.int .i64 (uy r)),.p (.int .i64 (LR r)),.sl cid 1 0 16],.p (.int .i64 ((fZ-s'.left:Nat):Int))])/\View h sv (bx s'.said)/\h[cid]?=some (jv s'.cells):=by
  refine AC.goK zd Ae ?_;simp-implicitDefEqProofs[jR,jW];rw[←Va]
  refine rx (λ_:List AO=>ah 33 [(6,.ptr 2 4 0 0),(7,.p (.int .i64 0)),(8,.ptr 4 1 0 0),(9,.ptr 5 4 0 0)]) (λh=>h)
   (λh=>s'.cells.length=16/\h[2]?=some (.row 4 [[.nils,.p (.int .i64 0),.p (.int .i64 0),.nils]])/\h[4]?=some (.row 1 [[.eptr (uD l fZ s') 0]])/\h[5]?=some (.row 4 [[.nils,.p (.int .i64 (uy r)),.p (.int .i64 (LR r)),.nils]])) ?_ ?_
  ·simp-implicitDefEqProofs[];refine(RL G fb [.ptr 4 1 0 0,.ptr 0 1 0 0,.ptr 1 1 0 0,.ptr 5 4 0 0] (sw l us fZ) (λx h'=>∃h2 sv sid,x= .ret (.p (.int .i64 (uy r)))/\MI 3 l fZ sv sid s' h'/\(sid=3\/7<=sid)/\h'[2]?=some (.row 4 [[.nils,.p (.int .i64 0),.p (.int .i64 0),.nils]])/\h'[4]?=some (.row 1 [[.ptr 3 20 0 0]])/\h'[5]?=some (.row 4 [[.nils,.p (.int .i64 0),.p (.int .i64 (LR r)),.nils]])/\h2=h') ?_).mono ?_
   ·refine(Ws G hc hz hl hu T5 hE).mono ?_;rintro x h' ⟨sv,sid,h2,q1,q2,q3,q4⟩;have e6:h2[6]?=some (.row 1 [[.p (.int .i64 0)]]):=(q2.2 6 (by simp[sw]) (by simp)).trans rfl;have e2:h2[2]?=some (.row 4 [[.nils,.p (.int .i64 0),.p (.int .i64 0),.nils]]):=(q2.2 2 (by simp[sw]) (by simp)).trans rfl;have e4:h2[4]?=some (.row 1 [[.ptr 3 20 0 0]]):=(q2.2 4 (by simp[sw]) (by simp)).trans rfl;have e5:h2[5]?=some (.row 4 [[.nils,.p (.int .i64 0),.p (.int .i64 0),.nils]]):=(q2.2 5 (by simp[sw]) (by simp)).trans rfl;have hl6:=(Δ.1 e6).1;have A0:(sw l us fZ).length=6:=by simp[sw]
    rw[A0];cases r with
    |ok n=>
     obtain⟨rfl,rfl⟩:=q4;refine⟨0,.inl ⟨rfl,rfl⟩,by rw[aaV (by omega)];exact e6,_,sv,sid,rfl,q1.frame (by simp) (by rw[aaV (by omega),aaV (by omega)]) (by rw[aaV (by omega),aaV (by omega)]),q3,?_,?_,?_,rfl⟩
     ·rw[aaV (by omega),aaV (by omega)];exact e2
     ·rw[aaV (by omega),aaV (by omega)];exact e4
     ·rw[aaV (by omega),aa7 (by omega)];rfl
    |st c=>
     obtain⟨rfl,rfl⟩:=q4;refine⟨c,.inr rfl,e6,_,sv,sid,rfl,q1.frame (by simp) (by rw[aaV (by omega)]) (by rw[aaV (by omega)]),q3,?_,?_,?_,rfl⟩
     ·rw[aaV (by omega)];exact e2
     ·rw[aaV (by omega)];exact e4
     ·rw[aaV (by omega)];exact e5
   ·rintro z h' ⟨h2,sv,sid,rfl,q1,q2,q3,q4,q5,rfl⟩;simp-implicitDefEqProofs[aa,q5];have hl5:=(Δ.1 q5).1;have hH:=q1.frame (h':=h2.set 5 (.row 4 [[.nils,.p (.int .i64 (uy r)),.p (.int .i64 (LR r)),.nils]])) (by simp) (by rw[aaV (by omega)]) (by rw[aaV (by omega)])
    obtain⟨h3,w1,w2,w3,w4,w5⟩:=VK (n:=33) (l1:=[(6,.ptr 2 4 0 0),(7,.p (.int .i64 0)),(8,.ptr 4 1 0 0),(9,.ptr 5 4 0 0)]) hH ((aaV (by omega)).trans q3) ((aaV (by omega)).trans q4) (aa7 hl5) (by simp[Ξ,Ω,aj]) (by simp[Ξ,Ω,aj]) q2
     (by simp[Ω];omega) (by simp)
    exact⟨h3,⟨q1.len,w3,w4,w5⟩,w1 _ (by simp)⟩
  ·rintro h ⟨qc,q2,q4,q5⟩
   have hch:(dm 1 (uD l fZ s') 4 16)=s'.cells.map λn=>[.int .i64 n]:=by
    unfold uD;generalize s'.cells=cs at qc
    match cs,qc with
    |[c0,c1,c2,c3,c4,c5,c6,c7,c8,c9,c10,c11,c12,c13,c14,c15],_=>rfl
   have G8:(uD l fZ s').length=20:=by simp[uD,qc]
   have hm2:∀q,(uD l fZ s')[2]'q= .int .i64 ((fZ-s'.left:Nat):Int):=λ_=>rfl
   have hm3:∀q,(uD l fZ s')[3]'q=bx s'.said:=λ_=>rfl
   have F4:=zZ G s'.cells 16 (by omega) (by omega) (by omega) h;rw[trO,aaX (l:=s'.cells) (by omega)] at F4;have hl5:=(Δ.1 q5).1;have a5:∀os,(h++os)[5]?=_:=λos=>(aaT hl5).trans q5
   have a4:∀os,(h++os)[4]?=_:=λos=>(aaT (by omega)).trans q4
   have a2:∀os,(h++os)[2]?=_:=λos=>(aaT (by omega)).trans q2
   simp-implicitDefEqProofs[q2,q4,q5, ↓hch,G8,hm2,hm3];refine F4.mono ?_;rintro z h' ⟨rfl,rfl⟩;have s55:∀os z,((h++os).set 5 z)[5]?=some z:=λos z=>aa7 (by simp;omega)
   have s54:∀os z,((h++os).set 5 z)[4]?=_:=λos z=>(aaV (by omega)).trans (a4 os)
   have s52:∀os z,((h++os).set 5 z)[2]?=_:=λos z=>(aaV (by omega)).trans (a2 os)
   have s22:∀os z w,(((h++os).set 5 z).set 2 w)[2]?=some w:=λos z w=>aa7 (by simp;omega)
   have s24:∀os z w,(((h++os).set 5 z).set 2 w)[4]?=_:=λos z w=>(aaV (by omega)).trans (s54 os z)
   simp-implicitDefEqProofs[aa, ↓a5, ↓a4, ↓a2, ↓s55, ↓s54, ↓s52, ↓s22, ↓s24,hm2,hm3,G8];refine⟨_,_,⟨rfl,rfl⟩,.p _,?_⟩;rw[aaV (by omega),aaV (by omega),aa5 (by omega)];simp
 refine key.freezeR (λt v h e=>by obtain⟨_,_,e,_⟩:=e;cases e) λv h e=>?_
 obtain⟨sv,cid,e,h1,h2⟩:=e;cases e;have v2:=mL (l:=s'.cells) h2;have hlc:s'.cells.length=16:=(aZ hE ⟨tJ fZ,hu⟩).1.len;rw[hlc] at v2;exact .tup (.agg (.one h1 (.keep (by simp) (.keep (by simp) (.one v2 .nil)))) (.keep (by simp) .nil)) .nil
end
section
variable (G:au)
theorem Ko(n:Int):VF Tryz.prog G dN [.p (.int .i64 n)] (.p (.bool (!inR n 0 255))):=by
 refine AC.go AQ ?_;simp-implicitDefEqProofs[pL];refine(Jj G n).use ?_;simp-implicitDefEqProofs[]
def BC(us:List Int):Option Nat:=us.findIdx? λn=> !inR n 0 255
theorem Lx(us:List Int)(hl:us.length<=1000000000000):VF Tryz.prog G fJ [.p (bx us),.fn (.func dN) []] (.p (.int .i64 (ixI (BC us)))):=by
 have hnL:bx us= .lst 1 (us.map λn=>[.int .i64 n]):=rfl;refine AC.go rh ?_;simp-implicitDefEqProofs[jX,hnL];refine aJ (λi:Nat=>ah 19 [(8,.p (.int .i64 i)),(7,.p (.int .i64 us.length)),(0,.p (.lst 1 (us.map λn=>[.int .i64 n]))),(1,.fn (.func dN) [])]) (λ_=>[]) (λi=>i<=us.length/\∀n∈us.take i,inR n 0 255=true) (λi=>us.length-i) 0 (by simp) ?_ ?_
 ·exact bV rfl (by simp[Ω])
 intro i ⟨hi,hn⟩;have Q7:=w1 (i:=i) (by omega)
 by_cases h1:i<us.length
 ·have hg:us[i]?=some us[i]:=Γ h1;simp-implicitDefEqProofs[h1,hg];refine(Ko G us[i]).use ?_;cases hb:inR us[i] 0 255 with
  |false=>
   have hf:BC us=some i:=by
    rw[BC,abf];exact⟨h1,by simp[hb],λj hj=>by have:=hn us[j] (abU.2 ⟨j,by omega,rfl⟩);simp[this]⟩
   simp-implicitDefEqProofs[hf,ixI]
  |true=>
   simp-implicitDefEqProofs[Q7];refine⟨i+1,⟨by omega,λp hp=>?_⟩,by omega,bV rfl (by simp[Ω])⟩;rw[al h1] at hp;rcases aaZ.1 hp with hp|hp
   ·exact hn p hp
   ·rw[aa0.1 hp];exact hb
 ·have E3:i=us.length:=by omega
  subst E3;rw[abp] at hn
  have hf:BC us=none:=by
   rw[BC,abt];intro x hx;simp[hn x hx]
  simp-implicitDefEqProofs[hf,ixI]
theorem QA(us:List Int)(hl:us.length<=1000000000000):VF Tryz.prog G ed [.p (bx us),.fn (.func dN) []] (.p (.bool (!us.all λv=>inR v 0 255))):=by
 refine AC.go nW ?_;simp-implicitDefEqProofs[gW];refine(Lx G us hl).use ?_;simp-implicitDefEqProofs[];cases hb:BC us with
 |none=>
  have:(us.all λv=>inR v 0 255)=true:=by
   rw[BC,abt] at hb;rw[aaY];intro x hx;simpa using hb x hx
  rw[this];simp[ixI]
 |some i=>
  have:(us.all λv=>inR v 0 255)=false:=by
   rw[BC,abf] at hb;obtain⟨h1,h2,_⟩:=hb;rw[acA];exact⟨us[i],aa2 h1,by simpa using h2⟩
  rw[this];simp[ixI]
def Bw(us:List Int)(n:Nat):Bool:=decide (us.length=n)&&us.all λv=>inR v 0 255
theorem Oc(us:List Int)(n:Nat)(hl:us.length<=1000000000000):VF Tryz.prog G nU [.p (bx us),.p (.int .i64 n)] (.p (.bool (Bw us n))):=by
 have hnL:bx us= .lst 1 (us.map λn=>[.int .i64 n]):=rfl;refine AC.go DB ?_
 by_cases h:us.length=n
 ·have h':(us.length:Int)=(n:Int):=by omega
  simp-implicitDefEqProofs[mW,hnL,h'];rw[←hnL];refine(QA G us hl).use ?_;simp-implicitDefEqProofs[Bw,h]
 ·have h':¬(us.length:Int)=(n:Int):=by omega
  simp-implicitDefEqProofs[mW,hnL,h',Bw,h]
def gU(l:List Fd)(us:List Int):Bool:=decide (am l=0)&&(match l[l.length-1]? with|some f=>Bw us f.params.length|none=>false)
variable (hK:G dc=some cU) (hS:G bv=some [.tbl opK opV])
include hK hS
theorem Ku(l:List Fd)(us:List Int)(hz:aD l<=1073741824)(hl:us.length<=1000000000000):VF Tryz.prog G kW [.agg [.p (fdL l)],.p (bx us)] (.p (.bool (gU l us))):=by
 have C4:fdL l= .lst 3 (l.map Fd.cs):=rfl;have E7:l.length<=aD l:=py l;refine AC.go FL ?_;simp-implicitDefEqProofs[vr];refine(Bm G hK hS l hz).use ?_
 by_cases hc:am l=0
 ·have h0:0<l.length:=by have:=(fD hc).1;cases l<;>simp_all
  have J8:IntKind.i64.wrap ((l.length:Int)-1)=((l.length-1:Nat):Int):=by rw[ae (by omega) (by omega)];omega
  have hg:l[l.length-1]?=some l[l.length-1]:=Γ (by omega);generalize l[l.length-1]=f at hg;have hfc:f.cs=[.str f.name,ay f.params,Θ f.body]:=rfl;have hpL:ay f.params= .lst 1 (f.params.map λw=>[.str w]):=rfl;simp-implicitDefEqProofs[hc,C4,J8,hg,hfc,hpL];refine(Oc G us f.params.length hl).use ?_;simp-implicitDefEqProofs[gU,hc,hg]
 ·simp-implicitDefEqProofs[hc,gU]
end
section
variable (G:au)
variable (hK:G dc=some cU) (hS:G bv=some [.tbl opK opV])
include hK hS
theorem Ox{l:List Fd}{us:List Int}{s':S5}{r:O5 Int}(hz:aD l<=1073741824)(hl:us.length<=1000000000000)(ho:gU l us=true)(hc:am l=0)(h0:0<l.length)(hu:∀n∈us,V5 n)(hE:Ev l (.cal (l.length-1) us (s0 4000) s' r)):
 VF Tryz.prog G iJ [.agg [.p (fdL l)],.p (bx us)] (.p (.int .i64 (if uy r=3 then-1 else((4000-s'.left:Nat):Int)))):=by
 refine AC.go Fb ?_;simp-implicitDefEqProofs[uW];refine(Ku G hK hS l us hz hl).use ?_;simp-implicitDefEqProofs[ho];refine(zK G hc hz h0 hu (aa3 _) hE).use ?_
 by_cases h3:uy r=3
 ·simp-implicitDefEqProofs[yR,h3]
 ·simp-implicitDefEqProofs[yR,h3]
theorem Fu{l:List Fd}{us:List Int}{fZ:Nat}{s':S5}{r:O5 Int}(hz:aD l<=1073741824)(hl:us.length<=1000000000000)(ho:gU l us=true)(hc:am l=0)(h0:0<l.length)(hu:∀n∈us,V5 n)(T5:fZ<=4000)(hE:Ev l (.cal (l.length-1) us (s0 fZ) s' r)):
 VF Tryz.prog G cy [.agg [.p (fdL l)],.p (bx us),.p (.int .i64 fZ)] (.tup [.agg ((yR s' r).map .p),.p (.bool true)]):=by
 have hf:inR (fZ:Int) 0 4000=true:=by simp[inR];omega
 refine AC.go zM ?_;simp-implicitDefEqProofs[oL];refine(Ku G hK hS l us hz hl).use ?_;simp-implicitDefEqProofs[ho];refine(re G fZ 0 4000).use ?_;simp-implicitDefEqProofs[hf];refine(zK G hc hz h0 hu T5 hE).use ?_;simp-implicitDefEqProofs[yR]
end
section
theorem Hc{l:List Fd}(h:am l=0):∃f,l[l.length-1]?=some f/\f.params.length<=3/\1<=l.length/\zF l=rS f.params.length:=by
 have hp:=((om l).1 h).1;obtain⟨⟨h1,_⟩,h2,_⟩:=(cT l).1 hp;have hn:l.length-1<l.length:=by omega
 have hg:=Γ hn;refine⟨l[l.length-1],hg,?_,h1,?_⟩
 ·have:=h2 _ (aa2 hn);simp only[ig,aa1,decide_eq_true_eq] at this;exact this.1.2
 ·rw[zF,if_pos h,hg]
theorem Nq{l:List Fd}(h:¬am l=0):zF l=[]:=if_neg h
variable (G:au)
theorem Vl(l:List Fd)(hz:aD l<=1073741824):VF Tryz.prog G kR [.agg [.p (fdL l)]] (.p (nsL (zF l))):=by
 have key:AC Tryz.prog G kR [.agg [.p (fdL l)]] [] λx h=>∃v,x= .ret v/\View h v (nsL (zF l)):=by
  refine AC.go AY ?_;have E7:=dC l;have C4:fdL l= .lst 3 (l.map Fd.cs):=rfl;simp-implicitDefEqProofs[rf];refine(DK G l hz).use ?_
  by_cases h0:am l=0
  case neg=>
   rw[Nq h0];simp-implicitDefEqProofs[h0];exact View.sl _ 1 0 [] [] rfl (by simp) (by simp) (λi j e q e' a h=>by simp at h)
  obtain⟨f,hg,hf3,I7,hi⟩:=Hc h0;have hw:IntKind.i64.wrap ((l.length:Int)-1)=((l.length-1:Nat):Int):=by rw[ae (by omega) (by omega)];omega
  have E6:=f.cs_eq';rw[hi];have A8:∀l,ay l= .lst 1 (l.map λw=>[.str w]):=λ_=>rfl
  simp-implicitDefEqProofs[h0,C4,hw,hg,E6,A8];refine(Lo G f.params.length hf3).use ?_;simp-implicitDefEqProofs[];exact .p _
 exact key.freezeR (λt v h ⟨_,e,_⟩=>by cases e) λv h ⟨u,e1,e2⟩=>by cases e1;exact .one e2 .nil
variable (hT:G tL=some pvTries) (hK:G dc=some cU) (hS:G bv=some [.tbl opK opV])
include hT hK hS
theorem Kg(l:List Fd)(hz:aD l<=1073741824):AC Tryz.prog G fk [.agg [.p (fdL l)]] [] (MkW eV true [nsL (zF l)]):=by
 refine AC.go Bs ?_;have E7:=dC l;have C4:fdL l= .lst 3 (l.map Fd.cs):=rfl;simp-implicitDefEqProofs[pY];refine(Bm G hK hS l hz).use ?_
 by_cases h0:am l=0
 case neg=>
  rw[Nq h0];simp-implicitDefEqProofs[h0];exact⟨[.nils],[],rfl,.nils 1 .nil,adw⟩
 obtain⟨f,hg,hf3,I7,hi⟩:=Hc h0;have hw:IntKind.i64.wrap ((l.length:Int)-1)=((l.length-1:Nat):Int):=by rw[ae (by omega) (by omega)];omega
 have E6:=f.cs_eq';rw[hi];have A8:∀l,ay l= .lst 1 (l.map λw=>[.str w]):=λ_=>rfl
 have hA:=λh:List AO=>AC.mkLift ow (NS G hT f.params.length hf3) (h:=h) (by simp)
 simp-implicitDefEqProofs[h0,C4,hw,hg,E6,A8];refine(hA _).mono ?_;rintro x h2 ⟨vs,I,os,rfl,rfl,ho,nd,hf⟩;obtain⟨v,rfl⟩:=fK ho;simp-implicitDefEqProofs[aa,eV];exact⟨[v],I,rfl,ho,nd⟩
theorem BH(l:List Fd)(hz:aD l<=1073741824):VF Tryz.prog G fk [.agg [.p (fdL l)]] (.p (nsL (zF l))):=
 AC.mkFreeze ow (Kg G hT hK hS l hz)
end
section
variable (G:au)
variable (hK:G dc=some cU) (hS:G bv=some [.tbl opK opV])
theorem pR{l:List Fd}{us:List Int}(h:gU l us=true):am l=0/\0<l.length/\(∃f,l[l.length-1]?=some f/\us.length=f.params.length)/\∀n∈us,V5 n:=by
 simp only[gU,aa1,decide_eq_true_eq] at h;obtain⟨h1,h2⟩:=h;refine⟨h1,by have:=(fD h1).1;cases l<;>simp_all,?_⟩;split at h2
 ·rename_i f hf;simp only[Bw,aa1,decide_eq_true_eq,aaY] at h2;exact⟨⟨f,hf,h2.1⟩,λn hn=>by have:=h2.2 n hn;simpa[inR,V5] using this⟩
 ·cases h2
include hK hS
end
section
theorem UA{l:List Fd}{K fZ:Nat}{us:List Int}{s':S5}{r:O5 Int}(h:Ev l (.cal K us (s0 fZ) s' r)):s'.said.length<=fZ:=by
 have h1:M5 s'<=M5 (s0 fZ)/\s'.left<=(s0 fZ).left:=yP h;have h2:M5 (s0 fZ)=fZ:=by simp[M5,s0]
 have h3:=h1.1;rw[h2] at h3;simp only[M5] at h3;omega
theorem Uq{l:List Fd}{K fZ:Nat}{us:List Int}{s':S5}{r:O5 Int}(h:Ev l (.cal K us (s0 fZ) s' r)):s'.left<=fZ:=(show M5 s'<=M5 (s0 fZ)/\s'.left<=(s0 fZ).left from yP h).2
theorem Kv{l:List Fd}{us:List Int}{f:Fd}(hc:am l=0)(hf:l[l.length-1]?=some f)(hl:us.length=f.params.length)(hv:∀n∈us,V5 n):gU l us=true:=by
 simp only[gU,hc,hf,Bw,hl,decide_true,aco,aaY];intro n hn;have:=hv n hn;simp only[inR,aa1,decide_eq_true_eq];exact this
theorem Gq{l:List Fd}{us:List Int}{g:Fd->Fd}(hg:∀f,(g f).params.length=f.params.length)(hc:am (l.map g)=0)(ho:gU l us=true):gU (l.map g) us=true:=by
 obtain⟨_,_,⟨f,hf1,Q6⟩,hv⟩:=pR ho;exact Kv hc (f:=g f) (by rw[abi,aa8,hf1];rfl) (by rw[hg];exact Q6) hv
variable (G:au)
theorem Jh(xs:List Int)(hb:xs.length<=1048576):VF Tryz.prog G fz [.p (bx xs),.p (bx xs)] (.p (.bool true)):=by
 have A8:∀l,bx l= .lst 1 (l.map λw=>[.int .i64 w]):=λ_=>rfl
 refine AC.go vC ?_;simp-implicitDefEqProofs[mM,A8];refine aJ (λi:Nat=>ah 26 [(0,.p (bx xs)),(1,.p (bx xs)),(11,.p (bx xs)),(12,.p (.int .i64 xs.length)),(13,.p (.int .i64 i))]) (λ_=>[]) (λi=>i<=xs.length) (λi=>xs.length-i) 0 (by simp) ?_ ?_
 ·exact bV rfl (by simp[Ω,bx])
 intro i hi;simp-implicitDefEqProofs[A8];refine aU (λh1=>?_) (λh1=>?_)
 ·simp at h1;have hg:xs[i]?=some xs[i]:=Γ h1;generalize xs[i]=x at hg;simp-implicitDefEqProofs[hg];refine⟨i+1,by omega,by omega,bV rfl ?_⟩;simp[Ω,bx,w1 (i:=i) (by omega)]
 ·simp at h1;simp-implicitDefEqProofs[]
theorem Nx(xs ys:List Int)(e v:Int)(hx:xs.length<=1048576)(hy:ys.length<=1048576):VF Tryz.prog G fH [.agg [.p (bx xs),.p (.int .i64 e),.p (.int .i64 v),.p (bx ys)],.agg [.p (bx xs),.p (.int .i64 e),.p (.int .i64 v),.p (bx ys)]] (.p (.bool true)):=by
 refine AC.go vR ?_;simp-implicitDefEqProofs[nk];refine(Jh G xs hx).use ?_;simp-implicitDefEqProofs[];refine(Jh G ys hy).use ?_;simp-implicitDefEqProofs[]
variable (hK:G dc=some cU) (hS:G bv=some [.tbl opK opV])
include hK hS
theorem CV(l:List Fd)(hz:aD l<=1073741824):VF Tryz.prog G dJ [.agg [.p (fdL l)]] (.p (.int .i64 (if aY l=true then(jw l:Int) else-1))):=by
 refine AC.go Bt ?_;simp-implicitDefEqProofs[pN];refine(sJ G hK hS l hz).use ?_;cases h:aY l with
 |false=>simp-implicitDefEqProofs[]
 |true=>
  simp-implicitDefEqProofs[];refine(GF G l hz).use ?_;simp-implicitDefEqProofs[]
omit hK hS in
theorem endI_three{r:O5 Int}:uy r=3↔r= .st 3:=by
 cases r with
 |ok n=>simp[uy]
 |st c=>simp[uy]
end
section
variable (G:au)
theorem Qe{ρ:List Nat}:∀{args:List AV},aj 0 args->TW ρ args args
 |[],_=>trivial
 |v::r,h=>⟨.inr ⟨(aR (abN _) [v] ⟨h.1,trivial⟩).1,by have:=dM ρ [v] ⟨h.1,trivial⟩;simpa[bu] using this⟩,Qe h.2⟩
theorem YO{f:FuncId}{args:List AV}{b:List Int}{p:Nat}{Q:AV->Nat->Prop}(H:AC Tryz.prog G f (.ptr 0 2 0 0::args) [Ψ b p] λx h=>∃v q,x= .ret v/\h=[Ψ b q]/\Q v q)(hq:∀v q,Q v q->Ω 0 v){h:List AO}{k:Nat}(hk:h[k]?=some (Ψ b p))(ha:aj 0 args):
 AC Tryz.prog G f (.ptr k 2 0 0::args) h λx h'=>∃v q,x= .ret v/\h'=h.set k (Ψ b q)/\Q v q:=by
 refine(H.frame (h:=h) (args:= .ptr k 2 0 0::args) [k] (by simp) ⟨.inr ⟨by simp[Ω],by simp[ren]⟩,Qe ha⟩ (bt hk (bJ _ _ _) aP)).mono ?_;rintro x h' ⟨x0,h0,⟨v,q,rfl,rfl,r⟩,hl,rfl,rfl⟩;refine⟨v,q,?_,?_,r⟩
 ·simp only[Db];have:=dM ([k]++List.range' h.length ([Ψ b q].length-[Ψ b p].length)) [v] ⟨hq v q r,trivial⟩;simpa[bu] using this
 ·have N8:∀σ,jf σ (Ψ b q)=Ψ b q:=λσ=>by simp[Ψ,jf,bu,ren]
  simp[mrg,N8]
theorem JT{l:List Int}(h:Byt l)(n:Nat):Byt (l.take n):=λx hx=>h x (abv hx)
def DrP(n:Nat)(x:ARes):Prop:=∃l:List Fd,x= .ret (.agg [.p (fdL l)])/\aD l<=n
theorem JG{f:FuncId}{args:List AV}{R:ARes->Prop}(H:AC Tryz.prog G f args [] λx _=>R x)(hR:∀x,R x->∃v,x= .ret v/\Ω 0 v)(ha:aj 0 args)(h:List AO):AC Tryz.prog G f args h λx h'=>R x/\h'=h:=by
 have H2:AC Tryz.prog G f args [] λx h'=>R x/\h'=[]:=by
  refine H.wk (λt v h' r=>by obtain⟨_,e,_⟩:=hR _ r;cases e) λv h' r=>?_
  obtain⟨v',e,hv⟩:=hR _ r;cases e;exact⟨v,[],PM rfl ⟨.inr ⟨hv,rfl⟩,trivial⟩,r,rfl⟩
 refine(H2.pre h ha (λo ho=>by cases ho) (λx h' r=>by rw[r.2])).mono ?_;rintro x h' ⟨h1,⟨r,rfl⟩,rfl⟩;exact⟨r,rfl⟩
theorem Js{n:Nat}:∀x,DrP n x->∃v,x= .ret v/\Ω 0 v:=λx ⟨l,e,_⟩=>⟨_,e,by simp[Ω]⟩
variable (hK:G dc=some cU) (hS:G bv=some [.tbl opK opV])
include hK hS
end
section
theorem AB{s:Bool}{h:List AO}{id sz:Nat}{rows:List (List AV)}{D:List (List PV)}{J:List Nat}(H:RowOwn s h id sz rows D J){i:Nat}{e:List PV}(hi:D[i]?=some e):
 ∃r Ji,rows[i]?=some r/\OwnL s h r e Ji/\(id::Ji).Nodup/\(∀j∈Ji,j∈J)/\∀(h2:List AO) (r':List AV) (e':List PV) (Ji':List Nat),h2[id]?=some (.row sz (rows.set i r'))->(∀j,j<h.length->j≠id->j∉Ji->h2[j]?=h[j]?)->OwnL s h2 r' e' Ji'->e'.length=sz->Ji'.Nodup->
  (∀j∈Ji',j∈Ji\/h.length<=j)->∃J',RowOwn s h2 id sz (rows.set i r') (D.set i e') J'/\∀j∈J',j∈J\/h.length<=j:=by
 obtain⟨r,J1,Ji,J2,g1,rfl,g3,g4⟩:=H.own.put H.len H.rl H.dl hi;have hn:=H.nd;have A7:=H.lt;have C9:∀j∈J1++(Ji++J2),j<h.length:=λj hj=>H.own.lt hj
 simp only[aby,abE,aaZ,not_or] at hn C9;obtain⟨⟨n1,n2,n3⟩,m1,⟨m2,m3,m4⟩,m5⟩:=hn;refine⟨r,Ji,g1,g3,by simp[n2,m2],λj hj=>by simp[hj],λh2 r' e' Ji' k1 k2 k3 k4 k5 k6=>⟨J1++(Ji'++J2),⟨k1,by simp[H.len],λx hx=>?_,λx hx=>?_,g4 h2 r' e' Ji' (λj hj=>?_) k3,?_⟩,λj hj=>?_⟩⟩
 ·rcases abs hx with h1|rfl
  ·exact H.rl x h1
  ·rw[k3.len,k4]
 ·rcases abs hx with h1|rfl
  ·exact H.dl x h1
  ·exact k4
 ·rcases aaZ.1 hj with hj|hj
  ·exact k2 j (C9 j (.inl hj)) (λe=>n1 (e▸hj)) λhm=>m5 j hj j (.inl hm) rfl
  ·exact k2 j (C9 j (.inr (.inr hj))) (λe=>n3 (e▸hj)) λhm=>m4 j hm j hj rfl
 ·simp only[aby,abE,aaZ,not_or];refine⟨⟨n1,λhm=>?_,n3⟩,m1,⟨k5,m3,λa ha b hb e=>?_⟩,λa ha b hb e=>?_⟩
  ·rcases k6 _ hm with q|q
   ·exact n2 q
   ·omega
  ·rcases k6 _ ha with q|q
   ·exact m4 a q b hb e
   ·have:=C9 b (.inr (.inr hb));omega
  ·rcases hb with hb|hb
   ·rcases k6 _ hb with q|q
    ·exact m5 a ha b (.inl q) e
    ·have:=C9 a (.inl ha);omega
   ·exact m5 a ha b (.inr hb) e
 ·simp only[aaZ] at hj⊢;rcases hj with hj|hj|hj
  ·exact .inl (.inl hj)
  ·rcases k6 _ hj with q|q
   ·exact .inl (.inr (.inl q))
   ·exact .inr q
  ·exact .inl (.inr (.inr hj))
theorem zG{s:Bool}{h:List AO}{fF:Nat}{rowsF:List (List AV)}{l:List Fd}{JF:List Nat}(H:RowOwn s h fF 3 rowsF (l.map Fd.cs) JF){k:Nat}{f:Fd}(hf:l[k]?=some f):
 ∃A B IB,rowsF[k]?=some [.p (.str f.name),A,B]/\OwnL s h [B] [Θ f.body] IB/\IB.Nodup/\(∀j∈IB,j∈JF/\j≠fF)/\∀(h2:List AO) (B':AV) (body':List Sm) (IB':List Nat),h2[fF]?=some (.row 3 (rowsF.set k [.p (.str f.name),A,B']))->
  (∀j,j<h.length->j≠fF->j∉IB->h2[j]?=h[j]?)->OwnL s h2 [B'] [Θ body'] IB'->IB'.Nodup->(∀j∈IB',j∈IB\/h.length<=j)->
  ∃J',RowOwn s h2 fF 3 (rowsF.set k [.p (.str f.name),A,B']) ((l.set k ⟨f.name,f.params,body'⟩).map Fd.cs) J'/\∀j∈J',j∈JF\/h.length<=j:=by
 have hD:(l.map Fd.cs)[k]?=some f.cs:=by rw[aa8,hf];rfl
 obtain⟨r,Ji,g1,g2,g3,g4,g5⟩:=AB H hD;obtain⟨A,B,IA,IB,rfl,rfl,oA,oB⟩:=SN g2;rw[aby] at g3;obtain⟨n1,n2⟩:=g3;obtain⟨n3,n4,n5⟩:=abE.1 n2;refine⟨A,B,IB,g1,oB,n4,λj hj=>⟨g4 j (by simp[hj]),λe=>n1 (by simp[←e,hj])⟩,λh2 B' body' IB' k1 k2 k3 k4 k5=>?_⟩;have hA:OwnL s h2 [A] [ay f.params] IA:=oA.frame λi hi=>k2 i (oA.lt hi) (λe=>n1 (by simp[←e,hi])) λhm=>n5 i hi i hm rfl
 have:=g5 h2 _ (Fd.mk f.name f.params body').cs (IA++IB') k1 (λj q1 q2 q3=>k2 j q1 q2 λhm=>q3 (by simp[hm])) (sD (s:=s) (w:=f.name) hA k3) rfl
  (abE.2 ⟨n3,k4,λa ha b hb e=>by
    rcases k5 b hb with q|q
    ·exact n5 a ha b q e
    ·have:=oA.lt ha;omega⟩)
  (λj hj=>by
    rcases aaZ.1 hj with hj|hj
    ·exact .inl (by simp[hj])
    ·rcases k5 j hj with q|q
     ·exact .inl (by simp[q])
     ·exact .inr q)
 rwa[acj]
theorem SM{s:Bool}{h:List AO}{fB:Nat}{rowsB:List (List AV)}{l:List Sm}{JB:List Nat}(H:RowOwn s h fB 5 rowsB (l.map Sm.cs) JB){k:Nat}{x:Sm}(hf:l[k]?=some x):
 ∃A B E IA,rowsB[k]?=some [.p (.int .i64 x.op),.p (.str x.name),A,B,E]/\OwnL s h [A] [Φ x.args] IA/\IA.Nodup/\(∀j∈IA,j∈JB/\j≠fB)/\∀(h2:List AO) (A':AV) (args':List Ex) (IA':List Nat),h2[fB]?=some (.row 5 (rowsB.set k [.p (.int .i64 x.op),.p (.str x.name),A',B,E]))->
  (∀j,j<h.length->j≠fB->j∉IA->h2[j]?=h[j]?)->OwnL s h2 [A'] [Φ args'] IA'->IA'.Nodup->(∀j∈IA',j∈IA\/h.length<=j)->
  ∃J',RowOwn s h2 fB 5 (rowsB.set k [.p (.int .i64 x.op),.p (.str x.name),A',B,E]) ((l.set k ⟨x.op,x.name,args',x.body,x.els⟩).map Sm.cs) J'/\∀j∈J',j∈JB\/h.length<=j:=by
 have hD:(l.map Sm.cs)[k]?=some x.cs:=by rw[aa8,hf];rfl
 obtain⟨r,Ji,g1,g2,g3,g4,g5⟩:=AB H hD;obtain⟨A,B,E,I1,I2,I3,rfl,rfl,oA,oB,oE⟩:=Sa g2;rw[aby] at g3;obtain⟨n1,n2⟩:=g3;obtain⟨n3,n4,n5⟩:=abE.1 n2;obtain⟨n6,n7,n8⟩:=abE.1 n4;refine⟨A,B,E,I1,g1,oA,n3,λj hj=>⟨g4 j (by simp[hj]),λe=>n1 (by simp[←e,hj])⟩,λh2 A' args' IA' k1 k2 k3 k4 k5=>?_⟩;have hB:OwnL s h2 [B] [Θ x.body] I2:=oB.frame λi hi=>k2 i (oB.lt hi) (λe=>n1 (by simp[←e,hi])) λhm=>n5 i hm i (by simp[hi]) rfl
 have hE:OwnL s h2 [E] [Θ x.els] I3:=oE.frame λi hi=>k2 i (oE.lt hi) (λe=>n1 (by simp[←e,hi])) λhm=>n5 i hm i (by simp[hi]) rfl
 have:=g5 h2 _ (Sm.mk x.op x.name args' x.body x.els).cs (IA'++(I2++I3)) k1 (λj q1 q2 q3=>k2 j q1 q2 λhm=>q3 (by simp[hm])) (Ll (s:=s) (o:=x.op) (w:=x.name) k3 hB hE) (by simp)
  (abE.2 ⟨k4,n4,λa ha b hb e=>by
    rcases k5 a ha with q|q
    ·exact n5 a q b hb e
    ·have:b<h.length:=by
      rcases aaZ.1 hb with hb|hb
      ·exact oB.lt hb
      ·exact oE.lt hb
     omega⟩)
  (λj hj=>by
    rcases aaZ.1 hj with hj|hj
    ·rcases k5 j hj with q|q
     ·exact .inl (by simp[q])
     ·exact .inr q
    ·exact .inl (by simp only[aaZ] at hj⊢;exact .inr hj))
 rwa[acj]
theorem zT{h:List AO}{v:AV}{sz:Nat}{D:List (List PV)}{I:List Nat}(H:OwnL true h [v] [.lst sz D] I)(nd:I.Nodup)(B8:D≠[]):∃id rows J,v= .sl id sz 0 D.length/\I=id::J/\RowOwn true h id sz rows D J:=by
 rcases H.inv nd with⟨h0,_⟩|⟨h0,_⟩|h0
 ·exact absurd h0 B8
 ·cases h0
 ·exact h0
theorem OA{h:List AO}{fF:Nat}{rowsF:List (List AV)}{l:List Fd}{JF:List Nat}(H:RowOwn true h fF 3 rowsF (l.map Fd.cs) JF){k:Nat}{f:Fd}(hf:l[k]?=some f){j:Nat}{x:Sm}(hx:f.body[j]?=some x){a:Ex}(ha:x.args[0]?=some a):
 ∃A fB rowsB fA B1 E1 rowsA r0,rowsF[k]?=some [.p (.str f.name),A,.sl fB 5 0 f.body.length]/\h[fB]?=some (.row 5 rowsB)/\rowsB[j]?=some [.p (.int .i64 x.op),.p (.str x.name),.sl fA 4 0 x.args.length,B1,E1]/\h[fA]?=some (.row 4 rowsA)/\rowsA[0]?=some r0/\fA∈JF/\fB∈JF/\fA≠fF/\
  ∀(h2:List AO) (n:Int),h2[fA]?=some (.row 4 (rowsA.set 0 ((cf n).cs.map .p)))->(∀i,i<h.length->i≠fA->h2[i]?=h[i]?)->
  ∃J',RowOwn true h2 fF 3 rowsF ((l.set k ⟨f.name,f.params,f.body.set j ⟨x.op,x.name,x.args.set 0 (cf n),x.body,x.els⟩⟩).map Fd.cs) J'/\∀i∈J',i∈JF\/h.length<=i:=by
 obtain⟨A,B,IB,p1,p2,p3,p4,p5⟩:=zG H hf;have B8:f.body.map Sm.cs≠[]:=λe=>by rw[ab0] at e;rw[e] at hx;cases hx
 obtain⟨fB,rowsB,JB,rfl,rfl,HB⟩:=zT p2 p3 B8;obtain⟨A1,B1,E1,IA,s1,s2,s3,s4,s5⟩:=SM HB hx;have hne2:x.args.map Ex.cs≠[]:=λe=>by rw[ab0] at e;rw[e] at ha;cases ha
 obtain⟨fA,rowsA,JA,rfl,rfl,HA⟩:=zT s2 s3 hne2;have hD:(x.args.map Ex.cs)[0]?=some a.cs:=by rw[aa8,ha];rfl
 obtain⟨r0,J0,t1,t2,t3,t4,t5⟩:=AB HA hD;rw[abi] at*
 have hAF:fA≠fF:=(p4 fA (abw _ (s4 fA (by simp)).1)).2;refine⟨A,fB,rowsB,fA,B1,E1,rowsA,r0,p1,HB.here,s1,HA.here,t1,(p4 fA (abw _ (s4 fA (by simp)).1)).1,(p4 fB (by simp)).1,hAF,λh2 n q1 q2=>?_⟩
 have oE:OwnL true h2 ((cf n).cs.map .p) (cf n).cs []:=by
  rw[(cf n).cs_eq];exact .p _ (λ_=>rfl) (.p _ (λ_=>rfl) (.p _ (λ_=>rfl) (.p _ (λ_=>rfl) .nil)))
 obtain⟨JA',u1,u2⟩:=t5 h2 _ (cf n).cs [] q1 (λi i1 i2 _=>q2 i i1 i2) oE (Ex.cs_len _) .nil (λ_ h=>by cases h);have tA:=u1.tree (n:=x.args.length) (by simp);rw[←acj] at tA;have n1:=u1.nd;have hBA:fB≠fA:=λe=>(s4 fA (by simp)).2 e.symm
 obtain⟨JB',w1,w2⟩:=s5 h2 _ (x.args.set 0 (cf n)) (fA::JA') (by rw[q2 fB HB.lt hBA,HB.here,pV s1]) (λi i1 i2 i3=>q2 i i1 λe=>i3 (by simp[e])) tA n1 (λi hi=>by
  rcases aa6.1 hi with rfl|hi
  ·exact .inl (by simp)
  ·rcases u2 i hi with g|g
   ·exact .inl (by simp[g])
   ·exact .inr g)
 rw[pV s1] at w1;have tB:=w1.tree (n:=f.body.length) (by simp)
 obtain⟨JF',z1,z2⟩:=p5 h2 _ (f.body.set j ⟨x.op,x.name,x.args.set 0 (cf n),x.body,x.els⟩) (fB::JB') (by rw[q2 fF H.lt (Ne.symm hAF),H.here,pV p1]) (λi i1 i2 i3=>q2 i i1 λe=>i3 (by rw[e];exact abw _ (s4 fA (by simp)).1)) tB w1.nd (λi hi=>by
  rcases aa6.1 hi with rfl|hi
  ·exact .inl (by simp)
  ·rcases w2 i hi with g|g
   ·exact .inl (by simp[g])
   ·exact .inr g)
 rw[pV p1] at z1;exact⟨JF',z1,z2⟩
end
section
theorem Rc{h:List AO}{vs:List AV}{qs:List PV}{I:List Nat}(H:OwnL true h vs qs I):OwnL false h vs qs I:=by
 induction H with
 |nil=>exact .nil
 |p q _ _ ih=>exact .p q (λh=>by cases h) ih
 |nils sz _ ih=>exact .nils sz ih
 |sl id sz n rows es a1 a2 a3 a4 a5 _ _ ih1 ih2=>exact .sl id sz n rows es a1 a2 a3 a4 a5 ih1 ih2
theorem Rt{h:List AO}{id sz:Nat}{rows:List (List AV)}{D:List (List PV)}{J:List Nat}(H:RowOwn true h id sz rows D J):RowOwn false h id sz rows D J:=
 ⟨H.here,H.len,H.rl,H.dl,Rc H.own,H.nd⟩
theorem JY{l:List Fd}{k:Nat}{f0:Fd}(f:Fd)(h:l[k]?=some f0):aD (l.set k f)+f0.sz=aD l+f.sz:=by
 obtain⟨hk,h⟩:=Δ.1 h;subst h;rw[fY f hk,lu];have e:l=l.take k++l.drop k:=(abq _ _).symm;have h1:aD l=aD (l.take k)+aD (l.drop k):=by rw[←lu,←e]
 have h4:aD (l.drop k)=l[k].sz+aD (l.drop (k+1)):=by
  have h6:∀(x:Fd) r,aD (x::r)=x.sz+aD r:=λx r=>by simp[aD]
  rw[abC hk,h6]
 have h5:aD (f::l.drop (k+1))=f.sz+aD (l.drop (k+1)):=by simp[aD]
 omega
def Ta(l:List Fd):Prop:=∀f∈l,∀x∈f.body,x.args≠[]
theorem NU{l:List Fd}(h:aY l=true):Ta l:=by
 intro f hf x hx he;have Q5:=((cT l).1 h).2.1 f hf;simp only[ig,aa1] at Q5;obtain⟨⟨h1,h2⟩,h3,h4⟩:=MJ (aaY.1 Q5.2 _ hx);rw[he] at h3
 have:∀o:Int,1<=o->o<=8->gV o≠0:=by
  intro o h1 h2;have:o=1\/o=2\/o=3\/o=4\/o=5\/o=6\/o=7\/o=8:=by omega
  rcases this with rfl|rfl|rfl|rfl|rfl|rfl|rfl|rfl<;>decide
 exact this _ h1 h2 h3.symm
def Sv(l:List Fd)(k:Nat)(f:Fd)(j:Nat)(x:Sm)(n:Int):List Fd:=l.set k ⟨f.name,f.params,f.body.set j ⟨x.op,x.name,x.args.set 0 (cf n),x.body,x.els⟩⟩
theorem NW{l:List Fd}(H:Ta l){k:Nat}{f:Fd}(hf:l[k]?=some f){j:Nat}{x:Sm}(hx:f.body[j]?=some x)(n:Int):Ta (Sv l k f j x n):=by
 intro g hg y hy;rcases abs hg with h|rfl
 ·exact H g h y hy
 ·have hy:y∈f.body.set j ⟨x.op,x.name,x.args.set 0 (cf n),x.body,x.els⟩:=hy;rcases abs hy with h|rfl
  ·exact H f (aaW hf) y h
  ·intro e;have e:x.args.set 0 (cf n)=[]:=e;have:=congrArg List.length e;rw[abu] at this;exact H f (aaW hf) x (aaW hx) (abH this)
theorem Vz{l:List Fd}{k:Nat}{f:Fd}(hf:l[k]?=some f){j:Nat}{x:Sm}(hx:f.body[j]?=some x)(n:Int):aD (Sv l k f j x n)<=aD l+1:=by
 have h1:=JY ⟨f.name,f.params,f.body.set j ⟨x.op,x.name,x.args.set 0 (cf n),x.body,x.els⟩⟩ hf;have h2:=IP ⟨x.op,x.name,x.args.set 0 (cf n),x.body,x.els⟩ hx;have h3:=Kr x.args 0 (cf n);have h4:(cf n).sz=1:=by simp[cf,Ex.sz,br]
 have h5:=x.sz_eq;have h6:=Sm.sz_eq ⟨x.op,x.name,x.args.set 0 (cf n),x.body,x.els⟩;have e1:(Sm.mk x.op x.name (x.args.set 0 (cf n)) x.body x.els).name=x.name:=rfl;have e2:(Sm.mk x.op x.name (x.args.set 0 (cf n)) x.body x.els).args=x.args.set 0 (cf n):=rfl;have e3:(Sm.mk x.op x.name (x.args.set 0 (cf n)) x.body x.els).body=x.body:=rfl;have e4:(Sm.mk x.op x.name (x.args.set 0 (cf n)) x.body x.els).els=x.els:=rfl;rw[e1,e2,e3,e4] at h6;have K4:f.sz=1+f.name.length+(f.params.length+(f.params.map List.length).sum)+aq f.body:=rfl;have hfz':(Fd.mk f.name f.params (f.body.set j ⟨x.op,x.name,x.args.set 0 (cf n),x.body,x.els⟩)).sz=1+f.name.length+(f.params.length+(f.params.map List.length).sum)+aq (f.body.set j ⟨x.op,x.name,x.args.set 0 (cf n),x.body,x.els⟩):=rfl;unfold Sv;omega
structure L6S where (i:Nat) (q:Nat) (T:List AO) (l:List Fd)
structure L6I (b:List Int) (X fF n p m:Nat) (rowsF:List (List AV)) (a:L6S):Prop where
 t0:a.T[0]?=some (.row 1 [[.nils]])
 tX:a.T[X]?=some (.row 1 [[.sl (fF+1) 3 0 n]])
 len:a.l.length=n
 row:∀q',∃J,RowOwn true (Ψ b q'::a.T) (fF+1) 3 rowsF (a.l.map Fd.cs) J/\∀j∈(fF+1)::J,2<=j/\j≠X+1
 has:Ta a.l
 q1:p<=a.q
 q2:a.q+5*a.i<=m
 z:aD a.l+1*a.i<=300000000
 X0:X≠0
theorem L6I.lt{b:List Int}{X fF n p m:Nat}{rowsF:List (List AV)}{a:L6S}(H:L6I b X fF n p m rowsF a):X<a.T.length:=(Δ.1 H.tX).1
theorem L6I.tF{b:List Int}{X fF n p m:Nat}{rowsF:List (List AV)}{a:L6S}(H:L6I b X fF n p m rowsF a):a.T[fF]?=some (.row 3 rowsF):=by
 obtain⟨J,h,_⟩:=H.row 0;exact h.here
theorem Mc{s:Bool}{b:List Int}{q q':Nat}{T:List AO}{id sz:Nat}{rows:List (List AV)}{D:List (List PV)}{J:List Nat}(H:RowOwn s (Ψ b q::T) id sz rows D J)(hI:∀i∈id::J,2<=i):RowOwn s (Ψ b q'::T) id sz rows D J:=
 H.frame λi hi=>by
  have:=hI i hi;obtain⟨k,rfl⟩:∃k,i=k+1:=⟨i-1,by omega⟩;rfl
theorem L6I.same{b:List Int}{X fF n p m:Nat}{rowsF:List (List AV)}{i q:Nat}{T:List AO}{l:List Fd}(H:L6I b X fF n p m rowsF ⟨i+1,q,T,l⟩)(q':Nat)(os:List AO)(h1:q<=q')(h2:q'<=q+5):L6I b X fF n p m rowsF ⟨i,q',T++os,l⟩:=by
 have hl:=H.lt;have l0:=(Δ.1 H.t0).1;refine⟨by rw[aaT l0];exact H.t0,by rw[aaT hl];exact H.tX,H.len,λq2=>?_,H.has,abe H.q1 h1,?_,?_,H.X0⟩
 ·obtain⟨J,h,hj⟩:=H.row q2;exact⟨J,h.more os,hj⟩
 ·have:=H.q2;simp only at this⊢;omega
 ·have:=H.z;simp only at this⊢;omega
theorem L6I.put{b:List Int}{X fF n p m:Nat}{rowsF:List (List AV)}{i q:Nat}{T:List AO}{l:List Fd}(H:L6I b X fF n p m rowsF ⟨i+1,q,T,l⟩){k:Nat}{f:Fd}(hf:l[k]?=some f){j:Nat}{x:Sm}(hx:f.body[j]?=some x):
 ∃A fB rowsB fA B1 E1 rowsA r0,rowsF[k]?=some [.p (.str f.name),A,.sl (fB+1) 5 0 f.body.length]/\T[fB]?=some (.row 5 rowsB)/\rowsB[j]?=some [.p (.int .i64 x.op),.p (.str x.name),.sl (fA+1) 4 0 x.args.length,B1,E1]/\T[fA]?=some (.row 4 rowsA)/\rowsA[0]?=some r0/\r0.length=4/\
  ∀(q':Nat) (os:List AO) (n':Int),q<=q'->q'<=q+5->L6I b X fF n p m rowsF ⟨i,q',(T++os).set fA (.row 4 (rowsA.set 0 ((cf n').cs.map .p))),Sv l k f j x n'⟩:=by
 obtain⟨J,hR,hJ⟩:=H.row 0;have B8:=H.has f (aaW hf) x (aaW hx)
 obtain⟨a,ha⟩:∃a,x.args[0]?=some a:=by
  cases h:x.args with
  |nil=>exact absurd h B8
  |cons a r=>exact⟨a,rfl⟩
 obtain⟨A,fB,rowsB,fA,B1,E1,rowsA,r0,p1,p2,p3,p4,p5,p6,p7,p8,p9⟩:=OA hR hf hx ha;obtain⟨hA2,hAX⟩:=hJ fA (by simp[p6]);obtain⟨hB2,hBX⟩:=hJ fB (by simp[p7]);obtain⟨gA,rfl⟩:∃gA,fA=gA+1:=⟨fA-1,by omega⟩;obtain⟨gB,rfl⟩:∃gB,fB=gB+1:=⟨fB-1,by omega⟩
 have L8:r0.length=4:=by
  obtain⟨A',B',IB,z1,z2,z3,z4,z5⟩:=zG hR hf;rw[p1] at z1;cases z1;have hneB:f.body.map Sm.cs≠[]:=λe=>by rw[ab0] at e;rw[e] at hx;cases hx
  obtain⟨id1,rows1,J1,e1,e2,HB⟩:=zT z2 z3 hneB;rw[abi] at e1;cases e1;have:rows1=rowsB:=by have:=HB.here;rw[p2] at this;cases this;rfl
  subst this;obtain⟨A2,B2,E2,IA,y1,y2,y3,y4,y5⟩:=SM HB hx;rw[p3] at y1;cases y1;have hneA:x.args.map Ex.cs≠[]:=λe=>by rw[ab0] at e;exact B8 e
  obtain⟨id2,rows2,J2,e3,e4,HA⟩:=zT y2 y3 hneA;rw[abi] at e3;cases e3;have:rows2=rowsA:=by have:=HA.here;rw[p4] at this;cases this;rfl
  subst this;exact HA.rl _ (aaW p5)
 refine⟨A,gB,rowsB,gA,B1,E1,rowsA,r0,p1,by simpa using p2,p3,by simpa using p4,p5,L8,λq' os n' h1 h2=>?_⟩;have hl:=H.lt;have l0:=(Δ.1 H.t0).1;have lA:gA<T.length:=by have:=(Δ.1 p4).1;simpa using this
 refine⟨?_,?_,by simp only[Sv,abu];exact H.len,λq2=>?_,NW H.has hf hx n',abe H.q1 h1,?_,?_,H.X0⟩
 ·simp only;rw[aaV (by omega),aaT l0];exact H.t0
 ·simp only at hl⊢;rw[aaV (by omega),aaT hl];exact H.tX
 ·obtain⟨J',g1,g2⟩:=p9 (Ψ b 0::(T++os).set gA (.row 4 (rowsA.set 0 ((cf n').cs.map .p)))) n' (by
   rw[aa4,aa7 (by simp;omega)]) (λi hi B8=>by
   cases i with
   |zero=>rfl
   |succ i=>rw[aa4,aa4,aaV (by omega),aaT (by simpa using hi)])
  have hJ':∀j∈(fF+1)::J',2<=j/\j≠X+1:=λj hj=>by
   rcases aa6.1 hj with rfl|hj
   ·exact hJ _ (by simp)
   ·rcases g2 j hj with g|g
    ·exact hJ j (by simp[g])
    ·simp only[abc] at g hl;exact⟨by omega,by omega⟩
  exact⟨J',Mc g1 λi hi=>(hJ' i hi).1,hJ'⟩
 ·have:=H.q2;simp only at this⊢;omega
 ·have:=H.z;have:=Vz hf hx n';simp only at* ;omega
end
section
variable (G:au)
theorem FI:AK.whole oZ=FK.ak pn:=rfl
theorem pT:∀l:List PV,oe (l.map AV.p)=some l
 |[]=>rfl
 |q::r=>by rw[abd,oe,pT r];rfl
theorem sg{h:List AO}:∀l:List PV,OwnL false h (l.map AV.p) l []
 |[]=> .nil
 |q::r=> .p q (λh=>by cases h) (sg r)
structure CutS where (q:Nat) (T:List AO) (s:Sm) (x:Nat)
structure CutI (q1:Nat) (T:List AO) (a:CutS):Prop where
 lo:q1<=a.q
 hi:a.q<=q1+10
 fr:Fr [] T a.T
 box:a.T[a.x]?=some (.row 5 [a.s.cs.map .p])
 lx:T.length<=a.x
 z:a.s.sz<=100
theorem JO{b:List Int}(hb:Byt b)(hl:b.length<=2000){p:Nat}(hp:p<=4000000000):AC Tryz.prog G la [.ptr 0 2 0 0] [Ψ b p] λx h=>∃v q,x= .ret v/\h=[Ψ b q]/\PgQ p 900000000 400500100 v q:=by
 refine oI G (AC.goK Fh FI ?_)
 have P8:AC Tryz.prog G dF [.ptr 0 2 0 0] [Ψ b (p+1)] λx h=>∃v q,x= .ret v/\h=[Ψ b q]/\((∃l:List Fd,v= .agg [.p (fdL l)]/\aY l=true/\aD l<=200000000)/\p+1<=q/\q<=p+1+200000000):=
  (Ly G hb hl (by omega)).mono λx h ⟨l,q,e1,e2,e3,e4,e5,e6⟩=>⟨_,q,e1,e2,⟨l,rfl,e3,e4⟩,e5,e6⟩
 have W6:∀n,(cf n).cs=[.int .i64 1,.int .i64 n,.str [],.lst 4 []]:=λn=>(cf n).cs_eq
 simp-implicitDefEqProofs[pn,oZ];refine(aV G b hb hl p (by omega) 8 _).mono ?_;rintro r h ⟨k0,rfl,rfl,_⟩;simp-implicitDefEqProofs[aa];refine aU (λhc=>?_) (λhc=>?_)
 ·simp-implicitDefEqProofs[];refine(jC G (QX G hb hl (p:=p+1) (by omega)) _ (by simp[Ω])).mono ?_;rintro r h ⟨v,q2,rfl,rfl,⟨l2,rfl,V9⟩,h3,h4⟩;simp-implicitDefEqProofs[aa];exact⟨_,_,q2,.agg [.p (fdL l2)],rfl,rfl,.keep (by simp) .nil,⟨l2,rfl,by omega⟩,by omega,by omega⟩
 simp-implicitDefEqProofs[];refine(jC G P8 _ (by simp[Ω])).mono ?_;rintro r h ⟨v,q,rfl,rfl,⟨l,rfl,C7,hz⟩,h1,h2⟩;have A0:=((cT l).1 C7).1;simp-implicitDefEqProofs[aa];refine(AC.mkLift CS (JC G l (by omega)) (by simp)).mono ?_;rintro r h ⟨vs,I,os,rfl,rfl,ho,nd,hI⟩;obtain⟨v,rfl⟩:=fK ho;have B8:l.map Fd.cs≠[]:=by intro h;rw[ab0] at h;rw[h] at A0;simp at A0
 simp at hI;obtain⟨id,rowsF,JF,rfl,rfl,hF⟩:=zT ho nd B8;have V3:2<=id:=hI id (by simp);obtain⟨fF,rfl⟩:∃fF,id=fF+1:=⟨id-1,by omega⟩;rw[abi];simp-implicitDefEqProofs[aa];obtain⟨X,hX⟩:∃X,X=os.length+1:=⟨_,rfl⟩;obtain⟨T0,hT0⟩:∃T,T=AO.row 1 [[AV.nils]]::(os++[AO.row 1 [[AV.sl (fF+1) 3 0 l.length]]]):=⟨_,rfl⟩
 have hI0:∀i q2 os2,i<=4->q2<=q+1->q<=q2->L6I b X fF l.length (p+1) (p+200000100) rowsF ⟨i,q2,T0++os2,l⟩:=λi q2 os2 hi h3 h4=>by
  subst hX hT0;refine⟨rfl,?_,rfl,λq'=>⟨JF,?_,λj hj=>?_⟩,NU C7,by simp only;omega,by simp only;omega,by simp only;omega,by omega⟩
  ·simp
  ·have:RowOwn true (Ψ b q::AO.row 1 [[AV.nils]]::os) (fF+1) 3 rowsF (l.map Fd.cs) JF:=hF;have:=Mc (q':=q') this (λi hi=>hI i hi);have:=this.more ([AO.row 1 [[AV.sl (fF+1) 3 0 l.length]]]++os2);simpa using this
  ·refine⟨hI j hj,λe=>?_⟩
   have:j<([Ψ b q,AO.row 1 [[AV.nils]]]++os).length:=by
    rcases aa6.1 hj with rfl|hj
    ·exact hF.lt
    ·exact hF.own.lt hj
   simp at this;omega
 refine(mj G hb hl (p:=q) (by omega) [2,4,1,0] (k:=os.length+1+1+1) (by simp) (by simp) (by omega) rfl (by simp[jv])).mono ?_;rintro r h ⟨n0,I5,rfl,rfl⟩
 obtain⟨n1,rfl,J8⟩:∃n1:Nat,n0=(n1:Int)/\n1<=4:=by
  simp only[aa6,abo,or_false] at I5;rcases I5 with rfl|rfl|rfl|rfl
  ·exact⟨2,rfl,by omega⟩
  ·exact⟨4,rfl,by omega⟩
  ·exact⟨1,rfl,by omega⟩
  ·exact⟨0,rfl,by omega⟩
 simp-implicitDefEqProofs[aa];have hXr:os.length+1+1=X+1:=by omega
 rw[hXr];refine aJ (λa:L6S=>ah 157 [(4,.p (.int .i64 a.i)),(3,.ptr (X+1) 1 0 0),(2,.ptr 1 1 0 0),(0,.ptr 0 2 0 0)]) (λa=>Ψ b a.q::a.T) (L6I b X fF l.length (p+1) (p+200000100) rowsF) (λa=>a.i) ⟨n1,q+1,T0++[jv [2,4,1,0]],l⟩ (hI0 _ _ _ J8 (by omega) (by omega)) ?_ ?_
 ·have e:∀z,(AO.row 1 [[AV.nils]]::(os++[AO.row 1 [[AV.sl (fF+1) 3 0 l.length]],z]))=T0++[z]:=λz=>by rw[hT0];simp
  simp only[jv,abd,abM,e];refine bO (by simp) ?_;simp[Ω];subst hT0;simp;omega
 clear hI0 hT0 hF hI;rintro⟨i,q1,T,l1⟩ hA;have hXl:=hA.lt;have tX:=hA.tX;have tF:=hA.tF;have tx0:T[0]?=some (.row 1 [[.nils]]):=hA.t0;have I7:l1.length=l.length:=hA.len;have hq1:=hA.q1;have hq2:=hA.q2;simp only at hq1 hq2 hXl tX tF;simp-implicitDefEqProofs[tX];refine aU (λhc=>?_) (λhc=>?_)
 ·simp at hc;obtain⟨i,rfl⟩:∃j,i=j+1:=⟨i-1,by omega⟩;have Q7:IntKind.i64.wrap (i:Int)=(i:Int):=ae (by omega) (by omega)
  have stp:∀(q':Nat) (T':List AO) (l':List Fd) (sl:List (Nat × AV)),L6I b X fF l.length (p+1) (p+200000100) rowsF ⟨i,q',T',l'⟩->Aw.look sl 4= .p (.int .i64 (IntKind.i64.wrap (i:Int)))->Aw.look sl 3= .ptr (X+1) 1 0 0->Aw.look sl 2= .ptr 1 1 0 0->Aw.look sl 0= .ptr 0 2 0 0->
   ∃a:L6S,L6I b X fF l.length (p+1) (p+200000100) rowsF a/\a.i<i+1/\Wk 1 (ah 157 sl) (Ψ b q'::T') (ah 157 [(4,.p (.int .i64 a.i)),(3,.ptr (X+1) 1 0 0),(2,.ptr 1 1 0 0),(0,.ptr 0 2 0 0)]) (Ψ b a.q::a.T):=λq' T' l' sl hA' e4 e3 e2 e0=>by
   have hx:=hA'.lt;simp only at hx;refine⟨⟨i,q',T',l'⟩,hA',by simp only;omega,bO (by simp) ?_⟩;simp[Ω,e4,e3,e2,e0,Q7];omega
  simp-implicitDefEqProofs[tX];refine(aV G b hb hl q1 (by omega) l.length _).mono ?_;rintro r h ⟨k,rfl,rfl,hk⟩;have G6:k<l.length:=by omega
  have W4:=Γ (show k<l1.length by omega);generalize l1[k]=f at W4;obtain⟨J0,hR0,hJ0⟩:=hA.row (q1+1);obtain⟨A,B,IB,g1,g2,g3,g4,_⟩:=zG hR0 W4;simp-implicitDefEqProofs[aa,tX,tF,G6,g1];rcases g2.inv g3 with⟨h0,_,rfl|rfl⟩|⟨h0,_⟩|⟨idB,rowsB,JB,rfl,rfl,hB⟩
  ·simp-implicitDefEqProofs[tX,tF];exact stp _ _ _ _ (by have:=hA.same (q1+1) [] (by omega) (by omega);simpa using this) (by simp) (by simp) (by simp) (by simp)
  ·simp-implicitDefEqProofs[tX,tF];exact stp _ _ _ _ (by have:=hA.same (q1+1) [] (by omega) (by omega);simpa using this) (by simp) (by simp) (by simp) (by simp)
  ·cases h0
  rw[abi] at*
  simp-implicitDefEqProofs[tX,tF,g1]
  by_cases hbe:f.body.length=0
  ·simp-implicitDefEqProofs[hbe,tX,tF];exact stp _ _ _ _ (by have:=hA.same (q1+1) [] (by omega) (by omega);simpa using this) (by simp) (by simp) (by simp) (by simp)
  have G2:0<f.body.length:=by omega
  simp-implicitDefEqProofs[G2,tX,tF,g1];refine(aV G b hb hl (q1+1) (by omega) f.body.length _).mono ?_;rintro r h ⟨j,rfl,rfl,hj⟩;have D8:j<f.body.length:=by omega
  have hgj:=Γ D8;generalize f.body[j]=x at hgj;obtain⟨A2,fB,rowsB2,fA,B1,E1,rowsA,r0,p1,p2,p3,p4,p5,p6,p7⟩:=hA.put W4 hgj
  obtain⟨z1,z2,z3,z4,rfl⟩:∃z1 z2 z3 z4,r0=[z1,z2,z3,z4]:=by
   match r0,p6 with
   |[a,b,c,d],_=>exact⟨a,b,c,d,rfl⟩
  clear p6;have hB2:=g1.symm.trans p1;simp only[Option.some.injEq,List.cons.injEq,AV.sl.injEq,true_and,and_true] at hB2;obtain⟨rfl,rfl⟩:=hB2;have lA:fA<T.length:=(Δ.1 p4).1;have B8:x.args≠[]:=hA.has f (aaW W4) x (aaW hgj);have hpa:0<x.args.length:=abQ.2 B8;have num5:∀(q':Nat) (rest:List AO),q'<=1000000000000->AC Tryz.prog G cR [.ptr 0 2 0 0,.p (.lst 1 [[.int .i64 0],[.int .i64 1],[.int .i64 5]])] (Ψ b q'::rest) λx h=>∃n,n∈[0,1,5]/\x= .ret (.p (.int .i64 n))/\h=Ψ b (q'+1)::rest:=λq' rest hq'=>HQ G hb hl hq' [0,1,5] (by simp) (by simp) rest
  have gA:∀z,(Ψ b z::T)[fA+1]?=some (.row 4 rowsA):=λz=>by rw[aa4];exact p4
  have fin:∀(q':Nat) (n:Int) (sl:List (Nat × AV)),q1<=q'->q'<=q1+5->Aw.look sl 4= .p (.int .i64 (IntKind.i64.wrap (i:Int)))->Aw.look sl 3= .ptr (X+1) 1 0 0->Aw.look sl 2= .ptr 1 1 0 0->Aw.look sl 0= .ptr 0 2 0 0->
   ∃a:L6S,L6I b X fF l.length (p+1) (p+200000100) rowsF a/\a.i<i+1/\Wk 1 (ah 157 sl) (Ψ b q'::T.set fA (.row 4 (rowsA.set 0 [.p (.int .i64 1),.p (.int .i64 n),.p (.str []),.p (.lst 4 [])]))) (ah 157 [(4,.p (.int .i64 a.i)),(3,.ptr (X+1) 1 0 0),(2,.ptr 1 1 0 0),(0,.ptr 0 2 0 0)]) (Ψ b a.q::a.T):=λq' n sl h1 h2 e4 e3 e2 e0=>
   stp q' _ _ sl (by have:=p7 q' [] n h1 h2;simpa[W6] using this) e4 e3 e2 e0
  by_cases h5:x.op=5\/x.op=3
  ·have h53:x.op=5\/¬x.op=5/\x.op=3:=by omega
   rcases h53 with h5|⟨h5,h3⟩
   ·simp-implicitDefEqProofs[aa,D8,tX,tF,g1,p2,p3,h5];refine(num5 (q1+1+1) _ (by omega)).mono ?_;rintro r h ⟨n,_,rfl,rfl⟩;simp-implicitDefEqProofs[aa];refine⟨by simp[p2,p3],?_⟩;refine(gO G n).use ?_;simp-implicitDefEqProofs[W6,p2,p3,p4,hpa,p5];exact fin _ _ _ (by omega) (by omega) (by simp) (by simp) (by simp) (by simp)
   ·simp-implicitDefEqProofs[aa,D8,tX,tF,g1,p2,p3,h5,h3];refine(num5 (q1+1+1) _ (by omega)).mono ?_;rintro r h ⟨n,_,rfl,rfl⟩;simp-implicitDefEqProofs[aa];refine⟨by simp[p2,p3],?_⟩;refine(gO G n).use ?_;simp-implicitDefEqProofs[W6,p2,p3,p4,hpa,p5];exact fin _ _ _ (by omega) (by omega) (by simp) (by simp) (by simp) (by simp)
  have h5':¬x.op=5:=λe=>h5 (.inl e)
  have h3':¬x.op=3:=λe=>h5 (.inr e)
  simp-implicitDefEqProofs[aa,D8,tX,tF,g1,p2,p3,h5',h3'];refine(aV G b hb hl (q1+1+1) (by omega) 3 _).mono ?_;rintro r h ⟨k3,rfl,rfl,_⟩
  have out:∀(q':Nat) (sl:List (Nat × AV)),q1<=q'->q'<=q1+5->Aw.look sl 4= .p (.int .i64 (IntKind.i64.wrap (i:Int)))->Aw.look sl 3= .ptr (X+1) 1 0 0->Aw.look sl 2= .ptr 1 1 0 0->Aw.look sl 0= .ptr 0 2 0 0->
   ∃a:L6S,L6I b X fF l.length (p+1) (p+200000100) rowsF a/\a.i<i+1/\Wk 1 (ah 157 sl) (Ψ b q'::T) (ah 157 [(4,.p (.int .i64 a.i)),(3,.ptr (X+1) 1 0 0),(2,.ptr 1 1 0 0),(0,.ptr 0 2 0 0)]) (Ψ b a.q::a.T):=λq' sl h1 h2 e4 e3 e2 e0=>
   stp q' _ _ sl (by have:=hA.same q' [] h1 h2;simpa using this) e4 e3 e2 e0
  by_cases c0:k3=0
  ·subst c0
   by_cases c8:x.op=8
   ·simp-implicitDefEqProofs[aa,D8,tX,tF,g1,p2,p3,c8];exact out _ _ (by omega) (by omega) (by simp) (by simp) (by simp) (by simp)
   by_cases c6:x.op=6
   ·simp-implicitDefEqProofs[aa,D8,tX,tF,g1,p2,p3,c8,c6];exact out _ _ (by omega) (by omega) (by simp) (by simp) (by simp) (by simp)
   simp-implicitDefEqProofs[aa,D8,tX,tF,g1,p2,p3,c8,c6];refine(num5 (q1+1+1+1) _ (by omega)).mono ?_;rintro r h ⟨n,_,rfl,rfl⟩;simp-implicitDefEqProofs[aa];refine⟨by simp[p2,p3],?_⟩;refine(gO G n).use ?_;simp-implicitDefEqProofs[W6,p2,p3,p4,hpa,p5];exact fin _ _ _ (by omega) (by omega) (by simp) (by simp) (by simp) (by simp)
  ·simp-implicitDefEqProofs[aa,D8,tX,tF,g1,p2,p3,c0];exact out _ _ (by omega) (by omega) (by simp) (by simp) (by simp) (by simp)
 simp at hc;subst hc;have hRw:=hA.row;have hz1:=hA.z;simp only at hRw hz1;have lT:=(Δ.1 tx0).1;have lF:=(Δ.1 tF).1;have hX0:X≠0:=hA.X0
 have endS:∀(s:Bool) (q':Nat) (T':List AO) (l':List Fd) (J':List Nat) (rows':List (List AV)),RowOwn s (Ψ b q'::T') (fF+1) 3 rows' (l'.map Fd.cs) J'->(∀i∈(fF+1)::J',2<=i)->l'.length=l.length->aD l'<=400000000->q1<=q'->q'<=q1+50->DP b (PgQ p 900000000 400500100) (.ret (.agg [.sl (fF+1) 3 0 l.length])) (Ψ b q'::T'.set 0 (.row 1 [[.sl (fF+1) 3 0 l.length]])):=λs q' T' l' J' rows' hR hJ hl' hz' h1 h2=>by
  have tree:=(hR.frame (h':=Ψ b q'::T'.set 0 (.row 1 [[.sl (fF+1) 3 0 l.length]])) λi hi=>by
   have:=hJ i hi;obtain⟨k,rfl⟩:∃k,i=k+1:=⟨i-1,by omega⟩;rw[aa4,aa4,aaV (by omega)]).tree (n:=l.length) (by simp[hl'])
  exact⟨_,_,q',.agg [.p (fdL l')],rfl,rfl,.agg (.one ((KP tree (λi hi=>by have:=hJ i hi;omega) .dead).view 0 _ _ rfl rfl) .nil) .nil,⟨l',rfl,by omega⟩,by omega,by omega⟩
 have s0:∀x,(T.set 0 x)[0]?=some x:=λx=>aa7 lT
 simp-implicitDefEqProofs[];refine(aV G b hb hl q1 (by omega) 3 _).mono ?_;rintro r h ⟨k3,rfl,rfl,_⟩;simp-implicitDefEqProofs[aa];refine aU (λhc=>?_) (λhc=>?_)
 case refine_2=>
  simp-implicitDefEqProofs[tX,tx0,s0];obtain⟨J0,hR0,hJ0⟩:=hRw (q1+1);exact endS _ _ _ _ _ _ hR0 (λi hi=>(hJ0 i hi).1) I7 (by omega) (by omega) (by omega)
 have J8:(l.length:Int)-1=((l.length-1:Nat):Int):=by omega
 have W4:=Γ (show l.length-1<l1.length by omega);generalize l1[l.length-1]=f at W4;obtain⟨J0,hR0,hJ0⟩:=hRw (q1+1);obtain⟨A,B,IB,g1,g2,g3,g4,_⟩:=zG hR0 W4;have hBc:=(RF g2).2
 have hBl:Jv B=some (.p (.int .i64 f.body.length)):=by
  rcases g2.inv g3 with⟨h0,_,rfl|rfl⟩|⟨h0,_⟩|⟨idB,rowsB,JB,rfl,rfl,hB⟩
  ·have:f.body.length=0:=by simpa using congrArg List.length h0
   simp[this]
  ·have:f.body.length=0:=by simpa using congrArg List.length h0
   simp[this]
  ·cases h0
  ·simp
 have K4:=cL (aaW W4);have S6:f.sz=1+f.name.length+(f.params.length+(f.params.map List.length).sum)+aq f.body:=rfl;have O9:=bF f.body;have V7:IntKind.i64.wrap ((l.length:Int)-1)=((l.length-1:Nat):Int):=by rw[ae (by omega) (by omega)];omega
 have G6:l.length-1<l.length:=by omega
 have K3:IntKind.i64.wrap ((f.body.length:Int)+1)=((f.body.length+1:Nat):Int):=by rw[ae (by omega) (by omega)];omega
 simp-implicitDefEqProofs[-AV.isCell,-AV.cells,tX,tF,g1,hBc,hBl,V7,K3,G6];refine⟨rfl,?_⟩;refine(aV G b hb hl (q1+1) (by omega) ((f.body.length:Int)+1) _).mono ?_;rintro r h ⟨at_,rfl,rfl,F5⟩;have hat2:at_<=f.body.length:=by omega
 simp-implicitDefEqProofs[aa];refine(mj G hb hl (p:=q1+1+1) (by omega) [7,6,5] (k:=T.length+1) (by simp) (by simp) (by omega) rfl (by simp[jv])).mono ?_;rintro r h ⟨n7,hn7,rfl,rfl⟩;have aX:∀os,(T++os)[X]?=some (.row 1 [[.sl (fF+1) 3 0 l.length]]):=λos=>by rw[aaT hXl];exact tX
 simp-implicitDefEqProofs[aa];refine(aV G b hb hl (q1+1+1+1) (by omega) 2 _).mono ?_;rintro r h ⟨m1,rfl,rfl,_⟩;simp-implicitDefEqProofs[aa];refine(aV G b hb hl (q1+1+1+1+1) (by omega) 2 _).mono ?_;rintro r h ⟨m2,rfl,rfl,_⟩;simp-implicitDefEqProofs[aa];obtain⟨nz,hnz⟩:∃nz,nz=IntKind.i64.wrap ((m1:Int)*m2):=⟨_,rfl⟩;rw[←hnz];clear hnz;refine(gO G nz).use ?_;simp only[W6];simp-implicitDefEqProofs[];refine rx (λa:CutS=>ah 157 [(9,.ptr (a.x+1) 5 0 0),(8,.p (.int .i64 at_)),(7,.ptr (fF+1) 3 (l.length-1) 0),(3,.ptr (X+1) 1 0 0),(2,.ptr 1 1 0 0),(0,.ptr 0 2 0 0)]) (λa=>Ψ b a.q::a.T) (CutI q1 T) ?_ ?_
 ·simp-implicitDefEqProofs[];refine aU (λh7=>?_) (λh7=>?_)
  case refine_2=>
   have h7:n7=7:=by simpa using h7
   subst h7;simp-implicitDefEqProofs[];refine⟨⟨q1+1+1+1+1+1,T++[.dead,.dead,.row 5 [(Sm.mk 7 [] [cf nz] [] []).cs.map .p]],⟨7,[],[cf nz],[],[]⟩,T.length+2⟩,⟨by simp only;omega,by simp only;omega,Fr.more _ _ _,by simp,by simp,by simp[Sm.sz,br,aq,cf,Ex.sz]⟩,?_⟩;refine GA (pre:=Ψ b (q1+1+1+1+1+1)::T) (suf:=[_,_,_]) (by simp) (.drop (.give (.one ?_ .nil))) ?_
   ·rw[Sm.cs_eq];refine .keep (by simp) (.keep (by simp) (.one ?_ (.one (.nils 5) (.one (.nils 5) .nil))));exact gI (ls:=[(cf nz).cs]) (by simp[W6]) rfl (by simp)
   ·refine⟨.keep ?_ .nil,.keep trivial .nil,.keep ?_ .nil,.keep ?_ .nil,.keep ?_ .nil,.keep ?_ .nil,trivial⟩<;>simp[Ω]<;>omega
  have h7:¬n7=7:=by simpa using h7
  simp-implicitDefEqProofs[];refine(gO G 9).use ?_;simp only[W6];simp-implicitDefEqProofs[]
  have hS9:∀hF:List AO,hF[T.length+4]?=some (.row 4 [[.p (.int .i64 1),.p (.int .i64 9),.p (.str []),.p (.lst 4 [])]])->hF[T.length+5]?=some (.row 5 [[.p (.int .i64 3),.p (.str []),.sl (T.length+4) 4 0 1,.nils,.nils]])->View hF (.sl (T.length+5) 5 0 1) (Θ [⟨3,[],[cf 9],[],[]⟩]):=λhF e1 e2=>by
   have o1:OwnL false hF [.sl (T.length+4) 4 0 1] [Φ [cf 9]] [T.length+4]:=by
    refine OwnL.sl (J:=[]) (I:=[]) (T.length+4) 4 1 _ _ e1 rfl rfl (by simp) (by simp) ?_ .nil;simp only[abd,abM,W6,abG,List.flatten_nil,abF];exact .p _ (λ_=>rfl) (.p _ (λ_=>rfl) (.p _ (λ_=>rfl) (.p _ (λ_=>rfl) .nil)))
   have o2:OwnL false hF [.sl (T.length+5) 5 0 1] [Θ [⟨3,[],[cf 9],[],[]⟩]] [T.length+5,T.length+4]:=by
    refine OwnL.sl (J:=[T.length+4]) (I:=[]) (T.length+5) 5 1 _ _ e2 rfl rfl (by simp) (by simp) ?_ .nil;have:=Ll (s:=false) (o:=3) (w:=[]) (b:=[]) (e:=[]) o1 (.nils 5 .nil) (.nils 5 .nil);simpa using this
   exact o2.view 0 _ _ rfl rfl
  have fin5:∀(o nz':Int) (x0:AO) (sl:List (Nat × AV)),Aw.look sl 9= .ptr (T.length+2+1) 5 0 0->Aw.look sl 8= .p (.int .i64 at_)->Aw.look sl 7= .ptr (fF+1) 3 (l.length-1) 0->Aw.look sl 3= .ptr (X+1) 1 0 0->Aw.look sl 2= .ptr 1 1 0 0->Aw.look sl 0= .ptr 0 2 0 0->
   ∃s:CutS,CutI q1 T s/\Wk 1 (ah 157 sl) (Ψ b (q1+1+1+1+1+1)::(T++[x0,.row 4 [[.p (.int .i64 1),.p (.int .i64 nz'),.p (.str []),.p (.lst 4 [])]],.row 5 [[.p (.int .i64 o),.p (.str []),.sl (T.length+1+1) 4 0 1,.sl (T.length+4+1) 5 0 1,.nils]],
    .row 4 [[.p (.int .i64 1),.p (.int .i64 9),.p (.str []),.p (.lst 4 [])]],.row 5 [[.p (.int .i64 3),.p (.str []),.sl (T.length+3+1) 4 0 1,.nils,.nils]]])) (ah 157 [(9,.ptr (s.x+1) 5 0 0),(8,.p (.int .i64 at_)),(7,.ptr (fF+1) 3 (l.length-1) 0),(3,.ptr (X+1) 1 0 0),(2,.ptr 1 1 0 0),(0,.ptr 0 2 0 0)]) (Ψ b s.q::s.T):=λo nz' x0 sl e9 e8 e7 e3 e2 e0=>by
   refine⟨⟨q1+1+1+1+1+1,T++[.dead,.dead,.row 5 [(Sm.mk o [] [cf nz'] [⟨3,[],[cf 9],[],[]⟩] []).cs.map .p],.dead,.dead],⟨o,[],[cf nz'],[⟨3,[],[cf 9],[],[]⟩],[]⟩,T.length+2⟩,⟨by simp only;omega,by simp only;omega,Fr.more _ _ _,by simp,by simp,by simp[Sm.sz,br,aq,cf,Ex.sz]⟩,?_⟩;refine GA (pre:=Ψ b (q1+1+1+1+1+1)::T) (suf:=[_,_,_,_,_]) (by simp) (.drop (.give (.one ?_ (.give (.give .nil))))) ?_
   ·rw[Sm.cs_eq];refine .keep (by simp) (.keep (by simp) (.one ?_ (.one ?_ (.one (.nils 5) .nil))))
    ·exact gI (ls:=[(cf nz').cs]) (by simp[W6]) rfl (by simp)
    ·refine hS9 _ ?_ ?_
     ·simp
     ·simp
   ·simp only[FzA,e9,e8,e7,e3,e2,e0];refine⟨.keep ?_ .nil,.keep trivial .nil,.keep ?_ .nil,.keep ?_ .nil,.keep ?_ .nil,.keep ?_ .nil,trivial⟩<;>simp[Ω]<;>omega
  refine aU (λh6=>?_) (λh6=>?_)
  ·have h6:n7=6:=by simpa using h6
   subst h6;simp-implicitDefEqProofs[];refine(gO G 0).use ?_;simp only[W6];simp-implicitDefEqProofs[];exact fin5 _ _ _ _ (by simp) (by simp) (by simp) (by simp) (by simp) (by simp)
  ·exact fin5 _ _ _ _ (by simp) (by simp) (by simp) (by simp) (by simp) (by simp)
 clear tX tF tx0 aX s0 hBl;rintro⟨q3,T2,x,y⟩ ⟨c1,c2,c3,c4,c5,c6⟩;simp only at c1 c2 c3 c4 c5 c6;have k2:∀i,i<T.length->T2[i]?=T[i]?:=λi hi=>c3.2 i hi (by simp)
 have k1:=c3.1;have uX:T2[X]?=some (.row 1 [[.sl (fF+1) 3 0 l.length]]):=by rw[k2 X hXl];exact hA.tX
 have uF:T2[fF]?=some (.row 3 rowsF):=by rw[k2 fF lF];exact hA.tF
 have u0:T2[0]?=some (.row 1 [[.nils]]):=by rw[k2 0 lT];exact hA.t0
 have hxc:x.cs.length=5:=x.cs_len;have lY:=(Δ.1 c4).1
 have hR2:∀q',RowOwn true (Ψ b q'::T2) (fF+1) 3 rowsF (l1.map Fd.cs) J0:=λq'=>(Mc (q':=q') hR0 λi hi=>(hJ0 i hi).1).frame λi hi=>by
  have h2:=(hJ0 i hi).1
  have C9:i<T.length+1:=by
   rcases aa6.1 hi with rfl|hi
   ·have:=hR0.lt;simpa using this
   ·have:=hR0.own.lt hi;simpa using this
  obtain⟨k,rfl⟩:∃k,i=k+1:=⟨i-1,by omega⟩;rw[aa4,aa4,k2 k (by omega)]
 have lF2:fF<T2.length:=by omega
 have vX:∀os,(T2++os)[X]?=some (.row 1 [[.sl (fF+1) 3 0 l.length]]):=λos=>by rw[aaT (by omega)];exact uX
 have vF:∀os,(T2++os)[fF]?=some (.row 3 rowsF):=λos=>by rw[aaT (by omega)];exact uF
 have v0:∀os,(T2++os)[0]?=some (.row 1 [[.nils]]):=λos=>by rw[aaT (by omega)];exact u0
 have vY:∀os,(T2++os)[y]?=some (.row 5 [x.cs.map .p]):=λos=>by rw[aaT lY];exact c4
 have N9:=(hJ0 (fF+1) (by simp));have fF0:fF≠0:=by omega
 have fFX:fF≠X:=by omega
 have wX:∀os z,((T2++os).set fF z)[X]?=some (.row 1 [[.sl (fF+1) 3 0 l.length]]):=λos z=>by rw[aaV fFX];exact vX os
 have w0:∀os z,((T2++os).set fF z)[0]?=some (.row 1 [[.nils]]):=λos z=>by rw[aaV fF0];exact v0 os
 have z0:∀os z w,(((T2++os).set fF z).set 0 w)[0]?=some w:=λos z w=>aa7 (by simp;omega)
 obtain⟨A',B',IB',i1,i2,i3,i4,i5⟩:=zG (Rt (hR2 q3)) W4;rw[g1] at i1;simp only[Option.some.injEq,List.cons.injEq,and_true,true_and] at i1;obtain⟨rfl,rfl⟩:=i1
 have finB:∀(rows5:List (List AV)) (body':List Sm) (JB5:List Nat) (n5:Nat),n5=body'.length->rows5.length=body'.length->OwnL false (Ψ b q3::T2) rows5.flatten (body'.map Sm.cs).flatten JB5->(∀e∈rows5,e.length=5)->JB5.Nodup->(∀j∈JB5,j∈IB')->aq body'<=aq f.body+100->
  DP b (PgQ p 900000000 400500100) (.ret (.agg [.sl (fF+1) 3 0 l.length])) (Ψ b q3::(((T2++[AO.dead,AO.dead,AO.dead,AO.row 5 rows5]).set fF (.row 3 (rowsF.set (l.length-1) [.p (.str f.name),A,.sl (T2.length+3+1) 5 0 n5]))).set 0 (.row 1 [[.sl (fF+1) 3 0 l.length]]))):=λrows5 body' JB5 n5 e0 e1 e2 e3 e4 e5 e6=>by
  subst e0
  have eN:(Ψ b q3::(T2++[AO.dead,AO.dead,AO.dead,AO.row 5 rows5]).set fF (.row 3 (rowsF.set (l.length-1) [.p (.str f.name),A,.sl (T2.length+3+1) 5 0 body'.length])))[T2.length+3+1]?=some (.row 5 rows5):=by rw[aa4,aaV (by omega),aa5 (by omega)];simp
  have eO:OwnL false (Ψ b q3::(T2++[AO.dead,AO.dead,AO.dead,AO.row 5 rows5]).set fF (.row 3 (rowsF.set (l.length-1) [.p (.str f.name),A,.sl (T2.length+3+1) 5 0 body'.length]))) rows5.flatten (body'.map Sm.cs).flatten JB5:=e2.frame λi hi=>by
   have h1:=e2.lt hi;have h2:=(i4 i (e5 i hi)).2;cases i with
   |zero=>rfl
   |succ i=>rw[aa4,aa4,aaV (by omega),aaT (by simpa using h1)]
  have tree:=OwnL.sl (T2.length+3+1) 5 body'.length rows5 (body'.map Sm.cs) eN (by simp) (by simpa using e1) e3 (λe he=>by obtain⟨x,_,rfl⟩:=abb.1 he;simp) eO .nil;rw[abF] at tree;have C9:∀j∈JB5,j<T2.length+1:=λj hj=>by have:=e2.lt hj;simpa using this
  obtain⟨J',r1,r2⟩:=i5 (Ψ b q3::(T2++[AO.dead,AO.dead,AO.dead,AO.row 5 rows5]).set fF (.row 3 (rowsF.set (l.length-1) [.p (.str f.name),A,.sl (T2.length+3+1) 5 0 body'.length]))) _ body' _ (by
   rw[aa4,aa7 (by simp;omega)]) (λj j1 j2 j3=>by
   cases j with
   |zero=>rfl
   |succ j=>rw[aa4,aa4,aaV (by omega),aaT (by simpa using j1)]) tree
   (aby.2 ⟨λhm=>by have:=C9 _ hm;omega,e4⟩) (λj hj=>by
     rcases aa6.1 hj with rfl|hj
     ·exact .inr (by simp)
     ·exact .inl (e5 j hj))
  have hput:=JY ⟨f.name,f.params,body'⟩ W4;have hz':(Fd.mk f.name f.params body').sz=1+f.name.length+(f.params.length+(f.params.map List.length).sum)+aq body':=rfl;refine endS false q3 _ _ J' _ r1 (λi hi=>?_) (by simp[I7]) (by omega) (by omega) (by omega);rcases aa6.1 hi with rfl|hi
  ·exact N9.1
  ·rcases r2 i hi with g|g
   ·exact(hJ0 i (by simp[g])).1
   ·simp at g;omega
 have v0g:∀os (hh:0<(T2++os).length),(T2++os)[0]= .row 1 [[.nils]]:=λos hh=>(Δ.1 (v0 os)).2
 have w0g:∀os z (hh:0<((T2++os).set fF z).length),((T2++os).set fF z)[0]= .row 1 [[.nils]]:=λos z hh=>(Δ.1 (w0 os z)).2
 have z0g:∀os z w (hh:0<(((T2++os).set fF z).set 0 w).length),(((T2++os).set fF z).set 0 w)[0]=w:=λos z w hh=>(Δ.1 (z0 os z w)).2
 rcases i2.inv i3 with⟨h0,_,rfl|rfl⟩|⟨_,rfl,_⟩|⟨idB,rowsB,JB,rfl,rfl,hB⟩
 ·have N7:f.body.length=0:=by simpa using congrArg List.length h0
  have M1:at_=0:=by omega
  subst M1;simp-implicitDefEqProofs[v0g,w0g,z0g,uX,uF,u0,c4, ↓vX, ↓vF, ↓v0, ↓vY, ↓wX, ↓w0, ↓z0,g1,hxc,pT,aaX (show x.cs.length<=5 by omega)];refine finB [x.cs.map .p] [x] [] 1 rfl rfl ?_ (by simp) .nil (by simp) ?_
  ·simpa using sg x.cs
  ·simp[aq];omega
 ·have N7:f.body.length=0:=by simpa using congrArg List.length h0
  have M1:at_=0:=by omega
  subst M1;simp-implicitDefEqProofs[v0g,w0g,z0g,uX,uF,u0,c4, ↓vX, ↓vF, ↓v0, ↓vY, ↓wX, ↓w0, ↓z0,g1,hxc,pT,aaX (show x.cs.length<=5 by omega)];refine finB [x.cs.map .p] [x] [] 1 rfl rfl ?_ (by simp) .nil (by simp) ?_
  ·simpa using sg x.cs
  ·simp[aq];omega
 ·have hD:f.body.map Sm.cs=[]:=by
   cases g2 with
   |p _ hq _=>
    have:=hq rfl;cases hb:f.body with
    |nil=>rfl
    |cons a r=>rw[hb] at this;simp[Θ,Sx] at this
  have N7:f.body.length=0:=by simpa using congrArg List.length hD
  have M1:at_=0:=by omega
  subst M1;rw[hD] at g1;simp-implicitDefEqProofs[v0g,w0g,z0g,uX,uF,u0,c4, ↓vX, ↓vF, ↓v0, ↓vY, ↓wX, ↓w0, ↓z0,g1,hxc,pT,aaX (show x.cs.length<=5 by omega)];refine finB [x.cs.map .p] [x] [] 1 rfl rfl ?_ (by simp) .nil (by simp) ?_
  ·simpa using sg x.cs
  ·simp[aq];omega
 ·have ha5:(fF+1)≠idB:=λe=>(i4 idB (by simp)).2 e.symm
  have V3:=(hJ0 idB (by simp[(i4 idB (by simp)).1]));obtain⟨fB,rfl⟩:∃fB,idB=fB+1:=⟨idB-1,by omega⟩;rw[abi] at*
  have uB:T2[fB]?=some (.row 5 rowsB):=by have:=hB.here;simpa using this
  have lB:=(Δ.1 uB).1;have G9:rowsB.length=f.body.length:=by have:=hB.len;simpa using this
  have vB:∀os,(T2++os)[fB]?=some (.row 5 rowsB):=λos=>by rw[aaT (by omega)];exact uB
  simp-implicitDefEqProofs[v0g,w0g,z0g,uX,uF,u0,uB,c4, ↓vX, ↓vF, ↓v0, ↓vY, ↓vB, ↓wX, ↓w0, ↓z0,g1,hxc,pT,hat2,G9,aaX (show x.cs.length<=5 by omega)];refine⟨⟨by omega,by omega⟩,⟨by omega,by omega⟩,⟨by omega,by omega⟩,?_⟩
  have q1:List.take (at_+1) (List.take at_ (List.take at_ rowsB)++[List.map AV.p x.cs])=rowsB.take at_++[x.cs.map .p]:=by rw[List.take_take,Nat.min_self,aaX (by simp;omega)]
  have q2:List.take (f.body.length-at_) (List.drop at_ rowsB)=rowsB.drop at_:=aaX (by simp[G9]);rw[q1,q2];have o1:=hB.own;rw[←abq at_ rowsB,←abq at_ (f.body.map Sm.cs),abL,abL] at o1
  have hl5:((rowsB.take at_).flatten).length=(((f.body.map Sm.cs).take at_).flatten).length:=by
   rw[Aw.lr (sz:=5) (λe he=>hB.rl e (abv he)),Aw.lr (sz:=5) (λe he=>hB.dl e (abv he))];simp[G9]
  obtain⟨Ia,Ib,hIab,o2,o3⟩:=OwnL.split o1 hl5;have o4:=o2.app ((sg (h:=Ψ b q3::T2) x.cs).app o3);rw[ace,←hIab] at o4;have nB:=hB.nd;rw[aby] at nB;refine finB _ (f.body.take at_++x::f.body.drop at_) JB _ (by simp;omega) (by simp[G9]) ?_ ?_ nB.2 (λj hj=>by simp[hj]) ?_
  ·simpa[abL,acm,List.map_drop] using o4
  ·intro e he;simp only[aaZ,aa0] at he;rcases he with(he|he)|he
   ·exact hB.rl e (abv he)
   ·rw[he];simp
   ·exact hB.rl e (acx he)
  ·have e1:aq f.body=aq (f.body.take at_)+aq (f.body.drop at_):=by rw[←bE,abq]
   rw[bE,aq];omega
end
section
theorem Cd:AK.whole bS=FK.ak bU:=rfl
theorem Qu{c d:Nat}{e:Ex}(h:aT c e=true)(hd:c<=d):aT d e=true:=by
 obtain⟨k,rfl⟩:=Nat.le.dest hd;clear hd
 induction k with
 |zero=>exact h
 |succ k ih=>exact sQ ih
variable (G:au)
theorem Mf(hK:G dc=some cU)(hS:G bv=some [PV.tbl opK opV]){d:Nat}{e:Ex}(hf:aT d e=true)(hd:d<=6)(hp30:e.parts<=30)(hz:e.sz<=1073741824):VF Tryz.prog G iV [.agg (e.cs.map .p)] (.agg ((fw e.op e.n e.name e.kids).cs.map .p)):=by
 have hc:=e.cs_eq;have A3:∀l,Φ l= .lst 4 (l.map Ex.cs):=λ_=>rfl
 have hem:e= .mk e.op e.n e.name e.kids:=by cases e;rfl
 have hzz:=e.sz_eq;have hpp:=e.parts_eq;obtain⟨d,rfl⟩:=bK hf;have hkf:∀a∈e.kids,aT d a=true:=λa ha=>bh hf ha
 have G4:∀a∈e.kids,a.sz<=1073741824:=λa ha=>by have:=aQ ha;omega
 have hkx:∀a∈e.kids,iG a=true:=λa ha=>by
  rw[iG,aa1,decide_eq_true_eq];refine⟨Qu (hkf a ha) (by omega),?_⟩;have:=nu ha;omega
 have T7:∀q,(cf q).cs=[.int .i64 1,.int .i64 q,.str [],.lst 4 []]:=λq=>rfl
 refine AC.goK Cz Cd ?_;have w0:IntKind.i64.wrap 0=0:=ae (by omega) (by omega);have w1':IntKind.i64.wrap 1=1:=ae (by omega) (by omega)
 by_cases he:e.kids=[]\/e.op=13\/e.op=12
 ·have hp:fw e.op e.n e.name e.kids=e:=by
   unfold fw;split
   ·exact hem.symm
   ·rcases he with h|h|h
    ·rw[h]
     conv=>rhs;rw[hem,h]
    ·rename_i hn;exact(hn (.inr h)).elim
    ·rename_i hn;exact(hn (.inl h)).elim
  rw[hp,hc];rcases he with h|h|h
  ·simp-implicitDefEqProofs[bS,bU,hc,A3,h]
  ·by_cases hk:e.kids=[]
   ·simp-implicitDefEqProofs[bS,bU,hc,A3,h,hk]
   ·have hk':¬(e.kids.length:Int)=0:=by
     intro h0;exact hk (acO.1 (by omega))
    simp-implicitDefEqProofs[bS,bU,hc,A3,h,hk',hk]
  ·by_cases hk:e.kids=[]
   ·simp-implicitDefEqProofs[bS,bU,hc,A3,h,hk]
   ·simp-implicitDefEqProofs[bS,bU,hc,A3,h,hk]
 have B8:e.kids≠[]:=λh=>he (.inl h)
 have o13:¬e.op=13:=λh=>he (.inr (.inl h))
 have o12:¬e.op=12:=λh=>he (.inr (.inr h))
 by_cases o11:e.op=11
 ·obtain⟨l1,l2,_⟩:=dL hf;rw[o11] at l1 l2;have e1:loK 11=1:=rfl;have e2:hiK 11=1:=rfl;rw[e1] at l1;rw[e2] at l2
  obtain⟨a,hk⟩:∃a,e.kids=[a]:=by
   match hx:e.kids,l1,l2 with
   |[x],_,_=>exact⟨x,rfl⟩
  have A5:=a.cs_eq
  have hp:fw e.op e.n e.name e.kids=kA e.op e.n e.name a:=by
   unfold fw;rw[if_neg (by omega),hk]
  rw[hp];generalize L9:kA e.op e.n e.name a=res;simp-implicitDefEqProofs[bS,bU,hc,A3,o11,hk]
  refine ju (ah 122 [(1,.ptr 0 4 0 0),(2,.ptr 1 4 0 0),(3,.ptr 2 4 0 0),(4,.ptr 3 4 0 0)])
   [.row 4 [[.p (.int .i64 11),.p (.int .i64 e.n),.p (.str e.name),.p (.lst 4 [a.cs])]],.row 4 [[.p (.int .i64 0),.p (.int .i64 0),.p (.str []),.nils]],.row 4 [[.p (.int .i64 a.op),.p (.int .i64 a.n),.p (.str a.name),.p (Φ a.kids)]],.row 4 [[.p (.int .i64 a.op),.p (.int .i64 a.n),.p (.str a.name),.p (Φ a.kids)]]] ?_ ?_
  ·simp-implicitDefEqProofs[A5,w0];exact⟨ab (by simp) (by simp[Ξ,Ω]) (by simp[Ω]),bB [0,1,3,2] (by simp) (by decide) (by decide) (aw rfl (by simp[Ω]) (aw rfl (by simp[Ω]) (aw rfl (by simp[Ω]) (aw rfl (by simp[Ω]) aP)))) (by simp[Ω,ren])⟩
  refine rx (λ_:Unit=>ah 122 [(1,.ptr 0 4 0 0),(2,.ptr 1 4 0 0),(3,.ptr 2 4 0 0),(4,.ptr 3 4 0 0)]) (λ_=>[.row 4 [[.p (.int .i64 11),.p (.int .i64 e.n),.p (.str e.name),.p (.lst 4 [a.cs])]],.row 4 [[.p (.int .i64 0),.p (.int .i64 0),.p (.str []),.nils]],.row 4 [[.p (.int .i64 a.op),.p (.int .i64 a.n),.p (.str a.name),.p (Φ a.kids)]],.row 4 [[.p (.int .i64 a.op),.p (.int .i64 a.n),.p (.str a.name),.p (Φ a.kids)]]]) (λ_=>¬a.op=1) ?_ ?_
  ·by_cases a1:a.op=1
   ·rw[←L9,kA,if_pos a1];simp-implicitDefEqProofs[A5,a1];refine(JQ G _ _).use ?_;simp-implicitDefEqProofs[];refine(mF G _).use ?_;simp-implicitDefEqProofs[T7]
   ·simp-implicitDefEqProofs[A5,a1];exact ab (by simp) (by simp[Ξ,Ω]) (by simp[Ω])
  intro _ a1
  have same:(∀c,a.kids=[c]->¬(e.op=11/\a.op=11/\c.op=11))->kA e.op e.n e.name a=e:=by
   intro h;have h0:Ex.mk e.op e.n e.name [a]=e:=by rw[←hk];exact hem.symm
   unfold kA;rw[if_neg a1];split
   ·rename_i c hc';split
    ·rename_i h3;exact(h c hc' ⟨o11,h3⟩).elim
    ·exact h0
   ·exact h0
  by_cases a11:a.op=11
  ·have haf:=hkf a (by rw[hk];simp);obtain⟨l1,l2,_⟩:=dL haf;rw[a11,e1] at l1;rw[a11,e2] at l2
   obtain⟨c,F1⟩:∃c,a.kids=[c]:=by
    match hx:a.kids,l1,l2 with
    |[x],_,_=>exact⟨x,rfl⟩
   have C5:=c.cs_eq
   by_cases c11:c.op=11
   ·have hq:kA e.op e.n e.name a=c:=by
     unfold kA;rw[if_neg a1,F1];exact if_pos ⟨a11,c11⟩
    rw[←L9,hq];simp-implicitDefEqProofs[A5,a11,A3,F1,C5,c11]
   ·rw[←L9,same (λx hx h=>by rw[F1] at hx;cases hx;exact c11 h.2.2)];simp-implicitDefEqProofs[hc,hk,o11,A5,a11,A3,F1,C5,c11]
  ·rw[←L9,same (λx hx h=>a11 h.2.1)];simp-implicitDefEqProofs[hc,hk,o11,A5,a11,A3]
 obtain⟨a,b,hk⟩:∃a b,e.kids=[a,b]:=by
  obtain⟨l1,l2,l3,l4⟩:=dL hf;have hln:0<e.kids.length:=abQ.2 B8
  have o1:¬(e.op=1\/e.op=2):=by
   intro h;rw[hiK,if_pos h] at l2;omega
  have e1:loK e.op=2:=by rw[loK,if_neg o1,if_neg (by omega),if_neg (by omega)]
  have e2:hiK e.op=2:=by rw[hiK,if_neg o1,if_neg (by omega),if_neg (by omega)]
  rw[e1] at l1;rw[e2] at l2
  match hx:e.kids,l1,l2 with
  |[a,b],_,_=>exact⟨a,b,rfl⟩
 obtain⟨h3,Q4⟩:=DM hf hk (by omega);have A5:=a.cs_eq;have A6:=b.cs_eq;have haf:=hkf a (by rw[hk];simp);have Y9:=hkf b (by rw[hk];simp)
 have hp:fw e.op e.n e.name e.kids=mR e.op e.n e.name a b:=by
  unfold fw;rw[if_neg (by omega),hk]
 rw[hp];simp-implicitDefEqProofs[bS,bU,hc,A3,o12,o13,hk]
 refine ju (ah 122 [(1,.ptr 0 4 0 0),(2,.ptr 1 4 0 0),(3,.ptr 2 4 0 0),(4,.ptr 3 4 0 0)])
  [.row 4 [[.p (.int .i64 e.op),.p (.int .i64 e.n),.p (.str e.name),.p (.lst 4 [a.cs,b.cs])]],.row 4 [[.p (.int .i64 0),.p (.int .i64 0),.p (.str []),.nils]],.row 4 [[.p (.int .i64 a.op),.p (.int .i64 a.n),.p (.str a.name),.p (Φ a.kids)]],.row 4 [[.p (.int .i64 b.op),.p (.int .i64 b.n),.p (.str b.name),.p (Φ b.kids)]]] ?_ ?_
 ·simp-implicitDefEqProofs[A5,A6,w1'];exact⟨ab (by simp) (by simp[Ξ,Ω]) (by simp[Ω]),bB [0,1,3,2] (by simp) (by decide) (by decide) (aw rfl (by simp[Ω]) (aw rfl (by simp[Ω]) (aw rfl (by simp[Ω]) (aw rfl (by simp[Ω]) aP)))) (by simp[Ω,ren])⟩
 refine rx (λ_:Unit=>ah 122 [(1,.ptr 0 4 0 0),(2,.ptr 1 4 0 0),(3,.ptr 2 4 0 0),(4,.ptr 3 4 0 0)]) (λ_=>[.row 4 [[.p (.int .i64 e.op),.p (.int .i64 e.n),.p (.str e.name),.p (.lst 4 [a.cs,b.cs])]],.row 4 [[.p (.int .i64 0),.p (.int .i64 0),.p (.str []),.nils]],.row 4 [[.p (.int .i64 a.op),.p (.int .i64 a.n),.p (.str a.name),.p (Φ a.kids)]],.row 4 [[.p (.int .i64 b.op),.p (.int .i64 b.n),.p (.str b.name),.p (Φ b.kids)]]]) (λ_=>(if a.op=1/\b.op=1 then ar5 e.op a.n b.n else none)=none) ?_ ?_
 ·by_cases a1:a.op=1
  ·by_cases b1:b.op=1
   ·have H:=CU G e.op a.n b.n h3 Q4 (zb (kK haf)) (zb (kK Y9))
    have N8:∀q,ar5 e.op a.n b.n=some q->mR e.op e.n e.name a b=cf q:=by
     intro q hq;unfold mR;rw[if_pos ⟨a1,b1⟩,hq]
    cases hq:ar5 e.op a.n b.n with
    |none=>
     rw[hq] at H;simp only[zE] at H;simp-implicitDefEqProofs[a1,b1,A5,A6];refine H.use ?_;simp-implicitDefEqProofs[hq];exact ab (by simp) (by simp[Ξ,Ω]) (by simp[Ω])
    |some q=>
     rw[hq] at H;simp only[zE] at H;rw[N8 q hq];simp-implicitDefEqProofs[a1,b1,A5,A6];refine H.use ?_;simp-implicitDefEqProofs[];refine(mF G _).use ?_;simp-implicitDefEqProofs[T7]
   ·simp-implicitDefEqProofs[a1,b1,A5,A6];exact ab (by simp) (by simp[Ξ,Ω]) (by simp[Ω])
  ·simp-implicitDefEqProofs[a1,A5,A6];exact ab (by simp) (by simp[Ξ,Ω]) (by simp[Ω])
 intro _ hn
 have N8:mR e.op e.n e.name a b=if e.op=10/\isN a 0=true then cf 0 else if(e.op=3\/e.op=4)/\isN b 0=true\/(e.op=5\/e.op=6)/\isN b 1=true then a else if e.op=3/\isN a 0=true\/e.op=5/\isN a 1=true then b
  else if e.op=5/\(isN b 0=true/\dI a=true\/isN a 0=true/\dI b=true) then cf 0 else e:=by
  unfold mR;rw[hn];simp only;rw[←hk,←hem]
 rw[N8];have HA0:=Ay G a 0;have HA1:=Ay G a 1;have HB0:=Ay G b 0;have HB1:=Ay G b 1;have HSA:=Dh G hK hS (hkx a (by rw[hk];simp)) (G4 a (by rw[hk];simp));have HSB:=Dh G hK hS (hkx b (by rw[hk];simp)) (G4 b (by rw[hk];simp));rw[A5] at HA0 HA1 HSA;rw[A6] at HB0 HB1 HSB;simp only[abd,abM,A3] at HA0 HA1 HB0 HB1 HSA HSB;simp only[A5,A6,A3];have ho:e.op=3\/e.op=4\/e.op=5\/e.op=6\/e.op=7\/e.op=8\/e.op=9\/e.op=10:=by omega
 rcases ho with ho|ho|ho|ho|ho|ho|ho|ho
 ·simp-implicitDefEqProofs[ho];refine HB0.use ?_
  by_cases D6:isN b 0=true
  ·simp-implicitDefEqProofs[D6,ho,hc,A3,hk,A5,A6]
  ·simp-implicitDefEqProofs[D6,ho,hc,A3,hk,A5,A6];refine HA0.use ?_
   by_cases A9:isN a 0=true
   ·simp-implicitDefEqProofs[A9,ho,hc,A3,hk,A5,A6]
   ·simp-implicitDefEqProofs[A9,ho,hc,A3,hk,A5,A6]
 ·simp-implicitDefEqProofs[ho];refine HB0.use ?_
  by_cases D6:isN b 0=true
  ·simp-implicitDefEqProofs[D6,ho,hc,A3,hk,A5,A6]
  ·simp-implicitDefEqProofs[D6,ho,hc,A3,hk,A5,A6]
 ·simp-implicitDefEqProofs[ho];refine HB1.use ?_
  by_cases C6:isN b 1=true
  ·simp-implicitDefEqProofs[C6,ho,hc,A3,hk,A5,A6]
  ·simp-implicitDefEqProofs[C6,ho,hc,A3,hk,A5,A6];refine HA1.use ?_
   by_cases A4:isN a 1=true
   ·simp-implicitDefEqProofs[A4,ho,hc,A3,hk,A5,A6]
   ·simp-implicitDefEqProofs[A4,ho,hc,A3,hk,A5,A6];refine HB0.use ?_
    by_cases D6:isN b 0=true
    ·simp-implicitDefEqProofs[D6,ho,hc,A3,hk,A5,A6];refine HSA.use ?_
     by_cases P9:dI a=true
     ·simp-implicitDefEqProofs[P9,ho,hc,A3,hk,A5,A6];refine(mF G _).use ?_;simp-implicitDefEqProofs[T7]
     ·simp-implicitDefEqProofs[P9,ho,hc,A3,hk,A5,A6];refine HA0.use ?_
      by_cases A9:isN a 0=true
      ·simp-implicitDefEqProofs[A9,ho,hc,A3,hk,A5,A6];refine HSB.use ?_
       by_cases K9:dI b=true
       ·simp-implicitDefEqProofs[K9,ho,hc,A3,hk,A5,A6];refine(mF G _).use ?_;simp-implicitDefEqProofs[T7]
       ·simp-implicitDefEqProofs[K9,ho,hc,A3,hk,A5,A6]
      ·simp-implicitDefEqProofs[A9,ho,hc,A3,hk,A5,A6]
    ·simp-implicitDefEqProofs[D6,ho,hc,A3,hk,A5,A6];refine HA0.use ?_
     by_cases A9:isN a 0=true
     ·simp-implicitDefEqProofs[A9,ho,hc,A3,hk,A5,A6];refine HSB.use ?_
      by_cases K9:dI b=true
      ·simp-implicitDefEqProofs[K9,ho,hc,A3,hk,A5,A6];refine(mF G _).use ?_;simp-implicitDefEqProofs[T7]
      ·simp-implicitDefEqProofs[K9,ho,hc,A3,hk,A5,A6]
     ·simp-implicitDefEqProofs[A9,ho,hc,A3,hk,A5,A6]
 ·simp-implicitDefEqProofs[ho];refine HB1.use ?_
  by_cases C6:isN b 1=true
  ·simp-implicitDefEqProofs[C6,ho,hc,A3,hk,A5,A6]
  ·simp-implicitDefEqProofs[C6,ho,hc,A3,hk,A5,A6]
 ·simp-implicitDefEqProofs[ho,hc,A3,hk,A5,A6]
 ·simp-implicitDefEqProofs[ho,hc,A3,hk,A5,A6]
 ·simp-implicitDefEqProofs[ho,hc,A3,hk,A5,A6]
 ·simp-implicitDefEqProofs[ho];refine HA0.use ?_
  by_cases A9:isN a 0=true
  ·simp-implicitDefEqProofs[A9,ho,hc,A3,hk,A5,A6];refine(mF G _).use ?_;simp-implicitDefEqProofs[T7]
  ·simp-implicitDefEqProofs[A9,ho,hc,A3,hk,A5,A6]
end
section
theorem gL{α β:Type}(f:α->β):∀(l:List α) (u:Unit),bl (λ(st:Unit) x=>(f x,st)) u l=(l.map f,u)
 |[],u=>rfl
 |x::r,u=>by rw[bl,gL f r];rfl
def My(f:FuncId)(h:List AO)(hh:∀o∈h,Ξ h.length o):Vis Unit where
 I:=λ_=>h
 n:=h.length
 F:=f
 caps:=[]
 len:=λ_=>rfl
 ok:=λ_=>hh
 capsOk:=trivial
variable (G:au)
theorem Vy(hK:G dc=some cU)(hS:G bv=some [PV.tbl opK opV]):∀(d:Nat) (e:Ex),aT d e=true->d<=6->e.parts<=30->e.sz<=1073741824->VF Tryz.prog G js [.agg (e.cs.map .p)] (.agg ((dx e).cs.map .p)):=by
 intro d
 induction d with
 |zero=>intro e h;cases h
 |succ d ih=>
  intro e hf hd hp hz;have hc:=e.cs_eq;have hpp:=e.parts_eq;have hzz:=e.sz_eq;have A0:=bg e.kids;rw[dv];refine AC.go Jo ?_;simp-implicitDefEqProofs[BK,hc]
  have HM:=tw G (My js [.row 4 [[.p (.int .i64 e.op),.p (.int .i64 e.n),.p (.str e.name),.p (Φ e.kids)]],.row 4 [[.p (.int .i64 0),.p (.int .i64 0),.p (.str []),.nils]]] (by simp[Ξ,Ω])) (λ(st:Unit) x=>(dx x,st)) (λ_ _=>True) e.kids (by omega) (by show 0<2;omega)
   (λi st hi _=>⟨trivial,by
     have hk:=aa2 hi;have h1:=nu hk;have h2:=aQ hk;exact(ih e.kids[i] (bh hf hk) (by omega) (by omega) (by omega)).ac (by simp[Ω]) (by simp[Ω]) _⟩) () trivial
  rw[gL,←dg] at HM;refine HM.mono ?_;rintro r h ⟨rfl,rfl⟩
  have H:VF Tryz.prog G iV [.agg [.p (.int .i64 e.op),.p (.int .i64 e.n),.p (.str e.name),.p (Φ (aN e.kids))]] (.agg ((fw e.op e.n e.name (aN e.kids)).cs.map .p)):=by
   have h2:=pA e.kids;have h3:=AF e.kids
   have H0:=Mf G hK hS (bL hf) hd (by rw[Ex.parts_eq];show 1+gd (aN e.kids)<=30;omega) (by
    rw[Ex.sz_eq];show 1+e.name.length+br (aN e.kids)<=_;omega)
   rw[Ex.cs_eq (.mk e.op e.n e.name (aN e.kids))] at H0;exact H0
  simp-implicitDefEqProofs[aa,My];refine H.use ?_;have hq:=(fw e.op e.n e.name (aN e.kids)).cs_eq;rw[hq];simp-implicitDefEqProofs[]
end
end Go.Proofs.YtokiapglmedipaaGreatDoor
