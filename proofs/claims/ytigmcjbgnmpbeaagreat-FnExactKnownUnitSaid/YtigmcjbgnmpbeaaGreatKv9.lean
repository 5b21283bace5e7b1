/-
  Contracts and lemmas that the card needs, part 9.
-/
import Derived.Test.YtigmcjbgnmpbeaaGreatKv8
namespace Go.Proofs.YtigmcjbgnmpbeaaGreat
open Go Go.Aw
set_option maxRecDepth 100000
set_option maxHeartbeats 4000000
section
theorem Vr{r:List AV}(h:r.length=2):∃a b,r=[a,b]:=by
 match r,h with
 |[a,b],_=>exact⟨a,b,rfl⟩
def szL{α:Type}(f:α->Nat)(l:List α):Nat:=(l.map f).sum
theorem bA{α:Type}{f:α->Nat}{l:List α}{e:α}(h:e∈l):f e<=szL f l:=by
 induction l with
 |nil=>cases h
 |cons x r ih=>
  rw[szL,WJ,XC];rcases WE.1 h with rfl|h
  ·omega
  ·have:=ih h;rw[szL] at this;omega
theorem bv{α:Type}{f:α->Nat}(hf:∀x,1<=f x):∀l:List α,l.length<=szL f l
 |[]=>Wo _
 |x::r=>by have:=bv hf r;have:=hf x;rw[szL,WJ,XC];rw[szL] at*;simp;omega
def Ph.sz(x:Ph):Nat:=1+x.args.length
theorem Ph.sz1(x:Ph):1<=x.sz:=by unfold Ph.sz;omega
def Ii.sz(x:Ii):Nat:=1+x.args.length
theorem Ii.sz1(x:Ii):1<=x.sz:=by unfold Ii.sz;omega
def Bk.sz(x:Bk):Nat:=1+szL Ph.sz x.phis+szL Ii.sz x.ins+x.next.length
theorem Bk.sz1(x:Bk):1<=x.sz:=by unfold Bk.sz;omega
def Cd.sz(x:Cd):Nat:=1+szL Bk.sz x.blocks
theorem Cd.sz1(x:Cd):1<=x.sz:=by unfold Cd.sz;omega
section
variable {s:Bool} {h:List AO} {vs:List AV} {I:List Nat}
theorem jL{n:Int}{qs:List PV}(H:OwnL s h vs (.int .i64 n::qs) I):∃us,vs= .p (.int .i64 n)::us/\OwnL s h us qs I:=by
 cases H with
 |p _ _ h1=>exact⟨_,rfl,h1⟩
theorem uP{sz:Nat}{D:List (List PV)}{qs:List PV}(H:OwnL s h vs (.lst sz D::qs) I):∃V us I1 I2,vs=V::us/\I=I1++I2/\OwnL s h [V] [.lst sz D] I1/\OwnL s h us qs I2:=by
 cases H with
 |p q h0 h1=>exact⟨_,_,[],I,rfl,rfl,.p _ h0 .nil,h1⟩
 |nils sz h1=>exact⟨_,_,[],I,rfl,rfl,.nils _ .nil,h1⟩
 |sl id sz n rows _ a b c d e f g=>
  refine⟨_,_,_,_,rfl,?_,.sl id sz n rows _ a b c d e f .nil,g⟩;simp
theorem Ks{x:Ph}(H:OwnL s h vs x.cs I):∃A,vs=[.p (.int .i64 x.to),A]/\OwnL s h [A] [ah x.args] I:=by
 obtain⟨_,rfl,H1⟩:=jL H;obtain⟨A,rfl⟩:=br H1;exact⟨A,rfl,H1⟩
theorem Kt{x:Ii}(H:OwnL s h vs x.cs I):∃A,vs=[.p (.int .i64 x.op),.p (.int .i64 x.to),A,.p (.int .i64 x.n)]/\OwnL s h [A] [ah x.args] I:=by
 obtain⟨u1,rfl,H1⟩:=jL H;obtain⟨u2,rfl,H2⟩:=jL H1;obtain⟨A,us,I1,I2,rfl,rfl,h1,h2⟩:=uP H2;obtain⟨u3,rfl,h3⟩:=jL h2;cases h3;rw[WI];exact⟨A,rfl,h1⟩
theorem KQ{x:Ii}{A:AV}(H:OwnL s h [A] [ah x.args] I):OwnL s h [.p (.int .i64 x.op),.p (.int .i64 x.to),A,.p (.int .i64 x.n)] x.cs I:=by
 have:=OwnL.app H (OwnL.p (s:=s) (h:=h) (.int .i64 x.n) (λ_=>rfl) .nil);rw[WI] at this;exact .p _ (λ_=>rfl) (.p _ (λ_=>rfl) this)
theorem JX{b:Bk}(H:OwnL s h vs b.cs I):∃P N X IP IN IX,vs=[P,N,.p (.int .i64 b.jump),.p (.int .i64 b.on),X]/\I=IP++(IN++IX)/\OwnL s h [P] [phL b.phis] IP/\OwnL s h [N] [inL b.ins] IN/\OwnL s h [X] [ah b.next] IX:=by
 obtain⟨P,u1,IP,I1,rfl,rfl,hP,H1⟩:=uP H;obtain⟨N,u2,IN,I2,rfl,rfl,hN,H2⟩:=uP H1;obtain⟨u3,rfl,H3⟩:=jL H2;obtain⟨u4,rfl,H4⟩:=jL H3;obtain⟨X,rfl⟩:=br H4;exact⟨P,N,X,IP,IN,I2,rfl,rfl,hP,hN,H4⟩
theorem Ki{b:Bk}{P N X:AV}{IP IN IX:List Nat}(h1:OwnL s h [P] [phL b.phis] IP)(h2:OwnL s h [N] [inL b.ins] IN)(h3:OwnL s h [X] [ah b.next] IX):OwnL s h [P,N,.p (.int .i64 b.jump),.p (.int .i64 b.on),X] b.cs (IP++(IN++IX)):=
 OwnL.app h1 (OwnL.app h2 (.p _ (λ_=>rfl) (.p _ (λ_=>rfl) h3)))
end
variable (G:aw)
theorem AE(xs:List Int)(left:Nat)(hl:left<=1048576)(hb:xs.length<=BL):VF Tryz.prog G ej [.p (ah xs),.p (.int .i64 left)] (.p (.int .i64 (ed left xs.length))):=by
 refine AC.go Db ?_;have hw:IntKind.i64.wrap ((left:Int)-xs.length)=(left:Int)-xs.length:=al (by simp only[BL] at hb;omega) (by omega)
 by_cases h:xs.length<=left
 ·have h1:¬(left:Int)-xs.length<0:=by omega
  rw[aQ h];simp-implicitDefEqProofs[lI,ah,hw,h1];omega
 ·have h1:(left:Int)-xs.length<0:=by omega
  rw[aC h];simp-implicitDefEqProofs[lI,ah,hw,h1]
theorem PR(x:Ph)(hx:x.args.length<=BL)(left:Nat)(hl:left<=1048576):VF Tryz.prog G jv [.agg (x.cs.map .p),.p (.int .i64 left)] (.p (.int .i64 (ed left (x.sz-1)))):=by
 have hsz:x.sz=1+x.args.length:=rfl;refine AC.go EO ?_;simp-implicitDefEqProofs[uD,Ph.cs_eq2];refine(AE G x.args left (by omega) hx).use ?_
 by_cases h0:x.args.length<=left
 case neg=>
  rw[aC h0,aC (by omega)];simp-implicitDefEqProofs[]
 have n0:¬((left-x.args.length:Nat):Int)<0:=by omega
 rw[aQ h0,aQ (by omega)];simp-implicitDefEqProofs[n0]
 try omega
theorem NJ(l:List Ph)(left:Nat)(hl:left<=1048576)(hb:l.length<=BL)(H:∀e∈l,∀left:Nat,left<=1048576->VF Tryz.prog G jv [.agg (e.cs.map .p),.p (.int .i64 left)] (.p (.int .i64 (ed left (e.sz-1))))):
 VF Tryz.prog G lJ [.p (phL l),.p (.int .i64 left)] (.p (.int .i64 (ed left (szL Ph.sz l)))):=by
 refine AC.go CY ?_;have hpos:∀v∈l.map Ph.sz,1<=v:=λv hv=>by obtain⟨e,_,rfl⟩:=Ww.1 hv;exact e.sz1
 have hz:szL Ph.sz l=(l.map Ph.sz).sum:=rfl;have hal:=λi (hi:l.length<=i)=>uF hpos (i:=i) (by rw[Wj];exact hi);have hle:=Ah hpos;have h00:cq (l.map Ph.sz) 0=l.length:=by rw[rA,Wj]
 rw[←hz] at hal hle;have hsl:∀l,phL l= .lst 2 (l.map Ph.cs):=λ_=>rfl;have hw:IntKind.i64.wrap ((left:Int)-l.length)=(left:Int)-l.length:=al (by simp only[BL] at hb;omega) (by omega)
 by_cases h:l.length<=left
 case neg=>
  have h1:(left:Int)-l.length<0:=by omega
  have:=hle 0;rw[aC (by omega)];simp-implicitDefEqProofs[lq,hsl,hw,h1]
 have h1:¬(left:Int)-l.length<0:=by omega
 simp-implicitDefEqProofs[lq,hsl,hw,h1];refine am (λi:Nat=>aj 27 [(0,.p (phL l)),(1,.p (.int .i64 ((left-cq (l.map Ph.sz) i:Nat):Int))),(5,.p (.int .i64 i))]) (λ_=>[]) (λi=>i<=l.length/\cq (l.map Ph.sz) i<=left) (λi=>l.length-i) 0 ⟨by omega,by rw[h00];exact h⟩ ?_ ?_
 ·refine aE rfl ?_;simp only[h00];simp[below,hsl];omega
 ·intro i ⟨hi,hx⟩;simp-implicitDefEqProofs[hsl];refine aA (λh1=>?_) (λh1=>?_)
  ·simp at h1;have hg:=Wc h1;have hsu:=ri (ss:=l.map Ph.sz) (i:=i) (v:=l[i].sz) (by rw[Wl,hg];rfl);have hH:=H l[i] (Wm h1) (left-cq (l.map Ph.sz) i) (by omega);have hcs:l[i].cs.length=2:=rfl;have hle1:=hle (i+1);generalize l[i]=e at hg hsu hH hcs;simp-implicitDefEqProofs[hg,hcs];refine hH.use ?_
   by_cases h2:e.sz-1<=left-cq (l.map Ph.sz) i
   ·have e2:ed (left-cq (l.map Ph.sz) i) (e.sz-1)=((left-cq (l.map Ph.sz) (i+1):Nat):Int):=(by rw[aQ h2];omega);have h3:¬((left-cq (l.map Ph.sz) (i+1):Nat):Int)<0:=(by omega);rw[e2];simp-implicitDefEqProofs[h3];refine⟨i+1,⟨h1,by omega⟩,by omega,aE rfl (by simp[below,w1 (i:=i) (by simp only[BL] at hb;omega)])⟩
   ·rw[aC h2,aC (by omega)];simp-implicitDefEqProofs[]
  ·simp at h1;have hta:=hal i h1;rw[hta] at hx⊢;rw[aQ hx];simp-implicitDefEqProofs[]
theorem Qd(x:Ii)(hx:x.args.length<=BL)(left:Nat)(hl:left<=1048576):VF Tryz.prog G jC [.agg (x.cs.map .p),.p (.int .i64 left)] (.p (.int .i64 (ed left (x.sz-1)))):=by
 have hsz:x.sz=1+x.args.length:=rfl;refine AC.go EI ?_;simp-implicitDefEqProofs[uC,Ii.cs_eq2];refine(AE G x.args left (by omega) hx).use ?_
 by_cases h0:x.args.length<=left
 case neg=>
  rw[aC h0,aC (by omega)];simp-implicitDefEqProofs[]
 have n0:¬((left-x.args.length:Nat):Int)<0:=by omega
 rw[aQ h0,aQ (by omega)];simp-implicitDefEqProofs[n0]
 try omega
theorem Nj(l:List Ii)(left:Nat)(hl:left<=1048576)(hb:l.length<=BL)(H:∀e∈l,∀left:Nat,left<=1048576->VF Tryz.prog G jC [.agg (e.cs.map .p),.p (.int .i64 left)] (.p (.int .i64 (ed left (e.sz-1))))):
 VF Tryz.prog G lG [.p (inL l),.p (.int .i64 left)] (.p (.int .i64 (ed left (szL Ii.sz l)))):=by
 refine AC.go Cv ?_;have hpos:∀v∈l.map Ii.sz,1<=v:=λv hv=>by obtain⟨e,_,rfl⟩:=Ww.1 hv;exact e.sz1
 have hz:szL Ii.sz l=(l.map Ii.sz).sum:=rfl;have hal:=λi (hi:l.length<=i)=>uF hpos (i:=i) (by rw[Wj];exact hi);have hle:=Ah hpos;have h00:cq (l.map Ii.sz) 0=l.length:=by rw[rA,Wj]
 rw[←hz] at hal hle;have hsl:∀l,inL l= .lst 4 (l.map Ii.cs):=λ_=>rfl;have hw:IntKind.i64.wrap ((left:Int)-l.length)=(left:Int)-l.length:=al (by simp only[BL] at hb;omega) (by omega)
 by_cases h:l.length<=left
 case neg=>
  have h1:(left:Int)-l.length<0:=by omega
  have:=hle 0;rw[aC (by omega)];simp-implicitDefEqProofs[ly,hsl,hw,h1]
 have h1:¬(left:Int)-l.length<0:=by omega
 simp-implicitDefEqProofs[ly,hsl,hw,h1];refine am (λi:Nat=>aj 27 [(0,.p (inL l)),(1,.p (.int .i64 ((left-cq (l.map Ii.sz) i:Nat):Int))),(5,.p (.int .i64 i))]) (λ_=>[]) (λi=>i<=l.length/\cq (l.map Ii.sz) i<=left) (λi=>l.length-i) 0 ⟨by omega,by rw[h00];exact h⟩ ?_ ?_
 ·refine aE rfl ?_;simp only[h00];simp[below,hsl];omega
 ·intro i ⟨hi,hx⟩;simp-implicitDefEqProofs[hsl];refine aA (λh1=>?_) (λh1=>?_)
  ·simp at h1;have hg:=Wc h1;have hsu:=ri (ss:=l.map Ii.sz) (i:=i) (v:=l[i].sz) (by rw[Wl,hg];rfl);have hH:=H l[i] (Wm h1) (left-cq (l.map Ii.sz) i) (by omega);have hcs:l[i].cs.length=4:=rfl;have hle1:=hle (i+1);generalize l[i]=e at hg hsu hH hcs;simp-implicitDefEqProofs[hg,hcs];refine hH.use ?_
   by_cases h2:e.sz-1<=left-cq (l.map Ii.sz) i
   ·have e2:ed (left-cq (l.map Ii.sz) i) (e.sz-1)=((left-cq (l.map Ii.sz) (i+1):Nat):Int):=(by rw[aQ h2];omega);have h3:¬((left-cq (l.map Ii.sz) (i+1):Nat):Int)<0:=(by omega);rw[e2];simp-implicitDefEqProofs[h3];refine⟨i+1,⟨h1,by omega⟩,by omega,aE rfl (by simp[below,w1 (i:=i) (by simp only[BL] at hb;omega)])⟩
   ·rw[aC h2,aC (by omega)];simp-implicitDefEqProofs[]
  ·simp at h1;have hta:=hal i h1;rw[hta] at hx⊢;rw[aQ hx];simp-implicitDefEqProofs[]
theorem Lx(x:Bk)(hx:BkFit BL x)(left:Nat)(hl:left<=1048576):VF Tryz.prog G gf [.agg (x.cs.map .p),.p (.int .i64 left)] (.p (.int .i64 (ed left (x.sz-1)))):=by
 have hsz:x.sz=1+szL Ph.sz x.phis+szL Ii.sz x.ins+x.next.length:=rfl;refine AC.go BF ?_;simp-implicitDefEqProofs[pq,Bk.cs_eq2];refine(NJ G x.phis left (by omega) hx.phis (λe he l hl=>PR G e (hx.pa e he) l hl)).use ?_
 by_cases h0:szL Ph.sz x.phis<=left
 case neg=>
  rw[aC h0,aC (by omega)];simp-implicitDefEqProofs[]
 have n0:¬((left-szL Ph.sz x.phis:Nat):Int)<0:=by omega
 rw[aQ h0];simp-implicitDefEqProofs[n0];refine(Nj G x.ins (left-szL Ph.sz x.phis) (by omega) hx.ins (λe he l hl=>Qd G e (hx.ia e he) l hl)).use ?_
 by_cases h1:szL Ii.sz x.ins<=left-szL Ph.sz x.phis
 case neg=>
  rw[aC h1,aC (by omega)];simp-implicitDefEqProofs[]
 have n1:¬((left-szL Ph.sz x.phis-szL Ii.sz x.ins:Nat):Int)<0:=by omega
 rw[aQ h1];simp-implicitDefEqProofs[n1];refine(AE G x.next (left-szL Ph.sz x.phis-szL Ii.sz x.ins) (by omega) hx.next).use ?_
 by_cases h2:x.next.length<=left-szL Ph.sz x.phis-szL Ii.sz x.ins
 case neg=>
  rw[aC h2,aC (by omega)];simp-implicitDefEqProofs[]
 have n2:¬((left-szL Ph.sz x.phis-szL Ii.sz x.ins-x.next.length:Nat):Int)<0:=by omega
 rw[aQ h2,aQ (by omega)];simp-implicitDefEqProofs[n2]
 try omega
theorem Hw(l:List Bk)(left:Nat)(hl:left<=1048576)(hb:l.length<=BL)(H:∀e∈l,∀left:Nat,left<=1048576->VF Tryz.prog G gf [.agg (e.cs.map .p),.p (.int .i64 left)] (.p (.int .i64 (ed left (e.sz-1))))):
 VF Tryz.prog G iP [.p (bkL l),.p (.int .i64 left)] (.p (.int .i64 (ed left (szL Bk.sz l)))):=by
 refine AC.go zR ?_;have hpos:∀v∈l.map Bk.sz,1<=v:=λv hv=>by obtain⟨e,_,rfl⟩:=Ww.1 hv;exact e.sz1
 have hz:szL Bk.sz l=(l.map Bk.sz).sum:=rfl;have hal:=λi (hi:l.length<=i)=>uF hpos (i:=i) (by rw[Wj];exact hi);have hle:=Ah hpos;have h00:cq (l.map Bk.sz) 0=l.length:=by rw[rA,Wj]
 rw[←hz] at hal hle;have hsl:∀l,bkL l= .lst 5 (l.map Bk.cs):=λ_=>rfl;have hw:IntKind.i64.wrap ((left:Int)-l.length)=(left:Int)-l.length:=al (by simp only[BL] at hb;omega) (by omega)
 by_cases h:l.length<=left
 case neg=>
  have h1:(left:Int)-l.length<0:=by omega
  have:=hle 0;rw[aC (by omega)];simp-implicitDefEqProofs[jb,hsl,hw,h1]
 have h1:¬(left:Int)-l.length<0:=by omega
 simp-implicitDefEqProofs[jb,hsl,hw,h1];refine am (λi:Nat=>aj 27 [(0,.p (bkL l)),(1,.p (.int .i64 ((left-cq (l.map Bk.sz) i:Nat):Int))),(5,.p (.int .i64 i))]) (λ_=>[]) (λi=>i<=l.length/\cq (l.map Bk.sz) i<=left) (λi=>l.length-i) 0 ⟨by omega,by rw[h00];exact h⟩ ?_ ?_
 ·refine aE rfl ?_;simp only[h00];simp[below,hsl];omega
 ·intro i ⟨hi,hx⟩;simp-implicitDefEqProofs[hsl];refine aA (λh1=>?_) (λh1=>?_)
  ·simp at h1;have hg:=Wc h1;have hsu:=ri (ss:=l.map Bk.sz) (i:=i) (v:=l[i].sz) (by rw[Wl,hg];rfl);have hH:=H l[i] (Wm h1) (left-cq (l.map Bk.sz) i) (by omega);have hcs:l[i].cs.length=5:=rfl;have hle1:=hle (i+1);generalize l[i]=e at hg hsu hH hcs;simp-implicitDefEqProofs[hg,hcs];refine hH.use ?_
   by_cases h2:e.sz-1<=left-cq (l.map Bk.sz) i
   ·have e2:ed (left-cq (l.map Bk.sz) i) (e.sz-1)=((left-cq (l.map Bk.sz) (i+1):Nat):Int):=(by rw[aQ h2];omega);have h3:¬((left-cq (l.map Bk.sz) (i+1):Nat):Int)<0:=(by omega);rw[e2];simp-implicitDefEqProofs[h3];refine⟨i+1,⟨h1,by omega⟩,by omega,aE rfl (by simp[below,w1 (i:=i) (by simp only[BL] at hb;omega)])⟩
   ·rw[aC h2,aC (by omega)];simp-implicitDefEqProofs[]
  ·simp at h1;have hta:=hal i h1;rw[hta] at hx⊢;rw[aQ hx];simp-implicitDefEqProofs[]
theorem NK(x:Cd)(hx:en BL x)(left:Nat)(hl:left<=1048576):VF Tryz.prog G ie [.agg (x.cs.map .p),.p (.int .i64 left)] (.p (.int .i64 (ed left (x.sz-1)))):=by
 have hsz:x.sz=1+szL Bk.sz x.blocks:=rfl;refine AC.go CI ?_;simp-implicitDefEqProofs[sr,Cd.cs_eq2];refine(Hw G x.blocks left (by omega) hx.1 (λe he l hl=>Lx G e (hx.2 e he) l hl)).use ?_
 by_cases h0:szL Bk.sz x.blocks<=left
 case neg=>
  rw[aC h0,aC (by omega)];simp-implicitDefEqProofs[]
 have n0:¬((left-szL Bk.sz x.blocks:Nat):Int)<0:=by omega
 rw[aQ h0,aQ (by omega)];simp-implicitDefEqProofs[n0]
 try omega
theorem Lm(l:List Cd)(left:Nat)(hl:left<=1048576)(hb:l.length<=BL)(H:∀e∈l,∀left:Nat,left<=1048576->VF Tryz.prog G ie [.agg (e.cs.map .p),.p (.int .i64 left)] (.p (.int .i64 (ed left (e.sz-1))))):
 VF Tryz.prog G jO [.p (cdL l),.p (.int .i64 left)] (.p (.int .i64 (ed left (szL Cd.sz l)))):=by
 refine AC.go Ce ?_;have hpos:∀v∈l.map Cd.sz,1<=v:=λv hv=>by obtain⟨e,_,rfl⟩:=Ww.1 hv;exact e.sz1
 have hz:szL Cd.sz l=(l.map Cd.sz).sum:=rfl;have hal:=λi (hi:l.length<=i)=>uF hpos (i:=i) (by rw[Wj];exact hi);have hle:=Ah hpos;have h00:cq (l.map Cd.sz) 0=l.length:=by rw[rA,Wj]
 rw[←hz] at hal hle;have hsl:∀l,cdL l= .lst 3 (l.map Cd.cs):=λ_=>rfl;have hw:IntKind.i64.wrap ((left:Int)-l.length)=(left:Int)-l.length:=al (by simp only[BL] at hb;omega) (by omega)
 by_cases h:l.length<=left
 case neg=>
  have h1:(left:Int)-l.length<0:=by omega
  have:=hle 0;rw[aC (by omega)];simp-implicitDefEqProofs[jU,hsl,hw,h1]
 have h1:¬(left:Int)-l.length<0:=by omega
 simp-implicitDefEqProofs[jU,hsl,hw,h1];refine am (λi:Nat=>aj 27 [(0,.p (cdL l)),(1,.p (.int .i64 ((left-cq (l.map Cd.sz) i:Nat):Int))),(5,.p (.int .i64 i))]) (λ_=>[]) (λi=>i<=l.length/\cq (l.map Cd.sz) i<=left) (λi=>l.length-i) 0 ⟨by omega,by rw[h00];exact h⟩ ?_ ?_
 ·refine aE rfl ?_;simp only[h00];simp[below,hsl];omega
 ·intro i ⟨hi,hx⟩;simp-implicitDefEqProofs[hsl];refine aA (λh1=>?_) (λh1=>?_)
  ·simp at h1;have hg:=Wc h1;have hsu:=ri (ss:=l.map Cd.sz) (i:=i) (v:=l[i].sz) (by rw[Wl,hg];rfl);have hH:=H l[i] (Wm h1) (left-cq (l.map Cd.sz) i) (by omega);have hcs:l[i].cs.length=3:=rfl;have hle1:=hle (i+1);generalize l[i]=e at hg hsu hH hcs;simp-implicitDefEqProofs[hg,hcs];refine hH.use ?_
   by_cases h2:e.sz-1<=left-cq (l.map Cd.sz) i
   ·have e2:ed (left-cq (l.map Cd.sz) i) (e.sz-1)=((left-cq (l.map Cd.sz) (i+1):Nat):Int):=(by rw[aQ h2];omega);have h3:¬((left-cq (l.map Cd.sz) (i+1):Nat):Int)<0:=(by omega);rw[e2];simp-implicitDefEqProofs[h3];refine⟨i+1,⟨h1,by omega⟩,by omega,aE rfl (by simp[below,w1 (i:=i) (by simp only[BL] at hb;omega)])⟩
   ·rw[aC h2,aC (by omega)];simp-implicitDefEqProofs[]
  ·simp at h1;have hta:=hal i h1;rw[hta] at hx⊢;rw[aQ hx];simp-implicitDefEqProofs[]
def unZ(u:List Cd):Nat:=szL Cd.sz u
theorem NB(u:List Cd)(hu:rH BL u)(left:Nat)(hl:left<=1048576):VF Tryz.prog G gY [.agg [.p (cdL u)],.p (.int .i64 left)] (.p (.int .i64 (ed left (unZ u)))):=by
 refine AC.go Dg ?_;simp-implicitDefEqProofs[so];refine(Lm G u left hl hu.1 (λe he l hl=>NK G e (hu.2 e he) l hl)).use ?_
 by_cases h:unZ u<=left
 ·have n0:¬((left-unZ u:Nat):Int)<0:=by omega
  rw[show szL Cd.sz u=unZ u from rfl,aQ h];simp-implicitDefEqProofs[n0]
 ·rw[show szL Cd.sz u=unZ u from rfl,aC h];simp-implicitDefEqProofs[]
theorem BE(l:List Int)(hb:l.length<=1048576):AC Tryz.prog G ey [.p (ah l)] [] (MkW dM true [ah l]):=by
 have hbl:∀l,ah l= .lst 1 (l.map λn=>[.int .i64 n]):=λ_=>rfl;refine AC.go CU ?_;simp-implicitDefEqProofs[rN,hbl];refine⟨by omega,?_⟩;refine am (λi:Nat=>aj 22 [(0,.p (ah l)),(3,.sl 0 1 0 l.length),(4,.p (.int .i64 i))]) (λi=>[.row 1 (ae (l.take i++List.replicate (l.length-i) 0))]) (λi=>i<=l.length) (λi=>l.length-i) 0 (We _) ?_ ?_
 ·refine Fl [0] rfl (by simp) (IM (by simp[ae]) (λr hr=>by obtain⟨n,_,rfl⟩:=Ww.1 hr;simp[below]) Ja) ?_;simp[below,ren,hbl]
 ·intro i hi;have hlen:(ae (l.take i++List.replicate (l.length-i) 0)).length=l.length:=by simp[ae];omega
  simp-implicitDefEqProofs[hbl];refine aA (λh1=>?_) (λh1=>?_)
  ·simp at h1;have hg:=Wc h1
   have hset:(ae (l.take i++List.replicate (l.length-i) 0)).set i [.p (.int .i64 l[i])]=ae (l.take (i+1)++List.replicate (l.length-(i+1)) 0):=by
    rw[ae,ae,←Ym (f:=λn=>[AV.p (.int .i64 n)])];congr 1;rw[Xy _ _ (by rw[WD];omega),WD,XK (by omega),Xd,show l.length-i=(l.length-(i+1))+1 by omega,XT,XY,aq h1,Wp];rfl
   obtain⟨r0,hr0⟩:∃r0,(ae (l.take i++List.replicate (l.length-i) 0))[i]?=some [r0]:=by rw[ae,Wl,Wc (by simp;omega)];exact⟨_,rfl⟩
   have hr0e:=λhh=>ag hr0 hh;generalize hR:ae (l.take i++List.replicate (l.length-i) 0)=R at*
   simp-implicitDefEqProofs[hlen,hr0e,h1,hset];refine⟨i+1,h1,by omega,Fl [0] rfl (by simp) (IM rfl (λr hr=>by obtain⟨n,_,rfl⟩:=Ww.1 hr;simp[below]) Ja) ?_⟩;simp[below,ren,w1 (i:=i) (by omega)]
  ·simp at h1;have:i=l.length:=by omega
   subst this;simp-implicitDefEqProofs[];refine⟨[.sl 0 1 0 l.length],[0],rfl,(aX (n:=0) (l:=l) (by simp[ae]) (Wo _) rfl).own,by simp⟩
theorem QJ(x:Ph)(hx:x.sz<=1048576):AC Tryz.prog G jA [.agg (x.cs.map .p)] [] (MkW .agg true x.cs):=by
 have hsz:x.sz=1+x.args.length:=rfl;have h0:=BE G x.args (by omega);refine AC.go EG ?_;simp-implicitDefEqProofs[uH,Ph.cs_eq2];refine(AC.mkLift dQ h0 (by simp)).mono ?_;rintro r h2 ⟨vs,I0,os0,rfl,e2,o0,n0,f0⟩;obtain⟨V0,rfl⟩:=br o0;obtain⟨c0a,c0b⟩:=dU o0;have l0:=λi (hi:i∈I0)=>o0.lt hi;simp at f0;subst e2;simp at l0;simp-implicitDefEqProofs[-AV.cells,-AV.isCell,az,aO,c0a,c0b,dM];exact⟨_,I0,rfl,OwnL.p _ (λ_=>rfl) (fr3 (r:=[]) o0 f0|>λh=>by rw[WI] at h;exact h),n0⟩
theorem Pu(l:List Ph)(hb:l.length<=1048576)(H:∀e∈l,AC Tryz.prog G jA [.agg (e.cs.map .p)] [] (MkW .agg true e.cs)):AC Tryz.prog G lA [.p (phL l)] [] (MkW dM true [phL l]):=by
 have hsl:∀l,phL l= .lst 2 (l.map Ph.cs):=λ_=>rfl;refine AC.go CG ?_;simp-implicitDefEqProofs[rM,hsl];refine⟨by omega,?_⟩
 refine am (λa:FilS=>aj 23 [(0,.p (phL l)),(3,.sl 0 2 0 l.length),(4,.p (.int .i64 a.i))]) (λa=>a.h) (FilI true 0 2 (l.map Ph.cs) [.int .i64 0,.lst 1 []]) (λa=>l.length-a.i) ⟨0,[.row 2 (List.replicate l.length [.p (.int .i64 0),.nils])]⟩
  (FilI.init rfl (by simp) (.p _ (λ_=>rfl) (.nils 1 .nil)) rfl) ?_ ?_
 ·exact aa (by simp) (by simp[below,hsl])
 ·rintro⟨i,hh⟩ hI;simp-implicitDefEqProofs[hsl];refine aA (λh1=>?_) (λh1=>?_)
  ·simp at h1;have hg:=Wc h1;have hH:=H l[i] (Wm h1);have hD':(l.map Ph.cs)[i]?=some l[i].cs:=by rw[Wl,hg];rfl
   generalize l[i]=e at hg hH hD';have hcs:=e.cs_eq2;have hA:=AC.mkLift bC hH (h:=hh) (by rw[hcs];simp);rw[hcs] at hA;simp-implicitDefEqProofs[hg,hcs];refine hA.mono ?_;rintro r h2 ⟨vs,I2,os,rfl,e2,ho,nd,hf⟩;rw[←hcs] at ho;obtain⟨rows,r0,k1,k2,k3,k4,k5,k6⟩:=hI.step hD' e2 ho nd hf rfl;obtain⟨V0,rfl,hV0⟩:=Ks ho;obtain⟨c0a,c0b⟩:=dU hV0;obtain⟨z0,z1,rfl⟩:=Vr k3;have hll:0<h2.length:=(Wa.1 k1).1;simp-implicitDefEqProofs[-AV.cells,-AV.isCell,az,aO,c0b,k1,k2,h1,eS];refine⟨_,k6,by simp;omega,aa (by simp) ?_⟩;simp[below,w1 (i:=i) (by omega)];omega
  ·simp at h1;obtain⟨rows,J,hr⟩:=hI.done (by simpa using h1);simp-implicitDefEqProofs[];exact⟨_,_,rfl,hr.tree (by simp),hr.nd⟩
theorem Qg(x:Ii)(hx:x.sz<=1048576):AC Tryz.prog G jz [.agg (x.cs.map .p)] [] (MkW .agg true x.cs):=by
 have hsz:x.sz=1+x.args.length:=rfl;have h0:=BE G x.args (by omega);refine AC.go Ec ?_;simp-implicitDefEqProofs[uh,Ii.cs_eq2];refine(AC.mkLift dQ h0 (by simp)).mono ?_;rintro r h2 ⟨vs,I0,os0,rfl,e2,o0,n0,f0⟩;obtain⟨V0,rfl⟩:=br o0;obtain⟨c0a,c0b⟩:=dU o0;have l0:=λi (hi:i∈I0)=>o0.lt hi;simp at f0;subst e2;simp at l0;simp-implicitDefEqProofs[-AV.cells,-AV.isCell,kR,az,aO,c0a,c0b,dM];exact⟨_,I0,rfl,KQ (fr3 (r:=[]) o0 f0|>λh=>by rw[WI] at h;exact h),n0⟩
theorem OK(l:List Ii)(hb:l.length<=1048576)(H:∀e∈l,AC Tryz.prog G jz [.agg (e.cs.map .p)] [] (MkW .agg true e.cs)):AC Tryz.prog G lK [.p (inL l)] [] (MkW dM true [inL l]):=by
 have hsl:∀l,inL l= .lst 4 (l.map Ii.cs):=λ_=>rfl;refine AC.go Dc ?_;simp-implicitDefEqProofs[sf,hsl];refine⟨by omega,?_⟩
 refine am (λa:FilS=>aj 23 [(0,.p (inL l)),(3,.sl 0 4 0 l.length),(4,.p (.int .i64 a.i))]) (λa=>a.h) (FilI true 0 4 (l.map Ii.cs) [.int .i64 0,.int .i64 0,.lst 1 [],.int .i64 0]) (λa=>l.length-a.i) ⟨0,[.row 4 (List.replicate l.length [.p (.int .i64 0),.p (.int .i64 0),.nils,.p (.int .i64 0)])]⟩
  (FilI.init rfl (by simp) (.p _ (λ_=>rfl) (.p _ (λ_=>rfl) (.nils 1 (.p _ (λ_=>rfl) .nil)))) rfl) ?_ ?_
 ·exact aa (by simp) (by simp[below,hsl])
 ·rintro⟨i,hh⟩ hI;simp-implicitDefEqProofs[hsl];refine aA (λh1=>?_) (λh1=>?_)
  ·simp at h1;have hg:=Wc h1;have hH:=H l[i] (Wm h1);have hD':(l.map Ii.cs)[i]?=some l[i].cs:=by rw[Wl,hg];rfl
   generalize l[i]=e at hg hH hD';have hcs:=e.cs_eq2;have hA:=AC.mkLift bC hH (h:=hh) (by rw[hcs];simp);rw[hcs] at hA;simp-implicitDefEqProofs[hg,hcs];refine hA.mono ?_;rintro r h2 ⟨vs,I2,os,rfl,e2,ho,nd,hf⟩;rw[←hcs] at ho;obtain⟨rows,r0,k1,k2,k3,k4,k5,k6⟩:=hI.step hD' e2 ho nd hf rfl;obtain⟨V0,rfl,hV0⟩:=Kt ho;obtain⟨c0a,c0b⟩:=dU hV0;obtain⟨z0,z1,z2,z3,rfl⟩:=Vj k3;have hll:0<h2.length:=(Wa.1 k1).1;simp-implicitDefEqProofs[-AV.cells,-AV.isCell,az,aO,c0b,k1,k2,h1,eS];refine⟨_,k6,by simp;omega,aa (by simp) ?_⟩;simp[below,w1 (i:=i) (by omega)];omega
  ·simp at h1;obtain⟨rows,J,hr⟩:=hI.done (by simpa using h1);simp-implicitDefEqProofs[];exact⟨_,_,rfl,hr.tree (by simp),hr.nd⟩
theorem Ma(x:Bk)(hx:x.sz<=1048576):AC Tryz.prog G ft [.agg (x.cs.map .p)] [] (MkW .agg true x.cs):=by
 have hsz:x.sz=1+szL Ph.sz x.phis+szL Ii.sz x.ins+x.next.length:=rfl;have h0:=Pu G x.phis (by have:=bv (f:=Ph.sz) Ph.sz1 x.phis;omega) (λe he=>QJ G e (by have:=bA (f:=Ph.sz) he;omega));have h1:=OK G x.ins (by have:=bv (f:=Ii.sz) Ii.sz1 x.ins;omega) (λe he=>Qg G e (by have:=bA (f:=Ii.sz) he;omega));have h2:=BE G x.next (by omega);refine AC.go BQ ?_;simp-implicitDefEqProofs[po,Bk.cs_eq2];refine(AC.mkLift dQ h0 (by simp)).mono ?_;rintro r h2 ⟨vs,I0,os0,rfl,e2,o0,n0,f0⟩;obtain⟨V0,rfl⟩:=br o0;obtain⟨c0a,c0b⟩:=dU o0;have l0:=λi (hi:i∈I0)=>o0.lt hi;simp at f0;subst e2;simp at l0;simp-implicitDefEqProofs[-AV.cells,-AV.isCell,aO,c0a,c0b,dM];refine(AC.mkLift dQ h1 (by simp)).mono ?_;rintro r h2 ⟨vs,I1,os1,rfl,e2,o1,n1,f1⟩;obtain⟨V1,rfl⟩:=br o1;obtain⟨c1a,c1b⟩:=dU o1;have l1:=λi (hi:i∈I1)=>o1.lt hi;simp at f1;subst e2;simp at l1;simp-implicitDefEqProofs[-AV.cells,-AV.isCell,kR,aO,c1a,c1b,dM];refine(AC.mkLift dQ h2 (by simp)).mono ?_;rintro r h2 ⟨vs,I2,os2,rfl,e2,o2,n2,f2⟩;obtain⟨V2,rfl⟩:=br o2;obtain⟨c2a,c2b⟩:=dU o2;have l2:=λi (hi:i∈I2)=>o2.lt hi;simp at f2;subst e2;simp at l2;simp-implicitDefEqProofs[-AV.cells,-AV.isCell,az,aO,c0b,c1b,c2a,c2b,dM];simp only[Xt,Xj,Wp] at o0 o1 o2
 refine⟨[V0,V1,.p (.int .i64 x.jump),.p (.int .i64 x.on),V2],I0++(I1++I2),rfl,?_,Nc (os0.length+3) n0 (Nc (os0.length+os1.length+3) n1 n2 (λi hi=>by have:=l1 i hi;omega) (λi hi=>by have:=f2 i hi;omega)) (λi hi=>by have:=l0 i hi;omega) (λi hi=>by
  rcases Ws.1 hi with h|h
  ·have:=f1 i h;omega
  ·have:=f2 i h;omega)⟩
 have r2:=fr3 (r:=[]) (a':= .row 5 [[.p (phL x.phis),.p (inL x.ins),.p (.int .i64 x.jump),.p (.int .i64 x.on),.p (ah x.next)]]) (b':= .row 5 [[V0,V1,.p (.int .i64 x.jump),.p (.int .i64 x.on),V2]]) (c':= .row 5 [[V0,V1,.p (.int .i64 x.jump),.p (.int .i64 x.on),V2]]) o2 (λi hi=>by have:=f2 i hi;omega);have r1:=fr3 (r:=os2) (a':= .row 5 [[.p (phL x.phis),.p (inL x.ins),.p (.int .i64 x.jump),.p (.int .i64 x.on),.p (ah x.next)]]) (b':= .row 5 [[V0,V1,.p (.int .i64 x.jump),.p (.int .i64 x.on),V2]]) (c':= .row 5 [[V0,V1,.p (.int .i64 x.jump),.p (.int .i64 x.on),V2]]) o1 (λi hi=>by have:=f1 i hi;omega);have r0:=fr3 (r:=os1++os2) (a':= .row 5 [[.p (phL x.phis),.p (inL x.ins),.p (.int .i64 x.jump),.p (.int .i64 x.on),.p (ah x.next)]]) (b':= .row 5 [[V0,V1,.p (.int .i64 x.jump),.p (.int .i64 x.on),V2]]) (c':= .row 5 [[V0,V1,.p (.int .i64 x.jump),.p (.int .i64 x.on),V2]]) o0 f0;rw[WI] at r2;simp only[Wp] at r1 r0;exact Ki r0 r1 r2
theorem HU(l:List Bk)(hb:l.length<=1048576)(H:∀e∈l,AC Tryz.prog G ft [.agg (e.cs.map .p)] [] (MkW .agg true e.cs)):AC Tryz.prog G iz [.p (bkL l)] [] (MkW dM true [bkL l]):=by
 have hsl:∀l,bkL l= .lst 5 (l.map Bk.cs):=λ_=>rfl;refine AC.go zO ?_;simp-implicitDefEqProofs[oa,hsl];refine⟨by omega,?_⟩
 refine am (λa:FilS=>aj 23 [(0,.p (bkL l)),(3,.sl 0 5 0 l.length),(4,.p (.int .i64 a.i))]) (λa=>a.h) (FilI true 0 5 (l.map Bk.cs) [.lst 2 [],.lst 4 [],.int .i64 0,.int .i64 0,.lst 1 []]) (λa=>l.length-a.i) ⟨0,[.row 5 (List.replicate l.length [.nils,.nils,.p (.int .i64 0),.p (.int .i64 0),.nils])]⟩
  (FilI.init rfl (by simp) (.nils 2 (.nils 4 (.p _ (λ_=>rfl) (.p _ (λ_=>rfl) (.nils 1 .nil))))) rfl) ?_ ?_
 ·exact aa (by simp) (by simp[below,hsl])
 ·rintro⟨i,hh⟩ hI;simp-implicitDefEqProofs[hsl];refine aA (λh1=>?_) (λh1=>?_)
  ·simp at h1;have hg:=Wc h1;have hH:=H l[i] (Wm h1);have hD':(l.map Bk.cs)[i]?=some l[i].cs:=by rw[Wl,hg];rfl
   generalize l[i]=e at hg hH hD';have hcs:=e.cs_eq2;have hA:=AC.mkLift bC hH (h:=hh) (by rw[hcs];simp);rw[hcs] at hA;simp-implicitDefEqProofs[hg,hcs];refine hA.mono ?_;rintro r h2 ⟨vs,I2,os,rfl,e2,ho,nd,hf⟩;rw[←hcs] at ho;obtain⟨rows,r0,k1,k2,k3,k4,k5,k6⟩:=hI.step hD' e2 ho nd hf rfl;obtain⟨V0,V1,V2,_,_,_,rfl,_,hV0,hV1,hV2⟩:=JX ho;obtain⟨c0a,c0b⟩:=dU hV0;obtain⟨c1a,c1b⟩:=dU hV1;obtain⟨c2a,c2b⟩:=dU hV2;obtain⟨z0,z1,z2,z3,z4,rfl⟩:=Vm k3;have hll:0<h2.length:=(Wa.1 k1).1;simp-implicitDefEqProofs[-AV.cells,-AV.isCell,az,aO,c0b,c1b,c2b,k1,k2,h1,eS];refine⟨_,k6,by simp;omega,aa (by simp) ?_⟩;simp[below,w1 (i:=i) (by omega)];omega
  ·simp at h1;obtain⟨rows,J,hr⟩:=hI.done (by simpa using h1);simp-implicitDefEqProofs[];exact⟨_,_,rfl,hr.tree (by simp),hr.nd⟩
theorem Nz(x:Cd)(hx:x.sz<=1048576):AC Tryz.prog G gU [.agg (x.cs.map .p)] [] (MkW .agg true x.cs):=by
 have hsz:x.sz=1+szL Bk.sz x.blocks:=rfl;have h0:=HU G x.blocks (by have:=bv (f:=Bk.sz) Bk.sz1 x.blocks;omega) (λe he=>Ma G e (by have:=bA (f:=Bk.sz) he;omega));refine AC.go CB ?_;simp-implicitDefEqProofs[rT,Cd.cs_eq2];refine(AC.mkLift dQ h0 (by simp)).mono ?_;rintro r h2 ⟨vs,I0,os0,rfl,e2,o0,n0,f0⟩;obtain⟨V0,rfl⟩:=br o0;obtain⟨c0a,c0b⟩:=dU o0;have l0:=λi (hi:i∈I0)=>o0.lt hi;simp at f0;subst e2;simp at l0;simp-implicitDefEqProofs[-AV.cells,-AV.isCell,az,aO,c0a,c0b,dM];exact⟨_,I0,rfl,OwnL.p _ (λ_=>rfl) (OwnL.p _ (λ_=>rfl) (fr3 (r:=[]) o0 f0|>λh=>by rw[WI] at h;exact h)),n0⟩
theorem Mj(l:List Cd)(hb:l.length<=1048576)(H:∀e∈l,AC Tryz.prog G gU [.agg (e.cs.map .p)] [] (MkW .agg true e.cs)):AC Tryz.prog G kh [.p (cdL l)] [] (MkW dM true [cdL l]):=by
 have hsl:∀l,cdL l= .lst 3 (l.map Cd.cs):=λ_=>rfl;refine AC.go Bu ?_;simp-implicitDefEqProofs[pG,hsl];refine⟨by omega,?_⟩
 refine am (λa:FilS=>aj 23 [(0,.p (cdL l)),(3,.sl 0 3 0 l.length),(4,.p (.int .i64 a.i))]) (λa=>a.h) (FilI true 0 3 (l.map Cd.cs) [.int .i64 0,.int .i64 0,.lst 5 []]) (λa=>l.length-a.i) ⟨0,[.row 3 (List.replicate l.length [.p (.int .i64 0),.p (.int .i64 0),.nils])]⟩
  (FilI.init rfl (by simp) (.p _ (λ_=>rfl) (.p _ (λ_=>rfl) (.nils 5 .nil))) rfl) ?_ ?_
 ·exact aa (by simp) (by simp[below,hsl])
 ·rintro⟨i,hh⟩ hI;simp-implicitDefEqProofs[hsl];refine aA (λh1=>?_) (λh1=>?_)
  ·simp at h1;have hg:=Wc h1;have hH:=H l[i] (Wm h1);have hD':(l.map Cd.cs)[i]?=some l[i].cs:=by rw[Wl,hg];rfl
   generalize l[i]=e at hg hH hD';have hcs:=e.cs_eq2;have hA:=AC.mkLift bC hH (h:=hh) (by rw[hcs];simp);rw[hcs] at hA;simp-implicitDefEqProofs[hg,hcs];refine hA.mono ?_;rintro r h2 ⟨vs,I2,os,rfl,e2,ho,nd,hf⟩;rw[←hcs] at ho;obtain⟨rows,r0,k1,k2,k3,k4,k5,k6⟩:=hI.step hD' e2 ho nd hf rfl;obtain⟨V0,rfl,hV0⟩:=Ef ho;obtain⟨c0a,c0b⟩:=dU hV0;obtain⟨z0,z1,z2,rfl⟩:=Vg k3;have hll:0<h2.length:=(Wa.1 k1).1;simp-implicitDefEqProofs[-AV.cells,-AV.isCell,az,aO,c0b,k1,k2,h1,eS];refine⟨_,k6,by simp;omega,aa (by simp) ?_⟩;simp[below,w1 (i:=i) (by omega)];omega
  ·simp at h1;obtain⟨rows,J,hr⟩:=hI.done (by simpa using h1);simp-implicitDefEqProofs[];exact⟨_,_,rfl,hr.tree (by simp),hr.nd⟩
theorem FB(u:List Cd)(hz:unZ u<=1048576):AC Tryz.prog G cg [.agg [.p (cdL u)]] [] (MkW .agg true [cdL u]):=by
 have h0:=Mj G u (by have:=bv (f:=Cd.sz) Cd.sz1 u;rw[unZ] at hz;omega) (λe he=>Nz G e (by have:=bA (f:=Cd.sz) he;rw[unZ] at hz;omega));refine AC.go De ?_;simp-implicitDefEqProofs[sj];refine(AC.mkLift dQ h0 (by simp)).mono ?_;rintro r h2 ⟨vs,I0,os0,rfl,e2,o0,n0,f0⟩;obtain⟨V0,rfl⟩:=br o0;obtain⟨c0a,c0b⟩:=dU o0;simp at f0;subst e2;simp-implicitDefEqProofs[-AV.cells,-AV.isCell,az,c0a,c0b,dM];exact⟨_,I0,rfl,(fr3 (r:=[]) o0 f0|>λh=>by rw[WI] at h;exact h),n0⟩
theorem Ng(u:List Cd)(hz:unZ u<=1048576):VF Tryz.prog G cg [.agg [.p (cdL u)]] (.agg [.p (cdL u)]):=AC.mkFreeze bC (FB G u hz)
theorem AU(xs:List Int)(hb:xs.length<=1048576):VF Tryz.prog G ec [.p (ah xs),.p (ah xs)] (.p (.bool true)):=by
 refine AC.go CD ?_;have hsl:∀l,ah l= .lst 1 (l.map λw=>[.int .i64 w]):=λ_=>rfl;simp-implicitDefEqProofs[sk,hsl];refine am (λi:Nat=>aj 26 [(0,.p (ah xs)),(1,.p (ah xs)),(5,.p (.int .i64 i))]) (λ_=>[]) (λi=>i<=xs.length) (λi=>xs.length-i) 0 (by simp) ?_ ?_
 ·exact aE rfl (by simp[below,ah])
 intro i hi;simp-implicitDefEqProofs[hsl];refine aA (λh1=>?_) (λh1=>?_)
 ·simp at h1;have hg:xs[i]?=some xs[i]:=Wc h1;generalize xs[i]=x at hg;simp-implicitDefEqProofs[hg];refine⟨i+1,by omega,by omega,aE rfl ?_⟩;simp[below,w1 (i:=i) (by omega)]
 ·simp at h1;simp-implicitDefEqProofs[]
theorem QZ(x:Ph)(hx:x.sz<=1048576):VF Tryz.prog G jq [.agg (x.cs.map .p),.agg (x.cs.map .p)] (.p (.bool true)):=by
 have hsz:x.sz=1+x.args.length:=rfl;refine AC.go Em ?_;simp-implicitDefEqProofs[uk,Ph.cs_eq2];refine(AU G x.args (by omega)).use ?_;simp-implicitDefEqProofs[]
theorem NG(l:List Ph)(hb:l.length<=1048576)(H:∀e∈l,VF Tryz.prog G jq [.agg (e.cs.map .p),.agg (e.cs.map .p)] (.p (.bool true))):VF Tryz.prog G lV [.p (phL l),.p (phL l)] (.p (.bool true)):=by
 refine AC.go CJ ?_;have hsl:∀l,phL l= .lst 2 (l.map Ph.cs):=λ_=>rfl;simp-implicitDefEqProofs[sa,hsl];refine am (λi:Nat=>aj 27 [(0,.p (phL l)),(1,.p (phL l)),(5,.p (.int .i64 i))]) (λ_=>[]) (λi=>i<=l.length) (λi=>l.length-i) 0 (by simp) ?_ ?_
 ·exact aE rfl (by simp[below,hsl])
 intro i hi;simp-implicitDefEqProofs[hsl];refine aA (λh1=>?_) (λh1=>?_)
 ·simp at h1;have hg:=Wc h1;have hc:=H l[i] (Wm h1);generalize l[i]=e at hg hc;have hcs:e.cs.length=2:=rfl;simp-implicitDefEqProofs[hg,hcs];refine hc.use ?_;simp-implicitDefEqProofs[];exact⟨i+1,h1,by omega,aE rfl (by simp[below,w1 (i:=i) (by omega)])⟩
 ·simp at h1;simp-implicitDefEqProofs[]
theorem QD(x:Ii)(hx:x.sz<=1048576):VF Tryz.prog G jl [.agg (x.cs.map .p),.agg (x.cs.map .p)] (.p (.bool true)):=by
 have hsz:x.sz=1+x.args.length:=rfl;refine AC.go Ek ?_;simp-implicitDefEqProofs[tq,Ii.cs_eq2];refine(AU G x.args (by omega)).use ?_;simp-implicitDefEqProofs[]
theorem Nh(l:List Ii)(hb:l.length<=1048576)(H:∀e∈l,VF Tryz.prog G jl [.agg (e.cs.map .p),.agg (e.cs.map .p)] (.p (.bool true))):VF Tryz.prog G lu [.p (inL l),.p (inL l)] (.p (.bool true)):=by
 refine AC.go CA ?_;have hsl:∀l,inL l= .lst 4 (l.map Ii.cs):=λ_=>rfl;simp-implicitDefEqProofs[sg,hsl];refine am (λi:Nat=>aj 27 [(0,.p (inL l)),(1,.p (inL l)),(5,.p (.int .i64 i))]) (λ_=>[]) (λi=>i<=l.length) (λi=>l.length-i) 0 (by simp) ?_ ?_
 ·exact aE rfl (by simp[below,hsl])
 intro i hi;simp-implicitDefEqProofs[hsl];refine aA (λh1=>?_) (λh1=>?_)
 ·simp at h1;have hg:=Wc h1;have hc:=H l[i] (Wm h1);generalize l[i]=e at hg hc;have hcs:e.cs.length=4:=rfl;simp-implicitDefEqProofs[hg,hcs];refine hc.use ?_;simp-implicitDefEqProofs[];exact⟨i+1,h1,by omega,aE rfl (by simp[below,w1 (i:=i) (by omega)])⟩
 ·simp at h1;simp-implicitDefEqProofs[]
theorem Lb(x:Bk)(hx:x.sz<=1048576):VF Tryz.prog G fW [.agg (x.cs.map .p),.agg (x.cs.map .p)] (.p (.bool true)):=by
 have hsz:x.sz=1+szL Ph.sz x.phis+szL Ii.sz x.ins+x.next.length:=rfl;refine AC.go Be ?_;simp-implicitDefEqProofs[pL,Bk.cs_eq2];refine(NG G x.phis (by have:=bv (f:=Ph.sz) Ph.sz1 x.phis;omega) (λe he=>QZ G e (by have:=bA (f:=Ph.sz) he;omega))).use ?_;simp-implicitDefEqProofs[];refine(Nh G x.ins (by have:=bv (f:=Ii.sz) Ii.sz1 x.ins;omega) (λe he=>QD G e (by have:=bA (f:=Ii.sz) he;omega))).use ?_;simp-implicitDefEqProofs[];refine(AU G x.next (by omega)).use ?_;simp-implicitDefEqProofs[]
theorem If(l:List Bk)(hb:l.length<=1048576)(H:∀e∈l,VF Tryz.prog G fW [.agg (e.cs.map .p),.agg (e.cs.map .p)] (.p (.bool true))):VF Tryz.prog G iG [.p (bkL l),.p (bkL l)] (.p (.bool true)):=by
 refine AC.go zW ?_;have hsl:∀l,bkL l= .lst 5 (l.map Bk.cs):=λ_=>rfl;simp-implicitDefEqProofs[oe,hsl];refine am (λi:Nat=>aj 27 [(0,.p (bkL l)),(1,.p (bkL l)),(5,.p (.int .i64 i))]) (λ_=>[]) (λi=>i<=l.length) (λi=>l.length-i) 0 (by simp) ?_ ?_
 ·exact aE rfl (by simp[below,hsl])
 intro i hi;simp-implicitDefEqProofs[hsl];refine aA (λh1=>?_) (λh1=>?_)
 ·simp at h1;have hg:=Wc h1;have hc:=H l[i] (Wm h1);generalize l[i]=e at hg hc;have hcs:e.cs.length=5:=rfl;simp-implicitDefEqProofs[hg,hcs];refine hc.use ?_;simp-implicitDefEqProofs[];exact⟨i+1,h1,by omega,aE rfl (by simp[below,w1 (i:=i) (by omega)])⟩
 ·simp at h1;simp-implicitDefEqProofs[]
theorem MJ(x:Cd)(hx:x.sz<=1048576):VF Tryz.prog G ib [.agg (x.cs.map .p),.agg (x.cs.map .p)] (.p (.bool true)):=by
 have hsz:x.sz=1+szL Bk.sz x.blocks:=rfl;refine AC.go CC ?_;simp-implicitDefEqProofs[sx,Cd.cs_eq2];refine(If G x.blocks (by have:=bv (f:=Bk.sz) Bk.sz1 x.blocks;omega) (λe he=>Lb G e (by have:=bA (f:=Bk.sz) he;omega))).use ?_;simp-implicitDefEqProofs[]
theorem Ms(l:List Cd)(hb:l.length<=1048576)(H:∀e∈l,VF Tryz.prog G ib [.agg (e.cs.map .p),.agg (e.cs.map .p)] (.p (.bool true))):VF Tryz.prog G kB [.p (cdL l),.p (cdL l)] (.p (.bool true)):=by
 refine AC.go Ay ?_;have hsl:∀l,cdL l= .lst 3 (l.map Cd.cs):=λ_=>rfl;simp-implicitDefEqProofs[pQ,hsl];refine am (λi:Nat=>aj 27 [(0,.p (cdL l)),(1,.p (cdL l)),(5,.p (.int .i64 i))]) (λ_=>[]) (λi=>i<=l.length) (λi=>l.length-i) 0 (by simp) ?_ ?_
 ·exact aE rfl (by simp[below,hsl])
 intro i hi;simp-implicitDefEqProofs[hsl];refine aA (λh1=>?_) (λh1=>?_)
 ·simp at h1;have hg:=Wc h1;have hc:=H l[i] (Wm h1);generalize l[i]=e at hg hc;have hcs:e.cs.length=3:=rfl;simp-implicitDefEqProofs[hg,hcs];refine hc.use ?_;simp-implicitDefEqProofs[];exact⟨i+1,h1,by omega,aE rfl (by simp[below,w1 (i:=i) (by omega)])⟩
 ·simp at h1;simp-implicitDefEqProofs[]
theorem GI(u:List Cd)(hz:unZ u<=1048576):VF Tryz.prog G dh [.agg [.p (cdL u)],.agg [.p (cdL u)]] (.p (.bool true)):=by
 refine AC.go Cz ?_;simp-implicitDefEqProofs[sC];refine(Ms G u (by have:=bv (f:=Cd.sz) Cd.sz1 u;rw[unZ] at hz;omega) (λe he=>MJ G e (by have:=bA (f:=Cd.sz) he;rw[unZ] at hz;omega))).use ?_;simp-implicitDefEqProofs[]
end
section
variable (G:aw)
def dK(k n:Nat):List Int:=(List.range n).map λj=>((k+j:Nat):Int)
theorem Ol(k n:Nat):(dK k n).length=n:=by simp[dK]
theorem Io{h:List AO}{id:Nat}{xs:List Int}{k:Nat}(hr:h[id]?=some (Ev xs))(hk:k+xs.length<=1152921504606846976):
 AC Tryz.prog G bX [.sl id 1 0 xs.length,.p (.int .i64 k)] h λx h'=>x= .ret (.p (.int .i64 ((k+xs.length:Nat):Int)))/\h'=h.set id (Ev (dK k xs.length)):=by
 refine AC.enterB eO λhb=>AC.go eO ?_;have hid:id<h.length:=(Wa.1 hr).1
 have hbs:∀ys:List Int,HB (h.set id (Ev ys)):=λys=>hb.set_row λe he=>by
  obtain⟨x,_,rfl⟩:=Ww.1 he;simp
 simp[eQ];have e0:dK k 0++xs.drop 0=xs:=by simp[dK]
 refine am (λa:Nat × List Int=>aj 19 [(0,.sl id 1 0 xs.length),(1,.p (.int .i64 ((k+a.1:Nat):Int))),(5,.p (.int .i64 a.1))]) (λa=>h.set id (Ev a.2)) (λa=>a.1<=xs.length/\a.2=dK k a.1++xs.drop a.1) (λa=>xs.length-a.1) (0,xs) ⟨by simp,e0.symm⟩ ?_ ?_
 ·have e:h.set id (Ev xs)=h:=by
   obtain⟨hi,e⟩:=Wa.1 hr;rw[←e];simp
  rw[e];exact BW (by simp) hb (by simp[below,hid])
 ·rintro⟨i,ys⟩ ⟨hi,hy⟩;simp only at hi hy;simp[];refine aA (λh1=>?_) (λh1=>?_)
  ·simp at h1;have hyl:ys.length=xs.length:=by rw[hy];simp[dK];omega
   have hys:ys.set i ((k+i:Nat):Int)=dK k (i+1)++xs.drop (i+1):=by
    rw[hy,Xy _ _ (by simp[dK])];simp only[dK,Wj,Xq,Xd];rw[Xa h1,XY,Yz];simp
   have hg:(List.map (λn=>[AV.p (.int .i64 n)]) ys)[i]?=some [AV.p (.int .i64 (ys[i]'(by omega)))]:=(by rw[Wl,Wc (by omega)];rfl);have hw1:IntKind.i64.wrap ((k:Int)+(i:Int)+1)=(k:Int)+(i:Int)+1:=al (by omega) (by omega);simp[Ev,hid,h1,hg,hw1];refine⟨i+1,ys.set i ((k+i:Nat):Int),⟨h1,hys⟩,by omega,?_⟩
   have e:(List.map (λn=>[AV.p (PV.int IntKind.i64 n)]) ys).set i [AV.p (PV.int IntKind.i64 (↑k+ ↑i))]=List.map (λn=>[AV.p (PV.int IntKind.i64 n)]) (ys.set i ((k+i:Nat):Int)):=by rw[Ym];simp
   rw[e];refine BW ?_ (hbs (ys.set i ((k+i:Nat):Int))) ?_
   ·simp
   simp[w1 (i:=i) (by omega),below,hid];omega
  ·simp at h1;have:i=xs.length:=by omega
   subst this;simp[hy]
theorem sS(k n:Nat)(hk:k+n<=1152921504606846976):VF Tryz.prog G cZ [.p (ah (dK k n)),.p (.int .i64 k)] (.p (.int .i64 ((k+n:Nat):Int))):=by
 refine AC.go zH ?_;have hsl:∀l,ah l= .lst 1 (l.map λw=>[.int .i64 w]):=λ_=>rfl;have hl:=Ol k n;simp[nX];refine am (λi:Nat=>aj 21 [(0,.p (ah (dK k n))),(1,.p (.int .i64 ((k+i:Nat):Int))),(5,.p (.int .i64 i))]) (λ_=>[]) (λi=>i<=n) (λi=>n-i) 0 (by simp) ?_ ?_
 ·exact aE rfl (by simp[below,ah])
 intro i hi;simp[hsl,hl];refine aA (λh1=>?_) (λh1=>?_)
 ·simp at h1;have hg:(dK k n)[i]?=some ((k+i:Nat):Int):=by simp[dK,h1]
  have hw1:IntKind.i64.wrap ((k:Int)+(i:Int)+1)=(k:Int)+(i:Int)+1:=al (by omega) (by omega);clear hl;simp[hg,hw1];refine⟨i+1,h1,by omega,aE rfl ?_⟩;simp[below,w1 (i:=i) (by omega)];omega
 ·simp at h1;have:i=n:=by omega
  subst this;simp[]
end
section
theorem FY{α:Type}:∀{rows:List (List α)} {l:List α},rows.flatten=l->(∀e∈rows,e.length=1)->rows=l.map λx=>[x]
 |[],l,e,_=>by subst e;rfl
 |r::rs,l,e,h=>by
  subst e;have h1:=h r (by simp)
  match r,h1 with
  |[x],_=>
   have ih:=FY (rows:=rs) rfl λe he=>h e (by simp[he]);rw[WX,List.singleton_append,WJ,←ih]
theorem Fx{α:Type}(f:α->PV)(hn:∀x sz y es,f x≠ .lst sz (y::es))(hn2:∀x sz,f x≠ .lst sz []){h:List AO}:∀{ps:List α} {vs:List AV} {J:List Nat},OwnL true h vs (ps.map f) J->vs=ps.map (λw=> .p (f w))/\J=[]
 |[],vs,J,H=>by
  cases H;exact⟨rfl,rfl⟩
 |w::r,vs,J,H=>by
  rw[WJ] at H;generalize hq:f w=q at H;cases H with
  |p _ _ H=>
   obtain⟨e1,e2⟩:=Fx f hn hn2 H;exact⟨by rw[e1,WJ,hq],e2⟩
  |nils sz H=>exact absurd hq (hn2 w sz)
  |sl id sz n rows es a1 a2 a3 a4 a5 a6 H=>
   cases es with
   |nil=>exact absurd hq (hn2 w sz)
   |cons y es=>exact absurd hq (hn w sz y es)
theorem LZ(l:List Int):(l.map λx=>[PV.int .i64 x]).flatten=l.map (PV.int .i64):=by
 induction l with
 |nil=>rfl
 |cons x r ih=>rw[WJ,WX,ih];rfl
def mkL{α:Type}(q:α->Nat)(mk:Nat->α->α):Nat->List α->List α
 |_,[]=>[]
 |k,x::r=>mk k x::mkL q mk (k+q x) r
section
variable {α:Type} {q:α->Nat} {mk:Nat->α->α}
theorem dL:∀(l:List α) (k:Nat),(mkL q mk k l).length=l.length
 |[],_=>rfl
 |x::r,k=>by rw[mkL,WC,dL r,WC]
theorem nr:∀(l:List α) (k i:Nat) (e:α),l[i]?=some e->(mkL q mk k l)[i]?=some (mk (k+szL q (l.take i)) e)
 |x::r,k,0,e,h=>by cases h;rfl
 |x::r,k,i+1,e,h=>by
  have:=nr r (k+q x) i e h;rw[mkL,Ya,this,Zt];simp only[szL,WJ,XC,XR]
theorem Kn(a b:List α):szL q (a++b)=szL q a+szL q b:=by rw[szL,WF,YV];rfl
theorem im{l:List α}{i:Nat}(h:i<l.length):szL q (l.take (i+1))=szL q (l.take i)+q l[i]:=by rw[aq h,Kn];simp[szL]
theorem lf(l:List α)(i:Nat):szL q (l.take i)<=szL q l:=by
 have e:szL q l=szL q (l.take i)+szL q (l.drop i):=by rw[←Kn,XH]
 omega
end
theorem Qy{s:Bool}{h:List AO}{x:Ph}{A:AV}{I:List Nat}(H:OwnL s h [A] [ah x.args] I):OwnL s h [.p (.int .i64 x.to),A] x.cs I:= .p _ (λ_=>rfl) H
def Ph.q(x:Ph):Nat:=1+x.args.length
def Ph.mkd(k:Nat)(x:Ph):Ph:=⟨((k:Nat):Int),dK (k+1) x.args.length⟩
def Ii.q(x:Ii):Nat:=1+1+x.args.length+1
def Ii.mkd(k:Nat)(x:Ii):Ii:=⟨((k:Nat):Int),((k+1:Nat):Int),dK (k+1+1) x.args.length,((k+1+1+x.args.length:Nat):Int)⟩
def Bk.q(x:Bk):Nat:=szL Ph.q x.phis+szL Ii.q x.ins+1+1+x.next.length
def Bk.mkd(k:Nat)(x:Bk):Bk:=⟨mkL Ph.q Ph.mkd (k) x.phis,mkL Ii.q Ii.mkd (k+szL Ph.q x.phis) x.ins,((k+szL Ph.q x.phis+szL Ii.q x.ins:Nat):Int),((k+szL Ph.q x.phis+szL Ii.q x.ins+1:Nat):Int),dK (k+szL Ph.q x.phis+szL Ii.q x.ins+1+1) x.next.length⟩
def Cd.q(x:Cd):Nat:=1+1+szL Bk.q x.blocks
def Cd.mkd(k:Nat)(x:Cd):Cd:=⟨((k:Nat):Int),((k+1:Nat):Int),mkL Bk.q Bk.mkd (k+1+1) x.blocks⟩
variable (G:aw)
theorem Im(h:List AO)(v:AV)(I:List Nat)(ps:List Int)(k:Nat)(ho:OwnL true h [v] [ah ps] I)(nd:I.Nodup)(hk:k+ps.length<=1152921504606846976):
 AC Tryz.prog G bX [v,.p (.int .i64 k)] h (Mkd h v I (ah (dK k ps.length)) (.int .i64 ((k+ps.length:Nat):Int))):=by
 rcases ho.inv nd with⟨h0,rfl,rfl|rfl⟩|⟨h0,_⟩|⟨id,rows,J,rfl,rfl,hr⟩
 ·have hl0:ps=[]:=WK.1 h0;subst hl0;refine AC.go eO ?_;have hst:Mkd h .nils [] (ah (dK k 0)) (.int .i64 ((k+0:Nat):Int)) (.ret (.p (.int .i64 k))) h:=⟨rfl,.nils 1 .nil,λ_ _ _=>rfl,Wo _⟩;simp-implicitDefEqProofs[eQ];refine am (λ_:Unit=>aj 19 [(0,.nils),(1,.p (.int .i64 k)),(5,.p (.int .i64 0))]) (λ_=>h) (λ_=>True) (λ_=>0) () trivial (aa (Wo _) (by simp[below])) ?_;intro _ _;simp-implicitDefEqProofs[];exact hst
 ·have hl0:ps=[]:=WK.1 h0;subst hl0;refine AC.go eO ?_;have hst:Mkd h (.p (.lst 1 [])) [] (ah (dK k 0)) (.int .i64 ((k+0:Nat):Int)) (.ret (.p (.int .i64 k))) h:=⟨rfl,.p _ (λ_=>rfl) .nil,λ_ _ _=>rfl,Wo _⟩;simp-implicitDefEqProofs[eQ];refine am (λ_:Unit=>aj 19 [(0,.p (.lst 1 [])),(1,.p (.int .i64 k)),(5,.p (.int .i64 0))]) (λ_=>h) (λ_=>True) (λ_=>0) () trivial (aa (Wo _) (by simp[below])) ?_;intro _ _;simp-implicitDefEqProofs[];exact hst
 ·cases h0
 rw[Wj];have hown:=hr.own;rw[LZ] at hown;obtain⟨e1,e2⟩:=Fx (PV.int .i64) (λ_ _ _ _ e=>by cases e) (λ_ _ e=>by cases e) hown;subst e2;have e3:=FY e1 hr.rl;have hh:h[id]?=some (Ev ps):=by rw[hr.here,e3,Yu];rfl
 refine(Io G hh hk).mono ?_;rintro x h' ⟨rfl,rfl⟩;have hid:id<h.length:=hr.lt;refine⟨rfl,(aX (n:=0) (l:=dK k ps.length) (Wh hid) (We _) (by simp[dK])).own,λj hj hn=>?_,by simp⟩;simp at hn;exact Wd λe=>hn e.symm
theorem HN(l:List Ph)(h:List AO)(v:AV)(I:List Nat)(k:Nat)(ho:OwnL true h [v] [phL l] I)(nd:I.Nodup)(hk:k+szL Ph.q l<=1152921504606846976)(hlen:l.length<=1152921504606846976):
 AC Tryz.prog G iE [v,.p (.int .i64 k)] h (Mkd h v I (phL (mkL Ph.q Ph.mkd k l)) (.int .i64 ((k+szL Ph.q l:Nat):Int))):=by
 rcases ho.inv nd with⟨h0,rfl,rfl|rfl⟩|⟨h0,_⟩|⟨id,rows,J,rfl,rfl,hr⟩
 ·have hl0:l=[]:=WK.1 h0;subst hl0;refine AC.go iD ?_;have hst:Mkd h .nils [] (phL (mkL Ph.q Ph.mkd k [])) (.int .i64 ((k+szL Ph.q []:Nat):Int)) (.ret (.p (.int .i64 k))) h:=⟨rfl,.nils 2 .nil,λ_ _ _=>rfl,Wo _⟩;simp-implicitDefEqProofs[eL];refine am (λ_:Unit=>aj 27 [(0,.nils),(1,.p (.int .i64 k)),(5,.p (.int .i64 0))]) (λ_=>h) (λ_=>True) (λ_=>0) () trivial (aa (Wo _) (by simp[below])) ?_;intro _ _;simp-implicitDefEqProofs[];exact hst
 ·have hl0:l=[]:=WK.1 h0;subst hl0;refine AC.go iD ?_;have hst:Mkd h (.p (.lst 2 [])) [] (phL (mkL Ph.q Ph.mkd k [])) (.int .i64 ((k+szL Ph.q []:Nat):Int)) (.ret (.p (.int .i64 k))) h:=⟨rfl,.p _ (λ_=>rfl) .nil,λ_ _ _=>rfl,Wo _⟩;simp-implicitDefEqProofs[eL];refine am (λ_:Unit=>aj 27 [(0,(.p (.lst 2 []))),(1,.p (.int .i64 k)),(5,.p (.int .i64 0))]) (λ_=>h) (λ_=>True) (λ_=>0) () trivial (aa (Wo _) (by simp[below])) ?_;intro _ _;simp-implicitDefEqProofs[];exact hst
 ·cases h0
 rw[Wj];refine AC.go iD ?_;simp-implicitDefEqProofs[eL];refine am (λa:FilS=>aj 27 [(0,.sl id 2 0 l.length),(1,.p (.int .i64 ((k+szL Ph.q (l.take a.i):Nat):Int))),(5,.p (.int .i64 a.i))]) (λa=>a.h) (MkI h id 2 ((mkL Ph.q Ph.mkd k l).map Ph.cs) (l.map Ph.cs) J) (λa=>l.length-a.i) ⟨0,h⟩ (MkI.init hr) ?_ ?_
 ·exact aa (Wo _) (by simp[below,szL,hr.lt])
 rintro⟨i,hh⟩ hI;simp-implicitDefEqProofs[];refine aA (λh1=>?_) (λh1=>?_)
 ·simp at h1;have hg:=Wc h1;have hP:=im (q:=Ph.q) h1;have hM:=bA (f:=Ph.q) (Wm h1);have hT:=lf (q:=Ph.q) l (i+1);generalize l[i]=e at hg hP hM;have hD:(l.map Ph.cs)[i]?=some e.cs:=by rw[Wl,hg];rfl
  have hA:((mkL Ph.q Ph.mkd k l).map Ph.cs)[i]?=some (Ph.mkd (k+szL Ph.q (l.take i)) e).cs:=by rw[Wl,nr l k i e hg];rfl
  obtain⟨rows',r,Ji,s1,s2,s3,s4,s5,s6,s7⟩:=hI.step hD hA;obtain⟨V0,rfl,o0⟩:=Ks s3;obtain⟨c0a,c0b⟩:=dU o0;have q1:∀x,(hh.set id x)[id]?=some x:=λx=>Wh s5;have q2:∀x,(rows'.set i x)[i]?=some x:=λx=>Wh s6;have q3:∀x,i<(rows'.set i x).length:=λx=>by rw[Wy];exact s6
  have s1e:=λhh=>ag s1 hh;have s2e:=λhh=>ag s2 hh;have q1e:=λx hh=>ag (q1 x) hh;have q2e:=λx hh=>ag (q2 x) hh;rw[WR] at s4;obtain⟨hnid,nI⟩:=s4;have x0:=hnid;have n0:=nI;have hqe:Ph.q e=1+e.args.length:=rfl;generalize hkk:k+szL Ph.q (l.take i)=m0 at*
  have hkI:(k:Int)+(szL Ph.q (l.take i):Int)=(m0:Int):=by omega
  obtain⟨m1,hm1⟩:∃m,m=m0+1:=⟨_,rfl⟩;have w0w:IntKind.i64.wrap ((m0:Int)+1)=(m1:Int):=by rw[al (by omega) (by omega)];omega
  obtain⟨m2,hm2⟩:∃m,m=m1+e.args.length:=⟨_,rfl⟩
  have hmk:Ph.mkd m0 e=⟨(m0:Int),dK (m1) e.args.length⟩:=by rw[hm1];rfl
  have mS0:=λh1 ho=>Im G h1 V0 Ji e.args m1 ho n0 (by omega);simp only[←hm2] at mS0;simp-implicitDefEqProofs[-AV.cells,-AV.isCell,kR,aO,c0b,s1,s2,q1,q2,hkI,h1,w0w];refine(mS0 _ (o0.set_out x0 _)).mono ?_;rintro r h10 ⟨rfl,p0,f0,l0⟩;rw[Wy] at f0 l0;have hid0:id<hh.length:=by omega
  have g0:h10[id]?=some (.row 2 (rows'.set i [.p (.int .i64 (m0:Int)),V0])):=by rw[f0 id hid0 x0];exact Wh hid0
  have q1_0:∀x,(h10.set id x)[id]?=some x:=λx=>Wh (by omega);have q1e_0:=λx hh=>ag (q1_0 x) hh;have g0e:=λhh=>ag g0 hh;simp-implicitDefEqProofs[-AV.cells,-AV.isCell];have hwi:=w1 (i:=i) (by omega)
  have hgo:=s7 h10 [.p (.int .i64 (m0:Int)),V0] (g0) (λj hj hn hm=>by rw[f0 j (by omega) hm,Wd (λe=>hn e.symm)]) (by rw[hmk];exact Qy (x:=⟨(m0:Int),dK m1 e.args.length⟩) p0) rfl (by omega)
  refine⟨⟨i+1,_⟩,hgo,by simp only;omega,aa hgo.2.2.2 ?_⟩;simp[below,hwi];omega
 ·simp at h1;have hie:i=l.length:=by have:=hI.1;simp at this;omega
  obtain⟨⟨rows2,d1⟩,d2,d3⟩:=hI.done (by simpa using h1) (by simp[dL]);subst hie;rw[Xm];simp-implicitDefEqProofs[];refine⟨by simp,?_,d2,d3⟩;have:=d1.tree (n:=l.length) (by simp[dL]);exact this
theorem Jj(l:List Ii)(h:List AO)(v:AV)(I:List Nat)(k:Nat)(ho:OwnL true h [v] [inL l] I)(nd:I.Nodup)(hk:k+szL Ii.q l<=1152921504606846976)(hlen:l.length<=1152921504606846976):
 AC Tryz.prog G iY [v,.p (.int .i64 k)] h (Mkd h v I (inL (mkL Ii.q Ii.mkd k l)) (.int .i64 ((k+szL Ii.q l:Nat):Int))):=by
 rcases ho.inv nd with⟨h0,rfl,rfl|rfl⟩|⟨h0,_⟩|⟨id,rows,J,rfl,rfl,hr⟩
 ·have hl0:l=[]:=WK.1 h0;subst hl0;refine AC.go iK ?_;have hst:Mkd h .nils [] (inL (mkL Ii.q Ii.mkd k [])) (.int .i64 ((k+szL Ii.q []:Nat):Int)) (.ret (.p (.int .i64 k))) h:=⟨rfl,.nils 4 .nil,λ_ _ _=>rfl,Wo _⟩;simp-implicitDefEqProofs[eR];refine am (λ_:Unit=>aj 41 [(0,.nils),(1,.p (.int .i64 k)),(5,.p (.int .i64 0))]) (λ_=>h) (λ_=>True) (λ_=>0) () trivial (aa (Wo _) (by simp[below])) ?_;intro _ _;simp-implicitDefEqProofs[];exact hst
 ·have hl0:l=[]:=WK.1 h0;subst hl0;refine AC.go iK ?_;have hst:Mkd h (.p (.lst 4 [])) [] (inL (mkL Ii.q Ii.mkd k [])) (.int .i64 ((k+szL Ii.q []:Nat):Int)) (.ret (.p (.int .i64 k))) h:=⟨rfl,.p _ (λ_=>rfl) .nil,λ_ _ _=>rfl,Wo _⟩;simp-implicitDefEqProofs[eR];refine am (λ_:Unit=>aj 41 [(0,(.p (.lst 4 []))),(1,.p (.int .i64 k)),(5,.p (.int .i64 0))]) (λ_=>h) (λ_=>True) (λ_=>0) () trivial (aa (Wo _) (by simp[below])) ?_;intro _ _;simp-implicitDefEqProofs[];exact hst
 ·cases h0
 rw[Wj];refine AC.go iK ?_;simp-implicitDefEqProofs[eR];refine am (λa:FilS=>aj 41 [(0,.sl id 4 0 l.length),(1,.p (.int .i64 ((k+szL Ii.q (l.take a.i):Nat):Int))),(5,.p (.int .i64 a.i))]) (λa=>a.h) (MkI h id 4 ((mkL Ii.q Ii.mkd k l).map Ii.cs) (l.map Ii.cs) J) (λa=>l.length-a.i) ⟨0,h⟩ (MkI.init hr) ?_ ?_
 ·exact aa (Wo _) (by simp[below,szL,hr.lt])
 rintro⟨i,hh⟩ hI;simp-implicitDefEqProofs[];refine aA (λh1=>?_) (λh1=>?_)
 ·simp at h1;have hg:=Wc h1;have hP:=im (q:=Ii.q) h1;have hM:=bA (f:=Ii.q) (Wm h1);have hT:=lf (q:=Ii.q) l (i+1);generalize l[i]=e at hg hP hM;have hD:(l.map Ii.cs)[i]?=some e.cs:=by rw[Wl,hg];rfl
  have hA:((mkL Ii.q Ii.mkd k l).map Ii.cs)[i]?=some (Ii.mkd (k+szL Ii.q (l.take i)) e).cs:=by rw[Wl,nr l k i e hg];rfl
  obtain⟨rows',r,Ji,s1,s2,s3,s4,s5,s6,s7⟩:=hI.step hD hA;obtain⟨V0,rfl,o0⟩:=Kt s3;obtain⟨c0a,c0b⟩:=dU o0;have q1:∀x,(hh.set id x)[id]?=some x:=λx=>Wh s5;have q2:∀x,(rows'.set i x)[i]?=some x:=λx=>Wh s6;have q3:∀x,i<(rows'.set i x).length:=λx=>by rw[Wy];exact s6
  have s1e:=λhh=>ag s1 hh;have s2e:=λhh=>ag s2 hh;have q1e:=λx hh=>ag (q1 x) hh;have q2e:=λx hh=>ag (q2 x) hh;rw[WR] at s4;obtain⟨hnid,nI⟩:=s4;have x0:=hnid;have n0:=nI;have hqe:Ii.q e=1+1+e.args.length+1:=rfl;generalize hkk:k+szL Ii.q (l.take i)=m0 at*
  have hkI:(k:Int)+(szL Ii.q (l.take i):Int)=(m0:Int):=by omega
  obtain⟨m1,hm1⟩:∃m,m=m0+1:=⟨_,rfl⟩;have w0w:IntKind.i64.wrap ((m0:Int)+1)=(m1:Int):=by rw[al (by omega) (by omega)];omega
  obtain⟨m2,hm2⟩:∃m,m=m1+1:=⟨_,rfl⟩;have w1w:IntKind.i64.wrap ((m1:Int)+1)=(m2:Int):=by rw[al (by omega) (by omega)];omega
  obtain⟨m3,hm3⟩:∃m,m=m2+e.args.length:=⟨_,rfl⟩;obtain⟨m4,hm4⟩:∃m,m=m3+1:=⟨_,rfl⟩;have w3w:IntKind.i64.wrap ((m3:Int)+1)=(m4:Int):=by rw[al (by omega) (by omega)];omega
  have hmk:Ii.mkd m0 e=⟨(m0:Int),(m1:Int),dK (m2) e.args.length,(m3:Int)⟩:=by rw[hm3,hm2,hm1];rfl
  have mS0:=λh1 ho=>Im G h1 V0 Ji e.args m2 ho n0 (by omega);simp only[←hm3] at mS0;simp-implicitDefEqProofs[-AV.cells,-AV.isCell,kR,aO,c0b,s1,s2,q1,q2,hkI,h1,Yf,w0w,w1w];refine(mS0 _ (o0.set_out x0 _)).mono ?_;rintro r h10 ⟨rfl,p0,f0,l0⟩;rw[Wy] at f0 l0;have hid0:id<hh.length:=by omega
  have g0:h10[id]?=some (.row 4 (rows'.set i [.p (.int .i64 (m0:Int)),.p (.int .i64 (m1:Int)),V0,.p (.int .i64 e.n)])):=by rw[f0 id hid0 x0];exact Wh hid0
  have q1_0:∀x,(h10.set id x)[id]?=some x:=λx=>Wh (by omega);have q1e_0:=λx hh=>ag (q1_0 x) hh;have g0e:=λhh=>ag g0 hh;simp-implicitDefEqProofs[-AV.cells,-AV.isCell,kR,aO,q2,h1,Yf,g0,w3w];have hwi:=w1 (i:=i) (by omega)
  have hgo:=s7 (h10.set id (.row 4 (rows'.set i [.p (.int .i64 (m0:Int)),.p (.int .i64 (m1:Int)),V0,.p (.int .i64 (m3:Int))]))) [.p (.int .i64 (m0:Int)),.p (.int .i64 (m1:Int)),V0,.p (.int .i64 (m3:Int))] (Wh (by omega)) (λj hj hn hm=>by rw[Wd (λe=>hn e.symm),f0 j (by omega) hm,Wd (λe=>hn e.symm)]) (by rw[hmk];exact KQ (x:=⟨(m0:Int),(m1:Int),dK m2 e.args.length,(m3:Int)⟩) (p0.set_out x0 _)) rfl (by simp;omega)
  refine⟨⟨i+1,_⟩,hgo,by simp only;omega,aa hgo.2.2.2 ?_⟩;simp[below,hwi];omega
 ·simp at h1;have hie:i=l.length:=by have:=hI.1;simp at this;omega
  obtain⟨⟨rows2,d1⟩,d2,d3⟩:=hI.done (by simpa using h1) (by simp[dL]);subst hie;rw[Xm];simp-implicitDefEqProofs[];refine⟨by simp,?_,d2,d3⟩;have:=d1.tree (n:=l.length) (by simp[dL]);exact this
theorem EE(l:List Bk)(h:List AO)(v:AV)(I:List Nat)(k:Nat)(ho:OwnL true h [v] [bkL l] I)(nd:I.Nodup)(hk:k+szL Bk.q l<=1152921504606846976)(hlen:l.length<=1152921504606846976):
 AC Tryz.prog G fZ [v,.p (.int .i64 k)] h (Mkd h v I (bkL (mkL Bk.q Bk.mkd k l)) (.int .i64 ((k+szL Bk.q l:Nat):Int))):=by
 rcases ho.inv nd with⟨h0,rfl,rfl|rfl⟩|⟨h0,_⟩|⟨id,rows,J,rfl,rfl,hr⟩
 ·have hl0:l=[]:=WK.1 h0;subst hl0;refine AC.go fE ?_;have hst:Mkd h .nils [] (bkL (mkL Bk.q Bk.mkd k [])) (.int .i64 ((k+szL Bk.q []:Nat):Int)) (.ret (.p (.int .i64 k))) h:=⟨rfl,.nils 5 .nil,λ_ _ _=>rfl,Wo _⟩;simp-implicitDefEqProofs[du];refine am (λ_:Unit=>aj 48 [(0,.nils),(1,.p (.int .i64 k)),(5,.p (.int .i64 0))]) (λ_=>h) (λ_=>True) (λ_=>0) () trivial (aa (Wo _) (by simp[below])) ?_;intro _ _;simp-implicitDefEqProofs[];exact hst
 ·have hl0:l=[]:=WK.1 h0;subst hl0;refine AC.go fE ?_;have hst:Mkd h (.p (.lst 5 [])) [] (bkL (mkL Bk.q Bk.mkd k [])) (.int .i64 ((k+szL Bk.q []:Nat):Int)) (.ret (.p (.int .i64 k))) h:=⟨rfl,.p _ (λ_=>rfl) .nil,λ_ _ _=>rfl,Wo _⟩;simp-implicitDefEqProofs[du];refine am (λ_:Unit=>aj 48 [(0,(.p (.lst 5 []))),(1,.p (.int .i64 k)),(5,.p (.int .i64 0))]) (λ_=>h) (λ_=>True) (λ_=>0) () trivial (aa (Wo _) (by simp[below])) ?_;intro _ _;simp-implicitDefEqProofs[];exact hst
 ·cases h0
 rw[Wj];refine AC.go fE ?_;simp-implicitDefEqProofs[du];refine am (λa:FilS=>aj 48 [(0,.sl id 5 0 l.length),(1,.p (.int .i64 ((k+szL Bk.q (l.take a.i):Nat):Int))),(5,.p (.int .i64 a.i))]) (λa=>a.h) (MkI h id 5 ((mkL Bk.q Bk.mkd k l).map Bk.cs) (l.map Bk.cs) J) (λa=>l.length-a.i) ⟨0,h⟩ (MkI.init hr) ?_ ?_
 ·exact aa (Wo _) (by simp[below,szL,hr.lt])
 rintro⟨i,hh⟩ hI;simp-implicitDefEqProofs[];refine aA (λh1=>?_) (λh1=>?_)
 ·simp at h1;have hg:=Wc h1;have hP:=im (q:=Bk.q) h1;have hM:=bA (f:=Bk.q) (Wm h1);have hT:=lf (q:=Bk.q) l (i+1);generalize l[i]=e at hg hP hM;have hD:(l.map Bk.cs)[i]?=some e.cs:=by rw[Wl,hg];rfl
  have hA:((mkL Bk.q Bk.mkd k l).map Bk.cs)[i]?=some (Bk.mkd (k+szL Bk.q (l.take i)) e).cs:=by rw[Wl,nr l k i e hg];rfl
  obtain⟨rows',r,Ji,s1,s2,s3,s4,s5,s6,s7⟩:=hI.step hD hA;obtain⟨V0,V1,V2,I0,I1,I2,rfl,rfl,o0,o1,o2⟩:=JX s3;obtain⟨c0a,c0b⟩:=dU o0;obtain⟨c1a,c1b⟩:=dU o1;obtain⟨c2a,c2b⟩:=dU o2;have q1:∀x,(hh.set id x)[id]?=some x:=λx=>Wh s5;have q2:∀x,(rows'.set i x)[i]?=some x:=λx=>Wh s6;have q3:∀x,i<(rows'.set i x).length:=λx=>by rw[Wy];exact s6
  have s1e:=λhh=>ag s1 hh;have s2e:=λhh=>ag s2 hh;have q1e:=λx hh=>ag (q1 x) hh;have q2e:=λx hh=>ag (q2 x) hh;rw[WR] at s4;obtain⟨hnid,nI⟩:=s4;simp only[Ws,not_or] at hnid;obtain⟨x0,x1,x2⟩:=hnid;obtain⟨n0,n12,d012⟩:=WG.1 nI;obtain⟨n1,n2,d12⟩:=WG.1 n12;have hqe:Bk.q e=szL Ph.q e.phis+szL Ii.q e.ins+1+1+e.next.length:=rfl;generalize hkk:k+szL Bk.q (l.take i)=m0 at*
  have hkI:(k:Int)+(szL Bk.q (l.take i):Int)=(m0:Int):=by omega
  obtain⟨m1,hm1⟩:∃m,m=m0+szL Ph.q e.phis:=⟨_,rfl⟩;obtain⟨m2,hm2⟩:∃m,m=m1+szL Ii.q e.ins:=⟨_,rfl⟩;obtain⟨m3,hm3⟩:∃m,m=m2+1:=⟨_,rfl⟩;have w2w:IntKind.i64.wrap ((m2:Int)+1)=(m3:Int):=by rw[al (by omega) (by omega)];omega
  obtain⟨m4,hm4⟩:∃m,m=m3+1:=⟨_,rfl⟩;have w3w:IntKind.i64.wrap ((m3:Int)+1)=(m4:Int):=by rw[al (by omega) (by omega)];omega
  obtain⟨m5,hm5⟩:∃m,m=m4+e.next.length:=⟨_,rfl⟩
  have hmk:Bk.mkd m0 e=⟨mkL Ph.q Ph.mkd (m0) e.phis,mkL Ii.q Ii.mkd (m1) e.ins,(m2:Int),(m3:Int),dK (m4) e.next.length⟩:=by rw[hm4,hm3,hm2,hm1];rfl
  have mS0:=λh1 ho=>HN G e.phis h1 V0 I0 m0 ho n0 (by omega) (by have:=bv (f:=Ph.q) (λx=>by unfold Ph.q;omega) e.phis;omega);simp only[←hm1] at mS0;have mS1:=λh1 ho=>Jj G e.ins h1 V1 I1 m1 ho n1 (by omega) (by have:=bv (f:=Ii.q) (λx=>by unfold Ii.q;omega) e.ins;omega);simp only[←hm2] at mS1;have mS2:=λh1 ho=>Im G h1 V2 I2 e.next m4 ho n2 (by omega);simp only[←hm5] at mS2;simp-implicitDefEqProofs[-AV.cells,-AV.isCell,c0b,s1,s2,hkI,h1];refine(mS0 _ (o0)).mono ?_;rintro r h10 ⟨rfl,p0,f0,l0⟩;have hid0:id<hh.length:=by omega
  have g0:h10[id]?=some (.row 5 rows'):=by rw[f0 id hid0 x0];exact s1
  have o1_0:OwnL true h10 [V1] [inL e.ins] I1:=o1.frame λj hj=>by have:=o1.lt hj;rw[f0 j (by omega) (λhm=>d012 j hm j (by simp[hj]) rfl)]
  have o2_0:OwnL true h10 [V2] [ah e.next] I2:=o2.frame λj hj=>by have:=o2.lt hj;rw[f0 j (by omega) (λhm=>d012 j hm j (by simp[hj]) rfl)]
  have q1_0:∀x,(h10.set id x)[id]?=some x:=λx=>Wh (by omega);have q1e_0:=λx hh=>ag (q1_0 x) hh;have g0e:=λhh=>ag g0 hh;simp-implicitDefEqProofs[-AV.cells,-AV.isCell,c1b,s2,h1,g0];refine(mS1 _ (o1_0)).mono ?_;rintro r h11 ⟨rfl,p1,f1,l1⟩;have hid1:id<h10.length:=by omega
  have g1:h11[id]?=some (.row 5 rows'):=by rw[f1 id hid1 x1];exact g0
  have o0_1:OwnL true h11 [V0] [phL (mkL Ph.q Ph.mkd (m0) e.phis)] I0:=p0.frame λj hj=>by have:=p0.lt hj;rw[f1 j (by omega) (λhm=>d012 j hj j (by simp[hm]) rfl)]
  have o2_1:OwnL true h11 [V2] [ah e.next] I2:=o2_0.frame λj hj=>by have:=o2_0.lt hj;rw[f1 j (by omega) (λhm=>d12 j hm j hj rfl)]
  have q1_1:∀x,(h11.set id x)[id]?=some x:=λx=>Wh (by omega);have q1e_1:=λx hh=>ag (q1_1 x) hh;have g1e:=λhh=>ag g1 hh;simp-implicitDefEqProofs[-AV.cells,-AV.isCell,kR,aO,c2b,s2,q2,h1,Yf,g1,q1_1,w2w,w3w];refine(mS2 _ (o2_1.set_out x2 _)).mono ?_;rintro r h12 ⟨rfl,p2,f2,l2⟩;rw[Wy] at f2 l2;have hid2:id<h11.length:=by omega
  have g2:h12[id]?=some (.row 5 (rows'.set i [V0,V1,.p (.int .i64 (m2:Int)),.p (.int .i64 (m3:Int)),V2])):=by rw[f2 id hid2 x2];exact Wh hid2
  have o0_2:OwnL true h12 [V0] [phL (mkL Ph.q Ph.mkd (m0) e.phis)] I0:=o0_1.frame λj hj=>by have:=o0_1.lt hj;rw[f2 j (by omega) (λhm=>d012 j hj j (by simp[hm]) rfl),Wd (λe=>x0 (by rw[e];exact hj))]
  have o1_2:OwnL true h12 [V1] [inL (mkL Ii.q Ii.mkd (m1) e.ins)] I1:=p1.frame λj hj=>by have:=p1.lt hj;rw[f2 j (by omega) (λhm=>d12 j hj j hm rfl),Wd (λe=>x1 (by rw[e];exact hj))]
  have q1_2:∀x,(h12.set id x)[id]?=some x:=λx=>Wh (by omega);have q1e_2:=λx hh=>ag (q1_2 x) hh;have g2e:=λhh=>ag g2 hh;simp-implicitDefEqProofs[-AV.cells,-AV.isCell];have hwi:=w1 (i:=i) (by omega)
  have hgo:=s7 h12 [V0,V1,.p (.int .i64 (m2:Int)),.p (.int .i64 (m3:Int)),V2] (g2) (λj hj hn hm=>by
   simp only[Ws,not_or] at hm;rw[f2 j (by omega) hm.2.2,Wd (λe=>hn e.symm),f1 j (by omega) hm.2.1,f0 j (by omega) hm.1]) (by rw[hmk];exact Ki (b:=⟨mkL Ph.q Ph.mkd m0 e.phis,mkL Ii.q Ii.mkd m1 e.ins,(m2:Int),(m3:Int),dK m4 e.next.length⟩) o0_2 o1_2 p2) rfl (by omega)
  refine⟨⟨i+1,_⟩,hgo,by simp only;omega,aa hgo.2.2.2 ?_⟩;simp[below,hwi];omega
 ·simp at h1;have hie:i=l.length:=by have:=hI.1;simp at this;omega
  obtain⟨⟨rows2,d1⟩,d2,d3⟩:=hI.done (by simpa using h1) (by simp[dL]);subst hie;rw[Xm];simp-implicitDefEqProofs[];refine⟨by simp,?_,d2,d3⟩;have:=d1.tree (n:=l.length) (by simp[dL]);exact this
theorem FQ(l:List Cd)(h:List AO)(v:AV)(I:List Nat)(k:Nat)(ho:OwnL true h [v] [cdL l] I)(nd:I.Nodup)(hk:k+szL Cd.q l<=1152921504606846976)(hlen:l.length<=1152921504606846976):
 AC Tryz.prog G gx [v,.p (.int .i64 k)] h (Mkd h v I (cdL (mkL Cd.q Cd.mkd k l)) (.int .i64 ((k+szL Cd.q l:Nat):Int))):=by
 rcases ho.inv nd with⟨h0,rfl,rfl|rfl⟩|⟨h0,_⟩|⟨id,rows,J,rfl,rfl,hr⟩
 ·have hl0:l=[]:=WK.1 h0;subst hl0;refine AC.go gG ?_;have hst:Mkd h .nils [] (cdL (mkL Cd.q Cd.mkd k [])) (.int .i64 ((k+szL Cd.q []:Nat):Int)) (.ret (.p (.int .i64 k))) h:=⟨rfl,.nils 3 .nil,λ_ _ _=>rfl,Wo _⟩;simp-implicitDefEqProofs[dS];refine am (λ_:Unit=>aj 34 [(0,.nils),(1,.p (.int .i64 k)),(5,.p (.int .i64 0))]) (λ_=>h) (λ_=>True) (λ_=>0) () trivial (aa (Wo _) (by simp[below])) ?_;intro _ _;simp-implicitDefEqProofs[];exact hst
 ·have hl0:l=[]:=WK.1 h0;subst hl0;refine AC.go gG ?_;have hst:Mkd h (.p (.lst 3 [])) [] (cdL (mkL Cd.q Cd.mkd k [])) (.int .i64 ((k+szL Cd.q []:Nat):Int)) (.ret (.p (.int .i64 k))) h:=⟨rfl,.p _ (λ_=>rfl) .nil,λ_ _ _=>rfl,Wo _⟩;simp-implicitDefEqProofs[dS];refine am (λ_:Unit=>aj 34 [(0,(.p (.lst 3 []))),(1,.p (.int .i64 k)),(5,.p (.int .i64 0))]) (λ_=>h) (λ_=>True) (λ_=>0) () trivial (aa (Wo _) (by simp[below])) ?_;intro _ _;simp-implicitDefEqProofs[];exact hst
 ·cases h0
 rw[Wj];refine AC.go gG ?_;simp-implicitDefEqProofs[dS];refine am (λa:FilS=>aj 34 [(0,.sl id 3 0 l.length),(1,.p (.int .i64 ((k+szL Cd.q (l.take a.i):Nat):Int))),(5,.p (.int .i64 a.i))]) (λa=>a.h) (MkI h id 3 ((mkL Cd.q Cd.mkd k l).map Cd.cs) (l.map Cd.cs) J) (λa=>l.length-a.i) ⟨0,h⟩ (MkI.init hr) ?_ ?_
 ·exact aa (Wo _) (by simp[below,szL,hr.lt])
 rintro⟨i,hh⟩ hI;simp-implicitDefEqProofs[];refine aA (λh1=>?_) (λh1=>?_)
 ·simp at h1;have hg:=Wc h1;have hP:=im (q:=Cd.q) h1;have hM:=bA (f:=Cd.q) (Wm h1);have hT:=lf (q:=Cd.q) l (i+1);generalize l[i]=e at hg hP hM;have hD:(l.map Cd.cs)[i]?=some e.cs:=by rw[Wl,hg];rfl
  have hA:((mkL Cd.q Cd.mkd k l).map Cd.cs)[i]?=some (Cd.mkd (k+szL Cd.q (l.take i)) e).cs:=by rw[Wl,nr l k i e hg];rfl
  obtain⟨rows',r,Ji,s1,s2,s3,s4,s5,s6,s7⟩:=hI.step hD hA;obtain⟨V0,rfl,o0⟩:=Ef s3;obtain⟨c0a,c0b⟩:=dU o0;have q1:∀x,(hh.set id x)[id]?=some x:=λx=>Wh s5;have q2:∀x,(rows'.set i x)[i]?=some x:=λx=>Wh s6;have q3:∀x,i<(rows'.set i x).length:=λx=>by rw[Wy];exact s6
  have s1e:=λhh=>ag s1 hh;have s2e:=λhh=>ag s2 hh;have q1e:=λx hh=>ag (q1 x) hh;have q2e:=λx hh=>ag (q2 x) hh;rw[WR] at s4;obtain⟨hnid,nI⟩:=s4;have x0:=hnid;have n0:=nI;have hqe:Cd.q e=1+1+szL Bk.q e.blocks:=rfl;generalize hkk:k+szL Cd.q (l.take i)=m0 at*
  have hkI:(k:Int)+(szL Cd.q (l.take i):Int)=(m0:Int):=by omega
  obtain⟨m1,hm1⟩:∃m,m=m0+1:=⟨_,rfl⟩;have w0w:IntKind.i64.wrap ((m0:Int)+1)=(m1:Int):=by rw[al (by omega) (by omega)];omega
  obtain⟨m2,hm2⟩:∃m,m=m1+1:=⟨_,rfl⟩;have w1w:IntKind.i64.wrap ((m1:Int)+1)=(m2:Int):=by rw[al (by omega) (by omega)];omega
  obtain⟨m3,hm3⟩:∃m,m=m2+szL Bk.q e.blocks:=⟨_,rfl⟩
  have hmk:Cd.mkd m0 e=⟨(m0:Int),(m1:Int),mkL Bk.q Bk.mkd (m2) e.blocks⟩:=by rw[hm2,hm1];rfl
  have mS0:=λh1 ho=>EE G e.blocks h1 V0 Ji m2 ho n0 (by omega) (by have:=bv (f:=Bk.q) (λx=>by unfold Bk.q;omega) e.blocks;omega);simp only[←hm3] at mS0;simp-implicitDefEqProofs[-AV.cells,-AV.isCell,kR,aO,c0b,s1,s2,q1,q2,hkI,h1,Yf,w0w,w1w];refine(mS0 _ (o0.set_out x0 _)).mono ?_;rintro r h10 ⟨rfl,p0,f0,l0⟩;rw[Wy] at f0 l0;have hid0:id<hh.length:=by omega
  have g0:h10[id]?=some (.row 3 (rows'.set i [.p (.int .i64 (m0:Int)),.p (.int .i64 (m1:Int)),V0])):=by rw[f0 id hid0 x0];exact Wh hid0
  have q1_0:∀x,(h10.set id x)[id]?=some x:=λx=>Wh (by omega);have q1e_0:=λx hh=>ag (q1_0 x) hh;have g0e:=λhh=>ag g0 hh;simp-implicitDefEqProofs[-AV.cells,-AV.isCell];have hwi:=w1 (i:=i) (by omega)
  have hgo:=s7 h10 [.p (.int .i64 (m0:Int)),.p (.int .i64 (m1:Int)),V0] (g0) (λj hj hn hm=>by rw[f0 j (by omega) hm,Wd (λe=>hn e.symm)]) (by rw[hmk];exact JG (c:=⟨(m0:Int),(m1:Int),mkL Bk.q Bk.mkd m2 e.blocks⟩) p0) rfl (by omega)
  refine⟨⟨i+1,_⟩,hgo,by simp only;omega,aa hgo.2.2.2 ?_⟩;simp[below,hwi];omega
 ·simp at h1;have hie:i=l.length:=by have:=hI.1;simp at this;omega
  obtain⟨⟨rows2,d1⟩,d2,d3⟩:=hI.done (by simpa using h1) (by simp[dL]);subst hie;rw[Xm];simp-implicitDefEqProofs[];refine⟨by simp,?_,d2,d3⟩;have:=d1.tree (n:=l.length) (by simp[dL]);exact this
theorem HO(l:List Ph)(k:Nat)(hk:k+szL Ph.q l<=1152921504606846976)(hlen:l.length<=1152921504606846976):VF Tryz.prog G iS [.p (phL (mkL Ph.q Ph.mkd k l)),.p (.int .i64 k)] (.p (.int .i64 ((k+szL Ph.q l:Nat):Int))):=by
 have hxl:∀l,phL l= .lst 2 (l.map Ph.cs):=λ_=>rfl;have hln:=dL (q:=Ph.q) (mk:=Ph.mkd) l k;refine AC.go zS ?_;simp-implicitDefEqProofs[nV];refine am (λi:Nat=>aj 31 [(0,.p (phL (mkL Ph.q Ph.mkd k l))),(1,.p (.int .i64 ((k+szL Ph.q (l.take i):Nat):Int))),(5,.p (.int .i64 i))]) (λ_=>[]) (λi=>i<=l.length) (λi=>l.length-i) 0 (by simp) ?_ ?_
 ·exact aE rfl (by simp[below,hxl,szL])
 intro i hi;simp-implicitDefEqProofs[hxl,hln];refine aA (λh1=>?_) (λh1=>?_)
 ·simp at h1;have hg0:=Wc h1;have hP:=im (q:=Ph.q) h1;have hM:=bA (f:=Ph.q) (Wm h1);have hT:=lf (q:=Ph.q) l (i+1);generalize l[i]=e at hg0 hP hM;have hg:(mkL Ph.q Ph.mkd k l)[i]?=some (Ph.mkd (k+szL Ph.q (l.take i)) e):=nr l k i e hg0;clear hln;have hqe:Ph.q e=1+e.args.length:=rfl;generalize hkk:k+szL Ph.q (l.take i)=m0 at*
  have hkI:(k:Int)+(szL Ph.q (l.take i):Int)=(m0:Int):=by omega
  obtain⟨m1,hm1⟩:∃m,m=m0+1:=⟨_,rfl⟩;have w0w:IntKind.i64.wrap ((m0:Int)+1)=(m1:Int):=by rw[al (by omega) (by omega)];omega
  obtain⟨m2,hm2⟩:∃m,m=m1+e.args.length:=⟨_,rfl⟩;have z1z:¬(m2:Int)<0:=by omega
  have hmk:Ph.mkd m0 e=⟨(m0:Int),dK (m1) e.args.length⟩:=by rw[hm1];rfl
  have hcs:(Ph.mkd m0 e).cs=[.int .i64 (m0:Int),ah (dK (m1) e.args.length)]:=by rw[hmk];rfl
  have c1:=sS G m1 e.args.length (by omega);rw[←hm2] at c1;simp-implicitDefEqProofs[hg,hcs,hkI,w0w];refine c1.use ?_;simp-implicitDefEqProofs[z1z];refine⟨i+1,h1,by omega,aE rfl ?_⟩;simp[below,w1 (i:=i) (by omega)];omega
 ·simp at h1;have hie:i=l.length:=by omega
  subst hie;rw[Xm];simp-implicitDefEqProofs[]
theorem Hy(l:List Ii)(k:Nat)(hk:k+szL Ii.q l<=1152921504606846976)(hlen:l.length<=1152921504606846976):VF Tryz.prog G iT [.p (inL (mkL Ii.q Ii.mkd k l)),.p (.int .i64 k)] (.p (.int .i64 ((k+szL Ii.q l:Nat):Int))):=by
 have hxl:∀l,inL l= .lst 4 (l.map Ii.cs):=λ_=>rfl;have hln:=dL (q:=Ii.q) (mk:=Ii.mkd) l k;refine AC.go zX ?_;simp-implicitDefEqProofs[nN];refine am (λi:Nat=>aj 49 [(0,.p (inL (mkL Ii.q Ii.mkd k l))),(1,.p (.int .i64 ((k+szL Ii.q (l.take i):Nat):Int))),(5,.p (.int .i64 i))]) (λ_=>[]) (λi=>i<=l.length) (λi=>l.length-i) 0 (by simp) ?_ ?_
 ·exact aE rfl (by simp[below,hxl,szL])
 intro i hi;simp-implicitDefEqProofs[hxl,hln];refine aA (λh1=>?_) (λh1=>?_)
 ·simp at h1;have hg0:=Wc h1;have hP:=im (q:=Ii.q) h1;have hM:=bA (f:=Ii.q) (Wm h1);have hT:=lf (q:=Ii.q) l (i+1);generalize l[i]=e at hg0 hP hM;have hg:(mkL Ii.q Ii.mkd k l)[i]?=some (Ii.mkd (k+szL Ii.q (l.take i)) e):=nr l k i e hg0;clear hln;have hqe:Ii.q e=1+1+e.args.length+1:=rfl;generalize hkk:k+szL Ii.q (l.take i)=m0 at*
  have hkI:(k:Int)+(szL Ii.q (l.take i):Int)=(m0:Int):=by omega
  obtain⟨m1,hm1⟩:∃m,m=m0+1:=⟨_,rfl⟩;have w0w:IntKind.i64.wrap ((m0:Int)+1)=(m1:Int):=by rw[al (by omega) (by omega)];omega
  obtain⟨m2,hm2⟩:∃m,m=m1+1:=⟨_,rfl⟩;have w1w:IntKind.i64.wrap ((m1:Int)+1)=(m2:Int):=by rw[al (by omega) (by omega)];omega
  obtain⟨m3,hm3⟩:∃m,m=m2+e.args.length:=⟨_,rfl⟩;have z2z:¬(m3:Int)<0:=by omega
  obtain⟨m4,hm4⟩:∃m,m=m3+1:=⟨_,rfl⟩;have w3w:IntKind.i64.wrap ((m3:Int)+1)=(m4:Int):=by rw[al (by omega) (by omega)];omega
  have hmk:Ii.mkd m0 e=⟨(m0:Int),(m1:Int),dK (m2) e.args.length,(m3:Int)⟩:=by rw[hm3,hm2,hm1];rfl
  have hcs:(Ii.mkd m0 e).cs=[.int .i64 (m0:Int),.int .i64 (m1:Int),ah (dK (m2) e.args.length),.int .i64 (m3:Int)]:=by rw[hmk];rfl
  have c2:=sS G m2 e.args.length (by omega);rw[←hm3] at c2;simp-implicitDefEqProofs[hg,hcs,hkI,w0w,w1w];refine c2.use ?_;simp-implicitDefEqProofs[hg,hcs,z2z,w3w];refine⟨i+1,h1,by omega,aE rfl ?_⟩;simp[below,w1 (i:=i) (by omega)];omega
 ·simp at h1;have hie:i=l.length:=by omega
  subst hie;rw[Xm];simp-implicitDefEqProofs[]
theorem Es(l:List Bk)(k:Nat)(hk:k+szL Bk.q l<=1152921504606846976)(hlen:l.length<=1152921504606846976):VF Tryz.prog G fM [.p (bkL (mkL Bk.q Bk.mkd k l)),.p (.int .i64 k)] (.p (.int .i64 ((k+szL Bk.q l:Nat):Int))):=by
 have hxl:∀l,bkL l= .lst 5 (l.map Bk.cs):=λ_=>rfl;have hln:=dL (q:=Bk.q) (mk:=Bk.mkd) l k;refine AC.go tw ?_;simp-implicitDefEqProofs[lg];refine am (λi:Nat=>aj 58 [(0,.p (bkL (mkL Bk.q Bk.mkd k l))),(1,.p (.int .i64 ((k+szL Bk.q (l.take i):Nat):Int))),(5,.p (.int .i64 i))]) (λ_=>[]) (λi=>i<=l.length) (λi=>l.length-i) 0 (by simp) ?_ ?_
 ·exact aE rfl (by simp[below,hxl,szL])
 intro i hi;simp-implicitDefEqProofs[hxl,hln];refine aA (λh1=>?_) (λh1=>?_)
 ·simp at h1;have hg0:=Wc h1;have hP:=im (q:=Bk.q) h1;have hM:=bA (f:=Bk.q) (Wm h1);have hT:=lf (q:=Bk.q) l (i+1);generalize l[i]=e at hg0 hP hM;have hg:(mkL Bk.q Bk.mkd k l)[i]?=some (Bk.mkd (k+szL Bk.q (l.take i)) e):=nr l k i e hg0;clear hln;have hqe:Bk.q e=szL Ph.q e.phis+szL Ii.q e.ins+1+1+e.next.length:=rfl;generalize hkk:k+szL Bk.q (l.take i)=m0 at*
  have hkI:(k:Int)+(szL Bk.q (l.take i):Int)=(m0:Int):=by omega
  obtain⟨m1,hm1⟩:∃m,m=m0+szL Ph.q e.phis:=⟨_,rfl⟩;have z0z:¬(m1:Int)<0:=by omega
  obtain⟨m2,hm2⟩:∃m,m=m1+szL Ii.q e.ins:=⟨_,rfl⟩;have z1z:¬(m2:Int)<0:=by omega
  obtain⟨m3,hm3⟩:∃m,m=m2+1:=⟨_,rfl⟩;have w2w:IntKind.i64.wrap ((m2:Int)+1)=(m3:Int):=by rw[al (by omega) (by omega)];omega
  obtain⟨m4,hm4⟩:∃m,m=m3+1:=⟨_,rfl⟩;have w3w:IntKind.i64.wrap ((m3:Int)+1)=(m4:Int):=by rw[al (by omega) (by omega)];omega
  obtain⟨m5,hm5⟩:∃m,m=m4+e.next.length:=⟨_,rfl⟩;have z4z:¬(m5:Int)<0:=by omega
  have hmk:Bk.mkd m0 e=⟨mkL Ph.q Ph.mkd (m0) e.phis,mkL Ii.q Ii.mkd (m1) e.ins,(m2:Int),(m3:Int),dK (m4) e.next.length⟩:=by rw[hm4,hm3,hm2,hm1];rfl
  have hcs:(Bk.mkd m0 e).cs=[phL (mkL Ph.q Ph.mkd (m0) e.phis),inL (mkL Ii.q Ii.mkd (m1) e.ins),.int .i64 (m2:Int),.int .i64 (m3:Int),ah (dK (m4) e.next.length)]:=by rw[hmk];rfl
  have c0:=HO G e.phis m0 (by omega) (by have:=bv (f:=Ph.q) (λx=>by unfold Ph.q;omega) e.phis;omega);rw[←hm1] at c0;have c1:=Hy G e.ins m1 (by omega) (by have:=bv (f:=Ii.q) (λx=>by unfold Ii.q;omega) e.ins;omega);rw[←hm2] at c1;have c4:=sS G m4 e.next.length (by omega);rw[←hm5] at c4;simp-implicitDefEqProofs[hg,hcs,hkI];refine c0.use ?_;simp-implicitDefEqProofs[hg,hcs,z0z];refine c1.use ?_;simp-implicitDefEqProofs[hg,hcs,z1z,w2w,w3w];refine c4.use ?_;simp-implicitDefEqProofs[z4z];refine⟨i+1,h1,by omega,aE rfl ?_⟩;simp[below,w1 (i:=i) (by omega)];omega
 ·simp at h1;have hie:i=l.length:=by omega
  subst hie;rw[Xm];simp-implicitDefEqProofs[]
theorem Gp(l:List Cd)(k:Nat)(hk:k+szL Cd.q l<=1152921504606846976)(hlen:l.length<=1152921504606846976):VF Tryz.prog G gL [.p (cdL (mkL Cd.q Cd.mkd k l)),.p (.int .i64 k)] (.p (.int .i64 ((k+szL Cd.q l:Nat):Int))):=by
 have hxl:∀l,cdL l= .lst 3 (l.map Cd.cs):=λ_=>rfl;have hln:=dL (q:=Cd.q) (mk:=Cd.mkd) l k;refine AC.go uU ?_;simp-implicitDefEqProofs[mO];refine am (λi:Nat=>aj 40 [(0,.p (cdL (mkL Cd.q Cd.mkd k l))),(1,.p (.int .i64 ((k+szL Cd.q (l.take i):Nat):Int))),(5,.p (.int .i64 i))]) (λ_=>[]) (λi=>i<=l.length) (λi=>l.length-i) 0 (by simp) ?_ ?_
 ·exact aE rfl (by simp[below,hxl,szL])
 intro i hi;simp-implicitDefEqProofs[hxl,hln];refine aA (λh1=>?_) (λh1=>?_)
 ·simp at h1;have hg0:=Wc h1;have hP:=im (q:=Cd.q) h1;have hM:=bA (f:=Cd.q) (Wm h1);have hT:=lf (q:=Cd.q) l (i+1);generalize l[i]=e at hg0 hP hM;have hg:(mkL Cd.q Cd.mkd k l)[i]?=some (Cd.mkd (k+szL Cd.q (l.take i)) e):=nr l k i e hg0;clear hln;have hqe:Cd.q e=1+1+szL Bk.q e.blocks:=rfl;generalize hkk:k+szL Cd.q (l.take i)=m0 at*
  have hkI:(k:Int)+(szL Cd.q (l.take i):Int)=(m0:Int):=by omega
  obtain⟨m1,hm1⟩:∃m,m=m0+1:=⟨_,rfl⟩;have w0w:IntKind.i64.wrap ((m0:Int)+1)=(m1:Int):=by rw[al (by omega) (by omega)];omega
  obtain⟨m2,hm2⟩:∃m,m=m1+1:=⟨_,rfl⟩;have w1w:IntKind.i64.wrap ((m1:Int)+1)=(m2:Int):=by rw[al (by omega) (by omega)];omega
  obtain⟨m3,hm3⟩:∃m,m=m2+szL Bk.q e.blocks:=⟨_,rfl⟩;have z2z:¬(m3:Int)<0:=by omega
  have hmk:Cd.mkd m0 e=⟨(m0:Int),(m1:Int),mkL Bk.q Bk.mkd (m2) e.blocks⟩:=by rw[hm2,hm1];rfl
  have hcs:(Cd.mkd m0 e).cs=[.int .i64 (m0:Int),.int .i64 (m1:Int),bkL (mkL Bk.q Bk.mkd (m2) e.blocks)]:=by rw[hmk];rfl
  have c2:=Es G e.blocks m2 (by omega) (by have:=bv (f:=Bk.q) (λx=>by unfold Bk.q;omega) e.blocks;omega);rw[←hm3] at c2;simp-implicitDefEqProofs[hg,hcs,hkI,w0w,w1w];refine c2.use ?_;simp-implicitDefEqProofs[z2z];refine⟨i+1,h1,by omega,aE rfl ?_⟩;simp[below,w1 (i:=i) (by omega)];omega
 ·simp at h1;have hie:i=l.length:=by omega
  subst hie;rw[Xm];simp-implicitDefEqProofs[]
theorem BA(u:List Cd)(h:List AO)(v:AV)(I:List Nat)(k:Nat)(ho:OwnL true h [v] [cdL u] I)(nd:I.Nodup)(hk:k+szL Cd.q u<=1152921504606846976):
 AC Tryz.prog G eK [.agg [v],.p (.int .i64 k)] h (Mkd h v I (cdL (mkL Cd.q Cd.mkd k u)) (.int .i64 ((k+szL Cd.q u:Nat):Int))):=by
 obtain⟨c1,c2⟩:=dU ho;have hm:=λh1 ho=>FQ G u h1 v I k ho nd hk (by have:=bv (f:=Cd.q) (λx=>by unfold Cd.q;omega) u;omega);refine AC.go zL ?_;simp-implicitDefEqProofs[nU,-AV.cells,-AV.isCell,az,c2];refine(hm _ (ho.more _)).mono ?_;rintro r h2 ⟨rfl,o2,f2,l2⟩;simp-implicitDefEqProofs[];rw[Wn] at f2 l2;exact⟨by simp,o2,λj hj hn=>(f2 j (by omega) hn).trans (Wb hj),by omega⟩
theorem IK(u:List Cd)(k:Nat)(hk:k+szL Cd.q u<=1152921504606846976):VF Tryz.prog G eJ [.agg [.p (cdL (mkL Cd.q Cd.mkd k u))],.p (.int .i64 k)] (.p (.int .i64 ((k+szL Cd.q u:Nat):Int))):=by
 have hm:=Gp G u k hk (by have:=bv (f:=Cd.q) (λx=>by unfold Cd.q;omega) u;omega);have hz:¬(k:Int)+(szL Cd.q u:Int)<0:=by omega
 refine AC.go zV ?_;simp-implicitDefEqProofs[nW];refine hm.use ?_;simp-implicitDefEqProofs[hz]
end
section
theorem CK:AK.whole lU=FK.ak lP:=rfl
variable (G:aw)
theorem Hr{h:List AO}{u:List Cd}{k p0 p1:Nat}{c:Cd}(hp0:h[p0]?=some (.row 1 [[.p (cdL u)]]))(hp1:h[p1]?=some (.row 1 [[.p (.int .i64 k)]]))(hk:u[k]?=some c)(h0:0<=c.regs)(h1:c.regs<=300)(hu:u.length<=1073741824)(x:Ii)(hl:x.args.length<=1073741824):AC Tryz.prog G iC [.agg (x.cs.map .p),.ptr p0 1 0 0,.ptr p1 1 0 0] h λr h'=>r= .ret (.p (.bool (!gm u k c.regs x)))/\h'=h:=by
 have hxs:=x.cs_eq2;have hm0:∀t,(h++t)[p0]?=some (.row 1 [[.p (cdL u)]]):=λt=>by rw[Wb (Wa.1 hp0).1];exact hp0
 have hm1:∀t,(h++t)[p1]?=some (.row 1 [[.p (.int .i64 k)]]):=λt=>by rw[Wb (Wa.1 hp1).1];exact hp1
 refine AC.trim (AC.go zQ ?_) (by simp[below]);have hI:=Rf G u k c hk h0 h1 hu x hl;rw[hxs] at hI⊢;simp[nQ,hm0,hm1];refine hI.use ?_;simp[]
theorem NN(u:List Cd)(k:Nat)(c:Cd)(hk:u[k]?=some c)(hu:rH 1073741824 u):VF Tryz.prog G lH [.agg [.p (cdL u)],.p (.int .i64 k)] (.p (.bool (cdB u k c))):=by
 have hcf:=hu.2 c (Wq hk);have hcs:=c.cs_eq2;have hul:cdL u= .lst 3 (u.map Cd.cs):=rfl;have hbl:bkL c.blocks= .lst 5 (c.blocks.map Bk.cs):=rfl;have hcl:=hcf.1;obtain⟨H0,hH0⟩:∃H0,H0=[AO.row 1 [[.p (.lst 3 (u.map Cd.cs))]],.row 1 [[.p (.int .i64 k)]],.row 3 [[.p (.int .i64 c.params),.p (.int .i64 c.regs),.p (.lst 5 (c.blocks.map Bk.cs))]]]:=⟨_,rfl⟩;have g2':H0[2]?=some (.row 3 [[.p (.int .i64 c.params),.p (.int .i64 c.regs),.p (.lst 5 (c.blocks.map Bk.cs))]]):=by rw[hH0];rfl
 have gl':H0.length=3:=by rw[hH0];rfl
 refine AC.goK CQ CK ?_;simp[lU,lP,hul,hk,hcs,hbl];rw[←hH0];refine dc (λ_:Unit=>aj 121 [(5,.ptr 2 3 0 0),(3,.ptr 1 1 0 0),(2,.ptr 0 1 0 0)]) (λ_=>H0) (λ_=>inR c.params 0 3=true/\inR c.regs c.params 300=true/\inR c.blocks.length 1 160=true) ?_ ?_
 ·simp[g2'];refine(cb G c.regs 0 300).use ?_;cases h1:inR c.regs 0 300 with
  |false=>
   have hf:cdB u k c=false:=by
    cases e1:inR c.params 0 3 with
    |false=>simp[cdB,e1]
    |true=>
     cases e2:inR c.regs c.params 300 with
     |false=>simp[cdB,e2]
     |true=>
      simp only[inR,Wr,Wx] at e1 e2;simp only[inR,Bool.and_eq_false_iff,decide_eq_false_iff_not] at h1;omega
   simp[hf]
  |true=>
  have hmn:(if c.regs<3 then c.regs else 3)=min 3 c.regs:=by split<;>omega
  simp[g2',hmn];refine(cb G c.params 0 (min 3 c.regs)).use ?_;cases h2:inR c.params 0 (min 3 c.regs) with
  |false=>
   have hf:cdB u k c=false:=by
    cases e1:inR c.params 0 3 with
    |false=>simp[cdB,e1]
    |true=>
     cases e2:inR c.regs c.params 300 with
     |false=>simp[cdB,e2]
     |true=>
      simp only[inR,Wr,Wx] at e1 e2;simp only[inR,Bool.and_eq_false_iff,decide_eq_false_iff_not] at h2;omega
   simp[hf]
  |true=>
  simp[g2'];refine(cb G c.blocks.length 1 160).use ?_;cases h3:inR c.blocks.length 1 160 with
  |false=>
   have hf:cdB u k c=false:=(by simp[cdB,h3]);simp[hf]
  |true=>
   simp only[inR,Wr,Wx] at h1 h2;have e1:inR c.params 0 3=true:=(by simp only[inR,Wr,Wx];omega);have e2:inR c.regs c.params 300=true:=(by simp only[inR,Wr,Wx];omega);simp[];exact⟨⟨e1,e2⟩,aa (by simp) (by simp[below,gl'])⟩
 rintro⟨⟩ ⟨h1,h2,h3⟩
 have hrg:0<=c.regs/\c.regs<=300:=by
  simp only[inR,Wr,Wx] at h1 h2;omega
 obtain⟨r0,r300⟩:=hrg;subst hH0;clear g2' gl';obtain⟨H0,hH0⟩:∃H0,H0=[AO.row 1 [[.p (.lst 3 (u.map Cd.cs))]],.row 1 [[.p (.int .i64 k)]],.row 3 [[.p (.int .i64 c.params),.p (.int .i64 c.regs),.p (.lst 5 (c.blocks.map Bk.cs))]],.row 1 [[.fn (.func bn) [.ptr 2 3 0 0]]]]:=⟨_,rfl⟩;have gl:H0.length=4:=by rw[hH0];rfl
 have ghb:∀o∈H0,okO 4 o:=by rw[hH0];simp[okO,below]
 have g0:∀t,(H0++t)[0]?=some (.row 1 [[.p (.lst 3 (u.map Cd.cs))]]):=λt=>by rw[hH0];rfl
 have g1:∀t,(H0++t)[1]?=some (.row 1 [[.p (.int .i64 k)]]):=λt=>by rw[hH0];rfl
 have g2:∀t,(H0++t)[2]?=some (.row 3 [[.p (.int .i64 c.params),.p (.int .i64 c.regs),.p (.lst 5 (c.blocks.map Bk.cs))]]):=λt=>by rw[hH0];rfl
 have g3:∀t,(H0++t)[3]?=some (.row 1 [[.fn (.func bn) [.ptr 2 3 0 0]]]):=λt=>by rw[hH0];rfl
 have g2n:=g2 [];have g3n:=g3 [];rw[WI] at g2n g3n;have hbad:∀(i:Nat) (x:Bk),c.blocks[i]?=some x->bkB u k c i x=false->cdB u k c=false:=λi x hx h=>by rw[cdB,dA hx h];simp
 simp[];rw[←hH0];refine am (λi:Nat=>aj 121 [(41,.p (.int .i64 i)),(40,.p (.int .i64 c.blocks.length)),(39,.p (.lst 5 (c.blocks.map Bk.cs))),(6,.ptr 3 1 0 0),(5,.ptr 2 3 0 0),(3,.ptr 1 1 0 0),(2,.ptr 0 1 0 0)]) (λ_=>H0) (λi=>i<=c.blocks.length/\∀(q:Nat) (x:Bk),q<i->c.blocks[q]?=some x->bkB u k c q x=true) (λi=>c.blocks.length-i) 0 ⟨We _,λq x h=>(by omega)⟩ (aa (by simp) (by simp[below,gl])) ?_;rintro i ⟨hi,hp⟩;simp[];refine aA (λhc=>?_) (λhc=>?_)
 ·simp at hc;have hg:=Wc hc;have hxf:=hcf.2 _ (Wm hc);generalize c.blocks[i]=x at hg hxf;have hxs:=x.cs_eq2;have hbd:=hbad i x hg;have hnl:ah x.next= .lst 1 (x.next.map λn=>[.int .i64 n]):=rfl;have hil:inL x.ins= .lst 4 (x.ins.map Ii.cs):=rfl;have hpl:phL x.phis= .lst 2 (x.phis.map Ph.cs):=rfl;obtain⟨H1,hH1⟩:∃H1,H1=H0++[AO.row 5 [[.p (phL x.phis),.p (inL x.ins),.p (.int .i64 x.jump),.p (.int .i64 x.on),.p (ah x.next)]]]:=⟨_,rfl⟩;have k0:H1[0]?=some (.row 1 [[.p (.lst 3 (u.map Cd.cs))]]):=by rw[hH1];exact g0 _
  have k1:H1[1]?=some (.row 1 [[.p (.int .i64 k)]]):=by rw[hH1];exact g1 _
  have k2:H1[2]?=some (.row 3 [[.p (.int .i64 c.params),.p (.int .i64 c.regs),.p (.lst 5 (c.blocks.map Bk.cs))]]):=by rw[hH1];exact g2 _
  have k3:H1[3]?=some (.row 1 [[.fn (.func bn) [.ptr 2 3 0 0]]]):=by rw[hH1];exact g3 _
  have k4:H1[4]?=some (.row 5 [[.p (phL x.phis),.p (inL x.ins),.p (.int .i64 x.jump),.p (.int .i64 x.on),.p (ah x.next)]]):=by rw[hH1,Wg (by omega),gl];rfl
  have kl:H1.length=5:=by rw[hH1];simp[gl]
  simp[hg,hxs,gl];rw[←hH1];have k4':=k4;rw[hnl] at k4';refine dc (λ_:Unit=>aj 121 [(8,.ptr 4 5 0 0),(7,.p (.int .i64 i)),(41,.p (.int .i64 i)),(40,.p (.int .i64 c.blocks.length)),(39,.p (.lst 5 (c.blocks.map Bk.cs))),(6,.ptr 3 1 0 0),(5,.ptr 2 3 0 0),(3,.ptr 1 1 0 0),(2,.ptr 0 1 0 0)]) (λ_=>H1) (λ_=>(decide ((x.next.length:Int)=nxN x.jump)&&(if onU x.jump then cE c.regs x.on else decide (x.on=0)))=true) ?_ ?_
  ·simp[k4'];refine(GD G x.jump).use ?_
   by_cases hlen:(x.next.length:Int)=nxN x.jump
   ·simp[hlen,k4'];refine(pU G x.jump).use ?_;cases hon:onU x.jump with
    |true=>
     simp[k4',k3];refine(sL G k2 r0 r300 x.on).mono ?_;rintro y h' ⟨rfl,rfl⟩;cases hr:cE c.regs x.on with
     |false=>
      have hf:=hbd (by simp[bkB,hon,hr]);simp[hf]
     |true=>
      simp[k4'];refine(pU G x.jump).use ?_;simp[hon];exact aa (by simp) (by simp[below,kl])
    |false=>
     simp[k4'];refine(pU G x.jump).use ?_
     by_cases ho:x.on=0
     ·simp[hon,k4',ho];exact aa (by simp) (by simp[below,kl])
     ·have hf:=hbd (by simp[bkB,hon,ho]);simp[hon,k4',ho,hf]
   ·have hf:=hbd (by simp[bkB,hlen]);simp[hlen,hf,k4']
  rintro⟨⟩ hc1;refine dc (λ_:Unit=>aj 121 [(8,.ptr 4 5 0 0),(7,.p (.int .i64 i)),(41,.p (.int .i64 i)),(40,.p (.int .i64 c.blocks.length)),(39,.p (.lst 5 (c.blocks.map Bk.cs))),(6,.ptr 3 1 0 0),(5,.ptr 2 3 0 0),(3,.ptr 1 1 0 0),(2,.ptr 0 1 0 0)]) (λ_=>H1) (λ_=>(x.next.all (λn=>inR n 1 ((c.blocks.length:Int)-1))&&x.ins.all (gm u k c.regs))=true) ?_ ?_
  ·simp[k4];refine(kJ G x.next (λn=> !inR n 1 ((c.blocks.length:Int)-1)) hxf.next (by simp[below,kl]) (λr _=>Jt G k2 hcl r)).mono ?_;rintro y h' ⟨rfl,rfl⟩;rw[re];cases ha:x.next.all (λn=>inR n 1 ((c.blocks.length:Int)-1)) with
   |false=>
    have hf:=hbd (by rw[bkB,ha];simp);simp[hf]
   |true=>
    simp[k4];refine(Jl G x.ins (λy=> !gm u k c.regs y) hxf.ins (by simp[below,kl]) (λy hy=>Hr G k0 k1 hk r0 r300 hu.1 y (hxf.ia y hy))).mono ?_;rintro y h' ⟨rfl,rfl⟩;rw[re];cases hb:x.ins.all (gm u k c.regs) with
    |false=>
     have hf:=hbd (by rw[bkB,hb];simp);simp[hf]
    |true=>
     simp[];exact⟨⟨Wu.1 ha,Wu.1 hb⟩,aa (by simp) (by simp[below,kl])⟩
  rintro⟨⟩ hc2;have hP:=rt G c i hcl (λy hy=>(hcf.2 y hy).next);have hpi:fD c i=ab c.blocks i:=by rw[fD,Wz];simp only[inR,Wr,Wx];omega
  rw[hcs,hbl,hpi] at hP;obtain⟨P,hPe⟩:∃P,P=ab c.blocks i:=⟨_,rfl⟩;have hPl:P.length<=1073741824:=by rw[hPe];exact Xw (aU _ _) hcl
  rw[←hPe] at hP;have hPL:ah P= .lst 1 (P.map λn=>[.int .i64 n]):=rfl;rw[hPL] at hP;refine dc (λ_:Unit=>aj 121 [(9,.p (.int .i64 P.length)),(8,.ptr 4 5 0 0),(7,.p (.int .i64 i)),(41,.p (.int .i64 i)),(40,.p (.int .i64 c.blocks.length)),(39,.p (.lst 5 (c.blocks.map Bk.cs))),(6,.ptr 3 1 0 0),(5,.ptr 2 3 0 0),(3,.ptr 1 1 0 0),(2,.ptr 0 1 0 0)]) (λ_=>H1) (λ_=>True) ?_ ?_
  ·simp[k2];refine hP.use ?_;simp[];exact aa (by simp) (by simp[below,kl])
  rintro⟨⟩ _;simp[k4,hpl];refine am (λj:Nat=>aj 121 [(93,.p (.int .i64 j)),(92,.p (.int .i64 x.phis.length)),(91,.p (.lst 2 (x.phis.map Ph.cs))),(9,.p (.int .i64 P.length)),(7,.p (.int .i64 i)),(41,.p (.int .i64 i)),(40,.p (.int .i64 c.blocks.length)),(39,.p (.lst 5 (c.blocks.map Bk.cs))),(6,.ptr 3 1 0 0),(5,.ptr 2 3 0 0),(3,.ptr 1 1 0 0),(2,.ptr 0 1 0 0)]) (λ_=>H0) (λj=>j<=x.phis.length/\∀n∈x.phis.take j,phB c.regs i P.length n=true) (λj=>x.phis.length-j) 0 (by simp) ?_ ?_
  ·rw[hH1];exact tJ (m:=4) (by omega) (oZ (by rw[←gl,ZP];rfl) gl ghb) (by simp[below])
  rintro j ⟨hj,hq⟩;simp[];refine aA (λhc3=>?_) (λhc3=>?_)
  ·simp at hc3;have hg3:=Wc hc3;have htk:=aq hc3;have hm:=Wm hc3;have hxn:=hxf.phis;have hargs:=hxf.pa _ hm;generalize x.phis[j]=n at hg3 htk hm hargs;have hns:=n.cs_eq2;have hna:ah n.args= .lst 1 (n.args.map λn=>[.int .i64 n]):=rfl
   have hbp:phB c.regs i P.length n=false->cdB u k c=false:=λh=>hbd (by rw[bkB,←hPe,fm hm (p:=phB c.regs i P.length) h];simp)
   obtain⟨H2,hH2⟩:∃H2,H2=H0++[AO.row 2 [[.p (.int .i64 n.to),.p (ah n.args)]]]:=⟨_,rfl⟩;have m2:H2[2]?=some (.row 3 [[.p (.int .i64 c.params),.p (.int .i64 c.regs),.p (.lst 5 (c.blocks.map Bk.cs))]]):=(by rw[hH2];exact g2 _);have m3:H2[3]?=some (.row 1 [[.fn (.func bn) [.ptr 2 3 0 0]]]):=(by rw[hH2];exact g3 _);have m4:H2[4]?=some (.row 2 [[.p (.int .i64 n.to),.p (ah n.args)]]):=(by rw[hH2,Wg (by omega),gl];rfl);have ml:H2.length=5:=(by rw[hH2];simp[gl]);simp[hg3,hns,gl];rw[←hH2]
   by_cases hb0:i=0
   ·subst hb0;have hf:=hbp (by simp[phB]);simp[hf]
   ·simp[hb0,m3,m4];refine(sL G m2 r0 r300 n.to).mono ?_;rintro y h' ⟨rfl,rfl⟩;cases hr:cE c.regs n.to with
    |false=>
     have hf:=hbp (by simp[phB,hr]);simp[hf]
    |true=>
     by_cases hl:n.args.length=P.length
     ·have hl':(n.args.length:Int)=(P.length:Int):=(by omega);simp[m4,hna,hl'];rw[←hna];refine(kJ G n.args (λr=> !cE c.regs r) hargs (by simp[below,ml]) (λr _=>HE G m2 m3 r0 r300 r)).mono ?_;rintro y h' ⟨rfl,rfl⟩;rw[re];cases ha:n.args.all (cE c.regs) with
      |false=>
       have hf:=hbp (by simp[phB,ha]);simp[hf]
      |true=>
       simp[];refine⟨j+1,⟨by omega,λy hy=>?_⟩,by omega,?_⟩
       ·rw[htk] at hy;rcases Ws.1 hy with hy|hy
        ·exact hq y hy
        ·rw[Wt.1 hy];simp only[phB,hb0,hl,ha,hr];rfl
       ·rw[hH2];exact tJ (m:=4) (by omega) (oZ (by rw[←gl,ZP];rfl) gl ghb) (by simp[below,w1 (i:=j) (by omega)])
     ·have hl':¬(n.args.length:Int)=(P.length:Int):=(by omega);have hf:=hbp (by simp[phB,hl]);simp[m4,hna,hl',hf]
  ·simp at hc3;rw[Wi hc3] at hq;simp[];refine⟨i+1,⟨by omega,λq y hqj hy=>?_⟩,by omega,aa (by simp) (by simp[below,gl,w1 (i:=i) (by omega)])⟩;rcases Xh q i with h|h
   ·exact hp q y h hy
   ·have:q=i:=(by omega);subst this;rw[hg] at hy;cases hy;have hc2':=Bool.and_eq_true_iff.1 hc2;rw[bkB,←hPe,hc1,hc2'.1,hc2'.2,Wu.2 hq];rfl
 ·simp at hc;have hie:i=c.blocks.length:=by omega
  subst hie;have ht:=MZ h1 h2 h3 (λq x hx=>hp q x (Wa.1 hx).1 hx);simp[ht]
theorem RM{M:Nat}{c:Cd}(h:en M c):cdN c<=c.blocks.length*(2*M):=by
 have:∀l:List Bk,(∀b∈l,BkFit M b)->(l.map bkN).sum<=l.length*(2*M):=by
  intro l
  induction l with
  |nil=>intro _;simp
  |cons b r ih=>
   intro hb;have h1:=ih λx hx=>hb x (by simp[hx]);have h2:=hb b (by simp);have h3:=h2.phis;have h4:=h2.ins;rw[WJ,XC,WC,Nat.succ_mul,bkN];omega
 exact this c.blocks h.2
theorem vP(u:List Cd)(hu:rH 1073741824 u):VF Tryz.prog G dJ [.agg [.p (cdL u)]] (.p (.bool (unB u))):=by
 have hul:cdL u= .lst 3 (u.map Cd.cs):=rfl;have hu1:=hu.1;refine AC.go uM ?_;simp[mK,hul];refine(cb G u.length 1 4).use ?_;cases hr:inR u.length 1 4 with
 |false=>
  have hf:unB u=false:=by simp[unB,hr]
  simp[hf]
 |true=>
 have hu4:u.length<=4:=by simp only[inR,Wr,Wx] at hr;omega
 simp[];refine am (λi:Nat=>aj 30 [(14,.p (.int .i64 i)),(13,.p (.int .i64 u.length)),(12,.p (.lst 3 (u.map Cd.cs))),(3,.p (.int .i64 (unN (u.take i)))),(1,.ptr 0 1 0 0)]) (λ_=>[.row 1 [[.p (.lst 3 (u.map Cd.cs))]]]) (λi=>i<=u.length/\(∀(j:Nat) (c:Cd),j<i->u[j]?=some c->cdB u j c=true)/\unN (u.take i)<=i*(160*2147483648)) (λi=>u.length-i) 0 ⟨We _,λj c h=>(by omega),We _⟩ (aa (by simp) (by simp[below,show unN ([]:List Cd)=0 from rfl])) ?_;rintro i ⟨hi,hp,hn⟩;simp[];refine aA (λhc=>?_) (λhc=>?_)
 ·simp at hc;have hg:=Wc hc;have htn:=mb cdN hg;have hcf:=hu.2 _ (Wm hc);generalize u[i]=c at hg htn hcf;have hcs:=c.cs_eq2;have hC:=NN G u i c hg hu;rw[hul] at hC;have hbad:cdB u i c=false->unB u=false:=λh=>by rw[unB,dA hg h];simp
  obtain⟨N,hN⟩:∃N,N=unN (u.take i):=⟨_,rfl⟩;rw[←hN] at hn⊢;simp[hg,hcs];refine hC.use ?_;cases hb:cdB u i c with
  |false=>
   have hf:=hbad hb;simp[hf]
  |true=>
   have hbl:c.blocks.length<=160:=by
    simp only[cdB,Wr] at hb;have:=hb.1.2;simp only[inR,Wr,Wx] at this;omega
   have hcl:cdN c<=160*2147483648:=Xw (RM hcf) (Nat.mul_le_mul hbl (by omega));have hK:=Hd G c 1073741824 (Wo _) hcf (by omega);rw[hcs] at hK;have htn2:unN (u.take (i+1))=N+cdN c:=(by rw[hN];exact htn);have hw2:IntKind.i64.wrap ((N:Int)+(cdN c:Int))=(unN (u.take (i+1)):Int):=(by rw[al (by omega) (by omega)];omega);simp[];refine hK.use ?_;simp[hw2];refine⟨i+1,⟨by omega,λq y hqj hy=>?_,by omega⟩,by omega,tJ (m:=1) (by omega) (oZ rfl rfl (by simp[okO,below])) (by simp[below,w1 (i:=i) (by omega)])⟩;rcases Xh q i with h|h
   ·exact hp q y h hy
   ·have:q=i:=(by omega);subst this;rw[hg] at hy;cases hy;exact hb
 ·simp at hc;have hie:i=u.length:=by omega
  subst hie;rw[Xm];have hal:=allI_iff.2 (λq c hq=>hp q c (Wa.1 hq).1 hq);have ht:unB u=decide (unN u<=800):=by rw[unB,hr,hal];rfl
  by_cases h8:unN u<=800
  ·have h8':(unN u:Int)<=800:=by omega
   simp[ht,h8,h8']
  ·have h8':¬(unN u:Int)<=800:=by omega
   simp[ht,h8,h8']
end
section
def prP(p:Int × Int):List PV:=[.int .i64 p.1,.int .i64 p.2]
theorem Pq{n:Nat}{X:List AO}(a b:Int):Own n X [.p (.int .i64 a),.p (.int .i64 b)] [.int .i64 a,.int .i64 b] []:=
 ⟨.p _ (λ_=>rfl) (.p _ (λ_=>rfl) .nil),by simp,(λj hj=>by cases hj),(λr hr=>by simp at hr;rcases hr with rfl|rfl<;>rfl),λj hj=>by cases hj⟩
structure PlS where (i:Nat) (X:List AO)
variable (G:aw)
theorem Az(x:Ii):VF Tryz.prog G ep [.agg (x.cs.map .p)] (.p (.int .i64 (mdB x))):=by
 have hxs:=x.cs_eq2;refine AC.go CN ?_;simp[sy,hxs];refine(At G x.op).use ?_;cases hs:aI x.op with
 |true=>simp[mdB,hs]
 |false=>simp[mdB,hs]
theorem Ir(c:Cd)(hc:CVal c)(hf:en 1073741824 c)(h8:cdN c<=800):VF Tryz.prog G bZ [.agg (c.cs.map .p)] (.p (ju 2 prP (stT c.regs.toNat (evC c.blocks)))):=by
 have hcs:=c.cs_eq2;have hbl:bkL c.blocks= .lst 5 (c.blocks.map Bk.cs):=rfl;have hp0:=hc.p0;have hpr:=hc.pr;have hr3:=hc.r3;obtain⟨n,hn⟩:∃n:Nat,c.regs=(n:Int):=⟨c.regs.toNat,by omega⟩;have hnt:c.regs.toNat=n:=by omega
 have hEl:=Ai c.blocks;have h8':(c.blocks.map bkN).sum<=800:=h8;rw[hnt];refine jw G ?_;refine AC.go zB ?_;simp[og,hcs,hbl,hn];refine⟨by omega,?_⟩;obtain⟨RC,hRC⟩:∃RC,RC=AO.row 3 [[.p (.int .i64 c.params),.p (.int .i64 n),.p (.lst 5 (c.blocks.map Bk.cs))]]:=⟨_,rfl⟩
 refine am (λa:PlS=>aj 70 [(17,.p (.int .i64 a.i)),(16,.p (.int .i64 c.blocks.length)),(15,.p (.lst 5 (c.blocks.map Bk.cs))),(3,.sl 1 1 0 n),(1,.ptr 0 3 0 0)]) (λa=>a.X)
  (λa=>a.i<=c.blocks.length/\a.X[0]?=some RC/\∃I,Own 1 a.X [.sl 1 1 0 n] [ju 2 prP (stT n (evC (c.blocks.take a.i)))] I) (λa=>c.blocks.length-a.i) ⟨0,[RC,.row 1 (List.replicate n [.nils])]⟩ ⟨We _,rfl,[1],by rw[Yc,show evC []=[] from rfl,Km];exact Fj (by rfl) (Wo _)⟩ (by rw[hRC];exact aa (We _) (by simp[below])) ?_
 rintro⟨i,X⟩ ⟨hi,g0,I,hV⟩;simp only at hi g0 hV;have g0c:=g0;rw[hRC] at g0c;have h0l:=(Wa.1 g0).1;simp[];refine aA (λhcc=>?_) (λhcc=>?_)
 ·have hcc:i<c.blocks.length:=by simpa using hcc
  have hgi:=Wc hcc;have hmi:=Wm hcc;generalize c.blocks[i]=x at hgi hmi;have hEt:=Gi hgi
  have hEl2:(evC (c.blocks.take i)).length+(evB i x).length<=800:=by
   have h1:=Ai (c.blocks.take (i+1));have h2:=dy bkN c.blocks (i+1);rw[hEt,Wn] at h1;omega
  generalize evC (c.blocks.take i)=E at hV hEt hEl2;have hxs:=x.cs_eq2;have hxf:=hf.2 x hmi;have hil:inL x.ins= .lst 4 (x.ins.map Ii.cs):=rfl;have hpl:phL x.phis= .lst 2 (x.phis.map Ph.cs):=rfl;have hwi:=w1 (i:=i) (by have:=hf.1;omega);simp[hgi,hxs,hpl];obtain⟨RX,hRX⟩:∃RX,RX=AO.row 5 [[.p (.lst 2 (x.phis.map Ph.cs)),.p (inL x.ins),.p (.int .i64 x.jump),.p (.int .i64 x.on),.p (ah x.next)]]:=⟨_,rfl⟩;have hV1:=hV.more [RX];have g1:(X++[RX])[0]?=some RC:=by rw[Wb h0l];exact g0
  have gq:(X++[RX])[X.length]?=some RX:=by simp
  have hqI:X.length∉I:=λhm=>by have:=hV.lt _ hm;omega
  have hVl:=Own.slLt hV;rw[←hRX];generalize X.length=q at gq hqI hVl⊢;generalize X++[RX]=X1 at hV1 g1 gq⊢;have hql:=(Wa.1 gq).1;clear hV g0 g0c h0l
  refine am (λa:PlS=>aj 70 [(25,.p (.int .i64 a.i)),(24,.p (.int .i64 x.phis.length)),(23,.p (.lst 2 (x.phis.map Ph.cs))),(17,.p (.int .i64 i)),(16,.p (.int .i64 c.blocks.length)),(15,.p (.lst 5 (c.blocks.map Bk.cs))),(5,.ptr q 5 0 0),(4,.p (.int .i64 i)),(3,.sl 1 1 0 n),(1,.ptr 0 3 0 0)]) (λa=>a.X)
   (λa=>a.i<=x.phis.length/\a.X[0]?=some RC/\a.X[q]?=some RX/\∃I,Own 1 a.X [.sl 1 1 0 n] [ju 2 prP (stT n (E++evP i (x.phis.take a.i)))] I/\q∉I) (λa=>x.phis.length-a.i) ⟨0,X1⟩ ⟨We _,g1,gq,I,by simpa[evP] using hV1,hqI⟩ (aa (We _) (by simp[below];omega)) ?_
  clear hV1 g1 gq hql hqI;rintro⟨j,X⟩ ⟨hj,g0,gq,I,hV,hqI⟩;simp only at hj g0 gq hV;have g0c:=g0;rw[hRC] at g0c;have gqc:=gq;rw[hRX] at gqc;have h0l:=(Wa.1 g0).1;have hql:=(Wa.1 gq).1;simp[];refine aA (λhc2=>?_) (λhc2=>?_)
  ·have hc2:j<x.phis.length:=by simpa using hc2
   have hgj:=Wc hc2;have hmj:=Wm hc2;generalize x.phis[j]=f at hgj hmj;have hfs:=f.cs_eq2;have hEp:=Fv (b:=i) hgj;obtain⟨_,_,hto0,hto1⟩:=hc.pa i x hgi f hmj;have hton:f.to.toNat<n:=(by omega);have hwj:=w1 (i:=j) (by have:=hxf.phis;omega)
   have hE0l:(E++evP i (x.phis.take j)).length<=800:=by
    have:(evP i (x.phis.take j)).length<=(evB i x).length:=by rw[evB,Wn,evP,evP,Wj,Wj,WD];omega
    rw[Wn];omega
   have hEp2:E++evP i (x.phis.take (j+1))=(E++evP i (x.phis.take j))++[(f.to,((i:Int),(-1:Int)))]:=(by rw[hEp,Wp]);generalize E++evP i (x.phis.take j)=E0 at hV hE0l hEp2;have hgt:=mZ (n:=n) (r:=f.to.toNat) hton E0;have hpu:=uz (n:=n) hto0 E0 (((i:Int),(-1:Int)));have hto:((f.to.toNat:Nat):Int)=f.to:=(by omega);rw[hto] at hgt;have hel:=Al E0 f.to;generalize hLs:evR E0 f.to=Ls at hgt hpu hel;have hLsl:(Ls.map prP).length=Ls.length:=(by simp);obtain⟨id,rows,A,e1,e2,e3,e4,e5,e6,e7,e8⟩:=Own.cellPsh hV (lc (sz:=2) (f:=prP) hgt);have hDl:((stT n E0).map λl=>[PV.lst 2 (l.map prP)]).length=n:=(by rw[Wj,ll]);rw[hDl] at e1 e3;cases e1;have h1l:=(Wa.1 e2).1;obtain⟨FO,hFO⟩:∃FO,FO=AO.row 2 [[.p (.int .i64 f.to),.p (ah f.args)]]:=⟨_,rfl⟩;have hOR:Own 1 (X++[FO]) [.p (.int .i64 i),.p (.int .i64 (-1))] (prP ((i:Int),-1)) []:=Pq _ _;have m1:∀t,(X++t)[1]?=some (.row 1 rows):=λt=>(by rw[Wb h1l];exact e2);have m1e:=λt hh=>ag (m1 t) hh;rcases e7 with rfl|⟨jd,rs,rfl,f2,f3,f4,f5⟩
   ·obtain⟨I',q1,q2,q3,q4⟩:=e8 _ _ (prP ((i:Int),-1)) _ _ _ hOR (λj hj=>by cases hj) rfl (.inl ⟨rfl,rfl,rfl⟩);have hset:=kZ (sz:=2) (f:=prP) (T:=stT n E0) f.to.toNat Ls (((i:Int),(-1:Int)));simp[hgj,hfs,m1,m1e,e4,hto0];have h0I:0∉I:=λhm=>(by have:=hV.ge 0 hm;omega);have g0':=q3 0 h0l h0I;have gq':=q3 q hql hqI;have hset2:(List.map (λl=>[PV.lst 2 (List.map prP l)]) (stT n E0)).set f.to.toNat [PV.lst 2 (List.map prP Ls++[prP ((i:Int),-1)])]=List.map (λl=>[PV.lst 2 (List.map prP l)]) (stT n (E0++[(f.to,((i:Int),(-1:Int)))])):=(by rw[hpu];exact hset);rw[hset2,hFO] at q1;rw[hFO] at g0' gq'
    have hqI':q∉I':=λhm=>by
     rcases q2 q hm with h|h
     ·exact hqI h
     ·omega
    simp only[Wp,Xt,Xj,Wn,WC,WL,WV] at q1 g0' gq';exact⟨by omega,⟨j+1,_⟩,⟨hc2,by simp only;rw[g0',g0],by simp only;rw[gq',gq],I',by simp only;rw[hEp2];exact q1,hqI'⟩,by simp only;omega,aa (We _) (by simp[below,hwj];omega)⟩
   ·have hjl:=(Wa.1 f2).1;obtain⟨I',q1,q2,q3,q4⟩:=e8 _ _ (prP ((i:Int),-1)) _ _ _ hOR (λj hj=>by cases hj) rfl (.inr ⟨jd,rs,Ls.length,by rw[hLsl],(by rw[Wb hjl];exact f2),by rw[f3,hLsl],rfl,rfl⟩);have hset:=kZ (sz:=2) (f:=prP) (T:=stT n E0) f.to.toNat Ls (((i:Int),(-1:Int)));have m7:∀t,(X++t)[jd]?=some (.row 2 rs):=λt=>(by rw[Wb hjl];exact f2);have m8:∀t t',((X++t).set jd .dead++t')[1]?=some (.row 1 rows):=λt t'=>(by rw[Wb (by simp;omega),Wd f4,Wb h1l];exact e2);have m8e:=λt t' hh=>ag (m8 t t') hh
    have hXl:∀o t,((X++[o]).set jd .dead++t)[X.length]?=some o:=λo t=>by rw[Wb (by simp),Wd (by omega),Wg (Wo _),Xd];rfl
    have hXle:=λo t hh=>ag (hXl o t) hh;rw[hLsl] at f3;have htk2:List.take Ls.length rs=rs:=Wi (by omega);simp[hgj,hfs,m1,e4,hto0,hLsl,m7,m8e,htk2,f3,hXl];have h0I:0∉I:=λhm=>(by have:=hV.ge 0 hm;omega);have g0':=q3 0 h0l h0I;have gq':=q3 q hql hqI;have hset2:(List.map (λl=>[PV.lst 2 (List.map prP l)]) (stT n E0)).set f.to.toNat [PV.lst 2 (List.map prP Ls++[prP ((i:Int),-1)])]=List.map (λl=>[PV.lst 2 (List.map prP l)]) (stT n (E0++[(f.to,((i:Int),(-1:Int)))])):=(by rw[hpu];exact hset);rw[hset2,hFO] at q1;rw[hFO] at g0' gq'
    have hqI':q∉I':=λhm=>by
     rcases q2 q hm with h|h
     ·exact hqI h
     ·omega
    simp only[Wn,WC,WL,WV] at q1 g0' gq';exact⟨by omega,by omega,by omega,⟨j+1,_⟩,⟨hc2,by simp only;rw[g0',g0],by simp only;rw[gq',gq],I',by simp only;rw[hEp2];exact q1,hqI'⟩,by simp only;omega,aa (We _) (by simp[below,hwj];omega)⟩
  ·have hc2:x.phis.length<=j:=by simpa using hc2
   rw[Wi hc2] at hV;simp[gqc,hil];have hEB:E++evB i x=(E++evP i x.phis)++evI i x.ins:=by rw[evB,Wp]
   have hEl3:(E++evP i x.phis).length+(evI i x.ins).length<=800:=by rw[evB,Wn] at hEl2;rw[Wn];omega
   rw[hEB] at hEt;generalize E++evP i x.phis=E at hV hEt hEl3;have hVl2:=Own.slLt hV
   refine am (λa:PlS=>aj 70 [(46,.p (.int .i64 a.i)),(45,.p (.int .i64 x.ins.length)),(44,.p (.lst 4 (x.ins.map Ii.cs))),(17,.p (.int .i64 i)),(16,.p (.int .i64 c.blocks.length)),(15,.p (.lst 5 (c.blocks.map Bk.cs))),(4,.p (.int .i64 i)),(3,.sl 1 1 0 n),(1,.ptr 0 3 0 0)]) (λa=>a.X)
    (λa=>a.i<=x.ins.length/\a.X[0]?=some RC/\∃I,Own 1 a.X [.sl 1 1 0 n] [ju 2 prP (stT n (E++evI i (x.ins.take a.i)))] I) (λa=>x.ins.length-a.i) ⟨0,X⟩ ⟨We _,g0,I,by simpa[evI] using hV⟩ (aa (We _) (by simp[below];omega)) ?_
   clear g0 g0c h0l hV hVl gq gqc hql hVl2;rintro⟨j,X⟩ ⟨hj,g0,I,hV⟩;simp only at hj g0 hV;have g0c:=g0;rw[hRC] at g0c;have h0l:=(Wa.1 g0).1;have hVl:=Own.slLt hV;simp[];refine aA (λhc2=>?_) (λhc2=>?_)
   ·have hc2:j<x.ins.length:=(by simpa using hc2);have hgj:=Wc hc2;have hmj:=Wm hc2;generalize x.ins[j]=y at hgj hmj;have hys:=y.cs_eq2;have hEp:=Gj (b:=i) hgj;have hia:=hc.ia i x hgi y hmj;have hwj:=w1 (i:=j) (by have:=hxf.ins;omega)
    have hE0l:(E++evI i (x.ins.take j)).length<=800:=by
     have h1:(evI i (x.ins.take j)).length<=(evI i x.ins).length:=by
      have:x.ins=x.ins.take j++x.ins.drop j:=(XH j x.ins).symm
      have h2:(x.ins.take j).zipIdx.filter (λy=>aI y.1.op)<+:x.ins.zipIdx.filter (λy=>aI y.1.op):=by
       conv=>rhs;rw[this,YZ,Yl]
       exact List.prefix_append _ _
      rw[evI,evI,Wj,Wj];exact h2.length_le
     rw[Wn];omega
    have hEp2:E++evI i (x.ins.take (j+1))=(E++evI i (x.ins.take j))++if aI y.op=true then[(y.to,((i:Int),(j:Int)))] else[]:=by rw[hEp,Wp]
    generalize E++evI i (x.ins.take j)=E0 at hV hE0l hEp2;have hM:=Az G y;rw[hys] at hM;simp[hgj,hys];refine hM.use ?_;obtain⟨YO,hYO⟩:∃YO,YO=AO.row 4 [[.p (.int .i64 y.op),.p (.int .i64 y.to),.p (ah y.args),.p (.int .i64 y.n)]]:=⟨_,rfl⟩;cases hs:aI y.op with
    |false=>
     have hmd:mdB y= -1:=(by rw[mdB,hs];rfl);rw[hs] at hEp2;simp only[Ye,if_false,WI] at hEp2;simp[hmd];exact⟨⟨j+1,_⟩,⟨hc2,by simp only;rw[Wb h0l];exact g0,I,by simp only;rw[hEp2];exact hV.more _⟩,by simp only;omega,aa (We _) (by simp[below,hwj];omega)⟩
    |true=>
     have hmd:mdB y=y.to:=(by rw[mdB,hs];rfl);rw[hs] at hEp2;simp only[if_true] at hEp2;obtain⟨hto0,hto1⟩:=hia.2.2.2.1 hs;have hton:y.to.toNat<n:=(by omega);rw[hmd];simp[hto0];have hgt:=mZ (n:=n) (r:=y.to.toNat) hton E0;have hpu:=uz (n:=n) hto0 E0 (((i:Int),((j:Int):Int)));have hto:((y.to.toNat:Nat):Int)=y.to:=(by omega);rw[hto] at hgt;have hel:=Al E0 y.to;generalize hLs:evR E0 y.to=Ls at hgt hpu hel;have hLsl:(Ls.map prP).length=Ls.length:=(by simp);obtain⟨id,rows,A,e1,e2,e3,e4,e5,e6,e7,e8⟩:=Own.cellPsh hV (lc (sz:=2) (f:=prP) hgt);have hDl:((stT n E0).map λl=>[PV.lst 2 (l.map prP)]).length=n:=(by rw[Wj,ll]);rw[hDl] at e1 e3;cases e1;have h1l:=(Wa.1 e2).1;obtain⟨PO,hPO⟩:∃PO,PO=AO.row 2 [[.p (.int .i64 i),.p (.int .i64 j)]]:=⟨_,rfl⟩;have hOR:Own 1 (X++[YO,PO]) [.p (.int .i64 i),.p (.int .i64 j)] (prP ((i:Int),(j:Int))) []:=Pq _ _;have m1:∀t,(X++t)[1]?=some (.row 1 rows):=λt=>(by rw[Wb h1l];exact e2);have m1e:=λt hh=>ag (m1 t) hh;rcases e7 with rfl|⟨jd,rs,rfl,f2,f3,f4,f5⟩
     ·obtain⟨I',q1,q2,q3,q4⟩:=e8 _ _ (prP ((i:Int),(j:Int))) _ _ _ hOR (λj hj=>by cases hj) rfl (.inl ⟨rfl,rfl,rfl⟩);have hset:=kZ (sz:=2) (f:=prP) (T:=stT n E0) y.to.toNat Ls (((i:Int),((j:Int):Int)));simp[m1,m1e,e4,hto0];have h0I:0∉I:=λhm=>(by have:=hV.ge 0 hm;omega);have g0':=q3 0 h0l h0I;have hset2:(List.map (λl=>[PV.lst 2 (List.map prP l)]) (stT n E0)).set y.to.toNat [PV.lst 2 (List.map prP Ls++[prP ((i:Int),(j:Int))])]=List.map (λl=>[PV.lst 2 (List.map prP l)]) (stT n (E0++[(y.to,((i:Int),(j:Int)))])):=(by rw[hpu];exact hset);rw[hset2,hYO,hPO] at q1;rw[hYO,hPO] at g0';simp only[Wp,Xt,Xj,Wn,WC,WL,WV] at q1 g0';exact⟨by omega,⟨j+1,_⟩,⟨hc2,by simp only;rw[g0',g0],I',by simp only;rw[hEp2];exact q1⟩,by simp only;omega,aa (We _) (by simp[below,hwj])⟩
     ·have hjl:=(Wa.1 f2).1;obtain⟨I',q1,q2,q3,q4⟩:=e8 _ _ (prP ((i:Int),(j:Int))) _ _ _ hOR (λj hj=>by cases hj) rfl (.inr ⟨jd,rs,Ls.length,by rw[hLsl],(by rw[Wb hjl];exact f2),by rw[f3,hLsl],rfl,rfl⟩);have hset:=kZ (sz:=2) (f:=prP) (T:=stT n E0) y.to.toNat Ls (((i:Int),((j:Int):Int)));have m7:∀t,(X++t)[jd]?=some (.row 2 rs):=λt=>(by rw[Wb hjl];exact f2);have m8:∀t t',((X++t).set jd .dead++t')[1]?=some (.row 1 rows):=λt t'=>(by rw[Wb (by simp;omega),Wd f4,Wb h1l];exact e2);have m8e:=λt t' hh=>ag (m8 t t') hh;rw[hLsl] at f3;have htk2:List.take Ls.length rs=rs:=Wi (by omega);simp[m1,e4,hto0,hLsl,m7,m8e,htk2,f3];have h0I:0∉I:=λhm=>(by have:=hV.ge 0 hm;omega);have g0':=q3 0 h0l h0I;have hset2:(List.map (λl=>[PV.lst 2 (List.map prP l)]) (stT n E0)).set y.to.toNat [PV.lst 2 (List.map prP Ls++[prP ((i:Int),(j:Int))])]=List.map (λl=>[PV.lst 2 (List.map prP l)]) (stT n (E0++[(y.to,((i:Int),(j:Int)))])):=(by rw[hpu];exact hset);rw[hset2,hYO,hPO] at q1;rw[hYO,hPO] at g0';rw[Zq _ _ (by simp)] at q1 g0';simp only[Wn,WC,WL,WV] at q1 g0';exact⟨by omega,by omega,by omega,⟨j+1,_⟩,⟨hc2,by simp only;rw[g0',g0],I',by simp only;rw[hEp2];exact q1⟩,by simp only;omega,aa (We _) (by simp[below,hwj])⟩
   ·have hc2:x.ins.length<=j:=(by simpa using hc2);rw[Wi hc2] at hV;simp[];exact⟨⟨i+1,X⟩,⟨hcc,g0,I,by simp only;rw[hEt];exact hV⟩,by simp only;omega,aa (We _) (by simp[below,hwi];omega)⟩
 ·have hcc:c.blocks.length<=i:=by simpa using hcc
  rw[Wi hcc] at hV;simp[];exact hV.view
end
section
theorem BC{u:List Cd}(h:unB u=true){k:Nat}{c:Cd}(hk:u[k]?=some c):CdA c:=by
 obtain⟨h1,h2⟩:=Rj h hk;refine⟨h1,h2,λx hx y hy=>?_⟩;obtain⟨b,hb⟩:=WA hx;obtain⟨q1,q2,q3,q4,q5,q6,q7⟩:=h1.ia b x hb y hy
 by_cases e:y.op=14
 ·simp only[unB,Wr] at h;have hc:=allI_iff.1 h.1.2 k c hk;simp only[cdB,Wr] at hc;have h5:=allI_iff.1 hc.2 b x hb;simp only[bkB,Wr,Wu] at h5;have h6:=h5.1.2 y hy;simp only[gm,Wr] at h6;have h7:=h6.2;rw[Wz e] at h7;simp only[Wr,Wx] at h7;have h8:=h7.2;unfold EP at h8;split at h8
  ·rename_i d hd;have:=(Sl (u:=u) (by simp only[unB,Wr];exact h) hd).p3;omega
  ·omega
 ·have:=q6 e;unfold da at this;split at this<;>(try split at this)<;>(try split at this)<;>omega
theorem OI{c:Cd}(h:DrpC c){rl:List Nat}(hl:rl.length<=c.blocks.length):en 1073741824 (jh c rl):=by
 have hp1:(aH c.blocks rl).length=rl.length:=by rw[aH,Wj]
 have hp2:(jh c rl).blocks.length=rl.length:=by simp only[jh,ff,XN];exact hp1
 have h160:=h.b160;refine⟨by omega,λx hx=>?_⟩;obtain⟨i,hi⟩:=WA hx;simp only[jh,ff,aH,WH,Wl] at hi;cases hb:rl[i]? with
 |none=>rw[hb] at hi;cases hi
 |some b=>
  rw[hb] at hi;simp only[Xx,WO] at hi
  have hsm:SmX (mj c.blocks b):=by
   unfold mj;cases hg:c.blocks[b]? with
   |none=>exact⟨by simp[bk0],by simp[bk0],by simp[bk0],λy hy=>by simp[bk0] at hy,λf hf=>by simp[bk0] at hf⟩
   |some y=>exact h.sm y (Wq hg)
  obtain⟨s1,s2,s3,s4,s5⟩:=hsm;have hpl:=aU (aH c.blocks rl) (i:Int);subst hi;refine⟨by simp only[Wj];omega,by show(mj c.blocks b).ins.length<=_;omega,by simp only[Wj];omega,λf hf=>?_,λy hy=>?_⟩
  ·simp only[Ww] at hf;obtain⟨g,_,rfl⟩:=hf;simp only[Wj];exact Xw (m:=(ab (aH c.blocks rl) (i:Int)).length) (Wo _) (by omega)
  ·have:=s4 y hy;omega
theorem Lv{c:Cd}(h:CdA c):en 1073741824 (mh c):=
 OI (Ex h _) (by rw[oA];exact Xw (Xk _ _) (by simp))
theorem Dy{u:List Cd}(hu:unB u=true)(hl:u.length<=1073741824):rH 1073741824 (bH u):=by
 refine⟨by simpa[bH] using hl,λc hc=>?_⟩;simp only[bH,Ww] at hc;obtain⟨d,hd,rfl⟩:=hc;obtain⟨k,hk⟩:=WA hd;exact Lv (BC hu hk)
structure EaS where (i:Nat) (W:List AO)
def RowC(V:AV)(l:List Cd)(W:List AO):Prop:=(V= .nils/\l=[])\/∃id,V= .sl id 3 0 l.length/\W[id]?=some (.row 3 (l.map λc=>c.cs.map .p))/\3<=id
theorem RowC.view{V:AV}{l:List Cd}{W:List AO}(h:RowC V l W):View W V (cdL l):=by
 rcases h with⟨rfl,rfl⟩|⟨id,rfl,h,_⟩
 ·exact .nils _
 ·exact tC (ls:=l.map Cd.cs) (by rw[h,Yu];rfl) (by simp) (λe he=>by obtain⟨c,_,rfl⟩:=Ww.1 he;rfl)
variable (G:aw)
theorem Ih(c:Cd)(h:CdA c)(hk:KFit c):VF Tryz.prog G jZ [.agg (c.cs.map .p),.p (.str [107,110,111,119,110])] (.agg ((mh c).cs.map .p)):=by
 have hP:VF Tryz.prog G gZ [.agg (c.cs.map .p)] (.agg ((mh c).cs.map .p)):=AC.mkFreeze bC (Pa G c h hk);have hcs:=c.cs_eq2;rw[hcs] at hP;refine AC.go BG ?_;simp[oY,hcs];refine hP.use ?_;have hcs2:=(mh c).cs_eq2;simp[hcs2]
theorem HM(u:List Cd)(hu:rH 1073741824 u)(hs:mR u=true):VF Tryz.prog G fC [.agg [.p (cdL u)],.p (.str [107,110,111,119,110])] (if unB (bH u)=true then .tup [.agg [.p (cdL (bH u))],.p (.bool true)] else .tup [.agg [.p (cdL [])],.p (.bool false)]):=by
 have hul:cdL u= .lst 3 (u.map Cd.cs):=rfl;have hUV:=pD G u hu;have hv:unB u=true:=by rw[mR,Wr] at hs;exact hs.1
 have hal:u.all dP=true:=by rw[mR,Wr] at hs;exact hs.2
 have hUV2:=pD G (bH u) (Dy hv hu.1);have hkl:cdL (bH u)= .lst 3 ((bH u).map Cd.cs):=rfl;rw[hv] at hUV;rw[hul] at hUV;have hu1:=hu.1
 have key:AC Tryz.prog G fC [.agg [.p (cdL u)],.p (.str [107,110,111,119,110])] [] λx h=>∃V,x= .ret (.tup [.agg [V],.p (.bool (unB (bH u)))])/\View h V (cdL (if unB (bH u)=true then bH u else[])):=by
  rw[hul];refine AC.go Cn ?_;simp[pN];refine hUV.use ?_;simp[]
  refine am (λa:EaS=>aj 37 [(7,.p (.int .i64 a.i)),(6,.ptr 2 1 0 0),(4,.ptr 1 1 0 0),(2,.ptr 0 1 0 0),(1,.p (.str [107,110,111,119,110]))]) (λa=>a.W)
   (λa=>a.i<=u.length/\a.W[0]?=some (.row 1 [[.p (.lst 3 (u.map Cd.cs))]])/\a.W[1]?=some (.row 1 [[.nils]])/\∃V,a.W[2]?=some (.row 1 [[V]])/\RowC V (bH (u.take a.i)) a.W) (λa=>u.length-a.i) ⟨0,_⟩ ⟨We _,rfl,rfl,_,rfl,.inl ⟨rfl,rfl⟩⟩ (aa (We _) (by simp[below])) ?_
  rintro⟨i,W⟩ ⟨hi,hw0,hw1,V,hw2,hV⟩;simp only at hi hw0 hw1 hw2 hV⊢;simp[hw0];have h2l:=(Wa.1 hw2).1;refine aA (λhcc=>?_) (λhcc=>?_)
  ·have hcc:i<u.length:=by simpa using hcc
   have hg:=Wc hcc;have htk:u.take (i+1)=u.take i++[u[i]]:=aq hcc;have hsc:dP u[i]=true:=Wu.1 hal _ (Wm hcc);generalize u[i]=c at hg htk hsc;have hcA:=BC hv hg;have hT:=Ih G c hcA (Kv hcA.v hsc);have hkt:bH (u.take (i+1))=bH (u.take i)++[mh c]:=(by rw[htk,bH,bH,WF];rfl);have hkl2:(bH (u.take i)).length=i:=(by simp[bH];omega);have hwi:=w1 (i:=i) (by omega);have hcs:=c.cs_eq2;have hks:=(mh c).cs_eq2;rw[hcs,hks] at hT;rcases hV with⟨rfl,h0⟩|⟨id,rfl,hid,h3⟩
   ·rw[h0,WL] at hkl2;subst hkl2;simp[hw0,hw2,hg,hcs];refine hT.use ?_;have m2:∀t,(W++t)[2]?=some (.row 1 [[.nils]]):=λt=>(by rw[Wb h2l];exact hw2);have m2e:=λt hh=>ag (m2 t) hh;simp[m2,hw2];refine⟨⟨1,_⟩,⟨by simp only;omega,by simp only;rw[Wd (by omega),Wb (by omega)];exact hw0,by simp only;rw[Wd (by omega),Wb (by omega)];exact hw1,.sl (W.length+1) 3 0 1,by simp only;rw[Wh (by simp;omega)],.inr ⟨W.length+1,?_,?_,by omega⟩⟩,by simp only;omega,aa (We _) (by simp[below,show IntKind.i64.wrap 1=1 from rfl]<;>omega)⟩
    ·simp only[hkt,h0];rfl
    ·simp only[hkt,h0];rw[Wd (by omega),Wg (by omega)];simp[hks]
   ·have m2:∀t,(W++t)[2]?=some (.row 1 [[.sl id 3 0 i]]):=λt=>(by rw[Wb h2l,hw2,hkl2]);have m2e:=λt hh=>ag (m2 t) hh;have m7:∀t,(W++t)[id]?=some (.row 3 ((bH (u.take i)).map λc=>c.cs.map .p)):=λt=>(by rw[Wb (Wa.1 hid).1];exact hid);have m7e:=λt hh=>ag (m7 t) hh;have m8:∀t t',((W++t).set id .dead++t')[2]?=some (.row 1 [[.sl id 3 0 i]]):=λt t'=>(by rw[Wb (by simp;omega),Wd (by omega),m2 t]);have m8e:=λt t' hh=>ag (m8 t t') hh;have hrl:((bH (u.take i)).map λc=>c.cs.map AV.p).length=i:=(by rw[Wj,hkl2]);have hidl:=(Wa.1 hid).1;rw[hkl2] at hw2;obtain⟨rows,hrw⟩:∃rows,rows=(bH (u.take i)).map λc=>c.cs.map AV.p:=⟨_,rfl⟩;rw[←hrw] at hid m7 m7e hrl;have htk2:List.take i rows=rows:=Wi (by omega);simp[hw0,hw2,hg,hcs];refine hT.use ?_;simp[m2,hw2,m7,m8,hrl,htk2];refine⟨⟨by omega,by omega⟩,⟨i+1,_⟩,⟨by simp only;omega,by simp only;rw[Wd (by omega),Wb (by rw[Wy,Wn];omega),Wd (by omega),Wb (by omega)];exact hw0,by simp only;rw[Wd (by omega),Wb (by rw[Wy,Wn];omega),Wd (by omega),Wb (by omega)];exact hw1,.sl (W.length+1) 3 0 (i+1),by simp only;rw[Wh (by simp;omega)],.inr ⟨W.length+1,?_,?_,by omega⟩⟩,by simp only;omega,aa (We _) (by simp[below,hwi]<;>omega)⟩
    ·simp only[hkt,Wn,hkl2,Xf]
    ·simp only[hkt];rw[Wd (by omega),Wg (by simp)];simp[hks,hrw]
  ·have hcc:u.length<=i:=by simpa using hcc
   rw[Wi hcc] at hV;have hvw:=hV.view
   have hVc:V.cells=[V]/\V.isCell=true:=by rcases hV with⟨rfl,_⟩|⟨id,rfl,_⟩<;>exact⟨rfl,rfl⟩
   obtain⟨v1,v2⟩:=hVc;simp[-AV.cells,-AV.isCell,hw2];refine(hUV2.lend (.agg (.one hvw .nil) .nil) rfl).mono ?_;rintro r W' ⟨rfl,e⟩;subst e;have hs1:∀o,(W'.set 1 o)[1]?=some o:=λo=>Wh (by omega);have hs1e:=λo hh=>ag (hs1 o) hh;have hw1e:=λhh=>ag hw1 hh;cases hk:unB (bH u) with
   |false=>
    simp[-AV.cells,-AV.isCell,az,eG,hw1,hs1];exact .nils _
   |true=>
    simp[-AV.cells,-AV.isCell,az,v2,hw2,hw1,hs1];refine RowC.view ?_;rcases hV with h|⟨id,e,h,h3⟩
    ·exact .inl h
    ·exact .inr ⟨id,e,by rw[Wd (by omega)];exact h,h3⟩
 refine key.freezeR (λt v h ⟨_,e,_⟩=>by cases e) λv h ⟨V,e1,e2⟩=>?_;cases e1
 by_cases hk:unB (bH u)=true
 ·rw[Wz hk];rw[Wz hk] at e2;rw[hk];exact .tup (.agg (.one e2 .nil) (.one (.p _) .nil)) .nil
 ·rw[WB hk];rw[WB hk] at e2;rw[Zm] at hk;rw[hk];exact .tup (.agg (.one e2 .nil) (.one (.p _) .nil)) .nil
theorem HP(u:List Cd)(hu:rH 1073741824 u):VF Tryz.prog G fA [.agg [.p (cdL u)],.p (.str [107,110,111,119,110])] (.tup [.agg [.p (cdL (fq u).1)],.p (.bool (fq u).2)]):=by
 have hul:cdL u= .lst 3 (u.map Cd.cs):=rfl;have hS:=Jp G u hu;cases hs:mR u with
 |false=>
  have e:fq u=([],false):=by rw[fq,WB (by rw[hs];simp)]
  rw[hs] at hS;rw[e]
  have key:AC Tryz.prog G fA [.agg [.p (cdL u)],.p (.str [107,110,111,119,110])] [] λx h=>x= .ret (.tup [.agg [.nils],.p (.bool false)]):=by
   refine AC.go oG ?_;simp[kL];refine hS.use ?_;simp[]
  refine key.freezeR (λt v h e=>by cases e) λv h e1=>?_;cases e1;exact .tup (.agg (.one (.nils _) .nil) (.one (.p _) .nil)) .nil
 |true=>
  have hE:=HM G u hu hs;rw[hs] at hS
  have e:(if unB (bH u)=true then AV.tup [.agg [.p (cdL (bH u))],.p (.bool true)] else .tup [.agg [.p (cdL [])],.p (.bool false)])= .tup [.agg [.p (cdL (fq u).1)],.p (.bool (fq u).2)]:=by
   by_cases h:unB (bH u)=true
   ·rw[Wz h,fq,Wz ⟨hs,h⟩]
   ·rw[WB h,fq,WB λx=>h x.2]
  rw[e] at hE;refine AC.go oG ?_;simp[kL];refine hS.use ?_;simp[];refine hE.use ?_;simp[]
theorem Gy(u:List Cd)(hu:rH 1073741824 u):VF Tryz.prog G gR [.agg [.p (cdL u)]] (.tup [.agg [.p (cdL (fq u).1)],.p (.bool (fq u).2)]):=by
 refine AC.go vn ?_;simp[mN];refine(HP G u hu).use ?_;simp[]
end
section
structure SgS where (i:Nat) (t:List AO)
def NoV(v:Bool)(l:List Bool):Prop:=∀x∈l,¬v=x
theorem um:AK.whole fX=FK.ak fY:=rfl
variable (G:aw)
theorem Gd(l:List Bool)(v:Bool)(hl:l.length<=1073741824):VF Tryz.prog G dZ [.p (boL l),.p (.bool v)] (.p (.int .i64 (ixI (l.findIdx? λx=>decide (v=x))))):=by
 have hnl:boL l= .lst 1 (l.map λn=>[.bool n]):=rfl;refine AC.go rD ?_;simp[jk,hnl];refine am (λi:Nat=>aj 19 [(8,.p (.int .i64 i)),(7,.p (.int .i64 l.length)),(0,.p (.lst 1 (l.map λn=>[.bool n]))),(1,.p (.bool v))]) (λ_=>[]) (λi=>i<=l.length/\NoV v (l.take i)) (λi=>l.length-i) 0 ⟨We _,λx hx=>by cases hx⟩ (aE rfl (by simp[below])) ?_;rintro i ⟨hi,hp⟩;simp[];refine aA (λhc=>?_) (λhc=>?_)
 ·simp at hc;have hg:=Wc hc;have htk:=aq hc
  have hfi:v=l[i]->(l.findIdx? λx=>decide (v=x))=some i:=λe=>by
   rw[Xe];exact⟨hc,by simpa using e,λj hj=>by have:=hp l[j] (XV.2 ⟨j,by omega,rfl⟩);simpa using this⟩
  generalize l[i]=x at hg htk hfi;simp[hg];refine aA (λhe=>?_) (λhe=>?_)
  ·have he:v=x:=by simpa using he
   rw[hfi he];simp[ixI]
  ·have he:¬v=x:=by simpa using he
   simp[];refine⟨i+1,⟨by omega,λy hy=>?_⟩,by omega,aE rfl (by simp[below,w1 (i:=i) (by omega)])⟩;rw[htk] at hy;rcases Ws.1 hy with hy|hy
   ·exact hp y hy
   ·rw[Wt.1 hy];exact he
 ·simp at hc;rw[Wi hc] at hp
  have hf:(l.findIdx? λx=>decide (v=x))=none:=by
   rw[XD];intro x hx;simpa using hp x hx
  rw[hf];simp[ixI]
theorem AM(l:List Bool)(v:Bool)(hl:l.length<=1073741824):VF Tryz.prog G cK [.p (boL l),.p (.bool v)] (.p (.bool (l.any λx=>decide (v=x)))):=by
 refine AC.go nz ?_;simp[gg];refine(Gd G l v hl).use ?_;rw[←uf];simp[]
section
variable {h:List AO} {qc qt qd:Nat}
theorem OP(c:Cd)(hc:CVal c)(hf:CBd c)(hfit:be c.blocks=true)(h0:h[qc]?=some (.row 3 [[.p (.int .i64 c.params),.p (.int .i64 c.regs),.p (.lst 5 (c.blocks.map Bk.cs))]]))(h1:h[qt]?=some (.row 1 [[.p (ju 2 prP (stL c))]]))(h2:h[qd]?=some (.row 1 [[dmV c]])){r b i:Int}(hr0:0<=r)(hr1:r<c.regs)(hb0:0<=b)(hb1:b<c.blocks.length):
 AC Tryz.prog G aV [.p (.int .i64 r),.p (.int .i64 b),.p (.int .i64 i),.ptr qc 3 0 0,.ptr qt 1 0 0,.ptr qd 1 0 0] h λx h'=>x= .ret (.p (.bool (gB c r b i)))/\h'=h:=by
 have hg:=Aj hr0 hr1;have hl:=(Wa.1 hg).1;have hin:=λp hp=> @Fz c.blocks r p hp;have htb:ju 2 prP (stL c)= .lst 1 ((stL c).map λl=>[PV.lst 2 (l.map prP)]):=rfl;have hD:=λa=>FL G c hf a b
 have hI:∀a:Int,0<=a->a.toNat<c.blocks.length->NZ c.blocks a b=rE c.blocks a.toNat b.toNat:=λa ha0 ha1=>by
  rw[NZ,Ap hfit,Ap hfit];have e1:inR a 0 ((c.blocks.length:Int)-1)=true:=by simp only[inR,Wr,Wx];omega
  have e2:inR b 0 ((c.blocks.length:Int)-1)=true:=by simp only[inR,Wr,Wx];omega
  rw[e1,e2];rfl
 have hdb:below 0 (dmV c):=Gu c 0;have hdc:(dmV c).cells=[dmV c]/\(dmV c).isCell=true:=by rw[dmV,hfit];exact⟨rfl,rfl⟩
 obtain⟨d1,d2⟩:=hdc;rw[htb] at h1;rw[gB];generalize dB c.blocks r=Ls at hg hin;generalize stL c=T at hg hl h1;have hmg:(T.map λl=>[PV.lst 2 (l.map prP)])[r.toNat]?=some [.lst 2 (Ls.map prP)]:=lc hg;clear hg hl htb;generalize (T.map λl=>[PV.lst 2 (l.map prP)])=D at hmg h1;have hml2:r.toNat<D.length:=(Wa.1 hmg).1;generalize dmV c=DV at*
 refine AC.go rG ?_
 by_cases hp:r<c.params
 ·simp[bj,h0,hp]
 ·cases Ls with
  |nil=>simp[bj,h0,hp,h1,hmg,hr0]
  |cons p t=>
   obtain⟨q0,q1⟩:=hin p (by simp);have hpr:prP p=[.int .i64 p.1,.int .i64 p.2]:=rfl;have hne:(0:Int)<(t.length:Int)+1:=by omega
   by_cases hpb:p.1=b
   ·by_cases hlt:p.2<i
    ·simp[bj,h0,hp,h1,hmg,hr0,hpr,hpb,hne,hlt]
    ·simp[bj,h0,hp,h1,hmg,hr0,hpr,hpb,hne,hlt]
   ·simp[-AV.cells,-AV.isCell,aO,bj,h0,hp,h1,h2,hmg,hr0,hpr,hpb,hne,d2];refine(hD p.1).use ?_ (ha:=⟨hdb,by simp[below],by simp[below],trivial⟩);rw[hI p.1 q0 q1];simp[]
theorem Sm{q7 q8 qi:Nat}(c:Cd)(hc:CVal c)(hf:CBd c)(hfit:be c.blocks=true)(h0:h[qc]?=some (.row 3 [[.p (.int .i64 c.params),.p (.int .i64 c.regs),.p (.lst 5 (c.blocks.map Bk.cs))]]))(h1:h[qt]?=some (.row 1 [[.p (ju 2 prP (stL c))]]))(h2:h[qd]?=some (.row 1 [[dmV c]]))(h7:h[q7]?=some (.row 1 [[.fn (.func aV) [.ptr qc 3 0 0,.ptr qt 1 0 0,.ptr qd 1 0 0]]])){r b i:Int}(h8:h[q8]?=some (.row 1 [[.p (.int .i64 b)]]))(hi:h[qi]?=some (.row 1 [[.p (.int .i64 i)]]))(hr0:0<=r)(hr1:r<c.regs)(hb0:0<=b)(hb1:b<c.blocks.length):
 AC Tryz.prog G cu [.p (.int .i64 r),.ptr q7 1 0 0,.ptr q8 1 0 0,.ptr qi 1 0 0] h λx h'=>x= .ret (.p (.bool (!gB c r b i)))/\h'=h:=by
 have hR:=OP G c hc hf hfit h0 h1 h2 hr0 hr1 hb0 hb1 (i:=i);refine AC.go rL ?_;simp[ji,h7,h8,hi];refine hR.mono ?_;rintro x h' ⟨rfl,rfl⟩;simp[]
end
theorem Eo(c:Cd)(h:CdA c):VF Tryz.prog G fR [.agg (c.cs.map .p)] (.p (.bool (dP c))):=by
 have hcs:=c.cs_eq2;have hbl:bkL c.blocks= .lst 5 (c.blocks.map Bk.cs):=rfl;have hv:=h.v;have hf:=h.fit;have hfit:=Oa hv;have hc:CBd c:=⟨hf.1,λx hx=>(hf.2 x hx).next⟩
 have hsm:CSm c:=⟨hc,by
  have h2:∀x∈c.blocks,x.next.length<=2:=λx hx=>(h.smx x hx).2.2.1
  have h3:∀(l:List Bk),(∀x∈l,x.next.length<=2)->(l.map λx=>x.next.length).sum<=2*l.length:=λl=>by
   induction l with
   |nil=>intro _;simp
   |cons x l ih=>
    intro hl;rw[WJ,XC,WC];have:=ih λy hy=>hl y (by simp[hy]);have:=hl x (by simp);omega
  have:=h3 c.blocks h2;have:=hv.b160;omega⟩
 have hD:=Pl G c hsm;have hP:=Ir G c hv hf h.n8;rw[hcs,hbl] at hD hP;obtain⟨TB,hTB⟩:∃TB,TB=ju 2 prP (stL c):=⟨_,rfl⟩;have hP':VF Tryz.prog G bZ [.agg (([PV.int .i64 c.params,.int .i64 c.regs,.lst 5 (c.blocks.map Bk.cs)]).map .p)] (.p TB):=by rw[hTB];exact hP
 clear hP;obtain⟨DV,hDV⟩:∃DV,DV=dmV c:=⟨_,rfl⟩;have hdb:below 0 DV:=by rw[hDV];exact Gu c 0
 rw[←hDV] at hD;have hdc:DV.cells=[DV]/\DV.isCell=true:=by rw[hDV,dmV,hfit];exact⟨rfl,rfl⟩
 obtain⟨d1,d2⟩:=hdc;obtain⟨RC,hRC⟩:∃RC,RC=AO.row 3 [[.p (.int .i64 c.params),.p (.int .i64 c.regs),.p (.lst 5 (c.blocks.map Bk.cs))]]:=⟨_,rfl⟩;obtain⟨H0,hH0⟩:∃H0,H0=[RC,.row 1 [[.p TB]],.row 1 [[DV]]]:=⟨_,rfl⟩;refine AC.goK tB um ?_;simp[fX,fY,hcs,hbl];refine Um (aj 123 [(4,.ptr 1 1 0 0),(3,.ptr 2 1 0 0),(1,.ptr 0 3 0 0)]) H0 ?_ ?_
 ·simp[-AV.cells,-AV.isCell];refine⟨hD.use ?_ (hr:=hdb),?_⟩
  ·simp[-AV.cells,-AV.isCell];refine⟨hP'.use ?_,?_⟩
   ·simp[-AV.cells,-AV.isCell,kR,aO,d1,d2];rw[hH0,hRC];exact aa (We _) (by simp[below])
   ·refine hP'.use ?_;simp[-AV.cells,-AV.isCell,kR,aO,d1,d2];rw[hH0,hRC];exact aa (We _) (by simp[below])
  ·refine hD.use ?_ (hr:=hdb);simp[-AV.cells,-AV.isCell];refine hP'.use ?_;simp[-AV.cells,-AV.isCell,kR,aO,d1,d2];rw[hH0,hRC];exact aa (We _) (by simp[below])
 obtain⟨BL,hBL⟩:∃BL,BL=boL (iI c.blocks):=⟨_,rfl⟩;have hde:DV= .eptr [.int .i64 c.params,.int .i64 c.regs,bkL c.blocks,CZ c.blocks,BL] 0:=by rw[hDV,dmV,hfit,hBL];rfl
 have hC:=AM G (iI c.blocks) false (by rw[tU];exact hc.1);rw[←hBL] at hC
 have hany:(iI c.blocks).any (λx=>decide (false=x))= !(List.range c.blocks.length).all (cz c.blocks):=by
  rw[iI,List.any_map,Zc,Bool.not_not];congr 1;funext b;simp only[Function.comp_def];cases cz c.blocks b<;>rfl
 rw[hany] at hC;have g0:H0[0]?=some RC:=by rw[hH0];rfl
 have g0c:=g0;rw[hRC] at g0c;have g1:H0[1]?=some (.row 1 [[.p TB]]):=by rw[hH0];rfl
 have g2:H0[2]?=some (.row 1 [[.eptr [.int .i64 c.params,.int .i64 c.regs,bkL c.blocks,CZ c.blocks,BL] 0]]):=by rw[hH0,hde];rfl
 have gl:H0.length=3:=by rw[hH0];rfl
 clear hH0;simp[g2];refine hC.use ?_;cases hall:(List.range c.blocks.length).all (cz c.blocks) with
 |false=>
  have hfs:dP c=false:=by rw[dP,hall];rfl
  simp[hfs]
 |true=>
 have htb:ju 2 prP (stL c)= .lst 1 ((stL c).map λl=>[PV.lst 2 (l.map prP)]):=rfl;obtain⟨n,hn⟩:∃n:Nat,c.regs=(n:Int):=⟨c.regs.toNat,by have:=hv.p0;have:=hv.pr;omega⟩;have hsl:(stL c).length=n:=by rw[stL,ll];omega
 have hr3:=hv.r3;have g1c:=g1;rw[hTB,htb] at g1c;simp[g1c];rw[hsl];have hbl1:=hv.b160;refine am (λr:Nat=>aj 123 [(28,.p (.int .i64 r)),(27,.p (.int .i64 n)),(26,.p (.lst 1 ((stL c).map λl=>[PV.lst 2 (l.map prP)]))),(4,.ptr 1 1 0 0),(3,.ptr 2 1 0 0),(1,.ptr 0 3 0 0)]) (λ_=>H0) (λr=>r<=n/\AllB (mP c) (List.range r)) (λr=>n-r) 0 ⟨We _,.nil _⟩ (aa (We _) (by simp[below,gl])) ?_;rintro r ⟨hr,hq⟩;simp[];refine aA (λhcc=>?_) (λhcc=>?_)
 ·have hcc:r<n:=by simpa using hcc
  have hg:=Aj (c:=c) (r:=(r:Int)) (by omega) (by omega);have hmg:=lc (sz:=2) (f:=prP) hg;have hone:mP c r=(decide ((dB c.blocks r).length<=1)&&(decide ((c.params:Int)<=r)||decide ((dB c.blocks r).length=0))):=rfl;have hwr:=w1 (i:=r) (by omega);rw[XF] at hmg;generalize dB c.blocks r=Ls at hmg hone;generalize ((stL c).map λl=>[PV.lst 2 (l.map prP)])=D at hmg⊢
  have hof:mP c r=false->dP c=false:=λho=>by
   have:(List.range c.regs.toNat).all (mP c)=false:=(by rw[Yp];exact⟨r,Xn.2 (by omega),by simp[ho]⟩);rw[dP,this];simp
  by_cases h1:Ls.length<=1
  ·have i1:¬(1:Int)<(Ls.length:Int):=by omega
   by_cases h2:c.params<=r
   ·have i2:¬(r:Int)<c.params:=(by omega);have ho:mP c r=true:=(by rw[hone];simp[h1,h2]);simp[g0c,hmg,i1,i2];refine⟨r+1,⟨by omega,?_⟩,by omega,aa (We _) (by simp[below,gl,hwr])⟩;rw[Yz];exact hq.snoc ho
   ·have i2:(r:Int)<c.params:=by omega
    by_cases h3:Ls.length=0
    ·have ho:mP c r=true:=(by rw[hone];simp[h3]);simp[g0c,hmg,i2,h3];refine⟨r+1,⟨by omega,?_⟩,by omega,aa (We _) (by simp[below,gl,hwr])⟩;rw[Yz];exact hq.snoc ho
    ·have ho:mP c r=false:=(by rw[hone];simp[h1,h2,h3]);have i3:0<Ls.length:=(by omega);have i4:(0:Int)<(Ls.length:Int):=(by omega);simp[g0c,hmg,i1,i2,i3,hof ho]
  ·have ho:mP c r=false:=by rw[hone];simp[h1]
   have i1:(1:Int)<(Ls.length:Int):=(by omega);simp[hmg,hof ho,i1]
 have hcc:n<=r:=by simpa using hcc
 have hre:r=n:=by omega
 subst hre;have hone:(List.range c.regs.toNat).all (mP c)=true:=by rw[hn,XF];exact hq
 have kA:∀t,(H0++t)[0]?=some (.row 3 [[.p (.int .i64 c.params),.p (.int .i64 r),.p (.lst 5 (c.blocks.map Bk.cs))]]):=λt=>by rw[Wb (by omega),g0c,hn]
 have kAe:=λt hh=>ag (kA t) hh;simp[gl,kAe];obtain⟨H1,hH1⟩:∃H1,H1=H0++[.row 1 [[.fn (.func aV) [.ptr 0 3 0 0,.ptr 1 1 0 0,.ptr 2 1 0 0]]]]:=⟨_,rfl⟩;have k0:∀t,(H1++t)[0]?=some (.row 3 [[.p (.int .i64 c.params),.p (.int .i64 c.regs),.p (.lst 5 (c.blocks.map Bk.cs))]]):=λt=>by rw[hH1,Wp,Wb (by omega),g0c,hn]
 have k1:∀t,(H1++t)[1]?=some (.row 1 [[.p (ju 2 prP (stL c))]]):=λt=>by rw[hH1,Wp,Wb (by omega),g1,hTB]
 have k2:∀t,(H1++t)[2]?=some (.row 1 [[dmV c]]):=λt=>by rw[hH1,Wp,Wb (by omega),g2,←hDV,hde]
 have k3:∀t,(H1++t)[3]?=some (.row 1 [[.fn (.func aV) [.ptr 0 3 0 0,.ptr 1 1 0 0,.ptr 2 1 0 0]]]):=λt=>by rw[hH1,Wp,Wg (by omega),gl];rfl
 have kl:H1.length=4:=by rw[hH1];simp[gl]
 rw[←hH1];refine am (λa:SgS=>aj 123 [(52,.p (.int .i64 a.i)),(51,.p (.int .i64 c.blocks.length)),(50,.p (.lst 5 (c.blocks.map Bk.cs))),(7,.ptr 3 1 0 0),(4,.ptr 1 1 0 0),(3,.ptr 2 1 0 0),(1,.ptr 0 3 0 0)]) (λa=>H1++a.t) (λa=>a.i<=c.blocks.length/\AllT (bV c) c.blocks a.i) (λa=>c.blocks.length-a.i) ⟨0,[]⟩ ⟨We _,.nil _ _⟩ ?_ ?_
 ·simp only[WI];exact aa (We _) (by simp[below,kl])
 rintro⟨b,t⟩ ⟨hb,hqb⟩;simp only at hb hqb⊢;simp[];refine aA (λhc2=>?_) (λhc2=>?_)
 ·have hc2:b<c.blocks.length:=by simpa using hc2
  have hgb:=Wc hc2;generalize c.blocks[b]=x at hgb;have hxs:=x.cs_eq2;have hxf:=hf.2 x (Wq hgb);have hil:inL x.ins= .lst 4 (x.ins.map Ii.cs):=rfl;have hpl:phL x.phis= .lst 2 (x.phis.map Ph.cs):=rfl;have hwb:=w1 (i:=b) (by omega)
  have hbf:bV c b x=false->dP c=false:=λh=>by
   have:uc (bV c) c.blocks=false:=dA hgb h;rw[dP,this,Yw]
  have hPr:=rt G c b hc.1 hc.2;rw[rb hc2] at hPr;have hpn:ah (ab c.blocks b)= .lst 1 ((ab c.blocks b).map λn=>[.int .i64 n]):=rfl;rw[hpn,hcs,hbl] at hPr;have hpl2:=aU c.blocks b;simp[k0,hgb,hxs,hil,hpl];refine hPr.use ?_;obtain⟨RX,hRX⟩:∃RX,RX=AO.row 5 [[.p (.lst 2 (x.phis.map Ph.cs)),.p (.lst 4 (x.ins.map Ii.cs)),.p (.int .i64 x.jump),.p (.int .i64 x.on),.p (ah x.next)]]:=⟨_,rfl⟩;obtain⟨RB,hRB⟩:∃RB,RB=AO.row 1 [[.p (.int .i64 b)]]:=⟨_,rfl⟩;rw[←hRX,←hRB];obtain⟨q,hq⟩:∃q,q=(H1++t).length:=⟨_,rfl⟩;have hq4:4<=q:=by rw[hq,Wn];omega
  obtain⟨X1,hX1⟩:∃X1,X1=H1++(t++[RB,RX]):=⟨_,rfl⟩;have x0:∀t,(X1++t)[0]?=some (.row 3 [[.p (.int .i64 c.params),.p (.int .i64 c.regs),.p (.lst 5 (c.blocks.map Bk.cs))]]):=λt=>by rw[hX1,Wp];exact k0 _
  have x1:∀t,(X1++t)[1]?=some (.row 1 [[.p (ju 2 prP (stL c))]]):=λt=>by rw[hX1,Wp];exact k1 _
  have x2:∀t,(X1++t)[2]?=some (.row 1 [[dmV c]]):=λt=>by rw[hX1,Wp];exact k2 _
  have x3:∀t,(X1++t)[3]?=some (.row 1 [[.fn (.func aV) [.ptr 0 3 0 0,.ptr 1 1 0 0,.ptr 2 1 0 0]]]):=λt=>by rw[hX1,Wp];exact k3 _
  have x4:∀t,(X1++t)[q]?=some (.row 1 [[.p (.int .i64 b)]]):=λt'=>by rw[hX1,hq,←Wp,Wp,Wg (Wo _),Xd,hRB];rfl
  have x5:∀t,(X1++t)[q+1]?=some (.row 5 [[.p (.lst 2 (x.phis.map Ph.cs)),.p (.lst 4 (x.ins.map Ii.cs)),.p (.int .i64 x.jump),.p (.int .i64 x.on),.p (ah x.next)]]):=λt'=>by rw[hX1,hq,←Wp,Wp,Wg (by omega),WP,hRX];rfl
  have xl:X1.length=q+2:=by rw[hX1,hq];simp;omega
  have hXt:∀t',X1++t'=H1++(t++[RB,RX]++t'):=λt'=>by rw[hX1,Wp]
  have hq':H1.length+t.length=q:=by rw[hq,Wn]
  have hq2:H1.length+(t.length+1)=q+1:=by omega
  rw[←hX1,hq2,hq'];have x5n:=x5 [];rw[WI] at x5n;simp[x5n];refine am (λa:SgS=>aj 123 [(63,.p (.int .i64 a.i)),(62,.p (.int .i64 x.phis.length)),(61,.p (.lst 2 (x.phis.map Ph.cs))),(52,.p (.int .i64 b)),(51,.p (.int .i64 c.blocks.length)),(50,.p (.lst 5 (c.blocks.map Bk.cs))),(10,.p (.lst 1 ((ab c.blocks b).map λn=>[.int .i64 n]))),(9,.ptr (q+1) 5 0 0),(8,.ptr q 1 0 0),(7,.ptr 3 1 0 0),(4,.ptr 1 1 0 0),(3,.ptr 2 1 0 0),(1,.ptr 0 3 0 0)]) (λa=>X1++a.t) (λa=>a.i<=x.phis.length/\AllB (nO c b) (x.phis.take a.i)) (λa=>x.phis.length-a.i) ⟨0,[]⟩ ⟨We _,.nil _⟩ ?_ ?_
  ·simp only[WI];exact aa (We _) (by simp[below,xl];omega)
  rintro⟨i,t1⟩ ⟨hi,hq1⟩;simp only at hi hq1⊢;simp[];refine aA (λhc3=>?_) (λhc3=>?_)
  ·have hc3:i<x.phis.length:=by simpa using hc3
   have hgi:=Wc hc3;have hmi:=Wm hc3;have htk:x.phis.take (i+1)=x.phis.take i++[x.phis[i]]:=aq hc3;generalize x.phis[i]=f at hgi hmi htk;have hfs:=f.cs_eq2;have hfa:ah f.args= .lst 1 (f.args.map λn=>[.int .i64 n]):=rfl;obtain⟨pa1,pa2,pa3,pa4⟩:=hv.pa b x hgb f hmi;have hwi:=w1 (i:=i) (by have:=hxf.phis;omega);simp[hgi,hfs,hfa];obtain⟨FO,hFO⟩:∃FO,FO=AO.row 2 [[.p (.int .i64 f.to),.p (.lst 1 (f.args.map λn=>[.int .i64 n]))]]:=⟨_,rfl⟩;rw[←hFO];obtain⟨X2,hX2⟩:∃X2,X2=X1++(t1++[FO]):=⟨_,rfl⟩;have y0:=x0 (t1++[FO]);have y1:=x1 (t1++[FO]);have y2:=x2 (t1++[FO]);have y3:=x3 (t1++[FO]);have y4:=x4 (t1++[FO]);have y5:=x5 (t1++[FO]);rw[←hX2] at y0 y1 y2 y3 y4 y5⊢;have yl:q+2<=X2.length:=(by rw[hX2,Wn];omega);have hfal:f.args.length<=160:=(by omega);refine am (λk:Nat=>aj 123 [(70,.p (.int .i64 k)),(69,.p (.int .i64 f.args.length)),(68,.p (.lst 1 (f.args.map λn=>[.int .i64 n]))),(63,.p (.int .i64 i)),(62,.p (.int .i64 x.phis.length)),(61,.p (.lst 2 (x.phis.map Ph.cs))),(52,.p (.int .i64 b)),(51,.p (.int .i64 c.blocks.length)),(50,.p (.lst 5 (c.blocks.map Bk.cs))),(10,.p (.lst 1 ((ab c.blocks b).map λn=>[.int .i64 n]))),(9,.ptr (q+1) 5 0 0),(8,.ptr q 1 0 0),(7,.ptr 3 1 0 0),(4,.ptr 1 1 0 0),(3,.ptr 2 1 0 0),(1,.ptr 0 3 0 0)]) (λ_=>X2) (λk=>k<=f.args.length/\AllB (λx=>gB c x.2 x.1 (sO c.blocks x.1)) (((ab c.blocks b).zip f.args).take k)) (λk=>f.args.length-k) 0 ⟨We _,.nil _⟩ (aa (We _) (by simp[below];omega)) ?_;rintro k ⟨hk,hqk⟩;simp[];refine aA (λhc4=>?_) (λhc4=>?_)
   ·have hc4:k<f.args.length:=(by simpa using hc4);have hgk:=Wc (l:=ab c.blocks b) (i:=k) (by omega);have hmk:=Wm (l:=ab c.blocks b) (n:=k) (by omega);generalize (ab c.blocks b)[k]'(by omega)=p at hgk hmk;obtain⟨pn,px,rfl,hpx,_⟩:=eW hmk;have hgq:=Wc hc4;have hmq:=Wm hc4;generalize f.args[k]=g at hgq hmq;have hq2:=pa2 g hmq;have hzk:((ab c.blocks b).zip f.args)[k]?=some ((pn:Int),g):=(by rw[Yo];exact⟨hgk,hgq⟩);have hzt:((ab c.blocks b).zip f.args).take (k+1)=((ab c.blocks b).zip f.args).take k++[((pn:Int),g)]:=(by rw[WQ,hzk];rfl);have hpl2:=(Wa.1 hpx).1;have hinl:sO c.blocks (pn:Int)=px.ins.length:=(by rw[sO,XF,hpx]);have hpxs:=px.cs_eq2;have hpil:inL px.ins= .lst 4 (px.ins.map Ii.cs):=rfl;have hRR:=OP G c hv hc hfit y0 y1 y2 hq2.1 hq2.2 (b:=(pn:Int)) (i:=(px.ins.length:Int)) (by omega) (by omega);simp[y0,y3,hgk,hgq,hpx,hpxs,hpil];refine hRR.mono ?_;rintro z h' ⟨rfl,rfl⟩;cases hrr:gB c g pn px.ins.length with
    |false=>
     have hff:bV c b x=false:=by
      have h1:nO c b f=false:=by
       rw[nO,Yp];exact⟨_,Wq hzk,by simp[hinl,hrr]⟩
      have h2:x.phis.all (nO c b)=false:=(by rw[Yp];exact⟨f,hmi,by simp[h1]⟩);rw[bV,h2];rfl
     simp[hbf hff]
    |true=>
     simp[];refine⟨k+1,⟨by omega,?_⟩,by omega,aa (We _) (by simp[below,w1 (i:=k) (by omega)];omega)⟩;rw[hzt];exact hqk.snoc (by simp only[hinl];exact hrr)
   ·have hc4:f.args.length<=k:=(by simpa using hc4);rw[Wi (by rw[YX];omega)] at hqk;simp[];refine⟨⟨i+1,t1++[FO]⟩,⟨by simp only;omega,?_⟩,by simp only;omega,?_⟩
    ·simp only;rw[htk];exact hq1.snoc hqk
    ·simp only[←hX2];exact aa (We _) (by simp[below,hwi];omega)
  ·have hc3:x.phis.length<=i:=by simpa using hc3
   rw[Wi hc3] at hq1;simp[x5];refine am (λa:SgS=>aj 123 [(98,.p (.int .i64 a.i)),(97,.p (.int .i64 x.ins.length)),(96,.p (.lst 4 (x.ins.map Ii.cs))),(52,.p (.int .i64 b)),(51,.p (.int .i64 c.blocks.length)),(50,.p (.lst 5 (c.blocks.map Bk.cs))),(9,.ptr (q+1) 5 0 0),(8,.ptr q 1 0 0),(7,.ptr 3 1 0 0),(4,.ptr 1 1 0 0),(3,.ptr 2 1 0 0),(1,.ptr 0 3 0 0)]) (λa=>X1++a.t) (λa=>a.i<=x.ins.length/\AllT (λi (y:Ii)=>y.args.all λr=>gB c r b i) x.ins a.i) (λa=>x.ins.length-a.i) ⟨0,t1⟩ ⟨We _,.nil _ _⟩ (aa (We _) (by simp[below,xl];omega)) ?_;clear hi hc3 t1;rintro⟨i,t1⟩ ⟨hi,hq2⟩;simp only at hi hq2⊢;simp[];refine aA (λhc3=>?_) (λhc3=>?_)
   ·have hc3:i<x.ins.length:=(by simpa using hc3);have hgi:=Wc hc3;have hmi:=Wm hc3;generalize x.ins[i]=y at hgi hmi;have hys:=y.cs_eq2;have hia:=(hv.ia b x hgb y hmi).2.2.1;have hal:=hxf.ia y hmi;have hwi:=w1 (i:=i) (by have:=hxf.ins;omega);simp[hgi,hys];obtain⟨YO,hYO⟩:∃YO,YO=[AO.row 1 [[.p (.int .i64 i)]],AO.row 4 [[.p (.int .i64 y.op),.p (.int .i64 y.to),.p (ah y.args),.p (.int .i64 y.n)]]]:=⟨_,rfl⟩;rw[←hYO];obtain⟨X2,hX2⟩:∃X2,X2=X1++(t1++YO):=⟨_,rfl⟩;have y0:=x0 (t1++YO);have y1:=x1 (t1++YO);have y2:=x2 (t1++YO);have y3:=x3 (t1++YO);have y4:=x4 (t1++YO)
    have yi:X2[X1.length+t1.length]?=some (.row 1 [[.p (.int .i64 i)]]):=by rw[hX2,←Wp,Wg (by simp),hYO];simp
    rw[←hX2] at y0 y1 y2 y3 y4⊢;have yl:X1.length+t1.length<X2.length:=(Wa.1 yi).1;have yl2:q+2<=X2.length:=(by omega);have hCF:=kJ (h:=X2) G y.args (λr=> !gB c r b i) (f:=cu) (caps:=[.ptr 3 1 0 0,.ptr q 1 0 0,.ptr (X1.length+t1.length) 1 0 0]) (by omega) (by simp[below];omega) (λr hr=>Sm G c hv hc hfit y0 y1 y2 y3 y4 yi (hia r hr).1 (hia r hr).2 (by omega) (by omega));refine hCF.mono ?_;rintro z h' ⟨rfl,rfl⟩
    have hae:(y.args.any λr=> !gB c r b i)= !(y.args.all λr=>gB c r b i):=by rw[Zc,Bool.not_not]
    rw[hae];cases haa:y.args.all λr=>gB c r b i with
    |false=>
     have hff:bV c b x=false:=by
      have h2:uc (λi (y:Ii)=>y.args.all λr=>gB c r b i) x.ins=false:=dA hgi haa;rw[bV,h2,Yw];rfl
     simp[hbf hff]
    |true=>
     simp[];refine⟨⟨i+1,t1++YO⟩,⟨by simp only;omega,hq2.snoc hgi haa⟩,by simp only;omega,?_⟩;simp only[←hX2];exact aa (We _) (by simp[below,hwi];omega)
   ·have hc3:x.ins.length<=i:=(by simpa using hc3);have hins:=hq2.all hc3
    have hB:bV c b x=(decide (x.jump=1)||gB c x.on b x.ins.length):=by
     have h1:x.phis.all (nO c b)=true:=hq1;rw[bV,h1,hins];rfl
    by_cases hj:x.jump=1
    ·have ho:onU x.jump=false:=(by rw[hj];rfl);simp[x5];refine(pU G x.jump).use ?_;rw[ho];simp[];have hT:bV c b x=true:=(by rw[hB,hj];rfl);refine⟨⟨b+1,t++[RB,RX]++t1⟩,⟨by simp only;omega,hqb.snoc hgb hT⟩,by simp only;omega,?_⟩;simp only[←hXt];exact aa (We _) (by simp[below,hwb,xl];omega)
    ·have hon:=hv.on b x hgb hj
     have ho:onU x.jump=true:=by
      rcases hv.jp b x hgb with e|e|e
      ·exact absurd e hj
      ·rw[e];rfl
      ·rw[e];rfl
     have hRR:=OP G c hv hc hfit (x0 t1) (x1 t1) (x2 t1) hon.1 hon.2 (b:=(b:Int)) (i:=(x.ins.length:Int)) (by omega) (by omega);simp[x5];refine(pU G x.jump).use ?_;rw[ho];simp[x3,x4,x5];refine hRR.mono ?_;rintro z h' ⟨rfl,rfl⟩;have hB2:bV c b x=gB c x.on b x.ins.length:=(by rw[hB];simp[hj]);cases hrr:gB c x.on b x.ins.length with
     |false=>simp[hbf (hB2.trans hrr)]
     |true=>
      have hT:=hB2.trans hrr;simp[];refine⟨⟨b+1,t++[RB,RX]++t1⟩,⟨by simp only;omega,hqb.snoc hgb hT⟩,by simp only;omega,?_⟩;simp only[←hXt];exact aa (We _) (by simp[below,hwb,xl];omega)
 ·have hc2:c.blocks.length<=b:=by simpa using hc2
  have hf:dP c=true:=by rw[dP,hall,hone,hqb.all hc2];rfl
  simp[hf]
end
section
variable (G:aw)
section
variable {h:List AO} {f:FuncId} {caps:List AV}
theorem Iq(xs:List Cd)(p:Cd->Bool)(hl:xs.length<=1073741824)(hcap:au h.length caps)
 (hcall:∀x∈xs,AC Tryz.prog G f (.agg (x.cs.map .p)::caps) h λr h'=>r= .ret (.p (.bool (p x)))/\h'=h):
 AC Tryz.prog G bF [.p (cdL xs),.fn (.func f) caps] h λr h'=>r= .ret (.p (.int .i64 (ixI (xs.findIdx? p))))/\h'=h:=by
 have hnl:cdL xs= .lst 3 (xs.map Cd.cs):=rfl;refine AC.go ja ?_;simp[cY,hnl];refine am (λi:Nat=>aj 19 [(8,.p (.int .i64 i)),(7,.p (.int .i64 xs.length)),(0,.p (.lst 3 (xs.map Cd.cs))),(1,.fn (.func f) caps)]) (λ_=>h) (λi=>i<=xs.length/\∀x∈xs.take i,p x=false) (λi=>xs.length-i) 0 (by simp) (aa (Wo _) (by simp[below,hcap])) ?_;rintro i ⟨hi,hp⟩;simp[];refine aA (λhc=>?_) (λhc=>?_)
 ·simp at hc;have hg:=Wc hc;have htk:=aq hc
  have hfi:p xs[i]=true->xs.findIdx? p=some i:=λe=>by
   rw[Xe];exact⟨hc,e,λj hj=>by have:=hp xs[j] (XV.2 ⟨j,by omega,rfl⟩);simp[this]⟩
  have hcl:=hcall _ (Wm hc);generalize xs[i]=x at hg htk hfi hcl;have hxs:=x.cs_eq2;rw[hxs] at hcl;simp[hg,hxs];refine hcl.mono ?_;rintro r h' ⟨rfl,rfl⟩;cases hpx:p x with
  |true=>
   rw[hfi hpx];simp[ixI]
  |false=>
   simp[];refine⟨i+1,⟨by omega,λy hy=>?_⟩,by omega,aa (Wo _) (by simp[below,hcap,w1 (i:=i) (by omega)])⟩;rw[htk] at hy;rcases Ws.1 hy with hy|hy
   ·exact hp y hy
   ·rw[Wt.1 hy];exact hpx
 ·simp at hc;rw[Wi hc] at hp;have hf:xs.findIdx? p=none:=by rw[XD];exact hp
  rw[hf];simp[ixI]
theorem Ll(xs:List Cd)(p:Cd->Bool)(hl:xs.length<=1073741824)(hcap:au h.length caps)
 (hcall:∀x∈xs,AC Tryz.prog G f (.agg (x.cs.map .p)::caps) h λr h'=>r= .ret (.p (.bool (p x)))/\h'=h):
 AC Tryz.prog G bp [.p (cdL xs),.fn (.func f) caps] h λr h'=>r= .ret (.p (.bool (xs.any p)))/\h'=h:=by
 refine AC.go gn ?_;simp[co];refine(Iq G xs p hl hcap hcall).mono ?_;rintro r h' ⟨rfl,rfl⟩;simp[uf]
end
theorem Fg(c:Cd)(h:CdA c):VF Tryz.prog G fz [.agg (c.cs.map .p)] (.p (.bool (!dP c))):=by
 have hcs:=c.cs_eq2;have hS:=Eo G c h;rw[hcs] at hS;refine AC.go uG ?_;simp[kW,hcs];refine hS.use ?_;simp[]
theorem HL(u:List Cd)(hu:rH 1073741824 u):VF Tryz.prog G iA [.agg [.p (cdL u)]] (.p (.bool (mR u))):=by
 have hul:cdL u= .lst 3 (u.map Cd.cs):=rfl;have hU:=vP G u hu;refine AC.go zN ?_;simp[oc];refine hU.use ?_;cases hv:unB u with
 |false=>
  have hf:mR u=false:=by rw[mR,hv];rfl
  simp[hf]
 |true=>
  simp[];refine(Ll G u (λc=> !dP c) hu.1 (by simp[]) (λc hc=>?_)).mono ?_
  ·obtain⟨k,hk⟩:=WA hc;have hI:=Fg G c (BC hv hk);rw[c.cs_eq2] at hI⊢;exact hI.ac (by simp[below]) (by simp[below]) _
  rintro r h ⟨rfl,rfl⟩
  have hs:mR u= !(u.any λc=> !dP c):=by rw[mR,hv,ZU,Zc]
  simp[hs]
end
section
def ar5(o a b:Int):Option Int:=if o=10 then some (tr5 (decide (a≠0/\b≠0))) else sX o a b
def do5(o a b:Int):Option Int:=if o=10 then some (tr5 (decide (a=0))) else sX o a b
def HY:Option Int->AV
 |some q=> .tup [.p (.int .i64 q),.p (.int .i64 0)]
 |none=> .tup [.p (.int .i64 0),.p (.int .i64 1)]
theorem RQ{o a b:Int}:doK o a b=(do5 o a b).getD (-1):=by rw[doK,do5];split<;>rfl
section
variable (G:aw)
theorem me(b:Bool):VF Tryz.prog G kH [.p (.bool b)] (.p (.int .i64 (tr5 b))):=by
 refine AC.go Ct ?_;cases b<;>simp-implicitDefEqProofs[oW,tr5]
def Cr:Option Int->AV
 |some q=> .tup [.p (.int .i64 q),.p (.bool true)]
 |none=> .tup [.p (.int .i64 0),.p (.bool false)]
theorem Nf(a b:Int):VF Tryz.prog G fv [.p (.int .i64 11),.p (.int .i64 a),.p (.int .i64 b)] (.tup [.p (.int .i64 (tr5 (decide (a=0)))),.p (.bool true)]):=by
 refine AC.go tO ?_;simp-implicitDefEqProofs[nC];refine(me G _).use ?_;simp-implicitDefEqProofs[]
theorem PN(o a b:Int)(ho:3<=o)(h9:o<=10)(ha:V5 a)(hb:V5 b):VF Tryz.prog G fv [.p (.int .i64 o),.p (.int .i64 a),.p (.int .i64 b)] (Cr (ar5 o a b)):=by
 obtain⟨a0,a1⟩:=ha;obtain⟨b0,b1⟩:=hb;refine AC.go tO ?_
 have hm:a*b<=65025:=by
  have h1:=Int.mul_le_mul_of_nonneg_right a1 b0;omega
 have hm0:0<=a*b:=Int.mul_nonneg a0 b0;have ho':o=3\/o=4\/o=5\/o=6\/o=7\/o=8\/o=9\/o=10:=by omega
 rcases ho' with rfl|rfl|rfl|rfl|rfl|rfl|rfl|rfl
 all_goals simp-implicitDefEqProofs[nC,ar5,sX]
 ·rw[al (by omega) (by omega),XM (by omega)];rfl
 ·have hw:IntKind.i64.wrap (a-b)=a-b:=al (by omega) (by omega);rw[hw,al (by omega) (by omega),XM (by omega)];have:(a-b+256)%256=(a-b)%256:=by omega
  rw[this];rfl
 ·rw[al (by omega) (by omega),XM (by omega)];rfl
 ·refine aA (λh=>?_) (λh=>?_)
  ·simp at h;simp-implicitDefEqProofs[h,Cr]
  ·simp at h;simp-implicitDefEqProofs[h,Cr];rw[Int.tdiv_eq_ediv_of_nonneg (by omega)];have h1:a/b<=a:=ZJ b a0;have h2:0<=a/b:=ZO a0 b0;exact al (by omega) (by omega)
 ·refine aA (λh=>?_) (λh=>?_)
  ·simp at h;simp-implicitDefEqProofs[h,Cr]
  ·simp at h;simp-implicitDefEqProofs[h,Cr];rw[XM (by omega)]
 ·refine(me G _).use ?_;simp-implicitDefEqProofs[Cr]
 ·refine(me G _).use ?_;simp-implicitDefEqProofs[Cr]
 ·by_cases h:a=0
  ·simp-implicitDefEqProofs[h];refine(me G _).use ?_;simp-implicitDefEqProofs[Cr]
  ·simp-implicitDefEqProofs[h];refine(me G _).use ?_;simp-implicitDefEqProofs[Cr]
theorem Qi(o a b:Int)(ho:3<=o)(h9:o<=10)(ha:V5 a)(hb:V5 b):VF Tryz.prog G jy [.p (.int .i64 o),.p (.int .i64 a),.p (.int .i64 b)] (HY (do5 o a b)):=by
 have hba:inR a 0 255=true:=by simp only[inR,Wr,Wx];exact ha
 have hbb:inR b 0 255=true:=by simp only[inR,Wr,Wx];exact hb
 refine AC.go Eu ?_;have h1:¬o=1:=by omega
 have h2:¬o=2:=by omega
 by_cases h10:o=10
 ·simp-implicitDefEqProofs[nj,h10];refine(pY G a).use ?_;rw[hba];simp-implicitDefEqProofs[];refine(pY G b).use ?_;rw[hbb];simp-implicitDefEqProofs[];refine(Nf G a 0).use ?_;simp-implicitDefEqProofs[do5,HY]
 ·have hw:inR o 3 9=true:=by simp only[inR,Wr,Wx];omega
  have hA:=PN G o a b ho h9 ha hb;have e:ar5 o a b=do5 o a b:=by rw[ar5,do5,WB h10,WB h10]
  rw[e] at hA;simp-implicitDefEqProofs[nj];refine(pY G a).use ?_;rw[hba];simp-implicitDefEqProofs[];refine(pY G b).use ?_;rw[hbb];simp-implicitDefEqProofs[h1,h2,h10];refine(cb G o 3 9).use ?_;rw[hw];simp-implicitDefEqProofs[];cases hd:do5 o a b with
  |none=>
   rw[hd] at hA;simp only[Cr] at hA;refine hA.use ?_;simp-implicitDefEqProofs[HY]
  |some n=>
   rw[hd] at hA;simp only[Cr] at hA;refine hA.use ?_;simp-implicitDefEqProofs[HY]
end
def wE(W:List (Int × Int)):List (PV × AV):=W.map λp=>(.pair p.1 p.2,.p (.bool true))
theorem HS(a b:Int):∀W:List (Int × Int),bU (.pair a b) (wE W)=some (if(a,b)∈W then some (.p (.bool true)) else none)
 |[]=>by simp[wE,bU]
 |p::W=>by
  have ih:=HS a b W;rw[wE] at ih;rw[wE,WJ,bU,keq]
  by_cases h:a=p.1/\b=p.2
  ·obtain⟨h1,h2⟩:=h;have:(a,b)∈p::W:=by rw[h1,h2];simp
   rw[Wz this];simp[h1,h2]
  ·have h1:(decide (a=p.1)&&decide (b=p.2))=false:=by
    cases h2:(decide (a=p.1)&&decide (b=p.2)) with
    |false=>rfl
    |true=>simp only[Wr,Wx] at h2;exact absurd h2 h
   rw[h1];simp only[ih]
   have h3:((a,b)∈p::W)↔(a,b)∈W:=by
    rw[WE];exact⟨λh4=>h4.resolve_left λe=>h (by rw[←e];exact⟨rfl,rfl⟩),.inr⟩
   simp only[h3]
theorem Oy(a b:Int)(v:AV):∀W:List (Int × Int),(a,b)∉W->dC (.pair a b) v (wE W)=some (wE W++[(.pair a b,v)])
 |[],_=>rfl
 |p::W,h=>by
  have ih:=Oy a b v W λhm=>h (by simp[hm]);rw[wE] at ih;rw[wE,WJ,dC,keq]
  have h1:(decide (a=p.1)&&decide (b=p.2))=false:=by
   cases h2:(decide (a=p.1)&&decide (b=p.2)) with
   |false=>rfl
   |true=>
    simp only[Wr,Wx] at h2;exact absurd (WE.2 (.inl (Prod.ext h2.1 h2.2))) h
  rw[h1];simp only[ih];rfl
structure KMm (c:Cd) (S:KS) (k r o m:Nat) (X:List AO):Prop where
 hk:X[k]?=some (.row 6 [[.p (.int .i64 c.params),.p (.int .i64 c.regs),.p (bkL c.blocks),.sl r 1 0 c.regs.toNat,.sl o 1 0 c.blocks.length,.mp m]])
 hr:X[r]?=some (.row 1 (ae S.regs))
 ho:X[o]?=some (.row 1 (aG S.opn))
 hm:X[m]?=some (.mp (wE S.W))
 rl:S.regs.length=c.regs.toNat
 ol:S.opn.length=c.blocks.length
 dj:k≠r/\k≠o/\k≠m/\r≠o/\r≠m/\o≠m
structure KMf (c:Cd) (S:KS) (k r o m:Nat) (X Y:List AO):Prop where
 mm:KMm c S k r o m Y
 len:Y.length=X.length
 fr:∀j,j≠r->j≠o->j≠m->Y[j]?=X[j]?
theorem KMm.app{c:Cd}{S:KS}{k r o m:Nat}{X:List AO}(H:KMm c S k r o m X)(t:List AO):KMm c S k r o m (X++t):=by
 have h:∀{j:Nat} {x:AO},X[j]?=some x->(X++t)[j]?=some x:=λe=>by rw[Wb (Wa.1 e).1];exact e
 exact⟨h H.hk,h H.hr,h H.ho,h H.hm,H.rl,H.ol,H.dj⟩
theorem KMm.refl{c:Cd}{S:KS}{k r o m:Nat}{X:List AO}(H:KMm c S k r o m X):KMf c S k r o m X X:=⟨H,rfl,λ_ _ _ _=>rfl⟩
theorem ip{l:List Int}{i:Int}(h:i.toNat<l.length):(ae l)[i.toNat]?=some [.p (.int .i64 (rg l i))]:=by rw[ae,Wl,Wc h,rg,Wc h];rfl
theorem KMm.bec{c:Cd}{S:KS}{k r o m:Nat}{X:List AO}(H:KMm c S k r o m X)(q n:Int):KMf c (S.bec q n) k r o m X (X.set r (.row 1 (ae (S.bec q n).regs))):=by
 obtain⟨d1,d2,d3,d4,d5,d6⟩:=H.dj;have hl:=(Wa.1 H.hr).1;refine⟨⟨by rw[Wd (Ne.symm d1)];exact H.hk,Wh hl,by rw[Wd d4];exact H.ho,by rw[Wd d5];exact H.hm,by simp[KS.bec,H.rl],H.ol,H.dj⟩,by simp,λj h1 _ _=>Wd (Ne.symm h1)⟩
theorem KMm.way{c:Cd}{S:KS}{k r o m:Nat}{X:List AO}(H:KMm c S k r o m X){b t:Int}(hn:(b,t)∉S.W):KMf c (S.way b t) k r o m X ((X.set m (.mp (wE S.W++[(.pair b t,.p (.bool true))]))).set o (.row 1 (aG (S.opn.set t.toNat true)))):=by
 obtain⟨d1,d2,d3,d4,d5,d6⟩:=H.dj;have hl:=(Wa.1 H.ho).1;have hl2:=(Wa.1 H.hm).1;have e:S.way b t={S with W:=S.W++[(b,t)],opn:=S.opn.set t.toNat true}:=by rw[KS.way,WB hn]
 rw[e];refine⟨⟨by rw[Wd (Ne.symm d2),Wd (Ne.symm d3)];exact H.hk,by rw[Wd (Ne.symm d4),Wd (Ne.symm d5)];exact H.hr,Wh (by simpa using hl),by rw[Wd d6,Wh hl2];simp[wE],H.rl,by simp[H.ol],H.dj⟩,by simp,λj h1 h2 h3=>by rw[Wd (Ne.symm h2),Wd (Ne.symm h3)]⟩
section
variable (G:aw) {c:Cd} {S:KS} {k r o m:Nat} {X:List AO}
theorem Hl(H:KMm c S k r o m X){q n:Int}(h0:0<=q)(h1:q<c.regs):AC Tryz.prog G cw [.ptr k 6 0 0,.p (.int .i64 q),.p (.int .i64 n)] X λx Y=>x= .ret (.p (.bool (decide (rg S.regs q≠n))))/\KMf c (S.bec q n) k r o m X Y:=by
 have hq:q.toNat<S.regs.length:=by rw[H.rl];omega
 have hg:=ip hq;have hk:=H.hk;have hr:=H.hr;have hrl:(ae S.regs).length=c.regs.toNat:=by rw[ae,Wj,H.rl]
 have hB:=H.bec q n;have hst:(ae S.regs).set q.toNat [.p (.int .i64 n)]=ae (S.bec q n).regs:=by rw[KS.bec,ae,ae,Ym]
 have hrr:q.toNat<c.regs.toNat:=by omega
 refine AC.go rJ ?_;have hmx:max c.regs 0=c.regs:=by omega
 have hge:=λhh=>ag hg hh;simp-implicitDefEqProofs[jj,hk,hr,hge,hrl,h0,hst,hrr,hmx,h1];exact hB
theorem JL(H:KMm c S k r o m X){b t:Int}(h0:0<=t)(h1:t<c.blocks.length):AC Tryz.prog G cy [.ptr k 6 0 0,.p (.int .i64 b),.p (.int .i64 t)] X λx Y=>x= .ret (.p (.bool (decide ((b,t)∉S.W))))/\KMf c (S.way b t) k r o m X Y:=by
 have hk:=H.hk;have ho:=H.ho;have hm:=H.hm;have hW:=HS b t S.W;obtain⟨d1,d2,d3,d4,d5,d6⟩:=H.dj;refine AC.go vg ?_
 by_cases hw:(b,t)∈S.W
 ·have e:S.way b t=S:=by rw[KS.way,Wz hw]
  rw[Wz hw] at hW;rw[e];simp-implicitDefEqProofs[gy,hk,hm,hW,hw];exact H.refl
 ·have hs:=Oy b t (.p (.bool true)) S.W hw;rw[WB hw] at hW;have hB:=H.way hw;have hol:(aG S.opn).length=c.blocks.length:=by rw[jT,H.ol]
  have q1:∀x,(X.set m x)[k]?=X[k]?:=λx=>Wd (Ne.symm d3);have q2:∀x,(X.set m x)[o]?=X[o]?:=λx=>Wd (Ne.symm d6);have q1e:=λx hh=>ag ((q1 x).trans hk) hh;have q2e:=λx hh=>ag ((q2 x).trans ho) hh;have hst:=bP S.opn t.toNat true;have htl:t.toNat<c.blocks.length:=by omega
  obtain⟨z,hz⟩:∃z,S.opn[t.toNat]?=some z:=⟨_,Wc (by rw[H.ol];exact htl)⟩;have hzg:=bh hz;have hze:=λhh=>ag hzg hh;simp-implicitDefEqProofs[gy,hk,hm,hW,hw,hs,q1,q2,ho,hol,h0,h1,hst,htl,hze];exact hB
end
end
section
section
variable (G:aw) {c:Cd} {S:KS} {k r o m:Nat} {X:List AO}
theorem Sa(H:KMm c S k r o m X)(b:Int)(P:List Int)(f:Ph)(hl:f.args.length=P.length)(h6:P.length<=160)(ha:∀x∈f.args,0<=x/\x<c.regs):AC Tryz.prog G gH [.ptr k 6 0 0,.p (.int .i64 b),.p (ah P),.agg (f.cs.map .p)] X λx Y=>x= .ret (.p (.int .i64 (mW S b (P.zip f.args) (-2))))/\Y=X:=by
 have hfs:=f.cs_eq2;have hnl:ah P= .lst 1 (P.map λn=>[.int .i64 n]):=rfl;have hna:ah f.args= .lst 1 (f.args.map λn=>[.int .i64 n]):=rfl;have hkl:=(Wa.1 H.hk).1;refine AC.trim (AC.go uJ ?_) (by simp[below]);simp-implicitDefEqProofs[mr,hfs,hnl,hna];obtain⟨FO,hFO⟩:∃FO,FO=AO.row 2 [[.p (.int .i64 f.to),.p (.lst 1 (f.args.map λn=>[.int .i64 n]))]]:=⟨_,rfl⟩;rw[←hFO];have H2:=H.app [FO];have hk:=H2.hk;have hr:=H2.hr;have hm:=H2.hm;have hmx:∀z:Int,0<=z->max z 0=z:=λz hz=>by omega
 refine am (λa:Nat × Int=>aj 55 [(16,.p (.int .i64 a.1)),(15,.p (.int .i64 f.args.length)),(14,.p (.lst 1 (f.args.map λn=>[.int .i64 n]))),(9,.p (.int .i64 a.2)),(2,.p (.lst 1 (P.map λn=>[.int .i64 n]))),(1,.p (.int .i64 b)),(0,.ptr k 6 0 0)]) (λ_=>X++[FO]) (λa=>a.1<=f.args.length/\a.2=mW S b ((P.zip f.args).take a.1) (-2)) (λa=>f.args.length-a.1) (0,-2) ⟨We _,rfl⟩ (aa (by simp) (by simp[below];omega)) ?_;rintro⟨i,a⟩ ⟨hi,hq⟩;simp only at hi hq⊢;simp-implicitDefEqProofs[];refine aA (λhcc=>?_) (λhcc=>?_)
 ·have hcc:i<f.args.length:=by simpa using hcc
  have hgp:=Wc (l:=P) (i:=i) (by omega);generalize P[i]'(by omega)=p at hgp;have hga:=Wc hcc;have hma:=Wm hcc;generalize f.args[i]=g at hga hma;obtain⟨g0,g1⟩:=ha g hma;have hzk:(P.zip f.args)[i]?=some (p,g):=by rw[Yo];exact⟨hgp,hga⟩
  have hzt:(P.zip f.args).take (i+1)=(P.zip f.args).take i++[(p,g)]:=by rw[WQ,hzk];rfl
  have hrg:=ip (l:=S.regs) (i:=g) (by rw[H.rl];omega);have hrge:=λhh=>ag hrg hh;have hrl:(ae S.regs).length=c.regs.toNat:=by rw[ae,Wj,H.rl]
  have hmx2:=hmx c.regs (by omega);have hgt:g.toNat<c.regs.toNat:=by omega
  have hW:=HS p b S.W;have hwi:=w1 (i:=i) (by omega);have hph:∀a',(if(p,b)∈S.W then(if a= -2 then rg S.regs g else if rg S.regs g= -2\/a=rg S.regs g then a else-1) else a)=a'->a'=mW S b ((P.zip f.args).take (i+1)) (-2):=λa' e=>by rw[hzt,Cb,←hq,←e];rfl
  generalize rg S.regs g=v at hrg hrge hph
  by_cases hw:(p,b)∈S.W
  ·rw[Wz hw] at hW;simp only[Wz hw] at hph
   by_cases h1:v= -2
   ·simp-implicitDefEqProofs[hga,hgp,hk,hr,hm,hrge,hrl,hmx2,g0,g1,hgt,hW,h1];exact⟨i+1,a,⟨by omega,hph _ (by rw[h1];simp;omega)⟩,by omega,aa (by simp) (by simp[below,hwi];omega)⟩
   ·by_cases h2:a= -2
    ·simp-implicitDefEqProofs[hga,hgp,hk,hr,hm,hrge,hrl,hmx2,g0,g1,hgt,hW,h1,h2];exact⟨i+1,v,⟨by omega,hph _ (by rw[Wz h2])⟩,by omega,aa (by simp) (by simp[below,hwi];omega)⟩
    ·by_cases h3:a=v
     ·simp-implicitDefEqProofs[hga,hgp,hk,hr,hm,hrge,hrl,hmx2,g0,g1,hgt,hW,h1,h3];exact⟨i+1,v,⟨by omega,hph _ (by rw[WB h2,Wz (.inr h3)];exact h3)⟩,by omega,aa (by simp) (by simp[below,hwi];omega)⟩
     ·simp-implicitDefEqProofs[hga,hgp,hk,hr,hm,hrge,hrl,hmx2,g0,g1,hgt,hW,h1,h2,h3];exact⟨i+1,-1,⟨by omega,hph _ (by rw[WB h2,WB (λh=>h.elim h1 h3)])⟩,by omega,aa (by simp) (by simp[below,hwi];omega)⟩
  ·rw[WB hw] at hW;simp only[WB hw] at hph;simp-implicitDefEqProofs[hga,hgp,hk,hr,hm,hrge,hrl,hmx2,g0,g1,hgt,hW];exact⟨i+1,a,⟨by omega,hph _ rfl⟩,by omega,aa (by simp) (by simp[below,hwi];omega)⟩
 ·have hcc:f.args.length<=i:=by simpa using hcc
  rw[Wi (by rw[YX];omega)] at hq;simp-implicitDefEqProofs[hq]
end
end
section
structure MqS where (i:Nat) (t:List AO) (V:AV)
def MqI(n:Nat)(V:AV)(l:List Int)(W:List AO):Prop:=(V= .nils/\l=[])\/∃id,V= .sl id 1 0 l.length/\W[id]?=some (.row 1 (ae l))/\n<=id
theorem MqI.view{n:Nat}{V:AV}{l:List Int}{W:List AO}(h:MqI n V l W):View W V (ah l):=by
 rcases h with⟨rfl,rfl⟩|⟨id,rfl,h,_⟩
 ·exact .nils _
 ·exact Mn h
section
variable (G:aw) {X:List AO} {f:FuncId} {caps:List AV}
theorem DI(xs:List Int)(F:Int->Int)(hl:xs.length<=1073741824)(hcap:au X.length caps)
 (hcall:∀t,∀x∈xs,AC Tryz.prog G f (.p (.int .i64 x)::caps) (X++t) λr h'=>r= .ret (.p (.int .i64 (F x)))/\h'=X++t):
 AC Tryz.prog G dt [.p (ah xs),.fn (.func f) caps] X λr Y=>∃V t,r= .ret V/\Y=X++t/\MqI X.length V (xs.map F) (X++t):=by
 have hnl:ah xs= .lst 1 (xs.map λn=>[.int .i64 n]):=rfl;refine AC.go ua ?_;simp[kX,hnl];refine am (λa:MqS=>aj 22 [(10,.p (.int .i64 a.i)),(9,.p (.int .i64 xs.length)),(8,.p (.lst 1 (xs.map λn=>[.int .i64 n]))),(5,a.V),(1,.fn (.func f) caps)]) (λa=>X++a.t) (λa=>a.i<=xs.length/\MqI X.length a.V ((xs.take a.i).map F) (X++a.t)) (λa=>xs.length-a.i) ⟨0,[],.nils⟩ ⟨We _,.inl ⟨rfl,rfl⟩⟩ ?_ ?_
 ·simp only[WI];exact aa (Wo _) (by simp[below,hcap])
 rintro⟨i,t,V⟩ ⟨hi,hV⟩;simp only at hi hV⊢;have hcap2:∀m,X.length<=m->au m caps:=λm hm=>dx hm _ hcap;simp[];refine aA (λhcc=>?_) (λhcc=>?_)
 ·have hcc:i<xs.length:=by simpa using hcc
  have hg:=Wc hcc;have htk:xs.take (i+1)=xs.take i++[xs[i]]:=aq hcc;have hcl:=hcall t _ (Wm hcc);generalize xs[i]=x at hg htk hcl;have hwi:=w1 (i:=i) (by omega);have hmt:(xs.take (i+1)).map F=(xs.take i).map F++[F x]:=by rw[htk,WF];rfl
  have hml:((xs.take i).map F).length=i:=by rw[Wj,WD];omega
  have hii:∀l:List Int,ae (l++[F x])=ae l++[[.p (.int .i64 (F x))]]:=λl=>by simp[ae]
  simp[hg];refine hcl.mono ?_;rintro r h' ⟨rfl,rfl⟩;generalize (xs.take i).map F=l at hV hmt hml;rcases hV with⟨rfl,rfl⟩|⟨id,rfl,hid,h3⟩
  ·subst hml;simp[];refine⟨⟨1,t++[AO.row 1 [[AV.p (PV.int IntKind.i64 (F x))]],AO.row 1 [[AV.p (PV.int IntKind.i64 (F x))]]],.sl (X.length+(t.length+1)) 1 0 1⟩,⟨by simp only;omega,.inr ⟨X.length+(t.length+1),?_,?_,by omega⟩⟩,by simp only;omega,?_⟩
   ·simp only[WL,WV] at hmt;simp only[←XX,hmt];rfl
   ·simp only[WL,WV] at hmt;simp only[←XX,hmt];rw[Wg (by omega),WP,Wg (by omega),WP];rfl
   ·exact aa (by simp) (by simp[below,show IntKind.i64.wrap 1=1 from rfl];exact hcap2 _ (by omega))
  ·have hidl:=(Wa.1 hid).1;have m7:∀t',(X++(t++t'))[id]?=some (.row 1 (ae l)):=λt'=>by rw[←Wp,Wb hidl];exact hid
   have m7e:=λt hh=>ag (m7 t) hh;have hrl:(ae l).length=i:=(by rw[ae,Wj];exact hml);have htk2:List.take i (ae l)=ae l:=Wi (by omega);rw[hml];simp[m7,hrl,htk2]
   have hset:(X++(t++[AO.row 1 [[AV.p (PV.int IntKind.i64 (F x))]]])).set id AO.dead++[AO.row 1 (ae l++[[AV.p (PV.int IntKind.i64 (F x))]])]=X++((t++[AO.row 1 [[AV.p (PV.int IntKind.i64 (F x))]]]).set (id-X.length) AO.dead++[AO.row 1 (ae l++[[AV.p (PV.int IntKind.i64 (F x))]])]):=by rw[Xy _ _ h3,Wp]
   rw[hset];refine⟨⟨by omega,by omega⟩,⟨i+1,(t++[AO.row 1 [[AV.p (PV.int IntKind.i64 (F x))]]]).set (id-X.length) AO.dead++[AO.row 1 (ae l++[[AV.p (PV.int IntKind.i64 (F x))]])],.sl (X.length+(t.length+1)) 1 0 (i+1)⟩,⟨by simp only;omega,.inr ⟨X.length+(t.length+1),?_,?_,by omega⟩⟩,by simp only;omega,?_⟩
   ·simp only[←XX,hmt,Wn,Xf,hml]
   ·simp only[←XX,hmt];rw[Wg (by omega),WP,Wg (by simp),Wy,Wn,Xf,Xd,hii];rfl
   ·exact aa (by simp) (by simp[below,hwi];exact hcap2 _ (by omega))
 ·have hcc:xs.length<=i:=by simpa using hcc
  rw[Wi hcc] at hV
  have hVc:V.cells=[V]/\V.isCell=true:=by rcases hV with⟨rfl,_⟩|⟨id,rfl,_⟩<;>exact⟨rfl,rfl⟩
  obtain⟨v1,v2⟩:=hVc;simp[-AV.cells,-AV.isCell];exact hV
end
section
variable (G:aw) {c:Cd} {S:KS} {k r o m:Nat} {X:List AO}
theorem PX(H:KMm c S k r o m X){q2:Nat}(h2:X[q2]?=some (.row 1 [[.ptr k 6 0 0]])){q:Int}(h0:0<=q)(h1:q<c.regs):AC Tryz.prog G cU [.p (.int .i64 q),.ptr q2 1 0 0] X λx Y=>x= .ret (.p (.int .i64 (rg S.regs q)))/\Y=X:=by
 have hq:q.toNat<S.regs.length:=by rw[H.rl];omega
 have hg:=ip hq;have hge:=λhh=>ag hg hh;have hk:=H.hk;have hr:=H.hr;have hrl:(ae S.regs).length=c.regs.toNat:=by rw[ae,Wj,H.rl]
 have hrr:q.toNat<c.regs.toNat:=by omega
 have hmx:max c.regs 0=c.regs:=by omega
 refine AC.go sY ?_;simp[kr,hk,hr,hge,hrl,h0,hrr,hmx,h1,h2]
theorem Sj(H:KMm c S k r o m X)(hvk:∀r,VK (rg S.regs r))(y:Ii)(h1:1<=y.op/\y.op<=14)(hs:aI y.op=true)(ha:∀r∈y.args,0<=r/\r<c.regs)(hl:y.op≠14->(y.args.length:Int)=da y.op):
 AC Tryz.prog G gC [.ptr k 6 0 0,.agg (y.cs.map .p)] X λz h'=>z= .ret (.p (.int .i64 (fp S.regs y)))/\h'=X:=by
 have hys:=y.cs_eq2;have hnl:ah y.args= .lst 1 (y.args.map λn=>[.int .i64 n]):=rfl;have hk:=H.hk;have hr:=H.hr;have hkl:=(Wa.1 hk).1;have hrl':=(Wa.1 hr).1;have m1:∀t,(X++t)[k]?=X[k]?:=λt=>Wb hkl;have m2:∀t,(X++t)[r]?=X[r]?:=λt=>Wb hrl';have hrl:(ae S.regs).length=c.regs.toNat:=by rw[ae,Wj,H.rl]
 refine AC.trim ?_ (by simp[below]);refine AC.go uQ ?_
 by_cases o1:y.op=1
 ·simp[bK,hys,hnl,o1,fp]
 by_cases o2:y.op=2
 ·have hll:=hl (by omega);rw[o2] at hll
  obtain⟨a,haa⟩:∃a,y.args=[a]:=by
   have:y.args.length=1:=by have:da 2=1:=rfl
                            omega
   exact Yn.1 this
  have h0:=ha a (by rw[haa];simp);have h3:=ip (l:=S.regs) (i:=a) (by rw[H.rl];omega);have h3e:=λhh=>ag h3 hh;have hmx:max c.regs 0=c.regs:=by omega
  have hgt:a.toNat<c.regs.toNat:=by omega
  simp[bK,hys,o2,fp,haa,m1,m2,hk,hr,h3e,h0.1,h0.2,hrl,hmx,hgt,show ah [a]= .lst 1 [[.int .i64 a]] from rfl]
 by_cases o3:y.op=11\/y.op=14
 ·have hin:fp S.regs y= -1:=by rw[fp,WB o1,WB o2,Wz o3]
  rcases o3 with o3|o3
  ·simp[bK,hys,hnl,o3,hin]
  ·simp[bK,hys,hnl,o3,hin]
 have hop:3<=y.op/\y.op<=10:=by
  have h5:y.op≠12/\y.op≠13:=by
   simp only[aI,Wr,Yx,decide_eq_false_iff_not] at hs;exact⟨hs.1.2,hs.2⟩
  omega
 have hll:=hl (by omega);obtain⟨V,hV⟩:∃V,V=y.args.map (rg S.regs):=⟨_,rfl⟩;have hVl:V.length=y.args.length:=by rw[hV,Wj]
 have hV2:V.length<=2/\1<=V.length:=by
  have:da y.op=1\/da y.op=2:=by
   unfold da;split
   ·omega
   ·split<;>simp
  omega
 have hVk:∀v∈V,VK v:=λv hv=>by
  rw[hV] at hv;obtain⟨q,_,rfl⟩:=Ww.1 hv;exact hvk q
 obtain⟨a,b,n,hn,g0,g1,hh,hlast⟩:∃a b,∃n:Nat,V.length=n+1/\(ae V)[0]?=some [.p (.int .i64 a)]/\(ae V)[n]?=some [.p (.int .i64 b)]/\V.headD 0=a/\V.getLastD 0=b:=by
  match V,hV2 with
  |[a],_=>exact⟨a,a,0,rfl,rfl,rfl,rfl,rfl⟩
  |[a,b],_=>exact⟨a,b,1,rfl,rfl,rfl,rfl,rfl⟩
 have hab:a∈V/\b∈V:=by
  have hne:V≠[]:=λe=>by rw[e] at hV2;simp at hV2
  exact⟨by rw[←hh];exact rn hne,by rw[←hlast];exact mL hne⟩
 have hins:fp S.regs y=if-1∈V then-1 else if-2∈V then-2 else(do5 y.op a b).getD (-1):=by rw[fp,WB o1,WB o2,WB o3,←hV,hh,hlast,RQ]
 clear hh hlast;have o4:¬y.op=11:=λe=>o3 (.inl e);have o5:¬y.op=14:=λe=>o3 (.inr e);rw[hins];obtain⟨T0,hT0⟩:∃T0,T0=[AO.row 1 [[.ptr k 6 0 0]],.row 4 [[.p (.int .i64 y.op),.p (.int .i64 y.to),.p (.lst 1 (y.args.map λn=>[.int .i64 n])),.p (.int .i64 y.n)]]]:=⟨_,rfl⟩
 have hM:=DI (X:=X++T0) (f:=cU) (caps:=[.ptr X.length 1 0 0]) G y.args (rg S.regs) (by omega) (by rw[hT0];simp[below]) (λt q hq=>by
  rw[Wp];refine PX G (H.app _) ?_ (ha q hq).1 (ha q hq).2;rw[Wg (Wo _),Xd,hT0];rfl)
 rw[←hV,hnl] at hM;simp[bK,hys,hnl,o1,o2,o4,o5];rw[←hT0];refine hM.mono ?_;rintro z Y ⟨U,t,rfl,rfl,hU⟩;have hUv:=hU.view;have hC:=λv=>sB G V v (by omega);rcases hU with⟨_,e⟩|⟨id,rfl,hid,h3⟩
 ·rw[e] at hV2;simp at hV2
 have e4:((X++T0)++t)[X.length+1]?=some (.row 4 [[.p (.int .i64 y.op),.p (.int .i64 y.to),.p (.lst 1 (y.args.map λn=>[.int .i64 n])),.p (.int .i64 y.n)]]):=by rw[Wp,Wg (by omega),WP,hT0];rfl
 obtain⟨Y,hY⟩:∃Y,Y=(X++T0)++t:=⟨_,rfl⟩;have hYX:∃l,Y=X++l:=⟨T0++t,by rw[hY,Wp]⟩;rw[←hY] at e4 hid hUv⊢;simp[];refine((hC (-1)).lend (.one hUv (.one (.p _) .nil)) rfl).mono ?_;rintro z Z ⟨rfl,rfl⟩
 by_cases c1: -1∈V
 ·simp[c1];exact hYX
 simp[c1];refine((hC (-2)).lend (.one hUv (.one (.p _) .nil)) rfl).mono ?_;rintro z Z ⟨rfl,rfl⟩
 by_cases c2: -2∈V
 ·simp[c2];exact hYX
 have hV5:∀v∈V,V5 v:=λv hv=>(hVk v hv).v5 (λe=>c1 (by rw[←e];exact hv)) (λe=>c2 (by rw[←e];exact hv));have hdo:∀a b,V5 a->V5 b->VF Tryz.prog G jy [.p (.int .i64 y.op),.p (.int .i64 a),.p (.int .i64 b)] (HY (do5 y.op a b)):=λa b ha hb=>Qi G y.op a b hop.1 hop.2 ha hb;have hD:=hdo a b (hV5 a hab.1) (hV5 b hab.2);rw[hn];have hVr:(ae V).length=n+1:=by rw[ae,Wj,hn]
 have hw:IntKind.i64.wrap ((n:Int)+1-1)=(n:Int):=by
  have e:(n:Int)+1-1=n:=by omega
  rw[e];exact al (by omega) (by omega)
 have hw2:IntKind.i64.wrap (n:Int)=(n:Int):=al (by omega) (by omega);have g0e:=λhh=>ag g0 hh;have g1e:=λhh=>ag g1 hh;have hide:=λhh=>ag hid hh;have e4e:=λhh=>ag e4 hh;simp[c2,e4,hid,g0e,g1e,hVr,hw2];cases hdd:do5 y.op a b with
 |none=>
  rw[hdd] at hD;simp only[HY] at hD;refine⟨by omega,hD.use ?_⟩;simp[];exact hYX
 |some q=>
  rw[hdd] at hD;simp only[HY] at hD;refine⟨by omega,hD.use ?_⟩;simp[];exact hYX
end
end
end Go.Proofs.YtigmcjbgnmpbeaaGreat
