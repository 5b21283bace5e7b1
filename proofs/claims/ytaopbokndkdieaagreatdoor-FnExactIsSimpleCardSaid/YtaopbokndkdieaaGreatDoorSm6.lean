/-
  Contracts and lemmas that the card needs, part 6.
-/
import Derived.Test.YtaopbokndkdieaaGreatDoorSm5
namespace Go.Proofs.YtaopbokndkdieaaGreatDoor
open Go Go.Aw
set_option maxRecDepth 100000
set_option maxHeartbeats 4000000
noncomputable def eqX {α:Type} (a b:α):Bool:= @decide (a=b) (Classical.propDecidable _)
theorem cP{α:Type}{a b:α}(h:a=b):eqX a b=true:=by unfold eqX;exact @decide_eq_true _ (Classical.propDecidable _) h
theorem aV{α:Type}{a b:α}(h:¬a=b):eqX a b=false:=by unfold eqX;exact @decide_eq_false _ (Classical.propDecidable _) h
theorem Ex.ext'{a b:Ex}(h1:a.op=b.op)(h2:a.n=b.n)(h3:a.name=b.name)(h4:a.kids=b.kids):a=b:=by
 cases a;cases b;simp only[Ex.op,Ex.n,Ex.name,Ex.kids] at*;subst h1 h2 h3 h4;rfl
theorem Sm.ext'{a b:Sm}(h1:a.op=b.op)(h2:a.name=b.name)(h3:a.args=b.args)(h4:a.body=b.body)(h5:a.els=b.els):a=b:=by
 cases a;cases b;simp only[Sm.op,Sm.name,Sm.args,Sm.body,Sm.els] at*;subst h1 h2 h3 h4 h5;rfl
theorem cJ{α:Type}{a b:List α}{i:Nat}(h:a.take i=b.take i)(ha:i<a.length)(hb:i<b.length)(e:a[i]=b[i]):a.take (i+1)=b.take (i+1):=by
 rw[ah ha,ah hb,h,e]
theorem dS{α:Type}{a b:List α}(h:a.take a.length=b.take a.length)(hl:a.length=b.length):a=b:=by
 rw[List.take_length] at h
 rw[h,hl,List.take_length]
theorem qB{α:Type}{a b:List α}{i:Nat}(ha:i<a.length)(hb:i<b.length)(e:¬a[i]=b[i]):¬a=b:=fun h=>by
 subst h;exact e rfl
variable (G:aI)
theorem En(a b:List (List UInt8))(ha:a.length≤1099511627776)(hb:b.length≤1099511627776):VF Tryz.prog G jJ [.p (aN a),.p (aN b)] (.p (.bool (eqX a b))):=by
 refine AC.go uw ?_
 have hsl:∀l,aN l= .lst 1 (l.map fun w=>[.str w]):=fun _=>rfl
 by_cases hl:a.length=b.length
 case neg=>
  have hl':¬(a.length:Int)=b.length:=by omega
  rw[aV fun e=>hl (by rw[e])]
  simp-implicitDefEqProofs[jo,hsl,hl']
 simp-implicitDefEqProofs[jo,hsl,hl]
 refine aF (fun i:Nat=>aj 26 [(0,.p (aN a)),(1,.p (aN b)),(5,.p (.int .i64 i))]) (fun _=>[]) (fun i=>i≤a.length∧a.take i=b.take i) (fun i=>a.length-i) 0 (by simp) (aJ rfl (by simp[below,hsl])) ?_
 rintro i ⟨hi,he⟩
 simp-implicitDefEqProofs[hsl,hl]
 refine bh (fun h=>?_) (fun h=>?_)
 ·simp at h
  have h2:i<a.length:=by omega
  have g1:=List.getElem?_eq_getElem h2
  have g2:=List.getElem?_eq_getElem h
  have nx:=cJ he h2 h
  have nn:=qB h2 h
  generalize a[i]=x at g1 nx nn
  generalize b[i]=y at g2 nx nn
  by_cases e:x=y
  ·simp-implicitDefEqProofs[g1,g2,e]
   exact⟨i+1,⟨by omega,nx e⟩,by omega,aJ rfl (by simp[below,hsl,w1 (i:=i) (by omega)])⟩
  ·rw[aV (nn e)]
   simp-implicitDefEqProofs[g1,g2,e]
 ·simp at h
  have hie:i=a.length:=by omega
  subst hie
  rw[cP (dS he hl)]
  simp-implicitDefEqProofs[]
theorem Fi(a b:List (List UInt8))(ha:a.length≤1099511627776)(hb:b.length≤1099511627776):VF Tryz.prog G eq [.p (aN a),.p (aN b)] (.p (.bool (eqX a b))):=by
 refine AC.go mA ?_
 have hsl:∀l,aN l= .lst 1 (l.map fun w=>[.str w]):=fun _=>rfl
 by_cases hl:a.length=b.length
 case neg=>
  have hl':¬(a.length:Int)=b.length:=by omega
  rw[aV fun e=>hl (by rw[e])]
  simp-implicitDefEqProofs[ed,hsl,hl']
 simp-implicitDefEqProofs[ed,hsl,hl]
 refine aF (fun i:Nat=>aj 26 [(0,.p (aN a)),(1,.p (aN b)),(12,.p (.int .i64 b.length)),(13,.p (.int .i64 i))]) (fun _=>[]) (fun i=>i≤a.length∧a.take i=b.take i) (fun i=>a.length-i) 0 (by simp) (aJ rfl (by simp[below,hsl])) ?_
 rintro i ⟨hi,he⟩
 simp-implicitDefEqProofs[hsl]
 refine bh (fun h=>?_) (fun h=>?_)
 ·simp at h
  have h2:i<a.length:=by omega
  have g1:=List.getElem?_eq_getElem h2
  have g2:=List.getElem?_eq_getElem h
  have nx:=cJ he h2 h
  have nn:=qB h2 h
  generalize a[i]=x at g1 nx nn
  generalize b[i]=y at g2 nx nn
  by_cases e:x=y
  ·simp-implicitDefEqProofs[g1,g2,e]
   exact⟨i+1,⟨by omega,nx e⟩,by omega,aJ rfl (by simp[below,hsl,w1 (i:=i) (by omega)])⟩
  ·rw[aV (nn e)]
   simp-implicitDefEqProofs[g1,g2,e]
 ·simp at h
  have hie:i=a.length:=by omega
  subst hie
  rw[cP (dS he hl)]
  simp-implicitDefEqProofs[]
theorem ph(F:FuncId)(a b:List Ex)(ha:a.length≤1099511627776)(hb:b.length≤1099511627776)(H:∀x∈a,∀y∈b,VF Tryz.prog G F [.agg (x.cs.map .p),.agg (y.cs.map .p)] (.p (.bool (eqX x y)))):VF Tryz.prog G bi [.p (exL a),.p (exL b),.fn (.func F) []] (.p (.bool (eqX a b))):=by
 refine AC.go iD ?_
 have hsl:∀l,exL l= .lst 4 (l.map Ex.cs):=fun _=>rfl
 by_cases hl:a.length=b.length
 case neg=>
  have hl':¬(a.length:Int)=b.length:=by omega
  rw[aV fun e=>hl (by rw[e])]
  simp-implicitDefEqProofs[cz,hsl,hl']
 simp-implicitDefEqProofs[cz,hsl,hl]
 refine aF (fun i:Nat=>aj 32 [(0,.p (exL a)),(1,.p (exL b)),(2,.fn (.func F) []),(15,.p (exL a)),(16,.p (.int .i64 b.length)),(17,.p (.int .i64 i))]) (fun _=>[]) (fun i=>i≤a.length∧a.take i=b.take i) (fun i=>a.length-i) 0 (by simp) (aJ rfl (by simp[below,af,hsl])) ?_
 rintro i ⟨hi,he⟩
 simp-implicitDefEqProofs[hsl]
 refine bh (fun h=>?_) (fun h=>?_)
 ·simp at h
  have h2:i<a.length:=by omega
  have g1:=List.getElem?_eq_getElem h2
  have g2:=List.getElem?_eq_getElem h
  have nx:=cJ he h2 h
  have nn:=qB h2 h
  have hh:=H _ (List.getElem_mem h2) _ (List.getElem_mem h)
  generalize a[i]=x at g1 nx nn hh
  generalize b[i]=y at g2 nx nn hh
  have c1:=x.cs_eq
  have c2:=y.cs_eq
  rw[c1,c2] at hh
  simp-implicitDefEqProofs[g1,g2,c1,c2]
  refine hh.use ?_
  by_cases e:x=y
  ·rw[cP e]
   simp-implicitDefEqProofs[]
   exact⟨i+1,⟨by omega,nx e⟩,by omega,aJ rfl (by simp[below,af,hsl,w1 (i:=i) (by omega)])⟩
  ·rw[aV e,aV (nn e)]
   simp-implicitDefEqProofs[]
 ·simp at h
  have hie:i=a.length:=by omega
  subst hie
  rw[cP (dS he hl)]
  simp-implicitDefEqProofs[]
theorem pc(F:FuncId)(a b:List Sm)(ha:a.length≤1099511627776)(hb:b.length≤1099511627776)(H:∀x∈a,∀y∈b,VF Tryz.prog G F [.agg (x.cs.map .p),.agg (y.cs.map .p)] (.p (.bool (eqX x y)))):VF Tryz.prog G aS [.p (smL a),.p (smL b),.fn (.func F) []] (.p (.bool (eqX a b))):=by
 refine AC.go iE ?_
 have hsl:∀l,smL l= .lst 5 (l.map Sm.cs):=fun _=>rfl
 by_cases hl:a.length=b.length
 case neg=>
  have hl':¬(a.length:Int)=b.length:=by omega
  rw[aV fun e=>hl (by rw[e])]
  simp-implicitDefEqProofs[cF,hsl,hl']
 simp-implicitDefEqProofs[cF,hsl,hl]
 refine aF (fun i:Nat=>aj 32 [(0,.p (smL a)),(1,.p (smL b)),(2,.fn (.func F) []),(15,.p (smL a)),(16,.p (.int .i64 b.length)),(17,.p (.int .i64 i))]) (fun _=>[]) (fun i=>i≤a.length∧a.take i=b.take i) (fun i=>a.length-i) 0 (by simp) (aJ rfl (by simp[below,af,hsl])) ?_
 rintro i ⟨hi,he⟩
 simp-implicitDefEqProofs[hsl]
 refine bh (fun h=>?_) (fun h=>?_)
 ·simp at h
  have h2:i<a.length:=by omega
  have g1:=List.getElem?_eq_getElem h2
  have g2:=List.getElem?_eq_getElem h
  have nx:=cJ he h2 h
  have nn:=qB h2 h
  have hh:=H _ (List.getElem_mem h2) _ (List.getElem_mem h)
  generalize a[i]=x at g1 nx nn hh
  generalize b[i]=y at g2 nx nn hh
  have c1:=x.cs_eq
  have c2:=y.cs_eq
  rw[c1,c2] at hh
  simp-implicitDefEqProofs[g1,g2,c1,c2]
  refine hh.use ?_
  by_cases e:x=y
  ·rw[cP e]
   simp-implicitDefEqProofs[]
   exact⟨i+1,⟨by omega,nx e⟩,by omega,aJ rfl (by simp[below,af,hsl,w1 (i:=i) (by omega)])⟩
  ·rw[aV e,aV (nn e)]
   simp-implicitDefEqProofs[]
 ·simp at h
  have hie:i=a.length:=by omega
  subst hie
  rw[cP (dS he hl)]
  simp-implicitDefEqProofs[]
theorem zZ(F:FuncId)(a b:List Fd)(ha:a.length≤1099511627776)(hb:b.length≤1099511627776)(H:∀x∈a,∀y∈b,VF Tryz.prog G F [.agg (x.cs.map .p),.agg (y.cs.map .p)] (.p (.bool (eqX x y)))):VF Tryz.prog G cX [.p (fdL a),.p (fdL b),.fn (.func F) []] (.p (.bool (eqX a b))):=by
 refine AC.go jk ?_
 have hsl:∀l,fdL l= .lst 3 (l.map Fd.cs):=fun _=>rfl
 by_cases hl:a.length=b.length
 case neg=>
  have hl':¬(a.length:Int)=b.length:=by omega
  rw[aV fun e=>hl (by rw[e])]
  simp-implicitDefEqProofs[cW,hsl,hl']
 simp-implicitDefEqProofs[cW,hsl,hl]
 refine aF (fun i:Nat=>aj 32 [(0,.p (fdL a)),(1,.p (fdL b)),(2,.fn (.func F) []),(15,.p (fdL a)),(16,.p (.int .i64 b.length)),(17,.p (.int .i64 i))]) (fun _=>[]) (fun i=>i≤a.length∧a.take i=b.take i) (fun i=>a.length-i) 0 (by simp) (aJ rfl (by simp[below,af,hsl])) ?_
 rintro i ⟨hi,he⟩
 simp-implicitDefEqProofs[hsl]
 refine bh (fun h=>?_) (fun h=>?_)
 ·simp at h
  have h2:i<a.length:=by omega
  have g1:=List.getElem?_eq_getElem h2
  have g2:=List.getElem?_eq_getElem h
  have nx:=cJ he h2 h
  have nn:=qB h2 h
  have hh:=H _ (List.getElem_mem h2) _ (List.getElem_mem h)
  generalize a[i]=x at g1 nx nn hh
  generalize b[i]=y at g2 nx nn hh
  have c1:=x.cs_eq'
  have c2:=y.cs_eq'
  rw[c1,c2] at hh
  simp-implicitDefEqProofs[g1,g2,c1,c2]
  refine hh.use ?_
  by_cases e:x=y
  ·rw[cP e]
   simp-implicitDefEqProofs[]
   exact⟨i+1,⟨by omega,nx e⟩,by omega,aJ rfl (by simp[below,af,hsl,w1 (i:=i) (by omega)])⟩
  ·rw[aV e,aV (nn e)]
   simp-implicitDefEqProofs[]
 ·simp at h
  have hie:i=a.length:=by omega
  subst hie
  rw[cP (dS he hl)]
  simp-implicitDefEqProofs[]
theorem AM:∀(N:Nat) (a:Ex),a.sz≤N→a.sz≤1073741824→∀b:Ex,b.sz≤1073741824→VF Tryz.prog G cD [.agg (a.cs.map .p),.agg (b.cs.map .p)] (.p (.bool (eqX a b))):=by
 intro N
 induction N with
 |zero=>intro e he;have:=e.sz_eq;omega
 |succ N ih=>
  intro a ha hz b hb
  have c1:=a.cs_eq
  have c2:=b.cs_eq
  have z1:=a.sz_eq
  have z2:=b.sz_eq
  have l1:=aM a.kids
  have l2:=aM b.kids
  refine AC.go tC ?_
  by_cases h1:a.op=b.op
  case neg=>
   rw[aV fun e=>h1 (by rw[e])]
   simp-implicitDefEqProofs[dW,c1,c2,h1]
  by_cases h2:a.n=b.n
  case neg=>
   rw[aV fun e=>h2 (by rw[e])]
   simp-implicitDefEqProofs[dW,c1,c2,h1,h2]
  by_cases h3:a.name=b.name
  case neg=>
   rw[aV fun e=>h3 (by rw[e])]
   simp-implicitDefEqProofs[dW,c1,c2,h1,h2,h3]
  have hE:eqX a b=eqX a.kids b.kids:=by
   by_cases h4:a.kids=b.kids
   ·rw[cP h4,cP (Ex.ext' h1 h2 h3 h4)]
   ·rw[aV h4,aV fun e=>h4 (by rw[e])]
  rw[hE]
  simp-implicitDefEqProofs[dW,c1,c2,h1,h2,h3]
  refine(ph G cD a.kids b.kids (by omega) (by omega) fun x hx y hy=>?_).use ?_
  ·have:=az hx
   have:=az hy
   exact ih x (by omega) (by omega) y (by omega)
  simp-implicitDefEqProofs[]
theorem An(a b:List Ex)(ha:cS a≤1073741824)(hb:cS b≤1073741824):VF Tryz.prog G bi [.p (exL a),.p (exL b),.fn (.func cD) []] (.p (.bool (eqX a b))):=by
 have:=aM a
 have:=aM b
 exact ph G cD a b (by omega) (by omega) fun x hx y hy=>AM G x.sz x (Nat.le_refl _) (by have:=az hx;omega) y (by have:=az hy;omega)
theorem BN:∀(N:Nat) (a:Sm),a.sz≤N→a.sz≤1073741824→∀b:Sm,b.sz≤1073741824→VF Tryz.prog G bP [.agg (a.cs.map .p),.agg (b.cs.map .p)] (.p (.bool (eqX a b))):=by
 intro N
 induction N with
 |zero=>intro e he;have:=e.sz_eq;omega
 |succ N ih=>
  intro a ha hz b hb
  have c1:=a.cs_eq
  have c2:=b.cs_eq
  have z1:=a.sz_eq
  have z2:=b.sz_eq
  have sub:∀x y:List Sm,aD x≤N→aD x≤1073741824→aD y≤1073741824→VF Tryz.prog G aS [.p (smL x),.p (smL y),.fn (.func bP) []] (.p (.bool (eqX x y))):=fun x y h1 h2 h3=>
   pc G bP x y (by have:=aR x;omega) (by have:=aR y;omega) fun u hu v hv=>ih u (by have:=aL hu;omega) (by have:=aL hu;omega) v (by have:=aL hv;omega)
  refine AC.go tv ?_
  by_cases h1:a.op=b.op
  case neg=>
   rw[aV fun e=>h1 (by rw[e])]
   simp-implicitDefEqProofs[fx,c1,c2,h1]
  by_cases h2:a.name=b.name
  case neg=>
   rw[aV fun e=>h2 (by rw[e])]
   simp-implicitDefEqProofs[fx,c1,c2,h1,h2]
  simp-implicitDefEqProofs[fx,c1,c2,h1,h2]
  refine(An G a.args b.args (by omega) (by omega)).use ?_
  by_cases h3:a.args=b.args
  case neg=>
   rw[aV h3,aV fun e=>h3 (by rw[e])]
   simp-implicitDefEqProofs[]
  rw[cP h3]
  simp-implicitDefEqProofs[]
  refine(sub a.body b.body (by omega) (by omega) (by omega)).use ?_
  by_cases h4:a.body=b.body
  case neg=>
   rw[aV h4,aV fun e=>h4 (by rw[e])]
   simp-implicitDefEqProofs[]
  rw[cP h4]
  simp-implicitDefEqProofs[]
  refine(sub a.els b.els (by omega) (by omega) (by omega)).use ?_
  by_cases h5:a.els=b.els
  case neg=>
   rw[aV h5,aV fun e=>h5 (by rw[e])]
   simp-implicitDefEqProofs[]
  rw[cP h5,cP (Sm.ext' h1 h2 h3 h4 h5)]
  simp-implicitDefEqProofs[]
theorem sj(a b:Fd)(ha:a.sz≤1073741824)(hb:b.sz≤1073741824):VF Tryz.prog G dc [.agg (a.cs.map .p),.agg (b.cs.map .p)] (.p (.bool (eqX a b))):=by
 have c1:=a.cs_eq'
 have c2:=b.cs_eq'
 have z1:a.sz=1+a.name.length+(a.params.length+(a.params.map List.length).sum)+aD a.body:=rfl
 have z2:b.sz=1+b.name.length+(b.params.length+(b.params.map List.length).sum)+aD b.body:=rfl
 refine AC.go mC ?_
 by_cases h1:a.name=b.name
 case neg=>
  rw[aV fun e=>h1 (by rw[e])]
  simp-implicitDefEqProofs[eg,c1,c2,h1]
 simp-implicitDefEqProofs[eg,c1,c2,h1]
 refine(Fi G a.params b.params (by omega) (by omega)).use ?_
 by_cases h2:a.params=b.params
 case neg=>
  rw[aV h2,aV fun e=>h2 (by rw[e])]
  simp-implicitDefEqProofs[]
 rw[cP h2]
 simp-implicitDefEqProofs[]
 refine(pc G bP a.body b.body (by have:=aR a.body;omega) (by have:=aR b.body;omega) fun u hu v hv=>BN G u.sz u (Nat.le_refl _) (by have:=aL hu;omega) v (by have:=aL hv;omega)).use ?_
 by_cases h3:a.body=b.body
 case neg=>
  rw[aV h3,aV fun e=>h3 (by rw[e])]
  simp-implicitDefEqProofs[]
 rw[cP h3,cP (by cases a;cases b;simp only at h1 h2 h3;subst h1 h2 h3;rfl)]
 simp-implicitDefEqProofs[]
theorem mS(a b:List Fd)(ha:bn a≤1073741824)(hb:bn b≤1073741824):VF Tryz.prog G dC [.agg [.p (fdL a)],.agg [.p (fdL b)]] (.p (.bool (eqX a b))):=by
 refine AC.go oO ?_
 simp-implicitDefEqProofs[iU]
 refine(zZ G dc a b (by have:=bL a;omega) (by have:=bL b;omega) fun u hu v hv=>sj G u v (by have:=bS hu;omega) (by have:=bS hv;omega)).use ?_
 simp-implicitDefEqProofs[]
theorem AL:∀(N:Nat) (a:Ex),a.sz≤N→a.sz≤1073741824→∀b:Ex,b.sz≤1073741824→VF Tryz.prog G fw [.agg (a.cs.map .p),.agg (b.cs.map .p)] (.p (.bool (eqX a b))):=by
 intro N
 induction N with
 |zero=>intro e he;have:=e.sz_eq;omega
 |succ N ih=>
  intro a ha hz b hb
  have c1:=a.cs_eq
  have c2:=b.cs_eq
  have z1:=a.sz_eq
  have z2:=b.sz_eq
  have l1:=aM a.kids
  have l2:=aM b.kids
  have hsl:∀l,exL l= .lst 4 (l.map Ex.cs):=fun _=>rfl
  refine AC.go tl ?_
  by_cases h1:a.op=b.op
  case neg=>
   rw[aV fun e=>h1 (by rw[e])]
   simp-implicitDefEqProofs[dh,c1,c2,h1]
  by_cases h2:a.n=b.n
  case neg=>
   rw[aV fun e=>h2 (by rw[e])]
   simp-implicitDefEqProofs[dh,c1,c2,h1,h2]
  by_cases h3:a.name=b.name
  case neg=>
   rw[aV fun e=>h3 (by rw[e])]
   simp-implicitDefEqProofs[dh,c1,c2,h1,h2,h3]
  by_cases hl:a.kids.length=b.kids.length
  case neg=>
   have hl':¬(a.kids.length:Int)=b.kids.length:=by omega
   rw[aV fun e=>hl (by rw[e])]
   simp-implicitDefEqProofs[dh,c1,c2,h1,h2,h3,hsl,hl']
  simp-implicitDefEqProofs[dh,c1,c2,h1,h2,h3,hsl,hl]
  refine aF (fun i:Nat=>aj 53 [(2,.ptr 0 4 0 0),(3,.ptr 1 4 0 0),(5,.p (.int .i64 i))]) (fun _=>[.row 4 [[.p (.int .i64 b.op),.p (.int .i64 b.n),.p (.str b.name),.p (.lst 4 (a.kids.map Ex.cs))]],.row 4 [[.p (.int .i64 b.op),.p (.int .i64 b.n),.p (.str b.name),.p (.lst 4 (b.kids.map Ex.cs))]]]) (fun i=>i≤a.kids.length∧a.kids.take i=b.kids.take i) (fun i=>a.kids.length-i) 0 (by simp) (aa (by simp) (by simp[okO,below]) (by simp[below])) ?_
  rintro i ⟨hi,he⟩
  simp-implicitDefEqProofs[hl]
  refine bh (fun h=>?_) (fun h=>?_)
  ·simp at h
   have h2':i<a.kids.length:=by omega
   have g1:=List.getElem?_eq_getElem h2'
   have g2:=List.getElem?_eq_getElem h
   have nx:=cJ he h2' h
   have nn:=qB h2' h
   have s1:=az (List.getElem_mem h2')
   have s2:=az (List.getElem_mem h)
   generalize a.kids[i]=x at g1 nx nn s1
   generalize b.kids[i]=y at g2 nx nn s2
   simp-implicitDefEqProofs[g1,g2]
   refine(ih x (by omega) (by omega) y (by omega)).use ?_
   by_cases e:x=y
   ·rw[cP e]
    simp-implicitDefEqProofs[]
    exact⟨i+1,⟨by omega,nx e⟩,by omega,aa (by simp) (by simp[okO,below]) (by simp[below,w1 (i:=i) (by omega)])⟩
   ·rw[aV e,aV fun e=>nn ‹_› (by rw[e])]
    simp-implicitDefEqProofs[]
  ·simp at h
   have hie:i=a.kids.length:=by omega
   subst hie
   rw[cP (Ex.ext' h1 h2 h3 (dS he hl))]
   simp-implicitDefEqProofs[]
theorem xZ:∀(N:Nat) (a:List Sm),aD a<N→aD a≤1073741824→∀b:List Sm,aD b≤1073741824→VF Tryz.prog G dk [.p (smL a),.p (smL b)] (.p (.bool (eqX a b))):=by
 intro N
 induction N with
 |zero=>intro a ha;omega
 |succ N ih=>
  intro a ha hza b hzb
  have l1:=aR a
  have l2:=aR b
  have hsl:∀l,smL l= .lst 5 (l.map Sm.cs):=fun _=>rfl
  have hxl:∀l,exL l= .lst 4 (l.map Ex.cs):=fun _=>rfl
  refine AC.go rv ?_
  by_cases hl:a.length=b.length
  case neg=>
   have hl':¬(a.length:Int)=b.length:=by omega
   rw[aV fun e=>hl (by rw[e])]
   simp-implicitDefEqProofs[gf,hsl,hl']
  simp-implicitDefEqProofs[gf,hsl,hl]
  refine aF (fun i:Nat=>aj 111 [(0,.p (smL a)),(1,.p (smL b)),(5,.p (.int .i64 i))]) (fun _=>[]) (fun i=>i≤a.length∧a.take i=b.take i) (fun i=>a.length-i) 0 (by simp) (aJ rfl (by simp[below,hsl])) ?_
  rintro i ⟨hi,he⟩
  simp-implicitDefEqProofs[hsl,hl]
  refine bh (fun h=>?_) (fun h=>?_)
  case _=>
   simp at h
   have h2:i<a.length:=by omega
   have g1:=List.getElem?_eq_getElem h2
   have g2:=List.getElem?_eq_getElem h
   have nx:=cJ he h2 h
   have nn:=qB h2 h
   have m1:=aL (List.getElem_mem h2)
   have m2:=aL (List.getElem_mem h)
   generalize a[i]=x at g1 nx nn m1
   generalize b[i]=y at g2 nx nn m2
   have c1:=x.cs_eq
   have c2:=y.cs_eq
   have z1:=x.sz_eq
   have z2:=y.sz_eq
   have q1:=aM x.args
   have q2:=aM y.args
   by_cases h1:x.op=y.op
   case neg=>
    rw[aV (nn fun e=>h1 (by rw[e]))]
    simp-implicitDefEqProofs[g1,g2,c1,c2,h1]
   by_cases h3:x.name=y.name
   case neg=>
    rw[aV (nn fun e=>h3 (by rw[e]))]
    simp-implicitDefEqProofs[g1,g2,c1,c2,h1,h3]
   by_cases h4:x.args.length=y.args.length
   case neg=>
    have h4':¬(x.args.length:Int)=y.args.length:=by omega
    rw[aV (nn fun e=>h4 (by rw[e]))]
    simp-implicitDefEqProofs[g1,g2,c1,c2,h1,h3,hxl,h4']
   simp-implicitDefEqProofs[g1,g2,c1,c2,h1,h3,hxl,h4]
   refine aF (fun j:Nat=>aj 111 [(0,.p (smL a)),(1,.p (smL b)),(5,.p (.int .i64 i)),(6,.p (.int .i64 j))]) (fun _=>[]) (fun j=>j≤x.args.length∧x.args.take j=y.args.take j) (fun j=>x.args.length-j) 0 (by simp) (aJ rfl (by simp[below,hsl])) ?_
   rintro j ⟨hj,hej⟩
   simp-implicitDefEqProofs[hsl,g1,g2,c1,c2,hxl,h4]
   refine bh (fun hc=>?_) (fun hc=>?_)
   ·simp at hc
    have hc2:j<x.args.length:=by omega
    have a1:=List.getElem?_eq_getElem hc2
    have a2:=List.getElem?_eq_getElem hc
    have nx2:=cJ hej hc2 hc
    have nn2:=qB hc2 hc
    have u1:=az (List.getElem_mem hc2)
    have u2:=az (List.getElem_mem hc)
    generalize x.args[j]=v at a1 nx2 nn2 u1
    generalize y.args[j]=w at a2 nx2 nn2 u2
    simp-implicitDefEqProofs[hsl,g1,g2,c1,c2,hxl,a1,a2]
    refine(AL G v.sz v (Nat.le_refl _) (by omega) w (by omega)).use ?_
    by_cases e:v=w
    ·rw[cP e]
     simp-implicitDefEqProofs[]
     exact⟨j+1,⟨by omega,nx2 e⟩,by omega,aJ rfl (by simp[below,hsl,w1 (i:=j) (by omega)])⟩
    ·rw[aV e,aV (nn fun q=>nn2 e (by rw[q]))]
     simp-implicitDefEqProofs[]
   ·simp at hc
    have hje:j=x.args.length:=by omega
    subst hje
    have hA:=dS hej h4
    simp-implicitDefEqProofs[g1,g2,c1,c2]
    refine(ih x.body (by omega) (by omega) y.body (by omega)).use ?_
    by_cases h5:x.body=y.body
    case neg=>
     rw[aV h5,aV (nn fun e=>h5 (by rw[e]))]
     simp-implicitDefEqProofs[]
    rw[cP h5]
    simp-implicitDefEqProofs[g1,g2,c1,c2]
    refine(ih x.els (by omega) (by omega) y.els (by omega)).use ?_
    by_cases h6:x.els=y.els
    case neg=>
     rw[aV h6,aV (nn fun e=>h6 (by rw[e]))]
     simp-implicitDefEqProofs[]
    rw[cP h6]
    simp-implicitDefEqProofs[]
    exact⟨i+1,⟨by omega,nx (Sm.ext' h1 h3 hA h5 h6)⟩,by omega,aJ rfl (by simp[below,hsl,w1 (i:=i) (by omega)])⟩
  case _=>
   simp at h
   have hie:i=a.length:=by omega
   subst hie
   rw[cP (dS he hl)]
   simp-implicitDefEqProofs[]
theorem mY(a b:List Fd)(ha:bn a≤1073741824)(hb:bn b≤1073741824):VF Tryz.prog G dE [.agg [.p (fdL a)],.agg [.p (fdL b)]] (.p (.bool (eqX a b))):=by
 have hll1:=bL a
 have hll2:=bL b
 have hfl:∀l,fdL l= .lst 3 (l.map Fd.cs):=fun _=>rfl
 refine AC.go oy ?_
 by_cases hl:a.length=b.length
 case neg=>
  have hl':¬(a.length:Int)=b.length:=by omega
  rw[aV fun e=>hl (by rw[e])]
  simp-implicitDefEqProofs[fe,hfl,hl']
 simp-implicitDefEqProofs[fe,hfl,hl]
 refine aF (fun i:Nat=>aj 65 [(2,.ptr 0 1 0 0),(3,.ptr 1 1 0 0),(5,.p (.int .i64 i))]) (fun _=>[.row 1 [[.p (fdL a)]],.row 1 [[.p (fdL b)]]]) (fun i=>i≤a.length∧a.take i=b.take i) (fun i=>a.length-i) 0 (by simp) (aa (by simp) (by simp[okO,below]) (by simp[below])) ?_
 rintro i ⟨hi,he⟩
 simp-implicitDefEqProofs[hfl,hl]
 refine bh (fun h=>?_) (fun h=>?_)
 case _=>
  simp at h
  have h2:i<a.length:=by omega
  have g1:=List.getElem?_eq_getElem h2
  have g2:=List.getElem?_eq_getElem h
  have nx:=cJ he h2 h
  have nn:=qB h2 h
  have m1:=bS (List.getElem_mem h2)
  have m2:=bS (List.getElem_mem h)
  generalize a[i]=x at g1 nx nn m1
  generalize b[i]=y at g2 nx nn m2
  have c1:=x.cs_eq'
  have c2:=y.cs_eq'
  have z1:x.sz=1+x.name.length+(x.params.length+(x.params.map List.length).sum)+aD x.body:=rfl
  have z2:y.sz=1+y.name.length+(y.params.length+(y.params.map List.length).sum)+aD y.body:=rfl
  by_cases h1:x.name=y.name
  case neg=>
   rw[aV (nn fun e=>h1 (by rw[e]))]
   simp-implicitDefEqProofs[g1,g2,c1,c2,h1]
  simp-implicitDefEqProofs[g1,g2,c1,c2,h1]
  refine(En G x.params y.params (by omega) (by omega)).use ?_
  by_cases h3:x.params=y.params
  case neg=>
   rw[aV h3,aV (nn fun e=>h3 (by rw[e]))]
   simp-implicitDefEqProofs[]
  rw[cP h3]
  simp-implicitDefEqProofs[g1,g2,c1,c2]
  refine(xZ G (aD x.body+1) x.body (by omega) (by omega) y.body (by omega)).use ?_
  by_cases h4:x.body=y.body
  case neg=>
   rw[aV h4,aV (nn fun e=>h4 (by rw[e]))]
   simp-implicitDefEqProofs[]
  rw[cP h4]
  simp-implicitDefEqProofs[]
  exact⟨i+1,⟨by omega,nx (by cases x;cases y;simp only at h1 h3 h4;subst h1 h3 h4;rfl)⟩,by omega,aa (h:=[.row 1 [[.p (fdL a)]],.row 1 [[.p (fdL b)]]]) (by simp) (by simp[okO,below]) (by simp[below,w1 (i:=i) (by omega)])⟩
 case _=>
  simp at h
  have hie:i=a.length:=by omega
  subst hie
  rw[cP (dS he hl)]
  simp-implicitDefEqProofs[]
end Go.Proofs.YtaopbokndkdieaaGreatDoor
namespace Go.Proofs.YtaopbokndkdieaaGreatDoor
open Go Go.Aw
set_option maxRecDepth 100000
set_option maxHeartbeats 4000000
theorem NW{o n:Int}{s:List UInt8}{ks:List Ex}{x:Ex}(hx:P5 o n s ks x):x.sz≤1+s.length+cS ks:=by
 rcases hx with rfl|⟨q,rfl,hq⟩|⟨a,ha,rfl⟩|⟨a,ha,c,hc,rfl⟩
 ·exact Nat.le_refl _
 ·simp only[lp,Ex.sz,cS,List.length_nil];omega
 ·have:=az ha;omega
 ·have h1:=az ha
  have h2:=az hc
  have h3:=a.sz_eq
  omega
mutual
theorem HN:∀e:Ex,(cm e).sz≤e.sz
 | .mk o n s ks=>by
   rw[cm,Ex.sz]
   have h1:=NW (nP o n s (aK ks))
   have h2:=kS ks
   omega
theorem kS:∀l:List Ex,cS (aK l)≤cS l
 |[]=>Nat.le_refl _
 |e::r=>by
  have h1:=HN e
  have h2:=kS r
  rw[aK,cS,cS]
  omega
end
mutual
theorem Fh:∀x:Sm,(fU x).sz≤x.sz
 | .mk o s a bd el=>by
   rw[fU,Sm.sz,Sm.sz]
   have h1:=kS a
   have h2:=je bd
   have h3:=je el
   omega
theorem je:∀l:List Sm,aD (ay l)≤aD l
 |[]=>Nat.le_refl _
 |x::r=>by
  have h1:=Fh x
  have h2:=je r
  rw[ay,aD,aD]
  omega
end
theorem yd(c:Prop)[Decidable c](l:List Sm)(n:Nat)(h:aD l≤n):aD (if c then[] else l)≤n:=by
 split
 ·exact Nat.zero_le _
 ·exact h
mutual
theorem IQ:∀x:Sm,(cQ x).sz≤x.sz
 | .mk o s a bd el=>by
   rw[cQ,Sm.sz,Sm.sz]
   have h2:=yd (o=5∧kI (.mk o s a bd el) 0=true) _ _ (qI bd)
   have h3:=yd (o=5∧kI (.mk o s a bd el) 0=false∧uf (.mk o s a bd el)=true) _ _ (qI el)
   omega
theorem qI:∀l:List Sm,aD (aA l)≤aD l
 |[]=>by rw[aA];exact Nat.le_refl _
 |x::r=>by
  have h1:=IQ x
  have h2:=qI r
  rw[dv,aD]
  split
  ·omega
  ·rw[aD]
   have h3:=yd (x.op=7) _ _ h2
   omega
end
theorem ut(g:Fd→Fd)(hg:∀f,(g f).sz≤f.sz):∀l:List Fd,bn (l.map g)≤bn l
 |[]=>Nat.le_refl _
 |f::r=>by
  have h1:=hg f
  have h2:=ut g hg r
  have e1:bn (f::r)=f.sz+bn r:=by simp[bn]
  have e2:bn ((f::r).map g)=(g f).sz+bn (r.map g):=by simp[bn]
  omega
theorem Fu(f:Fd):(mj f).sz≤f.sz:=by
 have:=je f.body
 simp only[mj,Fd.sz];omega
theorem IL(f:Fd):(rN f).sz≤f.sz:=by
 have:=qI f.body
 simp only[rN,Fd.sz];omega
theorem ju(l:List Fd):bn (co l)≤bn l:=ut mj Fu l
theorem rI(l:List Fd):bn (gu l)≤bn l:=ut rN IL l
noncomputable def pg (l:List Fd):Bool:=decide (aX l=0)&&eqX (kU l) l
end Go.Proofs.YtaopbokndkdieaaGreatDoor
namespace Go.Proofs.YtaopbokndkdieaaGreatDoor
open Go Go.Aw
set_option maxRecDepth 100000
set_option maxHeartbeats 4000000
def K_spec_l6Safe:AK:= .seq (.reg [oJ 1 (.box 4 (.t 0)),oJ 2 (.mov (.c (.p (.bool false))))]) (.seq (.seq (.reg [oF 4 0 1,oL 5 4,oJ 6 (.bin .eql (.t 5) (.c (.p (.int .i64 12)))),oM 7 6,⟨(some 8),some (7,false),.fldA 0 (.t 1)⟩,⟨(some 9),some (7,false),.ld none (.t 8)⟩,⟨(some 10),some (7,false),.bin .eql (.t 9) (.c (.p (.int .i64 13)))⟩,oJ 11 (.pick (.t 7) (.c (.p (.bool true))) (.t 10))]) (.cond (.t 11) (.seq (.reg [oJ 2 (.mov (.c (.p (.bool false))))]) (.ret)) (.skip))) (.cut (.seq (.reg [oF 12 0 1,oL 13 12,oJ 14 (.bin .eql (.t 13) (.c (.p (.int .i64 6)))),oM 15 14,⟨(some 16),some (15,false),.fldA 0 (.t 1)⟩,⟨(some 17),some (15,false),.ld none (.t 16)⟩,⟨(some 18),some (15,false),.bin .eql (.t 17) (.c (.p (.int .i64 7)))⟩,oJ 19 (.pick (.t 15) (.c (.p (.bool true))) (.t 18)),oM 20 19,⟨(some 21),some (20,true),.fldA 3 (.t 1)⟩,⟨(some 22),some (20,true),.ld none (.t 21)⟩,⟨(some 23),some (20,true),.idxS 4 (.t 22) (.c (.p (.int .i64 1)))⟩,⟨(some 24),some (20,true),.fldA 0 (.t 23)⟩,⟨(some 25),some (20,true),.ld none (.t 24)⟩,⟨(some 26),some (20,true),.bin .neq (.t 25) (.c (.p (.int .i64 1)))⟩,⟨(some 27),some (20,true),.mov (.t 26)⟩,⟨(some 28),some (27,false),.fldA 3 (.t 1)⟩,⟨(some 29),some (27,false),.ld none (.t 28)⟩,⟨(some 30),some (27,false),.idxS 4 (.t 29) (.c (.p (.int .i64 1)))⟩,⟨(some 31),some (27,false),.fldA 1 (.t 30)⟩,⟨(some 32),some (27,false),.ld none (.t 31)⟩,⟨(some 33),some (27,false),.bin .eql (.t 32) (.c (.p (.int .i64 0)))⟩,⟨(some 34),some (20,true),.pick (.t 27) (.c (.p (.bool true))) (.t 33)⟩,oJ 35 (.pick (.t 20) (.t 34) (.c (.p (.bool false))))]) (.cond (.t 35) (.seq (.reg [oJ 2 (.mov (.c (.p (.bool false))))]) (.ret)) (.skip))) (.seq (.seq (.reg [oK 3 0]) (.blk 0 (.loop (.seq (.seq (.reg [oM 36 3,oF 37 3 1,oL 38 37,oJ 39 (.len false (.t 38)),oJ 40 (.bin .lss (.t 36) (.t 39))]) (.cond (.t 40) (.skip) (.exit 0))) (.seq (.blk 1 (.seq (.reg [oF 43 3 1,oL 44 43,oM 45 3,oJ 46 (.idxS 4 (.t 44) (.t 45)),oJ 47 (.ld (some 4) (.t 46)),oJ 48 (.call cM [(.t 47)]),oJ 49 (.not (.t 48))]) (.cond (.t 49) (.seq (.reg [oJ 2 (.mov (.c (.p (.bool false))))]) (.ret)) (.skip)))) (.reg [oM 41 3,oJ 42 (.bin .add (.t 41) (.c (.p (.int .i64 1)))),oM 3 42])))))) (.seq (.reg [oJ 2 (.mov (.c (.p (.bool true))))]) (.ret)))))
theorem wV:K_spec_l6Safe.whole=F_spec_l6Safe.ak:=rfl
variable (G:aI)
theorem lL(n:Int):VF Tryz.prog G bN [.p (.int .i64 n)] (.agg ((lp n).cs.map .p)):=by
 have key:AC Tryz.prog G bN [.p (.int .i64 n)] [] fun x h=>x= .ret (.agg [.p (.int .i64 1),.p (.int .i64 n),.p (.str []),.nils]):=by
  refine AC.go yz ?_
  simp-implicitDefEqProofs[qE]
 refine key.freezeR (fun t v h e=>by cases e) fun v h e=>?_
 cases e
 exact .agg (.one (.p _) (.one (.p _) (.one (.p _) (.one (.nils 4) .nil)))) .nil
theorem uY(e:Ex)(n:Int):VF Tryz.prog G aY [.agg (e.cs.map .p),.p (.int .i64 n)] (.p (.bool (isN e n))):=by
 refine AC.go zq ?_
 by_cases h1:e.op=1
 ·simp-implicitDefEqProofs[nh,Ex.cs_eq,isN,h1]
 ·simp-implicitDefEqProofs[nh,Ex.cs_eq,isN,h1]
theorem oq(b:Bool):VF Tryz.prog G ce [.p (.bool b)] (.p (.int .i64 (tr5 b))):=by
 refine AC.go vN ?_
 cases b<;>simp-implicitDefEqProofs[no,tr5]
def oW:Option Int→AV
 |some q=> .tup [.p (.int .i64 q),.p (.int .i64 0)]
 |none=> .tup [.p (.int .i64 0),.p (.int .i64 1)]
theorem Jw(o a b:Int)(ho:3≤o)(h9:o≤9)(ha:V5 a)(hb:V5 b):VF Tryz.prog G lJ [.p (.int .i64 o),.p (.int .i64 a),.p (.int .i64 b)] (oW (Cb o a b)):=by
 obtain⟨a0,a1⟩:=ha
 obtain⟨b0,b1⟩:=hb
 refine AC.go yi ?_
 have hm:a*b≤65025:=by
  have h1:=Int.mul_le_mul_of_nonneg_right a1 b0
  omega
 have hm0:0≤a*b:=Int.mul_nonneg a0 b0
 have ho':o=3∨o=4∨o=5∨o=6∨o=7∨o=8∨o=9:=by omega
 rcases ho' with rfl|rfl|rfl|rfl|rfl|rfl|rfl
 all_goals simp-implicitDefEqProofs[rr,Cb]
 ·rw[al (by omega) (by omega),Int.tmod_eq_emod_of_nonneg (by omega)];rfl
 ·have hw:IntKind.i64.wrap (a-b)=a-b:=al (by omega) (by omega)
  rw[hw,al (by omega) (by omega),Int.tmod_eq_emod_of_nonneg (by omega)]
  have:(a-b+256)%256=(a-b)%256:=by omega
  rw[this];rfl
 ·rw[al (by omega) (by omega),Int.tmod_eq_emod_of_nonneg (by omega)];rfl
 ·refine bh (fun h=>?_) (fun h=>?_)
  ·simp at h
   simp-implicitDefEqProofs[h,oW]
  ·simp at h
   simp-implicitDefEqProofs[h,oW]
   rw[Int.tdiv_eq_ediv_of_nonneg (by omega)]
   have h1:a/b≤a:=Int.ediv_le_self b a0
   have h2:0≤a/b:=Int.ediv_nonneg a0 b0
   exact al (by omega) (by omega)
 ·refine bh (fun h=>?_) (fun h=>?_)
  ·simp at h
   simp-implicitDefEqProofs[h,oW]
  ·simp at h
   simp-implicitDefEqProofs[h,oW]
   rw[Int.tmod_eq_emod_of_nonneg (by omega)]
 ·refine(oq G _).use ?_
  simp-implicitDefEqProofs[oW]
 ·refine(oq G _).use ?_
  simp-implicitDefEqProofs[oW]
theorem jq:∀l:List Ex,yf l=l.all dA
 |[]=>rfl
 |e::r=>by rw[yf,jq r];rfl
def dvE(e:Ex):Bool:=(decide (e.op=6)||decide (e.op=7))&& !(match e.kids with|[_,b]=>decide (b.op=1)&& !decide (b.n=0)|_=>false)
theorem Ap(e:Ex):dA e=(!decide (e.op=12)&& !decide (e.op=13)&& !dvE e&&e.kids.all dA):=by
 have h:∀(a c:Bool),(!(a&& !c))=(!a||c):=by decide
 rw[dvE,h]
 match e with
 | .mk o n s []=>rw[dA,jq]<;>first|rfl|(intro _ _ e;cases e)
 | .mk o n s [a]=>rw[dA,jq]<;>first|rfl|(intro _ _ e;cases e)
 | .mk o n s [a,b]=>rw[dA,jq];rfl
 | .mk o n s (a::b::c::r)=>rw[dA,jq]<;>first|rfl|(intro _ _ e;cases e)
theorem zS:∀(d:Nat) (e:Ex),aW d e=true→e.sz≤1099511627776→VF Tryz.prog G cM [.agg (e.cs.map .p)] (.p (.bool (dA e))):=by
 intro d
 induction d with
 |zero=>intro e h;cases h
 |succ d ih=>
  intro e hf hz
  have hzz:=e.sz_eq
  have hlen:=aM e.kids
  refine AC.goK wT wV ?_
  rw[Ap]
  by_cases o12:e.op=12
  ·simp-implicitDefEqProofs[K_spec_l6Safe,F_spec_l6Safe,Ex.cs_eq,o12]
  by_cases o13:e.op=13
  ·simp-implicitDefEqProofs[K_spec_l6Safe,F_spec_l6Safe,Ex.cs_eq,o13]
  have hxl:∀l,exL l= .lst 4 (l.map Ex.cs):=fun _=>rfl
  simp-implicitDefEqProofs[K_spec_l6Safe,F_spec_l6Safe,Ex.cs_eq,o12,o13,hxl]
  refine pQ (fun _:Unit=>aj 50 [(1,.ptr 0 4 0 0)]) (fun _=>[.row 4 [[.p (.int .i64 e.op),.p (.int .i64 e.n),.p (.str e.name),.p (.lst 4 (e.kids.map Ex.cs))]]]) (fun _=>dvE e=false) ?_ ?_
  ·by_cases o67:e.op=6∨e.op=7
   ·have hk:∃a b,e.kids=[a,b]:=by
     obtain⟨l1,l2,_⟩:=dF hf
     have e1:loK e.op=2∧hiK e.op=2:=by rcases o67 with h|h<;>rw[h]<;>exact⟨rfl,rfl⟩
     rw[e1.1] at l1
     rw[e1.2] at l2
     match hx:e.kids,l1,l2 with
     |[a,b],_,_=>exact⟨a,b,rfl⟩
    obtain⟨a,b,hk⟩:=hk
    have hd:dvE e= !(decide (b.op=1)&& !decide (b.n=0)):=by
     rw[dvE,hk]
     rcases o67 with h|h<;>simp[h]
    rw[hd]
    have hbc:=b.cs_eq
    rcases o67 with o6|o7
    ·by_cases b1:b.op=1
     ·by_cases b0:b.n=0
      ·simp-implicitDefEqProofs[o6,hk,hbc,b1,b0]
      ·simp-implicitDefEqProofs[o6,hk,hbc,b1,b0]
       exact aa (by simp) (by simp[okO]) (by simp[below])
     ·simp-implicitDefEqProofs[o6,hk,hbc,b1]
    ·by_cases b1:b.op=1
     ·by_cases b0:b.n=0
      ·simp-implicitDefEqProofs[o7,hk,hbc,b1,b0]
      ·simp-implicitDefEqProofs[o7,hk,hbc,b1,b0]
       exact aa (by simp) (by simp[okO]) (by simp[below])
     ·simp-implicitDefEqProofs[o7,hk,hbc,b1]
   ·have o6:¬e.op=6:=fun h=>o67 (.inl h)
    have o7:¬e.op=7:=fun h=>o67 (.inr h)
    simp-implicitDefEqProofs[o6,o7]
    exact⟨by simp[dvE,o6,o7],aa (by simp) (by simp[okO]) (by simp[below])⟩
  ·intro _ hd
   simp-implicitDefEqProofs[]
   refine aF (fun i:Nat=>aj 50 [(1,.ptr 0 4 0 0),(3,.p (.int .i64 i))]) (fun _=>[.row 4 [[.p (.int .i64 e.op),.p (.int .i64 e.n),.p (.str e.name),.p (.lst 4 (e.kids.map Ex.cs))]]])
    (fun i=>i≤e.kids.length∧(e.kids.take i).all dA=true) (fun i=>e.kids.length-i) 0 (by simp) (aa (by simp) (by simp[okO]) (by simp[below])) ?_
   intro i ⟨hi,hall⟩
   simp-implicitDefEqProofs[]
   refine bh (fun h=>?_) (fun h=>?_)
   ·simp at h
    have hg:=List.getElem?_eq_getElem h
    have hks:=az (List.getElem_mem h)
    simp-implicitDefEqProofs[hg]
    refine(ih e.kids[i] (eM hf (List.getElem_mem h)) (by omega)).use ?_
    by_cases hk:dA e.kids[i]=true
    ·simp-implicitDefEqProofs[hk]
     refine⟨i+1,⟨h,by rw[←List.all_eq_true,dx h,hall,hk];rfl⟩,by omega,aa (by simp) (by simp[okO]) ?_⟩
     simp[below,w1 (i:=i) (by omega)]
    ·have hk':dA e.kids[i]=false:=by simpa using hk
     simp-implicitDefEqProofs[hk',kh h hk']
   ·simp at h
    have:=fm h hall
    simp-implicitDefEqProofs[hd,this]
end Go.Proofs.YtaopbokndkdieaaGreatDoor
namespace Go.Proofs.YtaopbokndkdieaaGreatDoor
open Go Go.Aw
set_option maxRecDepth 100000
set_option maxHeartbeats 4000000
def K_spec_l6Part:AK:= .seq (.reg [oJ 1 (.box 4 (.t 0)),oJ 2 (.alloc [(.p (.int .i64 0)),(.p (.int .i64 0)),(.p (.str [])),.nils])]) (.seq (.seq (.reg [oF 8 3 1,oL 9 8,oJ 10 (.len false (.t 9)),oJ 11 (.bin .eql (.t 10) (.c (.p (.int .i64 1)))),oM 12 11,⟨(some 13),some (12,true),.fldA 0 (.t 1)⟩,⟨(some 14),some (12,true),.ld none (.t 13)⟩,⟨(some 15),some (12,true),.bin .eql (.t 14) (.c (.p (.int .i64 11)))⟩,oJ 16 (.pick (.t 12) (.t 15) (.c (.p (.bool false))))]) (.cond (.t 16) (.seq (.reg [oF 17 3 1,oL 18 17,oJ 19 (.idxS 4 (.t 18) (.c (.p (.int .i64 0)))),oJ 20 (.ld (some 4) (.t 19)),oJ 3 (.alloc [(.p (.int .i64 0)),(.p (.int .i64 0)),(.p (.str [])),.nils]),⟨none,none,.st 4 (.t 3) (.t 20)⟩]) (.seq (.seq (.reg [oF 21 0 3,oL 22 21,oJ 23 (.bin .eql (.t 22) (.c (.p (.int .i64 1))))]) (.cond (.t 23) (.seq (.reg [oF 24 1 3,oL 25 24,oJ 26 (.bin .eql (.t 25) (.c (.p (.int .i64 0)))),oJ 27 (.call ce [(.t 26)]),oJ 28 (.call bN [(.t 27)]),⟨none,none,.st 4 (.t 2) (.t 28)⟩]) (.ret)) (.skip))) (.seq (.seq (.reg [oF 29 0 3,oL 30 29,oJ 31 (.bin .eql (.t 30) (.c (.p (.int .i64 11)))),oM 32 31,⟨(some 33),some (32,true),.fldA 3 (.t 3)⟩,⟨(some 34),some (32,true),.ld none (.t 33)⟩,⟨(some 35),some (32,true),.idxS 4 (.t 34) (.c (.p (.int .i64 0)))⟩,⟨(some 36),some (32,true),.fldA 0 (.t 35)⟩,⟨(some 37),some (32,true),.ld none (.t 36)⟩,⟨(some 38),some (32,true),.bin .eql (.t 37) (.c (.p (.int .i64 11)))⟩,oJ 39 (.pick (.t 32) (.t 38) (.c (.p (.bool false))))]) (.cond (.t 39) (.seq (.reg [oF 40 3 3,oL 41 40,oJ 42 (.idxS 4 (.t 41) (.c (.p (.int .i64 0)))),oJ 43 (.ld (some 4) (.t 42)),⟨none,none,.st 4 (.t 2) (.t 43)⟩]) (.ret)) (.skip))) (.seq (.reg [oJ 44 (.ld (some 4) (.t 1)),⟨none,none,.st 4 (.t 2) (.t 44)⟩]) (.ret))))) (.skip))) (.seq (.seq (.reg [oF 45 0 1,oL 46 45,oJ 47 (.call bD [(.t 46),(.c (.p (.int .i64 3))),(.c (.p (.int .i64 10)))]),oJ 48 (.not (.t 47))]) (.cond (.t 48) (.seq (.reg [oJ 49 (.ld (some 4) (.t 1)),⟨none,none,.st 4 (.t 2) (.t 49)⟩]) (.ret)) (.skip))) (.seq (.reg [oF 50 3 1,oL 51 50,oJ 52 (.idxS 4 (.t 51) (.c (.p (.int .i64 0)))),oJ 53 (.ld (some 4) (.t 52)),oJ 4 (.alloc [(.p (.int .i64 0)),(.p (.int .i64 0)),(.p (.str [])),.nils]),⟨none,none,.st 4 (.t 4) (.t 53)⟩]) (.seq (.reg [oF 54 3 1,oL 55 54,oJ 56 (.idxS 4 (.t 55) (.c (.p (.int .i64 1)))),oJ 57 (.ld (some 4) (.t 56)),oJ 5 (.alloc [(.p (.int .i64 0)),(.p (.int .i64 0)),(.p (.str [])),.nils]),⟨none,none,.st 4 (.t 5) (.t 57)⟩]) (.cut (.seq (.reg [oF 58 0 4,oL 59 58,oJ 60 (.bin .eql (.t 59) (.c (.p (.int .i64 1)))),oM 61 60,⟨(some 62),some (61,true),.fldA 0 (.t 5)⟩,⟨(some 63),some (61,true),.ld none (.t 62)⟩,⟨(some 64),some (61,true),.bin .eql (.t 63) (.c (.p (.int .i64 1)))⟩,oJ 65 (.pick (.t 61) (.t 64) (.c (.p (.bool false))))]) (.cond (.t 65) (.seq (.reg [oJ 67 (.ld (some 4) (.t 1)),oJ 68 (.call du [(.t 67),(.c .nils),(.c .nils)]),oM 66 68,oJ 69 (.ext 0 (.t 66)),oJ 70 (.ext 1 (.t 66)),oM 6 69,oM 7 70]) (.seq (.reg [oM 71 7,oJ 72 (.bin .eql (.t 71) (.c (.p (.int .i64 0))))]) (.cond (.t 72) (.seq (.reg [oM 73 6,oJ 74 (.call bN [(.t 73)]),⟨none,none,.st 4 (.t 2) (.t 74)⟩]) (.ret)) (.skip)))) (.skip))) (.seq (.blk 0 (.seq (.reg [oF 76 0 1,oL 77 76,oJ 78 (.bin .eql (.t 77) (.c (.p (.int .i64 10)))),oM 79 78,⟨(some 80),some (79,true),.ld (some 4) (.t 4)⟩,⟨(some 81),some (79,true),.call aY [(.t 80),(.c (.p (.int .i64 0)))]⟩,oJ 82 (.pick (.t 79) (.t 81) (.c (.p (.bool false)))),oM 75 82]) (.cond (.t 75) (.seq (.reg [oJ 83 (.call bN [(.c (.p (.int .i64 0)))]),⟨none,none,.st 4 (.t 2) (.t 83)⟩]) (.ret)) (.seq (.seq (.reg [oJ 85 (.ld (some 4) (.t 5)),oJ 86 (.call aY [(.t 85),(.c (.p (.int .i64 0)))]),oM 87 86,⟨(some 88),some (87,true),.fldA 0 (.t 1)⟩,⟨(some 89),some (87,true),.ld none (.t 88)⟩,⟨(some 90),some (87,true),.bin .eql (.t 89) (.c (.p (.int .i64 3)))⟩,⟨(some 91),some (87,true),.mov (.t 90)⟩,⟨(some 92),some (91,false),.fldA 0 (.t 1)⟩,⟨(some 93),some (91,false),.ld none (.t 92)⟩,⟨(some 94),some (91,false),.bin .eql (.t 93) (.c (.p (.int .i64 4)))⟩,⟨(some 95),some (87,true),.pick (.t 91) (.c (.p (.bool true))) (.t 94)⟩,oJ 96 (.pick (.t 87) (.t 95) (.c (.p (.bool false)))),oM 84 96]) (.cond (.t 84) (.skip) (.reg [oJ 97 (.ld (some 4) (.t 5)),oJ 98 (.call aY [(.t 97),(.c (.p (.int .i64 1)))]),oM 99 98,⟨(some 100),some (99,true),.fldA 0 (.t 1)⟩,⟨(some 101),some (99,true),.ld none (.t 100)⟩,⟨(some 102),some (99,true),.bin .eql (.t 101) (.c (.p (.int .i64 5)))⟩,⟨(some 103),some (99,true),.mov (.t 102)⟩,⟨(some 104),some (103,false),.fldA 0 (.t 1)⟩,⟨(some 105),some (103,false),.ld none (.t 104)⟩,⟨(some 106),some (103,false),.bin .eql (.t 105) (.c (.p (.int .i64 6)))⟩,⟨(some 107),some (99,true),.pick (.t 103) (.c (.p (.bool true))) (.t 106)⟩,oJ 108 (.pick (.t 99) (.t 107) (.c (.p (.bool false)))),oM 84 108]))) (.cond (.t 84) (.seq (.reg [oJ 109 (.ld (some 4) (.t 4)),⟨none,none,.st 4 (.t 2) (.t 109)⟩]) (.ret)) (.seq (.seq (.reg [oJ 111 (.ld (some 4) (.t 4)),oJ 112 (.call aY [(.t 111),(.c (.p (.int .i64 0)))]),oM 113 112,⟨(some 114),some (113,true),.fldA 0 (.t 1)⟩,⟨(some 115),some (113,true),.ld none (.t 114)⟩,⟨(some 116),some (113,true),.bin .eql (.t 115) (.c (.p (.int .i64 3)))⟩,oJ 117 (.pick (.t 113) (.t 116) (.c (.p (.bool false)))),oM 110 117]) (.cond (.t 110) (.skip) (.reg [oJ 118 (.ld (some 4) (.t 4)),oJ 119 (.call aY [(.t 118),(.c (.p (.int .i64 1)))]),oM 120 119,⟨(some 121),some (120,true),.fldA 0 (.t 1)⟩,⟨(some 122),some (120,true),.ld none (.t 121)⟩,⟨(some 123),some (120,true),.bin .eql (.t 122) (.c (.p (.int .i64 5)))⟩,oJ 124 (.pick (.t 120) (.t 123) (.c (.p (.bool false)))),oM 110 124]))) (.cond (.t 110) (.seq (.reg [oJ 125 (.ld (some 4) (.t 5)),⟨none,none,.st 4 (.t 2) (.t 125)⟩]) (.ret)) (.seq (.reg [oF 127 0 1,oL 128 127,oJ 129 (.bin .eql (.t 128) (.c (.p (.int .i64 5)))),oM 130 129,⟨(some 131),some (130,true),.ld (some 4) (.t 5)⟩,⟨(some 132),some (130,true),.call aY [(.t 131),(.c (.p (.int .i64 0)))]⟩,⟨(some 133),some (130,true),.mov (.t 132)⟩,⟨(some 134),some (133,true),.ld (some 4) (.t 4)⟩,⟨(some 135),some (133,true),.call cM [(.t 134)]⟩,⟨(some 136),some (130,true),.pick (.t 133) (.t 135) (.c (.p (.bool false)))⟩,⟨(some 137),some (130,true),.mov (.t 136)⟩,⟨(some 138),some (137,false),.ld (some 4) (.t 4)⟩,⟨(some 139),some (137,false),.call aY [(.t 138),(.c (.p (.int .i64 0)))]⟩,⟨(some 140),some (137,false),.mov (.t 139)⟩,⟨(some 141),some (140,true),.ld (some 4) (.t 5)⟩,⟨(some 142),some (140,true),.call cM [(.t 141)]⟩,⟨(some 143),some (137,false),.pick (.t 140) (.t 142) (.c (.p (.bool false)))⟩,⟨(some 144),some (130,true),.pick (.t 137) (.c (.p (.bool true))) (.t 143)⟩,oJ 145 (.pick (.t 130) (.t 144) (.c (.p (.bool false)))),oM 126 145]) (.cond (.t 126) (.seq (.reg [oJ 146 (.call bN [(.c (.p (.int .i64 0)))]),⟨none,none,.st 4 (.t 2) (.t 146)⟩]) (.ret)) (.skip)))))))))) (.seq (.reg [oJ 147 (.ld (some 4) (.t 1)),⟨none,none,.st 4 (.t 2) (.t 147)⟩]) (.ret))))))))
theorem wU:K_spec_l6Part.whole=F_spec_l6Part.ak:=rfl
variable (G:aI)
theorem rA(e:Ex)(h:e.op=1):VF Tryz.prog G du [.agg (e.cs.map .p),.nils,.nils] (.tup [.p (.int .i64 e.n),.p (.int .i64 0)]):=by
 have hc:=e.cs_eq
 refine AC.go pz ?_
 simp-implicitDefEqProofs[kE,hc,h]
theorem Ep(e a b:Ex)(hk:e.kids=[a,b])(ha:a.op=1)(hb:b.op=1)(h3:3≤e.op)(h10:e.op≤10)(va:V5 a.n)(vb:V5 b.n):VF Tryz.prog G du [.agg (e.cs.map .p),.nils,.nils] (oW (ar5 e.op a.n b.n)):=by
 have hc:=e.cs_eq
 refine AC.go pz ?_
 have hxl:∀l,exL l= .lst 4 (l.map Ex.cs):=fun _=>rfl
 have o1:¬e.op=1:=by omega
 have o2:¬e.op=2:=by omega
 have o11:¬e.op=11:=by omega
 simp-implicitDefEqProofs[kE,hc,o1,o2,hxl,hk]
 refine(rA G a ha).use ?_
 simp-implicitDefEqProofs[o11]
 by_cases o10:e.op=10
 ·by_cases a0:a.n=0
  ·simp-implicitDefEqProofs[o10,a0,ar5,oW,tr5]
  ·simp-implicitDefEqProofs[o10,a0]
   refine(rA G b hb).use ?_
   simp-implicitDefEqProofs[o10]
   refine(oq G _).use ?_
   simp-implicitDefEqProofs[ar5,oW,a0]
 ·simp-implicitDefEqProofs[o10]
  refine(rA G b hb).use ?_
  simp-implicitDefEqProofs[o10]
  have H:=Jw G e.op a.n b.n h3 (by omega) va vb
  rw[ar5,if_neg o10]
  cases hq:Cb e.op a.n b.n with
  |none=>
   rw[hq] at H
   simp only[oW] at H
   refine H.use ?_
   simp-implicitDefEqProofs[oW]
  |some q=>
   rw[hq] at H
   simp only[oW] at H
   refine H.use ?_
   simp-implicitDefEqProofs[oW]
theorem GB{d:Nat}{e:Ex}(hf:aW d e=true)(hz:e.sz≤1099511627776):VF Tryz.prog G fp [.agg (e.cs.map .p)] (.agg ((dJ e.op e.n e.name e.kids).cs.map .p)):=by
 have hc:=e.cs_eq
 have hxl:∀l,exL l= .lst 4 (l.map Ex.cs):=fun _=>rfl
 have hem:e= .mk e.op e.n e.name e.kids:=by cases e;rfl
 have hzz:=e.sz_eq
 obtain⟨d,rfl⟩:=oe hf
 have hkf:∀a∈e.kids,aW d a=true:=fun a ha=>eM hf ha
 have hks:∀a∈e.kids,a.sz≤1099511627776:=fun a ha=>by have:=az ha;omega
 have hnc:∀q,(lp q).cs=[.int .i64 1,.int .i64 q,.str [],.lst 4 []]:=fun q=>rfl
 refine AC.goK wz wU ?_
 by_cases o11:e.op=11
 ·obtain⟨l1,l2,_⟩:=dF hf
  rw[o11] at l1 l2
  have e1:loK 11=1:=rfl
  have e2:hiK 11=1:=rfl
  rw[e1] at l1
  rw[e2] at l2
  obtain⟨a,hk⟩:∃a,e.kids=[a]:=by
   match hx:e.kids,l1,l2 with
   |[x],_,_=>exact⟨x,rfl⟩
  have hac:=a.cs_eq
  have hp:dJ e.op e.n e.name e.kids=iS e.op e.n e.name a:=by
   unfold dJ
   rw[if_neg (by omega),hk]
  rw[hp]
  by_cases a1:a.op=1
  ·rw[iS,if_pos a1]
   simp-implicitDefEqProofs[K_spec_l6Part,F_spec_l6Part,hc,o11,hk,hxl,hac,a1]
   refine(oq G _).use ?_
   simp-implicitDefEqProofs[]
   refine(lL G _).use ?_
   simp-implicitDefEqProofs[hnc]
  ·have same:(∀c,a.kids=[c]→¬(e.op=11∧a.op=11∧c.op=11))→iS e.op e.n e.name a=e:=by
    intro h
    have h0:Ex.mk e.op e.n e.name [a]=e:=by rw[←hk];exact hem.symm
    unfold iS
    rw[if_neg a1]
    split
    ·rename_i c hc'
     split
     ·rename_i h3
      exact(h c hc' ⟨o11,h3⟩).elim
     ·exact h0
    ·exact h0
   by_cases a11:a.op=11
   ·have haf:=hkf a (by rw[hk];simp)
    obtain⟨l1,l2,_⟩:=dF haf
    rw[a11,e1] at l1
    rw[a11,e2] at l2
    obtain⟨c,hkc⟩:∃c,a.kids=[c]:=by
     match hx:a.kids,l1,l2 with
     |[x],_,_=>exact⟨x,rfl⟩
    have hcc:=c.cs_eq
    by_cases c11:c.op=11
    ·have hq:iS e.op e.n e.name a=c:=by
      unfold iS
      rw[if_neg a1,hkc]
      exact if_pos ⟨a11,c11⟩
     rw[hq]
     simp-implicitDefEqProofs[K_spec_l6Part,F_spec_l6Part,hc,o11,hk,hxl,hac,a11,hkc,hcc,c11]
    ·rw[same (fun x hx h=>by rw[hkc] at hx;cases hx;exact c11 h.2.2)]
     simp-implicitDefEqProofs[K_spec_l6Part,F_spec_l6Part,hc,o11,hk,hxl,hac,a11,hkc,hcc,c11]
   ·rw[same (fun x hx h=>a11 h.2.1)]
    simp-implicitDefEqProofs[K_spec_l6Part,F_spec_l6Part,hc,o11,hk,hxl,hac,a1,a11]
 by_cases hr:3≤e.op∧e.op≤10
 case neg=>
  have hp:dJ e.op e.n e.name e.kids=e:=by
   obtain⟨_,_,l3,l4⟩:=dF hf
   unfold dJ
   split
   ·exact hem.symm
   ·rename_i hn
    split
    ·rename_i a hk
     exact(o11 (IO hf hk hn)).elim
    ·rename_i a b hk
     exact(hr (zp hf hk hn)).elim
    ·exact hem.symm
  have hin:inR e.op 3 10=false:=by
   simp only[inR,Bool.and_eq_false_iff,decide_eq_false_iff_not];omega
  rw[hp]
  by_cases hl:e.kids.length=1
  ·simp-implicitDefEqProofs[K_spec_l6Part,F_spec_l6Part,hc,o11,hxl,hl]
   refine(mN G _ _ _).use ?_
   simp-implicitDefEqProofs[hin]
  ·have hl':¬(e.kids.length:Int)=1:=by omega
   simp-implicitDefEqProofs[K_spec_l6Part,F_spec_l6Part,hc,o11,hxl,hl']
   refine(mN G _ _ _).use ?_
   simp-implicitDefEqProofs[hin]
 obtain⟨h3,h10⟩:=hr
 obtain⟨a,b,hk⟩:∃a b,e.kids=[a,b]:=by
  obtain⟨l1,l2,_⟩:=dF hf
  have e1:loK e.op=2:=by rw[loK,if_neg (by omega),if_neg (by omega),if_neg (by omega)]
  have e2:hiK e.op=2:=by rw[hiK,if_neg (by omega),if_neg (by omega),if_neg (by omega)]
  rw[e1] at l1
  rw[e2] at l2
  match hx:e.kids,l1,l2 with
  |[a,b],_,_=>exact⟨a,b,rfl⟩
 have hac:=a.cs_eq
 have hbc:=b.cs_eq
 have haf:=hkf a (by rw[hk];simp)
 have hbf:=hkf b (by rw[hk];simp)
 have hp:dJ e.op e.n e.name e.kids=ll e.op e.n e.name a b:=by
  unfold dJ
  rw[if_neg (by omega),hk]
 have hin:inR e.op 3 10=true:=by
  simp only[inR,Bool.and_eq_true,decide_eq_true_eq];omega
 rw[hp]
 simp-implicitDefEqProofs[K_spec_l6Part,F_spec_l6Part,hc,o11,hk,hxl]
 refine(mN G _ _ _).use ?_
 simp-implicitDefEqProofs[hin,hac,hbc]
 have HA0:=uY G a 0
 have HA1:=uY G a 1
 have HB0:=uY G b 0
 have HB1:=uY G b 1
 have HSA:=zS G d a haf (hks a (by rw[hk];simp))
 have HSB:=zS G d b hbf (hks b (by rw[hk];simp))
 rw[hac] at HA0 HA1 HSA
 rw[hbc] at HB0 HB1 HSB
 simp only[List.map_cons,List.map_nil] at HA0 HA1 HB0 HB1 HSA HSB
 refine pQ (fun _:Unit=>aj 148 [(1,.ptr 0 4 0 0),(2,.ptr 1 4 0 0),(4,.ptr 2 4 0 0),(5,.ptr 3 4 0 0)])
  (fun _=>[.row 4 [[.p (.int .i64 e.op),.p (.int .i64 e.n),.p (.str e.name),.p (.lst 4 [a.cs,b.cs])]],.row 4 [[.p (.int .i64 0),.p (.int .i64 0),.p (.str []),.nils]],.row 4 [[.p (.int .i64 a.op),.p (.int .i64 a.n),.p (.str a.name),.p (exL a.kids)]],.row 4 [[.p (.int .i64 b.op),.p (.int .i64 b.n),.p (.str b.name),.p (exL b.kids)]]])
  (fun _=>(if a.op=1∧b.op=1 then ar5 e.op a.n b.n else none)=none) ?_ ?_
 ·
  by_cases a1:a.op=1
  ·by_cases b1:b.op=1
   ·have H:=Ep G e a b hk a1 b1 h3 h10 (rc (gW haf)) (rc (gW hbf))
    rw[hc,hxl,hk] at H
    simp only[List.map_cons,List.map_nil,hac,hbc,a1,b1] at H
    have hp2:∀q,ar5 e.op a.n b.n=some q→ll e.op e.n e.name a b=lp q:=by
     intro q hq
     unfold ll
     rw[if_pos ⟨a1,b1⟩,hq]
    cases hq:ar5 e.op a.n b.n with
    |none=>
     rw[hq] at H
     simp only[oW] at H
     simp-implicitDefEqProofs[a1,b1,hac,hbc]
     refine H.use ?_
     simp-implicitDefEqProofs[hq]
     exact aa (by simp) (by simp[okO,below]) (by simp[below])
    |some q=>
     rw[hq] at H
     simp only[oW] at H
     rw[hp2 q hq]
     simp-implicitDefEqProofs[a1,b1,hac,hbc]
     refine H.use ?_
     simp-implicitDefEqProofs[]
     refine(lL G _).use ?_
     simp-implicitDefEqProofs[hnc]
   ·simp-implicitDefEqProofs[a1,b1,hac,hbc]
    exact aa (by simp) (by simp[okO,below]) (by simp[below])
  ·simp-implicitDefEqProofs[a1,hac,hbc]
   exact aa (by simp) (by simp[okO,below]) (by simp[below])
 intro _ hn
 have hp2:ll e.op e.n e.name a b=if e.op=10∧isN a 0=true then lp 0 else if(e.op=3∨e.op=4)∧isN b 0=true∨(e.op=5∨e.op=6)∧isN b 1=true then a else if e.op=3∧isN a 0=true∨e.op=5∧isN a 1=true then b
  else if e.op=5∧(isN b 0=true∧dA a=true∨isN a 0=true∧dA b=true) then lp 0 else e:=by
  unfold ll
  rw[hn]
  simp only
  rw[←hk,←hem]
 rw[hp2]
 simp only[hac,hbc]
 have ho:e.op=3∨e.op=4∨e.op=5∨e.op=6∨e.op=7∨e.op=8∨e.op=9∨e.op=10:=by omega
 rcases ho with ho|ho|ho|ho|ho|ho|ho|ho
 ·simp-implicitDefEqProofs[ho]
  refine HB0.use ?_
  by_cases hhb0:isN b 0=true
  ·simp-implicitDefEqProofs[hhb0,ho,hc,hxl,hk,hac,hbc]
  ·simp-implicitDefEqProofs[hhb0,ho,hc,hxl,hk,hac,hbc]
   refine HB1.use ?_
   by_cases hhb1:isN b 1=true
   ·simp-implicitDefEqProofs[hhb1,ho,hc,hxl,hk,hac,hbc]
    refine HA0.use ?_
    by_cases hha0:isN a 0=true
    ·simp-implicitDefEqProofs[hha0,ho,hc,hxl,hk,hac,hbc]
    ·simp-implicitDefEqProofs[hha0,ho,hc,hxl,hk,hac,hbc]
     refine HA1.use ?_
     by_cases hha1:isN a 1=true
     ·simp-implicitDefEqProofs[hha1,ho,hc,hxl,hk,hac,hbc]
     ·simp-implicitDefEqProofs[hha1,ho,hc,hxl,hk,hac,hbc]
   ·simp-implicitDefEqProofs[hhb1,ho,hc,hxl,hk,hac,hbc]
    refine HA0.use ?_
    by_cases hha0:isN a 0=true
    ·simp-implicitDefEqProofs[hha0,ho,hc,hxl,hk,hac,hbc]
    ·simp-implicitDefEqProofs[hha0,ho,hc,hxl,hk,hac,hbc]
     refine HA1.use ?_
     by_cases hha1:isN a 1=true
     ·simp-implicitDefEqProofs[hha1,ho,hc,hxl,hk,hac,hbc]
     ·simp-implicitDefEqProofs[hha1,ho,hc,hxl,hk,hac,hbc]
 ·simp-implicitDefEqProofs[ho]
  refine HB0.use ?_
  by_cases hhb0:isN b 0=true
  ·simp-implicitDefEqProofs[hhb0,ho,hc,hxl,hk,hac,hbc]
  ·simp-implicitDefEqProofs[hhb0,ho,hc,hxl,hk,hac,hbc]
   refine HB1.use ?_
   by_cases hhb1:isN b 1=true
   ·simp-implicitDefEqProofs[hhb1,ho,hc,hxl,hk,hac,hbc]
    refine HA0.use ?_
    by_cases hha0:isN a 0=true
    ·simp-implicitDefEqProofs[hha0,ho,hc,hxl,hk,hac,hbc]
     refine HA1.use ?_
     by_cases hha1:isN a 1=true
     ·simp-implicitDefEqProofs[hha1,ho,hc,hxl,hk,hac,hbc]
     ·simp-implicitDefEqProofs[hha1,ho,hc,hxl,hk,hac,hbc]
    ·simp-implicitDefEqProofs[hha0,ho,hc,hxl,hk,hac,hbc]
     refine HA1.use ?_
     by_cases hha1:isN a 1=true
     ·simp-implicitDefEqProofs[hha1,ho,hc,hxl,hk,hac,hbc]
     ·simp-implicitDefEqProofs[hha1,ho,hc,hxl,hk,hac,hbc]
   ·simp-implicitDefEqProofs[hhb1,ho,hc,hxl,hk,hac,hbc]
    refine HA0.use ?_
    by_cases hha0:isN a 0=true
    ·simp-implicitDefEqProofs[hha0,ho,hc,hxl,hk,hac,hbc]
     refine HA1.use ?_
     by_cases hha1:isN a 1=true
     ·simp-implicitDefEqProofs[hha1,ho,hc,hxl,hk,hac,hbc]
     ·simp-implicitDefEqProofs[hha1,ho,hc,hxl,hk,hac,hbc]
    ·simp-implicitDefEqProofs[hha0,ho,hc,hxl,hk,hac,hbc]
     refine HA1.use ?_
     by_cases hha1:isN a 1=true
     ·simp-implicitDefEqProofs[hha1,ho,hc,hxl,hk,hac,hbc]
     ·simp-implicitDefEqProofs[hha1,ho,hc,hxl,hk,hac,hbc]
 ·simp-implicitDefEqProofs[ho]
  refine HB0.use ?_
  by_cases hhb0:isN b 0=true
  ·simp-implicitDefEqProofs[hhb0,ho,hc,hxl,hk,hac,hbc]
   refine HB1.use ?_
   by_cases hhb1:isN b 1=true
   ·simp-implicitDefEqProofs[hhb1,ho,hc,hxl,hk,hac,hbc]
   ·simp-implicitDefEqProofs[hhb1,ho,hc,hxl,hk,hac,hbc]
    refine HA0.use ?_
    by_cases hha0:isN a 0=true
    ·simp-implicitDefEqProofs[hha0,ho,hc,hxl,hk,hac,hbc]
     refine HA1.use ?_
     by_cases hha1:isN a 1=true
     ·simp-implicitDefEqProofs[hha1,ho,hc,hxl,hk,hac,hbc]
     ·simp-implicitDefEqProofs[hha1,ho,hc,hxl,hk,hac,hbc]
      refine HB0.use ?_
      simp-implicitDefEqProofs[hhb0]
      refine HSA.use ?_
      by_cases hhsa:dA a=true
      ·simp-implicitDefEqProofs[hhsa,ho,hc,hxl,hk,hac,hbc]
       refine(lL G _).use ?_
       simp-implicitDefEqProofs[hnc]
      ·simp-implicitDefEqProofs[hhsa,ho,hc,hxl,hk,hac,hbc]
       refine HA0.use ?_
       simp-implicitDefEqProofs[hha0]
       refine HSB.use ?_
       by_cases hhsb:dA b=true
       ·simp-implicitDefEqProofs[hhsb,ho,hc,hxl,hk,hac,hbc]
        refine(lL G _).use ?_
        simp-implicitDefEqProofs[hnc]
       ·simp-implicitDefEqProofs[hhsb,ho,hc,hxl,hk,hac,hbc]
    ·simp-implicitDefEqProofs[hha0,ho,hc,hxl,hk,hac,hbc]
     refine HA1.use ?_
     by_cases hha1:isN a 1=true
     ·simp-implicitDefEqProofs[hha1,ho,hc,hxl,hk,hac,hbc]
     ·simp-implicitDefEqProofs[hha1,ho,hc,hxl,hk,hac,hbc]
      refine HB0.use ?_
      simp-implicitDefEqProofs[hhb0]
      refine HSA.use ?_
      by_cases hhsa:dA a=true
      ·simp-implicitDefEqProofs[hhsa,ho,hc,hxl,hk,hac,hbc]
       refine(lL G _).use ?_
       simp-implicitDefEqProofs[hnc]
      ·simp-implicitDefEqProofs[hhsa,ho,hc,hxl,hk,hac,hbc]
       refine HA0.use ?_
       simp-implicitDefEqProofs[hha0]
  ·simp-implicitDefEqProofs[hhb0,ho,hc,hxl,hk,hac,hbc]
   refine HB1.use ?_
   by_cases hhb1:isN b 1=true
   ·simp-implicitDefEqProofs[hhb1,ho,hc,hxl,hk,hac,hbc]
   ·simp-implicitDefEqProofs[hhb1,ho,hc,hxl,hk,hac,hbc]
    refine HA0.use ?_
    by_cases hha0:isN a 0=true
    ·simp-implicitDefEqProofs[hha0,ho,hc,hxl,hk,hac,hbc]
     refine HA1.use ?_
     by_cases hha1:isN a 1=true
     ·simp-implicitDefEqProofs[hha1,ho,hc,hxl,hk,hac,hbc]
     ·simp-implicitDefEqProofs[hha1,ho,hc,hxl,hk,hac,hbc]
      refine HB0.use ?_
      simp-implicitDefEqProofs[hhb0]
      refine HA0.use ?_
      simp-implicitDefEqProofs[hha0]
      refine HSB.use ?_
      by_cases hhsb:dA b=true
      ·simp-implicitDefEqProofs[hhsb,ho,hc,hxl,hk,hac,hbc]
       refine(lL G _).use ?_
       simp-implicitDefEqProofs[hnc]
      ·simp-implicitDefEqProofs[hhsb,ho,hc,hxl,hk,hac,hbc]
    ·simp-implicitDefEqProofs[hha0,ho,hc,hxl,hk,hac,hbc]
     refine HA1.use ?_
     by_cases hha1:isN a 1=true
     ·simp-implicitDefEqProofs[hha1,ho,hc,hxl,hk,hac,hbc]
     ·simp-implicitDefEqProofs[hha1,ho,hc,hxl,hk,hac,hbc]
      refine HB0.use ?_
      simp-implicitDefEqProofs[hhb0]
      refine HA0.use ?_
      simp-implicitDefEqProofs[hha0]
 ·simp-implicitDefEqProofs[ho]
  refine HB0.use ?_
  by_cases hhb0:isN b 0=true
  ·simp-implicitDefEqProofs[hhb0,ho,hc,hxl,hk,hac,hbc]
   refine HB1.use ?_
   by_cases hhb1:isN b 1=true
   ·simp-implicitDefEqProofs[hhb1,ho,hc,hxl,hk,hac,hbc]
   ·simp-implicitDefEqProofs[hhb1,ho,hc,hxl,hk,hac,hbc]
    refine HA0.use ?_
    by_cases hha0:isN a 0=true
    ·simp-implicitDefEqProofs[hha0,ho,hc,hxl,hk,hac,hbc]
     refine HA1.use ?_
     by_cases hha1:isN a 1=true
     ·simp-implicitDefEqProofs[hha1,ho,hc,hxl,hk,hac,hbc]
     ·simp-implicitDefEqProofs[hha1,ho,hc,hxl,hk,hac,hbc]
    ·simp-implicitDefEqProofs[hha0,ho,hc,hxl,hk,hac,hbc]
     refine HA1.use ?_
     by_cases hha1:isN a 1=true
     ·simp-implicitDefEqProofs[hha1,ho,hc,hxl,hk,hac,hbc]
     ·simp-implicitDefEqProofs[hha1,ho,hc,hxl,hk,hac,hbc]
  ·simp-implicitDefEqProofs[hhb0,ho,hc,hxl,hk,hac,hbc]
   refine HB1.use ?_
   by_cases hhb1:isN b 1=true
   ·simp-implicitDefEqProofs[hhb1,ho,hc,hxl,hk,hac,hbc]
   ·simp-implicitDefEqProofs[hhb1,ho,hc,hxl,hk,hac,hbc]
    refine HA0.use ?_
    by_cases hha0:isN a 0=true
    ·simp-implicitDefEqProofs[hha0,ho,hc,hxl,hk,hac,hbc]
     refine HA1.use ?_
     by_cases hha1:isN a 1=true
     ·simp-implicitDefEqProofs[hha1,ho,hc,hxl,hk,hac,hbc]
     ·simp-implicitDefEqProofs[hha1,ho,hc,hxl,hk,hac,hbc]
    ·simp-implicitDefEqProofs[hha0,ho,hc,hxl,hk,hac,hbc]
     refine HA1.use ?_
     by_cases hha1:isN a 1=true
     ·simp-implicitDefEqProofs[hha1,ho,hc,hxl,hk,hac,hbc]
     ·simp-implicitDefEqProofs[hha1,ho,hc,hxl,hk,hac,hbc]
 ·simp-implicitDefEqProofs[ho]
  refine HB0.use ?_
  by_cases hhb0:isN b 0=true
  ·simp-implicitDefEqProofs[hhb0,ho,hc,hxl,hk,hac,hbc]
   refine HB1.use ?_
   by_cases hhb1:isN b 1=true
   ·simp-implicitDefEqProofs[hhb1,ho,hc,hxl,hk,hac,hbc]
    refine HA0.use ?_
    by_cases hha0:isN a 0=true
    ·simp-implicitDefEqProofs[hha0,ho,hc,hxl,hk,hac,hbc]
     refine HA1.use ?_
     by_cases hha1:isN a 1=true
     ·simp-implicitDefEqProofs[hha1,ho,hc,hxl,hk,hac,hbc]
     ·simp-implicitDefEqProofs[hha1,ho,hc,hxl,hk,hac,hbc]
    ·simp-implicitDefEqProofs[hha0,ho,hc,hxl,hk,hac,hbc]
     refine HA1.use ?_
     by_cases hha1:isN a 1=true
     ·simp-implicitDefEqProofs[hha1,ho,hc,hxl,hk,hac,hbc]
     ·simp-implicitDefEqProofs[hha1,ho,hc,hxl,hk,hac,hbc]
   ·simp-implicitDefEqProofs[hhb1,ho,hc,hxl,hk,hac,hbc]
    refine HA0.use ?_
    by_cases hha0:isN a 0=true
    ·simp-implicitDefEqProofs[hha0,ho,hc,hxl,hk,hac,hbc]
     refine HA1.use ?_
     by_cases hha1:isN a 1=true
     ·simp-implicitDefEqProofs[hha1,ho,hc,hxl,hk,hac,hbc]
     ·simp-implicitDefEqProofs[hha1,ho,hc,hxl,hk,hac,hbc]
    ·simp-implicitDefEqProofs[hha0,ho,hc,hxl,hk,hac,hbc]
     refine HA1.use ?_
     by_cases hha1:isN a 1=true
     ·simp-implicitDefEqProofs[hha1,ho,hc,hxl,hk,hac,hbc]
     ·simp-implicitDefEqProofs[hha1,ho,hc,hxl,hk,hac,hbc]
  ·simp-implicitDefEqProofs[hhb0,ho,hc,hxl,hk,hac,hbc]
   refine HB1.use ?_
   by_cases hhb1:isN b 1=true
   ·simp-implicitDefEqProofs[hhb1,ho,hc,hxl,hk,hac,hbc]
    refine HA0.use ?_
    by_cases hha0:isN a 0=true
    ·simp-implicitDefEqProofs[hha0,ho,hc,hxl,hk,hac,hbc]
     refine HA1.use ?_
     by_cases hha1:isN a 1=true
     ·simp-implicitDefEqProofs[hha1,ho,hc,hxl,hk,hac,hbc]
     ·simp-implicitDefEqProofs[hha1,ho,hc,hxl,hk,hac,hbc]
    ·simp-implicitDefEqProofs[hha0,ho,hc,hxl,hk,hac,hbc]
     refine HA1.use ?_
     by_cases hha1:isN a 1=true
     ·simp-implicitDefEqProofs[hha1,ho,hc,hxl,hk,hac,hbc]
     ·simp-implicitDefEqProofs[hha1,ho,hc,hxl,hk,hac,hbc]
   ·simp-implicitDefEqProofs[hhb1,ho,hc,hxl,hk,hac,hbc]
    refine HA0.use ?_
    by_cases hha0:isN a 0=true
    ·simp-implicitDefEqProofs[hha0,ho,hc,hxl,hk,hac,hbc]
     refine HA1.use ?_
     by_cases hha1:isN a 1=true
     ·simp-implicitDefEqProofs[hha1,ho,hc,hxl,hk,hac,hbc]
     ·simp-implicitDefEqProofs[hha1,ho,hc,hxl,hk,hac,hbc]
    ·simp-implicitDefEqProofs[hha0,ho,hc,hxl,hk,hac,hbc]
     refine HA1.use ?_
     by_cases hha1:isN a 1=true
     ·simp-implicitDefEqProofs[hha1,ho,hc,hxl,hk,hac,hbc]
     ·simp-implicitDefEqProofs[hha1,ho,hc,hxl,hk,hac,hbc]
 ·simp-implicitDefEqProofs[ho]
  refine HB0.use ?_
  by_cases hhb0:isN b 0=true
  ·simp-implicitDefEqProofs[hhb0,ho,hc,hxl,hk,hac,hbc]
   refine HB1.use ?_
   by_cases hhb1:isN b 1=true
   ·simp-implicitDefEqProofs[hhb1,ho,hc,hxl,hk,hac,hbc]
    refine HA0.use ?_
    by_cases hha0:isN a 0=true
    ·simp-implicitDefEqProofs[hha0,ho,hc,hxl,hk,hac,hbc]
     refine HA1.use ?_
     by_cases hha1:isN a 1=true
     ·simp-implicitDefEqProofs[hha1,ho,hc,hxl,hk,hac,hbc]
     ·simp-implicitDefEqProofs[hha1,ho,hc,hxl,hk,hac,hbc]
    ·simp-implicitDefEqProofs[hha0,ho,hc,hxl,hk,hac,hbc]
     refine HA1.use ?_
     by_cases hha1:isN a 1=true
     ·simp-implicitDefEqProofs[hha1,ho,hc,hxl,hk,hac,hbc]
     ·simp-implicitDefEqProofs[hha1,ho,hc,hxl,hk,hac,hbc]
   ·simp-implicitDefEqProofs[hhb1,ho,hc,hxl,hk,hac,hbc]
    refine HA0.use ?_
    by_cases hha0:isN a 0=true
    ·simp-implicitDefEqProofs[hha0,ho,hc,hxl,hk,hac,hbc]
     refine HA1.use ?_
     by_cases hha1:isN a 1=true
     ·simp-implicitDefEqProofs[hha1,ho,hc,hxl,hk,hac,hbc]
     ·simp-implicitDefEqProofs[hha1,ho,hc,hxl,hk,hac,hbc]
    ·simp-implicitDefEqProofs[hha0,ho,hc,hxl,hk,hac,hbc]
     refine HA1.use ?_
     by_cases hha1:isN a 1=true
     ·simp-implicitDefEqProofs[hha1,ho,hc,hxl,hk,hac,hbc]
     ·simp-implicitDefEqProofs[hha1,ho,hc,hxl,hk,hac,hbc]
  ·simp-implicitDefEqProofs[hhb0,ho,hc,hxl,hk,hac,hbc]
   refine HB1.use ?_
   by_cases hhb1:isN b 1=true
   ·simp-implicitDefEqProofs[hhb1,ho,hc,hxl,hk,hac,hbc]
    refine HA0.use ?_
    by_cases hha0:isN a 0=true
    ·simp-implicitDefEqProofs[hha0,ho,hc,hxl,hk,hac,hbc]
     refine HA1.use ?_
     by_cases hha1:isN a 1=true
     ·simp-implicitDefEqProofs[hha1,ho,hc,hxl,hk,hac,hbc]
     ·simp-implicitDefEqProofs[hha1,ho,hc,hxl,hk,hac,hbc]
    ·simp-implicitDefEqProofs[hha0,ho,hc,hxl,hk,hac,hbc]
     refine HA1.use ?_
     by_cases hha1:isN a 1=true
     ·simp-implicitDefEqProofs[hha1,ho,hc,hxl,hk,hac,hbc]
     ·simp-implicitDefEqProofs[hha1,ho,hc,hxl,hk,hac,hbc]
   ·simp-implicitDefEqProofs[hhb1,ho,hc,hxl,hk,hac,hbc]
    refine HA0.use ?_
    by_cases hha0:isN a 0=true
    ·simp-implicitDefEqProofs[hha0,ho,hc,hxl,hk,hac,hbc]
     refine HA1.use ?_
     by_cases hha1:isN a 1=true
     ·simp-implicitDefEqProofs[hha1,ho,hc,hxl,hk,hac,hbc]
     ·simp-implicitDefEqProofs[hha1,ho,hc,hxl,hk,hac,hbc]
    ·simp-implicitDefEqProofs[hha0,ho,hc,hxl,hk,hac,hbc]
     refine HA1.use ?_
     by_cases hha1:isN a 1=true
     ·simp-implicitDefEqProofs[hha1,ho,hc,hxl,hk,hac,hbc]
     ·simp-implicitDefEqProofs[hha1,ho,hc,hxl,hk,hac,hbc]
 ·simp-implicitDefEqProofs[ho]
  refine HB0.use ?_
  by_cases hhb0:isN b 0=true
  ·simp-implicitDefEqProofs[hhb0,ho,hc,hxl,hk,hac,hbc]
   refine HB1.use ?_
   by_cases hhb1:isN b 1=true
   ·simp-implicitDefEqProofs[hhb1,ho,hc,hxl,hk,hac,hbc]
    refine HA0.use ?_
    by_cases hha0:isN a 0=true
    ·simp-implicitDefEqProofs[hha0,ho,hc,hxl,hk,hac,hbc]
     refine HA1.use ?_
     by_cases hha1:isN a 1=true
     ·simp-implicitDefEqProofs[hha1,ho,hc,hxl,hk,hac,hbc]
     ·simp-implicitDefEqProofs[hha1,ho,hc,hxl,hk,hac,hbc]
    ·simp-implicitDefEqProofs[hha0,ho,hc,hxl,hk,hac,hbc]
     refine HA1.use ?_
     by_cases hha1:isN a 1=true
     ·simp-implicitDefEqProofs[hha1,ho,hc,hxl,hk,hac,hbc]
     ·simp-implicitDefEqProofs[hha1,ho,hc,hxl,hk,hac,hbc]
   ·simp-implicitDefEqProofs[hhb1,ho,hc,hxl,hk,hac,hbc]
    refine HA0.use ?_
    by_cases hha0:isN a 0=true
    ·simp-implicitDefEqProofs[hha0,ho,hc,hxl,hk,hac,hbc]
     refine HA1.use ?_
     by_cases hha1:isN a 1=true
     ·simp-implicitDefEqProofs[hha1,ho,hc,hxl,hk,hac,hbc]
     ·simp-implicitDefEqProofs[hha1,ho,hc,hxl,hk,hac,hbc]
    ·simp-implicitDefEqProofs[hha0,ho,hc,hxl,hk,hac,hbc]
     refine HA1.use ?_
     by_cases hha1:isN a 1=true
     ·simp-implicitDefEqProofs[hha1,ho,hc,hxl,hk,hac,hbc]
     ·simp-implicitDefEqProofs[hha1,ho,hc,hxl,hk,hac,hbc]
  ·simp-implicitDefEqProofs[hhb0,ho,hc,hxl,hk,hac,hbc]
   refine HB1.use ?_
   by_cases hhb1:isN b 1=true
   ·simp-implicitDefEqProofs[hhb1,ho,hc,hxl,hk,hac,hbc]
    refine HA0.use ?_
    by_cases hha0:isN a 0=true
    ·simp-implicitDefEqProofs[hha0,ho,hc,hxl,hk,hac,hbc]
     refine HA1.use ?_
     by_cases hha1:isN a 1=true
     ·simp-implicitDefEqProofs[hha1,ho,hc,hxl,hk,hac,hbc]
     ·simp-implicitDefEqProofs[hha1,ho,hc,hxl,hk,hac,hbc]
    ·simp-implicitDefEqProofs[hha0,ho,hc,hxl,hk,hac,hbc]
     refine HA1.use ?_
     by_cases hha1:isN a 1=true
     ·simp-implicitDefEqProofs[hha1,ho,hc,hxl,hk,hac,hbc]
     ·simp-implicitDefEqProofs[hha1,ho,hc,hxl,hk,hac,hbc]
   ·simp-implicitDefEqProofs[hhb1,ho,hc,hxl,hk,hac,hbc]
    refine HA0.use ?_
    by_cases hha0:isN a 0=true
    ·simp-implicitDefEqProofs[hha0,ho,hc,hxl,hk,hac,hbc]
     refine HA1.use ?_
     by_cases hha1:isN a 1=true
     ·simp-implicitDefEqProofs[hha1,ho,hc,hxl,hk,hac,hbc]
     ·simp-implicitDefEqProofs[hha1,ho,hc,hxl,hk,hac,hbc]
    ·simp-implicitDefEqProofs[hha0,ho,hc,hxl,hk,hac,hbc]
     refine HA1.use ?_
     by_cases hha1:isN a 1=true
     ·simp-implicitDefEqProofs[hha1,ho,hc,hxl,hk,hac,hbc]
     ·simp-implicitDefEqProofs[hha1,ho,hc,hxl,hk,hac,hbc]
 ·simp-implicitDefEqProofs[ho]
  refine HA0.use ?_
  by_cases hha0:isN a 0=true
  ·simp-implicitDefEqProofs[hha0,ho,hc,hxl,hk,hac,hbc]
   refine(lL G _).use ?_
   simp-implicitDefEqProofs[hnc]
  ·simp-implicitDefEqProofs[hha0,ho,hc,hxl,hk,hac,hbc]
   refine HB0.use ?_
   by_cases hhb0:isN b 0=true
   ·simp-implicitDefEqProofs[hhb0,ho,hc,hxl,hk,hac,hbc]
    refine HB1.use ?_
    by_cases hhb1:isN b 1=true
    ·simp-implicitDefEqProofs[hhb1,ho,hc,hxl,hk,hac,hbc]
     refine HA0.use ?_
     simp-implicitDefEqProofs[hha0]
     refine HA1.use ?_
     by_cases hha1:isN a 1=true
     ·simp-implicitDefEqProofs[hha1,ho,hc,hxl,hk,hac,hbc]
     ·simp-implicitDefEqProofs[hha1,ho,hc,hxl,hk,hac,hbc]
    ·simp-implicitDefEqProofs[hhb1,ho,hc,hxl,hk,hac,hbc]
     refine HA0.use ?_
     simp-implicitDefEqProofs[hha0]
     refine HA1.use ?_
     by_cases hha1:isN a 1=true
     ·simp-implicitDefEqProofs[hha1,ho,hc,hxl,hk,hac,hbc]
     ·simp-implicitDefEqProofs[hha1,ho,hc,hxl,hk,hac,hbc]
   ·simp-implicitDefEqProofs[hhb0,ho,hc,hxl,hk,hac,hbc]
    refine HB1.use ?_
    by_cases hhb1:isN b 1=true
    ·simp-implicitDefEqProofs[hhb1,ho,hc,hxl,hk,hac,hbc]
     refine HA0.use ?_
     simp-implicitDefEqProofs[hha0]
     refine HA1.use ?_
     by_cases hha1:isN a 1=true
     ·simp-implicitDefEqProofs[hha1,ho,hc,hxl,hk,hac,hbc]
     ·simp-implicitDefEqProofs[hha1,ho,hc,hxl,hk,hac,hbc]
    ·simp-implicitDefEqProofs[hhb1,ho,hc,hxl,hk,hac,hbc]
     refine HA0.use ?_
     simp-implicitDefEqProofs[hha0]
     refine HA1.use ?_
     by_cases hha1:isN a 1=true
     ·simp-implicitDefEqProofs[hha1,ho,hc,hxl,hk,hac,hbc]
     ·simp-implicitDefEqProofs[hha1,ho,hc,hxl,hk,hac,hbc]
end Go.Proofs.YtaopbokndkdieaaGreatDoor
namespace Go.Proofs.YtaopbokndkdieaaGreatDoor
open Go Go.Aw
set_option maxRecDepth 100000
set_option maxHeartbeats 4000000
def K_impl_stmtOk:AK:= .seq (.reg [oJ 2 (.box 5 (.t 0)),oJ 4 (.mov (.c (.p (.bool false))))]) (.seq (.reg [oF 12 0 2,oL 13 12,oJ 14 (.call fD [(.t 13)]),oM 11 14,oJ 15 (.ext 0 (.t 11)),oJ 16 (.ext 1 (.t 11)),oJ 17 (.ext 2 (.t 11)),oJ 18 (.ext 3 (.t 11)),oM 5 15,oM 6 16,oM 7 17,oM 8 18]) (.cut (.blk 0 (.seq (.seq (.reg [oM 20 1,oJ 21 (.bin .gtr (.t 20) (.c (.p (.int .i64 4)))),oM 19 21]) (.cond (.t 19) (.skip) (.seq (.reg [oF 22 2 2,oL 23 22,oJ 24 (.len false (.t 23)),oM 25 5,oJ 26 (.bin .neq (.t 24) (.t 25)),oM 19 26]) (.cond (.t 19) (.skip) (.cut (.reg [oM 27 6,oM 28 27,⟨(some 29),some (28,true),.fldA 1 (.t 2)⟩,⟨(some 30),some (28,true),.ld none (.t 29)⟩,⟨(some 31),some (28,true),.call bE [(.t 30)]⟩,⟨(some 32),some (28,true),.not (.t 31)⟩,oJ 33 (.pick (.t 28) (.t 32) (.c (.p (.bool false)))),oM 19 33]) (.cond (.t 19) (.skip) (.cut (.reg [oM 34 6,oJ 35 (.not (.t 34)),oM 36 35,⟨(some 37),some (36,true),.fldA 1 (.t 2)⟩,⟨(some 38),some (36,true),.ld none (.t 37)⟩,⟨(some 39),some (36,true),.bins .neq (.t 38) (.c (.p (.str [])))⟩,oJ 40 (.pick (.t 36) (.t 39) (.c (.p (.bool false)))),oM 19 40]) (.cond (.t 19) (.skip) (.cut (.reg [oM 41 7,oJ 42 (.not (.t 41)),oM 43 42,⟨(some 44),some (43,true),.fldA 3 (.t 2)⟩,⟨(some 45),some (43,true),.ld none (.t 44)⟩,⟨(some 46),some (43,true),.len false (.t 45)⟩,⟨(some 47),some (43,true),.bin .gtr (.t 46) (.c (.p (.int .i64 0)))⟩,oJ 48 (.pick (.t 43) (.t 47) (.c (.p (.bool false)))),oM 19 48]) (.cond (.t 19) (.skip) (.cut (.reg [oM 49 8,oJ 50 (.not (.t 49)),oM 51 50,⟨(some 52),some (51,true),.fldA 4 (.t 2)⟩,⟨(some 53),some (51,true),.ld none (.t 52)⟩,⟨(some 54),some (51,true),.len false (.t 53)⟩,⟨(some 55),some (51,true),.bin .gtr (.t 54) (.c (.p (.int .i64 0)))⟩,oJ 56 (.pick (.t 51) (.t 55) (.c (.p (.bool false)))),oM 19 56]) (.cond (.t 19) (.skip) (.reg [oF 57 0 2,oL 58 57,oJ 59 (.bin .eql (.t 58) (.c (.p (.int .i64 8)))),oM 60 59,⟨(some 61),some (60,true),.fldA 2 (.t 2)⟩,⟨(some 62),some (60,true),.ld none (.t 61)⟩,⟨(some 63),some (60,true),.idxS 4 (.t 62) (.c (.p (.int .i64 0)))⟩,⟨(some 64),some (60,true),.fldA 0 (.t 63)⟩,⟨(some 65),some (60,true),.ld none (.t 64)⟩,⟨(some 66),some (60,true),.bin .neq (.t 65) (.c (.p (.int .i64 13)))⟩,oJ 67 (.pick (.t 60) (.t 66) (.c (.p (.bool false)))),oM 19 67]))))))))))))) (.cond (.t 19) (.seq (.reg [oJ 4 (.mov (.c (.p (.bool false))))]) (.ret)) (.skip)))) (.seq (.seq (.reg [oF 68 2 2,oL 69 68,oJ 70 (.len false (.t 69)),oK 71 0]) (.blk 1 (.loop (.seq (.reg [oJ 72 (.bin .lss (.t 71) (.t 70))]) (.seq (.cond (.t 72) (.skip) (.exit 1)) (.seq (.blk 2 (.seq (.reg [oJ 73 (.idxS 4 (.t 69) (.t 71)),oJ 74 (.ld (some 4) (.t 73)),oJ 10 (.alloc [(.p (.int .i64 0)),(.p (.int .i64 0)),(.p (.str [])),.nils]),⟨none,none,.st 4 (.t 10) (.t 74)⟩]) (.seq (.reg [oJ 75 (.ld (some 4) (.t 10)),oJ 76 (.call dM [(.t 75)]),oJ 77 (.not (.t 76))]) (.cond (.t 77) (.seq (.reg [oJ 4 (.mov (.c (.p (.bool false))))]) (.ret)) (.skip))))) (.reg [oJ 78 (.bin .add (.t 71) (.c (.p (.int .i64 1)))),oM 71 78]))))))) (.seq (.reg [oF 79 3 2,oL 80 79,oM 81 1,oJ 82 (.bin .add (.t 81) (.c (.p (.int .i64 1)))),oJ 83 (.call cV [(.t 80),(.t 82)]),oM 84 83,⟨(some 85),some (84,true),.fldA 4 (.t 2)⟩,⟨(some 86),some (84,true),.ld none (.t 85)⟩,⟨(some 87),some (84,true),.mov (.t 1)⟩,⟨(some 88),some (84,true),.bin .add (.t 87) (.c (.p (.int .i64 1)))⟩,⟨(some 89),some (84,true),.call cV [(.t 86),(.t 88)]⟩,oJ 90 (.pick (.t 84) (.t 89) (.c (.p (.bool false)))),oM 4 90]) (.ret)))))
theorem wB:K_impl_stmtOk.whole=F_impl_stmtOk.ak:=rfl
variable (G:aI)
def oT(op:Int):Int:=if op=4 then 2 else if inR op 1 8 then 1 else-1
def iH(op:Int):Bool:=decide (op=5)||decide (op=6)
theorem tQ(op:Int):VF Tryz.prog G fD [.p (.int .i64 op)] (.tup [.p (.int .i64 (oT op)),.p (.bool (dd op)),.p (.bool (iH op)),.p (.bool (decide (op=5)))]):=by
 refine AC.go tm ?_
 by_cases h1:op=1
 ·subst h1;simp-implicitDefEqProofs[br,oT,inR,dd,iH]
 by_cases h2:op=2
 ·subst h2;simp-implicitDefEqProofs[br,oT,inR,dd,iH]
 by_cases h3:op=3
 ·subst h3;simp-implicitDefEqProofs[br,oT,inR,dd,iH]
 by_cases h4:op=4
 ·subst h4;simp-implicitDefEqProofs[br,oT,inR,dd,iH]
 by_cases h5:op=5
 ·subst h5;simp-implicitDefEqProofs[br,oT,inR,dd,iH]
 by_cases h6:op=6
 ·subst h6;simp-implicitDefEqProofs[br,oT,inR,dd,iH]
 by_cases h7:op=7
 ·subst h7;simp-implicitDefEqProofs[br,oT,inR,dd,iH]
 by_cases h8:op=8
 ·subst h8;simp-implicitDefEqProofs[br,oT,inR,dd,iH]
 have ha:oT op= -1:=by
  have:inR op 1 8=false:=by simp[inR];omega
  rw[oT,if_neg h4,this];rfl
 have hn:dd op=false:=by simp[dd,h1,h2]
 have hb:iH op=false:=by simp[iH,h5,h6]
 rw[ha,hn,hb]
 simp-implicitDefEqProofs[br,h1,h2,h3,h4,h5,h6,h7,h8]
def Cf:List Ex→Bool
 |a::_=>decide (a.op=13)
 |[]=>false
def iG(s:Sm):Bool:=decide ((s.args.length:Int)=oT s.op)&&(!dd s.op||aH s.name)&&(dd s.op||decide (s.name=[]))&&(iH s.op||decide (s.body=[]))&&(decide (s.op=5)||decide (s.els=[]))&&
 (!decide (s.op=8)||Cf s.args)
theorem EF(s:Sm):er s=(inR s.op 1 8&&decide (s.args.length=jL s.op)&&(dd s.op==aH s.name)&&(dd s.op||decide (s.name=[]))&&s.args.all fI&&
 (!decide (s.op=8)||Cf s.args)&&(s.els.isEmpty||decide (s.op=5))&&(s.body.isEmpty||decide (s.op=5)||decide (s.op=6))):=by
 unfold er
 cases s.args<;>rfl
theorem zy(s:Sm):er s=(iG s&&s.args.all fI):=by
 have ha:decide ((s.args.length:Int)=oT s.op)=(inR s.op 1 8&&decide (s.args.length=jL s.op)):=by
  unfold oT jL
  by_cases h4:s.op=4
  ·have:inR s.op 1 8=true:=by simp[inR,h4]
   rw[this,if_pos h4,if_pos h4];simp;omega
  ·rw[if_neg h4,if_neg h4]
   cases h:inR s.op 1 8 with
   |true=>simp;omega
   |false=>simp
 have hn:(dd s.op==aH s.name&&(dd s.op||decide (s.name=[])))=((!dd s.op||aH s.name)&&(dd s.op||decide (s.name=[]))):=by
  cases dd s.op with
  |true=>cases aH s.name<;>rfl
  |false=>
   by_cases h:s.name=[]
   ·rw[h,qc];rfl
   ·simp[h]
 have hb:(s.body.isEmpty||decide (s.op=5)||decide (s.op=6))=(iH s.op||decide (s.body=[])):=by
  rw[iH]
  cases s.body<;>cases decide (s.op=5)<;>cases decide (s.op=6)<;>simp
 have he:(s.els.isEmpty||decide (s.op=5))=(decide (s.op=5)||decide (s.els=[])):=by
  cases s.els<;>cases decide (s.op=5)<;>simp
 rw[EF]
 unfold iG
 rw[ha,hb,he]
 generalize Cf s.args=z
 generalize (dd s.op==aH s.name)=c at hn⊢
 generalize (!dd s.op||aH s.name)=c' at hn⊢
 generalize (dd s.op||decide (s.name=[]))=d at hn⊢
 generalize s.args.all fI=x
 generalize (iH s.op||decide (s.body=[]))=y
 generalize (decide (s.op=5)||decide (s.els=[]))=y'
 generalize (!decide (s.op=8))=u
 cases inR s.op 1 8<;>cases decide (s.args.length=jL s.op)<;>cases c<;>cases c'<;>cases d<;>cases x<;>cases y<;>cases y'<;>cases u<;>cases z<;>simp_all
variable (hK:G dH=some dy) (hS:G bM=some [.tbl opK opV])
def BV(d:Nat)(L:List Sm):Int:=match L.findIdx? (fun s=> !aq d s) with|some i=>i|none=> -1
theorem Gr(d:Nat)(L:List Sm):decide (0≤BV d L)= !(L.all (aq d)):=by
 unfold BV
 cases h:L.findIdx? (fun x=> !aq d x) with
 |none=>
  rw[List.findIdx?_eq_none_iff] at h
  have:L.all (aq d)=true:=List.all_eq_true.2 fun x hx=>by have:=h x hx;simpa using this
  simp[this]
 |some i=>
  rw[List.findIdx?_eq_some_iff_getElem] at h
  obtain⟨h1,h2,_⟩:=h
  have:L.all (aq d)=false:=List.all_eq_false.2 ⟨_,List.getElem_mem h1,by simpa using h2⟩
  rw[this];simp
theorem sO(d:Nat)(nest:Int)(hs:∀s:Sm,s.sz≤1073741824→VF Tryz.prog G hU [.agg (s.cs.map .p),.p (.int .i64 nest)] (.p (.bool (aq d s))))(L:List Sm)(hL:aD L≤1073741824):
 VF Tryz.prog G cV [.p (smL L),.p (.int .i64 nest)] (.p (.bool (L.all (aq d)))):=by
 have hsl:smL L= .lst 5 (L.map Sm.cs):=rfl
 have hll:=aR L
 have kz:∀s:Sm,s.sz≤1073741824→AC Tryz.prog G cR [.agg (s.cs.map .p),.ptr 0 1 0 0] [.row 1 [[.p (.int .i64 nest)]]] fun x h=>x= .ret (.p (.bool (!aq d s)))∧h=[.row 1 [[.p (.int .i64 nest)]]]:=by
  intro s hz
  refine AC.trim (AC.go sy ?_) (by simp[below])
  have hse:=s.cs_eq
  have h1:=hs s hz
  rw[hse] at h1
  simp-implicitDefEqProofs[lc,hse]
  refine h1.use ?_
  simp-implicitDefEqProofs[]
 have idx:AC Tryz.prog G cy [.p (smL L),.fn (.func cR) [.ptr 0 1 0 0]] [.row 1 [[.p (.int .i64 nest)]]] fun x h=>x= .ret (.p (.int .i64 (BV d L)))∧h=[.row 1 [[.p (.int .i64 nest)]]]:=by
  refine AC.go iI ?_
  simp-implicitDefEqProofs[dU,hsl]
  refine aF (fun i:Nat=>aj 19 [(0,.p (smL L)),(1,.fn (.func cR) [.ptr 0 1 0 0]),(7,.p (.int .i64 L.length)),(8,.p (.int .i64 i))]) (fun _=>[.row 1 [[.p (.int .i64 nest)]]]) (fun i=>i≤L.length∧∀w∈L.take i,aq d w=true) (fun i=>L.length-i) 0 (by simp) ?_ ?_
  ·exact aa (by simp) (by simp[okO,below]) (by simp[below,af,hsl])
  ·intro i ⟨hi,hn⟩
   simp-implicitDefEqProofs[hsl]
   refine bh (fun h1=>?_) (fun h1=>?_)
   ·simp at h1
    have hg:=List.getElem?_eq_getElem h1
    have hz:=aL (List.getElem_mem h1)
    simp-implicitDefEqProofs[hg]
    refine(kz L[i] (by omega)).mono ?_
    rintro r h ⟨rfl,rfl⟩
    by_cases he:aq d L[i]=true
    ·simp-implicitDefEqProofs[ab,he]
     refine⟨i+1,⟨h1,fun p hp=>?_⟩,by omega,aa (by simp) (by simp[okO,below]) (by simp[below,af,hsl,w1 (i:=i) (by omega)])⟩
     rw[ah h1] at hp
     rcases List.mem_append.1 hp with hp|hp
     ·exact hn p hp
     ·rw[List.mem_singleton.1 hp];exact he
    ·have hf:BV d L=i:=by
      have:L.findIdx? (fun w=> !aq d w)=some i:=by
       rw[List.findIdx?_eq_some_iff_getElem]
       exact⟨h1,by simpa using he,fun j hj=>by have:=hn L[j] (List.mem_take_iff_getElem.2 ⟨j,by omega,rfl⟩);simpa using this⟩
      rw[BV,this]
     simp-implicitDefEqProofs[ab,he,hf]
   ·simp at h1
    rw[List.take_of_length_le h1] at hn
    have hf:BV d L= -1:=by
     have:L.findIdx? (fun w=> !aq d w)=none:=by
      rw[List.findIdx?_eq_none_iff];intro x hx;simpa using hn x hx
     rw[BV,this]
    simp-implicitDefEqProofs[hf]
 have con:AC Tryz.prog G bQ [.p (smL L),.fn (.func cR) [.ptr 0 1 0 0]] [.row 1 [[.p (.int .i64 nest)]]] fun x h=>x= .ret (.p (.bool (!L.all (aq d))))∧h=[.row 1 [[.p (.int .i64 nest)]]]:=by
  refine AC.go gv ?_
  simp-implicitDefEqProofs[dB]
  refine idx.mono ?_
  rintro r h ⟨rfl,rfl⟩
  have:=Gr d L
  simp-implicitDefEqProofs[ab]
  simpa using this
 refine AC.go vX ?_
 simp-implicitDefEqProofs[nt]
 refine con.mono ?_
 rintro r h ⟨rfl,rfl⟩
 simp-implicitDefEqProofs[ab]
include hS hK
theorem GU:∀d:Nat,d≤4→∀s:Sm,s.sz≤1073741824→VF Tryz.prog G hU [.agg (s.cs.map .p),.p (.int .i64 (5-d))] (.p (.bool (aq d s))):=by
 intro d
 induction d with
 |zero=>
  intro _ s hz
  have hse:=s.cs_eq
  refine AC.go pi ?_
  simp-implicitDefEqProofs[F_impl_stmtOk,hse]
  refine(tQ G _).use ?_
  simp-implicitDefEqProofs[aq]
 |succ d ih=>
  intro hd s hz
  have hse:=s.cs_eq
  have hsz:=s.sz_eq
  have hal:=aM s.args
  have hblk:=sO G d (5-d) (ih (by omega))
  have hnn:(5:Int)-((d+1:Nat):Int)=4-d:=by omega
  have hnw:IntKind.i64.wrap (4-(d:Int)+1)=5-d:=by rw[al (by omega) (by omega)];omega
  have hn4:¬(4:Int)<4-d:=by omega
  have hxl:exL s.args= .lst 4 (s.args.map Ex.cs):=rfl
  have hsl:∀l,smL l= .lst 5 (l.map Sm.cs):=fun _=>rfl
  rw[hnn]
  have hbad:iG s=false→aq (d+1) s=false:=fun h=>by rw[aq,zy,h];rfl
  refine AC.goK pi wB ?_
  simp-implicitDefEqProofs[K_impl_stmtOk,F_impl_stmtOk,hse]
  refine(tQ G _).use ?_
  simp-implicitDefEqProofs[]
  refine pQ (fun _:Unit=>aj 91 [(1,.p (.int .i64 (4-d))),(2,.ptr 0 5 0 0)]) (fun _=>[.row 5 [[.p (.int .i64 s.op),.p (.str s.name),.p (exL s.args),.p (smL s.body),.p (smL s.els)]]]) (fun _=>iG s=true) ?_ ?_
  ·have fin:∀(r1:List (Nat × AV)),Aw.look r1 1= .p (.int .i64 (4-d))→Aw.look r1 2= .ptr 0 5 0 0→
    Wk 0 (aj 91 r1) [.row 5 [[.p (.int .i64 s.op),.p (.str s.name),.p (exL s.args),.p (smL s.body),.p (smL s.els)]]] (aj 91 [(1,.p (.int .i64 (4-d))),(2,.ptr 0 5 0 0)]) [.row 5 [[.p (.int .i64 s.op),.p (.str s.name),.p (exL s.args),.p (smL s.body),.p (smL s.els)]]]:=fun r1 a b=>
    aa (by simp) (by simp[okO,below]) (by simp[below,a,b])
   have hb0:s.body=[]∨0<s.body.length:=by cases s.body<;>simp
   have he0:s.els=[]∨0<s.els.length:=by cases s.els<;>simp
   by_cases hl:(s.args.length:Int)=oT s.op
   case neg=>
    rw[hbad (by simp[iG,hl])]
    simp-implicitDefEqProofs[hn4,hxl,hl]
   have hel:(decide (s.els=[]))= !decide (0<s.els.length):=by cases s.els<;>simp
   have hbo:(decide (s.body=[]))= !decide (0<s.body.length):=by cases s.body<;>simp
   simp-implicitDefEqProofs[hn4,hxl,hl]
   refine kL (aj 91 [(1,.p (.int .i64 (4-d))),(2,.ptr 0 5 0 0),(6,.p (.bool (dd s.op))),(7,.p (.bool (iH s.op))),(8,.p (.bool (decide (s.op=5)))),(19,.p (.bool (dd s.op&& !aH s.name)))]) ([.row 5 [[.p (.int .i64 s.op),.p (.str s.name),.p (exL s.args),.p (smL s.body),.p (smL s.els)]]]) ?_ ?_
   ·cases hn:dd s.op with
    |true=>
     simp-implicitDefEqProofs[]
     refine(mM G hK _ (by omega)).use ?_
     simp-implicitDefEqProofs[]
     exact aa (by simp) (by simp[okO,below]) (by simp[below])
    |false=>
     simp-implicitDefEqProofs[]
     exact aa (by simp) (by simp[okO,below]) (by simp[below])
   by_cases h2:(dd s.op&& !aH s.name)=true
   ·rw[hbad (by simp only[iG];cases h:dd s.op<;>cases h':aH s.name<;>simp[h,h'] at h2⊢)]
    simp-implicitDefEqProofs[h2]
   have h2':(dd s.op&& !aH s.name)=false:=by simpa using h2
   rw[h2']
   simp-implicitDefEqProofs[]
   refine kL (aj 91 [(1,.p (.int .i64 (4-d))),(2,.ptr 0 5 0 0),(6,.p (.bool (dd s.op))),(7,.p (.bool (iH s.op))),(8,.p (.bool (decide (s.op=5)))),(19,.p (.bool (!dd s.op&& !decide (s.name=[]))))]) ([.row 5 [[.p (.int .i64 s.op),.p (.str s.name),.p (exL s.args),.p (smL s.body),.p (smL s.els)]]]) ?_ ?_
   ·cases hn:dd s.op with
    |true=>
     simp-implicitDefEqProofs[]
     exact aa (by simp) (by simp[okO,below]) (by simp[below])
    |false=>
     simp-implicitDefEqProofs[]
     exact aa (by simp) (by simp[okO,below]) (by simp[below])
   by_cases h3:(!dd s.op&& !decide (s.name=[]))=true
   ·rw[hbad (by simp only[iG];cases h:dd s.op<;>cases h':decide (s.name=[])<;>simp[h,h'] at h3⊢)]
    simp-implicitDefEqProofs[h3]
   have h3':(!dd s.op&& !decide (s.name=[]))=false:=by simpa using h3
   rw[h3']
   simp-implicitDefEqProofs[]
   refine kL (aj 91 [(1,.p (.int .i64 (4-d))),(2,.ptr 0 5 0 0),(6,.p (.bool (dd s.op))),(7,.p (.bool (iH s.op))),(8,.p (.bool (decide (s.op=5)))),(19,.p (.bool (!iH s.op&&decide (0<s.body.length))))]) ([.row 5 [[.p (.int .i64 s.op),.p (.str s.name),.p (exL s.args),.p (smL s.body),.p (smL s.els)]]]) ?_ ?_
   ·cases hn:iH s.op with
    |true=>
     simp-implicitDefEqProofs[hsl]
     exact aa (by simp) (by simp[okO,below]) (by simp[below])
    |false=>
     simp-implicitDefEqProofs[hsl]
     exact aa (by simp) (by simp[okO,below]) (by simp[below])
   by_cases h4:(!iH s.op&&decide (0<s.body.length))=true
   ·rw[hbad (by simp only[iG,hbo];cases h:iH s.op<;>cases h':decide (0<s.body.length)<;>simp[h,h'] at h4⊢)]
    simp-implicitDefEqProofs[h4]
   have h4':(!iH s.op&&decide (0<s.body.length))=false:=by simpa using h4
   rw[h4']
   simp-implicitDefEqProofs[]
   refine kL (aj 91 [(1,.p (.int .i64 (4-d))),(2,.ptr 0 5 0 0),(6,.p (.bool (dd s.op))),(7,.p (.bool (iH s.op))),(8,.p (.bool (decide (s.op=5)))),(19,.p (.bool (!decide (s.op=5)&&decide (0<s.els.length))))]) ([.row 5 [[.p (.int .i64 s.op),.p (.str s.name),.p (exL s.args),.p (smL s.body),.p (smL s.els)]]]) ?_ ?_
   ·cases hn:decide (s.op=5) with
    |true=>
     simp-implicitDefEqProofs[hsl]
     exact aa (by simp) (by simp[okO,below]) (by simp[below])
    |false=>
     simp-implicitDefEqProofs[hsl]
     exact aa (by simp) (by simp[okO,below]) (by simp[below])
   by_cases h5:(!decide (s.op=5)&&decide (0<s.els.length))=true
   ·rw[hbad (by simp only[iG,hel];cases h:decide (s.op=5)<;>cases h':decide (0<s.els.length)<;>simp[h,h'] at h5⊢)]
    simp-implicitDefEqProofs[h5]
   have h5':(!decide (s.op=5)&&decide (0<s.els.length))=false:=by simpa using h5
   rw[h5']
   have hh1:iG s=(!decide (s.op=8)||Cf s.args):=by
    simp only[iG,hl,decide_true,Bool.true_and,hel,hbo]
    cases h:dd s.op<;>cases hi:aH s.name<;>cases hm:decide (s.name=[])<;>cases hb:iH s.op<;>cases hc:decide (0<s.body.length)<;>cases ho:decide (s.op=5)<;>cases he:decide (0<s.els.length)<;>simp[h,hi,hm,hb,hc,ho,he] at h2' h3' h4' h5'⊢
   by_cases o8:s.op=8
   ·have ha1:s.args.length=1:=by
     have:oT s.op=1:=by rw[o8];rfl
     omega
    obtain⟨a0,ha0⟩:∃a0,s.args=[a0]:=by
     match hh:s.args,ha1 with
     |[x],_=>exact⟨x,rfl⟩
    have hae:=a0.cs_eq
    rw[hh1,o8,ha0]
    rw[o8,ha0] at fin
    have hxa:exL [a0]= .lst 4 [a0.cs]:=rfl
    by_cases hc:a0.op=13
    ·have h13:Cf [a0]=true:=by simp[Cf,hc]
     simp-implicitDefEqProofs[o8,hae,hc,h13,hxa]
     rw[hxa,hae,hc] at fin
     exact fin _ (by simp) (by simp)
    ·rw[hbad (by rw[hh1,o8,ha0];simp[Cf,hc])]
     simp-implicitDefEqProofs[o8,hae,hc,hxa]
   ·have hh2:iG s=true:=by rw[hh1];simp[o8]
    simp-implicitDefEqProofs[o8,hh2]
    exact fin _ (by simp) (by simp)
  intro _ h1
  have hh:aq (d+1) s=(s.args.all fI&&(s.body.all (aq d)&&s.els.all (aq d))):=by rw[aq,zy,h1,Bool.true_and,Bool.and_assoc]
  simp-implicitDefEqProofs[hxl]
  refine aF (fun i:Nat=>aj 91 [(1,.p (.int .i64 (4-d))),(2,.ptr 0 5 0 0),(69,.p (exL s.args)),(70,.p (.int .i64 s.args.length)),(71,.p (.int .i64 i))]) (fun _=>[.row 5 [[.p (.int .i64 s.op),.p (.str s.name),.p (exL s.args),.p (smL s.body),.p (smL s.els)]]]) (fun i=>i≤s.args.length∧(s.args.take i).all fI=true) (fun i=>s.args.length-i) 0 (by simp) ?_ ?_
  ·exact aa (by simp) (by simp[okO,below]) (by simp[below,hxl])
  rintro i ⟨hi,ha⟩
  simp-implicitDefEqProofs[hxl]
  refine bh (fun h=>?_) (fun h=>?_)
  ·simp at h
   have hg:=List.getElem?_eq_getElem h
   have hks:=az (List.getElem_mem h)
   have hkc:=s.args[i].cs_eq
   have hx:=sN G hK hS s.args[i] (by omega)
   rw[hkc] at hx
   simp-implicitDefEqProofs[hg,hkc]
   refine hx.use ?_
   by_cases ho:fI s.args[i]=true
   ·simp-implicitDefEqProofs[ho]
    refine⟨i+1,⟨h,by rw[←List.all_eq_true,dx h,ha,ho];rfl⟩,by omega,?_⟩
    refine ka (m:=1) (by omega) (fk rfl rfl (by simp[okO,below])) (by simp[below,hxl,w1 (i:=i) (by omega)])
   ·have ho':fI s.args[i]=false:=by simpa using ho
    rw[hh,kh h ho']
    simp-implicitDefEqProofs[ho']
  ·simp at h
   have ha2:s.args.all fI=true:=fm h ha
   rw[hh,ha2,Bool.true_and]
   simp-implicitDefEqProofs[hnw]
   refine(hblk s.body (by omega)).use ?_
   cases hb:s.body.all (aq d) with
   |true=>
    simp-implicitDefEqProofs[hnw]
    refine(hblk s.els (by omega)).use ?_
    simp-implicitDefEqProofs[]
   |false=>
    simp-implicitDefEqProofs[]
end Go.Proofs.YtaopbokndkdieaaGreatDoor
namespace Go.Proofs.YtaopbokndkdieaaGreatDoor
open Go Go.Aw
set_option maxRecDepth 100000
set_option maxHeartbeats 4000000
variable (G:aI)
structure Vis (σ:Type) where
 I:σ→List AO
 n:Nat
 F:FuncId
 caps:List AV
 len:∀st,(I st).length=n
 ok:∀st,∀o∈I st,okO n o
 capsOk:af n caps
theorem Vis.pre{σ:Type}(V:Vis σ){f:FuncId}{args:List AV}{st st':σ}{v:AV}(H:AC Tryz.prog G f args (V.I st) fun x h=>x= .ret v∧h=V.I st')(rest:List AO)(ha:af V.n args):
 AC Tryz.prog G f args (V.I st++rest) fun x h=>x= .ret v∧h=V.I st'++rest:=by
 refine(AC.pre H rest (by rw[V.len];exact ha) (by rw[V.len];exact V.ok st) ?_).mono ?_
 ·rintro x h ⟨_,rfl⟩;rw[V.len,V.len]
 ·rintro x h ⟨h1,⟨rfl,rfl⟩,rfl⟩
  exact⟨rfl,rfl⟩
theorem Vis.trim{σ:Type}(V:Vis σ){f:FuncId}{args:List AV}{st st':σ}{v:AV}(H:AC Tryz.prog G f args (V.I st) fun x h=>x= .ret v∧∃l,h=V.I st'++l)(hv:below V.n v):
 AC Tryz.prog G f args (V.I st) fun x h=>x= .ret v∧h=V.I st':=by
 refine H.wk (fun t v h ⟨e,_⟩=>by cases e) ?_
 rintro u h ⟨e,l,rfl⟩
 cases e
 refine⟨v,V.I st',vL (n:=V.n) (by rw[V.len];exact Nat.le_refl _) (fk (by rw[←V.len st',List.take_left'];rfl) (V.len _) (V.ok _)) ?_,rfl,rfl⟩
 simp[Fgt,hv]
theorem qr{n m:Nat}(h:n≤m){o:AO}(ho:okO n o):okO m o:=by
 cases o with
 |dead=>trivial
 |sit=>trivial
 |row sz es=>exact fun e he=>aT h _ (ho e he)
 |mp es=>exact fun e he=>(aT h [e.2] ⟨ho e he,trivial⟩).1
theorem Vis.oks{σ:Type}(V:Vis σ)(st:σ){m:Nat}(hm:V.n≤m){r:List AO}(hr:∀o∈r,okO m o):∀o∈V.I st++r,okO m o:=by
 intro o ho
 rcases List.mem_append.1 ho with h|h
 ·exact qr hm (V.ok st o h)
 ·exact hr o h
theorem Vis.same{σ:Type}(V:Vis σ)(st:σ){k n:Nat}(hk:k≤V.n){r s:List AO}{l l1:List (Nat × AV)}(hr:∀o∈r,okO (V.n+r.length) o)(H:FgA (V.n+r.length) l l1):Wk k (aj n l) (V.I st++(r++s)) (aj n l1) (V.I st++r):=by
 have hl:(V.I st++r).length=V.n+r.length:=by rw[List.length_append,V.len]
 refine ka (m:=V.n+r.length) (by omega) (fk ?_ hl (V.oks st (by omega) hr)) H
 rw[←List.append_assoc,←hl,List.take_left'];rfl
theorem Vis.same0{σ:Type}(V:Vis σ)(st:σ){k n:Nat}(hk:k≤V.n){s:List AO}{l l1:List (Nat × AV)}(H:FgA V.n l l1):Wk k (aj n l) (V.I st++s) (aj n l1) (V.I st):=by
 refine ka (m:=V.n) (by omega) (fk ?_ (V.len _) (V.ok st)) H
 rw[←V.len st,List.take_left'];rfl
theorem In{α:Type}{a b:List α}{n:Nat}(h:a.length=n)(i:Nat):(a++b)[n+i]?=b[i]?:=by
 rw[←h,List.getElem?_append_right (by omega)];congr 1;omega
theorem JF{σ:Type}(V:Vis σ)(step:σ→Ex→σ)(inv:σ→Prop)(B:Nat)(hB:B≤1073741824)
 (hv:∀st e,inv st→e.sz≤B→inv (step st e)∧AC Tryz.prog G V.F (.agg (e.cs.map .p)::V.caps) (V.I st) fun x h=>x= .ret (.tup [])∧h=V.I (step st e)):
 ∀(N:Nat) (e:Ex),e.sz<N→e.sz≤B→∀st,inv st→inv (e.pre.foldl step st)∧AC Tryz.prog G eL [.agg (e.cs.map .p),.fn (.func V.F) V.caps] (V.I st) fun x h=>x= .ret (.tup [])∧h=V.I (e.pre.foldl step st):=by
 intro N
 induction N with
 |zero=>intro e h;omega
 |succ N ih=>
  intro e he hz st hi
  have hec:=e.cs_eq
  have hsz:=e.sz_eq
  have hkl:=aM e.kids
  have hxl:exL e.kids= .lst 4 (e.kids.map Ex.cs):=rfl
  have hlen:=V.len
  obtain⟨i1,h1⟩:=hv st e hi hz
  have hinv:∀i,i≤e.kids.length→inv ((dX (e.kids.take i)).foldl step (step st e)):=by
   intro i
   induction i with
   |zero=>intro _;exact i1
   |succ i ihi=>
    intro hl
    have hg:i<e.kids.length:=by omega
    have hks:=az (List.getElem_mem hg)
    rw[ah hg,kQ,List.foldl_append,dX,dX,List.append_nil]
    exact(ih e.kids[i] (by omega) (by omega) _ (ihi (by omega))).1
  refine⟨?_,?_⟩
  ·rw[Ex.pre_eq,List.foldl_cons]
   have:=hinv e.kids.length (Nat.le_refl _)
   rwa[List.take_length] at this
  refine V.trim G (AC.go qD ?_) (by simp[below])
  have hcb:=V.capsOk
  have hcb1:af (V.n+1) V.caps:=aT (by omega) _ hcb
  rw[hec] at h1
  simp-implicitDefEqProofs[lW,hec,hlen]
  refine(V.pre G h1 _ ⟨by simp[below],hcb⟩).mono ?_
  rintro r h ⟨rfl,rfl⟩
  simp-implicitDefEqProofs[ab,hlen,hxl]
  refine aF (fun i:Nat=>aj 20 [(1,.fn (.func V.F) V.caps),(2,.ptr V.n 4 0 0),(10,.p (exL e.kids)),(11,.p (.int .i64 e.kids.length)),(12,.p (.int .i64 i))])
   (fun i=>V.I ((dX (e.kids.take i)).foldl step (step st e))++[.row 4 [[.p (.int .i64 e.op),.p (.int .i64 e.n),.p (.str e.name),.p (exL e.kids)]]]) (fun i=>i≤e.kids.length) (fun i=>e.kids.length-i) 0 (by simp) ?_ ?_
  ·refine V.same (r:=[_]) (s:=[]) _ (Nat.le_refl _) (by simp[okO,below]) ?_
   simp[below,hxl,hcb1]
  intro i hil
  simp-implicitDefEqProofs[hxl]
  refine bh (fun hc=>?_) (fun hc=>?_)
  ·simp at hc
   have hg:=List.getElem?_eq_getElem hc
   have hks:=az (List.getElem_mem hc)
   have hkc:=e.kids[i].cs_eq
   have hI:=(ih e.kids[i] (by omega) (by omega) _ (hinv i hil)).2
   rw[hkc] at hI
   simp-implicitDefEqProofs[hg,hkc,hlen]
   refine(V.pre G hI _ ⟨by simp[below],by simp[below,hcb],trivial⟩).mono ?_
   rintro r h ⟨rfl,rfl⟩
   simp-implicitDefEqProofs[ab]
   refine⟨i+1,hc,by omega,?_⟩
   have hf:(dX (e.kids.take (i+1))).foldl step (step st e)=e.kids[i].pre.foldl step ((dX (e.kids.take i)).foldl step (step st e)):=by
    rw[ah hc,kQ,List.foldl_append,dX,dX,List.append_nil]
   rw[hf]
   refine V.same (r:=[_]) (s:=[_]) _ (Nat.le_refl _) (by simp[okO,below]) ?_
   simp[below,hxl,hcb1,w1 (i:=i) (by omega)]
  ·simp at hc
   have hie:i=e.kids.length:=by omega
   subst hie
   rw[List.take_length,Ex.pre_eq,List.foldl_cons]
   simp-implicitDefEqProofs[]
theorem JC{σ:Type}(V:Vis σ)(step:σ→Sm × Nat→σ)(inv:σ→Prop)(B:Nat)(hB:B≤1073741824)
 (hv:∀st s d,inv st→s.sz≤B→inv (step st (s,d))∧AC Tryz.prog G V.F (.agg (s.cs.map .p):: .p (.int .i64 (d:Nat))::V.caps) (V.I st) fun x h=>x= .ret (.tup [])∧h=V.I (step st (s,d))):
 ∀(N:Nat) (l:List Sm),aD l<N→aD l≤B→∀(d:Nat),d+aD l≤1099511627776→∀st,inv st→inv ((cg d l).foldl step st)∧AC Tryz.prog G fZ [.p (smL l),.p (.int .i64 d),.fn (.func V.F) V.caps] (V.I st) fun x h=>x= .ret (.tup [])∧h=V.I ((cg d l).foldl step st):=by
 intro N
 induction N with
 |zero=>intro l h;omega
 |succ N ih=>
  intro l hl hz d hd st hi
  have hll:=aR l
  have hlen:=V.len
  have hsl:∀l,smL l= .lst 5 (l.map Sm.cs):=fun _=>rfl
  have hone:∀s:Sm,s∈l→∀st,inv st→inv ((s.pre d).foldl step st):=by
   intro s hs st hi
   have hm:=aL hs
   have hsz:=s.sz_eq
   have i1:=(hv st s d hi (by omega)).1
   have i2:=(ih s.body (by omega) (by omega) (d+1) (by omega) _ i1).1
   have i3:=(ih s.els (by omega) (by omega) (d+1) (by omega) _ i2).1
   rw[Sm.pre_eq,List.foldl_cons,List.foldl_append]
   exact i3
  have hinv:∀i,i≤l.length→inv ((cg d (l.take i)).foldl step st):=by
   intro i
   induction i with
   |zero=>intro _;exact hi
   |succ i ihi=>
    intro hl
    have hg:i<l.length:=by omega
    rw[ah hg,pI,List.foldl_append,cg,cg,List.append_nil]
    exact hone _ (List.getElem_mem hg) _ (ihi (by omega))
  refine⟨?_,?_⟩
  ·have:=hinv l.length (Nat.le_refl _)
   rwa[List.take_length] at this
  refine V.trim G (AC.go xU ?_) (by simp[below])
  have hcb:=V.capsOk
  simp-implicitDefEqProofs[qH,hsl]
  refine aF (fun i:Nat=>aj 31 [(1,.p (.int .i64 d)),(2,.fn (.func V.F) V.caps),(8,.p (smL l)),(9,.p (.int .i64 l.length)),(10,.p (.int .i64 i))])
   (fun i=>V.I ((cg d (l.take i)).foldl step st)) (fun i=>i≤l.length) (fun i=>l.length-i) 0 (by simp) ?_ ?_
  ·rw[hlen]
   have:=V.same0 (s:=[]) st (k:=V.n) (n:=31) (Nat.le_refl _) (l:=[(10,.p (.int .i64 0)),(9,.p (.int .i64 l.length)),(8,.p (smL l)),(0,.p (smL l)),(1,.p (.int .i64 d)),(2,.fn (.func V.F) V.caps)]) (l1:=[(1,.p (.int .i64 d)),(2,.fn (.func V.F) V.caps),(8,.p (smL l)),(9,.p (.int .i64 l.length)),(10,.p (.int .i64 0))]) (by simp[below,hcb])
   rw[List.append_nil] at this
   exact this
  intro i hil
  simp-implicitDefEqProofs[hsl]
  refine bh (fun hc=>?_) (fun hc=>?_)
  ·simp at hc
   have hg:=List.getElem?_eq_getElem hc
   have hks:=aL (List.getElem_mem hc)
   have hkc:=l[i].cs_eq
   have hsz:=l[i].sz_eq
   have hf:(cg d (l.take (i+1))).foldl step st=(l[i].pre d).foldl step ((cg d (l.take i)).foldl step st):=by
    rw[ah hc,pI,List.foldl_append,cg,cg,List.append_nil]
   have ii:=hinv i hil
   obtain⟨i1,h1⟩:=hv _ l[i] d ii (by omega)
   obtain⟨i2,h2⟩:=ih l[i].body (by omega) (by omega) (d+1) (by omega) _ i1
   obtain⟨i3,h3⟩:=ih l[i].els (by omega) (by omega) (d+1) (by omega) _ i2
   rw[Sm.pre_eq,List.foldl_cons,List.foldl_append] at hf
   have hwd:IntKind.i64.wrap ((d:Int)+1)=((d+1:Nat):Int):=by rw[al (by omega) (by omega)];omega
   rw[hkc] at h1
   simp-implicitDefEqProofs[hg,hkc,hlen]
   refine(V.pre G h1 _ ⟨by simp,by simp,hcb⟩).mono ?_
   rintro r h ⟨rfl,rfl⟩
   simp-implicitDefEqProofs[ab,hlen,hwd]
   refine(V.pre G h2 _ ⟨by simp,by simp,by simp[below,hcb],trivial⟩).mono ?_
   rintro r h ⟨rfl,rfl⟩
   simp-implicitDefEqProofs[ab,hlen,hwd]
   refine(V.pre G h3 _ ⟨by simp,by simp,by simp[below,hcb],trivial⟩).mono ?_
   rintro r h ⟨rfl,rfl⟩
   simp-implicitDefEqProofs[ab]
   refine⟨i+1,hc,by omega,?_⟩
   rw[hf]
   refine V.same0 (s:=[_]) _ (Nat.le_refl _) ?_
   simp[below,hsl,hcb,w1 (i:=i) (by omega)]
  ·simp at hc
   have hie:i=l.length:=by omega
   subst hie
   rw[List.take_length]
   simp-implicitDefEqProofs[]
end Go.Proofs.YtaopbokndkdieaaGreatDoor
namespace Go.Proofs.YtaopbokndkdieaaGreatDoor
open Go Go.Aw
set_option maxRecDepth 100000
set_option maxHeartbeats 4000000
def ixI:Option Nat→Int|none=> -1|some i=>i
def vaC(nf:Bool)(id n:Nat):AV:=if nf then .nils else .sl id 3 0 n
def lvC(v:LV):List AV:=[.p (.str v.name),.p (.int .i64 v.num),.p (.int .i64 v.block)]
def lvR(vs:List LV):List (List AV):=vs.reverse.map lvC
def roC(nf:Bool)(vs:List LV):AO:=if nf then .dead else .row 3 (lvR vs)
def wC(id:Nat)(nf:Bool)(fns:List Fd)(k:Nat)(w:WS):List AV:=[.p (fdL fns),.p (.int .i64 k),vaC nf id w.vs.length,.p (.int .i64 w.count),.p (.int .i64 w.code)]
def wO(id:Nat)(nf:Bool)(fns:List Fd)(k:Nat)(w:WS):AO:= .row 5 [wC id nf fns k w]
def HWk(nf:Bool)(fns:List Fd)(k:Nat)(w:WS):List AO:=[wO 1 nf fns k w,roC nf w.vs]
theorem tK(vs:List LV):(lvR vs).length=vs.length:=by simp[lvR]
theorem zj(vs:List LV):∀x∈lvR vs,af 0 x:=by
 intro x hx;obtain⟨m,_,rfl⟩:=List.mem_map.1 hx;simp[lvC,af,below]
theorem fH(nf:Bool)(vs:List LV)(n:Nat):okO n (roC nf vs):=by
 cases nf
 ·exact bK (fun e he=>zj vs e he)
 ·exact trivial
theorem Dj{nf:Bool}{id n m:Nat}(h:id<m):below m (vaC nf id n):=by cases nf<;>simp[vaC,below,h]
theorem vt{id:Nat}{nf:Bool}{fns:List Fd}{k:Nat}{w:WS}{m:Nat}(h:id<m):af m (wC id nf fns k w):=⟨by simp,by simp,Dj h,by simp,by simp,trivial⟩
theorem sY{id:Nat}{nf:Bool}{fns:List Fd}{k:Nat}{w:WS}{m:Nat}(h:id<m):okO m (wO id nf fns k w):=by
 intro e he;rw[List.mem_singleton.1 he];exact vt h
theorem IZ(σ:List Nat)(nf:Bool)(id n:Nat):ren σ (vaC nf id n)=vaC nf (σ.getD id 0) n:=by cases nf<;>rfl
theorem yx(σ:List Nat)(id:Nat)(nf:Bool)(fns:List Fd)(k:Nat)(w:WS):cd σ (wC id nf fns k w)=wC (σ.getD id 0) nf fns k w:=by
 simp only[wC,cd,IZ];rfl
theorem CS(σ:List Nat)(id:Nat)(nf:Bool)(fns:List Fd)(k:Nat)(w:WS):kA σ (wO id nf fns k w)=wO (σ.getD id 0) nf fns k w:=by
 simp only[wO,kA,List.map_cons,List.map_nil,yx]
theorem zW(σ:List Nat)(nf:Bool)(vs:List LV):kA σ (roC nf vs)=roC nf vs:=by
 cases nf
 ·show AO.row 3 ((lvR vs).map (cd σ))= .row 3 (lvR vs)
  rw[List.map_congr_left (g:=id) fun x hx=>fN σ x (zj vs x hx)];simp
 ·rfl
theorem Ch(pre:List LV)(v:LV)(r:List LV):(lvR (pre++v::r))[r.length]?=some (lvC v):=by
 simp[lvR]
theorem Fw(v:LV)(r:List LV):lvR (v::r)=lvR r++[lvC v]:=by simp[lvR]
def rO:List LV→List UInt8→Int
 |[],_=> -1
 |v::r,s=>if v.name=s then r.length else rO r s
theorem sm:∀(vs:List LV) (s:List UInt8),(lkV vs s=none∧rO vs s= -1)∨∃pre v r,vs=pre++v::r∧lkV vs s=some v∧rO vs s=r.length
 |[],s=> .inl ⟨rfl,rfl⟩
 |v::r,s=>by
  by_cases h:v.name=s
  ·exact .inr ⟨[],v,r,rfl,by simp[lkV,h],by simp[rO,h]⟩
  ·have h1:lkV (v::r) s=lkV r s:=by simp[lkV,h]
   have h2:rO (v::r) s=rO r s:=by simp[rO,h]
   rw[h1,h2]
   rcases sm r s with h|⟨pre,u,q,e,h⟩
   ·exact .inl h
   ·exact .inr ⟨v::pre,u,q,by rw[e];rfl,h⟩
def K_spec_l4Walk_put:AK:= .seq (.reg [oJ 6 (.mov (.c (.p (.str []))))]) (.seq (.reg [oM 8 0,oM 9 1,oJ 10 (.call da [(.t 8),(.t 9)]),oM 7 10]) (.cut (.seq (.reg [oM 11 7,oJ 12 (.bin .geq (.t 11) (.c (.p (.int .i64 0)))),oM 13 12,⟨(some 14),some (13,true),.mov (.t 0)⟩,⟨(some 15),some (13,true),.nilck (.t 14)⟩,⟨(some 16),some (13,true),.fldA 2 (.t 15)⟩,⟨(some 17),some (13,true),.ld none (.t 16)⟩,⟨(some 18),some (13,true),.mov (.t 7)⟩,⟨(some 19),some (13,true),.idxS 3 (.t 17) (.t 18)⟩,⟨(some 20),some (13,true),.fldA 2 (.t 19)⟩,⟨(some 21),some (13,true),.ld none (.t 20)⟩,⟨(some 22),some (13,true),.mov (.t 2)⟩,⟨(some 23),some (13,true),.bin .eql (.t 21) (.t 22)⟩,oJ 24 (.pick (.t 13) (.t 23) (.c (.p (.bool false))))]) (.cond (.t 24) (.reg [oM 25 0,oJ 26 (.call aQ [(.t 25),(.c (.p (.int .i64 2)))])]) (.skip))) (.seq (.reg [oM 27 0,oM 28 0,oN 29 28,oF 30 2 29,oM 32 1,oM 33 0,oN 34 33,oF 35 3 34,oM 37 2,oL 31 30,oL 36 35,oJ 38 (.bld [(.p (.str [])),(.p (.int .i64 0)),(.p (.int .i64 0))] [(0,1,(.t 32)),(1,1,(.t 36)),(2,1,(.t 37))]),oJ 39 (.bslP 3 [(.p (.str [])),(.p (.int .i64 0)),(.p (.int .i64 0))] 1 [(0,3,(.t 38))]),oJ 40 (.app 3 32 (.t 31) (.t 39)),oN 41 27,oF 42 2 41,oS 42 40]) (.seq (.reg [oM 43 0,oM 44 0,oN 45 44,oF 46 3 45,oL 47 46,oJ 48 (.bin .add (.t 47) (.c (.p (.int .i64 1)))),oN 49 43,oF 50 3 49,oS 50 48]) (.seq (.reg [oM 51 0,oN 52 51,oF 53 3 52,oL 54 53,oJ 55 (.bin .sub (.t 54) (.c (.p (.int .i64 1)))),oJ 56 (.call fq [(.t 55)]),oM 6 56]) (.ret))))))
theorem ql:K_spec_l4Walk_put.whole=F_spec_l4Walk_put.ak:=rfl
variable (G:aI)
theorem Fa(l:List Fd)(s:List UInt8)(hl:l.length≤1099511627776):VF Tryz.prog G fP [.agg [.p (fdL l)],.p (.str s)] (.p (.int .i64 (ixI (dp l s)))):=by
 refine AC.go Av ?_
 have hfl:∀l,fdL l= .lst 3 (l.map Fd.cs):=fun _=>rfl
 simp-implicitDefEqProofs[sJ,hfl]
 refine aF (fun i:Nat=>aj 22 [(1,.p (.str s)),(2,.ptr 0 1 0 0),(5,.p (.int .i64 i))]) (fun _=>[.row 1 [[.p (.lst 3 (l.map Fd.cs))]]]) (fun i=>i≤l.length∧∀f∈l.take i,f.name≠s) (fun i=>l.length-i) 0 (by simp) (aa (by simp) (by simp[okO]) (by simp[below])) ?_
 intro i ⟨hi,hn⟩
 simp-implicitDefEqProofs[]
 refine bh (fun h=>?_) (fun h=>?_)
 ·simp at h
  have hg:=List.getElem?_eq_getElem h
  have hce:l[i].cs=[.str l[i].name,aN l[i].params,smL l[i].body]:=rfl
  by_cases he:l[i].name=s
  ·have hf:dp l s=some i:=by
    rw[dp,List.findIdx?_eq_some_iff_getElem]
    exact⟨h,by simpa using he,fun j hj=>by have:=hn l[j] (List.mem_take_iff_getElem.2 ⟨j,by omega,rfl⟩);simpa using this⟩
   simp-implicitDefEqProofs[hg,hce,he,hf,ixI]
  ·simp-implicitDefEqProofs[hg,hce,he]
   refine⟨i+1,⟨h,fun p hp=>?_⟩,by omega,aa (by simp) (by simp[okO]) (by simp[below,w1 (i:=i) (by omega)])⟩
   rw[ah h] at hp
   rcases List.mem_append.1 hp with hp|hp
   ·exact hn p hp
   ·rw[List.mem_singleton.1 hp];exact he
 ·simp at h
  rw[List.take_of_length_le h] at hn
  have hf:dp l s=none:=by
   rw[dp,List.findIdx?_eq_none_iff];intro x hx;simpa using hn x hx
  simp-implicitDefEqProofs[hf,ixI]
theorem KH:∀m:Nat,m<26→((([97,98,99,100,101,102,103,104,105,106,107,108,109,110,111,112,113,114,115,116,117,118,119,120,121,122]:List UInt8).take (m+1)).drop m)=[UInt8.ofNat (97+m)]:=by decide
theorem Jf:∀m:Nat,m<26→List.drop m ((97:UInt8)::List.take m [98,99,100,101,102,103,104,105,106,107,108,109,110,111,112,113,114,115,116,117,118,119,120,121,122])=[97+UInt8.ofNat m]:=by decide
theorem vu(n:Nat):VF Tryz.prog G fq [.p (.int .i64 n)] (.p (.str (vnm n))):=by
 refine AC.go wu ?_
 have hm:n%26<26:=Nat.mod_lt _ (by omega)
 have ht:(n:Int).tmod 26=((n%26:Nat):Int):=rfl
 have hw:IntKind.i64.wrap (((n%26:Nat):Int)+1)=((n%26+1:Nat):Int):=w1 (by omega)
 have habc:=KH _ hm
 rw[vnm]
 generalize n%26=m at hm ht hw habc
 have h0:(0:Int)≤(m:Int)+1:=by omega
 have h1:m+1≤26:=by omega
 simp-implicitDefEqProofs[pa,ht,hw,h0,h1]
 exact⟨by omega,Jf m hm⟩
theorem nX(nf:Bool)(fns:List Fd)(k:Nat)(w:WS)(c:Int):AC Tryz.prog G aQ [.ptr 0 5 0 0,.p (.int .i64 c)] (HWk nf fns k w) fun x h=>x= .ret (.tup [])∧h=HWk nf fns k ⟨w.vs,w.count,fl w.code c⟩:=by
 refine AC.go pW ?_
 by_cases h0:w.code=0
 ·simp-implicitDefEqProofs[fG,HWk,wO,wC,h0,fl]
 ·simp-implicitDefEqProofs[fG,HWk,wO,wC,h0,fl]
theorem vn(nf:Bool)(fns:List Fd)(k:Nat)(w:WS):∀o∈HWk nf fns k w,okO 2 o:=by
 intro o ho
 simp only[HWk,List.mem_cons,List.not_mem_nil,or_false] at ho
 rcases ho with rfl|rfl
 ·exact sY (by omega)
 ·exact fH _ _ _
theorem CR(nf:Bool)(fns:List Fd)(k:Nat)(w:WS)(hn:nf=true→w.vs=[])(hl:w.vs.length≤1099511627776)(s:List UInt8):AC Tryz.prog G da [.ptr 0 5 0 0,.p (.str s)] (HWk nf fns k w) fun x h=>x= .ret (.p (.int .i64 (rO w.vs s)))∧h=HWk nf fns k w:=by
 refine AC.go pU ?_
 have hok:=vn nf fns k w
 cases nf with
 |true=>
  have hv:=hn rfl
  rw[HWk] at hok⊢
  simp-implicitDefEqProofs[fF,wO,wC,vaC,hv]
  refine aF (fun _:Unit=>aj 27 [(0,.ptr 0 5 0 0),(1,.p (.str s)),(5,.p (.int .i64 (-1)))]) (fun _=>[wO 1 true fns k w,roC true w.vs]) (fun _=>True) (fun _=>0) () trivial ?_ ?_
  ·have e:wO 1 true fns k w= .row 5 [[.p (fdL fns),.p (.int .i64 k),.nils,.p (.int .i64 w.count),.p (.int .i64 w.code)]]:=by simp[wO,wC,vaC]
   rw[←e,←hv]
   exact aa (by simp) hok (by simp[below,al (x:= -1) (by omega) (by omega)])
  ·intro _ _
   simp-implicitDefEqProofs[rO]
   simp[wO,wC,vaC,hv]
 |false=>
  rw[HWk] at hok⊢
  have e:∀r,roC false r= .row 3 (lvR r):=fun _=>rfl
  have hw0:IntKind.i64.wrap ((w.vs.length:Int)-1)=(w.vs.length:Int)-1:=al (by omega) (by omega)
  simp-implicitDefEqProofs[fF,wO,wC,vaC,hw0]
  refine aF (fun r:List LV=>aj 27 [(0,.ptr 0 5 0 0),(1,.p (.str s)),(5,.p (.int .i64 ((r.length:Int)-1)))]) (fun _=>[wO 1 false fns k w,roC false w.vs]) (fun r=>∃pre,w.vs=pre++r∧rO w.vs s=rO r s) (fun r=>r.length) w.vs ⟨[],rfl,rfl⟩ ?_ ?_
  ·exact aa (h:=[wO 1 false fns k w,roC false w.vs]) (by simp) hok (by simp[below])
  ·rintro r ⟨pre,e1,e2⟩
   cases r with
   |nil=>
    simp-implicitDefEqProofs[wO,wC,vaC]
    rw[e2];rfl
   |cons v r=>
    have hat:=Ch pre v r
    rw[←e1] at hat
    have hlen:r.length<w.vs.length:=by rw[e1];simp;omega
    have hll:=tK w.vs
    have c1:((r.length+1:Nat):Int)-1=(r.length:Int):=by omega
    have hw1:IntKind.i64.wrap ((r.length:Int)-1)=(r.length:Int)-1:=al (by omega) (by omega)
    by_cases hs:v.name=s
    ·simp-implicitDefEqProofs[wO,wC,vaC,e,c1,hat,hlen,lvC,hs]
     rw[e2];simp[rO,hs]
    ·simp-implicitDefEqProofs[wO,wC,vaC,e,c1,hat,hlen,lvC,hs]
     refine⟨r,⟨⟨pre++[v],by rw[e1];simp⟩,by rw[e2];simp[rO,hs]⟩,by simp,?_⟩
     refine aa (h:=[wO 1 false fns k w,roC false w.vs]) (by simp) hok ?_
     simp[below,hw1]
theorem GE(nf:Bool)(fns:List Fd)(k:Nat)(w:WS)(hn:nf=true→w.vs=[])(hl:w.vs.length≤1099511627776)(s:List UInt8):AC Tryz.prog G cx [.ptr 0 5 0 0,.p (.str s)] (HWk nf fns k w) fun x h=>x= .ret (.p (.str (ue w.vs s)))∧h=HWk nf fns k ⟨w.vs,w.count,lX w.vs s w.code⟩:=by
 refine AC.go qQ ?_
 simp-implicitDefEqProofs[jY]
 refine(CR G nf fns k w hn hl s).mono ?_
 rintro r h ⟨rfl,rfl⟩
 rcases sm w.vs s with⟨e1,e2⟩|⟨pre,v,q,e0,e1,e2⟩
 ·simp-implicitDefEqProofs[ab,e2]
  refine(nX G nf fns k w 3).mono ?_
  rintro r h ⟨rfl,rfl⟩
  simp-implicitDefEqProofs[ab,ue,lX,e1]
 ·have hat:=Ch pre v q
  rw[←e0] at hat
  have hlen:q.length<w.vs.length:=by rw[e0];simp;omega
  have hnf:nf=false:=by
   cases nf with
   |false=>rfl
   |true=>rw[hn rfl] at e0;simp at e0
  subst hnf
  have e:∀r,roC false r= .row 3 (lvR r):=fun _=>rfl
  have hq:¬(q.length:Int)<0:=by omega
  simp-implicitDefEqProofs[ab,e2,hq,HWk,wO,wC,vaC,e,hat,hlen,lvC]
  refine(vu G v.num).use ?_
  simp-implicitDefEqProofs[ue,lX,e1]
theorem Fk(nf:Bool)(fns:List Fd)(k:Nat)(w:WS)(hn:nf=true→w.vs=[])(hl:w.vs.length≤1099511627776)(hc:w.count≤1099511627776)(s:List UInt8)(b:Nat):AC Tryz.prog G cw [.ptr 0 5 0 0,.p (.str s),.p (.int .i64 b)] (HWk nf fns k w) fun x h=>x= .ret (.p (.str (vnm w.count)))∧h=[wO 2 false fns k (jH w s b),.dead,roC false (jH w s b).vs]:=by
 refine AC.goK ru ql ?_
 have hw1:IntKind.i64.wrap ((w.count:Int)+1)=(w.count:Int)+1:=al (by omega) (by omega)
 have hw2:IntKind.i64.wrap ((w.count:Int)+1-1)=(w.count:Int):=by rw[al (by omega) (by omega)];omega
 have hw3:IntKind.i64.wrap (w.count:Int)=(w.count:Int):=al (by omega) (by omega)
 have hll:=tK w.vs
 simp-implicitDefEqProofs[K_spec_l4Walk_put,F_spec_l4Walk_put]
 refine(CR G nf fns k w hn hl s).mono ?_
 rintro r h ⟨rfl,rfl⟩
 simp-implicitDefEqProofs[ab]
 refine kL (aj 57 [(0,.ptr 0 5 0 0),(1,.p (.str s)),(2,.p (.int .i64 b))]) (HWk nf fns k ⟨w.vs,w.count,mu w.vs s b w.code⟩) ?_ ?_
 ·rcases sm w.vs s with⟨e1,e2⟩|⟨pre,v,q,e0,e1,e2⟩
  ·simp-implicitDefEqProofs[e2,mu,e1]
   exact aa (by simp[HWk]) (vn nf fns k w) (by simp[below,HWk])
  ·have hat:=Ch pre v q
   rw[←e0] at hat
   have hlen:q.length<w.vs.length:=by rw[e0];simp;omega
   have hnf:nf=false:=by
    cases nf with
    |false=>rfl
    |true=>rw[hn rfl] at e0;simp at e0
   subst hnf
   have e:∀r,roC false r= .row 3 (lvR r):=fun _=>rfl
   have hq:(0:Int)≤(q.length:Int):=by omega
   by_cases hb:v.block=b
   ·have:=nX G false fns k w 2
    simp only[HWk,wO,wC,vaC,e] at this
    simp-implicitDefEqProofs[e2,HWk,wO,wC,vaC,e,hat,hlen,lvC,hb]
    refine this.mono ?_
    rintro r h ⟨rfl,rfl⟩
    have hp:mu w.vs s b w.code=fl w.code 2:=by simp[mu,e1,hb]
    rw[hp]
    simp-implicitDefEqProofs[ab]
    refine aa (h:=HWk false fns k ⟨w.vs,w.count,fl w.code 2⟩) ?_ (vn _ _ _ _) ?_
    ·simp[HWk]
    ·simp[below,HWk]
   ·have hp:mu w.vs s b w.code=w.code:=by simp[mu,e1,hb]
    have hbi:¬(v.block:Int)=(b:Int):=by omega
    rw[hp]
    simp-implicitDefEqProofs[e2,HWk,wO,wC,vaC,e,hat,hlen,lvC,hbi]
    refine aa (h:=HWk false fns k w) ?_ (vn _ _ _ _) ?_
    ·simp[HWk]
    ·simp[below,HWk]
 ·cases nf with
  |true=>
   have hv:=hn rfl
   simp-implicitDefEqProofs[HWk,wO,wC,vaC,roC,hv,hw1,hw2,hw3]
   refine(vu G w.count).use ?_
   simp-implicitDefEqProofs[jH,lvR,lvC,hv]
  |false=>
   have e:∀r,roC false r= .row 3 (lvR r):=fun _=>rfl
   simp-implicitDefEqProofs[HWk,wO,wC,vaC,e,hw1,hw2,hw3,hll]
   refine⟨by omega,?_⟩
   refine(vu G w.count).use ?_
   simp-implicitDefEqProofs[jH,Fw,lvC]
   rw[List.take_of_length_le (by omega)]
end Go.Proofs.YtaopbokndkdieaaGreatDoor
namespace Go.Proofs.YtaopbokndkdieaaGreatDoor
open Go Go.Aw
set_option maxRecDepth 100000
set_option maxHeartbeats 4000000
def K_spec_l4Walk_expr:AK:= .seq (.reg [oJ 3 (.box 4 (.t 1)),oJ 4 (.alloc [(.p (.int .i64 0)),(.p (.int .i64 0)),(.p (.str [])),.nils])]) (.cut (.seq (.reg [oF 8 0 3,oL 9 8,oJ 10 (.bin .eql (.t 9) (.c (.p (.int .i64 2))))]) (.cond (.t 10) (.reg [oM 11 0,oF 12 2 3,oL 13 12,oJ 14 (.call cx [(.t 11),(.t 13)]),oF 15 2 3,oS 15 14]) (.skip))) (.cut (.seq (.reg [oF 16 0 3,oL 17 16,oJ 18 (.bin .eql (.t 17) (.c (.p (.int .i64 13))))]) (.cond (.t 18) (.seq (.reg [oM 19 0,oN 20 19,oF 21 0 20,oF 23 2 3,oJ 22 (.ld (some 1) (.t 21)),oL 24 23,oJ 25 (.call fP [(.t 22),(.t 24)]),oM 5 25]) (.seq (.reg [oM 26 5,oJ 27 (.bin .lss (.t 26) (.c (.p (.int .i64 0)))),oM 28 27,⟨(some 29),some (28,false),.mov (.t 5)⟩,⟨(some 30),some (28,false),.mov (.t 0)⟩,⟨(some 31),some (28,false),.nilck (.t 30)⟩,⟨(some 32),some (28,false),.fldA 1 (.t 31)⟩,⟨(some 33),some (28,false),.ld none (.t 32)⟩,⟨(some 34),some (28,false),.bin .geq (.t 29) (.t 33)⟩,oJ 35 (.pick (.t 28) (.c (.p (.bool true))) (.t 34))]) (.cond (.t 35) (.reg [oM 36 0,oJ 37 (.call aQ [(.t 36),(.c (.p (.int .i64 4)))])]) (.seq (.reg [oM 38 0,oN 39 38,oF 40 0 39,oF 41 0 40,oM 43 5,oF 48 3 3,oL 42 41,oJ 44 (.idxS 3 (.t 42) (.t 43)),oF 45 1 44,oL 46 45,oJ 47 (.len false (.t 46)),oL 49 48,oJ 50 (.len false (.t 49)),oJ 51 (.bin .neq (.t 47) (.t 50))]) (.cond (.t 51) (.reg [oM 52 0,oJ 53 (.call aQ [(.t 52),(.c (.p (.int .i64 5)))])]) (.skip)))))) (.skip))) (.seq (.reg [oJ 54 (.bsl 4 [(.p (.int .i64 0)),(.p (.int .i64 0)),(.p (.str [])),.nils] 0 []),oM 6 54]) (.seq (.seq (.reg [oK 7 0]) (.blk 0 (.loop (.seq (.seq (.reg [oM 55 7,oF 56 3 3,oL 57 56,oJ 58 (.len false (.t 57)),oJ 59 (.bin .lss (.t 55) (.t 58))]) (.cond (.t 59) (.skip) (.exit 0))) (.seq (.blk 1 (.reg [oM 62 6,oM 63 0,oF 64 3 3,oL 65 64,oM 66 7,oJ 67 (.idxS 4 (.t 65) (.t 66)),oJ 68 (.ld (some 4) (.t 67)),oJ 69 (.call bA [(.t 63),(.t 68)]),oJ 70 (.bsl 4 [(.p (.int .i64 0)),(.p (.int .i64 0)),(.p (.str [])),.nils] 1 [(0,4,(.t 69))]),oJ 71 (.app 4 56 (.t 62) (.t 70)),oM 6 71])) (.reg [oM 60 7,oJ 61 (.bin .add (.t 60) (.c (.p (.int .i64 1)))),oM 7 61])))))) (.seq (.reg [oM 72 6,oF 73 3 3,oS 73 72]) (.seq (.reg [oJ 74 (.ld (some 4) (.t 3)),⟨none,none,.st 4 (.t 4) (.t 74)⟩]) (.ret)))))))
theorem pK:K_spec_l4Walk_expr.whole=F_spec_l4Walk_expr.ak:=rfl
variable (G:aI)
theorem zP{f:FuncId}{args:List AV}{nf:Bool}{fns:List Fd}{k:Nat}{w w':WS}{v:AV}(H:AC Tryz.prog G f args (HWk nf fns k w) fun x h=>x= .ret v∧h=HWk nf fns k w')(rest:List AO)(ha:af 2 args):
 AC Tryz.prog G f args (wO 1 nf fns k w::roC nf w.vs::rest) fun x h=>x= .ret v∧h=wO 1 nf fns k w'::roC nf w'.vs::rest:=by
 refine(AC.pre H rest ha (vn _ _ _ _) ?_).mono ?_
 ·rintro x h ⟨_,rfl⟩;rfl
 ·rintro x h ⟨h1,⟨rfl,rfl⟩,rfl⟩
  exact⟨rfl,rfl⟩
theorem rq{n id:Nat}(hn:id<n){nf nf':Bool}{fns:List Fd}{k:Nat}{w:WS}{vs:List LV}{l:List AO}(r:∀o∈l,okO n o):∀o∈wO id nf fns k w::roC nf' vs::l,okO n o:=ag (sY hn) (ag (fH _ _ _) r)
theorem vU{ρ π:List Nat}{h r1:List AO}{i id:Nat}{nf:Bool}{fns:List Fd}{k:Nat}{w:WS}(hid:id<ρ.length)(e:h[i]?=some (wO (ρ.getD id 0) nf fns k w))(hr:HW ρ h π r1):HW ρ h (i::π) (wO id nf fns k w::r1):=by
 refine lZ (es:=[wC id nf fns k w]) (fun x hx=>?_) ?_ hr
 ·rw[List.mem_singleton.1 hx];exact vt hid
 ·rw[e,List.map_cons,List.map_nil,yx];rfl
theorem DE{α:Type}{l:List α}{i j:Nat}{a b:α}(hij:i≠j)(h:l[j]?=some b):(l.set i a).set j b=l.set i a:=by
 apply List.ext_getElem?
 intro n
 rw[List.getElem?_set]
 split
 ·rename_i e
  subst e
  rw[List.getElem?_set_ne hij,h]
  rw[if_pos (by rw[List.length_set];exact(List.getElem?_eq_some_iff.1 h).1)]
 ·rfl
theorem yK(ρ:List Nat):∀l:List AV,af 0 l→TW ρ l l
 |[],_=>by simp
 |v::r,h=>by
  rw[yw]
  refine⟨.inr ⟨(aT (Nat.zero_le _) [v] ⟨h.1,trivial⟩).1,?_⟩,yK ρ r h.2⟩
  have:=fN ρ [v] ⟨h.1,trivial⟩
  simpa[cd] using this
theorem Mv{h:List AO}{wid id:Nat}{nf:Bool}{fns:List Fd}{k:Nat}{w:WS}(e0:h[wid]?=some (wO id nf fns k w))(e1:h[id]?=some (roC nf w.vs)):HW [wid,id] h [wid,id] (HWk nf fns k w):=by
 refine lZ (es:=[wC 1 nf fns k w]) (fun x hx=>?_) ?_ ?_
 ·rw[List.mem_singleton.1 hx];exact vt (by simp)
 ·rw[e0,List.map_cons,List.map_nil,yx];rfl
 ·exact ke e1 (fH _ _ _) bj
theorem Kx{f:FuncId}{args:List AV}{nf:Bool}{fns:List Fd}{k:Nat}{w:WS}{v:AV}{c:Int}(H:AC Tryz.prog G f (.ptr 0 5 0 0::args) (HWk nf fns k w) fun x h=>x= .ret v∧h=HWk nf fns k ⟨w.vs,w.count,c⟩)(ha:af 0 args)(hv:below 0 v)
 {h:List AO}{wid id:Nat}(hid:wid≠id)(e0:h[wid]?=some (wO id nf fns k w))(e1:h[id]?=some (roC nf w.vs)):
 AC Tryz.prog G f (.ptr wid 5 0 0::args) h fun x h'=>x= .ret v∧h'=h.set wid (wO id nf fns k ⟨w.vs,w.count,c⟩):=by
 refine(H.frame [wid,id] (by simp[hid]) ?_ (Mv e0 e1)).mono ?_
 ·rw[yw];exact⟨.inr ⟨by simp[below],rfl⟩,yK _ _ ha⟩
 ·rintro x h' ⟨x0,h0,⟨rfl,rfl⟩,_,rfl,rfl⟩
  refine⟨?_,?_⟩
  ·have:=fN ([wid,id]++List.range' h.length ((HWk nf fns k ⟨w.vs,w.count,c⟩).length-(HWk nf fns k w).length)) [v] ⟨hv,trivial⟩
   simp only[cd] at this
   simp only[Bj]
   exact congrArg ARes.ret (List.cons.inj this).1
  ·simp only[HWk,List.length_cons,List.length_nil,Nat.sub_self,List.range'_zero,List.append_nil,List.take_succ_cons,List.take_zero,List.map_cons,List.map_nil,List.drop_succ_cons,List.drop_zero,CS,zW,mrg]
   exact DE hid e1
theorem FU{f:FuncId}{args:List AV}{nf:Bool}{fns:List Fd}{k:Nat}{w:WS}{v:AV}{Q:Bool→WS→Prop}(H:AC Tryz.prog G f (.ptr 0 5 0 0::args) (HWk nf fns k w) fun x h=>∃nf' w',x= .ret v∧h=[wO 2 nf' fns k w',.dead,roC nf' w'.vs]∧Q nf' w')(ha:af 0 args)(hv:below 0 v)
 {h:List AO}{wid id:Nat}(hid:wid≠id)(e0:h[wid]?=some (wO id nf fns k w))(e1:h[id]?=some (roC nf w.vs)):
 AC Tryz.prog G f (.ptr wid 5 0 0::args) h fun x h'=>∃nf' w',x= .ret v∧h'=(h.set wid (wO h.length nf' fns k w')).set id .dead++[roC nf' w'.vs]∧Q nf' w':=by
 refine(H.frame [wid,id] (by simp[hid]) ?_ (Mv e0 e1)).mono ?_
 ·rw[yw];exact⟨.inr ⟨by simp[below],rfl⟩,yK _ _ ha⟩
 ·rintro x h' ⟨x0,h0,⟨nf',w',rfl,rfl,q⟩,_,rfl,rfl⟩
  refine⟨nf',w',?_,?_,q⟩
  ·have:=fN ([wid,id]++List.range' h.length ([wO 2 nf' fns k w',.dead,roC nf' w'.vs].length-(HWk nf fns k w).length)) [v] ⟨hv,trivial⟩
   simp only[cd] at this
   simp only[Bj]
   exact congrArg ARes.ret (List.cons.inj this).1
  ·simp only[HWk,List.length_cons,List.length_nil,List.take_succ_cons,List.take_zero,List.map_cons,List.map_nil,List.drop_succ_cons,List.drop_zero,CS,zW,mrg]
   rfl
theorem xp(fns:List Fd)(k:Nat)(vs:List LV):∀(a b:List Ex) (c:Int),bg fns k vs (a++b) c=bg fns k vs b (bg fns k vs a c)
 |[],b,c=>rfl
 |e::r,b,c=>by rw[List.cons_append,bg,bg,xp fns k vs r]
theorem rd(vs:List LV):∀l:List Ex,jC vs l=l.map (rnE vs)
 |[]=>rfl
 |e::r=>by rw[jC,rd vs r];rfl
theorem vI{fns:List Fd}{k:Nat}{vs:List LV}{l:List Ex}{c:Int}{i:Nat}(h:i<l.length):bg fns k vs (l.take (i+1)) c=iC fns k vs l[i] (bg fns k vs (l.take i) c):=by
 rw[ah h,xp];rfl
theorem xx{vs:List LV}{l:List Ex}{i:Nat}(h:i<l.length):jC vs (l.take (i+1))=jC vs (l.take i)++[rnE vs l[i]]:=by
 rw[rd,rd,ah h,List.map_append];rfl
theorem qy(vs:List LV)(l:List Ex):(jC vs l).length=l.length:=by rw[rd,List.length_map]
theorem tP(l:List Ex):(exR l).length=l.length:=by simp[exR]
theorem tL(a b:List Ex):exR (a++b)=exR a++exR b:=by simp[exR]
theorem qZ{h:List AO}{id:Nat}{l:List Ex}(e:h[id]?=some (.row 4 (exR l))):View h (.sl id 4 0 l.length) (exL l):=by
 have:=gk (h:=h) (id:=id) (sz:=4) (n:=l.length) (ls:=l.map Ex.cs) (by rw[e,exR];simp) (by simp) (fun x hx=>by obtain⟨b,_,rfl⟩:=List.mem_map.1 hx;exact b.cs_len)
 exact this
theorem II{fns:List Fd}{s:List UInt8}{j:Nat}(h:dp fns s=some j):j<fns.length:=by
 rw[dp,List.findIdx?_eq_some_iff_getElem] at h;exact h.1
theorem ID{fns:List Fd}{k:Nat}(hf:fns.length≤1099511627776):∀(N:Nat) (e:Ex),e.sz≤N→N≤1099511627776→∀(nf:Bool) (w:WS),(nf=true→w.vs=[])→w.vs.length≤1099511627776→
 AC Tryz.prog G bA [.ptr 0 5 0 0,.agg (e.cs.map .p)] (HWk nf fns k w) fun x h=>x= .ret (.agg ((rnE w.vs e).cs.map .p))∧h=HWk nf fns k ⟨w.vs,w.count,iC fns k w.vs e w.code⟩:=by
 intro N
 induction N with
 |zero=>intro e he;have:=e.sz_eq;omega
 |succ N ih=>
  intro e he hN nf w hn hl
  have hec:=e.cs_eq
  have hsz:=e.sz_eq
  have hkl:=aM e.kids
  have hre:(rnE w.vs e).cs=[.int .i64 e.op,.int .i64 e.n,.str (if e.op=2 then ue w.vs e.name else e.name),exL (jC w.vs e.kids)]:=by
   obtain⟨o,n,s,ks⟩:=e;rw[rnE,Ex.cs_eq];rfl
  have hce:iC fns k w.vs e w.code=bg fns k w.vs e.kids (fS fns k w.vs e.op e.name e.kids.length w.code):=by
   obtain⟨o,n,s,ks⟩:=e;rfl
  have main:AC Tryz.prog G bA [.ptr 0 5 0 0,.agg (e.cs.map .p)] (HWk nf fns k w) fun x h=>∃E1 E2,x= .ret (.agg [.p (.int .i64 e.op),.p (.int .i64 e.n),.p (.str (if e.op=2 then ue w.vs e.name else e.name)),.sl 4 4 0 e.kids.length])∧
   h=[wO 1 nf fns k ⟨w.vs,w.count,iC fns k w.vs e w.code⟩,roC nf w.vs,E1,E2,.row 4 (exR (jC w.vs e.kids))]:=by
   refine AC.goK pR pK ?_
   simp-implicitDefEqProofs[K_spec_l4Walk_expr,F_spec_l4Walk_expr,HWk,hec]
   refine kL (aj 75 [(0,.ptr 0 5 0 0),(3,.ptr 2 4 0 0),(4,.ptr 3 4 0 0)]) [wO 1 nf fns k ⟨w.vs,w.count,if e.op=2 then lX w.vs e.name w.code else w.code⟩,roC nf w.vs,.row 4 [[.p (.int .i64 e.op),.p (.int .i64 e.n),.p (.str (if e.op=2 then ue w.vs e.name else e.name)),.p (exL e.kids)]],.row 4 [[.p (.int .i64 0),.p (.int .i64 0),.p (.str []),.nils]]] ?_ ?_
   ·by_cases o2:e.op=2
    ·simp-implicitDefEqProofs[o2]
     refine(zP G (GE G nf fns k w hn hl e.name) _ (by simp[below])).mono ?_
     rintro r h ⟨rfl,rfl⟩
     simp-implicitDefEqProofs[ab]
     exact aa (by simp) (rq (by simp) (by simp[okO,below])) (by simp[below])
    ·simp-implicitDefEqProofs[o2]
     exact aa (by simp) (rq (by simp) (by simp[okO,below])) (by simp[below])
   refine kL (aj 75 [(0,.ptr 0 5 0 0),(3,.ptr 2 4 0 0),(4,.ptr 3 4 0 0)]) [wO 1 nf fns k ⟨w.vs,w.count,fS fns k w.vs e.op e.name e.kids.length w.code⟩,roC nf w.vs,.row 4 [[.p (.int .i64 e.op),.p (.int .i64 e.n),.p (.str (if e.op=2 then ue w.vs e.name else e.name)),.p (exL e.kids)]],.row 4 [[.p (.int .i64 0),.p (.int .i64 0),.p (.str []),.nils]]] ?_ ?_
   ·by_cases o13:e.op=13
    ·have hhd:fS fns k w.vs e.op e.name e.kids.length w.code=lq fns k e.name e.kids.length w.code:=by simp[fS,o13]
     rw[hhd]
     simp-implicitDefEqProofs[o13,wO,wC]
     refine(Fa G fns e.name hf).use ?_
     have fin:∀c:Int,Wk 2 (aj 75 [(0,.ptr 0 5 0 0),(3,.ptr 2 4 0 0),(4,.ptr 3 4 0 0)]) [wO 1 nf fns k ⟨w.vs,w.count,c⟩,roC nf w.vs,.row 4 [[.p (.int .i64 13),.p (.int .i64 e.n),.p (.str e.name),.p (exL e.kids)]],.row 4 [[.p (.int .i64 0),.p (.int .i64 0),.p (.str []),.nils]]] (aj 75 [(0,.ptr 0 5 0 0),(3,.ptr 2 4 0 0),(4,.ptr 3 4 0 0)]) [wO 1 nf fns k ⟨w.vs,w.count,c⟩,roC nf w.vs,.row 4 [[.p (.int .i64 13),.p (.int .i64 e.n),.p (.str e.name),.p (exL e.kids)]],.row 4 [[.p (.int .i64 0),.p (.int .i64 0),.p (.str []),.nils]]]:=fun c=>
      aa (by simp) (rq (by simp) (by simp[okO,below])) (by simp[below])
     cases hfa:dp fns e.name with
     |none=>
      simp-implicitDefEqProofs[ixI,lq,hfa]
      refine(zP G (nX G nf fns k w 4) _ (by simp[below])).mono ?_
      rintro r h ⟨rfl,rfl⟩
      simp-implicitDefEqProofs[ab]
      exact aa (h:=[wO 1 nf fns k ⟨w.vs,w.count,fl w.code 4⟩,roC nf w.vs,.row 4 [[.p (.int .i64 13),.p (.int .i64 e.n),.p (.str e.name),.p (exL e.kids)]],.row 4 [[.p (.int .i64 0),.p (.int .i64 0),.p (.str []),.nils]]]) (by simp) (rq (by simp) (by simp[okO,below])) (by simp[below])
     |some j=>
      have hj:=II hfa
      have hg:=List.getElem?_eq_getElem hj
      have hjn:¬(j:Int)<0:=by omega
      by_cases hkj:k≤j
      ·have hkj':(k:Int)≤(j:Int):=by omega
       simp-implicitDefEqProofs[ixI,lq,hfa,hkj,hkj',hjn]
       refine(zP G (nX G nf fns k w 4) _ (by simp[below])).mono ?_
       rintro r h ⟨rfl,rfl⟩
       simp-implicitDefEqProofs[ab]
       exact aa (h:=[wO 1 nf fns k ⟨w.vs,w.count,fl w.code 4⟩,roC nf w.vs,.row 4 [[.p (.int .i64 13),.p (.int .i64 e.n),.p (.str e.name),.p (exL e.kids)]],.row 4 [[.p (.int .i64 0),.p (.int .i64 0),.p (.str []),.nils]]]) (by simp) (rq (by simp) (by simp[okO,below])) (by simp[below])
      ·have hkj':¬(k:Int)≤(j:Int):=by omega
       have hfl:fdL fns= .lst 3 (fns.map Fd.cs):=rfl
       have hcs:fns[j].cs=[.str fns[j].name,aN fns[j].params,smL fns[j].body]:=rfl
       have hst:aN fns[j].params= .lst 1 (fns[j].params.map fun w=>[.str w]):=rfl
       have hxl:∀l,exL l= .lst 4 (l.map Ex.cs):=fun _=>rfl
       have hpn:wm fns j=fns[j].params.length:=by simp[wm,hg]
       by_cases hp:fns[j].params.length=e.kids.length
       ·have hcc:lq fns k e.name e.kids.length w.code=w.code:=by simp[lq,hfa,hkj,hpn,hp]
        rw[hcc]
        simp-implicitDefEqProofs[ixI,hkj',hjn,hfl,hg,hcs,hst,hxl,hp]
        exact aa (h:=[wO 1 nf fns k w,roC nf w.vs,.row 4 [[.p (.int .i64 13),.p (.int .i64 e.n),.p (.str e.name),.p (exL e.kids)]],.row 4 [[.p (.int .i64 0),.p (.int .i64 0),.p (.str []),.nils]]]) (by simp) (rq (by simp) (by simp[okO,below])) (by simp[below])
       ·have hcc:lq fns k e.name e.kids.length w.code=fl w.code 5:=by simp[lq,hfa,hkj,hpn,hp]
        have hp':¬(fns[j].params.length:Int)=(e.kids.length:Int):=by omega
        rw[hcc]
        simp-implicitDefEqProofs[ixI,hkj',hjn,hfl,hg,hcs,hst,hxl,hp']
        refine(zP G (nX G nf fns k w 5) _ (by simp[below])).mono ?_
        rintro r h ⟨rfl,rfl⟩
        simp-implicitDefEqProofs[ab]
        exact aa (h:=[wO 1 nf fns k ⟨w.vs,w.count,fl w.code 5⟩,roC nf w.vs,.row 4 [[.p (.int .i64 13),.p (.int .i64 e.n),.p (.str e.name),.p (exL e.kids)]],.row 4 [[.p (.int .i64 0),.p (.int .i64 0),.p (.str []),.nils]]]) (by simp) (rq (by simp) (by simp[okO,below])) (by simp[below])
    ·have hhd:fS fns k w.vs e.op e.name e.kids.length w.code=if e.op=2 then lX w.vs e.name w.code else w.code:=by simp[fS,o13]
     rw[hhd]
     simp-implicitDefEqProofs[o13]
     exact aa (by simp) (rq (by simp) (by simp[okO,below])) (by simp[below])
   rw[hce]
   generalize fS fns k w.vs e.op e.name e.kids.length w.code=c2
   generalize (if e.op=2 then ue w.vs e.name else e.name)=s1
   have hxl:exL e.kids= .lst 4 (e.kids.map Ex.cs):=rfl
   simp-implicitDefEqProofs[]
   refine aF (fun i:Nat=>aj 75 [(0,.ptr 0 5 0 0),(3,.ptr 2 4 0 0),(4,.ptr 3 4 0 0),(6,.sl 4 4 0 i),(7,.p (.int .i64 i))])
    (fun i=>[wO 1 nf fns k ⟨w.vs,w.count,bg fns k w.vs (e.kids.take i) c2⟩,roC nf w.vs,.row 4 [[.p (.int .i64 e.op),.p (.int .i64 e.n),.p (.str s1),.p (exL e.kids)]],.row 4 [[.p (.int .i64 0),.p (.int .i64 0),.p (.str []),.nils]],.row 4 (exR (jC w.vs (e.kids.take i)))])
    (fun i=>i≤e.kids.length) (fun i=>e.kids.length-i) 0 (by simp) ?_ ?_
   ·exact aa (by simp) (rq (by simp) (by simp[okO,below])) (by simp[below])
   ·intro i hi
    have hrl:(exR (jC w.vs (e.kids.take i))).length=i:=by rw[tP,qy];simp;omega
    simp-implicitDefEqProofs[hxl]
    refine bh (fun h=>?_) (fun h=>?_)
    ·simp at h
     have hg:=List.getElem?_eq_getElem h
     have hks:=az (List.getElem_mem h)
     have hkc:=(rnE w.vs e.kids[i]).cs_eq
     simp-implicitDefEqProofs[hg]
     refine(zP G (ih e.kids[i] (by omega) (by omega) nf ⟨w.vs,w.count,bg fns k w.vs (e.kids.take i) c2⟩ hn hl) _ (by simp[below])).mono ?_
     rintro r h ⟨rfl,rfl⟩
     rw[show(rnE (WS.mk w.vs w.count (bg fns k w.vs (e.kids.take i) c2)).vs e.kids[i])=rnE w.vs e.kids[i] from rfl]
     simp-implicitDefEqProofs[ab,hkc,hrl]
     refine⟨by omega,?_⟩
     refine⟨i+1,by omega,by omega,?_⟩
     have htk:List.take i (exR (jC w.vs (e.kids.take i)))=exR (jC w.vs (e.kids.take i)):=List.take_of_length_le (by omega)
     rw[vI h,xx h,tL,htk]
     refine cr [0,1,2,3,6] (by simp) (by decide) (by decide) (vU (by simp) rfl (ke rfl (fH _ _ _) (aE rfl (by simp[below]) (aE rfl (by simp[below]) (aE ?_ ?_ bj))))) (by simp[below,ren,w1 (i:=i) (by omega)])
     ·have:exR [rnE w.vs e.kids[i]]=[[.p (.int .i64 (rnE w.vs e.kids[i]).op),.p (.int .i64 (rnE w.vs e.kids[i]).n),.p (.str (rnE w.vs e.kids[i]).name),.p (exL (rnE w.vs e.kids[i]).kids)]]:=by rw[exR,List.map_singleton,hkc];rfl
      rw[this];rfl
     ·intro x hx
      rcases List.mem_append.1 hx with h|h
      ·exact jG _ x h
      ·exact jG _ x h
    ·simp at h
     have hie:i=e.kids.length:=by omega
     subst hie
     simp-implicitDefEqProofs[]
  refine main.frz 2 (by simp[HWk]) (fun t v h ⟨_,_,e,_⟩=>by cases e) ?_
  rintro v h ⟨E1,E2,e,rfl⟩
  cases e
  refine⟨_,HWk nf fns k ⟨w.vs,w.count,iC fns k w.vs e w.code⟩,by simp,rfl,.agg ?_ .nil,.same (sY (by omega)) (.same (fH _ _ _) (.nil _)),rfl,rfl⟩
  rw[hre]
  have hrl:=qy w.vs e.kids
  rw[←hrl]
  exact .keep (by simp) (.keep (by simp) (.keep (by simp) (.one (qZ rfl) .nil)))
end Go.Proofs.YtaopbokndkdieaaGreatDoor
namespace Go.Proofs.YtaopbokndkdieaaGreatDoor
open Go Go.Aw
set_option maxRecDepth 100000
set_option maxHeartbeats 4000000
def K_spec_l4Walk_stmts:AK:= .seq (.reg [oJ 6 (.mov (.c .nils))]) (.seq (.reg [oJ 13 (.bsl 5 [(.p (.int .i64 0)),(.p (.str [])),.nils,.nils,.nils] 0 []),oM 7 13]) (.seq (.reg [oM 14 0,oN 15 14,oF 16 2 15,oL 17 16,oJ 18 (.len false (.t 17)),oM 8 18]) (.seq (.seq (.reg [oK 9 0]) (.blk 0 (.loop (.seq (.seq (.reg [oM 19 9,oM 20 1,oJ 21 (.len false (.t 20)),oJ 22 (.bin .lss (.t 19) (.t 21))]) (.cond (.t 22) (.skip) (.exit 0))) (.seq (.blk 1 (.seq (.reg [oM 25 1,oM 26 9,oJ 27 (.idxS 5 (.t 25) (.t 26)),oJ 28 (.ld (some 5) (.t 27)),oJ 10 (.alloc [(.p (.int .i64 0)),(.p (.str [])),.nils,.nils,.nils]),⟨none,none,.st 5 (.t 10) (.t 28)⟩]) (.seq (.reg [oJ 29 (.bsl 4 [(.p (.int .i64 0)),(.p (.int .i64 0)),(.p (.str [])),.nils] 0 []),oM 11 29]) (.seq (.seq (.reg [oK 12 0]) (.blk 2 (.loop (.seq (.seq (.reg [oM 30 12,oF 31 2 10,oL 32 31,oJ 33 (.len false (.t 32)),oJ 34 (.bin .lss (.t 30) (.t 33))]) (.cond (.t 34) (.skip) (.exit 2))) (.seq (.blk 3 (.reg [oM 37 11,oM 38 0,oF 39 2 10,oL 40 39,oM 41 12,oJ 42 (.idxS 4 (.t 40) (.t 41)),oJ 43 (.ld (some 4) (.t 42)),oJ 44 (.call bA [(.t 38),(.t 43)]),oJ 45 (.bsl 4 [(.p (.int .i64 0)),(.p (.int .i64 0)),(.p (.str [])),.nils] 1 [(0,4,(.t 44))]),oJ 46 (.app 4 56 (.t 37) (.t 45)),oM 11 46])) (.reg [oM 35 12,oJ 36 (.bin .add (.t 35) (.c (.p (.int .i64 1)))),oM 12 36])))))) (.cut (.reg [oM 47 11,oF 48 2 10,oS 48 47]) (.cut (.seq (.reg [oF 49 0 10,oL 50 49,oJ 51 (.bin .eql (.t 50) (.c (.p (.int .i64 1))))]) (.cond (.t 51) (.reg [oM 52 0,oF 53 1 10,oL 54 53,oM 55 2,oJ 56 (.call cw [(.t 52),(.t 54),(.t 55)]),oF 57 1 10,oS 57 56]) (.skip))) (.cut (.seq (.reg [oF 58 0 10,oL 59 58,oJ 60 (.bin .eql (.t 59) (.c (.p (.int .i64 2))))]) (.cond (.t 60) (.reg [oM 61 0,oF 62 1 10,oL 63 62,oJ 64 (.call cx [(.t 61),(.t 63)]),oF 65 1 10,oS 65 64]) (.skip))) (.seq (.reg [oM 66 0,oF 67 3 10,oL 68 67,oM 69 2,oJ 70 (.bin .add (.t 69) (.c (.p (.int .i64 1)))),oJ 71 (.call bl [(.t 66),(.t 68),(.t 70)]),oF 72 3 10,oS 72 71]) (.seq (.reg [oM 73 0,oF 74 4 10,oL 75 74,oM 76 2,oJ 77 (.bin .add (.t 76) (.c (.p (.int .i64 1)))),oJ 78 (.call bl [(.t 73),(.t 75),(.t 77)]),oF 79 4 10,oS 79 78]) (.reg [oM 80 7,oJ 81 (.ld (some 5) (.t 10)),oJ 82 (.bsl 5 [(.p (.int .i64 0)),(.p (.str [])),.nils,.nils,.nils] 1 [(0,5,(.t 81))]),oJ 83 (.app 5 96 (.t 80) (.t 82)),oM 7 83])))))))))) (.reg [oM 23 9,oJ 24 (.bin .add (.t 23) (.c (.p (.int .i64 1)))),oM 9 24])))))) (.cut (.seq (.reg [oM 84 2,oJ 85 (.bin .gtr (.t 84) (.c (.p (.int .i64 0))))]) (.cond (.t 85) (.reg [oM 86 0,oM 87 0,oN 88 87,oF 89 2 88,oL 90 89,oM 91 8,oJ 92 (.slS 3 (.t 90) none (some (.t 91))),oN 93 86,oF 94 2 93,oS 94 92]) (.skip))) (.seq (.reg [oM 95 7,oM 6 95]) (.ret))))))
theorem oV:K_spec_l4Walk_stmts.whole=F_spec_l4Walk_stmts.ak:=rfl
theorem zY(fns:List Fd)(k b:Nat):∀(x y:List Sm) (w:WS),bx fns k b (x++y) w=bx fns k b y (bx fns k b x w)
 |[],y,w=>rfl
 |s::r,y,w=>by rw[List.cons_append,bx,bx,zY fns k b r]
theorem AD(fns:List Fd)(k b:Nat):∀(x y:List Sm) (w:WS),gy fns k b (x++y) w=gy fns k b x w++gy fns k b y (bx fns k b x w)
 |[],y,w=>rfl
 |s::r,y,w=>by rw[List.cons_append,gy,gy,AD fns k b r];rfl
theorem Em{fns:List Fd}{k b:Nat}{l:List Sm}{w:WS}{i:Nat}(h:i<l.length):bx fns k b (l.take (i+1)) w=stW fns k b l[i] (bx fns k b (l.take i) w):=by
 rw[ah h,zY];rfl
theorem Dh{fns:List Fd}{k b:Nat}{l:List Sm}{w:WS}{i:Nat}(h:i<l.length):gy fns k b (l.take (i+1)) w=gy fns k b (l.take i) w++[rnS fns k b l[i] (bx fns k b (l.take i) w)]:=by
 rw[ah h,AD];rfl
theorem vl(fns:List Fd)(k b:Nat):∀(l:List Sm) (w:WS),(gy fns k b l w).length=l.length
 |[],w=>rfl
 |s::r,w=>by rw[gy,List.length_cons,vl fns k b r,List.length_cons]
theorem xI{l:List Sm}{i:Nat}(h:i<l.length):aD (l.take i)+l[i].sz≤aD l:=by
 have e:l=l.take i++l[i]::l.drop (i+1):=by rw[←List.drop_eq_getElem_cons h,List.take_append_drop]
 have h2:aD l=aD (l.take i)+(l[i].sz+aD (l.drop (i+1))):=by
  conv=>lhs;rw[e]
  rw[sG];rfl
 omega
def qg(fns:List Fd)(k b:Nat)(l:List Sm)(w:WS):WS:=if 0<b then(bx fns k b l w).back w.vs else bx fns k b l w
theorem By(fns:List Fd)(k b:Nat)(l:List Sm)(w:WS):(qg fns k b l w).count=w.count+pp l:=by
 unfold qg
 split
 ·exact gP fns k l b w
 ·exact gP fns k l b w
theorem FJ{e vs:List LV}:(lvR (e++vs)).take vs.length=lvR vs:=by
 have h:lvR (e++vs)=lvR vs++lvR e:=by simp[lvR]
 rw[h,List.take_append_of_le_length (by rw[tK];exact Nat.le_refl _),List.take_of_length_le (by rw[tK];exact Nat.le_refl _)]
theorem xr(l:List Sm):pp l≤aD l:=Nat.le_trans (qR l) (nW l)
theorem BR(nf:Bool)(id n:Nat):(vaC nf id n).isCell=true:=by cases nf<;>rfl
theorem Ec(nf:Bool)(id n:Nat):(vaC nf id n).cells=[vaC nf id n]:=by cases nf<;>rfl
attribute [simp ↓] BR Ec
variable (G:aI)
def StP(fns:List Fd)(k b:Nat)(l:List Sm)(w:WS)(x:ARes)(h:List AO):Prop:=∃nf' w',x= .ret (.p (smL (gy fns k b l w)))∧h=[wO 2 nf' fns k w',.dead,roC nf' w'.vs]∧(nf'=true→w'.vs=[])∧w'=qg fns k b l w
structure StS where (i:Nat) (nf:Bool)
theorem Ge{fns:List Fd}{k:Nat}(hf:fns.length≤1099511627776):∀(N:Nat) (l:List Sm),aD l<N→∀(b:Nat) (nf:Bool) (w:WS),(nf=true→w.vs=[])→w.vs.length≤w.count→w.count+aD l≤1099511627776→b+aD l≤1099511627776→
 AC Tryz.prog G bl [.ptr 0 5 0 0,.p (smL l),.p (.int .i64 b)] (HWk nf fns k w) (StP fns k b l w):=by
 intro N
 induction N with
 |zero=>
  intro l hl b nf w hn hv hc hb
  omega
 |succ N ih=>
  intro l hl b nf w hn hv hc hb
  have hll:=aR l
  refine AC.goK oG oV ?_
  have hsl:∀l,smL l= .lst 5 (l.map Sm.cs):=fun _=>rfl
  have hlen0:AW (vaC nf 1 w.vs.length)=some (.p (.int .i64 w.vs.length)):=by
   cases nf
   ·rfl
   ·simp[vaC,hn rfl]
  simp-implicitDefEqProofs[K_spec_l4Walk_stmts,F_spec_l4Walk_stmts,HWk,wO,wC,hlen0]
  refine aF (fun s:StS=>aj 96 [(0,.ptr 0 5 0 0),(1,.p (smL l)),(2,.p (.int .i64 b)),(7,.sl 2 5 0 s.i),(8,.p (.int .i64 w.vs.length)),(9,.p (.int .i64 s.i))])
   (fun s=>[wO 3 s.nf fns k (bx fns k b (l.take s.i) w),.dead,.row 5 (smR (gy fns k b (l.take s.i) w)),roC s.nf (bx fns k b (l.take s.i) w).vs])
   (fun s=>s.i≤l.length∧(s.nf=true→(bx fns k b (l.take s.i) w).vs=[])) (fun s=>l.length-s.i) ⟨0,nf⟩ ⟨by simp,hn⟩ ?_ ?_
  ·refine Cx [0,1,2,1] (by simp) (by decide) ?_ (vU (by simp) rfl (gY (by simp) (aE rfl (by simp[smR,gy]) (ke rfl (fH _ _ _) bj)))) (by simp[below,ren])
   cases nf<;>simp[iR,roC,wO,bx]
  ·rintro⟨i,nf⟩ ⟨hi,hn⟩
   simp only at hi hn
   simp-implicitDefEqProofs[hsl]
   refine bh (fun h=>?_) (fun h=>?_)
   ·simp at h
    have hg:=List.getElem?_eq_getElem h
    have hat:=xI h
    have hse:=l[i].cs_eq
    have hsz:=l[i].sz_eq
    have hle:=Da fns k (l:=l.take i) (b:=b) hv
    have hcn:=gP fns k (l.take i) b w
    have hlz:=xr (l.take i)
    have eW:=Em (fns:=fns) (k:=k) (b:=b) (w:=w) h
    have eR:=Dh (fns:=fns) (k:=k) (b:=b) (w:=w) h
    have hol:=vl fns k b (l.take i) w
    rw[List.length_take,Nat.min_eq_left hi] at hol
    generalize l[i]=s at hg hat hse hsz eW eR
    generalize bx fns k b (l.take i) w=wi at hn hle hcn eW eR⊢
    generalize gy fns k b (l.take i) w=out at hol eR⊢
    obtain⟨o,nme,a,bd,el⟩:=s
    simp only[Sm.op,Sm.name,Sm.args,Sm.body,Sm.els] at hse hsz
    simp-implicitDefEqProofs[hg,hse]
    have hxl:∀l,exL l= .lst 4 (l.map Ex.cs):=fun _=>rfl
    have hal:=aM a
    have hlE:=xr bd
    have hwl:wi.vs.length≤1099511627776:=by omega
    have hopR:∀(x y z u v:AV),af 0 [x,y,z,u,v]→okO 5 (AO.row 5 [[x,y,z,u,v]]):=fun x y z u v hh=>bK (fun e he=>by rw[List.mem_singleton.1 he];exact hh)
    refine aF (fun j:Nat=>aj 96 [(0,.ptr 0 5 0 0),(1,.p (smL l)),(2,.p (.int .i64 b)),(7,.sl 2 5 0 i),(8,.p (.int .i64 w.vs.length)),(9,.p (.int .i64 i)),(10,.ptr 4 5 0 0),(11,.sl 5 4 0 j),(12,.p (.int .i64 j))])
     (fun j=>[wO 3 nf fns k ⟨wi.vs,wi.count,bg fns k wi.vs (a.take j) wi.code⟩,.dead,.row 5 (smR out),roC nf wi.vs,.row 5 [[.p (.int .i64 o),.p (.str nme),.p (exL a),.p (smL bd),.p (smL el)]],.row 4 (exR (jC wi.vs (a.take j)))])
     (fun j=>j≤a.length) (fun j=>a.length-j) 0 (by simp) ?_ ?_
    ·refine aa (h:=[wO 3 nf fns k wi,.dead,.row 5 (smR out),roC nf wi.vs,.row 5 [[.p (.int .i64 o),.p (.str nme),.p (exL a),.p (smL bd),.p (smL el)]],.row 4 []]) (by simp) (ag (sY (by simp)) (ag trivial (ag (bK (aO out)) (ag (fH _ _ _) (by simp[okO,below]))))) (by simp[below,hsl])
    intro j hj
    have hrl:(exR (jC wi.vs (a.take j))).length=j:=by rw[tP,qy];simp;omega
    simp-implicitDefEqProofs[hxl]
    refine bh (fun hc=>?_) (fun hc=>?_)
    ·simp at hc
     have hga:=List.getElem?_eq_getElem hc
     have hks:=az (List.getElem_mem hc)
     have hkc:=(rnE wi.vs a[j]).cs_eq
     simp-implicitDefEqProofs[hga]
     refine(Kx G (id:=3) (ID G hf (a[j].sz) a[j] (Nat.le_refl _) (by omega) nf ⟨wi.vs,wi.count,bg fns k wi.vs (a.take j) wi.code⟩ hn hwl) (by simp) (by simp[below]) (by decide) rfl rfl).mono ?_
     rintro r h' ⟨rfl,rfl⟩
     rw[show(rnE (WS.mk wi.vs wi.count (bg fns k wi.vs (a.take j) wi.code)).vs a[j])=rnE wi.vs a[j] from rfl]
     simp-implicitDefEqProofs[ab,hkc,hrl]
     refine⟨by omega,j+1,by omega,by omega,?_⟩
     have htk:List.take j (exR (jC wi.vs (a.take j)))=exR (jC wi.vs (a.take j)):=List.take_of_length_le (by omega)
     rw[vI hc,xx hc,tL,htk]
     refine cr [0,1,2,3,4,7] (by simp) (by decide) (by decide) (vU (by simp) rfl (gY (by simp) (aE rfl (aO out) (ke rfl (fH _ _ _) (aE rfl (by simp[below]) (aE ?_ ?_ bj)))))) (by simp[below,ren,hsl,w1 (i:=j) (by omega)])
     ·have:exR [rnE wi.vs a[j]]=[[.p (.int .i64 (rnE wi.vs a[j]).op),.p (.int .i64 (rnE wi.vs a[j]).n),.p (.str (rnE wi.vs a[j]).name),.p (exL (rnE wi.vs a[j]).kids)]]:=by rw[exR,List.map_singleton,hkc];rfl
      rw[this];rfl
     ·intro x hx
      rcases List.mem_append.1 hx with h|h
      ·exact jG _ x h
      ·exact jG _ x h
    simp at hc
    have hje:j=a.length:=by omega
    subst hje
    rw[List.take_length] at hrl⊢
    have hal2:=qy wi.vs a
    simp-implicitDefEqProofs[]
    generalize hw1:WS.mk wi.vs wi.count (bg fns k wi.vs a wi.code)=w1
    have e1v:w1.vs=wi.vs:=by rw[←hw1]
    have e1c:w1.count=wi.count:=by rw[←hw1]
    have e1l:w1.vs.length=wi.vs.length:=by rw[e1v]
    rw[←e1v]
    refine kL (aj 96 [(0,.ptr 0 5 0 0),(1,.p (smL l)),(2,.p (.int .i64 b)),(7,.sl 2 5 0 i),(8,.p (.int .i64 w.vs.length)),(9,.p (.int .i64 i)),(10,.ptr 4 5 0 0)])
     [wO 3 nf fns k w1,.dead,.row 5 (smR out),roC nf w1.vs,.row 5 [[.p (.int .i64 o),.p (.str nme),.p (exL (jC w1.vs a)),.p (smL bd),.p (smL el)]]] ?_ ?_
    ·simp-implicitDefEqProofs[]
     refine ja 5 (by omega) (by simp) rfl (.same (sY (by omega)) (.dead (.same (bK (aO out)) (.same (fH _ _ _) (.one (.keep (by simp[below]) (.keep (by simp[below]) (.one ?_ (.keep (by simp[below]) (.keep (by simp[below]) .nil))))) (.nil _)))))) ?_
     ·rw[←e1v] at hal2
      rw[←hal2]
      exact qZ rfl
     ·refine⟨.keep (by simp[below]) .nil,.keep (by simp[below]) .nil,.keep (by simp[below]) .nil,.keep (by simp[below]) .nil,.keep (by simp[below]) .nil,.keep (by simp[below]) .nil,.keep (by simp[below]) .nil,trivial⟩
    have TT:∀(r1:List (Nat × AV)),Aw.look r1 0= .ptr 0 5 0 0→Aw.look r1 1= .p (smL l)→Aw.look r1 2= .p (.int .i64 b)→Aw.look r1 7= .sl 2 5 0 i→Aw.look r1 8= .p (.int .i64 w.vs.length)→Aw.look r1 9= .p (.int .i64 i)→Aw.look r1 10= .ptr 4 5 0 0→∀ρ:List Nat,ρ.length=5→ρ.getD 0 0=0→ρ.getD 2 0=2→ρ.getD 4 0=4→
     TWA ρ r1 [(0,.ptr 0 5 0 0),(1,.p (smL l)),(2,.p (.int .i64 b)),(7,.sl 2 5 0 i),(8,.p (.int .i64 w.vs.length)),(9,.p (.int .i64 i)),(10,.ptr 4 5 0 0)]:=by
     intro r1 a0 a1 a2 a7 a8 a9 a10 ρ hr r0 r2 r4
     simp[below,ren,hr,a0,a1,a2,a7,a8,a9,a10]
     rw[List.getD_eq_getElem?_getD,List.getElem?_eq_getElem (by omega)] at r0 r2 r4
     exact⟨r0,r2,r4⟩
    have hn1:nf=true→w1.vs=[]:=fun h=>by rw[e1v];exact hn h
    have okB:∀(nf:Bool) (w:WS) (r:AO),okO 0 r→∀x∈[wO 3 nf fns k w,.dead,.row 5 (smR out),roC nf w.vs,r],okO 5 x:=fun nf w r hr=>
     ag (sY (by omega)) (ag trivial (ag (bK (aO out)) (ag (fH _ _ _) (ag (bK hr) dR))))
    refine kL (aj 96 [(0,.ptr 0 5 0 0),(1,.p (smL l)),(2,.p (.int .i64 b)),(7,.sl 2 5 0 i),(8,.p (.int .i64 w.vs.length)),(9,.p (.int .i64 i)),(10,.ptr 4 5 0 0)])
     [wO 3 (if o=1 then false else nf) fns k (if o=1 then jH w1 nme b else w1),.dead,.row 5 (smR out),roC (if o=1 then false else nf) (if o=1 then jH w1 nme b else w1).vs,.row 5 [[.p (.int .i64 o),.p (.str (if o=1 then vnm w1.count else nme)),.p (exL (jC w1.vs a)),.p (smL bd),.p (smL el)]]] ?_ ?_
    ·by_cases o1:o=1
     ·simp-implicitDefEqProofs[o1]
      refine(FU G (id:=3) (Q:=fun nf' w'=>nf'=false∧w'=jH w1 nme b) ((Fk G nf fns k w1 hn1 (by omega) (by omega) nme b).mono (by rintro x h ⟨rfl,rfl⟩;exact⟨false,_,rfl,rfl,rfl,rfl⟩)) (by simp) (by simp[below]) (by decide) rfl rfl).mono ?_
      rintro r h' ⟨nf',w',rfl,rfl,rfl,rfl⟩
      simp-implicitDefEqProofs[ab]
      refine cr [0,1,2,5,4] (by simp) (by decide) (by decide) (vU (by simp) rfl (gY (by simp) (aE rfl (aO out) (ke rfl (fH _ _ _) (aE rfl (by simp[below]) bj))))) (TT _ (by simp) (by simp) (by simp) (by simp) (by simp) (by simp) (by simp) _ rfl rfl rfl rfl)
     ·simp-implicitDefEqProofs[o1]
      refine aa (by simp) (okB nf w1 _ (by simp[okO,below])) (by simp[below])
    generalize hw2:(if o=1 then jH w1 nme b else w1)=w2
    generalize hnf2:(if o=1 then false else nf)=nf2
    generalize hnm2:(if o=1 then vnm w1.count else nme)=nm2
    have hn2:nf2=true→w2.vs=[]:=by
     intro h
     by_cases o1:o=1
     ·rw[if_pos o1] at hnf2;rw[←hnf2] at h;cases h
     ·rw[if_neg o1] at hnf2 hw2;rw[←hw2];exact hn1 (by rw[hnf2];exact h)
    have h2c:w2.count=w1.count+if o=1 then 1 else 0:=by rw[←hw2];split<;>rfl
    have h2v:w2.vs.length≤w2.count:=by
     rw[←hw2];split
     ·simp[jH];omega
     ·omega
    have h2b:w2.count≤wi.count+1:=by rw[h2c,e1c];split<;>omega
    refine kL (aj 96 [(0,.ptr 0 5 0 0),(1,.p (smL l)),(2,.p (.int .i64 b)),(7,.sl 2 5 0 i),(8,.p (.int .i64 w.vs.length)),(9,.p (.int .i64 i)),(10,.ptr 4 5 0 0)])
     [wO 3 nf2 fns k (opW o nme b w1),.dead,.row 5 (smR out),roC nf2 (opW o nme b w1).vs,.row 5 [[.p (.int .i64 o),.p (.str (opN o nme w1)),.p (exL (jC w1.vs a)),.p (smL bd),.p (smL el)]]] ?_ ?_
    ·by_cases o2:o=2
     ·have o1:¬o=1:=by omega
      rw[if_neg o1] at hw2 hnm2
      subst hw2;subst hnm2
      have eo:opW o nme b w1=⟨w1.vs,w1.count,lX w1.vs nme w1.code⟩:=by rw[opW,if_neg o1,if_pos o2]
      have en:opN o nme w1=ue w1.vs nme:=by rw[opN,if_neg o1,if_pos o2]
      rw[eo,en]
      simp-implicitDefEqProofs[o2]
      refine(Kx G (id:=3) (GE G nf2 fns k w1 hn2 (by omega) nme) (by simp) (by simp[below]) (by decide) rfl rfl).mono ?_
      rintro r h' ⟨rfl,rfl⟩
      simp-implicitDefEqProofs[ab]
      refine aa (h:=[wO 3 nf2 fns k ⟨w1.vs,w1.count,lX w1.vs nme w1.code⟩,.dead,.row 5 (smR out),roC nf2 w1.vs,_]) (by simp) (okB nf2 ⟨w1.vs,w1.count,lX w1.vs nme w1.code⟩ _ (by simp[okO,below])) (by simp[below])
     ·have eo:opW o nme b w1=w2:=by rw[opW,if_neg o2,←hw2]
      have en:opN o nme w1=nm2:=by rw[opN,if_neg o2,←hnm2]
      rw[eo,en]
      simp-implicitDefEqProofs[o2]
      refine aa (by simp) (okB nf2 w2 _ (by simp[okO,below])) (by simp[below])
    have eov:(opW o nme b w1).vs=w2.vs:=by
     rw[opW,←hw2];split
     ·rfl
     ·split<;>rfl
    have eoc:(opW o nme b w1).count=w2.count:=by rw[rQ,h2c]
    have hwb:IntKind.i64.wrap ((b:Int)+1)=((b+1:Nat):Int):=by rw[al (by omega) (by omega)];omega
    have hstw:stW fns k b (.mk o nme a bd el) wi=qg fns k (b+1) el (qg fns k (b+1) bd (opW o nme b w1)):=by
     rw[stW]
     simp only[hw1,qg,Nat.succ_pos,if_true]
     rfl
    have hrns:(rnS fns k b (.mk o nme a bd el) wi).cs=[.int .i64 o,.str (opN o nme w1),exL (jC w1.vs a),smL (gy fns k (b+1) bd (opW o nme b w1)),smL (gy fns k (b+1) el (qg fns k (b+1) bd (opW o nme b w1)))]:=by
     rw[rnS,Sm.cs_eq]
     simp only[hw1,qg,Nat.succ_pos,if_true,Sm.op,Sm.name,Sm.args,Sm.body,Sm.els,e1v]
     have:opN o nme wi=opN o nme w1:=by simp only[opN,e1v,e1c]
     rw[this]
    rw[hstw] at eW
    clear hstw
    generalize opW o nme b w1=w3 at eov eoc hrns eW⊢
    have hn3:nf2=true→w3.vs=[]:=fun h=>by rw[eov];exact hn2 h
    have h3v:w3.vs.length≤w3.count:=by rw[eov,eoc];exact h2v
    simp-implicitDefEqProofs[hwb]
    refine(FU G (id:=3) (ih bd (by omega) (b+1) nf2 w3 hn3 h3v (by omega) (by omega)) (by simp) (by simp[below]) (by decide) rfl rfl).mono ?_
    rintro r h' ⟨nf4,w4,rfl,rfl,hn4,hw4⟩
    rw[←hw4] at hrns eW
    have h4c:w4.count=w3.count+pp bd:=by rw[hw4];exact By _ _ _ _ _
    have h4v:w4.vs.length≤w4.count:=by
     have:w4.vs=w3.vs:=by rw[hw4];simp[qg,WS.back]
     rw[this,h4c];omega
    simp-implicitDefEqProofs[ab,hwb]
    refine(FU G (id:=5) (ih el (by omega) (b+1) nf4 w4 hn4 h4v (by omega) (by omega)) (by simp) (by simp[below]) (by decide) rfl rfl).mono ?_
    rintro r h' ⟨nf5,w5,rfl,rfl,hn5,hw5⟩
    rw[←hw5] at eW
    have hsl2:(smR out).length=i:=by rw[iX];exact hol
    simp-implicitDefEqProofs[ab,hsl2]
    refine⟨⟨by omega,by omega⟩,⟨i+1,nf5⟩,⟨by simp only;omega,fun h=>by simp only at h⊢;rw[eW];exact hn5 h⟩,by simp only;omega,?_⟩
    simp only
    rw[eW,eR,qN]
    have htk:List.take i (smR out)=smR out:=List.take_of_length_le (by omega)
    rw[htk]
    have hsm1:smR [rnS fns k b (.mk o nme a bd el) wi]=[[.p (.int .i64 o),.p (.str (opN o nme w1)),.p (exL (jC w1.vs a)),.p (smL (gy fns k (b+1) bd w3)),.p (smL (gy fns k (b+1) el w4))]]:=by rw[smR,List.map_singleton,hrns];rfl
    rw[hsm1]
    refine cr [0,1,8,6] (by simp) (by decide) (by decide) (vU (by simp) rfl (gY (by simp) (aE rfl (fun x hx=>?_) (ke rfl (fH _ _ _) bj)))) (by simp[below,ren,hsl,show IntKind.i64.wrap ((i:Int)+1)=((i:Int)+1) from al (by omega) (by omega)])
    rcases List.mem_append.1 hx with h|h
    ·exact aO out x h
    ·rw[List.mem_singleton.1 h];simp
   ·simp at h
    have hie:i=l.length:=by omega
    subst hie
    rw[List.take_length] at hn⊢
    obtain⟨ext,hext⟩:=Ag fns k l b w
    have hlen:=vl fns k b l w
    refine kL (aj 96 [(7,.p (smL (gy fns k b l w)))]) [wO 2 nf fns k (qg fns k b l w),.dead,roC nf (qg fns k b l w).vs] ?_ ?_
    ·have fin:∀(r1:List (Nat × AV)) (w':WS),w'.vs=w.vs∨w'.vs=(bx fns k b l w).vs→(Aw.look r1 7= .sl 2 5 0 l.length)→
      Wk 2 (aj 96 r1) [wO 3 nf fns k w',.dead,.row 5 (smR (gy fns k b l w)),roC nf (bx fns k b l w).vs] (aj 96 [(7,.p (smL (gy fns k b l w)))]) [wO 2 nf fns k w',.dead,roC nf w'.vs]:=by
      intro r1 w' hv' hr
      refine Wk.trans (IF (h1:=[wO 3 nf fns k w',.dead,.row 5 (smR (gy fns k b l w)),roC nf w'.vs]) ?_) (Wk.trans (cr (l1:=[(7,.sl 3 5 0 l.length)]) (h1:=[wO 2 nf fns k w',.dead,roC nf w'.vs,.row 5 (smR (gy fns k b l w))]) [0,1,3,2] (by simp) (by decide) (by decide) (vU (by simp) rfl (gY (by simp) (ke rfl (fH _ _ _) (aE rfl (aO _) bj)))) (by simp[below,ren,hr]))
       (ja 3 (by omega) (by simp) rfl (.same (sY (by omega)) (.dead (.same (fH _ _ _) (.nil _)))) ?_))
      ·refine⟨.inl rfl,.inl rfl,.inl rfl,?_,trivial⟩
       rcases hv' with e|e
       ·cases nf with
        |true=>exact .inl rfl
        |false=>
         refine .inr ⟨3,lvR (bx fns k b l w).vs,w.vs.length,rfl,?_⟩
         rw[hext,FJ,e];rfl
       ·rw[e];exact .inl rfl
      ·rw[←hlen]
       exact⟨.one (kP rfl) .nil,trivial⟩
     by_cases hb0:0<b
     ·have hwe:qg fns k b l w=(bx fns k b l w).back w.vs:=if_pos hb0
      rw[hwe]
      have hll2:(bx fns k b l w).vs.length=ext.length+w.vs.length:=by rw[hext,List.length_append]
      cases nf with
      |true=>
       have h0:=hn rfl
       rw[h0] at hext
       have h00:w.vs=[]:=(List.append_eq_nil_iff.1 hext.symm).2
       simp-implicitDefEqProofs[hb0,wO,wC,vaC,h00]
       rw[h00] at fin
       exact fin _ ⟨[],(bx fns k b l w).count,(bx fns k b l w).code⟩ (.inl rfl) (by simp)
      |false=>
       have hle:w.vs.length≤(bx fns k b l w).vs.length:=by omega
       simp-implicitDefEqProofs[hb0,wO,wC,vaC,hle]
       exact fin _ ⟨w.vs,(bx fns k b l w).count,(bx fns k b l w).code⟩ (.inl rfl) (by simp)
     ·have hwe:qg fns k b l w=bx fns k b l w:=if_neg hb0
      have hb0':b=0:=by omega
      subst hb0'
      rw[hwe]
      simp-implicitDefEqProofs[]
      exact fin _ _ (.inr rfl) (by simp)
    ·simp-implicitDefEqProofs[]
     refine⟨nf,_,rfl,rfl,?_,rfl⟩
     intro hnf
     have h0:=hn hnf
     unfold qg
     split
     ·rw[h0] at hext;exact(List.append_eq_nil_iff.1 hext.symm).2
     ·exact h0
end Go.Proofs.YtaopbokndkdieaaGreatDoor
namespace Go.Proofs.YtaopbokndkdieaaGreatDoor
open Go Go.Aw
set_option maxRecDepth 100000
set_option maxHeartbeats 4000000
def K_spec_l4Fn:AK:= .seq (.reg [oJ 2 (.box 1 (.t 0)),oJ 4 (.alloc [(.p (.str [])),.nils,.nils]),oK 5 0,oK 6 0]) (.seq (.reg [oJ 11 (.ld (some 1) (.t 2)),oM 12 1,oJ 13 (.bld [.nils,(.p (.int .i64 0)),.nils,(.p (.int .i64 0)),(.p (.int .i64 0))] [(0,1,(.t 11)),(1,1,(.t 12))]),oJ 14 (.box 5 (.t 13)),oM 7 14]) (.cut (.reg [oF 15 0 2,oL 16 15,oM 17 1,oJ 18 (.idxS 3 (.t 16) (.t 17)),oJ 19 (.ld (some 3) (.t 18)),oJ 8 (.alloc [(.p (.str [])),.nils,.nils]),⟨none,none,.st 3 (.t 8) (.t 19)⟩]) (.cut (.seq (.reg [oJ 20 (.ld (some 1) (.t 2)),oF 21 0 8,oL 22 21,oJ 23 (.call fP [(.t 20),(.t 22)]),oM 24 1,oJ 25 (.bin .neq (.t 23) (.t 24))]) (.cond (.t 25) (.reg [oM 26 7,oJ 27 (.call aQ [(.t 26),(.c (.p (.int .i64 2)))])]) (.skip))) (.seq (.reg [oJ 28 (.bsl 1 [(.p (.str []))] 0 []),oM 9 28]) (.seq (.seq (.reg [oK 10 0]) (.blk 0 (.loop (.seq (.seq (.reg [oM 29 10,oF 30 1 8,oL 31 30,oJ 32 (.len false (.t 31)),oJ 33 (.bin .lss (.t 29) (.t 32))]) (.cond (.t 33) (.skip) (.exit 0))) (.seq (.blk 1 (.reg [oM 36 9,oM 37 7,oF 38 1 8,oL 39 38,oM 40 10,oJ 41 (.idxS 1 (.t 39) (.t 40)),oL 42 41,oJ 43 (.call cw [(.t 37),(.t 42),(.c (.p (.int .i64 0)))]),oJ 44 (.bsl 1 [(.p (.str []))] 1 [(0,1,(.t 43))]),oJ 45 (.app 1 16 (.t 36) (.t 44)),oM 9 45])) (.reg [oM 34 10,oJ 35 (.bin .add (.t 34) (.c (.p (.int .i64 1)))),oM 10 35])))))) (.seq (.reg [oM 46 9,oF 47 1 8,oS 47 46]) (.seq (.reg [oM 48 7,oF 49 2 8,oL 50 49,oJ 51 (.call bl [(.t 48),(.t 50),(.c (.p (.int .i64 0)))]),oF 52 2 8,oS 52 51]) (.seq (.reg [oM 54 7,oN 55 54,oF 56 4 55,oM 58 7,oN 59 58,oF 60 3 59,oJ 53 (.ld (some 3) (.t 8)),oL 57 56,oL 61 60,⟨none,none,.st 3 (.t 4) (.t 53)⟩,⟨none,none,.chk none 56 57⟩,⟨none,none,.chk none 60 61⟩,oM 5 57,oM 6 61]) (.ret)))))))))
theorem zs:K_spec_l4Fn.whole=F_spec_l4Fn.ak:=rfl
theorem yV:∀(ps:List (List UInt8)) (w:WS),w.vs.length≤w.count→(cN ps w).vs.length≤(cN ps w).count
 |[],w,h=>h
 |s::r,w,h=>yV r (jH w s 0) (by simp[jH];omega)
theorem Ev(a b:List (List UInt8))(w:WS):cN (a++b) w=cN b (cN a w):=by simp[cN]
theorem Cc{l:List (List UInt8)}{w:WS}{i:Nat}(h:i<l.length):cN (l.take (i+1)) w=jH (cN (l.take i) w) l[i] 0:=by
 rw[ah h,Ev];rfl
theorem zA:∀(a b:List (List UInt8)) (w:WS),oz (a++b) w=oz a w++oz b (cN a w)
 |[],b,w=>rfl
 |s::r,b,w=>by rw[List.cons_append,oz,oz,zA r];rfl
theorem Eg{l:List (List UInt8)}{w:WS}{i:Nat}(h:i<l.length):oz (l.take (i+1)) w=oz (l.take i) w++[vnm (cN (l.take i) w).count]:=by
 rw[ah h,zA];rfl
theorem vw:∀(l:List (List UInt8)) (w:WS),(oz l w).length=l.length
 |[],w=>rfl
 |s::r,w=>by rw[oz,List.length_cons,vw r,List.length_cons]
def w0(fns:List Fd)(k:Nat)(f:Fd):WS:=⟨[],0,if dp fns f.name=some k then 0 else 2⟩
theorem JY(fns:List Fd)(k:Nat)(f:Fd):fnW fns k f=bx fns k 0 f.body (cN f.params (w0 fns k f)):=rfl
theorem Gt(fns:List Fd)(k:Nat)(f:Fd):(rnF fns k f).cs=[.str f.name,aN (oz f.params (w0 fns k f)),smL (gy fns k 0 f.body (cN f.params (w0 fns k f)))]:=rfl
variable (G:aI)
theorem Ks{fns:List Fd}{k:Nat}{f:Fd}(hk:fns[k]?=some f)(hz:bn fns≤1073741824):VF Tryz.prog G jZ [.agg [.p (fdL fns)],.p (.int .i64 k)] (.tup [.agg ((rnF fns k f).cs.map .p),.p (.int .i64 (fnW fns k f).code),.p (.int .i64 (fnW fns k f).count)]):=by
 have hfl:=bL fns
 have hfm:=bS (List.mem_of_getElem? hk)
 have hfz:f.sz=1+f.name.length+(f.params.length+(f.params.map List.length).sum)+aD f.body:=rfl
 have hkl:=(List.getElem?_eq_some_iff.1 hk).1
 have key:AC Tryz.prog G jZ [.agg [.p (fdL fns)],.p (.int .i64 k)] [] fun x h=>x= .ret (.tup [.agg [.p (.str f.name),.sl 5 1 0 f.params.length,.p (smL (gy fns k 0 f.body (cN f.params (w0 fns k f))))],.p (.int .i64 (fnW fns k f).code),.p (.int .i64 (fnW fns k f).count)])∧h[5]?=some (xQ (oz f.params (w0 fns k f))):=by
  refine AC.goK zE zs ?_
  have hfd:∀l,fdL l= .lst 3 (l.map Fd.cs):=fun _=>rfl
  have hcs:f.cs=[.str f.name,aN f.params,smL f.body]:=rfl
  have hst:aN f.params= .lst 1 (f.params.map fun w=>[.str w]):=rfl
  simp-implicitDefEqProofs[K_spec_l4Fn,F_spec_l4Fn]
  refine kL (aj 62 [(1,.p (.int .i64 k)),(2,.ptr 0 1 0 0),(4,.ptr 1 3 0 0),(7,.ptr 2 5 0 0),(8,.ptr 3 3 0 0)])
   [.row 1 [[.p (fdL fns)]],.row 3 [[.p (.str []),.nils,.nils]],wO 4 true fns k ⟨[],0,0⟩,.row 3 [[.p (.str f.name),.p (aN f.params),.p (smL f.body)]],.dead] ?_ ?_
  ·simp-implicitDefEqProofs[hfd,hk,hcs]
   refine iw (h:=[.row 1 [[.p (fdL fns)]],.row 3 [[.p (.str []),.nils,.nils]],wO 4 true fns k ⟨[],0,0⟩,.row 3 [[.p (.str f.name),.p (aN f.params),.p (smL f.body)]]]) (by simp) (by simp) ?_ (by simp[below])
   refine ag (by simp[okO,below]) (ag (by simp[okO,below]) (ag ?_ (ag (by simp[okO,below]) dR)))
   intro x hx
   rw[List.mem_singleton.1 hx];simp[wC,vaC,below]
  refine kL (aj 62 [(1,.p (.int .i64 k)),(2,.ptr 0 1 0 0),(4,.ptr 1 3 0 0),(7,.ptr 2 5 0 0),(8,.ptr 3 3 0 0)])
   [.row 1 [[.p (fdL fns)]],.row 3 [[.p (.str []),.nils,.nils]],wO 4 true fns k (w0 fns k f),.row 3 [[.p (.str f.name),.p (aN f.params),.p (smL f.body)]],.dead] ?_ ?_
  ·simp-implicitDefEqProofs[]
   refine(Fa G fns f.name (by omega)).use ?_
   have hok:∀w:WS,∀o∈[AO.row 1 [[.p (fdL fns)]],.row 3 [[.p (.str []),.nils,.nils]],wO 4 true fns k w,.row 3 [[.p (.str f.name),.p (aN f.params),.p (smL f.body)]],.dead],okO 5 o:=fun w=>
    ag (by simp[okO,below]) (ag (by simp[okO,below]) (ag (sY (by simp)) (ag (by simp[okO,below]) (ag trivial dR))))
   by_cases he:dp fns f.name=some k
   ·have hw:w0 fns k f=⟨[],0,0⟩:=by rw[w0,if_pos he]
    rw[hw,he]
    simp-implicitDefEqProofs[ixI]
    exact aa (by simp) (hok _) (by simp[below])
   ·have hw:w0 fns k f=⟨[],0,2⟩:=by rw[w0,if_neg he]
    have hne:¬ixI (dp fns f.name)=(k:Int):=by
     intro h
     apply he
     cases e:dp fns f.name with
     |none=>rw[e] at h;simp only[ixI] at h;omega
     |some j=>rw[e] at h;simp only[ixI] at h;have:j=k:=by omega
              rw[this]
    rw[hw]
    simp-implicitDefEqProofs[hne]
    refine(Kx G (wid:=2) (id:=4) (nX G true fns k ⟨[],0,0⟩ 2) (by simp) (by simp[below]) (by decide) rfl rfl).mono ?_
    rintro r h' ⟨rfl,rfl⟩
    simp-implicitDefEqProofs[ab]
    exact aa (h:=[AO.row 1 [[.p (fdL fns)]],.row 3 [[.p (.str []),.nils,.nils]],wO 4 true fns k ⟨[],0,2⟩,.row 3 [[.p (.str f.name),.p (aN f.params),.p (smL f.body)]],.dead]) (by simp) (hok _) (by simp[below])
  rw[JY]
  have hw0v:(w0 fns k f).vs=[]:=rfl
  have hw0c:(w0 fns k f).count=0:=rfl
  generalize w0 fns k f=w0 at hw0v hw0c⊢
  simp-implicitDefEqProofs[]
  have hcnt:∀j,j≤f.params.length→(cN (f.params.take j) w0).count=j:=fun j hj=>by rw[sX,hw0c];simp;omega
  have hvl:∀j,(cN (f.params.take j) w0).vs.length≤(cN (f.params.take j) w0).count:=fun j=>yV _ _ (by rw[hw0v];simp)
  refine aF (fun j:Nat=>aj 62 [(1,.p (.int .i64 k)),(2,.ptr 0 1 0 0),(4,.ptr 1 3 0 0),(7,.ptr 2 5 0 0),(8,.ptr 3 3 0 0),(9,.sl 5 1 0 j),(10,.p (.int .i64 j))])
   (fun j=>[.row 1 [[.p (fdL fns)]],.row 3 [[.p (.str []),.nils,.nils]],wO 6 (decide (j=0)) fns k (cN (f.params.take j) w0),.row 3 [[.p (.str f.name),.p (aN f.params),.p (smL f.body)]],.dead,xQ (oz (f.params.take j) w0),roC (decide (j=0)) (cN (f.params.take j) w0).vs])
   (fun j=>j≤f.params.length) (fun j=>f.params.length-j) 0 (by simp) ?_ ?_
  ·refine iw (h:=[.row 1 [[.p (fdL fns)]],.row 3 [[.p (.str []),.nils,.nils]],wO 6 true fns k w0,.row 3 [[.p (.str f.name),.p (aN f.params),.p (smL f.body)]],.dead,.row 1 []]) (by simp) (by simp) ?_ (by simp[below])
   refine ag (by simp[okO,below]) (ag (by simp[okO,below]) (ag ?_ (ag (by simp[okO,below]) (ag trivial (ag (by simp[okO]) dR)))))
   intro x hx
   rw[List.mem_singleton.1 hx];simp[wC,vaC,below]
  intro j hj
  have hjc:=hcnt j hj
  have hjv:=hvl j
  have hol:=vw (f.params.take j) w0
  rw[List.length_take,Nat.min_eq_left hj] at hol
  have hnf:decide (j=0)=true→(cN (f.params.take j) w0).vs=[]:=by
   intro h
   have h0:j=0:=by simpa using h
   rw[h0,List.take_zero]
   exact hw0v
  simp-implicitDefEqProofs[hst]
  refine bh (fun h=>?_) (fun h=>?_)
  ·simp at h
   have hg:=List.getElem?_eq_getElem h
   have eP:=Cc (w:=w0) h
   have eR:=Eg (w:=w0) h
   simp-implicitDefEqProofs[hg]
   refine(FU G (wid:=2) (id:=6) (Q:=fun nf' w'=>nf'=false∧w'=jH (cN (f.params.take j) w0) f.params[j] 0) ((Fk G (decide (j=0)) fns k _ hnf (by omega) (by omega) f.params[j] 0).mono (by rintro x h ⟨rfl,rfl⟩;exact⟨false,_,rfl,rfl,rfl,rfl⟩)) (by simp) (by simp[below]) (by decide) rfl rfl).mono ?_
   rintro r h' ⟨nf',w',rfl,rfl,rfl,rfl⟩
   have hso:∀l,xQ l= .row 1 (l.map fun n=>[.p (.str n)]):=fun _=>rfl
   simp-implicitDefEqProofs[ab,hso,hol]
   refine⟨by omega,j+1,by omega,by omega,?_⟩
   have htk:List.take j ((oz (f.params.take j) w0).map fun n=>[AV.p (.str n)])=(oz (f.params.take j) w0).map fun n=>[AV.p (.str n)]:=List.take_of_length_le (by rw[List.length_map];omega)
   have hd:decide (j+1=0)=false:=by simp
   rw[eP,eR,hd,List.map_append,←List.map_take,List.map_take,htk]
   refine dm [0,1,2,3,4,9,7] rfl (by decide) (aE rfl (by simp) (aE rfl (by simp[below]) (vU (by simp) rfl (aE rfl (by simp) (gY (by simp) (aE rfl (fun x hx=>?_) (ke rfl (fH _ _ _) bj))))))) (by simp[below,ren,w1 (i:=j) (by omega)])
   rcases List.mem_append.1 hx with h|h
   ·exact xo _ x h
   ·exact xo _ x h
  ·simp at h
   have hje:j=f.params.length:=by omega
   subst hje
   rw[List.take_length] at hol hjc hjv hnf⊢
   generalize decide (f.params.length=0)=nf at hnf⊢
   simp-implicitDefEqProofs[]
   refine(FU G (wid:=2) (id:=6) (Ge G (fns:=fns) (by omega) (aD f.body+1) f.body (by omega) 0 _ (cN f.params w0) hnf hjv (by omega) (by omega)) (by simp) (by simp[below]) (by decide) rfl rfl).mono ?_
   rintro r h' ⟨nf',w',rfl,rfl,hn',hw'⟩
   have hb:qg fns k 0 f.body (cN f.params w0)=bx fns k 0 f.body (cN f.params w0):=rfl
   rw[hb] at hw'
   rw[←hw']
   simp-implicitDefEqProofs[ab,wO,wC]
 refine key.freezeR (fun t v h ⟨e,_⟩=>by cases e) fun v h ⟨e1,e2⟩=>?_
 cases e1
 rw[Gt]
 have hol:=vw f.params (w0 fns k f)
 have hv:=kY e2
 rw[hol] at hv
 exact .tup (.agg (.keep (by simp) (.one hv (.keep (by simp) .nil))) (.keep (by simp) (.keep (by simp) .nil))) .nil
theorem zG{fns:List Fd}{i:Nat}(h:i<fns.length):gI fns i (fns.drop i)=if(fnW fns i fns[i]).code=0 then gI fns (i+1) (fns.drop (i+1)) else(fnW fns i fns[i]).code:=by
 rw[List.drop_eq_getElem_cons h,gI]
theorem uB(l:List Fd)(hz:bn l≤1073741824):VF Tryz.prog G eV [.agg [.p (fdL l)]] (.p (.int .i64 (aX l))):=by
 refine AC.go oR ?_
 have hll:=bL l
 have hfd:∀l,fdL l= .lst 3 (l.map Fd.cs):=fun _=>rfl
 simp-implicitDefEqProofs[iP]
 refine(ve G l (by omega)).use ?_
 by_cases hv:bH l=true
 case neg=>
  have:aX l=1:=if_neg hv
  have hv':bH l=false:=by simpa using hv
  simp-implicitDefEqProofs[hv',this]
 have hc:aX l=gI l 0 (l.drop 0):=if_pos hv
 rw[hc]
 simp-implicitDefEqProofs[hv]
 refine aF (fun i:Nat=>aj 27 [(1,.ptr 0 1 0 0),(3,.p (.int .i64 i))]) (fun _=>[.row 1 [[.p (fdL l)]]]) (fun i=>i≤l.length∧gI l 0 l=gI l i (l.drop i)) (fun i=>l.length-i) 0 (by simp) (aa (by simp) (by simp[okO]) (by simp[below])) ?_
 rintro i ⟨hi,he⟩
 simp-implicitDefEqProofs[hfd]
 refine bh (fun h=>?_) (fun h=>?_)
 ·simp at h
  have hg:=List.getElem?_eq_getElem h
  have hd:=zG h
  simp-implicitDefEqProofs[]
  refine(Ks G hg hz).use ?_
  have hrc:=Gt l i l[i]
  by_cases h0:(fnW l i l[i]).code=0
  ·rw[if_pos h0] at hd
   simp-implicitDefEqProofs[h0,hrc]
   refine⟨i+1,⟨by omega,by rw[he,hd]⟩,by omega,?_⟩
   refine ka (m:=1) (by omega) (fk rfl rfl (by simp[okO,below])) (by simp[below,hfd,w1 (i:=i) (by omega)])
  ·rw[if_neg h0] at hd
   simp-implicitDefEqProofs[h0,hrc]
   rw[he,hd]
 ·simp at h
  have hie:i=l.length:=by omega
  subst hie
  rw[List.drop_length] at he
  simp-implicitDefEqProofs[]
  rw[he];rfl
end Go.Proofs.YtaopbokndkdieaaGreatDoor
namespace Go.Proofs.YtaopbokndkdieaaGreatDoor
open Go Go.Aw
set_option maxRecDepth 100000
set_option maxHeartbeats 4000000
variable (G:aI)
abbrev MS:=Int × Int
def pC(st:MS)(x:Sm × Nat):MS:=(IntKind.i64.wrap (st.1+1),if st.2<(x.2:Int) then(x.2:Int) else st.2)
def py(l:List Fd)(st:MS):MS:=l.foldl (fun st f=>(cg 1 f.body).foldl pC st) st
theorem uv:∀(l:List (Sm × Nat)) (st:MS),0≤st.1→st.1+l.length≤1099511627776→(l.foldl pC st).1=st.1+l.length
 |[],st,_,_=>by simp
 |x::r,st,h0,h=>by
  have hw:IntKind.i64.wrap (st.1+1)=st.1+1:=al (by omega) (by simp at h;omega)
  rw[List.foldl_cons,uv r _ (by simp only[pC,hw];omega) (by simp only[pC,hw];simp at h;omega)]
  simp only[pC,hw,List.length_cons]
  omega
theorem vO:∀(l:List Fd) (st:MS),0≤st.1→st.1+iB l≤1099511627776→(py l st).1=st.1+iB l
 |[],st,_,_=>by simp[py,iB]
 |f::r,st,h0,h=>by
  have ha:iB (f::r)=cC f.body+iB r:=by simp[iB]
  have hs:=uv (cg 1 f.body) st h0 (by rw[jj];omega)
  rw[jj] at hs
  have:=vO r ((cg 1 f.body).foldl pC st) (by omega) (by omega)
  simp only[py,List.foldl_cons] at this⊢
  omega
theorem BB{l:List Fd}{st:MS}{i:Nat}(h:i<l.length):py (l.take (i+1)) st=(cg 1 l[i].body).foldl pC (py (l.take i) st):=by
 rw[py,ah h,List.foldl_append];rfl
def mz(p:PV):Vis MS where
 I:=fun st=>[.row 1 [[.p p]],.row 1 [[.p (.int .i64 st.1)]],.row 1 [[.p (.int .i64 st.2)]]]
 n:=3
 F:=eK
 caps:=[.ptr 1 1 0 0,.ptr 2 1 0 0]
 len:=fun _=>rfl
 ok:=fun st=>by simp[okO,below]
 capsOk:=by simp[below]
theorem zn(p:PV)(st:MS)(s:Sm)(d:Nat):AC Tryz.prog G eK [.agg (s.cs.map .p),.p (.int .i64 d),.ptr 1 1 0 0,.ptr 2 1 0 0] ((mz p).I st) fun x h=>x= .ret (.tup [])∧h=(mz p).I (pC st (s,d)):=by
 refine(mz p).trim G (AC.go rS ?_) (by simp[below])
 have hse:=s.cs_eq
 simp-implicitDefEqProofs[kW,hse,mz,pC]
theorem DY(l:List Fd)(hl:bn l≤1073741824):VF Tryz.prog G ji [.agg [.p (fdL l)]] (.tup [.p (.int .i64 (iB l)),.p (.int .i64 (py l (0,0)).2)]):=by
 refine AC.go vS ?_
 have hll:=bL l
 have hfl:∀l,fdL l= .lst 3 (l.map Fd.cs):=fun _=>rfl
 have hn:(py l (0,0)).1=iB l:=by rw[vO l (0,0) (by simp) (by simp only;have:=xK l;omega)];simp
 simp-implicitDefEqProofs[nJ,hfl]
 refine aF (fun i:Nat=>aj 20 [(2,.ptr 1 1 0 0),(3,.ptr 2 1 0 0),(7,.p (fdL l)),(8,.p (.int .i64 l.length)),(9,.p (.int .i64 i))])
  (fun i=>(mz (fdL l)).I (py (l.take i) (0,0))) (fun i=>i≤l.length) (fun i=>l.length-i) 0 (by simp) ?_ ?_
 ·exact aa (h:=(mz (fdL l)).I (0,0)) (by simp) ((mz (fdL l)).ok _) (by simp[below,hfl,mz])
 intro i hil
 simp-implicitDefEqProofs[hfl]
 refine bh (fun hc=>?_) (fun hc=>?_)
 ·simp at hc
  have hg:=List.getElem?_eq_getElem hc
  have hks:=bS (List.getElem_mem hc)
  have hcs:l[i].cs=[.str l[i].name,aN l[i].params,smL l[i].body]:=rfl
  have hfz:l[i].sz=1+l[i].name.length+(l[i].params.length+(l[i].params.map List.length).sum)+aD l[i].body:=rfl
  have hI:=(JC G (mz (fdL l)) pC (fun _=>True) 1073741824 (by omega) (fun st s d _ _=>⟨trivial,zn G _ st s d⟩) (aD l[i].body+1) l[i].body (by omega) (by omega) 1 (by omega) (py (l.take i) (0,0)) trivial).2
  have hlen:=(mz (fdL l)).len
  have h3:(mz (.lst 3 (l.map Fd.cs))).n=3:=rfl
  have hlen':∀st,((mz (.lst 3 (l.map Fd.cs))).I st).length=3:=fun _=>rfl
  simp-implicitDefEqProofs[hg,hcs,hlen']
  refine((mz (fdL l)).pre G hI [_] ⟨by simp,by simp,by simp[below,mz],trivial⟩).mono ?_
  rintro r h ⟨rfl,rfl⟩
  simp-implicitDefEqProofs[ab]
  refine⟨i+1,hc,by omega,?_⟩
  rw[BB hc]
  refine(mz (fdL l)).same0 (s:=[_]) _ (by simp[mz]) ?_
  simp[below,hfl,mz,w1 (i:=i) (by omega)]
 ·simp at hc
  have hie:i=l.length:=by omega
  subst hie
  rw[List.take_length]
  simp-implicitDefEqProofs[mz,hn]
theorem se(hK:G dH=some dy)(s:List UInt8)(hb:s.length≤140737488355328):VF Tryz.prog G bv [.p (.str s)] (.p (.bool (!aH s))):=by
 refine AC.go mw ?_
 simp-implicitDefEqProofs[gD]
 refine(mM G hK s hb).use ?_
 simp-implicitDefEqProofs[]
def AN(L:List (List UInt8)):Int:=match L.findIdx? (fun w=> !aH w) with|some i=>i|none=> -1
theorem FP(L:List (List UInt8)):decide (0≤AN L)= !(L.all aH):=by
 unfold AN
 cases h:L.findIdx? (fun x=> !aH x) with
 |none=>
  rw[List.findIdx?_eq_none_iff] at h
  have:L.all aH=true:=List.all_eq_true.2 fun x hx=>by have:=h x hx;simpa using this
  simp[this]
 |some i=>
  rw[List.findIdx?_eq_some_iff_getElem] at h
  obtain⟨h1,h2,_⟩:=h
  have:L.all aH=false:=List.all_eq_false.2 ⟨_,List.getElem_mem h1,by simpa using h2⟩
  rw[this];simp
theorem HA{L:List (List UInt8)}{n:Nat}(h:(L.map List.length).sum≤n):∀x∈L,x.length≤n:=by
 induction L with
 |nil=>intro x hx;cases hx
 |cons y r ih=>
  intro x hx
  simp only[List.map_cons,List.sum_cons] at h
  rcases List.mem_cons.1 hx with rfl|hx
  ·omega
  ·exact ih (by omega) x hx
variable (hK:G dH=some dy)
include hK
theorem AH(L:List (List UInt8))(hb:L.length≤1073741824)(hw:∀x∈L,x.length≤140737488355328):VF Tryz.prog G dg [.p (aN L),.fn (.func bv) []] (.p (.int .i64 (AN L))):=by
 refine AC.go jT ?_
 have hsl:aN L= .lst 1 (L.map fun w=>[.str w]):=rfl
 simp-implicitDefEqProofs[eQ,hsl]
 refine aF (fun i:Nat=>aj 19 [(0,.p (aN L)),(1,.fn (.func bv) []),(6,.p (aN L)),(7,.p (.int .i64 L.length)),(8,.p (.int .i64 i))]) (fun _=>[]) (fun i=>i≤L.length∧∀w∈L.take i,aH w=true) (fun i=>L.length-i) 0 (by simp) ?_ ?_
 ·exact aa (by simp) (by simp[okO]) (by simp[below,af,aN])
 ·intro i ⟨hi,hn⟩
  simp-implicitDefEqProofs[hsl]
  refine bh (fun h1=>?_) (fun h1=>?_)
  ·simp at h1
   have hg:=List.getElem?_eq_getElem h1
   simp-implicitDefEqProofs[hg]
   refine(se G hK _ (hw _ (List.getElem_mem h1))).use ?_
   by_cases he:aH L[i]=true
   ·simp-implicitDefEqProofs[he]
    refine⟨i+1,⟨h1,fun p hp=>?_⟩,by omega,aa (by simp) (by simp[okO]) ?_⟩
    ·rw[ah h1] at hp
     rcases List.mem_append.1 hp with hp|hp
     ·exact hn p hp
     ·rw[List.mem_singleton.1 hp];exact he
    ·simp[below,af,aN,w1 (i:=i) (by omega)]
   ·have hf:AN L=i:=by
     have:L.findIdx? (fun w=> !aH w)=some i:=by
      rw[List.findIdx?_eq_some_iff_getElem]
      exact⟨h1,by simpa using he,fun j hj=>by have:=hn L[j] (List.mem_take_iff_getElem.2 ⟨j,by omega,rfl⟩);simpa using this⟩
     rw[AN,this]
    simp-implicitDefEqProofs[he,hf]
  ·simp at h1
   rw[List.take_of_length_le h1] at hn
   have hf:AN L= -1:=by
    have:L.findIdx? (fun w=> !aH w)=none:=by
     rw[List.findIdx?_eq_none_iff];intro x hx;simpa using hn x hx
    rw[AN,this]
   simp-implicitDefEqProofs[hf]
theorem wI(L:List (List UInt8))(hb:L.length≤1073741824)(hw:∀x∈L,x.length≤140737488355328):VF Tryz.prog G cA [.p (aN L),.fn (.func bv) []] (.p (.bool (!L.all aH))):=by
 rw[←FP]
 refine AC.go iK ?_
 simp-implicitDefEqProofs[dV]
 refine(AH G hK L hb hw).use ?_
 simp-implicitDefEqProofs[]
variable (hS:G bM=some [.tbl opK opV])
include hS
theorem uQ(l:List Fd)(hl:bn l≤1073741824):VF Tryz.prog G dD [.agg [.p (fdL l)]] (.p (.bool (bH l))):=by
 refine AC.go oP ?_
 have hll:=bL l
 have hfl:∀l,fdL l= .lst 3 (l.map Fd.cs):=fun _=>rfl
 have hm:=DY G l hl
 rw[hfl] at hm
 simp-implicitDefEqProofs[iO,hfl]
 refine(ni G _ _ _).use ?_
 by_cases h1:inR l.length 1 4=true
 case neg=>simp-implicitDefEqProofs[h1,bH]
 simp-implicitDefEqProofs[h1]
 refine aF (fun i:Nat=>aj 48 [(1,.ptr 0 1 0 0),(13,.p (fdL l)),(14,.p (.int .i64 l.length)),(15,.p (.int .i64 i))]) (fun _=>[.row 1 [[.p (.lst 3 (l.map Fd.cs))]]]) (fun i=>i≤l.length∧(l.take i).all gx=true) (fun i=>l.length-i) 0 (by simp) (aa (by simp) (by simp[okO]) (by simp[below,hfl])) ?_
 intro i ⟨hi,ha⟩
 simp-implicitDefEqProofs[hfl]
 refine bh (fun h=>?_) (fun h=>?_)
 ·simp at h
  have hg:=List.getElem?_eq_getElem h
  have hks:=bS (List.getElem_mem h)
  have hbadF:gx l[i]=false→bH l=false:=fun hk'=>by simp only[bH,kh h hk',Bool.and_false,Bool.false_and]
  have hcs:l[i].cs=[.str l[i].name,aN l[i].params,smL l[i].body]:=rfl
  have hfz:l[i].sz=1+l[i].name.length+(l[i].params.length+(l[i].params.map List.length).sum)+aD l[i].body:=rfl
  have hokF:gx l[i]=(l[i].params.all aH&&aH l[i].name&&decide (l[i].params.length≤3)&&l[i].body.all (aq 4)):=rfl
  have hblk:=sO G 4 1 (fun s hs=>by simpa using GU G hK hS 4 (by omega) s hs) l[i].body (by omega)
  have hcon:=wI G hK l[i].params (by omega) (HA (by omega))
  have hst:aN l[i].params= .lst 1 (l[i].params.map fun w=>[.str w]):=rfl
  generalize l[i]=f at*
  rw[hst] at hcon
  simp-implicitDefEqProofs[hg,hcs,hst]
  refine(mM G hK _ (by omega)).use ?_
  by_cases k1:aH f.name=true
  case neg=>
   rw[hbadF (by rw[hokF];simp[k1])]
   simp-implicitDefEqProofs[k1]
  by_cases k2:f.params.length≤3
  case neg=>
   have k2':(3:Int)<f.params.length:=by omega
   rw[hbadF (by rw[hokF];simp[k2])]
   simp-implicitDefEqProofs[k1,k2']
  have k2':¬(3:Int)<f.params.length:=by omega
  simp-implicitDefEqProofs[k1,k2']
  refine hcon.use ?_
  by_cases k3:f.params.all aH=true
  case neg=>
   have k3':f.params.all aH=false:=by simpa using k3
   rw[hbadF (by rw[hokF,k3'];simp)]
   simp-implicitDefEqProofs[k3']
  simp only[k3]
  simp-implicitDefEqProofs[]
  refine hblk.use ?_
  by_cases k4:f.body.all (aq 4)=true
  case neg=>
   have k4':f.body.all (aq 4)=false:=by simpa using k4
   rw[hbadF (by rw[hokF,k4'];simp)]
   simp only[k4']
   simp-implicitDefEqProofs[]
  simp only[k4]
  simp-implicitDefEqProofs[]
  have hk:gx f=true:=by rw[hokF,k1,k3,k4];simp[k2]
  refine⟨i+1,⟨h,by rw[←List.all_eq_true,mQ hg,ha,hk];rfl⟩,by omega,ka (m:=1) (by omega) (fk rfl rfl (by simp[okO,below])) (by simp[below,hfl,w1 (i:=i) (by omega)])⟩
 ·simp at h
  have h2:l.all gx=true:=fm h ha
  simp-implicitDefEqProofs[]
  refine hm.use ?_
  have hff:bH l=decide (iB l≤40):=by simp only[bH,h1,h2,Bool.true_and]
  simp-implicitDefEqProofs[hff]
  omega
end Go.Proofs.YtaopbokndkdieaaGreatDoor
namespace Go.Proofs.YtaopbokndkdieaaGreatDoor
open Go Go.Aw
set_option maxRecDepth 100000
set_option maxHeartbeats 4000000
variable (G:aI)
theorem GR(l:List Fd)(s:List UInt8)(hl:l.length≤1073741824):VF Tryz.prog G iq [.agg [.p (fdL l)],.p (.str s)] (.p (.int .i64 (ixI (dp l s)))):=by
 have hfl:∀l,fdL l= .lst 3 (l.map Fd.cs):=fun _=>rfl
 have kz:∀f:Fd,AC Tryz.prog G ft [.agg (f.cs.map .p),.ptr 1 1 0 0] [.row 1 [[.p (fdL l)]],.row 1 [[.p (.str s)]]] fun x h=>x= .ret (.p (.bool (decide (f.name=s))))∧h=[.row 1 [[.p (fdL l)]],.row 1 [[.p (.str s)]]]:=by
  intro f
  have hcs:f.cs=[.str f.name,aN f.params,smL f.body]:=rfl
  refine AC.trim (AC.go wM ?_) (by simp[below])
  simp-implicitDefEqProofs[pA,hcs]
 have idx:AC Tryz.prog G cY [.p (fdL l),.fn (.func ft) [.ptr 1 1 0 0]] [.row 1 [[.p (fdL l)]],.row 1 [[.p (.str s)]]] fun x h=>x= .ret (.p (.int .i64 (ixI (dp l s))))∧h=[.row 1 [[.p (fdL l)]],.row 1 [[.p (.str s)]]]:=by
  refine AC.go jE ?_
  simp-implicitDefEqProofs[eF,hfl]
  refine aF (fun i:Nat=>aj 19 [(0,.p (fdL l)),(1,.fn (.func ft) [.ptr 1 1 0 0]),(7,.p (.int .i64 l.length)),(8,.p (.int .i64 i))]) (fun _=>[.row 1 [[.p (fdL l)]],.row 1 [[.p (.str s)]]]) (fun i=>i≤l.length∧∀f∈l.take i,f.name≠s) (fun i=>l.length-i) 0 (by simp) ?_ ?_
  ·exact aa (by simp) (by simp[okO,below]) (by simp[below,af,hfl])
  ·intro i ⟨hi,hn⟩
   simp-implicitDefEqProofs[hfl]
   refine bh (fun h1=>?_) (fun h1=>?_)
   ·simp at h1
    have hg:=List.getElem?_eq_getElem h1
    simp-implicitDefEqProofs[hg]
    refine(kz l[i]).mono ?_
    rintro r h ⟨rfl,rfl⟩
    by_cases he:l[i].name=s
    ·have hf:dp l s=some i:=by
      rw[dp,List.findIdx?_eq_some_iff_getElem]
      exact⟨h1,by simpa using he,fun j hj=>by have:=hn l[j] (List.mem_take_iff_getElem.2 ⟨j,by omega,rfl⟩);simpa using this⟩
     simp-implicitDefEqProofs[ab,he,hf,ixI]
     exact hfl l
    ·simp-implicitDefEqProofs[ab,he]
     refine⟨i+1,⟨h1,fun p hp=>?_⟩,by omega,aa (h:=[.row 1 [[.p (fdL l)]],.row 1 [[.p (.str s)]]]) (by simp) (by simp[okO,below]) (by simp[below,af,hfl,w1 (i:=i) (by omega)])⟩
     rw[ah h1] at hp
     rcases List.mem_append.1 hp with hp|hp
     ·exact hn p hp
     ·rw[List.mem_singleton.1 hp];exact he
   ·simp at h1
    rw[List.take_of_length_le h1] at hn
    have hf:dp l s=none:=by
     rw[dp,List.findIdx?_eq_none_iff];intro x hx;simpa using hn x hx
    simp-implicitDefEqProofs[hf,ixI]
 refine AC.go zR ?_
 simp-implicitDefEqProofs[tf]
 refine idx.mono ?_
 rintro r h ⟨rfl,rfl⟩
 simp-implicitDefEqProofs[ab]
structure GS where (gap:List AO) (m:Scp)
def mpE(m:Scp):List (PV × AV):=m.map fun x=>(.str x.1,.p (.int .i64 x.2))
def scL:List GS→Nat
 |[]=>0
 |g::up=>scL up+g.gap.length+2
def upV:List GS→AV
 |[]=> .nilp
 |g::up=> .ptr (2+scL up+g.gap.length+1) 2 0 0
def scH:List GS→List AO
 |[]=>[]
 |g::up=>scH up++(g.gap++[.mp (mpE g.m),.row 2 [[.mp (2+scL up+g.gap.length),upV up]]])
theorem kg:∀ch:List GS,(scH ch).length=scL ch
 |[]=>rfl
 |g::up=>by simp only[scH,scL,List.length_append,kg up,List.length_cons,List.length_nil];omega
def cO(fns:List Fd)(k:Nat)(c:Int):AO:= .row 3 [[.p (fdL fns),.p (.int .i64 k),.p (.int .i64 c)]]
def CH(b0:AO)(fns:List Fd)(k:Nat)(c:Int)(ch:List GS):List AO:=b0::cO fns k c::scH ch
theorem gV(b0:AO)(fns:List Fd)(k:Nat)(c:Int)(ch:List GS):(CH b0 fns k c ch).length=2+scL ch:=by
 simp only[CH,List.length_cons,kg];omega
def tT:List GS→Prop
 |[]=>True
 |g::up=>(∀o∈g.gap,okO (2+scL up+g.gap.length) o)∧tT up
theorem jg:∀(ch:List GS) {n:Nat},2+scL ch≤n→below n (upV ch)
 |[],_,_=>by simp[upV,below]
 |g::up,n,h=>by simp only[scL] at h;simp only[upV,below];omega
theorem AE:∀(ch:List GS) {n:Nat},tT ch→2+scL ch≤n→∀o∈scH ch,okO n o
 |[],_,_,_,o,ho=>by cases ho
 |g::up,n,⟨h1,h2⟩,hn,o,ho=>by
  simp only[scL] at hn
  rw[scH] at ho
  rcases List.mem_append.1 ho with h|h
  ·exact AE up h2 (by omega) o h
  ·rcases List.mem_append.1 h with h|h
   ·exact qr (by omega) (h1 o h)
   ·simp only[List.mem_cons,List.not_mem_nil,or_false] at h
    rcases h with rfl|rfl
    ·intro e he
     obtain⟨x,_,rfl⟩:=List.mem_map.1 he
     simp[below]
    ·intro e he
     rw[List.mem_singleton.1 he]
     exact⟨by simp only[below];omega,jg up (by omega),trivial⟩
theorem Au{b0:AO}{fns:List Fd}{k:Nat}{c:Int}{ch:List GS}(hb:okO 0 b0)(hs:tT ch){n:Nat}(hn:2+scL ch≤n):∀o∈CH b0 fns k c ch,okO n o:=
 ag (bK hb) (ag (by intro e he;rw[List.mem_singleton.1 he];simp[below]) (AE ch hs hn))
theorem qM(s:List UInt8):∀m:Scp,fX (.str s) (mpE m)=some ((gQ m s).map fun n=>AV.p (.int .i64 n))
 |[]=>rfl
 |x::r=>by
  have ih:=qM s r
  by_cases h:x.1=s
  ·simp[mpE,fX,keq,h,gQ]
  ·have h':¬s=x.1:=fun e=>h e.symm
   simp only[mpE,List.map_cons,fX,keq,h',decide_false]
   simp only[mpE] at ih
   rw[ih];simp[gQ,h]
theorem vF(s:List UInt8)(n:Nat):∀m:Scp,jt (.str s) (.p (.int .i64 n)) (mpE m)=some (mpE (iY m s n))
 |[]=>rfl
 |x::r=>by
  have ih:=vF s n r
  by_cases h:x.1=s
  ·simp[mpE,jt,keq,h,iY]
  ·have h':¬s=x.1:=fun e=>h e.symm
   simp only[mpE,List.map_cons,jt,keq,h',decide_false]
   simp only[mpE] at ih
   rw[ih];simp[iY,h]
abbrev sco(ch:List GS):List Scp:=ch.map GS.m
theorem Ga:∀(pre:List GS) (g:GS) (up:List GS),(scH (pre++g::up))[scL up+g.gap.length]?=some (.mp (mpE g.m))∧(scH (pre++g::up))[scL up+g.gap.length+1]?=some (.row 2 [[.mp (2+scL up+g.gap.length),upV up]])
 |[],g,up=>by
  have hl:(scH up++g.gap).length=scL up+g.gap.length:=by rw[List.length_append,kg]
  have e:scH (g::up)=(scH up++g.gap)++[.mp (mpE g.m),.row 2 [[.mp (2+scL up+g.gap.length),upV up]]]:=by rw[scH,List.append_assoc]
  rw[List.nil_append,e]
  exact⟨by rw[←hl,List.getElem?_append_right (Nat.le_refl _)];simp,by rw[←hl,List.getElem?_append_right (by omega)];simp⟩
 |p::pre,g,up=>by
  obtain⟨h1,h2⟩:=Ga pre g up
  have hm1:=(List.getElem?_eq_some_iff.1 h1).1
  have hm2:=(List.getElem?_eq_some_iff.1 h2).1
  rw[List.cons_append,scH]
  exact⟨by rw[List.getElem?_append_left hm1];exact h1,by rw[List.getElem?_append_left hm2];exact h2⟩
theorem BA(ch:List GS):(upV ch).isCell=true:=by cases ch<;>rfl
theorem Ek(ch:List GS):(upV ch).cells=[upV ch]:=by cases ch<;>rfl
attribute [simp ↓] BA Ek
theorem yF(b0:AO)(fns:List Fd)(k:Nat)(c e:Int)(r:List AO):AC Tryz.prog G aw [.ptr 1 3 0 0,.p (.int .i64 e)] (b0::cO fns k c::r) fun x h=>x= .ret (.tup [])∧h=b0::cO fns k (fl c e)::r:=by
 refine AC.go oX ?_
 by_cases h0:c=0
 ·simp-implicitDefEqProofs[eS,cO,h0,fl]
 ·simp-implicitDefEqProofs[eS,cO,h0,fl]
theorem uz(up:AV)(hu:up= .nilp∨∃i,up= .ptr i 2 0 0)(h:List AO):AC Tryz.prog G bu [up] h fun x h'=>x= .ret (.ptr (h.length+1) 2 0 0)∧h'=h++[.mp [],.row 2 [[.mp h.length,up]]]:=by
 refine AC.go ro ?_
 rcases hu with rfl|⟨i,rfl⟩
 ·simp-implicitDefEqProofs[gd]
 ·simp-implicitDefEqProofs[gd]
theorem FY(b0 c0:AO)(ch:List GS)(rest:List AO)(s:List UInt8):AC Tryz.prog G bG [upV ch,.p (.str s)] (b0::c0::(scH ch++rest)) fun x h=>x= .ret (.tup [.p (.int .i64 (((fT (sco ch) s).getD 0:Nat):Int)),.p (.bool (fT (sco ch) s).isSome)])∧h=b0::c0::(scH ch++rest):=by
 refine AC.goB qW fun hb=>?_
 simp-implicitDefEqProofs[jV]
 have hHl:(b0::c0::(scH ch++rest)).length=2+scL ch+rest.length:=by simp only[List.length_cons,List.length_append,kg];omega
 refine aF (fun r:List GS=>aj 25 [(0,upV r),(1,.p (.str s))]) (fun _=>b0::c0::(scH ch++rest)) (fun r=>∃pre,ch=pre++r∧fT (sco ch) s=fT (sco r) s) (fun r=>r.length) ch ⟨[],rfl,rfl⟩ ?_ ?_
 ·refine uU (by simp) hb ?_
  rw[hHl]
  exact⟨⟨jg ch (by omega),by simp⟩,⟨by simp,by simp⟩,trivial⟩
 rintro r ⟨pre,e1,e2⟩
 cases r with
 |nil=>
  rw[e2]
  simp-implicitDefEqProofs[upV,fT]
 |cons g up=>
  obtain⟨a1,a2⟩:=Ga pre g up
  rw[←e1] at a1 a2
  have b1:=(List.getElem?_eq_some_iff.1 a1).1
  have b2:=(List.getElem?_eq_some_iff.1 a2).1
  have l1:(b0::c0::(scH ch++rest))[2+scL up+g.gap.length]?=some (.mp (mpE g.m)):=by
   rw[show 2+scL up+g.gap.length=(scL up+g.gap.length)+1+1 by omega,List.getElem?_cons_succ,List.getElem?_cons_succ,List.getElem?_append_left b1,a1]
  have l2:(b0::c0::(scH ch++rest))[2+scL up+g.gap.length+1]?=some (.row 2 [[.mp (2+scL up+g.gap.length),upV up]]):=by
   rw[show 2+scL up+g.gap.length+1=(scL up+g.gap.length+1)+1+1 by omega,List.getElem?_cons_succ,List.getElem?_cons_succ,List.getElem?_append_left b2,a2]
  have hmg:=qM s g.m
  have hle:=kg ch
  rw[e2]
  generalize hH:b0::c0::(scH ch++rest)=H at*
  have hup:upV (g::up)= .ptr (2+scL up+g.gap.length+1) 2 0 0:=rfl
  cases hh:gQ g.m s with
  |some n=>
   rw[hh] at hmg
   simp-implicitDefEqProofs[hup,l1,l2,hmg,fT,hh]
  |none=>
   rw[hh] at hmg
   simp-implicitDefEqProofs[hup,l1,l2,hmg,fT,hh]
   refine⟨up,⟨⟨pre++[g],by rw[e1];simp⟩,rfl⟩,by simp,?_⟩
   refine uU ?_ hb ?_
   ·rw[hHl,kg];omega
   ·refine⟨⟨jg up ?_,?_⟩,⟨by simp,by simp⟩,trivial⟩
    ·rw[hHl]
     have:=congrArg List.length e1
     have h3:=(List.getElem?_eq_some_iff.1 l2).1
     rw[hHl] at h3
     omega
    ·simp
end Go.Proofs.YtaopbokndkdieaaGreatDoor
namespace Go.Proofs.YtaopbokndkdieaaGreatDoor
open Go Go.Aw
set_option maxRecDepth 100000
set_option maxHeartbeats 4000000
variable (G:aI)
theorem JG{f:FuncId}{args:List AV}{h h1:List AO}{v:AV}(H:AC Tryz.prog G f args h fun x h'=>x= .ret v∧∃l,h'=h1++l)(hl:h1.length=h.length)(ho:∀o∈h1,okO h.length o)(hv:below h.length v):
 AC Tryz.prog G f args h fun x h'=>x= .ret v∧h'=h1:=by
 refine H.wk (fun t v h ⟨e,_⟩=>by cases e) ?_
 rintro u h' ⟨e,l,rfl⟩
 cases e
 refine⟨v,h1,vL (n:=h.length) (Nat.le_refl _) (fk ?_ hl ho) ?_,rfl,rfl⟩
 ·rw[←hl,List.take_left'];rfl
 ·simp[Fgt,hv]
theorem KM{f:FuncId}{args:List AV}{b0:AO}{fns:List Fd}{k:Nat}{c c':Int}{ch ch':List GS}{v:AV}(H:AC Tryz.prog G f args (CH b0 fns k c ch) fun x h=>x= .ret v∧h=CH b0 fns k c' ch')(hb:okO 0 b0)(hs:tT ch)(hl:scL ch'=scL ch)(rest:List AO)(ha:af (2+scL ch) args):
 AC Tryz.prog G f args (CH b0 fns k c ch++rest) fun x h=>x= .ret v∧h=CH b0 fns k c' ch'++rest:=by
 refine(AC.pre H rest (by rw[gV];exact ha) (by rw[gV];exact Au hb hs (Nat.le_refl _)) ?_).mono ?_
 ·rintro x h ⟨_,rfl⟩;rw[gV,gV,hl]
 ·rintro x h ⟨h1,⟨rfl,rfl⟩,rfl⟩
  exact⟨rfl,rfl⟩
def bxs(ch:List GS)(q:List AV):List AO:=[.row 1 [[.ptr 1 3 0 0]],.row 4 [q],.row 1 [[upV ch]]]
def oH(b0:AO)(fns:List Fd)(k:Nat)(ch:List GS)(q:List PV)(hb:okO 0 b0)(hs:tT ch):Vis Int where
 I:=fun c=>CH b0 fns k c ch++bxs ch (q.map .p)
 n:=2+scL ch+3
 F:=bT
 caps:=[.ptr (2+scL ch+2) 1 0 0,.ptr (2+scL ch) 1 0 0]
 len:=fun c=>by rw[List.length_append,gV];rfl
 ok:=fun c o ho=>by
  rcases List.mem_append.1 ho with h|h
  ·exact Au hb hs (by omega) o h
  ·simp only[bxs,List.mem_cons,List.not_mem_nil,or_false] at h
   rcases h with rfl|rfl|rfl
   ·intro e he;rw[List.mem_singleton.1 he];exact⟨by simp only[below];omega,trivial⟩
   ·intro e he;rw[List.mem_singleton.1 he];exact aT (Nat.zero_le _) _ (by simp)
   ·intro e he;rw[List.mem_singleton.1 he];exact⟨jg ch (by omega),trivial⟩
 capsOk:=by simp[below]
def eH(b0:AO)(fns:List Fd)(k:Nat)(ch:List GS)(q:List PV)(e:Ex)(c:Int):List AO:=b0::cO fns k c::(scH ch++(bxs ch (q.map .p)++[.row 4 [[.p (.int .i64 e.op),.p (.int .i64 e.n),.p (.str e.name),.p (exL e.kids)]]]))
section
variable {b0:AO} {fns:List Fd} {k:Nat} {ch:List GS} {q:List PV} {e:Ex} {c:Int}
theorem eH_eq{hb:okO 0 b0}{hs:tT ch}:(oH b0 fns k ch q hb hs).I c++[.row 4 [[.p (.int .i64 e.op),.p (.int .i64 e.n),.p (.str e.name),.p (exL e.kids)]]]=eH b0 fns k ch q e c:=by
 simp[oH,eH,CH]
theorem Ja:(eH b0 fns k ch q e c)[1]?=some (.row 3 [[.p (fdL fns),.p (.int .i64 k),.p (.int .i64 c)]]):=rfl
theorem Gm(i:Nat):(eH b0 fns k ch q e c)[2+scL ch+i]?=(bxs ch (q.map .p)++[.row 4 [[.p (.int .i64 e.op),.p (.int .i64 e.n),.p (.str e.name),.p (exL e.kids)]]])[i]?:=by
 rw[eH,show 2+scL ch+i=(scL ch+i)+1+1 by omega,List.getElem?_cons_succ,List.getElem?_cons_succ]
 exact In (kg ch) i
theorem Ds:(eH b0 fns k ch q e c)[2+scL ch]?=some (.row 1 [[.ptr 1 3 0 0]]):=Gm 0
theorem Mm:(eH b0 fns k ch q e c)[2+scL ch+2]?=some (.row 1 [[upV ch]]):=Gm 2
theorem FR:(eH b0 fns k ch q e c)[2+scL ch+3]?=some (.row 4 [[.p (.int .i64 e.op),.p (.int .i64 e.n),.p (.str e.name),.p (exL e.kids)]]):=Gm 3
end
theorem Hw{fns:List Fd}{s:List UInt8}{j:Nat}(h:dp fns s=some j):j<fns.length:=by
 rw[dp,List.findIdx?_eq_some_iff_getElem] at h;exact h.1
theorem GP(b0:AO){fns:List Fd}{k:Nat}(hf:fns.length≤1073741824)(hk:k≤fns.length)(ch:List GS)(q:List PV)(hb:okO 0 b0)(hs:tT ch)(c:Int)(e:Ex)(he:e.sz≤1073741824):
 AC Tryz.prog G bT (.agg (e.cs.map .p)::(oH b0 fns k ch q hb hs).caps) ((oH b0 fns k ch q hb hs).I c) fun x h=>x= .ret (.tup [])∧h=(oH b0 fns k ch q hb hs).I (fJ fns k (sco ch) c e):=by
 refine(oH b0 fns k ch q hb hs).trim G (AC.go mv ?_) (by simp[below])
 have hec:=e.cs_eq
 have hlen:((oH b0 fns k ch q hb hs).I c).length=2+scL ch+3:=(oH b0 fns k ch q hb hs).len c
 have hcaps:(oH b0 fns k ch q hb hs).caps=[.ptr (2+scL ch+2) 1 0 0,.ptr (2+scL ch) 1 0 0]:=rfl
 have fin:∀c',(∃l,eH b0 fns k ch q e c'=(oH b0 fns k ch q hb hs).I c'++l):=fun c'=>⟨_,eH_eq.symm⟩
 have hfail:∀n,AC Tryz.prog G aw [.ptr 1 3 0 0,.p (.int .i64 n)] (eH b0 fns k ch q e c) fun x h=>x= .ret (.tup [])∧h=eH b0 fns k ch q e (fl c n):=fun n=>yF G b0 fns k c n _
 have hkl:=aM e.kids
 have hsz:=e.sz_eq
 rw[hcaps]
 simp-implicitDefEqProofs[gC,hec,hlen]
 rw[eH_eq]
 generalize hV:(oH b0 fns k ch q hb hs).I=VI at fin⊢
 by_cases o2:e.op=2
 ·have hfind:AC Tryz.prog G bG [upV ch,.p (.str e.name)] (eH b0 fns k ch q e c) fun x h=>x= .ret (.tup [.p (.int .i64 (((fT (sco ch) e.name).getD 0:Nat):Int)),.p (.bool (fT (sco ch) e.name).isSome)])∧h=eH b0 fns k ch q e c:=FY G b0 (cO fns k c) ch _ e.name
  simp-implicitDefEqProofs[o2,Ds,Mm,FR,Ja]
  refine hfind.mono ?_
  rintro r h ⟨rfl,rfl⟩
  cases hfs:fT (sco ch) e.name with
  |some n=>
   have hv:fJ fns k (sco ch) c e=c:=by simp[fJ,o2,hfs]
   rw[hv]
   simp-implicitDefEqProofs[ab]
   exact fin c
  |none=>
   have hv:fJ fns k (sco ch) c e=fl c 3:=by simp[fJ,o2,hfs]
   rw[hv]
   simp-implicitDefEqProofs[ab,Ds]
   refine(hfail 3).mono ?_
   rintro r h ⟨rfl,rfl⟩
   simp-implicitDefEqProofs[ab]
   exact fin _
 by_cases o13:e.op=13
 ·have hfl:fdL fns= .lst 3 (fns.map Fd.cs):=rfl
  have hfk:fdL (fns.take k)= .lst 3 ((fns.map Fd.cs).take k):=by rw[←List.map_take];rfl
  have hxl:exL e.kids= .lst 4 (e.kids.map Ex.cs):=rfl
  have hAt:=GR G (fns.take k) e.name (by rw[List.length_take];omega)
  rw[hfk] at hAt
  simp-implicitDefEqProofs[o13,Ds,Mm,FR,Ja,hfl,hk]
  refine hAt.use ?_
  cases hfa:dp (fns.take k) e.name with
  |none=>
   have hv:fJ fns k (sco ch) c e=fl c 4:=by simp[fJ,o13,hfa]
   rw[hv]
   simp-implicitDefEqProofs[ixI,Ds]
   refine(hfail 4).mono ?_
   rintro r h ⟨rfl,rfl⟩
   simp-implicitDefEqProofs[ab]
   exact fin _
  |some j=>
   have hj:=Hw hfa
   rw[List.length_take] at hj
   have hjl:j<fns.length:=by omega
   have hg:=List.getElem?_eq_getElem hjl
   have hjn:¬(j:Int)<0:=by omega
   have hcs:fns[j].cs=[.str fns[j].name,aN fns[j].params,smL fns[j].body]:=rfl
   have hst:aN fns[j].params= .lst 1 (fns[j].params.map fun w=>[.str w]):=rfl
   have hpn:wm fns j=fns[j].params.length:=by simp[wm,hg]
   by_cases hp:fns[j].params.length=e.kids.length
   ·have hv:fJ fns k (sco ch) c e=c:=by simp[fJ,o13,hfa,hpn,hp]
    rw[hv]
    simp-implicitDefEqProofs[ixI,Ds,Ja,FR,hjn,hfl,hg,hcs,hst,hxl,hp]
    exact fin _
   ·have hv:fJ fns k (sco ch) c e=fl c 5:=by simp[fJ,o13,hfa,hpn,hp]
    have hp':¬(fns[j].params.length:Int)=(e.kids.length:Int):=by omega
    rw[hv]
    simp-implicitDefEqProofs[ixI,Ds,Ja,FR,hjn,hfl,hg,hcs,hst,hxl,hp']
    refine(hfail 5).mono ?_
    rintro r h ⟨rfl,rfl⟩
    simp-implicitDefEqProofs[ab]
    exact fin _
 ·have hv:fJ fns k (sco ch) c e=c:=by simp[fJ,o2,o13]
  rw[hv]
  simp-implicitDefEqProofs[o2,o13,FR]
  exact fin _
theorem HK(ch:List GS):upV ch= .nilp∨∃i,upV ch= .ptr i 2 0 0:=by
 cases ch with
 |nil=>exact .inl rfl
 |cons g up=>exact .inr ⟨_,rfl⟩
theorem KK(b0:AO){fns:List Fd}{k:Nat}(hf:fns.length≤1073741824)(hk:k≤fns.length)(ch:List GS)(hb:okO 0 b0)(hs:tT ch)(c:Int)(e:Ex)(he:e.sz≤1073741824):
 AC Tryz.prog G cG [.ptr 1 3 0 0,.agg (e.cs.map .p),upV ch] (CH b0 fns k c ch) fun x h=>x= .ret (.tup [])∧h=CH b0 fns k (e.pre.foldl (fJ fns k (sco ch)) c) ch:=by
 refine JG G (h:=CH b0 fns k c ch) (AC.go oD ?_) (by rw[gV,gV]) (by rw[gV];exact Au hb hs (Nat.le_refl _)) (by simp[below])
 have hec:=e.cs_eq
 have hlen:(CH b0 fns k c ch).length=2+scL ch:=gV _ _ _ _ _
 have hI:=(JF G (oH b0 fns k ch e.cs hb hs) (fJ fns k (sco ch)) (fun _=>True) 1073741824 (by omega) (fun st x _ hx=>⟨trivial,GP G b0 hf hk ch e.cs hb hs st x hx⟩) (e.sz+1) e (by omega) he c trivial).2
 have hcaps:(oH b0 fns k ch e.cs hb hs).caps=[.ptr (2+scL ch+2) 1 0 0,.ptr (2+scL ch) 1 0 0]:=rfl
 have hF:(oH b0 fns k ch e.cs hb hs).F=bT:=rfl
 have hVI:(oH b0 fns k ch e.cs hb hs).I c=CH b0 fns k c ch++[.row 1 [[.ptr 1 3 0 0]],.row 4 [[.p (.int .i64 e.op),.p (.int .i64 e.n),.p (.str e.name),.p (exL e.kids)]],.row 1 [[upV ch]]]:=by simp[oH,bxs,hec]
 rw[hcaps,hF,hVI,hec] at hI
 have hup:=HK ch
 generalize upV ch=u at hI hup⊢
 rcases hup with rfl|⟨i,rfl⟩
 ·simp-implicitDefEqProofs[fb,hec,hlen]
  refine hI.mono ?_
  rintro r h ⟨rfl,rfl⟩
  simp-implicitDefEqProofs[ab]
  exact⟨_,rfl⟩
 ·simp-implicitDefEqProofs[fb,hec,hlen]
  refine hI.mono ?_
  rintro r h ⟨rfl,rfl⟩
  simp-implicitDefEqProofs[ab]
  exact⟨_,rfl⟩
end Go.Proofs.YtaopbokndkdieaaGreatDoor
