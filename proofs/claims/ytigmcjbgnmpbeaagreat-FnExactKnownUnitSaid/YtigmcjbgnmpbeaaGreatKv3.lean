/-
  Contracts and lemmas that the card needs, part 3.
-/
import Derived.Test.YtigmcjbgnmpbeaaGreatKv2
import Derived.Maps.RangeRun
import Derived.LoopN
import Derived.ChangeSame
import Derived.ReadAgain
import Derived.OpenShut
import Derived.Deep.DeepHandedRow
namespace Go.Aw
open Go
theorem sR{h:List AO}{id i:Nat}{o:AO}(e:(h.set id .dead)[i]?=some o)(l:o.live):i≠id/\h[i]?=some o:=by
 rw[Xu] at e;split at e
 ·split at e
  ·cases e;exact l.elim
  ·cases e
 ·rename_i hne;exact⟨λh=>hne h.symm,e⟩
theorem cd{h:List AO}{id i:Nat}(l:Live (h.set id .dead) i):i≠id/\Live h i:=by
 obtain⟨o,e,l⟩:=l;obtain⟨h1,h2⟩:=sR e l;exact⟨h1,o,h2,l⟩
section
variable {G:aw} {W:World} {S:Nat->Prop} {φ:Aw.Place} {h:List AO}
theorem HRel.forget(H:HRel G W S φ h)(id:Nat):HRel G W S φ (h.set id .dead) where
 obj:=λi sz es e=>by
  rw[Wy];exact H.obj i sz es (sR e trivial).2
 oobj:=λi o e l=>by
  rw[Wy];exact H.oobj i o (sR e l).2 l
 inj:=λi j li lj e=>H.inj i j (cd li).2 (cd lj).2 e
 sep:=λb hb=>⟨(H.sep b hb).1,λi li=>(H.sep b hb).2 i (cd li).2⟩
 bnd:=λi hi=>H.bnd i (by simpa using hi)
 glob:=H.glob
theorem Keep.forget{id:Nat}{W':World}{S':Nat->Prop}{φ':Aw.Place}{h':List AO}(K:Keep W S φ (h.set id .dead) W' S' φ' h'):Keep W S φ h W' S' φ' h' where
 pure:=K.pure
 len:=by have:=K.len;rwa[Wy] at this
 same:=λi hi=>K.same i (by rw[Wy];exact hi)
 blk:=λi hi=>K.blk i (by rw[Wy];exact hi)
 os:=K.os
 tape:=K.tape
 output:=K.output
 size:=K.size
 out:=λb hb hn=>K.out b hb λi li=>hn i (cd li).2
 img:=λi li=>by
  rcases K.img i li with h1|⟨j,h1,h2⟩
  ·exact .inl h1
  ·exact .inr ⟨j,(cd h1).2,h2⟩
 newS:=λb hb=>by
  rcases K.newS b hb with h1|h1|⟨j,h1,h2⟩
  ·exact .inl h1
  ·exact .inr (.inl h1)
  ·exact .inr (.inr ⟨j,(cd h1).2,h2⟩)
structure Aside (r:Nat) (w w':World):Prop where
 other:∀b,b≠r->w'.heap[b]?=w.heap[b]?
 size:w'.heap.size=w.heap.size
 cells:∀c t fr,w'.heap[r]?≠some (.cells c t fr)
 os:w'.os=w.os
 tape:w'.tape=w.tape
 output:w'.output=w.output
theorem Aside.kept{r n:Nat}{w w':World}(A:Aside r w w')(hS:¬S r):Kept w S φ n w' S φ n where
 pure:=λb hb=>⟨hb,A.other b λe=>hS (e▸hb)⟩
 len:=Wo _
 same:=λ_ _=>rfl
 blk:=λi _ c t fr e=>by
  by_cases he:(φ i).1=r
  ·rw[he] at e;exact(A.cells c t fr e).elim
  ·rw[A.other _ he] at e;exact⟨c,t,fr,e,rfl⟩
theorem HRel.aside{r:Nat}{w w':World}(H:HRel G w S φ h)(A:Aside r w w')(hn:∀i,Live h i->(φ i).1≠r)(hS:¬S r):HRel G w' S φ h where
 obj:=λi sz es e=>by
  obtain⟨c,t,fr,a1,a2,a3,a4,a5⟩:=H.obj i sz es e;refine⟨c,t,fr,by rw[A.other _ (hn i (bc e))];exact a1,a2,a3,a4,λj u hj=>?_⟩;obtain⟨b1,v,b2,b3⟩:=a5 j u hj;exact⟨b1,v,b2,b3.kept (A.kept hS)⟩
 oobj:=λi o e l=>by
  rw[A.other _ (hn i ⟨o,e,l⟩)];exact(H.oobj i o e l).mono λa v q=>q.kept (A.kept hS)
 inj:=H.inj
 sep:=λb hb=>⟨by rw[A.size];exact(H.sep b hb).1,(H.sep b hb).2⟩
 bnd:=λi hi=>by rw[A.size];exact H.bnd i hi
 glob:=λg cs hg=>by
  obtain⟨g1,g2⟩:=H.glob g cs hg;refine⟨g1,λj c hj=>?_⟩;obtain⟨v,v1,v2⟩:=g2 j c hj;have hne:g≠r:=λe=>hS (e▸g1);exact⟨v,by rw[aJ (A.other g hne)];exact v1,v2.mono λb hb=>⟨hb,A.other b λe=>hS (e▸hb)⟩⟩
theorem St.aside{W0:World}{S0:Nat->Prop}{φ0:Aw.Place}{h0:List AO}{a:Act}{ts:List AV}{r:Nat}{w w':World}(s:St G W0 S0 φ0 h0 w S φ a ts h)(A:Aside r w w')(hn:∀i,Live h i->(φ i).1≠r)(hS:¬S r)(hr:W0.heap.size<=r):St G W0 S0 φ0 h0 w' S φ a ts h where
 hrel:=s.hrel.aside A hn hS
 trel:=s.trel.kept (A.kept hS)
 defers:=s.defers
 keep:=by
  have k:=s.keep;have q:Kept w S φ h.length w' S φ h.length:=A.kept hS
  exact{pure:=λb hb=>⟨(k.pure b hb).1,(q.pure b (k.pure b hb).1).2.trans (k.pure b hb).2⟩
        len:=k.len
        same:=k.same
        blk:=λi hi c t fr e=>by
         have h1:=q.blk i (WN hi k.len) c t fr (by rw[k.same i hi];exact e);rw[k.same i hi] at h1;obtain⟨c1,t1,fr1,e1,s1⟩:=h1;obtain⟨c2,t2,fr2,e2,s2⟩:=k.blk i hi c1 t1 fr1 e1;exact⟨c2,t2,fr2,e2,s2.trans s1⟩
        os:=A.os.trans k.os
        tape:=A.tape.trans k.tape
        output:=A.output.trans k.output
        size:=by rw[A.size];exact k.size
        out:=λb hb hn2=>(A.other b (by omega)).trans (k.out b hb hn2)
        img:=k.img
        newS:=k.newS}
end
structure Free (W:World) (S:Nat->Prop) (φ:Aw.Place) (h:List AO) (b:Nat):Prop where
 lt:b<W.heap.size
 live:∀i,Live h i->(φ i).1≠b
 notS:¬S b
theorem Free.keep{W W':World}{S S':Nat->Prop}{φ φ':Aw.Place}{h h':List AO}{b:Nat}(F:Free W S φ h b)(K:Keep W S φ h W' S' φ' h'):Free W' S' φ' h' b/\W'.heap[b]?=W.heap[b]?:=
 ⟨⟨WN F.lt K.size,λi li e=>by
   rcases K.img i li with h1|⟨j,h1,h2⟩
   ·have:=F.lt;omega
   ·exact F.live j h1 (h2.trans e),λhb=>by
   rcases K.newS b hb with h1|h1|⟨j,h1,h2⟩
   ·exact F.notS h1
   ·have:=F.lt;omega
   ·exact F.live j h1 h2⟩,K.out b F.lt F.live⟩
theorem By{e:MapEntry}{p:MapEntry->Bool}:∀{l:List MapEntry},l.Pairwise (λx y=>x.born≠y.born)->e∈l->p e=true->(l.filter p).Perm (e::l.filter λx=>p x&&x.born !=e.born)
 |x::r,hp,he,hpe=>by
  obtain⟨h1,h2⟩:=Zz.1 hp;rcases WE.1 he with rfl|he
  ·have e1:(r.filter λx=>p x&&x.born !=e.born)=r.filter p:=YG λy hy=>by
    have:y.born≠e.born:=λq=>h1 y hy q.symm;simp[this]
   rw[Zk,Wz hpe,Zk,WB (by simp),e1]
  ·have hne:x.born≠e.born:=h1 e he;have ih:=By h2 he hpe;rw[Zk,Zk]
   by_cases hx:p x=true
   ·rw[Wz hx,Wz (by simp[hx,hne])];exact(ih.cons x).trans (List.Perm.swap e x _)
   ·rw[WB hx,WB (by simp[hx])];exact ih
theorem DR{ents:Array MapEntry}{seen:Array Nat}{e:MapEntry}(hp:ents.toList.Pairwise (λx y=>x.born≠y.born))(he:e∈(leftOf ents seen).toList):(leftOf ents seen).toList.Perm (e::(leftOf ents (seen.push e.born)).toList):=by
 simp only[leftOf,Array.toList_filter] at he⊢;obtain⟨h1,h2⟩:=WM.1 he;refine(By hp h1 h2).trans (List.Perm.of_eq ?_);congr 1;refine YG λx _=>?_
 by_cases hx:x.born=e.born
 ·simp[hx]
 ·simp[hx]
theorem Iy{ents:Array MapEntry}(h:∀(i j:Nat) (e e':MapEntry),ents[i]?=some e->ents[j]?=some e'->e.born=e'.born->i=j):ents.toList.Pairwise (λx y=>x.born≠y.born):=by
 rw[Yd];intro i j hi hj hij e;have:=h i j ents.toList[i] ents.toList[j] (by rw[←XZ];exact Wc hi) (by rw[←XZ];exact Wc hj) e;omega
theorem Lq{w w1:World}(hw:w1=w\/w1=w.drew){r:Nat}{o:Obj}(ho:∀c t fr,o≠ .cells c t fr):Aside r w (Go.ChangeMaps.setBlock w1 r o):=by
 have hh:w1.heap=w.heap:=by rcases hw with rfl|rfl<;>rfl
 refine⟨λb hb=>?_,?_,λc t fr e=>?_,?_,?_,?_⟩
 ·simp only[Go.ChangeMaps.setBlock,hh];exact XB λe=>hb e.symm
 ·simp[Go.ChangeMaps.setBlock,hh]
 ·simp only[Go.ChangeMaps.setBlock,hh] at e;rw[Array.getElem?_setIfInBounds] at e;rw[Wz rfl] at e;split at e
  ·cases e;exact ho _ _ _ rfl
  ·cases e
 ·rcases hw with rfl|rfl<;>rfl
 ·rcases hw with rfl|rfl<;>rfl
 ·rcases hw with rfl|rfl<;>rfl
theorem gi{P:Program}{ops:Array Oper}{Q:Exit->Act->World->Prop}{o:Oper}{rest:List Oper}{a:Act}{w w':World}{v:Value}(hg:o.guard=none)(hr:(execOp a.eval o).run P w= .ok (.value v) w')(h:wpList P ops Q rest (a.put o.dst v) w'):wpList P ops Q (o::rest) a w:=by
 simp only[wpList];rw[Wz (by simp[Region.wanted,hg])];refine .inl ?_;unfold Oper.wp;rw[hr];exact h
theorem ky{a:Act}{d:Nat}{v:Value}(h:d<a.tmps.size):(a.put (some d) v).eval (.tmp d)=v:=by simp[Act.eval,Act.put,h]
theorem mG(a:Act)(d:Nat)(v:Value):(a.put (some d) v).tmps.size=a.tmps.size:=by simp[Act.put]
theorem KL{P:Program}{m:Sem Value}{w w':World}{v:Value}(h:m.run P w= .ok v w'):(do let x ←m;pure (Next.value x):Sem Next).run P w= .ok (.value v) w':=by rw[Sem.run_bind,h];rfl
theorem HRel.laid{G:aw}{W:World}{S:Nat->Prop}{φ:Aw.Place}{h:List AO}(H:HRel G W S φ h)(o:Obj):HRel G (W.alloc o) S φ h/\Keep W S φ h (W.alloc o) S φ h:=by
 have hg:∀b,b<W.heap.size->(W.alloc o).heap[b]?=W.heap[b]?:=λb hb=>by
  show(W.heap.push _)[b]?=_;rw[Xv,WB (by omega)]
 have hS:∀b,S b->b<W.heap.size:=λb hb=>(H.sep b hb).1
 have K:Kept W S φ h.length (W.alloc o) S φ h.length:=
  {pure:=λb hb=>⟨hb,hg b (hS b hb)⟩
   len:=Wo _
   same:=λ_ _=>rfl
   blk:=λi hi c' t' fr' e=>by
    rw[hg _ (H.bnd i hi)] at e;exact⟨c',t',fr',e,rfl⟩}
 have hs:W.heap.size<=(W.alloc o).heap.size:=by show _<=(W.heap.push _).size;simp
 refine⟨⟨λi s es e=>?_,λi o e lo=>?_,H.inj,λb hb=>⟨WN (hS b hb) hs,(H.sep b hb).2⟩,λi hi=>WN (H.bnd i hi) hs,λg cs hgl=>?_⟩,
  {K with os:=rfl,tape:=rfl,output:=rfl,size:=hs,out:=λb hb _=>hg b hb,img:=λi hi=> .inr ⟨i,hi,rfl⟩,newS:=λb hb=> .inl hb}⟩
 ·obtain⟨c,t,fr,a1,a2,a3,a4,a5⟩:=H.obj i s es e;refine⟨c,t,fr,by rw[hg _ (H.bnd i (H.lt e))];exact a1,a2,a3,a4,λj a hj=>?_⟩;obtain⟨b1,v,b2,b3⟩:=a5 j a hj;exact⟨b1,v,b2,b3.kept K⟩
 ·rw[hg _ (H.bnd i (H.lt e))];exact(H.oobj i o e lo).mono λa v r=>r.kept K
 ·obtain⟨g1,g2⟩:=H.glob g cs hgl;refine⟨g1,λj c' hj=>?_⟩;obtain⟨v,k1,k2⟩:=g2 j c' hj;exact⟨v,by rw[aJ (K.pure g g1).2];exact k1,k2.mono K.pure⟩
section
variable {G:aw} {W:World} {S:Nat->Prop} {φ:Aw.Place} {h:List AO}
theorem mT{h:List AO}{id i:Nat}{o o1:AO}(hl:id<h.length)(e:(h.set id o)[i]?=some o1):(i=id/\o1=o)\/(i≠id/\h[i]?=some o1):=by
 by_cases hi:i=id
 ·subst hi;rw[Wh hl] at e;cases e;exact .inl ⟨rfl,rfl⟩
 ·rw[Wd (Ne.symm hi)] at e;exact .inr ⟨hi,e⟩
theorem HRel.revive(H:HRel G W S φ h){id b:Nat}(hl:id<h.length)(hb:(φ id).1=b)(F:Free W S φ h b){es:List (PV × AV)}{ents:Array MapEntry}{clock:Nat}(he:W.heap[b]?=some (.map ents clock))(hm:MRel (VRel W S φ h.length) es ents clock):HRel G W S φ (h.set id (.mp es)) where
 obj:=λi sz es1 e=>by
  rw[Wy];rcases mT hl e with⟨_,e⟩|⟨_,e⟩
  ·cases e
  ·exact H.obj i sz es1 e
 oobj:=λi o e l=>by
  rw[Wy];rcases mT hl e with⟨rfl,rfl⟩|⟨_,e⟩
  ·rw[hb];exact⟨ents,clock,he,hm⟩
  ·exact H.oobj i o e l
 inj:=λi j ⟨o,e,l⟩ ⟨o2,e2,l2⟩ hij=>by
  rcases mT hl e with⟨q1,_⟩|⟨h1,e⟩<;>rcases mT hl e2 with⟨q2,_⟩|⟨h2,e2⟩
  ·rw[q1,q2]
  ·rw[q1] at hij;exact(F.live j ⟨_,e2,l2⟩ (hij.symm.trans hb)).elim
  ·rw[q2] at hij;exact(F.live i ⟨_,e,l⟩ (hij.trans hb)).elim
  ·exact H.inj i j ⟨_,e,l⟩ ⟨_,e2,l2⟩ hij
 sep:=λb1 hb1=>⟨(H.sep b1 hb1).1,λi ⟨o,e,l⟩=>by
  rcases mT hl e with⟨rfl,rfl⟩|⟨h1,e⟩
  ·intro q;exact F.notS (by rw[←hb,q];exact hb1)
  ·exact(H.sep b1 hb1).2 i ⟨_,e,l⟩⟩
 bnd:=λi hi=>H.bnd i (by simpa using hi)
 glob:=H.glob
theorem Keep.revive{W0:World}{S0:Nat->Prop}{φ0:Aw.Place}{h0:List AO}(K:Keep W0 S0 φ0 h0 W S φ h){id:Nat}(hl:id<h.length){o:AO}(hi:W0.heap.size<=(φ id).1\/∃j,Live h0 j/\(φ0 j).1=(φ id).1):Keep W0 S0 φ0 h0 W S φ (h.set id o) where
 pure:=K.pure
 len:=by rw[Wy];exact K.len
 same:=K.same
 blk:=K.blk
 os:=K.os
 tape:=K.tape
 output:=K.output
 size:=K.size
 out:=K.out
 img:=λi ⟨o1,e,l⟩=>by
  rcases mT hl e with⟨rfl,rfl⟩|⟨h1,e⟩
  ·exact hi
  ·exact K.img i ⟨_,e,l⟩
 newS:=K.newS
end
theorem rV{P:Program}{G:aw}{W0:World}{S0:Nat->Prop}{φ0:Aw.Place}{h0:List AO}{ops:Array Oper}{Q':Exit->Act->World->Prop}{K:KT}{Qp:QP}{rest:List Oper}
 (hK:∀a' W' S' φ' ts' h',St G W0 S0 φ0 h0 W' S' φ' a' ts' h'->K ts' h'->wpList P ops Q' rest a' W')
 (hQ:∀a W' S' φ' ts h' t v x,PRel W' S' v x->St G W0 S0 φ0 h0 W' S' φ' a ts h'->Qp t v h'->Q' (.panic [{v:= .iface t x,recovered:=false}]) a W'):
 ∀(l:List Oper) (cs:List CO),eB P ops l cs->∀(W:World) (S:Nat->Prop) (φ:Aw.Place) (a:Act) (ts:List AV) (h:List AO),St G W0 S0 φ0 h0 W S φ a ts h->rK P G cs ts h K Qp->wpList P ops Q' (l++rest) a W
 |[],[],_,W,S,φ,a,ts,h,s,hr=>hK _ _ _ _ _ _ s hr
 |[],c::cs,h,_,_,_,_,_,_,_,_=>by have:=h.1;simp at this
 |o::l,[],h,_,_,_,_,_,_,_,_=>by have:=h.1;simp at this
 |o::l,c::cs,hok,W,S,φ,a,ts,h,s,hr=>by
  have hc:=hok.2 0 o c rfl rfl;have hok':eB P ops l cs:=⟨by have:=hok.1;simpa using this,λj o c h1 h2=>hok.2 (j+1) o c (by simpa using h1) (by simpa using h2)⟩;have:=Bn hc s hr (K':=wpList P ops Q' (l++rest)) (Q':=Q') (λa' W' S' φ' ts' h' _ s' k'=>rV hK hQ l cs hok' W' S' φ' a' ts' h' s' k') (λW' S' φ' h' t v x k1 k2 k3=>hQ _ _ _ _ _ _ _ _ _ k1 k2 k3);show wpList P ops Q' (o::(l++rest)) a W;unfold wpList;rcases this with⟨hw,h1⟩|⟨hw,h1⟩
  ·rw[Wz hw];exact .inl h1
  ·rw[WB (by simp[hw])];exact h1
end Go.Aw
namespace Go.Aw
inductive AK where
 |skip
 |reg (cs:List CO)
 |ot (t:OT)
 |seq (a b:AK)
 |cut (a b:AK)
 |cond (c:AOp) (a b:AK)
 |blk (id:Nat) (b:AK)
 |loop (b:AK)
 |exit (id:Nat)
 |ret
 |rng (cs:List CO) (x:AOp) (t6 t7 t8 t9 id1 id2:Nat) (cs3:List CO) (k:AK)
mutual
def ren(ρ:List Nat):AV->AV
 | .agg cs=> .agg (bT ρ cs)
 | .tup cs=> .tup (bT ρ cs)
 | .ptr id e i o=> .ptr (ρ.getD id 0) e i o
 | .sl id e o l=> .sl (ρ.getD id 0) e o l
 | .fn f cs=> .fn f (bT ρ cs)
 | .mp id=> .mp (ρ.getD id 0)
 | .it id=> .it (ρ.getD id 0)
 |v=>v
def bT(ρ:List Nat):List AV->List AV
 |[]=>[]
 |v::r=>ren ρ v::bT ρ r
end
mutual
def below(n:Nat):AV->Prop
 | .agg cs=>au n cs
 | .tup cs=>au n cs
 | .ptr id _ _ _=>id<n
 | .sl id _ _ _=>id<n
 | .fn _ cs=>au n cs
 | .mp id=>id<n
 | .it id=>id<n
 |_=>True
def au(n:Nat):List AV->Prop
 |[]=>True
 |v::r=>below n v/\au n r
end
theorem dD{ρ:List Nat}:∀{l:List AV} {j:Nat},(bT ρ l)[j]?=(l[j]?).map (ren ρ)
 |[],j=>by simp[bT]
 |v::r,0=>by simp[bT]
 |v::r,j+1=>by simp[bT,dD]
theorem bz{ρ:List Nat}:∀{l:List AV},(bT ρ l).length=l.length
 |[]=>rfl
 |v::r=>by simp[bT,bz]
theorem aT{n:Nat}:∀{l:List AV},au n l->∀(j:Nat) (v:AV),l[j]?=some v->below n v
 |[],_,j,v,h=>by simp at h
 |x::r,hb,0,v,h=>by simp at h;subst h;exact hb.1
 |x::r,hb,j+1,v,h=>aT hb.2 j v (by simpa using h)
theorem jH{W:World}{S:Nat->Prop}{φ:Place}{n:Nat}{ρ:List Nat}(v:AV)(hb:below ρ.length v){x:Value}(h:VRel W S φ n (ren ρ v) x):
 VRel W S (λi=>φ (ρ.getD i 0)) ρ.length v x:=by
 match v,hb with
 | .agg cs,hb=>
   simp only[ren] at h;cases h with
   |agg _ vs hs hc=>exact .agg cs vs (by rw[hs,bz]) λj c y h1 h2=>jH c (aT hb j c h1) (hc j _ y (by rw[dD,h1];rfl) h2)
 | .tup cs,hb=>
   simp only[ren] at h;cases h with
   |tup _ vs hs hc=>exact .tup cs vs (by rw[hs,bz]) λj c y h1 h2=>jH c (aT hb j c h1) (hc j _ y (by rw[dD,h1];rfl) h2)
 | .ptr id e i o,hb=>
   simp only[ren] at h;cases h with
   |ptr _ _ _ _ hid=>exact .ptr id e i o hb
 | .sl id e o l,hb=>
   simp only[ren] at h;cases h with
   |sl _ _ _ _ cap ba hid hl h1 h2=>exact .sl id e o l cap ba hb hl h1 h2
 | .fn f cs,hb=>
   simp only[ren] at h;cases h with
   |fn _ _ vs hs hc=>exact .fn f cs vs (by rw[hs,bz]) λj c y h1 h2=>jH c (aT hb j c h1) (hc j _ y (by rw[dD,h1];rfl) h2)
 | .mp id,hb=>
   simp only[ren] at h;cases h with
   |mp _ hid=>exact .mp id hb
 | .it id,hb=>
   simp only[ren] at h;cases h with
   |it _ hid=>exact .it id hb
 | .p v,_=>simp only[ren] at h;cases h with|p _ _ hp=>exact .p _ _ hp
 | .eptr e o,_=>simp only[ren] at h;cases h with|eptr _ _ b o' h1 h2=>exact .eptr _ _ b o' h1 h2
 | .gp g o,_=>simp only[ren] at h;cases h;exact .gp _ _
 | .nils,_=>simp only[ren] at h;cases h;exact .nils
 | .nilp,_=>simp only[ren] at h;cases h;exact .nilp
 | .nilf,_=>simp only[ren] at h;cases h;exact .nilf
 | .nilm,_=>simp only[ren] at h;cases h;exact .nilm
 | .nili,_=>simp only[ren] at h;cases h;exact .nili
 | .ifc t v,_=>simp only[ren] at h;cases h with|ifc _ _ _ hp=>exact .ifc _ _ _ hp
 | .any,_=>exact .any x
termination_by SizeOf.sizeOf v
decreasing_by
 all_goals simp_wf
 all_goals (have:=List.sizeOf_lt_of_mem (Wq h1);omega)
theorem te{ρ:List Nat}(v:AV):(ren ρ v).isCell=v.isCell:=by cases v<;>rfl
theorem zj{ρ:List Nat}:∀(l l':List AV),bT ρ (l++l')=bT ρ l++bT ρ l'
 |[],l'=>rfl
 |v::r,l'=>by simp[bT,zj r l']
theorem fH{ρ:List Nat}:∀(es:List (List AV)),(es.map (bT ρ)).flatten=bT ρ es.flatten
 |[]=>rfl
 |e::r=>by simp[zj,fH r]
theorem si{n:Nat}:∀(l l':List AV),au n l->au n l'->au n (l++l')
 |[],_,_,h=>h
 |v::r,l',h,h'=>⟨h.1,si r l' h.2 h'⟩
theorem kn{n:Nat}:∀(es:List (List AV)),(∀e∈es,au n e)->au n es.flatten
 |[],_=>trivial
 |e::r,h=>by
  rw[WX];exact si _ _ (h e (Yj ..)) (kn r λx hx=>h x (Xb _ hx))
def TW(ρ:List Nat):List AV->List AV->Prop
 |[],[]=>True
 |v::r,v1::r1=>(v1= .any\/(below ρ.length v1/\ren ρ v1=v))/\TW ρ r r1
 |_,_=>False
def HW(ρ:List Nat)(h:List AO):List Nat->List AO->Prop
 |[],[]=>True
 |i::π,o1::r1=>i<h.length/\(match o1 with
   | .dead=>True
   | .row sz es1=>(∀e∈es1,au ρ.length e)/\h[i]?=some (.row sz (es1.map (bT ρ)))
   | .mp es1=>(∀e∈es1,below ρ.length e.2)/\h[i]?=some (.mp (es1.map λx=>(x.1,ren ρ x.2)))
   | .sit s pos=>h[i]?=some (.sit s pos))/\HW ρ h π r1
 |_,_=>False
def Wk0(k:Nat)(ts:List AV)(h:List AO)(ts1:List AV)(h1:List AO):Prop:=
 ∃ρ:List Nat,k<=ρ.length/\(∀i,i<k->ρ.getD i 0=i)/\(∀i j,Live h1 i->Live h1 j->ρ.getD i 0=ρ.getD j 0->i=j)/\TW ρ ts ts1/\HW ρ h ρ h1
theorem HG{ρ:List Nat}:∀{ts ts1:List AV},TW ρ ts ts1->ts.length=ts1.length/\∀(i:Nat) (v1:AV),ts1[i]?=some v1->v1= .any\/(below ρ.length v1/\ts[i]?=some (ren ρ v1))
 |[],[],_=>⟨rfl,λi v h=>by simp at h⟩
 |v::r,v1::r1,h=>by
  obtain⟨h1,h2⟩:=h;obtain⟨k1,k2⟩:=HG h2;refine⟨by simp[k1],λi u hu=>?_⟩;cases i with
  |zero=>simp at hu;subst hu;rcases h1 with h1|⟨h1,h3⟩;exact .inl h1;exact .inr ⟨h1,by simp[h3]⟩
  |succ i=>simp at hu;simpa using k2 i u hu
 |[],_::_,h=>h.elim
 |_::_,[],h=>h.elim
theorem EB{ρ:List Nat}{h:List AO}:∀{π:List Nat} {h1:List AO},HW ρ h π h1->π.length=h1.length/\(∀j,j<π.length->π.getD j 0<h.length)/\
 (∀(j sz:Nat) (es1:List (List AV)),h1[j]?=some (.row sz es1)->(∀e∈es1,au ρ.length e)/\h[π.getD j 0]?=some (.row sz (es1.map (bT ρ))))/\
 (∀(j:Nat) (es1:List (PV × AV)),h1[j]?=some (.mp es1)->(∀e∈es1,below ρ.length e.2)/\h[π.getD j 0]?=some (.mp (es1.map λx=>(x.1,ren ρ x.2))))/\
 ∀(j:Nat) (s:List UInt8) (pos:Nat),h1[j]?=some (.sit s pos)->h[π.getD j 0]?=some (.sit s pos)
 |[],[],_=>⟨rfl,λj hj=>by simp at hj,λj sz es h=>by simp at h,λj es h=>by simp at h,λj s p h=>by simp at h⟩
 |i::π,o1::r1,hh=>by
  obtain⟨h1,h2,h3⟩:=hh;obtain⟨k1,k2,k3,k4,k5⟩:=EB h3;refine⟨by simp[k1],λj hj=>?_,λj sz es hj=>?_,λj es hj=>?_,λj s p hj=>?_⟩
  ·cases j with
   |zero=>simpa using h1
   |succ j=>simp at hj;simpa using k2 j hj
  ·cases j with
   |zero=>simp at hj;subst hj;simpa using h2
   |succ j=>simp at hj;simpa using k3 j sz es hj
  ·cases j with
   |zero=>simp at hj;subst hj;simpa using h2
   |succ j=>simp at hj;simpa using k4 j es hj
  ·cases j with
   |zero=>simp at hj;subst hj;simpa using h2
   |succ j=>simp at hj;simpa using k5 j s p hj
 |[],_::_,h=>h.elim
 |_::_,[],h=>h.elim
theorem Wk0.of{k:Nat}{ts ts1:List AV}{h h1:List AO}(ρ:List Nat)(hk:k<=ρ.length)(hi:∀i,i<k->ρ.getD i 0=i)(nd:ρ.Nodup)(HT:TW ρ ts ts1)(HH:HW ρ h ρ h1):Wk0 k ts h ts1 h1:=by
 refine⟨ρ,hk,hi,λi j li lj e=>?_,HT,HH⟩;have hl:=(EB HH).1;have hi:i<ρ.length:=by rw[hl];exact li.lt
 have hj:j<ρ.length:=by rw[hl];exact lj.lt
 rw[Wv,Wv,Wc hi,Wc hj] at e;refine(List.getElem?_inj hi nd).1 ?_;rw[Wc hi,Wc hj];exact congrArg some (by simpa using e)
section
variable {P:Program} {G:aw} {W0:World} {S0:Nat->Prop} {φ0:Place} {h0:List AO}
theorem St.wk0{W:World}{S:Nat->Prop}{φ:Place}{a:Act}{ts ts1:List AV}{h h1:List AO}(s:St G W0 S0 φ0 h0 W S φ a ts h)(w:Wk0 h0.length ts h ts1 h1):∃φ',St G W0 S0 φ0 h0 W S φ' a ts1 h1:=by
 obtain⟨ρ,r1,r2,r3,r4,r5⟩:=w;obtain⟨t1,t2⟩:=HG r4;obtain⟨q1,q2,q3,q4,q5⟩:=EB r5;have hlt:∀{j:Nat} {o:AO},h1[j]?=some o->j<ρ.length:=λhj=>by rw[q1];exact(Wa.1 hj).1
 have hliv:∀{id},Live h1 id->Live h (ρ.getD id 0):=λ{id} ⟨o,e,l⟩=>by
  cases o with
  |dead=>exact l.elim
  |row sz es=>exact bc (q3 _ _ _ e).2
  |mp es=>exact rq (q4 _ _ e).2
  |sit t pos=>exact AF (q5 _ _ _ e)
 refine⟨λi=>φ (ρ.getD i 0),⟨⟨λid sz es hid=>?_,λid o hid lo=>?_,λid id' e1 e2 he=>?_,λb hb=>⟨(s.hrel.sep b hb).1,λid hid he=>?_⟩,λid hid=>?_,s.hrel.glob⟩,⟨s.trel.size.trans t1,λi v hi=>?_⟩,s.defers,?_⟩⟩
 ·obtain⟨b1,b2⟩:=q3 id sz es hid;obtain⟨c,t,fr,a1,a2,a3,a4,a5⟩:=s.hrel.obj _ _ _ b2;refine⟨c,t,fr,a1,a2,λe he=>?_,by simpa using a4,λj u hj=>?_⟩
  ·have:=a3 (bT ρ e) (Ww.2 ⟨e,he,rfl⟩);rwa[bz] at this
  ·have hr:(es.map (bT ρ)).flatten[j]?=some (ren ρ u):=by rw[fH,dD,hj];rfl
   obtain⟨c1,v,c2,c3⟩:=a5 j _ hr;rw[te] at c1;exact⟨c1,v,c2,by rw[←q1];exact jH u (aT (kn _ b1) j u hj) c3⟩
 ·cases o with
  |dead=>trivial
  |row sz es=>trivial
  |sit t pos=>exact s.hrel.oobj _ _ (q5 id t pos hid) trivial
  |mp es=>
   obtain⟨b1,b2⟩:=q4 id es hid;obtain⟨ents,clock,a1,a2,a3,a4⟩:=s.hrel.oobj _ _ b2 trivial;refine⟨ents,clock,a1,by simpa using a2,λj k a hj=>?_,a4⟩;obtain⟨e,c1,c2,c3⟩:=a3 j k (ren ρ a) (by rw[Wl,hj];rfl);exact⟨e,c1,c2,by rw[←q1];exact jH a (b1 _ (Wq hj)) c3⟩
 ·exact r3 _ _ e1 e2 (s.hrel.inj _ _ (hliv e1) (hliv e2) he)
 ·exact(s.hrel.sep b hb).2 _ (hliv hid) he
 ·exact s.hrel.bnd _ (q2 id (by rw[q1];exact hid))
 ·rcases t2 i v hi with rfl|⟨b1,b2⟩
  ·exact .any _
  ·rw[←q1];exact jH v b1 (s.trel.get i _ b2)
 ·have k:=s.keep
  exact{pure:=k.pure,len:=by rw[←q1];exact r1,same:=λid hid=>by rw[r2 id hid];exact k.same id hid,blk:=k.blk,os:=k.os,tape:=k.tape,output:=k.output,size:=k.size,out:=k.out,
        img:=λid hid=>k.img _ (hliv hid),newS:=k.newS}
end
def Wk(k:Nat)(ts:List AV)(h:List AO)(ts1:List AV)(h1:List AO):Prop:=
 ∀(G:aw) (W0:World) (S0:Nat->Prop) (φ0:Place) (h0:List AO) (W:World) (S:Nat->Prop) (φ:Place) (a:Act),h0.length=k->St G W0 S0 φ0 h0 W S φ a ts h->∃S' φ',St G W0 S0 φ0 h0 W S' φ' a ts1 h1
theorem Wk0.wk{k:Nat}{ts ts1:List AV}{h h1:List AO}(w:Wk0 k ts h ts1 h1):Wk k ts h ts1 h1:=
 λ_ _ _ _ _ _ S _ _ e s=>by
  subst e;obtain⟨φ',s'⟩:=s.wk0 w;exact⟨S,φ',s'⟩
theorem Wk.of{k:Nat}{ts ts1:List AV}{h h1:List AO}(ρ:List Nat)(hk:k<=ρ.length)(hi:∀i,i<k->ρ.getD i 0=i)(nd:ρ.Nodup)(HT:TW ρ ts ts1)(HH:HW ρ h ρ h1):Wk k ts h ts1 h1:=
 (Wk0.of ρ hk hi nd HT HH).wk
section
variable {P:Program} {G:aw} {W0:World} {S0:Nat->Prop} {φ0:Place} {h0:List AO}
def Ou(k:Nat)(body:List AV->List AO->(AX->List AV->List AO->Prop)->Prop):Nat->List AV->List AO->(AX->List AV->List AO->Prop)->Prop
 |0,_,_,_=>False
 |n+1,ts,h,Q=>∃ts1 h1,Wk k ts h ts1 h1/\body ts1 h1 λx ts2 h2=>match x with
  | .normal=>Ou k body n ts2 h2 Q
  |x=>Q x ts2 h2
def ue:PV->Bool
 | .bool _| .int _ _| .str _=>true
 |_=>false
def Ns(es:List (PV × AV)):Bool:=es.all λe=>ue e.1&&match e.2 with
 | .p v=>ue v
 |_=>false
def Ru(k id1 id2:Nat)(J:List AV->List AO->Prop)(Q:AX->List AV->List AO->Prop)(x:AX)(ts:List AV)(h:List AO):Prop:=match x with
 | .normal=>∃ts5 h5,Wk k ts h ts5 h5/\J ts5 h5
 | .exit i=>if i=id2 then∃ts5 h5,Wk k ts h ts5 h5/\J ts5 h5 else if i=id1 then Q .normal ts h else Q (.exit i) ts h
 |x=>Q x ts h
structure RngJ (P:Program) (G:aw) (body:Nat->List AV->List AO->(AX->List AV->List AO->Prop)->Prop) (id r t6 t7 t8 t9 id1 id2:Nat) (cs3:List CO) (es:List (PV × AV)) (J:List (PV × AV)->List AV->List AO->Prop) (Q:AX->List AV->List AO->Prop) (rem:List (PV × AV)) (ts:List AV) (h:List AO):Prop where
 l6:t6<ts.length
 l7:t7<ts.length
 l8:t8<ts.length
 l9:t9<ts.length
 it:ts.getD t6 .any= .gp r 0
 dd:h[id]?=some .dead
 out:rem=[]->Q .normal (put (some t8) .any (put (some t7) .any ts)) (h.set id (.mp es))
 round:∀e rem',rem.Perm (e::rem')->rK P G cs3 (put (some t9) (.tup [.p e.1,e.2]) (put (some t8) .any (put (some t7) .any ts))) h (λts3 h3=>body h.length ts3 h3 (Ru h.length id1 id2 (J rem') Q)) λt v h'=>∀ts',Q (.pan t v) ts' h'
def Oj(P:Program)(G:aw)(body:Nat->List AV->List AO->(AX->List AV->List AO->Prop)->Prop)(cs:List CO)(x:AOp)(t6 t7 t8 t9 id1 id2:Nat)(cs3:List CO)(ts:List AV)(h:List AO)(Q:AX->List AV->List AO->Prop):Prop:=
 rK P G cs ts h (λts1 h1=>match x.ev ts1 with
  | .nilm=>t6<ts1.length/\t7<ts1.length/\t8<ts1.length/\Q .normal (put (some t8) .any (put (some t7) .any (put (some t6) .any ts1))) h1
  | .mp id=>∃es,h1[id]?=some (.mp es)/\Ns es=true/\∀r,∃J:List (PV × AV)->List AV->List AO->Prop,
     J es (put (some t6) (.gp r 0) ts1) (h1.set id .dead)/\∀rem ts2 h2,J rem ts2 h2->RngJ P G body id r t6 t7 t8 t9 id1 id2 cs3 es J Q rem ts2 h2
  |_=>False) λt v h'=>∀ts',Q (.pan t v) ts' h'
def AKW(P:Program)(G:aw):Nat->AK->List AV->List AO->(AX->List AV->List AO->Prop)->Prop
 |k,.skip,ts,h,Q=>Q .normal ts h
 |k,.reg cs,ts,h,Q=>rK P G cs ts h (Q .normal) λt v h'=>∀ts',Q (.pan t v) ts' h'
 |k,.ot t,ts,h,Q=>otK P G t ts h (Q .normal) λt v h'=>∀ts',Q (.pan t v) ts' h'
 |k,.seq a b,ts,h,Q=>AKW P G k a ts h λx ts' h'=>match x with
  | .normal=>AKW P G k b ts' h' Q
  |x=>Q x ts' h'
 |k,.cut a b,ts,h,Q=>∃J:List AV->List AO->Prop,(AKW P G k a ts h λx ts' h'=>match x with
  | .normal=>∃ts1 h1,Wk k ts' h' ts1 h1/\J ts1 h1
  |x=>Q x ts' h')/\∀ts1 h1,J ts1 h1->AKW P G k b ts1 h1 Q
 |k,.cond c a b,ts,h,Q=>match c.ev ts with
  | .p (.bool v)=>Cnd v (AKW P G k a ts h Q) (AKW P G k b ts h Q)
  |_=>False
 |k,.blk id a,ts,h,Q=>AKW P G k a ts h λx ts' h'=>match x with
  | .exit i=>if i=id then Q .normal ts' h' else Q (.exit i) ts' h'
  |x=>Q x ts' h'
 |k,.loop a,ts,h,Q=>∃n,Ou k (AKW P G k a) n ts h Q
 |k,.exit id,ts,h,Q=>Q (.exit id) ts h
 |k,.ret,ts,h,Q=>Q .ret ts h
 |_,.rng cs x t6 t7 t8 t9 id1 id2 cs3 b,ts,h,Q=>Oj P G (λk=>AKW P G k b) cs x t6 t7 t8 t9 id1 id2 cs3 ts h Q
structure RngOk (P:Program) (ops1 ops2 ops3:Array Oper) (pre post:List Oper) (o1 o2 o3 o4:Oper) (cs cs3:List CO) (t:TypeId) (xo:Operand) (x:AOp) (t6 t7 t8 t9:Nat) (tk tv:TypeId):Prop where
 l1:ops1.toList=pre++[o1]
 c1:eB P ops1 pre cs
 g1:o1.guard=none
 d1:o1.dst=some t6
 p1:o1.op= .range t xo
 m1:P.underlying t=some (.map tk tv)
 x1:cop xo=some x
 l2:ops2.toList=[o2,o3]
 g2:o2.guard=none
 d2:o2.dst=some t7
 p2:o2.op= .next (.tmp t6) false
 g3:o3.guard=none
 d3:o3.dst=some t8
 p3:o3.op= .extract (.tmp t7) 0
 l3:ops3.toList=o4::post
 g4:o4.guard=none
 d4:o4.dst=some t9
 p4:o4.op= .entry (.tmp t6)
 c3:eB P ops3 post cs3
 n7:t6≠t7
 n8:t6≠t8
inductive KOk (P:Program):Code->AK->Prop where
 |skip:KOk P .skip .skip
 |text (id:Nat) (ops:Array Oper) (cs:List CO):eB P ops ops.toList cs->KOk P (.region id ops false) (.reg cs)
 |any (id:Nat) (ops:Array Oper) (cs:List CO) (pd:Nat->List (Nat × Option Nat × Nat × Nat)) (df:Option (Nat × Nat)) (π:List Nat):P.follows .mixedOrders=true->eB P ops ops.toList cs->ln ops cs df=true->π.length=ops.size->vU (df.map (·.1)) ops cs (uB ops.toList []) pd π (Array.replicate ops.size false)=true->
   KOk P (.region id ops true) (.reg (forget df++ug cs pd π))
 |anyT (id:Nat) (ops:Array Oper) (cs:List CO) (pd:Nat->List (Nat × Option Nat × Nat × Nat)) (df:Option (Nat × Nat)) (t:OTi):P.follows .mixedOrders=true->eB P ops ops.toList cs->ln ops cs df=true->nR (df.map (·.1)) ops cs (uB ops.toList []) pd ops.size t [] (Array.replicate ops.size false)=true->
   KOk P (.region id ops true) (.ot (.one (forget df) (t.comp cs pd (Array.replicate ops.size false))))
 |seq (a b:Code) (a' b':AK):KOk P a a'->KOk P b b'->KOk P (.seq a b) (.seq a' b')
 |cut (a b:Code) (a' b':AK):KOk P a a'->KOk P b b'->KOk P (.seq a b) (.cut a' b')
 |cond (c:Operand) (c':AOp) (a b:Code) (a' b':AK):cop c=some c'->KOk P a a'->KOk P b b'->KOk P (.cond c a b) (.cond c' a' b')
 |blk (id:Nat) (a:Code) (a':AK):KOk P a a'->KOk P (.block id a) (.blk id a')
 |loop (a:Code) (a':AK):KOk P a a'->KOk P (.loop a) (.loop a')
 |exit (id:Nat):KOk P (.exit id) (.exit id)
 |ret:KOk P .ret .ret
 |rng {ops1 ops2 ops3:Array Oper} {pre post:List Oper} {o1 o2 o3 o4:Oper} {cs cs3:List CO} {t:TypeId} {xo:Operand} {x:AOp} {t6 t7 t8 t9:Nat} {tk tv:TypeId} (i1 i2 i3 id1 id2:Nat) (c:Code) (k:AK):RngOk P ops1 ops2 ops3 pre post o1 o2 o3 o4 cs cs3 t xo x t6 t7 t8 t9 tk tv->KOk P c k->
   KOk P (.seq (.region i1 ops1 false) (.block id1 (.loop (.seq (.region i2 ops2 false) (.seq (.cond (.tmp t8) .skip (.exit id1)) (.block id2 (.seq (.region i3 ops3 false) c))))))) (.rng cs x t6 t7 t8 t9 id1 id2 cs3 k)
def pvV:Value->PV
 | .bool b=> .bool b
 | .int k n=> .int k n
 | .string s=> .str s.data.toList
 |_=> .bool false
def rdE(e:MapEntry):PV × AV:=(pvV e.key,.p (pvV e.val))
theorem FX{k:PV}(h:ue k=true){v:Value}(hv:oB k=some v):pvV v=k:=by cases k<;>simp[ue] at h<;>simp[oB] at hv<;>subst hv<;>rfl
theorem tY{W:World}{S:Nat->Prop}{φ:Place}{n:Nat}{q:PV}(h:ue q=true){v:Value}(hv:VRel W S φ n (.p q) v):pvV v=q/\∀(W':World) (S':Nat->Prop) (φ':Place) (n':Nat),VRel W' S' φ' n' (.p q) v:=by
 cases q<;>simp[ue] at h
 ·have:=jK hv;subst this;exact⟨rfl,λ_ _ _ _=> .p _ _ (.bool _)⟩
 ·have:=bS hv;subst this;exact⟨rfl,λ_ _ _ _=> .p _ _ (.int _ _)⟩
 ·have:=Pt hv;subst this;exact⟨rfl,λ_ _ _ _=> .p _ _ (.str _)⟩
def Kf(ents:Array MapEntry)(r:Nat)(w:World):Nat:=match w.heap[r]? with
 |some (.mapIter _ _ seen _)=>(leftOf ents seen).size
 |_=>0
theorem LM{ops1 ops2 ops3:Array Oper}{pre post:List Oper}{o1 o2 o3 o4:Oper}{cs cs3:List CO}{t:TypeId}{xo:Operand}{x:AOp}{t6 t7 t8 t9:Nat}{tk tv:TypeId}(R:RngOk P ops1 ops2 ops3 pre post o1 o2 o3 o4 cs cs3 t xo x t6 t7 t8 t9 tk tv)(i1 i2 i3 id1 id2:Nat){c:Code}
 {body:Nat->List AV->List AO->(AX->List AV->List AO->Prop)->Prop}
 (hb:∀{W0:World} {S0:Nat->Prop} {φ0:Place} {h0:List AO} {W:World} {S:Nat->Prop} {φ:Place} {a:Act} {ts:List AV} {h:List AO},St G W0 S0 φ0 h0 W S φ a ts h->∀{Q:AX->List AV->List AO->Prop},body h0.length ts h Q->c.wp P (Di G W0 S0 φ0 h0 Q) a W)
 {W0:World}{S0:Nat->Prop}{φ0:Place}{h0:List AO}{W:World}{S:Nat->Prop}{φ:Place}{a:Act}{ts:List AV}{h:List AO}(s:St G W0 S0 φ0 h0 W S φ a ts h){Q:AX->List AV->List AO->Prop}(hq:Oj P G body cs x t6 t7 t8 t9 id1 id2 cs3 ts h Q):
 (Code.seq (.region i1 ops1 false) (.block id1 (.loop (.seq (.region i2 ops2 false) (.seq (.cond (.tmp t8) .skip (.exit id1)) (.block id2 (.seq (.region i3 ops3 false) c))))))).wp P (Di G W0 S0 φ0 h0 Q) a W:=by
 refine wp_seq (wp_region_list ?_);rw[R.l1];refine rV ?_ ?_ pre cs R.c1 W S φ a ts h s hq
 ·intro a1 W1 S1 φ1 ts1 h1 s1 hk;have hrx:=ay R.x1 s1.trel;have hsz1:=s1.trel.size
  have exr:∀{v:Value} {w:World},(Instr.range t (a1.eval xo)).run P W1= .ok v w->(execOp a1.eval o1).run P W1= .ok (.value v) w:=λhr=>by simp only[execOp,R.p1];exact KL hr
  have exn:∀{a2:Act} {v:Value} {w w':World},(Instr.next (a2.eval (.tmp t6)) false o2.type).run P w= .ok v w'->(execOp a2.eval o2).run P w= .ok (.value v) w':=λhr=>by simp only[execOp,R.p2];exact KL hr
  have exx:∀{a2:Act} {v:Value} {w w':World},(Instr.extract (a2.eval (.tmp t7)) 0).run P w= .ok v w'->(execOp a2.eval o3).run P w= .ok (.value v) w':=λhr=>by simp only[execOp,R.p3];exact KL hr
  have exe:∀{a2:Act} {v:Value} {w w':World},(Instr.entry (a2.eval (.tmp t6))).run P w= .ok v w'->(execOp a2.eval o4).run P w= .ok (.value v) w':=λhr=>by simp only[execOp,R.p4];exact KL hr
  split at hk
  ·
   rename_i ex;obtain⟨l6,l7,l8,hk⟩:=hk;rw[ex] at hrx
   have hx:a1.eval xo= .map none:=by
    generalize a1.eval xo=y at hrx;cases hrx;rfl
   refine gi R.g1 (exr (by rw[hx];exact run_range_nilMap W1 t tk tv R.m1)) (wpList_nil ?_);have hL:=s1.hrel.laid (.mapIter none 0 #[] 0);have hit:(W1.alloc (.mapIter none 0 #[] 0)).heap[W1.heap.size]?=some (.mapIter none 0 #[] 0):=(by show(W1.heap.push _)[_]?=_;simp);generalize W1.heap.size=r at*
   have s2:St G W0 S0 φ0 h0 (W1.alloc (.mapIter none 0 #[] 0)) S1 φ1 (a1.put (some t6) (.pointer (some ⟨r,0,none⟩))) (put (some t6) .any ts1) h1:=s1.put (some t6) (.any _) hL.1 hL.2;rw[R.d1];show Code.wp _ _ _ _ _;have h6:(a1.put (some t6) (.pointer (some ⟨r,0,none⟩))).eval (.tmp t6)= .pointer (some ⟨r,0,none⟩):=ky (by omega);have hsz2:(a1.put (some t6) (.pointer (some ⟨r,0,none⟩))).tmps.size=ts1.length:=(by rw[mG];exact hsz1);generalize (a1.put (some t6) (.pointer (some ⟨r,0,none⟩)))=a2 at*
   generalize W1.alloc (.mapIter none 0 #[] 0)=W2 at*
   refine wp_block (wp_loop (λa w=>a=a2/\w=W2) (λ_ _=>0) ⟨rfl,rfl⟩ ?_);rintro a w ⟨rfl,rfl⟩;refine wp_seq (wp_region_list ?_);rw[R.l2];refine gi (v:= .tuple #[.bool false]) (w':=w) R.g2 (exn (by rw[h6];simp[Instr.next,getObj,Sem.run,hit])) (gi (v:= .bool false) (w':=w) R.g3 (exx (by rw[R.d2,ky (by omega)];rfl)) (wpList_nil ?_));rw[R.d2,R.d3];refine wp_seq (wp_cond (t:=false) (ky (by rw[mG];omega)) (wp_exit ?_));have s3:=(s2.put (some t7) (.any (.tuple #[.bool false])) s2.hrel (Keep.refl s2.hrel)).put (some t8) (.any (.bool false)) s2.hrel (Keep.refl s2.hrel);simp only[Exit.then,Exit.inBlock,if_true];exact⟨.normal,_,_,_,_,hk,.normal,s3⟩
  ·rename_i id ex;obtain⟨es,hid,hsc,hk⟩:=hk;rw[ex] at hrx;obtain⟨ents,clock,hbl,hm1,hm2,hm3,hm4⟩:=s1.hrel.oobj id _ hid trivial;have hidl:=(Wa.1 hid).1
   have hx:a1.eval xo= .map (some (φ1 id).1):=by
    generalize a1.eval xo=y at hrx;cases hrx;rfl
   generalize hbb:(φ1 id).1=b at hbl hx;refine gi R.g1 (exr (by rw[hx];exact run_range_map W1 t tk tv b ents clock R.m1 hbl)) (wpList_nil ?_);have hL:=s1.hrel.laid (.mapIter (some b) clock #[] clock);have hit:(W1.alloc (.mapIter (some b) clock #[] clock)).heap[W1.heap.size]?=some (.mapIter (some b) clock #[] clock):=(by show(W1.heap.push _)[_]?=_;simp);have hblt:b<W1.heap.size:=(WU.1 hbl).1
   have hb2:(W1.alloc (.mapIter (some b) clock #[] clock)).heap[b]?=some (.map ents clock):=by
    show(W1.heap.push _)[b]?=_;rw[Xv,WB (by omega)];exact hbl
   have hsz2:W1.heap.size<(W1.alloc (.mapIter (some b) clock #[] clock)).heap.size:=(by show _<(W1.heap.push _).size;simp);obtain⟨J,j0,hJ⟩:=hk W1.heap.size;have hbnd:=λi hi=>s1.hrel.bnd i hi;have hsep:=λq hq=>(s1.hrel.sep q hq).1;have hWr:W1.heap.size<=W1.heap.size:=Wo _;generalize hrr:W1.heap.size=r at hit hsz2 hJ j0 hbnd hsep;rw[hrr] at hWr;have hl1:(h1.set id .dead).length=h1.length:=Wy
   have s2:St G W1 S1 φ1 (h1.set id .dead) (W1.alloc (.mapIter (some b) clock #[] clock)) S1 φ1 (a1.put (some t6) (.pointer (some ⟨r,0,none⟩))) (put (some t6) (.gp r 0) ts1) (h1.set id .dead):=by
    have q:St G W1 S1 φ1 (h1.set id .dead) (W1.alloc (.mapIter (some b) clock #[] clock)) S1 φ1 a1 ts1 (h1.set id .dead):=
     ⟨hL.1.forget id,by rw[hl1];exact s1.trel.kept hL.2.toKept,s1.defers,((s1.hrel.forget id).laid (.mapIter (some b) clock #[] clock)).2⟩
    exact q.put (some t6) (.gp r 0) q.hrel (Keep.refl q.hrel)
   have F2:Free (W1.alloc (.mapIter (some b) clock #[] clock)) S1 φ1 (h1.set id .dead) b:=⟨by omega,λi li e=>(cd li).1 (s1.hrel.inj i id (cd li).2 (rq hid) (e.trans hbb.symm)),λhS=>(s1.hrel.sep b hS).2 id (rq hid) hbb⟩;have F3:Free (W1.alloc (.mapIter (some b) clock #[] clock)) S1 φ1 (h1.set id .dead) r:=⟨hsz2,λi li e=>by have:=hbnd i (cd li).2.lt;omega,λhS=>by have:=hsep r hS;omega⟩;have back:∀{a':Act} {W':World} {S':Nat->Prop} {φ':Place} {ts':List AV} {h':List AO},St G W1 S1 φ1 (h1.set id .dead) W' S' φ' a' ts' h'->St G W0 S0 φ0 h0 W' S' φ' a' ts' h':=λq=>⟨q.hrel,q.trel,q.defers,s1.keep.trans q.keep.forget⟩;have hborn:=Iy hm4
   have hold:∀x∈ents.toList,x.born<clock:=λx hx=>by
    obtain⟨j,hj,e⟩:=Zp.1 hx;exact hm3 j x (by rw[←XZ,Wc hj,e])
   have hent:∀(j:Nat) (e:MapEntry),ents[j]?=some e->∃k q,es[j]?=some (k,.p q)/\ue k=true/\ue q=true/\oB k=some e.key/\VRel W1 S1 φ1 h1.length (.p q) e.val:=λj e he=>by
    have hjl:j<es.length:=(by rw[←hm1];exact(WU.1 he).1);obtain⟨e',k1,k2,k3⟩:=hm2 j es[j].1 es[j].2 (Wc hjl);rw[he] at k1;cases k1;have hq:=Wu.1 hsc es[j] (Wm hjl);rw[Wr] at hq;obtain⟨q1,q2⟩:=hq;cases hv:es[j].2<;>rw[hv] at q2<;>first|(cases q2;done)|skip
    rename_i q;rw[hv] at k3;exact⟨es[j].1,q,by rw[Wc hjl,←hv],q1,q2,k2,k3⟩
   have hrd:ents.toList.map rdE=es:=by
    refine WT λj=>?_;rw[Wl,XZ];cases he:ents[j]? with
    |none=>
     have:es.length<=j:=(by rw[←hm1];exact Array.getElem?_eq_none_iff.1 he);rw[WS this];rfl
    |some e=>
     obtain⟨k,q,h1,h2,h3,h4,h5⟩:=hent j e he;rw[h1];simp only[Xx,rdE,FX h2 h4,(tY h3 h5).1]
   have hany:∀e∈ents.toList,∀(W':World) (S':Nat->Prop) (φ':Place) (n':Nat),VRel W' S' φ' n' (.tup [.p (rdE e).1,(rdE e).2]) (.tuple #[e.key,e.val]):=λe he W' S' φ' n'=>by
    obtain⟨j,hj,e1⟩:=Zp.1 he;obtain⟨k,q,h1,h2,h3,h4,h5⟩:=hent j e (by rw[←XZ,Wc hj,e1]);have hkk:=FX h2 h4;refine .tup _ _ rfl λj c v e1 e2=>?_
    match j,e1,e2 with
    |0,e1,e2=>
     cases e1;cases e2;simp only[rdE,hkk];cases k<;>simp[ue] at h2<;>simp only[oB,WO] at h4<;>rw[←h4]
     ·exact .p _ _ (.bool _)
     ·exact .p _ _ (.int _ _)
     ·exact .p _ _ (.str _)
    |1,e1,e2=>
     cases e1;cases e2;simp only[rdE,(tY h3 h5).1];exact(tY h3 h5).2 _ _ _ _
    |j+2,e1,e2=>simp at e1
   have hrev:∀{a':Act} {W':World} {S':Nat->Prop} {φ':Place} {ts':List AV} {h':List AO},St G W1 S1 φ1 (h1.set id .dead) W' S' φ' a' ts' h'->Free W' S' φ' h' b->W'.heap[b]?=some (.map ents clock)->St G W0 S0 φ0 h0 W' S' φ' a' ts' (h'.set id (.mp es)):=λ{a' W' S' φ' ts' h'} q F hb'=>by
    have hlen:id<h'.length:=(by have:=q.keep.len;omega);have hφ:φ' id=φ1 id:=q.keep.same id (by omega);have q0:=back q;refine⟨q0.hrel.revive hlen (by rw[hφ];exact hbb) F hb' ⟨hm1,λj k a e=>?_,hm3,hm4⟩,by rw[Wy];exact q0.trel,q0.defers,q0.keep.revive hlen (by rw[hφ];exact s1.keep.img id (rq hid))⟩;obtain⟨e1,g1,g2,g3⟩:=hm2 j k a e;obtain⟨k',q',f1,f2,f3,f4,f5⟩:=hent j e1 g1;rw[e] at f1;cases f1;exact⟨e1,g1,g2,(tY f3 f5).2 _ _ _ _⟩
   rw[R.d1];show Code.wp _ _ _ _ _
   have I0:∃S' φ' ts' h' rem seen c0,St G W1 S1 φ1 (h1.set id .dead) (W1.alloc (.mapIter (some b) clock #[] clock)) S' φ' (a1.put (some t6) (.pointer (some ⟨r,0,none⟩))) ts' h'/\(W1.alloc (.mapIter (some b) clock #[] clock)).heap[b]?=some (.map ents clock)/\(W1.alloc (.mapIter (some b) clock #[] clock)).heap[r]?=some (.mapIter (some b) clock seen c0)/\clock<=c0/\
    Free (W1.alloc (.mapIter (some b) clock #[] clock)) S' φ' h' b/\Free (W1.alloc (.mapIter (some b) clock #[] clock)) S' φ' h' r/\J rem ts' h'/\rem.Perm ((leftOf ents seen).toList.map rdE):=
    ⟨S1,φ1,_,_,es,#[],clock,s2,hb2,hit,Wo _,F2,F3,j0,by
      have:leftOf ents #[]=ents:=(by simp[leftOf]);rw[this,hrd]⟩
   refine wp_block (wp_loop (λa w=>∃S' φ' ts' h' rem seen c0,St G W1 S1 φ1 (h1.set id .dead) w S' φ' a ts' h'/\w.heap[b]?=some (.map ents clock)/\w.heap[r]?=some (.mapIter (some b) clock seen c0)/\clock<=c0/\Free w S' φ' h' b/\Free w S' φ' h' r/\J rem ts' h'/\rem.Perm ((leftOf ents seen).toList.map rdE)) (λ_ w=>Kf ents r w) I0 ?_);clear I0 F2 F3 s2 hb2 hit hsz2 hL hx exr j0;rintro a w ⟨S',φ',ts2,h2,rem,seen,c0,s3,hbw,hrw,hc0,Fb,Fr,j,hperm⟩;have RJ:=hJ rem ts2 h2 j;have hsz:=s3.trel.size;have l6:=RJ.l6;have l7:=RJ.l7;have l8:=RJ.l8;have l9:=RJ.l9
   have h6:a.eval (.tmp t6)= .pointer (some ⟨r,0,none⟩):=by
    have q:=s3.trel.get t6 (.gp r 0) (by
     have:=RJ.it;rw[Wv,Wc l6] at this;rw[Wc l6];exact congrArg some this)
    show a.tmps.getD t6 undef=_;generalize a.tmps.getD t6 undef=y at q;cases q;rfl
   refine wp_seq (wp_region_list ?_);rw[R.l2];rcases run_next_at (P:=P) w o2.type r b clock c0 seen ents clock hrw hbw hold hc0 with⟨h0',hrun⟩|⟨e,he,w1,hw1,hrun⟩
   ·refine gi (v:= .tuple #[.bool false]) (w':=w) R.g2 (exn (by rw[h6];exact hrun)) (gi (v:= .bool false) (w':=w) R.g3 (exx (by rw[R.d2,ky (by omega)];rfl)) (wpList_nil ?_));rw[R.d2,R.d3];refine wp_seq (wp_cond (t:=false) (ky (by rw[mG];omega)) (wp_exit ?_));have s4:=(s3.put (some t7) (.any (.tuple #[.bool false])) s3.hrel (Keep.refl s3.hrel)).put (some t8) (.any (.bool false)) s3.hrel (Keep.refl s3.hrel);simp only[Exit.then,Exit.inBlock,if_true]
    have hr0:rem=[]:=by
     have e0:leftOf ents seen=#[]:=Array.eq_empty_of_size_eq_zero h0';rw[e0] at hperm;simpa using hperm
    exact⟨.normal,_,_,_,_,RJ.out hr0,.normal,hrev s4 Fb hbw⟩
   ·have hel:=mem_left he;have hA:=Lq (r:=r) (o:= .mapIter (some b) clock (seen.push e.born) clock) hw1 (λ_ _ _ h=>by cases h);have s4:=s3.aside hA Fr.live Fr.notS (by omega);generalize hw':Go.ChangeMaps.setBlock w1 r (.mapIter (some b) clock (seen.push e.born) clock)=w' at*
    have hrb:r≠b:=λq=>(by rw[q,hbw] at hrw;cases hrw);have hb6:w'.heap[b]?=some (.map ents clock):=by rw[hA.other b λq=>hrb q.symm];exact hbw
    have hr6:w'.heap[r]?=some (.mapIter (some b) clock (seen.push e.born) clock):=by
     have hh:w1.heap=w.heap:=(by rcases hw1 with rfl|rfl<;>rfl);rw[←hw'];simp only[Go.ChangeMaps.setBlock,hh];rw[Array.getElem?_setIfInBounds,Wz rfl,Wz Fr.lt]
    have fb6:Free w' S' φ' h2 b:=⟨by rw[hA.size];exact Fb.lt,Fb.live,Fb.notS⟩;have fr6:Free w' S' φ' h2 r:=⟨by rw[hA.size];exact Fr.lt,Fr.live,Fr.notS⟩;refine gi (v:= .tuple #[.bool true,e.key,e.val]) (w':=w') R.g2 (exn (by rw[h6];exact hrun)) (gi (v:= .bool true) (w':=w') R.g3 (exx (by rw[R.d2,ky (by omega)];rfl)) (wpList_nil ?_));rw[R.d2,R.d3];refine wp_seq (wp_cond (t:=true) (ky (by rw[mG];omega)) (wp_skip ?_));show Code.wp _ _ _ _ _;have s5:=(s4.put (some t7) (.any (.tuple #[.bool true,e.key,e.val])) s4.hrel (Keep.refl s4.hrel)).put (some t8) (.any (.bool true)) s4.hrel (Keep.refl s4.hrel)
    have h66:((a.put (some t7) (.tuple #[.bool true,e.key,e.val])).put (some t8) (.bool true)).eval (.tmp t6)= .pointer (some ⟨r,0,none⟩):=by
     have q7:=R.n7;have q8:=R.n8;rw[←h6];simp only[Act.eval,Act.put];rw[Xg,Xg,XB (λq=>q8 q.symm),XB (λq=>q7 q.symm)]
    have hsz7:((a.put (some t7) (.tuple #[.bool true,e.key,e.val])).put (some t8) (.bool true)).tmps.size=ts2.length:=(by rw[mG,mG];exact hsz);generalize ((a.put (some t7) (.tuple #[.bool true,e.key,e.val])).put (some t8) (.bool true))=a7 at*
    refine wp_block (wp_seq (wp_region_list ?_));rw[R.l3];refine gi (v:= .tuple #[e.key,e.val]) (w':=w') R.g4 (exe (by rw[h66];exact run_entry_at w' r b clock seen ents clock e hr6 hb6 hel.1 (YN.2 hborn))) ?_;rw[R.d4];have hp2:rem.Perm (rdE e::(leftOf ents (seen.push e.born)).toList.map rdE):=hperm.trans ((DR hborn he).map rdE);have hround:=RJ.round _ _ hp2;have s6:St G w' S' φ' h2 w' S' φ' (a7.put (some t9) (.tuple #[e.key,e.val])) _ h2:=(⟨s5.hrel,s5.trel,s5.defers,Keep.refl s5.hrel⟩:St G w' S' φ' h2 w' S' φ' a7 _ h2).put (some t9) (hany e hel.1 _ _ _ _) s5.hrel (Keep.refl s5.hrel);have comb:∀{a':Act} {W':World} {S'':Nat->Prop} {φ'':Place} {ts':List AV} {h':List AO},St G w' S' φ' h2 W' S'' φ'' a' ts' h'->St G W1 S1 φ1 (h1.set id .dead) W' S'' φ'' a' ts' h':=λq=>⟨q.hrel,q.trel,q.defers,s5.keep.trans q.keep⟩;have hsz2:=(DR hborn he).length_eq;simp only[WC,YA] at hsz2
    have again:∀{a':Act} {W':World} {S'':Nat->Prop} {φ'':Place} {ts':List AV} {h':List AO},St G w' S' φ' h2 W' S'' φ'' a' ts' h'->(∃ts5 h5,Wk h2.length ts' h' ts5 h5/\J ((leftOf ents (seen.push e.born)).toList.map rdE) ts5 h5)->
     (∃S' φ' ts' h' rem seen c0,St G W1 S1 φ1 (h1.set id .dead) W' S' φ' a' ts' h'/\W'.heap[b]?=some (.map ents clock)/\W'.heap[r]?=some (.mapIter (some b) clock seen c0)/\clock<=c0/\Free W' S' φ' h' b/\Free W' S' φ' h' r/\J rem ts' h'/\rem.Perm ((leftOf ents seen).toList.map rdE))/\Kf ents r W'<Kf ents r w:=λ{a' W' S'' φ'' ts' h'} q ⟨ts5,h5,wk,j5⟩=>by
     obtain⟨S5,φ5,q5⟩:=wk G w' S' φ' h2 _ _ _ _ rfl q;have fb9:=fb6.keep q5.keep;have fr9:=fr6.keep q5.keep;refine⟨⟨S5,φ5,ts5,h5,_,seen.push e.born,clock,comb q5,by rw[fb9.2];exact hb6,by rw[fr9.2];exact hr6,Wo _,fb9.1,fr9.1,j5,List.Perm.refl _⟩,?_⟩;simp only[Kf,hrw,fr9.2,hr6];omega
    refine uL ?_ ?_ post cs3 R.c3 w' S' φ' _ _ h2 s6 hround
    ·intro a8 W8 S8 φ8 ts8 h8 s8 hbody;refine wp_mono (hb s8 hbody) λx a9 W9 ⟨x,ts9,h9,S9,φ9,q1,q2,q3⟩=>?_;cases q2 with
     |normal=>exact again q3 q1
     |exit i=>
      simp only[Exit.inBlock];simp only[Ru] at q1;split
      ·rename_i hi;rw[Wz hi] at q1;exact again q3 q1
      ·rename_i hi;rw[WB hi] at q1;simp only[Exit.then,Exit.inBlock];split
       ·rename_i hj;rw[Wz hj] at q1;exact⟨.normal,ts9,h9,S9,φ9,q1,.normal,back (comb q3)⟩
       ·rename_i hj;rw[WB hj] at q1;exact⟨.exit i,ts9,h9,S9,φ9,q1,.exit i,back (comb q3)⟩
     |ret=>exact⟨_,ts9,h9,S9,φ9,q1,.ret,back (comb q3)⟩
     |pan t v x hp=>exact⟨_,ts9,h9,S9,φ9,q1,.pan t v x hp,back (comb q3)⟩
    ·intro a8 W8 S8 φ8 ts8 h8 t v x k1 k2 k3;exact⟨.pan t v,ts8,h8,S8,φ8,k3 ts8,.pan t v x k1,back (comb k2)⟩
  ·exact hk.elim
 ·intro a W S φ ts h t v x k1 k2 k3;exact⟨.pan t v,ts,h,S,φ,k3 ts,.pan t v x k1,k2⟩
theorem MD{c:Code}{k:AK}(hk:KOk P c k):∀{W0:World} {S0:Nat->Prop} {φ0:Place} {h0:List AO} {W:World} {S:Nat->Prop} {φ:Place} {a:Act} {ts:List AV} {h:List AO},St G W0 S0 φ0 h0 W S φ a ts h->
 ∀{Q:AX->List AV->List AO->Prop},AKW P G h0.length k ts h Q->c.wp P (Di G W0 S0 φ0 h0 Q) a W:=by
 induction hk with
 |skip=>intro W0 S0 φ0 h0 W S φ a ts h s Q hq;exact wp_skip ⟨.normal,ts,h,S,φ,hq,.normal,s⟩
 |text id ops cs hok=>intro W0 S0 φ0 h0 W S φ a ts h s Q hq;exact Gc hok s hq
 |any id ops cs pd df π hm hok hd hπ ho=>intro W0 S0 φ0 h0 W S φ a ts h s Q hq;exact Jh hm hok hd hπ ho s hq
 |anyT id ops cs pd df t hm hok hd ho=>intro W0 S0 φ0 h0 W S φ a ts h s Q hq;exact Lw hm hok hd t ho s hq
 |seq x y x' y' _ _ ih1 ih2=>
  intro W0 S0 φ0 h0 W S φ a ts h s Q hq;refine wp_seq (wp_mono (ih1 s hq) λe a' W' ⟨x,ts',h',S',φ',q1,q2,q3⟩=>?_);cases q2 with
  |normal=>exact ih2 q3 q1
  |exit id=>exact⟨_,ts',h',S',φ',q1,.exit id,q3⟩
  |ret=>exact⟨_,ts',h',S',φ',q1,.ret,q3⟩
  |pan t v x hp=>exact⟨_,ts',h',S',φ',q1,.pan t v x hp,q3⟩
 |cut x y x' y' _ _ ih1 ih2=>
  intro W0 S0 φ0 h0 W S φ a ts h s Q ⟨J,hq,hj⟩;refine wp_seq (wp_mono (ih1 s hq) λe a' W' ⟨x,ts',h',S',φ',q1,q2,q3⟩=>?_);cases q2 with
  |normal=>
   obtain⟨ts1,h1,w,j⟩:=q1;obtain⟨S1,φ1,s1⟩:=w G W0 S0 φ0 h0 _ _ _ _ rfl q3;exact ih2 s1 (hj _ _ j)
  |exit id=>exact⟨_,ts',h',S',φ',q1,.exit id,q3⟩
  |ret=>exact⟨_,ts',h',S',φ',q1,.ret,q3⟩
  |pan t v x hp=>exact⟨_,ts',h',S',φ',q1,.pan t v x hp,q3⟩
 |cond c c' x y x' y' hc _ _ ih1 ih2=>
  intro W0 S0 φ0 h0 W S φ a ts h s Q hq;simp only[AKW] at hq;split at hq
  ·rename_i v hv;have:=ay hc s.trel;rw[hv] at this;refine wp_cond_split (jK this) (λe=>ih1 s (hq.1 e)) (λe=>ih2 s (hq.2 e))
  ·exact hq.elim
 |blk id x x' _ ih=>
  intro W0 S0 φ0 h0 W S φ a ts h s Q hq;refine wp_block (wp_mono (ih s hq) λe a' W' ⟨x,ts',h',S',φ',q1,q2,q3⟩=>?_);cases q2 with
  |normal=>exact⟨_,ts',h',S',φ',q1,.normal,q3⟩
  |exit i=>
   simp only[Exit.inBlock];simp only at q1;split
   ·rename_i he;rw[Wz he] at q1;exact⟨_,ts',h',S',φ',q1,.normal,q3⟩
   ·rename_i he;rw[WB he] at q1;exact⟨_,ts',h',S',φ',q1,.exit i,q3⟩
  |ret=>exact⟨_,ts',h',S',φ',q1,.ret,q3⟩
  |pan t v x hp=>exact⟨_,ts',h',S',φ',q1,.pan t v x hp,q3⟩
 |loop x x' _ ih=>
  intro W0 S0 φ0 h0 W S φ a ts h s Q hq;obtain⟨n,hn⟩:=hq;refine wp_loop_rounds n ?_
  induction n generalizing W S φ a ts h with
  |zero=>exact hn.elim
  |succ n ihn=>
   obtain⟨ts1,h1,w,hb⟩:=hn;obtain⟨S1,φ1,s1⟩:=w G W0 S0 φ0 h0 _ _ _ _ rfl s;show Code.wp P x _ a W;refine wp_mono (ih s1 hb) λe a' W' ⟨x,ts',h',S',φ',q1,q2,q3⟩=>?_;cases q2 with
   |normal=>exact ihn q3 q1
   |exit i=>exact⟨_,ts',h',S',φ',q1,.exit i,q3⟩
   |ret=>exact⟨_,ts',h',S',φ',q1,.ret,q3⟩
   |pan t v x hp=>exact⟨_,ts',h',S',φ',q1,.pan t v x hp,q3⟩
 |exit id=>intro W0 S0 φ0 h0 W S φ a ts h s Q hq;exact wp_exit ⟨_,ts,h,S,φ,hq,.exit id,s⟩
 |ret=>intro W0 S0 φ0 h0 W S φ a ts h s Q hq;exact wp_ret ⟨_,ts,h,S,φ,hq,.ret,s⟩
 |rng i1 i2 i3 id1 id2 c k R _ ih=>
  intro W0 S0 φ0 h0 W S φ a ts h s Q hq;exact LM R i1 i2 i3 id1 id2 (body:=λk'=>AKW P G k' k) (λs _ hq=>ih s hq) s hq
end
end Go.Aw
namespace Go.Aw
inductive RV where
 |t (n:Nat)
 |c (n:Nat) (sz:Option Nat)
structure FK where
 ntmps:Nat
 res:List RV
 ak:AK
def Nk(P:Program)(ops:Array Oper)(o:Oper):Option CO:=
 if(comp P o).isQ then none else
 match o.guard with
 |none=>some ⟨o.dst,none,comp P o⟩
 |some (j,w)=>match(ops[j]?).bind (·.dst) with
  |some d=>some ⟨o.dst,some (d,w),comp P o⟩
  |none=>none
def tg(P:Program)(ops:Array Oper):List Oper->Option (List CO)
 |[]=>some []
 |o::r=>match Nk P ops o,tg P ops r with
  |some c,some l=>some (c::l)
  |_,_=>none
def tn(B:List (List Nat))(n i:Nat):List Nat:=(List.range n).filter λj=>j !=i&& !((B.getD j []).contains i)&& !((B.getD i []).contains j)
def RN:AI->Bool
 | .call .. | .callv .. =>true
 |_=>false
def Qx(cs:List CO)(ps:List (Nat × Nat × AOp)):Bool:=ps.any λx=>match x.2.2 with
 | .t d=>cs.any λc=>c.dst==some d&&(match c.ai with
   | .bld _ qs=>qs.any λy=>(match y.2.2 with
     | .t d2=>cs.any λc2=>c2.dst==some d2&&(match c2.ai with| .app .. =>true|_=>false)
     |_=>false)
   |_=>false)
 |_=>false
def VG:List AV->Bool
 |[.p _,.p _,.nils,.p _]=>true
 |[.p _,.p _,.nils]=>true
 |[.p _,.nils]=>true
 |[.nils,.nils,.p _,.p _,.nils]=>true
 |_=>false
def Vl:List AV->Bool
 |[.p (.int .i64 0)]=>true
 |_=>false
def Gq:AI->Bool
 | .call .. =>true
 |_=>false
def Fw(B:List (List Nat))(cs:List CO)(i:Nat)(c:CO):CO:=
 match c.ai with
 | .bsl e z n l=>if n !=0&&(tn B cs.length i).any λj=>(match cs[j]? with|some cj=> !cj.ai.silent&& !((Qx cs l||VG z)&&(zT cj).isSome)|none=>true) then{c with ai:= .bslP e z n l}
   else if n==0&&e==1&&Vl z&&(tn B cs.length i).any λj=>(match cs[j]? with|some cj=>Gq cj.ai|none=>false) then{c with ai:= .bslP e z n l} else c
 |_=>c
def Ny(ops:Array Oper)(B:List (List Nat))(cs:List CO):Option (Nat × Nat):=
 (List.range cs.length).findSome? λi=>match(cs[i]?:Option CO) with
   |some ⟨some d,none,AI.alloc _⟩=>if((tn B cs.length i).any λj=>(match cs[j]? with|some cj=> !cj.ai.silent|none=>true))&&Ld ops cs B i d then some (i,d) else none
   |_=>none
def Gm(df:Option (Nat × Nat))(B:List (List Nat))(cs:List CO)(i:Nat)(c:CO):CO:=
 match c.ai with
 | .call f l=>
   if(tn B cs.length i).any λj=>df.map (·.1) !=some j&&(match cs[j]? with|some cj=> !cj.ai.quiet&& !RN cj.ai|none=>true) then{c with ai:= .pcall f l}
   else if(tn B cs.length i).any λj=>df.map (·.1) !=some j&&(match cs[j]? with|some cj=> !cj.ai.silent&&(zT cj).isNone|none=>true) then{c with ai:= .qcall f l} else c
 | .callv f l=>if(tn B cs.length i).any λj=>df.map (·.1) !=some j&&(match cs[j]? with|some cj=> !cj.ai.silent&&(zT cj).isNone|none=>true) then{c with ai:= .qcallv f l} else c
 |_=>c
def fy(m:Nat->CO->CO):Nat->List CO->List CO
 |_,[]=>[]
 |i,c::r=>m i c::fy m (i+1) r
def Kp(df:Option (Nat × Nat))(B:List (List Nat))(cs0:List CO):List CO:=
 let cs1:=fy (Fw B cs0) 0 cs0
 fy (Gm df B cs1) 0 cs1
def QE(ai:AI):Bool:=match ai with
 | .pcall .. =>true
 | .bslP _ z _ _=> !z.all λv=>match v with| .p _=>true|_=>false
 |_=>false
def Jq(B:List (List Nat))(cs:List CO)(i:Nat)(c:CO):CO:=if QE (Fw B cs i c).ai then c else Fw B cs i c
def Ic(df:Option (Nat × Nat))(B:List (List Nat))(cs:List CO)(i:Nat)(c:CO):CO:=if QE (Gm df B cs i c).ai then c else Gm df B cs i c
def Hn(df:Option (Nat × Nat))(B:List (List Nat))(cs0:List CO):List CO:=
 let cs1:=fy (Jq B cs0) 0 cs0
 fy (Ic df B cs1) 0 cs1
def lW(df:Option (Nat × Nat))(B:List (List Nat))(cs:List CO)(j:Nat):List (Nat × Option Nat × Nat × Nat):=
 match cs[j]? with
 |some cj=>if cj.ai.quiet||df.map (·.1)==some j then[] else(tn B cs.length j).filterMap λl=>((cs[l]?).bind zT).map (l,·)
 |none=>[]
def tx(df:Option Nat)(B:List (List Nat))(ops:Array Oper)(cs:List CO):Nat->Array Bool->List Nat
 |0,_=>[]
 |n+1,listed=>
  let rs:=dX df ops cs B listed
  let sil:=rs.filter λi=>match cs[i]? with|some c=>c.ai.silent|none=>false
  let qui:=rs.filter λi=>match cs[i]? with|some c=>c.ai.quiet|none=>false
  match sil,qui,rs with
  |i::_,_,_=>i::tx df B ops cs n (listed.setIfInBounds i true)
  |[],i::_,_=>i::tx df B ops cs n (listed.setIfInBounds i true)
  |[],[],i::_=>i::tx df B ops cs n (listed.setIfInBounds i true)
  |[],[],[]=>[]
def JR(df:Option Nat)(B:List (List Nat))(ops:Array Oper)(cs:List CO)(pd:Nat->List (Nat × Option Nat × Nat × Nat)):Nat->Array Bool->OTi
 |0,_=> .done
 |n+1,listed=>
  let rs:=dX df ops cs B listed
  let sil:=rs.filter λi=>match cs[i]? with|some c=>c.ai.silent|none=>false
  let qui:=rs.filter λi=>match cs[i]? with|some c=>c.ai.quiet|none=>false
  match(sil++qui).find? λi=>En df ops cs B pd i listed with
  |some i=> .one i (JR df B ops cs pd n (listed.setIfInBounds i true))
  |none=>match rs with
   |[]=> .done
   |_=>rs.foldr (λi r=> .alt i (JR df B ops cs pd n (listed.setIfInBounds i true)) r) .tru
def sW(P:Program)(ops:Array Oper):Bool->Option AK
 |false=>(tg P ops ops.toList).map .reg
 |true=>match tg P ops ops.toList with
  |some cs0=>
   let B:=uB ops.toList []
   let df:=Ny ops B cs0
   let cs:=Kp df B cs0
   let π:=tx (df.map (·.1)) B ops cs ops.size (Array.replicate ops.size false)
   let cH:=Hn df B cs0
   let πH:=tx (df.map (·.1)) B ops cH ops.size (Array.replicate ops.size false)
   let tH:=JR (df.map (·.1)) B ops cH (lW df B cH) ops.size (Array.replicate ops.size false)
   if(cs.any λc=>QE c.ai)=true/\P.follows .mixedOrders=true/\ln ops cH df=true/\πH.length=ops.size/\vU (df.map (·.1)) ops cH B (lW df B cH) πH (Array.replicate ops.size false)=true then some (.reg (forget df++ug cH (lW df B cH) πH)) else
   if(cs.any λc=>QE c.ai)=true/\P.follows .mixedOrders=true/\ln ops cH df=true/\nR (df.map (·.1)) ops cH B (lW df B cH) ops.size tH [] (Array.replicate ops.size false)=true then some (.ot (.one (forget df) (tH.comp cH (lW df B cH) (Array.replicate ops.size false)))) else
   if P.follows .mixedOrders=true/\ln ops cs df=true/\π.length=ops.size/\vU (df.map (·.1)) ops cs B (lW df B cs) π (Array.replicate ops.size false)=true then some (.reg (forget df++ug cs (lW df B cs) π)) else
    let t:=JR (df.map (·.1)) B ops cs (lW df B cs) ops.size (Array.replicate ops.size false)
    if P.follows .mixedOrders=true/\ln ops cs df=true/\nR (df.map (·.1)) ops cs B (lW df B cs) ops.size t [] (Array.replicate ops.size false)=true then some (.ot (.one (forget df) (t.comp cs (lW df B cs) (Array.replicate ops.size false)))) else none
  |none=>none
def Eg(P:Program)(a b:Code):Option (List CO × AOp × Nat × Nat × Nat × Nat × Nat × Nat × List CO):=
 match a,b with
 | .region _ ops1 false,.block id1 (.loop (.seq (.region _ ops2 false) (.seq (.cond (.tmp s8) .skip (.exit j1)) (.block id2 (.seq (.region _ ops3 false) _)))))=>
   match ops1.toList.reverse,ops2.toList,ops3.toList with
   |o1::preR,[o2,o3],o4::post=>
    match o1.op,o1.dst,o2.op,o2.dst,o3.op,o3.dst,o4.op,o4.dst with
    | .range t xo,some t6,.next (.tmp a6) false,some t7,.extract (.tmp a7) 0,some t8,.entry (.tmp b6),some t9=>
      match P.underlying t,cop xo,tg P ops1 preR.reverse,tg P ops3 post with
      |some (.map _ _),some x,some cs,some cs3=>
       if(o1.guard.isNone&&o2.guard.isNone&&o3.guard.isNone&&o4.guard.isNone&&a6==t6&&b6==t6&&a7==t7&&s8==t8&&j1==id1&&t6 !=t7&&t6 !=t8)=true then some (cs,x,t6,t7,t8,t9,id1,id2,cs3) else none
      |_,_,_,_=>none
    |_,_,_,_,_,_,_,_=>none
   |_,_,_=>none
 |_,_=>none
def lb(P:Program):Code->Option AK
 | .skip=>some .skip
 | .region _ ops draw=>sW P ops draw
 | .seq a b=>match lb P a,lb P b with
   |some a',some b'=>match Eg P a b with
    |none=>some (.seq a' b')
    |some (cs,x,t6,t7,t8,t9,id1,id2,cs3)=>match b' with
     | .blk _ (.loop (.seq _ (.seq _ (.blk _ (.seq _ k)))))=>some (.rng cs x t6 t7 t8 t9 id1 id2 cs3 k)
     |_=>none
   |_,_=>none
 | .cond c a b=>match cop c,lb P a,lb P b with
   |some c',some a',some b'=>some (.cond c' a' b')
   |_,_,_=>none
 | .block id a=>(lb P a).map (.blk id)
 | .loop a=>(lb P a).map .loop
 | .exit id=>some (.exit id)
 | .ret=>some .ret
 |_=>none
def rY(P:Program):List ResultVar->Option (List RV)
 |[]=>some []
 | .tmp t::r=>(rY P r).map (.t t:: ·)
 | .cell a t::r=>match su P t,rY P r with
   |some sz,some l=>some (.c a sz::l)
   |_,_=>none
def af(P:Program)(f:FuncId):Option FK:=
 match P.funcs[f]? with
 |some fn=>match fn.body with
  |some c=>match lb P c,rY P fn.results.toList with
   |some ak,some rs=>if dH P f=true then some ⟨fn.ntmps,rs,ak⟩ else none
   |_,_=>none
  |none=>none
 |none=>none
section
variable {P:Program} {G:aw}
theorem Re(o:Oper)(hq:(comp P o).isQ=false):(bM P o=some (comp P o)/\(comp P o).isQ=false)\/rW P o=comp P o:=by
 revert hq;unfold comp;cases bM P o with
 |some ai=>exact λhq=> .inl ⟨rfl,hq⟩
 |none=>exact λ_=> .inr rfl
theorem Na{ops:Array Oper}{o:Oper}{c:CO}(h:Nk P ops o=some c):sU P ops o c:=by
 unfold Nk at h;split at h<;>first|(cases h;done)|skip
 rename_i hq;have hor:=Re (P:=P) o (by simpa using hq)
 have key:(bM P o=some (comp P o)/\(comp P o).isQ=false)\/(∃f l,bM P o=some (.call f l)/\comp P o= .qcall f l)\/(∃f l,bM P o=some (.callv f l)/\comp P o= .qcallv f l)\/
  (∃f l,bM P o=some (.call f l)/\comp P o= .pcall f l)\/(∃e z n l,bM P o=some (.bsl e z n l)/\comp P o= .bslP e z n l)\/rW P o=comp P o:=by
  rcases hor with h1|h1
  ·exact .inl h1
  ·exact .inr (.inr (.inr (.inr (.inr h1))))
 split at h
 ·rename_i h2;cases h;exact⟨rfl,by simp[h2],key⟩
 ·rename_i j w h2;split at h<;>first|(cases h;done)|skip
  rename_i d hd;cases h;exact⟨rfl,by simp[h2,hd],key⟩
theorem fh{ops:Array Oper}:∀{l:List Oper} {cs:List CO},tg P ops l=some cs->eB P ops l cs
 |[],cs,h=>by cases h;exact⟨rfl,λj o c h=>by simp at h⟩
 |o::r,cs,h=>by
  simp only[tg] at h;split at h<;>first|(cases h;done)|skip
  rename_i c l h1 h2;cases h;obtain⟨k1,k2⟩:=fh h2;refine⟨by simp[k1],λj o' c' e1 e2=>?_⟩;cases j with
  |zero=>simp at e1 e2;subst e1;subst e2;exact Na h1
  |succ j=>simp at e1 e2;exact k2 j o' c' e1 e2
theorem Hi{B:List (List Nat)}{cs:List CO}{i:Nat}{ops:Array Oper}{o:Oper}{c:CO}(h:sU P ops o c):sU P ops o (Fw B cs i c):=by
 unfold Fw;split
 ·rename_i e z n l hai
  have key:sU P ops o {c with ai:= .bslP e z n l}:=by
   obtain⟨h1,h2,h3⟩:=h;refine⟨h1,h2,?_⟩;rcases h3 with⟨h3,hq⟩|⟨f,l,h3,e⟩|⟨f,l,h3,e⟩|⟨f,l,h3,e⟩|⟨_,_,_,_,h3,e⟩|h3
   ·rw[hai] at h3;exact .inr (.inr (.inr (.inr (.inl ⟨_,_,_,_,h3,rfl⟩))))
   all_goals first|(rw[hai] at e;cases e;done)|(exfalso;have:=mt P o;rw[h3,hai] at this;cases this)
  split
  ·exact key
  ·split
   ·exact key
   ·exact h
 ·exact h
theorem GV{df:Option (Nat × Nat)}{B:List (List Nat)}{cs:List CO}{i:Nat}{ops:Array Oper}{o:Oper}{c:CO}(h:sU P ops o c):sU P ops o (Gm df B cs i c):=by
 unfold Gm;split
 ·rename_i f l hai
  have h3':bM P o=some (.call f l):=by
   obtain⟨h1,h2,h3⟩:=h;rcases h3 with⟨h3,hq⟩|⟨f,l,h3,e⟩|⟨f,l,h3,e⟩|⟨f,l,h3,e⟩|⟨_,_,_,_,h3,e⟩|h3
   ·rw[hai] at h3;exact h3
   all_goals first|(rw[hai] at e;cases e;done)|(exfalso;have:=mt P o;rw[h3,hai] at this;cases this)
  split
  ·exact⟨h.1,h.2.1,.inr (.inr (.inr (.inl ⟨_,_,h3',rfl⟩)))⟩
  ·split
   ·exact⟨h.1,h.2.1,.inr (.inl ⟨_,_,h3',rfl⟩)⟩
   ·exact h
 ·rename_i f l hai
  have h3':bM P o=some (.callv f l):=by
   obtain⟨h1,h2,h3⟩:=h;rcases h3 with⟨h3,hq⟩|⟨f,l,h3,e⟩|⟨f,l,h3,e⟩|⟨f,l,h3,e⟩|⟨_,_,_,_,h3,e⟩|h3
   ·rw[hai] at h3;exact h3
   all_goals first|(rw[hai] at e;cases e;done)|(exfalso;have:=mt P o;rw[h3,hai] at this;cases this)
  split
  ·exact⟨h.1,h.2.1,.inr (.inr (.inl ⟨_,_,h3',rfl⟩))⟩
  ·exact h
 ·exact h
theorem LC{B:List (List Nat)}{cs:List CO}{i:Nat}{ops:Array Oper}{o:Oper}{c:CO}(h:sU P ops o c):sU P ops o (Jq B cs i c):=by
 unfold Jq;split
 ·exact h
 ·exact Hi h
theorem Ml{df:Option (Nat × Nat)}{B:List (List Nat)}{cs:List CO}{i:Nat}{ops:Array Oper}{o:Oper}{c:CO}(h:sU P ops o c):sU P ops o (Ic df B cs i c):=by
 unfold Ic;split
 ·exact h
 ·exact GV h
theorem ig{m:Nat->CO->CO}{ops:Array Oper}(hm:∀i o c,sU P ops o c->sU P ops o (m i c)):∀{l:List Oper} {r:List CO} (i:Nat),eB P ops l r->eB P ops l (fy m i r)
 |[],[],_,h=>h
 |o::l,c::r,i,h=>by
  have h':eB P ops l r:=⟨by have:=h.1;simpa using this,λj o c h1 h2=>h.2 (j+1) o c (by simpa using h1) (by simpa using h2)⟩;obtain⟨k1,k2⟩:=ig hm (i+1) h';refine⟨by simp[fy,k1],λj o' c' e1 e2=>?_⟩;cases j with
  |zero=>simp[fy] at e1 e2;subst e1;subst e2;exact hm _ _ _ (h.2 0 o c rfl rfl)
  |succ j=>simp[fy] at e1 e2;exact k2 j o' c' e1 e2
 |[],_::_,_,h=>by have:=h.1;simp at this
 |_::_,[],_,h=>by have:=h.1;simp at this
theorem zl{df:Option (Nat × Nat)}{B:List (List Nat)}{cs:List CO}{ops:Array Oper}{l:List Oper}(h:eB P ops l cs):eB P ops l (Hn df B cs):=
 ig (λ_ _ _=>Ml) 0 (ig (λ_ _ _=>LC) 0 h)
theorem Ck{df:Option (Nat × Nat)}{B:List (List Nat)}{cs:List CO}{ops:Array Oper}{l:List Oper}(h:eB P ops l cs):eB P ops l (Kp df B cs):=
 ig (λ_ _ _=>GV) 0 (ig (λ_ _ _=>Hi) 0 h)
theorem IG{a b:Code}{cs cs3:List CO}{x:AOp}{t6 t7 t8 t9 id1 id2:Nat}(h:Eg P a b=some (cs,x,t6,t7,t8,t9,id1,id2,cs3)):∃(i1 i2 i3:Nat) (ops1 ops2 ops3:Array Oper) (pre post:List Oper) (o1 o2 o3 o4:Oper) (t:TypeId) (xo:Operand) (tk tv:TypeId) (c:Code),
 a= .region i1 ops1 false/\b= .block id1 (.loop (.seq (.region i2 ops2 false) (.seq (.cond (.tmp t8) .skip (.exit id1)) (.block id2 (.seq (.region i3 ops3 false) c)))))/\RngOk P ops1 ops2 ops3 pre post o1 o2 o3 o4 cs cs3 t xo x t6 t7 t8 t9 tk tv:=by
 unfold Eg at h;split at h<;>first|(cases h;done)|skip
 rename_i i1 ops1 id1' i2 ops2 s8 j1 id2' i3 ops3 c;split at h<;>first|(cases h;done)|skip
 rename_i o1 preR o2 o3 o4 post e1 e2 e3;split at h<;>first|(cases h;done)|skip
 rename_i t xo t6' a6 t7' a7 t8' b6 t9' p1 d1 p2 d2 p3 d3 p4 d4;split at h<;>first|(cases h;done)|skip
 rename_i tk tv x' cs' cs3' hm hx hc1 hc3;split at h<;>first|(cases h;done)|skip
 rename_i hg;cases h;simp only[Wr,beq_iff_eq,bne_iff_ne,ne_eq,Option.isNone_iff_eq_none] at hg;obtain⟨⟨⟨⟨⟨⟨⟨⟨⟨⟨g1,g2⟩,g3⟩,g4⟩,rfl⟩,rfl⟩,rfl⟩,rfl⟩,rfl⟩,n7⟩,n8⟩:=hg;refine⟨i1,i2,i3,ops1,ops2,ops3,preR.reverse,post,o1,o2,o3,o4,t,xo,tk,tv,c,rfl,rfl,?_,fh hc1,g1,d1,p1,hm,hx,e2,g2,d2,p2,g3,d3,p3,e3,g4,d4,p4,fh hc3,n7,n8⟩;have:=congrArg List.reverse e1;simpa using this
theorem ik:∀{c:Code} {k:AK},lb P c=some k->KOk P c k
 | .skip,k,h=>by cases h;exact .skip
 | .region id ops false,k,h=>by
   simp only[lb,sW,Wf] at h;obtain⟨cs,h1,rfl⟩:=h;exact .text id ops cs (fh h1)
 | .region id ops true,k,h=>by
   simp only[lb,sW] at h;split at h<;>first|(cases h;done)|skip
   rename_i cs0 h1;split at h
   ·rename_i hc;cases h;exact .any id ops _ _ _ _ hc.2.1 (zl (fh h1)) hc.2.2.1 hc.2.2.2.1 hc.2.2.2.2
   split at h
   ·rename_i hc;cases h;exact .anyT id ops _ _ _ _ hc.2.1 (zl (fh h1)) hc.2.2.1 hc.2.2.2
   split at h
   ·rename_i hc;cases h;exact .any id ops _ _ _ _ hc.1 (Ck (fh h1)) hc.2.1 hc.2.2.1 hc.2.2.2
   ·split at h<;>first|(cases h;done)|skip
    rename_i hc;cases h;exact .anyT id ops _ _ _ _ hc.1 (Ck (fh h1)) hc.2.1 hc.2.2
 | .seq a b,k,h=>by
   simp only[lb] at h;split at h<;>first|(cases h;done)|skip
   rename_i h1 h2;split at h
   ·cases h;exact .seq _ _ _ _ (ik h1) (ik h2)
   ·rename_i hr;split at h<;>first|(cases h;done)|skip
    cases h;have q:=ik h2;obtain⟨i1,i2,i3,ops1,ops2,ops3,pre,post,o1,o2,o3,o4,t,xo,tk,tv,c,rfl,rfl,R⟩:=IG hr;cases q with|blk _ _ _ q=>cases q with|loop _ _ q=>cases q with|seq _ _ _ _ _ q=>cases q with|seq _ _ _ _ _ q=>cases q with|blk _ _ _ q=>cases q with|seq _ _ _ _ _ q=>exact .rng _ _ _ _ _ _ _ R q
 | .cond c a b,k,h=>by
   simp only[lb] at h;split at h<;>first|(cases h;done)|skip
   rename_i h1 h2 h3;cases h;exact .cond _ _ _ _ _ _ h1 (ik h2) (ik h3)
 | .block id a,k,h=>by
   simp only[lb,Wf] at h;obtain⟨a',h1,rfl⟩:=h;exact .blk id _ _ (ik h1)
 | .loop a,k,h=>by
   simp only[lb,Wf] at h;obtain⟨a',h1,rfl⟩:=h;exact .loop _ _ (ik h1)
 | .exit id,k,h=>by cases h;exact .exit id
 | .ret,k,h=>by cases h;exact .ret
 | .rangeFunc ..,k,h=>by cases h
 | .scope _,k,h=>by cases h
 | .label _,k,h=>by cases h
 | .goto _,k,h=>by cases h
 | .refuse _,k,h=>by cases h
def KY(G:aw)(ts:List AV)(h:List AO):RV->Option AV
 | .t n=>some (ts.getD n .any)
 | .c n sz=>match nf G h (ts.getD n .any) with
   |some (cs,off)=>iZ cs off sz
   |none=>none
def pF(G:aw)(ts:List AV)(h:List AO):List RV->Option (List AV)
 |[]=>some []
 |r::l=>match KY G ts h r,pF G ts h l with
  |some v,some vs=>some (v::vs)
  |_,_=>none
def vN:List AV->AV
 |[v]=>v
 |vs=> .tup vs
def CS(G:aw)(res:List RV)(R:ARes->List AO->Prop)(x:AX)(ts:List AV)(h:List AO):Prop:=
 match x with
 | .normal| .ret=>∃vs,pF G ts h res=some vs/\R (.ret (vN vs)) h
 | .pan t v=>R (.pan t v) h
 | .exit _=>False
theorem Nx{r:ResultVar}{l:List ResultVar}{r':RV}{l':List RV}(hc:rY P (r::l)=some (r'::l')){W:World}{S:Nat->Prop}{φ:Place}{h:List AO}(H:HRel G W S φ h){ts:List AV}{a:Act}(T:TRel W S φ h.length ts a.tmps){v:AV}
 (he:KY G ts h r'=some v):
 rY P l=some l'/\∃x,((match r with| .tmp t=>pure (a.tmps.getD t undef)| .cell d t=>do loadVar t (←asAddr (a.tmps.getD d undef)):Sem Value)).run P W= .ok x W/\VRel W S φ h.length v x:=by
 cases r with
 |tmp t=>
  simp only[rY,Wf] at hc;obtain⟨l2,h1,h2⟩:=hc;cases h2;refine⟨h1,a.tmps.getD t undef,rfl,?_⟩;simp only[KY,WO] at he;subst he;exact ay (o:= .tmp t) rfl T
 |cell d t=>
  simp only[rY] at hc;split at hc<;>first|(cases hc;done)|skip
  rename_i sz l2 hr hl;cases hc;refine⟨hl,?_⟩;simp only[KY] at he;split at he<;>first|(cases he;done)|skip
  rename_i cs off e1;have hrx:=ay (o:= .tmp d) rfl T;simp only[AOp.ev,Act.eval] at hrx;generalize hvx:a.tmps.getD d undef=vx at hrx;obtain⟨b,o',rfl,hcell⟩:=ML H hrx e1;obtain⟨hA,hz⟩:=vq hr W;unfold iZ at he;split at he
  ·split at he
   ·rename_i c hcc;split at he
    ·cases he;obtain⟨y,k1,k2⟩:=hcell off _ hcc;exact⟨y,by simp only[hvx,asAddr];simp[loadVar,hA,load,Sem.run,k1],k2⟩
    ·cases he
   ·cases he
  ·rename_i m;split at he
   ·rename_i hm;cases he
    obtain⟨vs,q1,q2,q3⟩:=zn (W:=W) (S:=S) (φ:=φ) (n:=h.length) (b:=b) (o':=o'+off) (cs:=(cs.drop off).take m) λj c hj=>by
     rw[Xo] at hj;split at hj
     ·rw[WZ] at hj;have:=hcell (off+j) c hj;rwa[←XR] at this
     ·cases hj
    have hlen:vs.length=m:=(by rw[q1];simp;omega);refine⟨.agg vs.toArray,?_,.agg _ _ (by simp[q1]) λj c v e1 e2=>q3 j c v e1 (by simpa using e2)⟩;have hl:=run_loadCells_list (P:=P) W ⟨b,o'+off,none⟩ vs λj v hj=>(by rw[fJ];exact q2 j v hj);rw[hlen] at hl;simp only[hvx,asAddr];simp[loadVar,hA,hz m rfl,hl]
   ·cases he
theorem FJ{W:World}{S:Nat->Prop}{φ:Place}{h:List AO}(H:HRel G W S φ h){ts:List AV}{a:Act}(T:TRel W S φ h.length ts a.tmps):∀{l:List ResultVar} {l':List RV} {vs:List AV},rY P l=some l'->pF G ts h l'=some vs->
 ∃xs:List Value,(l.mapM λr=>(match r with| .tmp t=>pure (a.tmps.getD t undef)| .cell d t=>do loadVar t (←asAddr (a.tmps.getD d undef)):Sem Value)).run P W= .ok xs W/\Ptw W S φ h.length vs xs
 |[],l',vs,hc,he=>by cases hc;cases he;exact⟨[],by simp,rfl,λj c v h=>by simp at h⟩
 |r::l,l',vs,hc,he=>by
  have:∃r' l2,l'=r'::l2:=by
   cases r with
   |tmp t=>simp only[rY,Wf] at hc;obtain⟨l2,_,rfl⟩:=hc;exact⟨_,_,rfl⟩
   |cell d t=>simp only[rY] at hc;split at hc<;>first|(cases hc;done)|(cases hc;exact⟨_,_,rfl⟩)
  obtain⟨r',l2,rfl⟩:=this;simp only[pF] at he;split at he<;>first|(cases he;done)|skip
  rename_i v vs' h1 h2;cases he;obtain⟨k1,x,k2,k3⟩:=Nx hc H T h1;obtain⟨xs,k4,k5⟩:=FJ H T k1 h2;refine⟨x::xs,?_,by simp[k5.1],λj c y e1 e2=>?_⟩
  ·rw[Zd];simp only[Sem.run_bind,k2,Result.andThen,k4];rfl
  ·cases j with
   |zero=>simp at e1 e2;subst e1;subst e2;exact k3
   |succ j=>simp at e1 e2;exact k5.2 j c y e1 e2
def AK.whole:AK->AK
 | .seq a b=> .seq a.whole b.whole
 | .cut a b=> .seq a.whole b.whole
 | .cond c a b=> .cond c a.whole b.whole
 | .blk id a=> .blk id a.whole
 | .loop a=> .loop a.whole
 | .rng cs x t6 t7 t8 t9 id1 id2 cs3 k=> .rng cs x t6 t7 t8 t9 id1 id2 cs3 k.whole
 |k=>k
theorem KOk.cuts:∀{k:AK} {c:Code},KOk P c k.whole->KOk P c k
 | .skip,_,h=>h
 | .reg _,_,h=>h
 | .ot _,_,h=>h
 | .exit _,_,h=>h
 | .ret,_,h=>h
 | .seq a b,_,h=>by
   simp only[AK.whole] at h;cases h with|seq _ _ _ _ h1 h2=>exact .seq _ _ _ _ h1.cuts h2.cuts
 | .cut a b,_,h=>by
   simp only[AK.whole] at h;cases h with|seq _ _ _ _ h1 h2=>exact .cut _ _ _ _ h1.cuts h2.cuts
 | .cond c a b,_,h=>by
   simp only[AK.whole] at h;cases h with|cond _ _ _ _ _ _ hc h1 h2=>exact .cond _ _ _ _ _ _ hc h1.cuts h2.cuts
 | .blk id a,_,h=>by
   simp only[AK.whole] at h;cases h with|blk _ _ _ h1=>exact .blk _ _ _ h1.cuts
 | .loop a,_,h=>by
   simp only[AK.whole] at h;cases h with|loop _ _ h1=>exact .loop _ _ h1.cuts
 | .rng ..,_,h=>by
   simp only[AK.whole] at h;cases h with|rng _ _ _ _ _ _ _ R h1=>exact .rng _ _ _ _ _ _ _ R h1.cuts
theorem AC.enterK{f:FuncId}{F:FK}(hF:af P f=some F)(K:AK)(hK:∀c,KOk P c F.ak->KOk P c K){args:List AV}{h:List AO}{R:ARes->List AO->Prop}
 (H:AKW P G h.length K (args++List.replicate (F.ntmps-args.length) .any) h (CS G F.res R)):AC P G f args h R:=by
 unfold af at hF;split at hF<;>first|(cases hF;done)|skip
 rename_i fn hf;split at hF<;>first|(cases hF;done)|skip
 rename_i c hb;split at hF<;>first|(cases hF;done)|skip
 rename_i ak rs hk hr;split at hF<;>first|(cases hF;done)|skip
 rename_i hcall;cases hF;refine⟨hcall,λW S φ vs hH hA=>?_⟩
 have s:St G W S φ h W S φ {tmps:=vs++Array.replicate (fn.ntmps-vs.size) undef,defers:=[]} (args++List.replicate (fn.ntmps-args.length) .any) h:=by
  refine⟨hH,⟨by simp[hA.1],λi v hi=>?_⟩,rfl,Keep.refl hH⟩;rw[XI] at hi;split at hi
  ·rename_i hl;have hl':i<vs.size:=by rw[hA.1];exact hl
   have:(vs++Array.replicate (fn.ntmps-vs.size) undef).getD i undef=vs[i]:=by rw[Xg,YP hl',WW hl'];rfl
   simp only;rw[this];exact hA.2 i v _ hi (WW hl')
  ·have:=Wq hi;rw[(XL.1 this).2];exact .any _
 refine calls_of_wp hf hb (wp_mono (MD (hK _ (ik hk)) s H) λe a' W' ⟨x,ts,h',S',φ',q1,q2,q3⟩=>?_)
 have fin:(∃vs,pF G ts h' rs=some vs/\R (.ret (vN vs)) h')->a'.defers=[]/\∃v,(results fn a'.tmps).run P W'= .ok v W'/\∃r S' φ' h',R r h'/\HRel G W' S' φ' h'/\ERel W' S' φ' h'.length r (.returned v)/\Keep W S φ h W' S' φ' h':=λ⟨vs,e1,e2⟩=>by
  obtain⟨xs,k1,k2⟩:=FJ q3.hrel q3.trel hr e1
  have hm:(fn.results.mapM λr=>(match r with| .tmp t=>pure (a'.tmps.getD t undef)| .cell d t=>do loadVar t (←asAddr (a'.tmps.getD d undef)):Sem Value)).run P W'= .ok xs.toArray W':=by rw[Array.mapM_eq_mapM_toList,Sem.run_map,k1];rfl
  refine⟨q3.defers,if h:xs.toArray.size=1 then xs.toArray[0] else .tuple xs.toArray,?_,.ret (vN vs),S',φ',h',e2,q3.hrel,.ret _ _ ?_,q3.keep⟩
  ·unfold results;rw[Sem.run_bind];refine(congrArg (λr=>Result.andThen r _) hm).trans ?_;rfl
  ·have hl:=k2.1
   match vs,xs,hl,k2 with
   |[],[],_,k2=>exact .tup _ _ rfl λj c v h1=>by simp at h1
   |[v],[x],_,k2=>exact k2.2 0 v x rfl rfl
   |v::v'::r,x::x'::r',hl,k2=>exact .tup _ _ (by simpa using hl) λj c y h1 h2=>k2.2 j c y h1 (by simpa using h2)
 cases q2 with
 |normal=>exact fin q1
 |ret=>exact fin q1
 |exit id=>exact q1.elim
 |pan t v x hp=>exact⟨q3.defers,_,S',φ',h',q1,q3.hrel,.pan t v x hp,q3.keep⟩
theorem AC.enter{f:FuncId}{F:FK}(hF:af P f=some F){args:List AV}{h:List AO}{R:ARes->List AO->Prop}
 (H:AKW P G h.length F.ak (args++List.replicate (F.ntmps-args.length) .any) h (CS G F.res R)):AC P G f args h R:=
 AC.enterK hF F.ak (λ_ h=>h) H
end
end Go.Aw
namespace Go.Aw
def sel:List AV->Nat->AV
 |[],_=> .any
 |v::_,0=>v
 |_::r,n+1=>sel r n
def GP:List AV->Nat->AV->List AV
 |[],_,_=>[]
 |_::r,0,v=>v::r
 |a::r,n+1,v=>a::GP r n v
theorem sV:∀(ts:List AV) (n:Nat),ts.getD n .any=sel ts n
 |[],n=>by simp[sel]
 |v::r,0=>rfl
 |v::r,n+1=>by rw[sel,←sV r n];simp
theorem ED:∀(ts:List AV) (n:Nat) (v:AV),ts.set n v=GP ts n v
 |[],n,v=>rfl
 |a::r,0,v=>rfl
 |a::r,n+1,v=>by simp[GP,ED r n v]
@[simp] theorem VZ(n:Nat)(ts:List AV):(AOp.t n).ev ts=sel ts n:=sV ts n
@[simp] theorem VY(v:AV)(ts:List AV):(AOp.c v).ev ts=v:=rfl
@[simp] theorem Uh(v:AV)(r:List AV):sel (v::r) 0=v:=rfl
@[simp] theorem Uc(v:AV)(r:List AV)(n:Nat):sel (v::r) (n+1)=sel r n:=rfl
@[simp] theorem SG(a v:AV)(r:List AV):GP (a::r) 0 v=v::r:=rfl
@[simp] theorem SK(a v:AV)(r:List AV)(n:Nat):GP (a::r) (n+1) v=a::GP r n v:=rfl
@[simp] theorem TK(d:Nat)(v:AV)(ts:List AV):put (some d) v ts=GP ts d v:=ED ts d v
@[simp] theorem TA(v:AV)(ts:List AV):put none v ts=ts:=rfl
def nxt(P:Program)(G:aw)(d:Option Nat)(r:List CO)(ts:List AV)(K:KT)(Qp:QP):Option (AV × List AO)->Prop
 |some (v,h)=>rK P G r (put d v ts) h K Qp
 |none=>False
def Hq(P:Program)(G:aw)(d:Option Nat)(r:List CO)(ts:List AV)(K:KT)(Qp:QP):ARes->List AO->Prop
 | .ret v,h=>rK P G r (put d v ts) h K Qp
 | .pan t v,h=>Qp t v h
def El(P:Program)(G:aw)(f:FuncId)(args:List AV)(h:List AO)(d:Option Nat)(r:List CO)(ts:List AV)(K:KT)(Qp:QP):Prop:=
 ∃v,AC P G f args h (λx h'=>x= .ret v/\h'=h)/\rK P G r (put d v ts) h K Qp
def KE(P:Program)(G:aw)(g:AV)(args:List AV)(h:List AO)(R:ARes->List AO->Prop):Prop:=
 match g with
 | .fn (.func f) caps=>AC P G f (args++caps) h R
 |_=>False
def evs(ts:List AV):List AOp->List AV
 |[]=>[]
 |x::r=>x.ev ts::evs ts r
theorem Ed(ts:List AV):∀l:List AOp,l.map (·.ev ts)=evs ts l
 |[]=>rfl
 |x::r=>by simp[evs,Ed ts r]
section
variable {P:Program} {G:aw} {d:Option Nat} {r:List CO} {ts ts':List AV} {h h':List AO} {K:KT} {Qp:QP}
@[simp] theorem TC(v:AV)(h:List AO):nxt P G d r ts K Qp (some (v,h))=rK P G r (put d v ts) h K Qp:=rfl
@[simp] theorem TG:nxt P G d r ts K Qp none=False:=rfl
@[simp] theorem US(c:Prop)[Decidable c](x:Option (AV × List AO)):nxt P G d r ts K Qp (if c then x else none)=(c/\nxt P G d r ts K Qp x):=by
 split
 ·rename_i hc;exact propext ⟨λh=>⟨hc,h⟩,λh=>h.2⟩
 ·rename_i hc;exact propext ⟨λh=>h.elim,λh=>(hc h.1).elim⟩
@[simp] theorem TR(v:AV)(h:List AO):Hq P G d r ts K Qp (.ret v) h=rK P G r (put d v ts) h K Qp:=rfl
@[simp] theorem Un(t:TypeId)(v:PV)(h:List AO):Hq P G d r ts K Qp (.pan t v) h=Qp t v h:=rfl
@[simp] theorem Tu(f:FuncId)(caps args:List AV)(R:ARes->List AO->Prop):KE P G (.fn (.func f) caps) args h R=AC P G f (args++caps) h R:=rfl
@[simp] theorem UG:evs ts []=[]:=rfl
@[simp] theorem TV(x:AOp)(l:List AOp):evs ts (x::l)=x.ev ts::evs ts l:=rfl
theorem EM(x:Option (AV × List AO)):okE x (λv h'=>rK P G r (put d v ts) h' K Qp)=nxt P G d r ts K Qp x:=by
 cases x with
 |none=>exact propext ⟨λ⟨v,h',e,_⟩=>(by cases e),λh=>h.elim⟩
 |some q=>obtain⟨v,h'⟩:=q;exact propext ⟨λ⟨v',h2,e,k⟩=>(by cases e;exact k),λk=>⟨v,h',rfl,k⟩⟩
@[simp] theorem VA:rK P G [] ts h K Qp=K ts h:=rfl
theorem aW(ai:AI)(hp:ai.plain=true):rK P G (⟨d,none,ai⟩::r) ts h K Qp=nxt P G d r ts K Qp (ev G ts h ai):=by
 rw[←EM];show oK P G ai ts h _ Qp=_;unfold oK;cases ai<;>first|rfl|(simp[AI.plain] at hp)
theorem DD:pR (λv h'=>rK P G r (put d v ts) h' K Qp) Qp=Hq P G d r ts K Qp:=by funext x h';cases x<;>rfl
@[simp] theorem Ux(f:FuncId)(l:List AOp):rK P G (⟨d,none,.call f l⟩::r) ts h K Qp=AC P G f (evs ts l) h (Hq P G d r ts K Qp):=by rw[←Ed,←DD];rfl
@[simp] theorem Tt(g:AOp)(l:List AOp):rK P G (⟨d,none,.callv g l⟩::r) ts h K Qp=KE P G (g.ev ts) (evs ts l) h (Hq P G d r ts K Qp):=by rw[←Ed,←DD];rfl
@[simp] theorem Ul(f:FuncId)(l:List AOp):rK P G (⟨d,none,.qcall f l⟩::r) ts h K Qp=El P G f (evs ts l) h d r ts K Qp:=by rw[←Ed];rfl
def grd(w:Bool)(A B:Prop):AV->Prop
 | .p (.bool b)=>Cnd (if w then b else !b) A B
 | .tup []=>B
 |_=>False
@[simp] theorem Uj(j:Nat)(w:Bool)(ai:AI):rK P G (⟨d,some (j,w),ai⟩::r) ts h K Qp=grd w (rK P G (⟨d,none,ai⟩::r) ts h K Qp) (rK P G r (put d (.tup []) ts) h K Qp) (sel ts j):=by rw[←sV];rfl
@[simp] theorem VU(A B:Prop)(b:Bool):grd true A B (.p (.bool b))=Cnd b A B:=rfl
@[simp] theorem Uz(w:Bool)(A B:Prop):grd w A B (.tup [])=B:=rfl
@[simp] theorem VR(A B:Prop)(b:Bool):grd false A B (.p (.bool b))=Cnd (!b) A B:=rfl
@[simp] theorem Nw(A B:Prop):Cnd true A B=A:=propext ⟨λh=>h.1 rfl,λh=>⟨λ_=>h,λe=>(by cases e)⟩⟩
@[simp] theorem KZ(A B:Prop):Cnd false A B=B:=propext ⟨λh=>h.2 rfl,λh=>⟨λe=>(by cases e),λ_=>h⟩⟩
def Ie(P:Program)(G:aw)(k:Nat)(b:AK)(Q:AX->List AV->List AO->Prop)(x:AX)(ts:List AV)(h:List AO):Prop:=
 match x with
 | .normal=>AKW P G k b ts h Q
 |x=>Q x ts h
def MM(id:Nat)(Q:AX->List AV->List AO->Prop)(x:AX)(ts:List AV)(h:List AO):Prop:=
 match x with
 | .exit i=>if i=id then Q .normal ts h else Q (.exit i) ts h
 |x=>Q x ts h
def Sg(Q:AX->List AV->List AO->Prop):QP:=λt v h=>∀ts,Q (.pan t v) ts h
def Of(A B:Prop):AV->Prop
 | .p (.bool b)=>Cnd b A B
 |_=>False
def RT(Q:AX->List AV->List AO->Prop):KT:=λts h=>Q .normal ts h
variable {k:Nat} {Q:AX->List AV->List AO->Prop}
@[simp] theorem Ue:AKW P G k .skip ts h Q=Q .normal ts h:=rfl
@[simp] theorem UQ(cs:List CO):AKW P G k (.reg cs) ts h Q=rK P G cs ts h (RT Q) (Sg Q):=rfl
@[simp] theorem Nt(t:OT):AKW P G k (.ot t) ts h Q=otK P G t ts h (RT Q) (Sg Q):=rfl
def otN(P:Program)(G:aw)(r:OT)(K:KT)(Qp:QP):KT:=λts h=>otK P G r ts h K Qp
@[simp] theorem Vq(r:OT)(K:KT)(Qp:QP):otN P G r K Qp ts h=otK P G r ts h K Qp:=rfl
@[simp] theorem Tp(K:KT)(Qp:QP):otK P G .done ts h K Qp=K ts h:=rfl
@[simp] theorem Uy(cs:List CO)(r:OT)(K:KT)(Qp:QP):otK P G (.one cs r) ts h K Qp=rK P G cs ts h (otN P G r K Qp) Qp:=rfl
@[simp] theorem UF(a b:OT)(K:KT)(Qp:QP):otK P G (.alt a b) ts h K Qp=(otK P G a ts h K Qp/\otK P G b ts h K Qp):=rfl
@[simp] theorem Up(K:KT)(Qp:QP):otK P G .tru ts h K Qp=True:=rfl
@[simp] theorem UJ(a b:AK):AKW P G k (.seq a b) ts h Q=AKW P G k a ts h (Ie P G k b Q):=rfl
@[simp] theorem TQ(c:AOp)(a b:AK):AKW P G k (.cond c a b) ts h Q=Of (AKW P G k a ts h Q) (AKW P G k b ts h Q) (c.ev ts):=rfl
@[simp] theorem UL(id:Nat)(a:AK):AKW P G k (.blk id a) ts h Q=AKW P G k a ts h (MM id Q):=rfl
@[simp] theorem TI(id:Nat):AKW P G k (.exit id) ts h Q=Q (.exit id) ts h:=rfl
@[simp] theorem UI:AKW P G k .ret ts h Q=Q .ret ts h:=rfl
@[simp] theorem Vv(A B:Prop)(b:Bool):Of A B (.p (.bool b))=Cnd b A B:=rfl
@[simp] theorem Tk:RT Q ts h=Q .normal ts h:=rfl
@[simp] theorem TY(t:TypeId)(v:PV):Sg Q t v h=∀ts,Q (.pan t v) ts h:=rfl
@[simp] theorem Rk(b:AK):Ie P G k b Q .normal ts h=AKW P G k b ts h Q:=rfl
@[simp] theorem Ti(b:AK)(i:Nat):Ie P G k b Q (.exit i) ts h=Q (.exit i) ts h:=rfl
@[simp] theorem Ua(b:AK):Ie P G k b Q .ret ts h=Q .ret ts h:=rfl
@[simp] theorem TH(b:AK)(t:TypeId)(v:PV):Ie P G k b Q (.pan t v) ts h=Q (.pan t v) ts h:=rfl
@[simp] theorem Rt(id:Nat):MM id Q .normal ts h=Q .normal ts h:=rfl
@[simp] theorem SF(id i:Nat):MM id Q (.exit i) ts h=if i=id then Q .normal ts h else Q (.exit i) ts h:=rfl
@[simp] theorem TZ(id:Nat):MM id Q .ret ts h=Q .ret ts h:=rfl
@[simp] theorem Ui(id:Nat)(t:TypeId)(v:PV):MM id Q (.pan t v) ts h=Q (.pan t v) ts h:=rfl
def PG(R:ARes->List AO->Prop)(h:List AO):Option (List AV)->Prop
 |some vs=>R (.ret (vN vs)) h
 |none=>False
@[simp] theorem Ta(R:ARes->List AO->Prop)(vs:List AV):PG R h (some vs)=R (.ret (vN vs)) h:=rfl
@[simp] theorem Pn(res:List RV)(R:ARes->List AO->Prop):CS G res R .ret ts h=PG R h (pF G ts h res):=by
 unfold CS PG;cases hr:pF G ts h res with
 |none=>exact propext ⟨λ⟨vs,e,_⟩=>(by simp at e),λh=>h.elim⟩
 |some vs=>exact propext ⟨λ⟨vs',e,k⟩=>(by cases e;exact k),λk=>⟨vs,rfl,k⟩⟩
@[simp] theorem Rm(res:List RV)(R:ARes->List AO->Prop):CS G res R .normal ts h=PG R h (pF G ts h res):=Pn res R
@[simp] theorem Tx(res:List RV)(R:ARes->List AO->Prop)(t:TypeId)(v:PV):CS G res R (.pan t v) ts h=R (.pan t v) h:=rfl
@[simp] theorem TP:pF G ts h []=some []:=rfl
@[simp] theorem Vh(n:Nat)(l:List RV):pF G ts h (.t n::l)=(pF G ts h l).map (sel ts n:: ·):=by simp only[pF,KY,sV];cases pF G ts h l<;>rfl
@[simp] theorem SS(v:AV):vN [v]=v:=rfl
@[simp] theorem SO:vN []= .tup []:=rfl
@[simp] theorem SM(v w:AV)(l:List AV):vN (v::w::l)= .tup (v::w::l):=rfl
def NT(sz:Option Nat):Option (List AV × Nat)->Option AV
 |some (cs,off)=>iZ cs off sz
 |none=>none
@[simp] theorem Si(sz:Option Nat)(cs:List AV)(off:Nat):NT sz (some (cs,off))=iZ cs off sz:=rfl
@[simp] theorem Va(n:Nat)(sz:Option Nat)(l:List RV):pF G ts h (.c n sz::l)=(NT sz (nf G h (sel ts n))).bind λv=>(pF G ts h l).map (v:: ·):=by
 simp only[pF,KY,sV];cases hr:nf G h (sel ts n) with
 |none=>rfl
 |some q=>
  obtain⟨cs,off⟩:=q;simp only[NT];cases iZ cs off sz with
  |none=>rfl
  |some v=>cases pF G ts h l<;>rfl
@[congr] theorem TU{cs:List CO}(e1:ts=ts')(e2:h=h'):rK P G cs ts h K Qp=rK P G cs ts' h' K Qp:=by rw[e1,e2]
@[congr] theorem Td{x x':Option (AV × List AO)}(e:x=x'):nxt P G d r ts K Qp x=nxt P G d r ts K Qp x':=by rw[e]
@[congr] theorem Tq{f:FuncId}{a a':List AV}{R:ARes->List AO->Prop}(e1:a=a')(e2:h=h'):AC P G f a h R=AC P G f a' h' R:=by rw[e1,e2]
@[congr] theorem SD{c:AK}(e1:ts=ts')(e2:h=h'):AKW P G k c ts h Q=AKW P G k c ts' h' Q:=by rw[e1,e2]
@[congr] theorem Tg{b b':Bool}{A B:Prop}(e:b=b'):Cnd b A B=Cnd b' A B:=by rw[e]
@[congr] theorem Sy{v v':AV}{A B:Prop}(e:v=v'):Of A B v=Of A B v':=by rw[e]
@[congr] theorem Tj{v v':AV}{w:Bool}{A B:Prop}(e:v=v'):grd w A B v=grd w A B v':=by rw[e]
@[congr] theorem Rr{g g':AV}{a a':List AV}{R:ARes->List AO->Prop}(e1:g=g')(e2:a=a')(e3:h=h'):KE P G g a h R=KE P G g' a' h' R:=by rw[e1,e2,e3]
@[congr] theorem PY{f:FuncId}{a a':List AV}(e2:a=a')(e3:h=h'):El P G f a h d r ts K Qp=El P G f a' h' d r ts K Qp:=by rw[e2,e3]
@[congr] theorem SP{t:OT}{K:KT}{Qp:QP}(e1:ts=ts')(e2:h=h'):otK P G t ts h K Qp=otK P G t ts' h' K Qp:=by rw[e1,e2]
@[congr] theorem SV{t:OT}{K:KT}{Qp:QP}(e1:ts=ts')(e2:h=h'):otN P G t K Qp ts h=otN P G t K Qp ts' h':=by rw[e1,e2]
@[congr] theorem Sc{b:AK}{x x':AX}(e:x=x')(e1:ts=ts')(e2:h=h'):Ie P G k b Q x ts h=Ie P G k b Q x' ts' h':=by rw[e,e1,e2]
@[congr] theorem Sx{x x':ARes}(e:x=x')(e2:h=h'):Hq P G d r ts K Qp x h=Hq P G d r ts K Qp x' h':=by rw[e,e2]
@[congr] theorem RU{res:List RV}{R:ARes->List AO->Prop}{x x':AX}(e:x=x')(e1:ts=ts')(e2:h=h'):CS G res R x ts h=CS G res R x' ts' h':=by rw[e,e1,e2]
end
attribute [simp] ev un nf elems lenOf PD shB NM uE Od Iw Pv Rx Sw NO EL iZ om lo? hi? Ss OX cC Kr AS dp AV.isCell AV.cells eS
section
variable {P:Program} {G:aw} {d:Option Nat} {r:List CO} {ts:List AV} {h:List AO} {K:KT} {Qp:QP}
@[simp] theorem VC(x:AOp):rK P G (⟨d,none,.mov x⟩::r) ts h K Qp=rK P G r (put d (x.ev ts) ts) h K Qp:=aW _ rfl
end
section
variable {P:Program} {G:aw} {d:Option Nat} {r:List CO} {ts:List AV} {h:List AO} {K:KT} {Qp:QP}
@[simp] theorem TE(x:AOp):rK P G (⟨d,none,.nilck x⟩::r) ts h K Qp=nxt P G d r ts K Qp (ev G ts h (.nilck x)):=aW _ rfl
@[simp] theorem VJ(x:AOp):rK P G (⟨d,none,.not x⟩::r) ts h K Qp=nxt P G d r ts K Qp (ev G ts h (.not x)):=aW _ rfl
@[simp] theorem VN(x:AOp):rK P G (⟨d,none,.neg x⟩::r) ts h K Qp=nxt P G d r ts K Qp (ev G ts h (.neg x)):=aW _ rfl
@[simp] theorem VM(op:BinOp)(x y:AOp):rK P G (⟨d,none,.bin op x y⟩::r) ts h K Qp=nxt P G d r ts K Qp (ev G ts h (.bin op x y)):=aW _ rfl
@[simp] theorem UK(op:BinOp)(x y:AOp):rK P G (⟨d,none,.bins op x y⟩::r) ts h K Qp=nxt P G d r ts K Qp (ev G ts h (.bins op x y)):=aW _ rfl
@[simp] theorem VO(ne:Bool)(x y:AOp):rK P G (⟨d,none,.beq ne x y⟩::r) ts h K Qp=nxt P G d r ts K Qp (ev G ts h (.beq ne x y)):=aW _ rfl
@[simp] theorem UP(kd:Nat)(ne:Bool)(x:AOp):rK P G (⟨d,none,.pnil kd ne x⟩::r) ts h K Qp=nxt P G d r ts K Qp (ev G ts h (.pnil kd ne x)):=aW _ rfl
@[simp] theorem Ut(k:IntKind)(x:AOp):rK P G (⟨d,none,.conv k x⟩::r) ts h K Qp=nxt P G d r ts K Qp (ev G ts h (.conv k x)):=aW _ rfl
@[simp] theorem UB(off:Nat)(sz:Option Nat)(x:AOp):rK P G (⟨d,none,.fldv off sz x⟩::r) ts h K Qp=nxt P G d r ts K Qp (ev G ts h (.fldv off sz x)):=aW _ rfl
@[simp] theorem Vw(i:Nat)(x:AOp):rK P G (⟨d,none,.ext i x⟩::r) ts h K Qp=nxt P G d r ts K Qp (ev G ts h (.ext i x)):=aW _ rfl
@[simp] theorem Us(off:Nat)(x:AOp):rK P G (⟨d,none,.fldA off x⟩::r) ts h K Qp=nxt P G d r ts K Qp (ev G ts h (.fldA off x)):=aW _ rfl
def Rh(h:List AO)(esz:Nat):AV->AV->Option (AV × List AO)
 | .p (.lst sz es),.p (.int _ n)=>if sz=esz/\0<=n then(es[n.toNat]?).map λe=>(.eptr e 0,h) else none
 | .sl id sz off len,.p (.int _ n)=>if sz=esz/\0<=n/\n<len then some (.ptr id esz (off+n.toNat) 0,h) else none
 |_,_=>none
theorem QB(esz:Nat)(x y:AOp):ev G ts h (.idxS esz x y)=Rh h esz (x.ev ts) (y.ev ts):=by
 simp only[ev];cases x.ev ts<;>try rfl
 all_goals (rename_i a;first|(cases a<;>first|rfl|(cases y.ev ts<;>try rfl);(rename_i b;cases b<;>rfl))|(cases y.ev ts<;>try rfl);(rename_i b;cases b<;>rfl))
@[simp] theorem Vb(esz sz:Nat)(es:List (List PV))(k:IntKind)(n:Int):Rh h esz (.p (.lst sz es)) (.p (.int k n))=if sz=esz/\0<=n then(es[n.toNat]?).map λe=>(.eptr e 0,h) else none:=rfl
@[simp] theorem UX(esz id sz off len:Nat)(k:IntKind)(n:Int):Rh h esz (.sl id sz off len) (.p (.int k n))=if sz=esz/\0<=n/\n<len then some (.ptr id esz (off+n.toNat) 0,h) else none:=rfl
@[simp] theorem UA(esz:Nat)(x y:AOp):rK P G (⟨d,none,.idxS esz x y⟩::r) ts h K Qp=nxt P G d r ts K Qp (Rh h esz (x.ev ts) (y.ev ts)):=by rw[←QB (G:=G)];exact aW _ rfl
@[simp] theorem UC(n esz:Nat)(x i:AOp):rK P G (⟨d,none,.idxA n esz x i⟩::r) ts h K Qp=nxt P G d r ts K Qp (ev G ts h (.idxA n esz x i)):=aW _ rfl
@[simp] theorem SC(x i:AOp):rK P G (⟨d,none,.idxStr x i⟩::r) ts h K Qp=nxt P G d r ts K Qp (ev G ts h (.idxStr x i)):=aW _ rfl
@[simp] theorem VE(s:Bool)(x:AOp):rK P G (⟨d,none,.len s x⟩::r) ts h K Qp=nxt P G d r ts K Qp (ev G ts h (.len s x)):=aW _ rfl
@[simp] theorem VW(x y:AOp):rK P G (⟨d,none,.mx x y⟩::r) ts h K Qp=nxt P G d r ts K Qp (ev G ts h (.mx x y)):=aW _ rfl
@[simp] theorem VX(x y:AOp):rK P G (⟨d,none,.mn x y⟩::r) ts h K Qp=nxt P G d r ts K Qp (ev G ts h (.mn x y)):=aW _ rfl
@[simp] theorem VT(sz:Option Nat)(x:AOp):rK P G (⟨d,none,.ld sz x⟩::r) ts h K Qp=nxt P G d r ts K Qp (ev G ts h (.ld sz x)):=aW _ rfl
@[simp] theorem VS(n:Nat)(x y:AOp):rK P G (⟨d,none,.st n x y⟩::r) ts h K Qp=nxt P G d r ts K Qp (ev G ts h (.st n x y)):=aW _ rfl
@[simp] theorem VD(n:Nat)(x:AOp):rK P G (⟨d,none,.box n x⟩::r) ts h K Qp=nxt P G d r ts K Qp (ev G ts h (.box n x)):=aW _ rfl
@[simp] theorem Tz(z:List AV):rK P G (⟨d,none,.alloc z⟩::r) ts h K Qp=nxt P G d r ts K Qp (ev G ts h (.alloc z)):=aW _ rfl
@[simp] theorem Vf(z:List AV)(ps:List (Nat × Nat × AOp)):rK P G (⟨d,none,.bld z ps⟩::r) ts h K Qp=nxt P G d r ts K Qp (ev G ts h (.bld z ps)):=aW _ rfl
def HA(ne:Bool)(h:List AO)(K:AV->List AO->Prop):AV->Prop
 | .nils=>K (.p (.bool (!ne))) h
 | .p (.lst _ [])=>K (.p (.bool true)) h/\K (.p (.bool false)) h
 | .p (.lst _ (_::_))=>K (.p (.bool ne)) h
 | .sl _ _ _ len=>0<len/\K (.p (.bool ne)) h
 |_=>False
@[simp] theorem Vt:rK P G (⟨d,none,.bad⟩::r) ts h K Qp=False:=rfl
@[simp] theorem UR(ne:Bool)(x:AOp):rK P G (⟨d,none,.snil ne x⟩::r) ts h K Qp=HA ne h (λv h'=>rK P G r (put d v ts) h' K Qp) (x.ev ts):=by
 show oK P G (.snil ne x) ts h (λv h'=>rK P G r (put d v ts) h' K Qp) Qp=_;simp only[oK];generalize x.ev ts=y
 cases y<;>first
  |rfl
  |(rename_i v;cases v<;>first|rfl|(rename_i l;cases l<;>rfl))
@[simp] theorem SH(ne:Bool)(K1:AV->List AO->Prop):HA ne h K1 .nils=K1 (.p (.bool (!ne))) h:=rfl
@[simp] theorem TS(ne:Bool)(sz:Nat)(K1:AV->List AO->Prop):HA ne h K1 (.p (.lst sz []))=(K1 (.p (.bool true)) h/\K1 (.p (.bool false)) h):=rfl
@[simp] theorem SB(ne:Bool)(sz:Nat)(x:List PV)(l:List (List PV))(K1:AV->List AO->Prop):HA ne h K1 (.p (.lst sz (x::l)))=K1 (.p (.bool ne)) h:=rfl
@[simp] theorem Uu(ne:Bool)(id sz off len:Nat)(K1:AV->List AO->Prop):HA ne h K1 (.sl id sz off len)=(0<len/\K1 (.p (.bool ne)) h):=rfl
@[simp] theorem UD(m esz:Nat)(q:Option Nat)(x y:AOp):rK P G (⟨d,none,.idxV m esz q x y⟩::r) ts h K Qp=nxt P G d r ts K Qp (ev G ts h (.idxV m esz q x y)):=by rw[←EM];rfl
@[simp] theorem UY(esz:Nat)(z:List AV)(n:Nat)(ps:List (Nat × Nat × AOp)):rK P G (⟨d,none,.bslP esz z n ps⟩::r) ts h K Qp=nxt P G d r ts K Qp (ev G ts h (.bslP esz z n ps)):=by rw[←EM];rfl
@[simp] theorem Vi(sz:Option Nat)(n e:Nat):rK P G (⟨none,none,.chk sz n e⟩::r) ts h K Qp=(ev G ts h (.ld sz (.t n))=some (sel ts e,h)/\rK P G r ts h K Qp):=by rw[←sV];rfl
@[simp] theorem Vo(esz:Nat)(z:List AV)(n:Nat)(ps:List (Nat × Nat × AOp)):rK P G (⟨d,none,.bsl esz z n ps⟩::r) ts h K Qp=nxt P G d r ts K Qp (ev G ts h (.bsl esz z n ps)):=aW _ rfl
@[simp] theorem Vp(esz b:Nat)(z:List AV)(l c:AOp):rK P G (⟨d,none,.mks esz b z l c⟩::r) ts h K Qp=nxt P G d r ts K Qp (ev G ts h (.mks esz b z l c)):=aW _ rfl
@[simp] theorem Vk(esz:Nat)(x:AOp)(l m:Option AOp):rK P G (⟨d,none,.slS esz x l m⟩::r) ts h K Qp=nxt P G d r ts K Qp (ev G ts h (.slS esz x l m)):=aW _ rfl
@[simp] theorem Ug(x:AOp)(l m:Option AOp):rK P G (⟨d,none,.slStr x l m⟩::r) ts h K Qp=nxt P G d r ts K Qp (ev G ts h (.slStr x l m)):=aW _ rfl
@[simp] theorem Vn(n esz:Nat)(x:AOp)(l m:Option AOp):rK P G (⟨d,none,.slA n esz x l m⟩::r) ts h K Qp=nxt P G d r ts K Qp (ev G ts h (.slA n esz x l m)):=aW _ rfl
def Cp(h:List AO)(esz bytes:Nat):Option (List (List AV))->AV->Option (AV × List AO)
 |none,_=>none
 |some xs,.nils=>if xs.length*bytes<=140737488355328/\xs.length<=140737488355328 then
   if xs=[] then some (.nils,h) else some (.sl h.length esz 0 xs.length,h++[.row esz xs]) else none
 |some xs,.sl id sz off len=>match h[id]? with
  |some (.row sz' es)=>if sz'=esz/\sz=esz/\off+len<=es.length/\(len+xs.length)*bytes<=140737488355328/\len+xs.length<=140737488355328 then
    some (.sl h.length esz 0 (len+xs.length),h.set id .dead++[.row esz ((es.drop off).take len++xs)]) else none
  |_=>none
 |some _,_=>none
theorem Ry(esz b:Nat)(s x:AOp):ev G ts h (.app esz b s x)=Cp h esz b (elems h esz (x.ev ts)) (s.ev ts):=by
 simp only[ev];cases elems h esz (x.ev ts) with
 |none=>rfl
 |some xs=>cases s.ev ts<;>rfl
@[simp] theorem SI(esz b:Nat)(s:AV):Cp h esz b none s=none:=rfl
@[simp] theorem mM(esz b:Nat)(xs:List (List AV)):Cp h esz b (some xs) .nils=if xs.length*b<=140737488355328/\xs.length<=140737488355328 then
 if xs=[] then some (.nils,h) else some (.sl h.length esz 0 xs.length,h++[.row esz xs]) else none:=rfl
@[simp] theorem tz(esz b:Nat)(xs:List (List AV))(id sz off len:Nat):Cp h esz b (some xs) (.sl id sz off len)=match h[id]? with
 |some (.row sz' es)=>if sz'=esz/\sz=esz/\off+len<=es.length/\(len+xs.length)*b<=140737488355328/\len+xs.length<=140737488355328 then
   some (.sl h.length esz 0 (len+xs.length),h.set id .dead++[.row esz ((es.drop off).take len++xs)]) else none
 |_=>none:=rfl
@[simp] theorem Vu(esz b:Nat)(s x:AOp):rK P G (⟨d,none,.app esz b s x⟩::r) ts h K Qp=nxt P G d r ts K Qp (Cp h esz b (elems h esz (x.ev ts)) (s.ev ts)):=by rw[←Ry (G:=G)];exact aW _ rfl
@[simp] theorem Vd(f:Fn)(cs:List AOp):rK P G (⟨d,none,.mkf f cs⟩::r) ts h K Qp=nxt P G d r ts K Qp (ev G ts h (.mkf f cs)):=aW _ rfl
@[simp] theorem UH(x:AOp):rK P G (⟨d,none,.strB x⟩::r) ts h K Qp=nxt P G d r ts K Qp (ev G ts h (.strB x)):=aW _ rfl
@[simp] theorem Uo(x y z:AOp):rK P G (⟨d,none,.pick x y z⟩::r) ts h K Qp=nxt P G d r ts K Qp (ev G ts h (.pick x y z)):=aW _ rfl
@[simp] theorem UN(esz:Nat)(x y:AOp):rK P G (⟨d,none,.copy esz x y⟩::r) ts h K Qp=nxt P G d r ts K Qp (ev G ts h (.copy esz x y)):=aW _ rfl
@[simp] theorem UV(esz b:Nat)(z:List AV)(s n:AOp):rK P G (⟨d,none,.appz esz b z s n⟩::r) ts h K Qp=nxt P G d r ts K Qp (ev G ts h (.appz esz b z s n)):=aW _ rfl
@[simp] theorem UE(x:AOp):rK P G (⟨d,none,.btos x⟩::r) ts h K Qp=nxt P G d r ts K Qp (ev G ts h (.btos x)):=aW _ rfl
@[simp] theorem Vx:rK P G (⟨d,none,.mkm⟩::r) ts h K Qp=nxt P G d r ts K Qp (ev G ts h .mkm):=aW _ rfl
@[simp] theorem VQ(kd:Nat)(z:AV)(c:Bool)(x y:AOp):rK P G (⟨d,none,.lk kd z c x y⟩::r) ts h K Qp=nxt P G d r ts K Qp (ev G ts h (.lk kd z c x y)):=aW _ rfl
@[simp] theorem VP(kd:Nat)(x y z:AOp):rK P G (⟨d,none,.mup kd x y z⟩::r) ts h K Qp=nxt P G d r ts K Qp (ev G ts h (.mup kd x y z)):=aW _ rfl
@[simp] theorem Vs(z:AV)(c:Bool)(x y:AOp):rK P G (⟨d,none,.lk2 z c x y⟩::r) ts h K Qp=nxt P G d r ts K Qp (ev G ts h (.lk2 z c x y)):=aW _ rfl
@[simp] theorem Uq(x y z:AOp):rK P G (⟨d,none,.mup2 x y z⟩::r) ts h K Qp=nxt P G d r ts K Qp (ev G ts h (.mup2 x y z)):=aW _ rfl
@[simp] theorem UM(x:AOp):rK P G (⟨d,none,.rngS x⟩::r) ts h K Qp=nxt P G d r ts K Qp (ev G ts h (.rngS x)):=aW _ rfl
@[simp] theorem Uv(x:AOp):rK P G (⟨d,none,.nxtS x⟩::r) ts h K Qp=nxt P G d r ts K Qp (ev G ts h (.nxtS x)):=aW _ rfl
@[simp] theorem VL(ks:List Nat)(ne:Bool)(x y:AOp):rK P G (⟨d,none,.aeq ks ne x y⟩::r) ts h K Qp=nxt P G d r ts K Qp (ev G ts h (.aeq ks ne x y)):=aW _ rfl
end
end Go.Aw
namespace Go.Aw
section
variable {P:Program} {G:aw} {k:Nat} {Q:AX->List AV->List AO->Prop} {ts:List AV} {h:List AO}
theorem Ok{ai:AI}{ts:List AV}{h:List AO}{K:AV->List AO->Prop}{Qp Qp':QP}(hp:∀t v h,Qp t v h->Qp' t v h)(H:oK P G ai ts h K Qp):oK P G ai ts h K Qp':=by
 have hc:∀r h',pR K Qp r h'->pR K Qp' r h':=λr h'=>by cases r<;>first|exact id|exact hp _ _ _
 cases ai
 case call f args=>exact AC.mono H hc
 case callv g args=>
  revert H;simp only[oK];generalize g.ev ts=y;intro H
  cases y<;>first
   |exact H.elim
   |(rename_i f caps;cases f<;>first|exact H.elim|exact AC.mono H hc)
 all_goals exact H
theorem pc:∀{cs:List CO} {ts:List AV} {h:List AO} {K:KT} {Qp Qp':QP},(∀t v h,Qp t v h->Qp' t v h)->rK P G cs ts h K Qp->rK P G cs ts h K Qp'
 |[],_,_,_,_,_,_,H=>H
 |c::r,ts,h,K,Qp,Qp',hp,H=>by
  have H2:sK P G c ts h (λts' h'=>rK P G r ts' h' K Qp') Qp:=eM (λts' h' _=>pc hp) H;exact JU (Ok hp) id H2
theorem tV:∀{t:OT} {ts:List AV} {h:List AO} {K K':KT} {Qp Qp':QP},(∀ts' h',K ts' h'->K' ts' h')->(∀t v h',Qp t v h'->Qp' t v h')->otK P G t ts h K Qp->otK P G t ts h K' Qp'
 | .done,_,_,_,_,_,_,hk,_,H=>hk _ _ H
 | .one _ r,_,_,_,_,_,_,hk,hp,H=>Ar (λ_ _=>tV (t:=r) hk hp) (pc hp H)
 | .alt a b,_,_,_,_,_,_,hk,hp,H=>⟨tV (t:=a) hk hp H.1,tV (t:=b) hk hp H.2⟩
 | .tru,_,_,_,_,_,_,_,_,_=>trivial
def GK{α:Type}(k:Nat)(T:α->List AV)(H:α->List AO)(inv:α->Prop)(μ:α->Nat)(a:α)(Q:AX->List AV->List AO->Prop)(x:AX)(ts:List AV)(h:List AO):Prop:=
 match x with
 | .normal=>∃a',inv a'/\μ a'<μ a/\Wk k ts h (T a') (H a')
 |x=>Q x ts h
section
variable {α:Type} {T:α->List AV} {H:α->List AO} {inv:α->Prop} {μ:α->Nat} {a:α}
@[simp] theorem Qq:GK k T H inv μ a Q .normal ts h=∃a',inv a'/\μ a'<μ a/\Wk k ts h (T a') (H a'):=rfl
@[simp] theorem RR(i:Nat):GK k T H inv μ a Q (.exit i) ts h=Q (.exit i) ts h:=rfl
@[simp] theorem SJ:GK k T H inv μ a Q .ret ts h=Q .ret ts h:=rfl
@[simp] theorem SX(t:TypeId)(v:PV):GK k T H inv μ a Q (.pan t v) ts h=Q (.pan t v) ts h:=rfl
end
theorem AD:∀{c:AK} {k:Nat} {ts:List AV} {h:List AO} {Q Q':AX->List AV->List AO->Prop},(∀x ts h,Q x ts h->Q' x ts h)->AKW P G k c ts h Q->AKW P G k c ts h Q':=by
 intro c
 induction c with
 |skip=>intro k ts h Q Q' hq H;exact hq _ _ _ H
 |reg cs=>
  intro k ts h Q Q' hq H;simp only[AKW] at H⊢;exact Ar (λts' h'=>hq _ _ _) (pc (λt v h' hh ts'=>hq _ _ _ (hh ts')) H)
 |ot t=>
  intro k ts h Q Q' hq H;simp only[AKW] at H⊢;exact tV (λts' h'=>hq _ _ _) (λt v h' hh ts'=>hq _ _ _ (hh ts')) H
 |seq a b ih1 ih2=>
  intro k ts h Q Q' hq H;refine ih1 (λx ts' h' hx=>?_) H;cases x<;>first|exact ih2 hq hx|exact hq _ _ _ hx
 |cut a b ih1 ih2=>
  intro k ts h Q Q' hq ⟨J,H,HJ⟩;refine⟨J,ih1 (λx ts' h' hx=>?_) H,λts1 h1 j=>ih2 hq (HJ ts1 h1 j)⟩;cases x<;>first|exact hx|exact hq _ _ _ hx
 |cond c a b ih1 ih2=>
  intro k ts h Q Q' hq H;simp only[AKW] at H⊢;split at H
  ·exact⟨λe=>ih1 hq (H.1 e),λe=>ih2 hq (H.2 e)⟩
  ·exact H.elim
 |blk id a ih=>
  intro k ts h Q Q' hq H;refine ih (λx ts' h' hx=>?_) H;cases x<;>first|exact hq _ _ _ hx|skip
  simp only at hx⊢;split
  ·rename_i e;rw[Wz e] at hx;exact hq _ _ _ hx
  ·rename_i e;rw[WB e] at hx;exact hq _ _ _ hx
 |loop a ih=>
  intro k ts h Q Q' hq ⟨n,H⟩;refine⟨n,?_⟩
  induction n generalizing ts h with
  |zero=>exact H.elim
  |succ n ihn=>
   obtain⟨ts1,h1,w,hb⟩:=H;refine⟨ts1,h1,w,ih (λx ts' h' hx=>?_) hb⟩;cases x<;>first|exact ihn hx|exact hq _ _ _ hx
 |exit id=>intro k ts h Q Q' hq H;exact hq _ _ _ H
 |ret=>intro k ts h Q Q' hq H;exact hq _ _ _ H
 |rng cs x t6 t7 t8 t9 id1 id2 cs3 b ih=>
  intro k ts h Q Q' hq H;simp only[AKW,Oj] at H⊢;refine Ar (λts1 h1 hh=>?_) (pc (λt v h' hh ts'=>hq _ _ _ (hh ts')) H);split at hh
  ·exact⟨hh.1,hh.2.1,hh.2.2.1,hq _ _ _ hh.2.2.2⟩
  ·obtain⟨es,q1,q2,q3⟩:=hh;refine⟨es,q1,q2,λr=>?_⟩;obtain⟨J,j0,hJ⟩:=q3 r;refine⟨J,j0,λrem ts2 h2 j=>?_⟩;have R:=hJ rem ts2 h2 j;refine⟨R.l6,R.l7,R.l8,R.l9,R.it,R.dd,λe=>hq _ _ _ (R.out e),λe rem' hp=>?_⟩;refine Ar (λts3 h3 hb=>ih (λx ts4 h4 hx=>?_) hb) (pc (λt v h' hh ts'=>hq _ _ _ (hh ts')) (R.round e rem' hp));cases x<;>first|exact hx|exact hq _ _ _ hx|skip
   simp only[Ru] at hx⊢;split
   ·rename_i e1;rw[Wz e1] at hx;exact hx
   ·rename_i e1;rw[WB e1] at hx;split
    ·rename_i e2;rw[Wz e2] at hx;exact hq _ _ _ hx
    ·rename_i e2;rw[WB e2] at hx;exact hq _ _ _ hx
  ·exact hh.elim
theorem am{α:Type}(T:α->List AV)(H:α->List AO)(inv:α->Prop)(μ:α->Nat){b:AK}(a0:α)(i0:inv a0)(w0:Wk k ts h (T a0) (H a0))
 (body:∀a,inv a->AKW P G k b (T a) (H a) (GK k T H inv μ a Q)):AKW P G k (.loop b) ts h Q:=by
 have key:∀n a,μ a<n->inv a->∀ts h,Wk k ts h (T a) (H a)->Ou k (AKW P G k b) n ts h Q:=by
  intro n
  induction n with
  |zero=>intro a hm;omega
  |succ n ih=>
   intro a hm hi ts h w;refine⟨T a,H a,w,AD (λx ts' h' hx=>?_) (body a hi)⟩
   cases x<;>first
    |(obtain⟨a',k1,k2,k3⟩:=hx;exact ih a' (by omega) k1 _ _ k3)
    |exact hx
 exact⟨μ a0+1,key _ a0 (by omega) i0 _ _ w0⟩
def MS{α:Type}(k:Nat)(T:α->List AV)(H:α->List AO)(inv:α->Prop)(Q:AX->List AV->List AO->Prop)(x:AX)(ts:List AV)(h:List AO):Prop:=
 match x with
 | .normal=>∃s,inv s/\Wk k ts h (T s) (H s)
 |x=>Q x ts h
section
variable {α:Type} {T:α->List AV} {H:α->List AO} {inv:α->Prop}
@[simp] theorem Rq:MS k T H inv Q .normal ts h=∃s,inv s/\Wk k ts h (T s) (H s):=rfl
@[simp] theorem Tb(i:Nat):MS k T H inv Q (.exit i) ts h=Q (.exit i) ts h:=rfl
@[simp] theorem TM:MS k T H inv Q .ret ts h=Q .ret ts h:=rfl
@[simp] theorem TX(t:TypeId)(v:PV):MS k T H inv Q (.pan t v) ts h=Q (.pan t v) ts h:=rfl
end
theorem dc{α:Type}(T:α->List AV)(H:α->List AO)(inv:α->Prop){a b:AK}(ha:AKW P G k a ts h (MS k T H inv Q))
 (hb:∀s,inv s->AKW P G k b (T s) (H s) Q):AKW P G k (.cut a b) ts h Q:=
 ⟨λts1 h1=>∃s,inv s/\ts1=T s/\h1=H s,AD (λx ts' h' hx=>by
   cases x<;>first
    |(obtain⟨s,i,w⟩:=hx;exact⟨_,_,w,s,i,rfl,rfl⟩)
    |exact hx) ha,λts1 h1 ⟨s,i,e1,e2⟩=>by subst e1;subst e2;exact hb s i⟩
def Gn(k:Nat)(T:List AV)(H:List AO)(Q:AX->List AV->List AO->Prop)(x:AX)(ts:List AV)(h:List AO):Prop:=
 match x with
 | .normal=>Wk k ts h T H
 |x=>Q x ts h
@[simp] theorem QK{T:List AV}{H:List AO}:Gn k T H Q .normal ts h=Wk k ts h T H:=rfl
@[simp] theorem RY{T:List AV}{H:List AO}(i:Nat):Gn k T H Q (.exit i) ts h=Q (.exit i) ts h:=rfl
@[simp] theorem SW{T:List AV}{H:List AO}:Gn k T H Q .ret ts h=Q .ret ts h:=rfl
@[simp] theorem SN{T:List AV}{H:List AO}(t:TypeId)(v:PV):Gn k T H Q (.pan t v) ts h=Q (.pan t v) ts h:=rfl
theorem Um(T:List AV)(H:List AO){a b:AK}(ha:AKW P G k a ts h (Gn k T H Q))(hb:AKW P G k b T H Q):AKW P G k (.cut a b) ts h Q:=
 ⟨λts1 h1=>ts1=T/\h1=H,AD (λx ts' h' hx=>by
   cases x<;>first
    |exact⟨_,_,hx,rfl,rfl⟩
    |exact hx) ha,λts1 h1 ⟨e1,e2⟩=>by subst e1;subst e2;exact hb⟩
def Fgt(n:Nat):List AV->List AV->Prop
 |[],[]=>True
 |v::r,v1::r1=>(v1= .any\/(below n v1/\v1=v))/\Fgt n r r1
 |_,_=>False
theorem RA{k:Nat}{ts ts1:List AV}{h:List AO}(hk:k=0)(H:Fgt 0 ts ts1):Wk k ts h ts1 []:=by
 refine Wk.of [] (by omega) (λi hi=>by omega) Yk ?_ trivial
 have ren0:∀v,below 0 v->ren [] v=v:=by
  have key:∀(m:Nat),(∀v:AV,SizeOf.sizeOf v<m->below 0 v->ren [] v=v)/\(∀l:List AV,SizeOf.sizeOf l<m->au 0 l->bT [] l=l):=by
   intro m
   induction m with
   |zero=>exact⟨λv h=>by omega,λl h=>by omega⟩
   |succ m ih=>
    refine⟨λv hs hb=>?_,λl hs hb=>?_⟩
    ·cases v<;>simp only[ren,below] at hb⊢ <;>first|rfl|omega|(rw[ih.2 _ (by simp at hs;omega) hb])
    ·cases l with
     |nil=>rfl
     |cons v r=>simp only[bT];rw[ih.1 v (by simp at hs;omega) hb.1,ih.2 r (by simp at hs;omega) hb.2]
  exact λv=>(key _).1 v (YK _)
 revert H
 induction ts generalizing ts1 with
 |nil=>intro H;cases ts1<;>first|exact trivial|exact H.elim
 |cons v r ih=>
  intro H;cases ts1 with
  |nil=>exact H.elim
  |cons v1 r1=>
   refine⟨?_,ih H.2⟩;rcases H.1 with h|⟨h1,h2⟩
   ·exact .inl h
   ·exact .inr ⟨h1,by rw[←h2];exact ren0 v1 h1⟩
theorem jI{W:World}{S:Nat->Prop}{φ φ':Place}{n n':Nat}(v:AV)(hb:below 0 v){x:Value}(h:VRel W S φ n v x):VRel W S φ' n' v x:=by
 match v,hb with
 | .agg cs,hb=>
   cases h with
   |agg _ vs hs hc=>exact .agg cs vs hs λj c y h1 h2=>jI c (aT hb j c h1) (hc j _ y h1 h2)
 | .tup cs,hb=>
   cases h with
   |tup _ vs hs hc=>exact .tup cs vs hs λj c y h1 h2=>jI c (aT hb j c h1) (hc j _ y h1 h2)
 | .ptr id e i o,hb=>simp[below] at hb
 | .sl id e o l,hb=>simp[below] at hb
 | .fn f cs,hb=>
   cases h with
   |fn _ _ vs hs hc=>exact .fn f cs vs hs λj c y h1 h2=>jI c (aT hb j c h1) (hc j _ y h1 h2)
 | .mp id,hb=>simp[below] at hb
 | .it id,hb=>simp[below] at hb
 | .p v,_=>cases h with|p _ _ hp=>exact .p _ _ hp
 | .eptr e o,_=>cases h with|eptr _ _ b o' h1 h2=>exact .eptr _ _ b o' h1 h2
 | .gp g o,_=>cases h;exact .gp _ _
 | .nils,_=>cases h;exact .nils
 | .nilp,_=>cases h;exact .nilp
 | .nilf,_=>cases h;exact .nilf
 | .nilm,_=>cases h;exact .nilm
 | .nili,_=>cases h;exact .nili
 | .ifc t v,_=>cases h with|ifc _ _ _ hp=>exact .ifc _ _ _ hp
 | .any,_=>exact .any x
termination_by SizeOf.sizeOf v
decreasing_by
 all_goals simp_wf
 all_goals (have:=List.sizeOf_lt_of_mem (Wq h1);omega)
def VF(P:Program)(G:aw)(f:FuncId)(args:List AV)(r:AV):Prop:=AC P G f args [] λx _=>x= .ret r
theorem VF.ac{f:FuncId}{args:List AV}{r:AV}(H:VF P G f args r)(ha:au 0 args)(hr:below 0 r)(h:List AO):AC P G f args h λx h'=>x= .ret r/\h'=h:=by
 refine⟨H.1,λW S φ vs hH hA=>?_⟩;have h0:HRel G W S φ []:=⟨λid sz es e=>by simp at e,λid o e _=>by simp at e,λid id' e=>(aN e).elim,λb hb=>⟨(hH.sep b hb).1,λid e=>(aN e).elim⟩,λid hid=>by simp at hid,hH.glob⟩;refine(H.2 W S φ vs h0 ⟨hA.1,λj c v h1 h2=>jI c (aT ha j c h1) (hA.2 j c v h1 h2)⟩).mono λe W' ⟨x,S',φ',h',k1,k2,k3,k4⟩=>?_;subst k1
 have hnew:∀b,S' b->S b\/W.heap.size<=b:=λb hb=>by
  rcases k4.newS b hb with h1|h1|⟨id,h1,_⟩
  ·exact .inl h1
  ·exact .inr h1
  ·exact(aN h1).elim
 have hout:∀b,b<W.heap.size->W'.heap[b]?=W.heap[b]?:=λb hb=>k4.out b hb λid e=>(aN e).elim;have hlt:∀{id:Nat} {o:AO},h[id]?=some o->id<h.length:=λe=>(Wa.1 e).1
 have K:Keep W S φ h W' S' φ h:=
  {pure:=k4.pure,len:=Wo _,same:=λ_ _=>rfl
   blk:=λid hid c t fr e=>⟨c,t,fr,by rw[←hout _ (hH.bnd id hid)];exact e,rfl⟩
   os:=k4.os,tape:=k4.tape,output:=k4.output,size:=k4.size,out:=λb hb _=>hout b hb
   img:=λid e=> .inr ⟨id,e,rfl⟩
   newS:=λb hb=>by rcases hnew b hb with h1|h1;exact .inl h1;exact .inr (.inl h1)}
 refine⟨.ret r,S',φ,h,⟨rfl,rfl⟩,⟨λid sz es e=>?_,λid o1 e lo=>?_,hH.inj,λb hb=>⟨(k2.sep b hb).1,λid e he=>?_⟩,λid hid=>WN (hH.bnd id hid) k4.size,k2.glob⟩,?_,K⟩
 ·obtain⟨c,t,fr,a1,a2,a3,a4,a5⟩:=hH.obj id sz es e;refine⟨c,t,fr,by rw[hout _ (hH.bnd id (hlt e))];exact a1,a2,a3,a4,λj u hj=>?_⟩;obtain⟨b1,v,b2,b3⟩:=a5 j u hj;exact⟨b1,v,b2,b3.kept K.toKept⟩
 ·rw[hout _ (hH.bnd id (hlt e))];exact(hH.oobj id o1 e lo).mono λa v r=>r.kept K.toKept
 ·rcases hnew b hb with h1|h1
  ·exact(hH.sep b h1).2 id e he
  ·have:=hH.bnd id e.lt;omega
 ·cases k3 with
  |ret _ x hv=>exact .ret _ _ (jI r hr hv)
theorem VF.use{f:FuncId}{args:List AV}{r:AV}(H:VF P G f args r){h:List AO}{R:ARes->List AO->Prop}(hk:R (.ret r) h)(ha:au 0 args:=by simp[au,below])(hr:below 0 r:=by simp[au,below]):AC P G f args h R:=
 (H.ac ha hr h).mono λx h' ⟨e1,e2⟩=>by subst e1;subst e2;exact hk
theorem VF.useQ{f:FuncId}{args:List AV}{r:AV}(H:VF P G f args r){h:List AO}{d:Option Nat}{cs:List CO}{K:KT}{Qp:QP}(hk:rK P G cs (put d r ts) h K Qp)(ha:au 0 args:=by simp[au,below])(hr:below 0 r:=by simp[au,below]):El P G f args h d cs ts K Qp:=
 ⟨r,H.ac ha hr h,hk⟩
end
end Go.Aw
namespace Go.Aw
def lQ(P:Program)(L:List TypeId)(t:TypeId):Bool:=
 match P.underlying t with
 |some .bool|some (.int _)|some .string=>P.cellsOf t==1
 |some (.slice e)=>P.cellsOf t==1&&L.contains e&&decide (0<P.cellsOf e)
 |some (.array n e)=>L.contains e&&P.cellsOf t==n*P.cellsOf e
 |some (.struct fs)=>fs.toList.all (λf=>L.contains f.type)&&P.cellsOf t==(fs.toList.map λf=>P.cellsOf f.type).sum&&
   (List.range fs.size).all λj=>match fs.toList[j]? with
     |some f=>f.offset==((fs.toList.take j).map λf=>P.cellsOf f.type).sum
     |none=>true
 |_=>false
def Plain(P:Program)(L:List TypeId):Bool:=L.all (lQ P L)
theorem Plain.kids{P:Program}{L:List TypeId}(h:Plain P L=true):Kids P (· ∈L):=by
 have k:∀t,t∈L->lQ P L t=true:=λt ht=>Wu.1 h t ht;refine⟨λht hu=>?_,λht hu=>?_,λht hu=>?_,λht hu=>?_,λht hu=>?_⟩
 ·have:=k _ ht;simp[lQ,hu] at this
 ·have:=k _ ht;simp[lQ,hu] at this;exact this.1.2
 ·have:=k _ ht;simp[lQ,hu] at this;exact this
 ·rename_i t fs;have:=k _ ht;simp only[lQ,hu,Wr,Wu,beq_iff_eq,Yi] at this;refine⟨λf hf=>this.1.1 f hf,this.1.2,λj f hj=>?_⟩
  have h2:=this.2 j (by
   have:=(Wa.1 hj).1;simpa using this)
  rw[hj] at h2;simpa using h2
 ·have:=k _ ht;simp[lQ,hu] at this
mutual
inductive Conf (P:Program):TypeId->List PV->Prop
 |bool {t:TypeId} (b:Bool):P.underlying t=some .bool->Conf P t [.bool b]
 |int {t:TypeId} {k:IntKind} (n:Int):P.underlying t=some (.int k)->(Lit.int k n).wf=true->Conf P t [.int k n]
 |str {t:TypeId} (s:List UInt8):P.underlying t=some .string->s.length<=maxLen->Conf P t [.str s]
 |sl {t e:TypeId} (es:List (List PV)):P.underlying t=some (.slice e)->es.length<=maxLen->(∀x,x∈es->Conf P e x)->Conf P t [.lst (P.cellsOf e) es]
 |st {t:TypeId} {fs:Array Field} (vs:List PV):P.underlying t=some (.struct fs)->ConfS P (fs.toList.map (·.type)) vs->Conf P t vs
 |arr {t e:TypeId} {n:Nat} (vs:List PV):P.underlying t=some (.array n e)->ConfS P (List.replicate n e) vs->Conf P t vs
inductive ConfS (P:Program):List TypeId->List PV->Prop
 |nil:ConfS P [] []
 |cons {t:TypeId} {ts:List TypeId} {a b:List PV}:Conf P t a->ConfS P ts b->ConfS P (t::ts) (a++b)
end
mutual
def Dz:PV->Nat
 | .bool _=>1
 | .int _ _=>1
 | .str s=>s.length+1
 | .lst _ es=>gh es+1
 | .tbl _ _=>1
 | .pair _ _=>1
def dW:List PV->Nat
 |[]=>0
 |v::r=>Dz v+dW r
def gh:List (List PV)->Nat
 |[]=>0
 |v::r=>dW v+gh r
end
theorem Cw(a b:List PV):dW (a++b)=dW a+dW b:=by
 induction a with
 |nil=>simp[dW]
 |cons v r ih=>simp[dW,ih];omega
def kO{H:Type}(P:Program):Nat->TypeId->DataW H->List PV
 |0,_,_=>[]
 |n+1,t,d=>match P.underlying t,d with
  |some .bool,.lit (.bool b)=>[.bool b]
  |some (.int _),.lit (.int k n)=>[.int k n]
  |some .string,.lit (.string s)=>[.str s]
  |some (.slice e),.slice es _=>[.lst (P.cellsOf e) (es.map (kO P n e))]
  |some (.slice e),.nil=>[.lst (P.cellsOf e) []]
  |some (.struct fs),.agg ps=>(List.zipWith (λt x=>kO P n t x) (fs.toList.map (·.type)) ps).flatten
  |some (.array m e),.agg ps=>(List.zipWith (λt x=>kO P n t x) (List.replicate m e) ps).flatten
  |_,_=>[]
structure BulkOk {H:Type} (ub:DataW H->Nat):Prop where
 lit:∀l,1<=ub (.lit l)
 str:∀s,s.length+1<=ub (.lit (.string s))
 nil:1<=ub .nil
 slice:∀es sp,(es.map ub).sum+1<=ub (.slice es sp)
 agg:∀ps,(ps.map ub).sum+1<=ub (.agg ps)
structure Reads {H:Type} (P:Program) (W:World) (ub:DataW H->Nat) (t:TypeId) (cs:List Value) (d:DataW H) (vs:List PV):Prop where
 conf:Conf P t vs
 len:vs.length=P.cellsOf t
 clen:cs.length=P.cellsOf t
 rel:∀(j:Nat) (c:PV) (v:Value),vs[j]?=some c->cs[j]?=some v->PRel W (· <W.heap.size) c v
 bulk:dW vs<=ub d
theorem oN{α β:Type}{f:α->Option β}:∀{l:List α} {r:List β},l.mapM f=some r->r.length=l.length/\∀(i:Nat) (x:α),l[i]?=some x->∃y,f x=some y/\r[i]?=some y
 |[],r,h=>by simp at h;subst h;simp
 |a::l,r,h=>by
  simp only[Zd,Option.bind_eq_bind,XG] at h;obtain⟨y,hy,r',hr,e⟩:=h;cases e;obtain⟨h1,h2⟩:=oN hr;refine⟨by simp[h1],λi x hi=>?_⟩;cases i with
  |zero=>simp at hi;subst hi;exact⟨y,hy,rfl⟩
  |succ i=>simpa using h2 i x (by simpa using hi)
theorem Js{w:World}{a:Addr}{v:Value}(h:w.cell? a=some v):a.spot=none:=by
 cases hsp:a.spot with
 |none=>rfl
 |some s=>
  simp only[World.cell?] at h;split at h
  ·simp[hsp] at h
  ·cases h
theorem Gz{a:Addr}(h:a.spot=none)(i:Nat):a.add i=⟨a.block,a.off+i,none⟩:=by
 unfold Addr.add;split
 ·rename_i h0;subst h0;cases a;simp_all
 ·rfl
theorem Ca{w:World}{b:Nat}{a:Addr}{n:Nat}{cs:List Value}(h:w.cells? b a n=some cs):
 cs.length=n/\(0<n->a.spot=none)/\∀i,i<n->∃v,cs[i]?=some v/\w.cell? ⟨a.block,a.off+i,none⟩=some v:=by
 unfold World.cells? at h;split at h
 ·obtain⟨h1,h2⟩:=oN h
  have hs:0<n->a.spot=none:=λhn=>by
   obtain⟨y,hy,_⟩:=h2 0 0 (by simp[hn]);exact Js hy
  refine⟨by simpa using h1,hs,λi hi=>?_⟩;obtain⟨y,hy,hr⟩:=h2 i i (by simp[hi]);rw[Gz (hs (by omega))] at hy;exact⟨y,hr,hy⟩
 ·cases h
section
variable {H:Type} {enc:TypeId × Value->H} {P:Program} {W:World} {sp:Nat->Bool} {held:Bool} {L:List TypeId} {ub:DataW H->Nat}
theorem uW(r:TypeId->List Value->Option (DataW H × List MemPlace))(pv:TypeId->DataW H->List PV)
 (hr:∀t cs x,t∈L->r t cs=some x->Reads P W ub t cs x.1 (pv t x.1))(cs:List Value):
 ∀(ts:List TypeId) (xs:List (DataW H × List MemPlace)) (off:Nat),(∀t∈ts,t∈L)->xs.length=ts.length->
  (∀(j:Nat) t,ts[j]?=some t->∃y,xs[j]?=some y/\r t ((cs.drop (off+((ts.take j).map P.cellsOf).sum)).take (P.cellsOf t))=some y)->
  ConfS P ts (List.zipWith pv ts (xs.map (·.1))).flatten/\(List.zipWith pv ts (xs.map (·.1))).flatten.length=(ts.map P.cellsOf).sum/\
  (∀(j:Nat) (c:PV) (v:Value),(List.zipWith pv ts (xs.map (·.1))).flatten[j]?=some c->cs[off+j]?=some v->PRel W (· <W.heap.size) c v)/\
  dW (List.zipWith pv ts (xs.map (·.1))).flatten<=((xs.map (·.1)).map ub).sum
 |[],[],off,_,_,_=>⟨.nil,rfl,by simp,by simp[dW]⟩
 |t::ts,x::xs,off,hL,hl,h=>by
  obtain⟨y,hy,h0⟩:=h 0 t rfl;simp at hy;subst hy;have R:=hr _ _ _ (hL t (by simp)) h0
  obtain⟨i1,i2,i3,i4⟩:=uW r pv hr cs ts xs (off+P.cellsOf t) (λt ht=>hL t (by simp[ht])) (by simpa using hl) (λj t' hj=>by
   obtain⟨y,hy,h1⟩:=h (j+1) t' (by simpa using hj);refine⟨y,by simpa using hy,?_⟩;simpa[XR] using h1)
  simp only[WJ,List.zipWith_cons_cons,WX];refine⟨.cons R.conf i1,by simp[i2,R.len],λj c v hc hv=>?_,by rw[Cw];have:=R.bulk;simp only[XC];omega⟩
  by_cases hj:j<(pv t x.1).length
  ·rw[Wb hj] at hc;refine R.rel j c v hc ?_;rw[R.len] at hj;rw[Xo,Wz hj,WZ];simpa using hv
  ·rw[Wg (by omega),R.len] at hc;rw[R.len] at hj;exact i3 _ c v hc (by rw[←hv];congr 1;omega)
theorem Ud(hP:Plain P L=true)(hub:BulkOk ub):∀(n:Nat) (t:TypeId) (cs:List Value) (x:DataW H × List MemPlace),t∈L->
 DataW.trod enc P W 0 sp held n t cs=some x->Reads P W ub t cs x.1 (kO P n t x.1):=by
 intro n
 induction n with
 |zero=>intro t cs x _ h;simp[DataW.trod] at h
 |succ n ih=>
  intro t cs x hL h;have hk:=Wu.1 hP t hL
  have dM:∀(pv:PV) (v:Value),PRel W (· <W.heap.size) pv v->∀(j:Nat) (c:PV) (v':Value),[pv][j]?=some c->[v][j]?=some v'->PRel W (· <W.heap.size) c v':=by
   intro pv v hp j c v' h1 h2;cases j with
   |zero=>simp at h1 h2;subst h1;subst h2;exact hp
   |succ j=>simp at h1
  unfold lQ at hk;unfold DataW.trod at h;split at hk
  ·rename_i hu;rw[hu] at h;split at h<;>simp_all;subst h;simp only[kO,hu];exact⟨.bool _ hu,by simp[hk],by simp[hk],dM _ _ (.bool _),by simpa[dW,Dz] using hub.lit _⟩
  ·rename_i hu;rw[hu] at h;split at h<;>simp_all;obtain⟨⟨rfl,hw⟩,rfl⟩:=h;simp only[kO,hu];exact⟨.int _ hu hw,by simp[hk],by simp[hk],dM _ _ (.int _ _),by simpa[dW,Dz] using hub.lit _⟩
  ·rename_i hu;rw[hu] at h;split at h<;>simp_all;obtain⟨hw,rfl⟩:=h;simp only[kO,hu];exact⟨.str _ hu (by simpa using hw),by simp[hk],by simp[hk],dM _ _ (.str _),by simp only[dW,Dz,Yq];exact hub.str _⟩
  ·rename_i e hu;rw[hu] at h;simp at hk;split at h
   all_goals first|(exfalso;simp only[WO,reduceCtorEq] at*;done)|skip
   ·cases h;simp only[kO,hu];refine⟨.sl [] hu (by simp) (by simp),by simp[hk],by simp[hk],dM _ _ (.lst0 _ _ _),by simpa[dW,Dz,gh] using hub.nil⟩
   ·rename_i e' a len cap he;injection he with he
    injection he with he
    subst he;simp only at h;split at h
    ·rename_i hc;simp only[XG,Wf] at h;obtain⟨elems,h1,rest,h2,rfl⟩:=h;obtain⟨hl,hg⟩:=oN h1;simp only[Xq] at hl
     have hR:∀i,i<len->∃cs y,W.cells? 0 (a.add (i*P.cellsOf e)) (P.cellsOf e)=some cs/\elems[i]?=some y/\Reads P W ub e cs y.1 (kO P n e y.1):=λi hi=>by
      obtain⟨y,hy,hy2⟩:=hg i i (by simp[hi]);simp only[XG] at hy;obtain⟨cs,hc1,hc2⟩:=hy;exact⟨cs,y,hc1,hy2,ih _ _ _ hk.1.2 hc2⟩
     have hlen:∀x∈(elems.map (·.1)).map (kO P n e),Conf P e x/\x.length=P.cellsOf e:=by
      intro x hx;obtain⟨i,hi⟩:=WA hx;have hi':=(Wa.1 hi).1;simp[hl] at hi';obtain⟨cs,y,_,hy,R⟩:=hR i hi';simp[hy] at hi;subst hi;exact⟨R.conf,R.len⟩
     have hfl:∀(j:Nat) (c:PV),(((elems.map (·.1)).map (kO P n e)).flatten)[j]?=some c->a.spot=none/\a.block<W.heap.size/\∃v,W.cell? ⟨a.block,a.off+j,none⟩=some v/\PRel W (· <W.heap.size) c v:=by
      intro j c hj;have hpos:=hk.2;have e1:j=(j/P.cellsOf e)*P.cellsOf e+j%P.cellsOf e:=(by rw[YF];exact(Zr _ _).symm);have e2:j%P.cellsOf e<P.cellsOf e:=Zy _ hpos;rw[e1,aZ (λx hx=>(hlen x hx).2) _ _ e2] at hj;simp only[XG] at hj;obtain⟨x,hx,hx2⟩:=hj;have hi':=(Wa.1 hx).1;simp[hl] at hi';obtain⟨cs,y,hcs,hy,R⟩:=hR _ hi';simp[hy] at hx;subst hx;obtain⟨g1,g2,g3⟩:=Ca hcs;obtain⟨v,hv,hv2⟩:=g3 _ e2;obtain⟨cs0,y0,hcs0,_,_⟩:=hR 0 (Nat.lt_of_le_of_lt (We _) hi');have hsp:=(Ca hcs0).2.1 hpos;simp only[ZL] at hsp;have hsp':a.spot=none:=(by simpa[Addr.add] using hsp);rw[Gz hsp'] at hv2;refine⟨hsp',?_,v,?_,R.rel _ _ _ hx2 hv⟩
      ·simp only[World.cell?] at hv2;split at hv2
       ·rename_i h3;exact(WU.1 h3).1
       ·cases hv2
      ·rw[show a.off+j=a.off+(j/P.cellsOf e)*P.cellsOf e+j%P.cellsOf e by omega];exact hv2
     simp only[kO,hu];refine⟨.sl _ hu (by simp;omega) (λx hx=>(hlen x hx).1),by simp[hk],by simp[hk],dM _ _ ?_,?_⟩
     ·have hll:((elems.map (·.1)).map (kO P n e)).length=len:=by simp[hl]
      cases len with
      |zero=>
       have:elems=[]:=XQ.1 hl;subst this;exact .lst0 _ _ _
      |succ len=>
       have hex:∃c,(((elems.map (·.1)).map (kO P n e)).flatten)[0]?=some c:=by
        have:0<(((elems.map (·.1)).map (kO P n e)).flatten).length:=by
         rw[aK (λx hx=>(hlen x hx).2),hll];exact Nat.mul_pos (by omega) hk.2
        exact⟨_,Wc this⟩
       obtain⟨c0,hc0⟩:=hex;obtain⟨s1,s2,_⟩:=hfl 0 c0 hc0;have ea:a=⟨a.block,a.off,none⟩:=by cases a;simp_all
       have:=PRel.lst (W:=W) (S:=(· <W.heap.size)) (P.cellsOf e) ((elems.map (·.1)).map (kO P n e)) a.block a.off cap (λj=>(W.cell? ⟨a.block,a.off+j,none⟩).getD default) s2 (λx hx=>(hlen x hx).2) (by rw[hll];exact hc.2.1)
        (λj c hj=>by obtain⟨_,_,v,h3,h4⟩:=hfl j c hj;simp[h3]) (λj c hj=>by obtain⟨_,_,v,h3,h4⟩:=hfl j c hj;simpa[h3] using h4)
       rw[hll,←ea] at this;exact this
     ·have hb:=hub.slice (elems.map (·.1)) (rest.map (·.1))
      have:gh ((elems.map (·.1)).map (kO P n e))<=((elems.map (·.1)).map ub).sum:=by
       have key:∀l:List (DataW H × List MemPlace),(∀y∈l,dW (kO P n e y.1)<=ub y.1)->gh ((l.map (·.1)).map (kO P n e))<=((l.map (·.1)).map ub).sum:=by
        intro l
        induction l with
        |nil=>intro _;simp[gh]
        |cons y r ihl=>
         intro hy;have h1:=hy y (by simp);have h2:=ihl λz hz=>hy z (by simp[hz]);simp only[WJ,gh,XC];omega
       refine key elems λy hy=>?_;obtain⟨i,hi⟩:=WA hy;have hi':=(Wa.1 hi).1;rw[hl] at hi';obtain⟨_,y',_,hy',R⟩:=hR i hi';rw[hi] at hy';cases hy';exact R.bulk
      simp only[dW,Dz];omega
    ·cases h
  ·rename_i m e hu;rw[hu] at h;simp at hk
   dsimp only at h
   split at h
   ·rename_i hc;simp only[Wf] at h;obtain⟨xs,h1,rfl⟩:=h;obtain⟨hl,hg⟩:=oN h1;simp only[Xq] at hl
    have hsum:∀j,j<=m->(((List.replicate m e).take j).map P.cellsOf).sum=j*P.cellsOf e:=λj hj=>by rw[List.take_replicate,List.map_replicate,List.sum_replicate_nat,XK hj]
    obtain⟨i1,i2,i3,i4⟩:=uW (L:=L) (P:=P) (W:=W) (ub:=ub) (DataW.trod enc P W 0 sp held n) (kO P n) (λt cs x ht hx=>ih t cs x ht hx) cs (List.replicate m e) xs 0 (λt ht=>by rw[List.eq_of_mem_replicate ht];exact hk.1) (by simp[hl]) (λj t hj=>by
     obtain⟨hj1,hj2⟩:=Wa.1 hj;simp at hj1 hj2;subst hj2;obtain⟨y,hy,hy2⟩:=hg j j (by simp[hj1]);refine⟨y,hy2,?_⟩;rw[hsum j (by omega),WV];exact hy)
    simp only[kO,hu];refine⟨.arr _ hu i1,?_,hc,λj c v h1 h2=>i3 j c v h1 (by simpa using h2),?_⟩
    ·rw[i2,hk.2];simp
    ·exact Xw i4 (Xw (Nat.le_succ _) (hub.agg _))
   ·cases h
  ·rename_i fs hu;rw[hu] at h;simp only[Wr,Wu,beq_iff_eq,Yi] at hk
   dsimp only at h
   split at h
   ·rename_i hc;simp only[Wf] at h;obtain⟨xs,h1,rfl⟩:=h;obtain⟨hl,hg⟩:=oN h1
    obtain⟨i1,i2,i3,i4⟩:=uW (L:=L) (P:=P) (W:=W) (ub:=ub) (DataW.trod enc P W 0 sp held n) (kO P n) (λt cs x ht hx=>ih t cs x ht hx) cs (fs.toList.map (·.type)) xs 0 (λt ht=>by
     obtain⟨f,hf,rfl⟩:=Ww.1 ht;exact hk.1.1 f hf) (by simp[hl]) (λj t hj=>by
     simp only[Wl,Wf] at hj;obtain⟨f,hj,rfl⟩:=hj;obtain⟨y,hy,hy2⟩:=hg j f hj;refine⟨y,hy2,?_⟩
     have h2:=hk.2 j (by
      have:=(Wa.1 hj).1;simpa using this)
     rw[hj] at h2;simp only[beq_iff_eq] at h2;rw[h2] at hy;rw[WV,←XX,Yu];exact hy)
    simp only[kO,hu];refine⟨.st _ hu i1,?_,hc,λj c v h1 h2=>i3 j c v h1 (by simpa using h2),?_⟩
    ·rw[i2,hk.1.2,Yu];rfl
    ·exact Xw i4 (Xw (Nat.le_succ _) (hub.agg _))
   ·cases h
  ·cases hk
end
end Go.Aw
namespace Go.Aw
open Go.ChangeShapes Go.WideShapes Go.RowKit
def JC(P:Program)(t:TypeId)(vs:List PV):AV:=
 match P.underlying t with
 |some (.struct _)|some (.array _ _)=> .agg (vs.map .p)
 |_=> .p (vs.headD (.bool false))
section
variable {H:Type} {enc:TypeId × Value->H} {P:Program} {W W':World} {L:List TypeId} {ub:DataW H->Nat} {φ:Place} {n:Nat}
theorem PZ{t:TypeId}{v:Value}{d:DataW H}{vs:List PV}{base:Nat}(hk:lQ P L t=true)(R:Reads P W ub t v.cells.toList d vs)(hv:Value.okWide P W .any base t v):
 VRel W (· <W.heap.size) φ n (JC P t vs) v:=by
 have agg:∀cs:Array Value,v= .agg cs->VRel W (· <W.heap.size) φ n (.agg (vs.map .p)) v:=by
  intro cs e;subst e;have hl:=R.clen;simp only[Value.cells,YA] at hl;refine .agg _ cs (by simp[R.len,hl]) λj c x hc hx=>?_;simp only[Wl,Wf] at hc;obtain⟨c',hc',rfl⟩:=hc;exact .p _ _ (R.rel j c' x hc' (by simpa[Value.cells] using hx))
 have dM:(v.cells=#[v])->P.cellsOf t=1->VRel W (· <W.heap.size) φ n (.p (vs.headD (.bool false))) v:=by
  intro e h1;have hl:=R.len;rw[h1] at hl
  match vs,hl,R with
  |[c],_,R=>exact .p _ _ (R.rel 0 c v rfl (by simp[e]))
 unfold JC;unfold lQ at hk;split at hk
 ·rename_i hu;rw[hu];obtain⟨b,rfl⟩:=okWide_bool hu hv;exact dM rfl (by simpa using hk)
 ·rename_i hu;rw[hu];obtain⟨b,rfl⟩:=okWide_int hu hv;exact dM rfl (by simpa using hk)
 ·rename_i hu;rw[hu];obtain⟨b,rfl⟩:=okWide_string hu hv;exact dM rfl (by simpa using hk)
 ·rename_i hu;rw[hu];obtain⟨a,len,cap,rfl⟩:=okWide_slice hu hv;simp at hk;exact dM rfl hk.1.1
 ·rename_i hu;rw[hu];simp only[Value.okWide,hu] at hv;obtain⟨cs,e,_⟩:=hv;exact agg cs e
 ·rename_i hu;rw[hu];obtain⟨cs,e,_⟩:=okWide_struct hu hv;exact agg cs e
 ·cases hk
def lO(P:Program)(ts:List TypeId)(vss:List (List PV)):List AV:=List.zipWith (JC P) ts vss
inductive Confs (P:Program):List TypeId->List (List PV)->Prop
 |nil:Confs P [] []
 |cons {t:TypeId} {ts:List TypeId} {vs:List PV} {vss:List (List PV)}:Conf P t vs->Confs P ts vss->Confs P (t::ts) (vs::vss)
theorem GQ(hP:Plain P L=true)(hub:BulkOk ub){base:Nat}:∀{ts:List TypeId} {vs:List Value} {ds:List (DataW H)} {p:List MemPlace},(∀t∈ts,t∈L)->
 DataW.TrodAll enc P W 0 (λ_=>true) true ts vs ds p->(∀(j:Nat) t v,ts[j]?=some t->vs[j]?=some v->Value.okWide P W .any base t v)->
 ∃vss,Confs P ts vss/\gh vss<=(ds.map ub).sum/\vs.length=(lO P ts vss).length/\∀(j:Nat) c v,(lO P ts vss)[j]?=some c->vs[j]?=some v->VRel W (· <W.heap.size) φ n c v
 |[],[],[],_,_,_,_=>⟨[],.nil,by simp[gh],rfl,by simp[lO]⟩
 |t::ts,v::vs,d::ds,_,hL,⟨p,q,⟨fuel,h1⟩,h2,_⟩,hok=>by
  obtain⟨vss,i1,i2,i3,i4⟩:=GQ hP hub (λt ht=>hL t (by simp[ht])) h2 (λj t v h3 h4=>hok (j+1) t v (by simpa using h3) (by simpa using h4));have R:=Ud hP hub fuel t _ _ (hL t (by simp)) h1;have hk:=Wu.1 hP t (hL t (by simp));refine⟨_::vss,.cons R.conf i1,?_,by simp[lO] at i3⊢;exact i3,λj c x hc hx=>?_⟩
  ·have:=R.bulk;simp only[gh,WJ,XC];simp only at this;omega
  ·cases j with
   |zero=>
    simp[lO] at hc hx;subst hc;subst hx;exact PZ hk R (hok 0 t v rfl rfl)
   |succ j=>exact i4 j c x (by simpa[lO] using hc) (by simpa using hx)
def Same(W W':World):Prop:=W'.os=W.os/\W'.output=W.output/\∀b,b<W.heap.size->W'.heap[b]?=W.heap[b]?
theorem Same.keptBut(h:Same W W')(may:MemPlace->Prop):W.keptBut W' may:=by
 refine⟨h.1,h.2.1,λi hi=>?_⟩;rw[h.2.2 i hi];cases W.heap[i]? with
 |none=>simp
 |some o=>cases o<;>simp
theorem Same.at(h:Same W W'){p:MemPlace}(hp:p.block<W.heap.size):W.sameAt W' p:=by
 cases p with
 |cell b off=>exact aJ (h.2.2 b hp) off
 |map b=>exact h.2.2 b hp
theorem Same.frozen(h:Same W W'){b off:Nat}(hb:b<W.heap.size):W'.frozen? ⟨b,off,none⟩=W.frozen? ⟨b,off,none⟩:=by simp only[World.frozen?,h.2.2 b hb]
variable {T:TypeId->Prop}
theorem Dv:∀{ts:List TypeId} {vs:List Value} {ds:List (DataW H)} {ps:List MemPlace} {sp:Nat->Bool} {held:Bool},DataW.TrodAll enc P W 0 sp held ts vs ds ps->(∀p∈ps,W.sameAt W' p)->
 DataW.TrodAll enc P W' 0 sp held ts vs ds ps
 |[],[],[],_,_,_,h,_=>h
 |_::_,_::_,_::_,_,_,_,⟨p,q,⟨n,h1⟩,h2,e⟩,hs=>⟨p,q,⟨n,DataW.trod_carry n _ _ _ h1 λx hx=>hs x (by rw[e];exact Zo _ hx)⟩,Dv h2 (λx hx=>hs x (by rw[e];exact YM _ hx)),e⟩
theorem Bz(K:Kids P T)(hz:∀t e,T t->P.underlying t=some (.slice e)->0<P.cellsOf e)(hg:∀(g:Nat) t,(P.globals[g]?).map (·.type)=some t->T t)(S:Same W W'){sp:Nat->Bool}:
 ∀{ns:List String} {ds:List (DataW H)} {ps:List MemPlace},DataW.TrodVars enc P W (λ_=>true) ns ds ps->(∀p∈ps,p.block<W.heap.size/\sp p.block=true)->DataW.TrodVars enc P W' sp ns ds ps
 |[],[],_,h,_=>h
 |_::_,_::_,_,⟨g,t,cs,fuel,p,q,h1,h2,h3,h4,h5,e⟩,hs=>by
  refine⟨g,t,cs,fuel,p,q,h1,h2,?_,?_,Bz K hz hg S h5 (λx hx=>hs x (by rw[e];simp[hx])),e⟩
  ·rw[←h3];simp only[World.var?,h1,YC] at h3⊢
   have hlt:g<W.heap.size:=by
    by_cases hb:g<W.heap.size
    ·exact hb
    ·rw[Yr (by omega)] at h3;cases h3
   rw[S.2.2 g hlt]
  ·exact DataW.trod_respare K hz fuel t _ _ (hg g t h2) (DataW.trod_carry fuel _ _ _ h4 λx hx=>S.at (hs x (by rw[e];simp[hx])).1) (λx hx=>(hs x (by rw[e];simp[hx])).2)
theorem IL(K:Kids P T)(hz:∀t e,T t->P.underlying t=some (.slice e)->0<P.cellsOf e)(S:Same W W'){sp:Nat->Bool}{ts:List TypeId}{vs:List Value}{ds:List (DataW H)}{ps:List MemPlace}(hT:∀t∈ts,T t)
 (h:DataW.TrodAll enc P W 0 (λ_=>true) true ts vs ds ps)(hs:∀p∈ps,p.block<W.heap.size/\sp p.block=true):DataW.TrodAll enc P W' 0 sp true ts vs ds ps:=
 DataW.TrodAll.respare K hz hT (Dv h λp hp=>S.at (hs p hp).1) λp hp=>(hs p hp).2
theorem Lz{f:Func}{s:ChangeSpec}{fresh handsOn again:Bool}{args:Array Value}{ds gs:List (DataW H)}{before:List MemPlace}{tb:TypeId}
 (K:Kids P T)(hz:∀t e,T t->P.underlying t=some (.slice e)->0<P.cellsOf e)(hg:∀(g:Nat) t,(P.globals[g]?).map (·.type)=some t->T t)(hT:∀t∈f.params.toList,T t)
 (hr:f.resultTypes=#[tb])(hb:P.underlying tb=some .bool)
 (hW:DataW.Whole enc P f.params.toList s.vars false W args.toList ds gs before)(S:Same W W')
 (hspec:s.fn H (ds++gs)={results:=[.lit (.bool true)],args:=ds,vars:=gs}):s.post enc P f false fresh handsOn again W args (.bool true) W':=by
 have hlt:=hW.lt;have hW0:=hW;obtain⟨p,q,hA,hV,hbf,hfz,_⟩:=hW;have hlp:∀x∈p,x.block<W.heap.size:=λx hx=>hlt x (by rw[hbf];simp[hx]);have hlq:∀x∈q,x.block<W.heap.size:=λx hx=>hlt x (by rw[hbf];simp[hx])
 have res:∀(b:Nat) (sp:Nat->Bool) (hd:Bool),DataW.TrodAll enc P W' b sp hd f.resultTypes.toList ((Value.bool true).resultList f.resultTypes.size) (s.fn H (ds++gs)).results []:=by
  intro b sp hd;rw[hspec,hr];exact trodAll_mk1 ⟨1,by simp[DataW.trod,hb,Value.cells]⟩
 have ar:∀sp:Nat->Bool,(∀b,b<W.heap.size->sp b=true)->DataW.TrodAll enc P W' 0 sp true f.params.toList args.toList (s.fn H (ds++gs)).args p:=by
  intro sp hsp;rw[hspec];exact IL K hz S hT hA λx hx=>⟨hlp x hx,hsp _ (hlp x hx)⟩
 have va:∀sp:Nat->Bool,(∀b,b<W.heap.size->sp b=true)->DataW.TrodVars enc P W' sp s.vars (s.fn H (ds++gs)).vars q:=by
  intro sp hsp;rw[hspec];exact Bz K hz hg S hV λx hx=>⟨hlq x hx,hsp _ (hlq x hx)⟩
 refine⟨ds,gs,before,[],p,q,hW0,res _ _ _,ar _ (by simp),va _ (by simp),S.keptBut _,λ_=>⟨?_,?_⟩⟩
 ·exact ok_one hr rfl (okWide_bool_mk hb _)
 ·refine⟨_,_,([]++p)++q,⟨[]++p,q,trodAll_append (ar _ (λ_ _=>rfl)) (res _ _ _),va _ (λ_ _=>rfl),rfl,?_,by simp⟩,?_⟩
  ·intro b off hp;have hp':MemPlace.cell b off∈before:=by rw[hbf];simpa using hp
   rw[S.frozen (b:=b) (off:=off) (hlt _ hp')];exact hfz b off hp'
  ·intro x hx _;rw[hbf];simpa using hx
theorem Lr{f:FuncId}{fn:Func}{s:ChangeSpec}{fresh handsOn again:Bool}{args:Array Value}{ds gs:List (DataW H)}{before:List MemPlace}{tb:TypeId}{G:aw}{base:Nat}
 (hP:Plain P L=true)(hub:BulkOk ub)(hL:∀t∈fn.params.toList,t∈L)
 (K:Kids P T)(hz:∀t e,T t->P.underlying t=some (.slice e)->0<P.cellsOf e)(hg:∀(g:Nat) t,(P.globals[g]?).map (·.type)=some t->T t)(hT:∀t∈fn.params.toList,T t)
 (hr:fn.resultTypes=#[tb])(hb:P.underlying tb=some .bool)
 (hval:∀(j:Nat) t v,fn.params[j]?=some t->args[j]?=some v->Value.okWide P W .any base t v)
 (hW:DataW.Whole enc P fn.params.toList s.vars false W args.toList ds gs before)
 (hspec:s.fn H (ds++gs)={results:=[.lit (.bool true)],args:=ds,vars:=gs})
 (hG:∀g cs,G g=some cs->g<W.heap.size/\∀j c,cs[j]?=some c->∃v,W.cell? ⟨g,j,none⟩=some v/\PRel W (· <W.heap.size) c v)
 (walk:∀vss,Confs P fn.params.toList vss->gh vss<=(ds.map ub).sum->VF P G f (lO P fn.params.toList vss) (.p (.bool true))):
 Calls P f args W λe W'=>∃v,e= .returned v/\s.post enc P fn false fresh handsOn again W args v W':=by
 obtain⟨p,q,hA,hV,hbf,hfz,hn⟩:=hW;obtain⟨vss,c1,c2,c3,c4⟩:=GQ (φ:=λ_=>(0,0)) (n:=0) hP hub hL hA (base:=base) (λj t v h1 h2=>hval j t v (by simpa using h1) (by simpa using h2));have H0:HRel G W (· <W.heap.size) (λ_=>(0,0)) []:=⟨λid sz es e=>by simp at e,λid o e _=>by simp at e,λid id' e=>(aN e).elim,λb hb=>⟨hb,λid e=>(aN e).elim⟩,λid hid=>by simp at hid,hG⟩
 refine((walk vss c1 c2).2 W (· <W.heap.size) (λ_=>(0,0)) args H0 ⟨by simpa using c3,λj c v h1 h2=>c4 j c v h1 (by simpa using h2)⟩).mono λe W' ⟨r,S',φ',h',k1,k2,k3,k4⟩=>?_
 subst k1;cases k3 with
 |ret _ x hv=>
  cases hv with
  |p _ _ hp=>
   cases hp;refine⟨_,rfl,Lz K hz hg hT hr hb ⟨p,q,hA,hV,hbf,hfz,hn⟩ ⟨k4.os,k4.output,λb hb=>k4.out b hb λid e=>(aN e).elim⟩ hspec⟩
end
end Go.Aw
namespace Go.Aw
section
variable {H:Type} {enc:TypeId × Value->H} {P:Program} {W:World}
theorem vZ{b:Nat}{sp:Nat->Bool}{held:Bool}:∀{ts:List TypeId} {vs:List Value} {ds:List (DataW H)} {ps:List MemPlace},DataW.TrodAll enc P W b sp held ts vs ds ps->ds.length=ts.length
 |[],[],[],_,_=>rfl
 |_::_,_::_,_::_,_,⟨_,_,_,h,_⟩=>by simp[vZ h]
theorem tQ{sp:Nat->Bool}:∀{ns:List String} {ds:List (DataW H)} {ps:List MemPlace},DataW.TrodVars enc P W sp ns ds ps->ds.length=ns.length
 |[],[],_,_=>rfl
 |_::_,_::_,_,⟨_,_,_,_,_,_,_,_,_,_,h,_⟩=>by simp[tQ h]
theorem LB{ts:List TypeId}{vars:List String}{ap:Bool}{vs:List Value}{ds gs:List (DataW H)}{ps:List MemPlace}(h:DataW.Whole enc P ts vars ap W vs ds gs ps):ds.length=ts.length/\gs.length=vars.length:=by
 obtain⟨p,q,h1,h2,_⟩:=h;exact⟨vZ h1,tQ h2⟩
end
theorem It{P:Program}(h:(P.globals.toList.all λg=>decide (g.type<P.types.size))=true)(g:Nat)(t:TypeId)(e:(P.globals[g]?).map (·.type)=some t):t<P.types.size:=by
 cases hg:P.globals[g]? with
 |none=>rw[hg] at e;cases e
 |some x=>
  rw[hg] at e;cases e;have:=Wu.1 h x (Wq (by simpa using hg));simpa using this
theorem Ln{P:Program}{ts:List TypeId}(h:(ts.all λt=>decide (t<P.types.size))=true):∀t∈ts,t<P.types.size:=λt ht=>by
 have:=Wu.1 h t ht;simpa using this
end Go.Aw
namespace Go.Aw
@[simp] theorem GX(n:Nat):∀l:List PV,au n (l.map .p)=True
 |[]=>by simp[au]
 |v::r=>by simp[au,below,GX n r]
@[simp] theorem UT(n:Nat)(v:PV):below n (.p v)=True:=by simp[below]
@[simp] theorem SZ(n:Nat):below n .any=True:=by simp[below]
@[simp] theorem Sr(n:Nat):below n .nils=True:=by simp[below]
@[simp] theorem SQ(n:Nat)(l:List AV):below n (.agg l)=au n l:=by simp[below]
@[simp] theorem SU(n:Nat)(l:List AV):below n (.tup l)=au n l:=by simp[below]
@[simp] theorem RO(n:Nat):au n []=True:=by simp[au]
@[simp] theorem Rl(n:Nat)(v:AV)(r:List AV):au n (v::r)=(below n v/\au n r):=by simp[au]
@[simp] theorem Ur(n:Nat):Fgt n [] []=True:=by simp[Fgt]
@[simp] theorem Tr(n:Nat)(v v1:AV)(r r1:List AV):Fgt n (v::r) (v1::r1)=((v1= .any\/(below n v1/\v1=v))/\Fgt n r r1):=by simp[Fgt]
@[simp] theorem Tv(n:Nat):((n:Int)<0)=False:=by simp
theorem al{x:Int}(h0: -9223372036854775808<=x)(h1:x<=9223372036854775807):IntKind.i64.wrap x=x:=by
 simp[IntKind.wrap,IntKind.bits,IntKind.signed];omega
theorem w1{i:Nat}(h:i<9223372036854775807):IntKind.i64.wrap (↑i+1)=((i+1:Nat):Int):=by rw[al (by omega) (by omega)];simp
end Go.Aw
namespace Go.Aw
inductive View (h:List AO):AV->PV->Prop where
 |p (v:PV):View h (.p v) v
 |nils (sz:Nat):View h .nils (.lst sz [])
 |e (sz sz':Nat):View h (.p (.lst sz [])) (.lst sz' [])
 |sl (id sz off:Nat) (es:List (List AV)) (ps:List (List PV)):h[id]?=some (.row sz es)->off+ps.length<=es.length->(∀e∈ps,e.length=sz)->
   (∀(i j:Nat) (e:List PV) (q:PV) (e':List AV) (a:AV),ps[i]?=some e->e[j]?=some q->es[off+i]?=some e'->e'[j]?=some a->View h a q)->View h (.sl id sz off ps.length) (.lst sz ps)
 |fl (id sz off:Nat) (es:List (List AV)) (ps:List PV):h[id]?=some (.row sz es)->(∀(i:Nat) (q:PV),ps[i]?=some q->es.flatten[off+i]?=some (.p q))->View h (.sl id 1 off ps.length) (.lst 1 (ps.map λq=>[q]))
theorem GN{α:Type}:∀l:List α,(l.map λq=>[q]).flatten=l
 |[]=>rfl
 |a::r=>by rw[WJ,WX,GN r];rfl
def kM(φ:Place)(h:List AO)(b:Nat):Prop:=∃id,Live h id/\(φ id).1=b
theorem View.prel{G:aw}{W:World}{S:Nat->Prop}{φ:Place}{h:List AO}(H:HRel G W S φ h){a:AV}{q:PV}(hv:View h a q):∀{x:Value},VRel W S φ h.length a x->PRel W (λb=>S b\/kM φ h b) q x:=by
 induction hv with
 |p v=>
  intro x hx;cases hx with
  |p _ _ hp=>exact hp.mono λb hb=>⟨.inl hb,rfl⟩
 |nils sz=>intro x hx;cases hx;exact .lst0 _ _ _
 |e sz sz'=>
  intro x hx;cases hx with
  |p _ _ hp=>cases hp<;>exact .lst0 _ _ _
 |sl id sz off es ps hid hfit hsz hc ih=>
  intro x hx;cases hx with
  |sl _ _ _ _ cap ba hid' hl hba hb=>
   obtain⟨c,t,fr,a1,a2,a3,a4,a5⟩:=H.obj id sz es hid;cases hps:ps with
   |nil=>subst hps;exact .lst0 _ _ _
   |cons e0 r0=>
    rw[←hps]
    have hpos:0<cap:=by have:0<ps.length:=by rw[hps];simp
                        omega
    have hba':=hba hpos;subst hba'
    have cell:∀(j:Nat) (q:PV),ps.flatten[j]?=some q->∃v,W.cell? ⟨(φ id).1,(φ id).2+off*sz+j,none⟩=some v/\PRel W (λb=>S b\/kM φ h b) q v:=by
     intro j q hj
     have hszp:0<sz:=by
      rcases YY sz with h0|h0
      ·exfalso;have:=(Wa.1 hj).1;rw[aK hsz,h0] at this;simp at this
      ·exact h0
     have e1:j=(j/sz)*sz+j%sz:=(by rw[YF];exact(Zr _ _).symm);have e2:j%sz<sz:=Zy _ hszp;rw[e1,aZ hsz _ _ e2] at hj;simp only[XG] at hj;obtain⟨e,he,hq⟩:=hj;have hi1:j/sz<ps.length:=(Wa.1 he).1;obtain⟨e',he'⟩:∃e',es[off+j/sz]?=some e':=⟨_,Wc (by omega)⟩;have hle:e'.length=sz:=a3 e' (Wq he');obtain⟨a,ha⟩:∃a,e'[j%sz]?=some a:=⟨_,Wc (by omega)⟩
     have hfl:es.flatten[(off+j/sz)*sz+j%sz]?=some a:=by rw[aZ a3 _ _ e2,he'];exact ha
     obtain⟨_,v,hv1,hv2⟩:=a5 _ a hfl;refine⟨v,?_,ih _ _ e q e' a he hq he' ha hv2⟩
     ·simp only[World.cell?,a1];rw[show(φ id).2+off*sz+j=(φ id).2+((off+j/sz)*sz+j%sz) by rw[Xz];omega];simp[hv1]
    have:=PRel.lst (W:=W) (S:=λb=>S b\/kM φ h b) sz ps (φ id).1 ((φ id).2+off*sz) cap (λj=>(W.cell? ⟨(φ id).1,(φ id).2+off*sz+j,none⟩).getD default) (.inr ⟨id,bc hid,rfl⟩) hsz (by omega)
     (λj c hj=>by obtain⟨v,h1,h2⟩:=cell j c hj;rw[h1];rfl) (λj c hj=>by obtain⟨v,h1,h2⟩:=cell j c hj;rw[h1];exact h2)
    exact this
 |fl id sz off es ps hid hc=>
  intro x hx;cases hx with
  |sl _ _ _ _ cap ba hid' hl hba hb=>
   obtain⟨c,t,fr,a1,a2,a3,a4,a5⟩:=H.obj id sz es hid
   by_cases hp:ps=[]
   ·subst hp;exact .lst0 _ _ _
   have hpos:0<cap:=(by have:=YS.2 hp;omega);have hba':=hba hpos;subst hba'
   have cell:∀(j:Nat) (q:PV),(ps.map λq=>[q]).flatten[j]?=some q->∃v,W.cell? ⟨(φ id).1,(φ id).2+off*1+j,none⟩=some v/\PRel W (λb=>S b\/kM φ h b) q v:=by
    intro j q hj;rw[GN] at hj;obtain⟨_,v,hv1,hv2⟩:=a5 _ _ (hc j q hj);refine⟨v,?_,?_⟩
    ·simp only[World.cell?,a1];rw[show(φ id).2+off*1+j=(φ id).2+(off+j) by omega];simp[hv1]
    ·cases hv2 with
     |p _ _ hp=>exact hp.mono λb hb=>⟨.inl hb,rfl⟩
   have:=PRel.lst (W:=W) (S:=λb=>S b\/kM φ h b) 1 (ps.map λq=>[q]) (φ id).1 ((φ id).2+off*1) cap (λj=>(W.cell? ⟨(φ id).1,(φ id).2+off*1+j,none⟩).getD default) (.inr ⟨id,bc hid,rfl⟩) (λe he=>by obtain⟨q,_,rfl⟩:=Ww.1 he;rfl) (by rw[Wj];omega)
    (λj c hj=>by obtain⟨v,h1,h2⟩:=cell j c hj;rw[h1];rfl) (λj c hj=>by obtain⟨v,h1,h2⟩:=cell j c hj;rw[h1];exact h2)
   rwa[Wj] at this
inductive Views (h:List AO):List AV->List AV->Prop where
 |nil:Views h [] []
 |one {a:AV} {q:PV} {l l':List AV}:View h a q->Views h l l'->Views h (a::l) (.p q::l')
 |agg {cs cs' l l':List AV}:Views h cs cs'->Views h l l'->Views h (.agg cs::l) (.agg cs'::l')
 |tup {cs cs' l l':List AV}:Views h cs cs'->Views h l l'->Views h (.tup cs::l) (.tup cs'::l')
 |keep {a:AV} {l l':List AV}:below 0 a->Views h l l'->Views h (a::l) (a::l')
theorem Views.len{h:List AO}:∀{l l':List AV},Views h l l'->l.length=l'.length
 |_,_,.nil=>rfl
 |_,_,.one _ r=>by simp[r.len]
 |_,_,.agg _ r=>by simp[r.len]
 |_,_,.tup _ r=>by simp[r.len]
 |_,_,.keep _ r=>by simp[r.len]
theorem BY{W:World}{S S':Nat->Prop}{φ φ':Place}{n n':Nat}(hS:∀b,S b->S' b){v:AV}(hb:below 0 v){x:Value}(h:VRel W S φ n v x):VRel W S' φ' n' v x:=by
 have h1:VRel W S φ' n' v x:=jI v hb h;clear h
 induction h1 with
 |p v x hp=>exact .p _ _ (hp.mono λb hb=>⟨hS b hb,rfl⟩)
 |agg cs vs hs _ ih=>exact .agg cs vs hs λj c y h1 h2=>ih j c y h1 h2 (aT (by simpa[below] using hb) j c h1)
 |tup cs vs hs _ ih=>exact .tup cs vs hs λj c y h1 h2=>ih j c y h1 h2 (aT (by simpa[below] using hb) j c h1)
 |ptr=>simp[below] at hb
 |sl=>simp[below] at hb
 |mp=>simp[below] at hb
 |it=>simp[below] at hb
 |eptr e off b o hb' hc=>
  exact .eptr e off b o (hS b hb') λj c hj=>by
   obtain⟨v,h1,h2⟩:=hc j c hj;exact⟨v,h1,h2.mono λb hb=>⟨hS b hb,rfl⟩⟩
 |gp g off=>exact .gp g off
 |fn f caps vs hs _ ih=>exact .fn f caps vs hs λj c y h1 h2=>ih j c y h1 h2 (aT (by simpa[below] using hb) j c h1)
 |nils=>exact .nils
 |nilp=>exact .nilp
 |nilf=>exact .nilf
 |nilm=>exact .nilm
 |nili=>exact .nili
 |ifc t pv x hp=>exact .ifc _ _ _ (hp.mono λb hb=>⟨hS b hb,rfl⟩)
 |any x=>exact .any x
theorem Views.rel{G:aw}{W:World}{S:Nat->Prop}{φ:Place}{h:List AO}(H:HRel G W S φ h):∀{l l':List AV},Views h l l'->∀(j:Nat) (c c':AV) (x:Value),l[j]?=some c->l'[j]?=some c'->VRel W S φ h.length c x->VRel W (λb=>S b\/kM φ h b) φ 0 c' x
 |_,_,.nil,j,c,c',x,h1,_,_=>by simp at h1
 |_,_,.one hv r,j,c,c',x,h1,h2,hx=>by
  cases j with
  |zero=>simp at h1 h2;subst h1;subst h2;exact .p _ _ (hv.prel H hx)
  |succ j=>exact r.rel H j c c' x (by simpa using h1) (by simpa using h2) hx
 |_,_,.agg hv r,j,c,c',x,h1,h2,hx=>by
  cases j with
  |zero=>
   simp at h1 h2;subst h1;subst h2;cases hx with
   |agg cs vs hs hc=>
    refine .agg _ vs (by rw[hs,hv.len]) λi d y h3 h4=>?_;have hi:i<vs.size:=(WU.1 h4).1;exact hv.rel H i _ d y (Wc (by omega)) h3 (hc i _ y (Wc (by omega)) h4)
  |succ j=>exact r.rel H j c c' x (by simpa using h1) (by simpa using h2) hx
 |_,_,.tup hv r,j,c,c',x,h1,h2,hx=>by
  cases j with
  |zero=>
   simp at h1 h2;subst h1;subst h2;cases hx with
   |tup cs vs hs hc=>
    refine .tup _ vs (by rw[hs,hv.len]) λi d y h3 h4=>?_;have hi:i<vs.size:=(WU.1 h4).1;exact hv.rel H i _ d y (Wc (by omega)) h3 (hc i _ y (Wc (by omega)) h4)
  |succ j=>exact r.rel H j c c' x (by simpa using h1) (by simpa using h2) hx
 |_,_,.keep hb r,j,c,c',x,h1,h2,hx=>by
  cases j with
  |zero=>simp at h1 h2;subst h1;subst h2;exact BY (λb hb=> .inl hb) hb hx
  |succ j=>exact r.rel H j c c' x (by simpa using h1) (by simpa using h2) hx
def Uk:AV->Bool
 | .p (.bool _)| .p (.int ..)| .p (.str _)=>true
 |_=>false
theorem VF.lend{P:Program}{G:aw}{f:FuncId}{args pargs:List AV}{r:AV}(H:VF P G f pargs r){h:List AO}(hv:Views h args pargs)(hr:Uk r=true):AC P G f args h λx h'=>x= .ret r/\h'=h:=by
 refine⟨H.1,λW S φ vs hH hA=>?_⟩
 have h0:HRel G W (λb=>S b\/kM φ h b) φ []:=⟨λid sz es e=>by simp at e,λid o e _=>by simp at e,λid id' e=>(aN e).elim,λb hb=>⟨by
  rcases hb with hb|⟨id,e,he⟩
  ·exact(hH.sep b hb).1
  ·rw[←he];exact hH.bnd id e.lt,λid e=>(aN e).elim⟩,λid hid=>by simp at hid,λg cs hg=>by
  obtain⟨g1,g2⟩:=hH.glob g cs hg;exact⟨.inl g1,λj c hj=>by obtain⟨v,k1,k2⟩:=g2 j c hj;exact⟨v,k1,k2.mono λb hb=>⟨.inl hb,rfl⟩⟩⟩⟩
 refine(H.2 W _ φ vs h0 ⟨by rw[hA.1,hv.len],λj c v h1 h2=>?_⟩).mono λe W' ⟨x,S',φ',h',k1,k2,k3,k4⟩=>?_
 ·have hj:j<vs.size:=(WU.1 h2).1;have hjl:j<args.length:=by rw[←hA.1];exact hj
  exact hv.rel hH j _ c v (Wc hjl) h1 (hA.2 j _ v (Wc hjl) h2)
 subst k1;have hout:∀b,b<W.heap.size->W'.heap[b]?=W.heap[b]?:=λb hb=>k4.out b hb λid e=>(aN e).elim;have hlt:∀{id:Nat} {o:AO},h[id]?=some o->id<h.length:=λe=>(Wa.1 e).1
 have K:Keep W S φ h W' S φ h:=
  {pure:=λb hb=>⟨hb,hout b (hH.sep b hb).1⟩,len:=Wo _,same:=λ_ _=>rfl
   blk:=λid hid c t fr e=>⟨c,t,fr,by rw[←hout _ (hH.bnd id hid)];exact e,rfl⟩
   os:=k4.os,tape:=k4.tape,output:=k4.output,size:=k4.size,out:=λb hb _=>hout b hb
   img:=λid e=> .inr ⟨id,e,rfl⟩
   newS:=λb hb=> .inl hb}
 refine⟨.ret r,S,φ,h,⟨rfl,rfl⟩,⟨λid sz es e=>?_,λid o1 e lo=>?_,hH.inj,λb hb=>⟨WN (hH.sep b hb).1 k4.size,(hH.sep b hb).2⟩,λid hid=>WN (hH.bnd id hid) k4.size,λg cs hg=>?_⟩,?_,K⟩
 ·obtain⟨c,t,fr,a1,a2,a3,a4,a5⟩:=hH.obj id sz es e;refine⟨c,t,fr,by rw[hout _ (hH.bnd id (hlt e))];exact a1,a2,a3,a4,λj u hj=>?_⟩;obtain⟨b1,v,b2,b3⟩:=a5 j u hj;exact⟨b1,v,b2,b3.kept K.toKept⟩
 ·rw[hout _ (hH.bnd id (hlt e))];exact(hH.oobj id o1 e lo).mono λa v r=>r.kept K.toKept
 ·obtain⟨g1,g2⟩:=hH.glob g cs hg;refine⟨g1,λj c hj=>?_⟩;obtain⟨v,v1,v2⟩:=g2 j c hj;exact⟨v,by rw[aJ (K.pure g g1).2];exact v1,v2.mono K.pure⟩
 ·cases k3 with
  |ret _ x hv=>
   refine .ret _ _ ?_;cases hv<;>simp[Uk] at hr;rename_i pv hp;cases hp<;>simp[] at hr
   ·exact .p _ _ (.bool _)
   ·exact .p _ _ (.int _ _)
   ·exact .p _ _ (.str _)
end Go.Aw
namespace Go.Aw
mutual
def clean:AV->Bool
 | .p (.lst _ [])=>true
 | .p (.lst _ _)=>false
 | .p (.tbl _ _)=>false
 | .p _=>true
 | .agg cs=>eb cs
 | .tup cs=>eb cs
 | .ptr .. =>true
 | .sl .. =>true
 | .mp .. =>true
 | .it .. =>true
 | .gp .. =>true
 | .nils| .nilp| .nilf| .nilm| .nili=>true
 | .any=>true
 |_=>false
def eb:List AV->Bool
 |[]=>true
 |v::r=>clean v&&eb r
end
mutual
def bx(n:Nat):AV->AV
 | .ptr id g i o=> .ptr (n+id) g i o
 | .sl id g o l=> .sl (n+id) g o l
 | .mp id=> .mp (n+id)
 | .it id=> .it (n+id)
 | .agg cs=> .agg (cm n cs)
 | .tup cs=> .tup (cm n cs)
 |v=>v
def cm(n:Nat):List AV->List AV
 |[]=>[]
 |v::r=>bx n v::cm n r
end
def cS(n:Nat):AO->AO
 | .row sz es=> .row sz (es.map (cm n))
 | .mp es=> .mp (es.map λx=>(x.1,bx n x.2))
 | .sit s pos=> .sit s pos
 | .dead=> .dead
theorem bt(n:Nat):∀l:List AV,cm n l=l.map (bx n)
 |[]=>rfl
 |v::r=>by simp[cm,bt n r]
theorem kP:∀{l:List AV},eb l=true->∀(j:Nat) (c:AV),l[j]?=some c->clean c=true
 |v::r,h,0,c,e=>by simp at e;subst e;simp[eb] at h;exact h.1
 |v::r,h,j+1,c,e=>by simp[eb] at h;exact kP h.2 j c (by simpa using e)
theorem tK(n:Nat)(v:AV):(bx n v).isCell=v.isCell:=by cases v<;>rfl
def cleanO:AO->Bool
 | .row _ es=>es.all eb
 | .mp es=>es.all λx=>clean x.2
 | .sit .. =>true
 | .dead=>true
def kS(n:Nat)(φ φ':Place):Place:=λi=>if i<n then φ i else φ' (i-n)
theorem cW(n:Nat)(φ φ':Place)(i:Nat):kS n φ φ' (n+i)=φ' i:=by unfold kS;rw[WB (by omega),WP]
theorem vo{W:World}{S S':Nat->Prop}{φ φ':Place}{n m:Nat}:∀{v:AV} {x:Value},VRel W S' φ' m v x->clean v=true->VRel W S (kS n φ φ') (n+m) (bx n v) x:=by
 intro v x h
 induction h with
 |p pv x hp=>
  intro hc;cases hp with
  |bool b=>exact .p _ _ (.bool b)
  |int k n=>exact .p _ _ (.int k n)
  |str s=>exact .p _ _ (.str s)
  |lst0 sz a cap=>exact .p _ _ (.lst0 sz a cap)
  |lst sz es b off cap vs _ _ _ _ _=>
   cases es with
   |nil=>exact .p _ _ (.lst0 _ _ _)
   |cons e r=>simp[clean] at hc
  |tbl ks vs b clock ents cv _ _ _ _ _ _ _=>simp[clean] at hc
 |agg cs vs hs _ ih=>
  intro hc;simp only[clean] at hc;simp only[bx,bt];refine .agg _ vs (by simp[hs]) λj c y h1 h2=>?_;simp only[Wl,Wf] at h1;obtain⟨c0,h1,rfl⟩:=h1;exact ih j c0 y h1 h2 (kP hc j c0 h1)
 |tup cs vs hs _ ih=>
  intro hc;simp only[clean] at hc;simp only[bx,bt];refine .tup _ vs (by simp[hs]) λj c y h1 h2=>?_;simp only[Wl,Wf] at h1;obtain⟨c0,h1,rfl⟩:=h1;exact ih j c0 y h1 h2 (kP hc j c0 h1)
 |ptr id esz i off hid=>
  intro _;have:=VRel.ptr (W:=W) (S:=S) (φ:=kS n φ φ') (n:=n+m) (n+id) esz i off (by omega);rw[cW] at this;exact this
 |sl id esz off len cap ba hid hl hb hc=>
  intro _;have:=VRel.sl (W:=W) (S:=S) (φ:=kS n φ φ') (n:=n+m) (n+id) esz off len cap ba (by omega) hl (by rw[cW];exact hb) (by rw[cW];exact hc);simpa[bx] using this
 |mp id hid=>
  intro _;have:=VRel.mp (W:=W) (S:=S) (φ:=kS n φ φ') (n:=n+m) (n+id) (by omega);rw[cW] at this;exact this
 |it id hid=>
  intro _;have:=VRel.it (W:=W) (S:=S) (φ:=kS n φ φ') (n:=n+m) (n+id) (by omega);rw[cW] at this;exact this
 |gp g off=>intro _;exact .gp g off
 |nils=>intro _;exact .nils
 |nilp=>intro _;exact .nilp
 |nilf=>intro _;exact .nilf
 |nilm=>intro _;exact .nilm
 |nili=>intro _;exact .nili
 |any x=>intro _;exact .any x
 |eptr=>intro hc;simp[clean] at hc
 |fn=>intro hc;simp[clean] at hc
 |ifc=>intro hc;simp[clean] at hc
end Go.Aw
namespace Go.Aw
theorem AC.freeze{P:Program}{G:aw}{f:FuncId}{args:List AV}{r r':AV}{h1:List AO}(H:AC P G f args [] λx h'=>x= .ret r/\h'=h1)(hv:Views h1 [r] [r']):VF P G f args r':=by
 refine⟨H.1,λW S φ vs hH hA=>?_⟩;refine(H.2 W S φ vs hH hA).mono λe W' ⟨x,S',φ',h',⟨k0,k1⟩,k2,k3,k4⟩=>?_;subst k0;subst k1
 have himg:∀b,kM φ' h' b->W.heap.size<=b:=λb ⟨id,e,he⟩=>by
  rcases k4.img id e with h2|⟨id2,h2,_⟩
  ·omega
  ·exact(aN h2).elim
 refine⟨.ret r',(λb=>S' b\/kM φ' h' b),φ',[],rfl,⟨λid sz es e=>by simp at e,λid o e _=>by simp at e,λid id' e=>(aN e).elim,λb hb=>⟨by
  rcases hb with hb|⟨id,e,he⟩
  ·exact(k2.sep b hb).1
  ·rw[←he];exact k2.bnd id e.lt,λid e=>(aN e).elim⟩,λid hid=>by simp at hid,λg cs hg=>by
  obtain⟨g1,g2⟩:=k2.glob g cs hg;exact⟨.inl g1,λj c hj=>by obtain⟨v,q1,q2⟩:=g2 j c hj;exact⟨v,q1,q2.mono λb hb=>⟨.inl hb,rfl⟩⟩⟩⟩,?_,?_⟩
 ·cases k3 with
  |ret _ x hx=>exact .ret _ _ (hv.rel k2 0 r r' x rfl rfl hx)
 ·exact{pure:=λb hb=>⟨.inl (k4.pure b hb).1,(k4.pure b hb).2⟩,len:=Wo _,same:=λid hid=>by simp at hid
        blk:=λid hid=>by simp at hid
        os:=k4.os,tape:=k4.tape,output:=k4.output,size:=k4.size,out:=k4.out
        img:=λid e=>(aN e).elim
        newS:=λb hb=>by
         rcases hb with hb|hb
         ·exact k4.newS b hb
         ·exact .inr (.inl (himg b hb))}
end Go.Aw
namespace Go.Aw
theorem vA(n:Nat):∀v:AV,below n v->ren (List.range n) v=v:=by
 have key:∀(m:Nat),(∀v:AV,SizeOf.sizeOf v<m->below n v->ren (List.range n) v=v)/\(∀l:List AV,SizeOf.sizeOf l<m->au n l->bT (List.range n) l=l):=by
  intro m
  induction m with
  |zero=>exact⟨λv h=>by omega,λl h=>by omega⟩
  |succ m ih=>
   refine⟨λv hs hb=>?_,λl hs hb=>?_⟩
   ·cases v<;>simp only[ren,below] at hb⊢ <;>first|rfl|(rw[ih.2 _ (by simp at hs;omega) hb])|(simp[Wv,hb])
   ·cases l with
    |nil=>rfl
    |cons v r=>simp only[bT];rw[ih.1 v (by simp at hs;omega) hb.1,ih.2 r (by simp at hs;omega) hb.2]
 exact λv=>(key _).1 v (YK _)
theorem Cq(n:Nat):∀l:List AV,au n l->bT (List.range n) l=l
 |[],_=>rfl
 |v::r,h=>by simp only[bT];rw[vA n v h.1,Cq n r h.2]
def Fst(n:Nat)(h h1:List AO):Prop:=h1.length=n/\n<=h.length/\(∀(i:Nat) (sz:Nat) (es:List (List AV)),h1[i]?=some (.row sz es)->h[i]?=some (.row sz es)/\∀e∈es,au n e)/\
 (∀(i:Nat) (es:List (PV × AV)),h1[i]?=some (.mp es)->h[i]?=some (.mp es)/\∀e∈es,below n e.2)/\
 ∀(i:Nat) (s:List UInt8) (pos:Nat),h1[i]?=some (.sit s pos)->h[i]?=some (.sit s pos)
theorem Du{k n:Nat}{ts ts1:List AV}{h h1:List AO}(hk:k<=n)(HF:Fst n h h1)(HT:Fgt n ts ts1):∃ρ:List Nat,k<=ρ.length/\(∀i,i<k->ρ.getD i 0=i)/\ρ.Nodup/\TW ρ ts ts1/\HW ρ h ρ h1:=by
 obtain⟨f1,f2,f3,f4,f5⟩:=HF;refine⟨List.range n,by simpa using hk,λi hi=>by simp[Wv,show i<n by omega],Zl,?_,?_⟩
 ·revert HT
  induction ts generalizing ts1 with
  |nil=>intro H;cases ts1<;>first|exact trivial|exact H.elim
  |cons v r ih=>
   intro H;cases ts1 with
   |nil=>exact H.elim
   |cons v1 r1=>
    refine⟨?_,ih H.2⟩;rcases H.1 with h|⟨h1,h2⟩
    ·exact .inl h
    ·exact .inr ⟨by simpa using h1,by rw[←h2];exact vA n v1 h1⟩
 ·have key:∀(m a:Nat) (l:List AO),a+m=n->l.length=m->(∀i,l[i]?=h1[a+i]?)->HW (List.range n) h (List.range' a m) l:=by
   intro m
   induction m with
   |zero=>intro a l _ hl _;have:l=[]:=XQ.1 hl;subst this;exact trivial
   |succ m ih=>
    intro a l ha hl hg
    match l,hl with
    |o::r,hl=>
     refine⟨by omega,?_,ih (a+1) r (by omega) (by simpa using hl) (λi=>by have:=hg (i+1);simp at this;rw[this];congr 1;omega)⟩;have h0:=hg 0;simp at h0;cases o with
     |dead=>exact trivial
     |row sz es=>
      obtain⟨g1,g2⟩:=f3 a sz es h0.symm;refine⟨λe he=>by simpa using g2 e he,?_⟩;rw[g1];congr 2
      symm
      rw[WY (g:=id) λe he=>Cq n e (g2 e he)];simp
     |sit t pos=>exact f5 a t pos h0.symm
     |mp es=>
      obtain⟨g1,g2⟩:=f4 a es h0.symm;refine⟨λe he=>by simpa using g2 e he,?_⟩;rw[g1];congr 2
      symm
      rw[WY (g:=id) λe he=>by simp[vA n e.2 (g2 e he)]];simp
  rw[YQ];have:=key n 0 h1 (by omega) f1 (λi=>by simp);rwa[YQ] at this
theorem NU{k n:Nat}{ts ts1:List AV}{h h1:List AO}(hk:k<=n)(HF:Fst n h h1)(HT:Fgt n ts ts1):Wk k ts h ts1 h1:=by
 obtain⟨ρ,a,b,c,d,e⟩:=Du hk HF HT;exact Wk.of ρ a b c d e
theorem To{α:Type}{l:List α}{z:α}{i n:Nat}(hn:l.length=n)(h:i<n):(l.take i++List.replicate (n-i) z)[i]?=some z:=by
 have:(l.take i).length=i:=by simp;omega
 rw[Wg (by omega),this,Xd,Xi,Wz (by omega)]
theorem MY{α:Type}{l:List α}{z v:α}{i n:Nat}(hn:l.length=n)(h:i<n)(hv:l[i]?=some v):(l.take i++List.replicate (n-i) z).set i v=l.take (i+1)++List.replicate (n-(i+1)) z:=by
 have hl:(l.take i).length=i:=by simp;omega
 rw[Xy _ _ (by omega),hl,Xd];have e:n-i=(n-(i+1))+1:=by omega
 rw[e,XT,XY,WQ,hv];simp
theorem tC{h:List AO}{id sz n:Nat}{ls:List (List PV)}(he:h[id]?=some (.row sz (ls.map (·.map .p))))(hn:n=ls.length)(hs:∀l∈ls,l.length=sz):View h (.sl id sz 0 n) (.lst sz ls):=by
 subst hn;refine .sl id sz 0 _ ls he (by simp) hs λi j e q e' a h1 h2 h3 h4=>?_;simp only[WV,Wl,h1,Xx,WO] at h3;subst h3;simp only[Wl,h2,Xx,WO] at h4;subst h4;exact .p q
end Go.Aw
namespace Go.Aw
section
variable {P:Program} {G:aw}
def WkR(k:Nat)(v:AV)(h:List AO)(v1:AV)(h1:List AO):Prop:=
 ∃ρ:List Nat,k<=ρ.length/\(∀i,i<k->ρ.getD i 0=i)/\ρ.Nodup/\below ρ.length v1/\ren ρ v1=v/\HW ρ h ρ h1
theorem LP{k:Nat}{v v1:AV}{h h1:List AO}(w:WkR k v h v1 h1):Wk k [v] h [v1] h1:=by
 obtain⟨ρ,r1,r2,r3,r4,r5,r6⟩:=w;exact Wk.of ρ r1 r2 r3 ⟨.inr ⟨r4,r5⟩,trivial⟩ r6
theorem AC.gc{f:FuncId}{args:List AV}{h:List AO}{R R':ARes->List AO->Prop}(H:AC P G f args h R)(hp:∀t v h',R (.pan t v) h'->R' (.pan t v) h')
 (hw:∀v h',R (.ret v) h'->∃v1 h1,WkR h.length v h' v1 h1/\R' (.ret v1) h1):AC P G f args h R':=by
 refine⟨H.1,λW S φ vs hH hA=>(H.2 W S φ vs hH hA).mono λe W' ⟨r,S',φ',h',k1,k2,k3,k4⟩=>?_⟩;cases r with
 |pan t v=>exact⟨_,S',φ',h',hp t v h' k1,k2,k3,k4⟩
 |ret v=>
  cases k3 with
  |ret _ x hv=>
   obtain⟨v1,h1,w,hr⟩:=hw v h' k1
   have s:St G W S φ h W' S' φ' {tmps:=#[x],defers:=[]} [v] h':=⟨k2,⟨rfl,λi u hi=>by
    cases i with
    |zero=>simp at hi;subst hi;exact hv
    |succ i=>simp at hi⟩,rfl,k4⟩
   obtain⟨S1,φ1,s1⟩:=LP w G W S φ h W' S' φ' _ rfl s;exact⟨.ret v1,S1,φ1,h1,hr,s1.hrel,.ret _ _ (s1.trel.get 0 v1 rfl),s1.keep⟩
theorem VRel.isBelow{W:World}{S:Nat->Prop}{φ:Place}{n:Nat}{v:AV}{x:Value}(h:VRel W S φ n v x):Aw.below n v:=by
 induction h with
 |agg cs vs hs hc ih=>
  simp only[Aw.below]
  have:∀(l:List AV),(∀c∈l,Aw.below n c)->au n l:=by
   intro l;induction l with
   |nil=>intro _;trivial
   |cons a r ih=>intro h;exact⟨h a (by simp),ih λc hc=>h c (by simp[hc])⟩
  refine this _ λc hc'=>?_;obtain⟨j,hj⟩:=WA hc';have hl:=(Wa.1 hj).1;exact ih j c _ hj (WW (by omega))
 |tup cs vs hs hc ih=>
  simp only[Aw.below]
  have:∀(l:List AV),(∀c∈l,Aw.below n c)->au n l:=by
   intro l;induction l with
   |nil=>intro _;trivial
   |cons a r ih=>intro h;exact⟨h a (by simp),ih λc hc=>h c (by simp[hc])⟩
  refine this _ λc hc'=>?_;obtain⟨j,hj⟩:=WA hc';have hl:=(Wa.1 hj).1;exact ih j c _ hj (WW (by omega))
 |fn f cs vs hs hc ih=>
  simp only[Aw.below]
  have:∀(l:List AV),(∀c∈l,Aw.below n c)->au n l:=by
   intro l;induction l with
   |nil=>intro _;trivial
   |cons a r ih=>intro h;exact⟨h a (by simp),ih λc hc=>h c (by simp[hc])⟩
  refine this _ λc hc'=>?_;obtain⟨j,hj⟩:=WA hc';have hl:=(Wa.1 hj).1;exact ih j c _ hj (WW (by omega))
 |ptr _ _ _ _ hid=>exact hid
 |sl _ _ _ _ _ _ hid=>exact hid
 |mp _ hid=>exact hid
 |it _ hid=>exact hid
 |_=>trivial
def HB(h:List AO):Prop:=
 (∀(i sz:Nat) (es:List (List AV)),h[i]?=some (.row sz es)->∀e∈es,e.length=sz/\au h.length e/\e.all AV.isCell=true)/\
 ∀(i:Nat) (es:List (PV × AV)),h[i]?=some (.mp es)->∀e∈es,below h.length e.2
theorem HRel.hb{W:World}{S:Nat->Prop}{φ:Place}{h:List AO}(H:HRel G W S φ h):HB h:=by
 refine⟨λi sz es e x hx=>?_,λi es e x hx=>?_⟩
 ·obtain⟨c,t,fr,a1,a2,a3,a4,a5⟩:=H.obj i sz es e
  have key:∀u∈x,u.isCell=true/\Aw.below h.length u:=λu hu=>by
   obtain⟨j,hj⟩:=WA (Yt.2 ⟨x,hx,hu⟩);obtain⟨b1,v,b2,b3⟩:=a5 j u hj;exact⟨b1,b3.isBelow⟩
  refine⟨a3 x hx,?_,Wu.2 λu hu=>(key u hu).1⟩
  have:∀(l:List AV),(∀c∈l,Aw.below h.length c)->au h.length l:=by
   intro l;induction l with
   |nil=>intro _;trivial
   |cons a r ih=>intro h;exact⟨h a (by simp),ih λc hc=>h c (by simp[hc])⟩
  exact this x λu hu=>(key u hu).2
 ·obtain⟨ents,clock,a1,a2,a3,a4⟩:=H.oobj i _ e trivial;obtain⟨j,hj⟩:=WA hx;obtain⟨e0,_,_,h3⟩:=a3 j x.1 x.2 hj;exact h3.isBelow
theorem AC.hb{f:FuncId}{args:List AV}{h:List AO}{R:ARes->List AO->Prop}(hc:dH P f=true)(H:HB h->AC P G f args h R):AC P G f args h R:=
 ⟨hc,λW S φ vs hH hA=>(H hH.hb).2 W S φ vs hH hA⟩
theorem Ra{k:Nat}{ts ts1:List AV}{h:List AO}(hk:k<=h.length)(hb:HB h)(HT:Fgt h.length ts ts1):Wk k ts h ts1 h:=
 NU (n:=h.length) hk ⟨rfl,Wo _,(λi sz es e=>⟨e,λx hx=>(hb.1 i sz es e x hx).2.1⟩),(λi es e=>⟨e,λx hx=>hb.2 i es e x hx⟩),λi s p e=>e⟩ HT
theorem oS{f:FuncId}{F:FK}(h:af P f=some F):dH P f=true:=by
 unfold af at h;split at h<;>first|(cases h;done)|skip
 split at h<;>first|(cases h;done)|skip
 split at h<;>first|(cases h;done)|skip
 split at h<;>first|(cases h;done)|skip
 assumption
theorem AC.enterB{f:FuncId}{F:FK}{args:List AV}{h:List AO}{R:ARes->List AO->Prop}(hF:af P f=some F)(H:HB h->AC P G f args h R):AC P G f args h R:=AC.hb (oS hF) H
theorem dx{n m:Nat}(hnm:n<=m):∀(l:List AV),au n l->au m l:=by
 have key:∀(s:Nat),(∀v:AV,SizeOf.sizeOf v<s->below n v->below m v)/\(∀l:List AV,SizeOf.sizeOf l<s->au n l->au m l):=by
  intro s
  induction s with
  |zero=>exact⟨λv h=>by omega,λl h=>by omega⟩
  |succ s ih=>
   refine⟨λv hs hb=>?_,λl hs hb=>?_⟩
   ·cases v<;>simp only[below] at hb⊢ <;>first|trivial|omega|(exact ih.2 _ (by simp at hs;omega) hb)
   ·cases l with
    |nil=>trivial
    |cons v r=>exact⟨ih.1 v (by simp at hs;omega) hb.1,ih.2 r (by simp at hs;omega) hb.2⟩
 exact λl=>(key _).2 l (YK _)
theorem HB.set_row{h:List AO}(hb:HB h){id sz:Nat}{es:List (List AV)}(he:∀e∈es,e.length=sz/\au h.length e/\e.all AV.isCell=true):HB (h.set id (.row sz es)):=by
 refine⟨λi s es1 e x hx=>?_,λi es1 e x hx=>?_⟩
 ·rw[Wy]
  by_cases hi:i=id
  ·subst hi;rw[Xu] at e;split at e
   ·split at e
    ·cases e;exact he x hx
    ·cases e
   ·exact hb.1 _ _ _ e x hx
  ·rw[Wd (Ne.symm hi)] at e;exact hb.1 _ _ _ e x hx
 ·rw[Wy]
  by_cases hi:i=id
  ·subst hi;rw[Xu] at e;split at e
   ·split at e<;>cases e
   ·exact hb.2 _ _ e x hx
  ·rw[Wd (Ne.symm hi)] at e;exact hb.2 _ _ e x hx
def okO(n:Nat):AO->Prop
 | .row _ es=>∀e∈es,au n e
 | .mp es=>∀e∈es,below n e.2
 |_=>True
theorem AC.trim{f:FuncId}{args:List AV}{h:List AO}{r:AV}(H:AC P G f args h λx h'=>x= .ret r/\∃l,h'=h++l)(hr:below h.length r):AC P G f args h λx h'=>x= .ret r/\h'=h:=by
 refine AC.hb H.1 λhb=>H.gc (λt v h' ⟨e,_⟩=>by cases e) λv h' ⟨e,l,e2⟩=>?_;cases e;subst e2
 obtain⟨ρ,r1,r2,r3,r4,r5⟩:=Du (k:=h.length) (n:=h.length) (ts:=[r]) (ts1:=[r]) (h:=h++l) (h1:=h) (Wo _)
  ⟨rfl,by simp,(λi sz es e=>⟨by rw[Wb (Wa.1 e).1];exact e,λx hx=>(hb.1 i sz es e x hx).2.1⟩),
    (λi es e=>⟨by rw[Wb (Wa.1 e).1];exact e,λx hx=>hb.2 i es e x hx⟩),
    λi s p e=>by rw[Wb (Wa.1 e).1];exact e⟩ ⟨.inr ⟨hr,rfl⟩,trivial⟩
 rcases r4.1 with h1|⟨h1,h2⟩
 ·subst h1;exact⟨.any,h,⟨ρ,r1,r2,r3,by simp[below],by simp[ren],r5⟩,rfl,rfl⟩
 ·exact⟨r,h,⟨ρ,r1,r2,r3,h1,h2,r5⟩,rfl,rfl⟩
theorem LD(ρ:List Nat):∀l:List AV,au 0 l->bT ρ l=l:=by
 have key:∀(s:Nat),(∀v:AV,SizeOf.sizeOf v<s->below 0 v->ren ρ v=v)/\(∀l:List AV,SizeOf.sizeOf l<s->au 0 l->bT ρ l=l):=by
  intro s
  induction s with
  |zero=>exact⟨λv h=>by omega,λl h=>by omega⟩
  |succ s ih=>
   refine⟨λv hs hb=>?_,λl hs hb=>?_⟩
   ·cases v<;>simp only[ren,below] at hb⊢ <;>first|rfl|omega|(rw[ih.2 _ (by simp at hs;omega) hb])
   ·cases l with
    |nil=>rfl
    |cons v r=>simp only[bT];rw[ih.1 v (by simp at hs;omega) hb.1,ih.2 r (by simp at hs;omega) hb.2]
 exact λl=>(key _).2 l (YK _)
theorem Ja{ρ:List Nat}{h:List AO}:HW ρ h [] []:=trivial
theorem IM{ρ:List Nat}{h:List AO}{i:Nat}{π:List Nat}{sz:Nat}{es:List (List AV)}{r1:List AO}(e:h[i]?=some (.row sz es))(hp:∀x∈es,au 0 x)(hr:HW ρ h π r1):HW ρ h (i::π) (.row sz es::r1):=
 ⟨(Wa.1 e).1,⟨λx hx=>dx (We _) _ (hp x hx),by rw[WY (g:=id) λx hx=>LD ρ x (hp x hx)];simpa using e⟩,hr⟩
theorem Kc{ρ:List Nat}{h:List AO}{i:Nat}{π:List Nat}{sz:Nat}{es:List (List AV)}{r1:List AO}(hp:∀x∈es,au ρ.length x)(e:h[i]?=some (.row sz (es.map (bT ρ))))(hr:HW ρ h π r1):HW ρ h (i::π) (.row sz es::r1):=
 ⟨(Wa.1 e).1,⟨hp,e⟩,hr⟩
theorem JZ{ρ:List Nat}{h:List AO}{i:Nat}{π:List Nat}{r1:List AO}(e:i<h.length)(hr:HW ρ h π r1):HW ρ h (i::π) (.dead::r1):=⟨e,trivial,hr⟩
theorem Qt(ρ:List Nat){k:Nat}{ts ts1:List AV}{h h1:List AO}(hk:k=0)(nd:ρ.Nodup)(HH:HW ρ h ρ h1)(HT:TW ρ ts ts1):Wk k ts h ts1 h1:=
 Wk.of ρ (by omega) (λi hi=>by omega) nd HT HH
@[simp] theorem VB(ρ:List Nat):TW ρ [] []=True:=by simp[TW]
@[simp] theorem UO(ρ:List Nat)(v v1:AV)(r r1:List AV):TW ρ (v::r) (v1::r1)=((v1= .any\/(below ρ.length v1/\ren ρ v1=v))/\TW ρ r r1):=by simp[TW]
theorem AC.freezeR{f:FuncId}{args:List AV}{r':AV}{R:ARes->List AO->Prop}(H:AC P G f args [] R)(hp:∀t v h,¬R (.pan t v) h)(hv0:∀v h,R (.ret v) h->Views h [v] [r']):VF P G f args r':=by
 refine⟨H.1,λW S φ vs hH hA=>?_⟩;refine(H.2 W S φ vs hH hA).mono λe W' ⟨x,S',φ',h',k0,k2,k3,k4⟩=>?_
 obtain⟨r,rfl⟩:∃r,x= .ret r:=by
  cases x with
  |ret v=>exact⟨v,rfl⟩
  |pan t v=>exact(hp _ _ _ k0).elim
 have hv:=hv0 _ _ k0
 have himg:∀b,kM φ' h' b->W.heap.size<=b:=λb ⟨id,e,he⟩=>by
  rcases k4.img id e with h2|⟨id2,h2,_⟩
  ·omega
  ·exact(aN h2).elim
 refine⟨.ret r',(λb=>S' b\/kM φ' h' b),φ',[],rfl,⟨λid sz es e=>by simp at e,λid o e _=>by simp at e,λid id' e=>(aN e).elim,λb hb=>⟨by
  rcases hb with hb|⟨id,e,he⟩
  ·exact(k2.sep b hb).1
  ·rw[←he];exact k2.bnd id e.lt,λid e=>(aN e).elim⟩,λid hid=>by simp at hid,λg cs hg=>by
  obtain⟨g1,g2⟩:=k2.glob g cs hg;exact⟨.inl g1,λj c hj=>by obtain⟨v,q1,q2⟩:=g2 j c hj;exact⟨v,q1,q2.mono λb hb=>⟨.inl hb,rfl⟩⟩⟩⟩,?_,?_⟩
 ·cases k3 with
  |ret _ x hx=>exact .ret _ _ (hv.rel k2 0 r r' x rfl rfl hx)
 ·exact{pure:=λb hb=>⟨.inl (k4.pure b hb).1,(k4.pure b hb).2⟩,len:=Wo _,same:=λid hid=>by simp at hid
        blk:=λid hid=>by simp at hid
        os:=k4.os,tape:=k4.tape,output:=k4.output,size:=k4.size,out:=k4.out
        img:=λid e=>(aN e).elim
        newS:=λb hb=>by
         rcases hb with hb|hb
         ·exact k4.newS b hb
         ·exact .inr (.inl (himg b hb))}
end
end Go.Aw
namespace Go.Aw
def look:List (Nat × AV)->Nat->AV
 |[],_=> .any
 |x::r,j=>if x.1=j then x.2 else look r j
@[simp] theorem TT(j:Nat):look [] j= .any:=rfl
@[simp] theorem Tw(d:Nat)(v:AV)(r:List (Nat × AV)):look ((d,v)::r) d=v:=by simp[look]
@[simp] theorem SE{d j:Nat}(v:AV)(r:List (Nat × AV))(h:d≠j):look ((d,v)::r) j=look r j:=by simp[look,h]
def aj(n:Nat)(l:List (Nat × AV)):List AV:=(List.range n).map (look l)
theorem ke{n i:Nat}{l:List (Nat × AV)}(h:i<n):(aj n l)[i]?=some (look l i):=by simp[aj,h]
@[simp] theorem Ub{n j:Nat}{l:List (Nat × AV)}(h:j<n):sel (aj n l) j=look l j:=by rw[←sV,Wv,ke h];rfl
@[simp] theorem Tf(n d:Nat)(v:AV)(l:List (Nat × AV)):GP (aj n l) d v=aj n ((d,v)::l):=by
 rw[←ED];refine WT λi=>?_;rw[Xu]
 by_cases hi:i<n
 ·rw[ke hi,ke hi]
  by_cases hd:d=i
  ·subst hd;simp[aj,hi]
  ·simp[hd]
 ·simp only[aj,Wj,Xq];rw[WS (by simp;omega),WS (by simp;omega)];split
  ·rw[WB (by omega)]
  ·rfl
def ER:Nat->List AV->List (Nat × AV)
 |_,[]=>[]
 |k,a::r=>(k,a)::ER (k+1) r
@[simp] theorem Ty(k:Nat):ER k []=[]:=rfl
@[simp] theorem Te(k:Nat)(a:AV)(r:List AV):ER k (a::r)=(k,a)::ER (k+1) r:=rfl
theorem Dq:∀(l:List AV) (k i:Nat),look (ER k l) i=if k<=i then(l[i-k]?).getD .any else .any
 |[],k,i=>by simp
 |a::r,k,i=>by
  simp only[ER,look];split
  ·rename_i h;subst h;simp
  ·rename_i h;rw[Dq r (k+1) i]
   by_cases hk:k<=i
   ·rw[Wz (by omega),Wz hk,show i-k=(i-(k+1))+1 by omega];simp
   ·rw[WB (by omega),WB hk]
theorem DO{n:Nat}{args:List AV}(h:args.length<=n):args++List.replicate (n-args.length) .any=aj n (ER 0 args):=by
 refine WT λi=>?_
 by_cases hi:i<n
 ·rw[ke hi,Dq,Wz (We _),ZK]
  by_cases ha:i<args.length
  ·rw[Wb ha,Wc ha];rfl
  ·rw[Wg (by omega),Xi,Wz (by omega),WS (by omega)];rfl
 ·rw[WS (by simp;omega),WS (by simp[aj];omega)]
theorem AC.go{P:Program}{G:aw}{f:FuncId}{F:FK}(hF:af P f=some F){args:List AV}{h:List AO}{R:ARes->List AO->Prop}
 (H:AKW P G h.length F.ak (aj F.ntmps (ER 0 args)) h (CS G F.res R))(hl:Nat.ble args.length F.ntmps=true:=by rfl):AC P G f args h R:=
 AC.enter hF (by rw[DO (Nat.le_of_ble_eq_true hl)];exact H)
theorem AC.goK{P:Program}{G:aw}{f:FuncId}{F:FK}(hF:af P f=some F){K:AK}(hK:K.whole=F.ak){args:List AV}{h:List AO}{R:ARes->List AO->Prop}
 (H:AKW P G h.length K (aj F.ntmps (ER 0 args)) h (CS G F.res R))(hl:Nat.ble args.length F.ntmps=true:=by rfl):AC P G f args h R:=
 AC.enterK hF K (λ_ h=>KOk.cuts (hK▸h)) (by rw[DO (Nat.le_of_ble_eq_true hl)];exact H)
def FgA(m:Nat)(l:List (Nat × AV)):List (Nat × AV)->Prop
 |[]=>True
 |x::r=>(below m x.2/\look l x.1=x.2)/\FgA m l r
@[simp] theorem UU(m:Nat)(l:List (Nat × AV)):FgA m l []=True:=rfl
@[simp] theorem Tn(m:Nat)(l:List (Nat × AV))(x:Nat × AV)(r:List (Nat × AV)):FgA m l (x::r)=((below m x.2/\look l x.1=x.2)/\FgA m l r):=rfl
def TWA(ρ:List Nat)(l:List (Nat × AV)):List (Nat × AV)->Prop
 |[]=>True
 |x::r=>(below ρ.length x.2/\ren ρ x.2=look l x.1)/\TWA ρ l r
@[simp] theorem UZ(ρ:List Nat)(l:List (Nat × AV)):TWA ρ l []=True:=rfl
@[simp] theorem TF(ρ:List Nat)(l:List (Nat × AV))(x:Nat × AV)(r:List (Nat × AV)):TWA ρ l (x::r)=((below ρ.length x.2/\ren ρ x.2=look l x.1)/\TWA ρ l r):=rfl
theorem KG{m:Nat}{l:List (Nat × AV)}:∀{l1:List (Nat × AV)},FgA m l l1->∀i,look l1 i= .any\/(below m (look l1 i)/\look l1 i=look l i)
 |[],_,i=> .inl rfl
 |x::r,h,i=>by
  simp only[look];split
  ·rename_i e;subst e;exact .inr ⟨h.1.1,h.1.2.symm⟩
  ·exact KG h.2 i
theorem KH{ρ:List Nat}{l:List (Nat × AV)}:∀{l1:List (Nat × AV)},TWA ρ l l1->∀i,look l1 i= .any\/(below ρ.length (look l1 i)/\ren ρ (look l1 i)=look l i)
 |[],_,i=> .inl rfl
 |x::r,h,i=>by
  simp only[look];split
  ·rename_i e;subst e;exact .inr h.1
  ·exact KH h.2 i
theorem AG{m n:Nat}{l l1:List (Nat × AV)}(h:FgA m l l1):Fgt m (aj n l) (aj n l1):=by
 have key:∀r:List Nat,Fgt m (r.map (look l)) (r.map (look l1)):=by
  intro r
  induction r with
  |nil=>trivial
  |cons i r ih=>exact⟨KG h i,ih⟩
 exact key _
theorem QF{ρ:List Nat}{n:Nat}{l l1:List (Nat × AV)}(h:TWA ρ l l1):TW ρ (aj n l) (aj n l1):=by
 have key:∀r:List Nat,TW ρ (r.map (look l)) (r.map (look l1)):=by
  intro r
  induction r with
  |nil=>trivial
  |cons i r ih=>exact⟨KH h i,ih⟩
 exact key _
theorem aE{k n:Nat}{l l1:List (Nat × AV)}{h:List AO}(hk:k=0)(H:FgA 0 l l1):Wk k (aj n l) h (aj n l1) []:=RA hk (AG H)
theorem tJ{k n m:Nat}{l l1:List (Nat × AV)}{h h1:List AO}(hk:k<=m)(HF:Fst m h h1)(H:FgA m l l1):Wk k (aj n l) h (aj n l1) h1:=NU hk HF (AG H)
theorem BW{k n:Nat}{l l1:List (Nat × AV)}{h:List AO}(hk:k<=h.length)(hb:HB h)(H:FgA h.length l l1):Wk k (aj n l) h (aj n l1) h:=Ra hk hb (AG H)
theorem Fl(ρ:List Nat){k n:Nat}{l l1:List (Nat × AV)}{h h1:List AO}(hk:k=0)(nd:ρ.Nodup)(HH:HW ρ h ρ h1)(H:TWA ρ l l1):Wk k (aj n l) h (aj n l1) h1:=Qt ρ hk nd HH (QF H)
structure Blk (A B:Prop):Type where
 mk::
def LQ(b:Bool)(A B:Prop)(_w:Blk A B):Prop:=Cnd b A B
@[simp high] theorem TL(A B:Prop)(b:Bool):Of A B (.p (.bool b))=LQ b A B ⟨⟩:=rfl
@[simp high] theorem Th(A B:Prop)(b:Bool):grd true A B (.p (.bool b))=LQ b A B ⟨⟩:=rfl
@[simp high] theorem Tc(A B:Prop)(b:Bool):grd false A B (.p (.bool b))=LQ (!b) A B ⟨⟩:=rfl
@[simp] theorem SR(A B:Prop)(w:Blk A B):LQ true A B w=A:=Nw A B
@[simp] theorem Rw(A B:Prop)(w:Blk A B):LQ false A B w=B:=KZ A B
theorem aA{b:Bool}{A B:Prop}{w:Blk A B}(h1:b=true->A)(h2:b=false->B):LQ b A B w:=⟨h1,h2⟩
attribute [simp] rm
end Go.Aw
namespace Go.Aw
mutual
def uR:AV->Bool
 | .agg cs=>tp cs
 | .tup cs=>tp cs
 | .fn _ _=>false
 |_=>true
def tp:List AV->Bool
 |[]=>true
 |v::r=>uR v&&tp r
end
def GH:AO->Bool
 | .row _ es=>es.all tp
 | .mp es=>es.all λx=>uR x.2
 | .sit .. =>true
 | .dead=>true
theorem rB:∀{l:List AV},tp l=true->∀(j:Nat) (c:AV),l[j]?=some c->uR c=true
 |v::r,h,0,c,e=>by simp at e;subst e;simp[tp] at h;exact h.1
 |v::r,h,j+1,c,e=>by simp[tp] at h;exact rB h.2 j c (by simpa using e)
theorem Bg{W:World}{S:Nat->Prop}{φ φ':Place}{n m:Nat}:∀{v:AV} {x:Value},VRel W S φ' m v x->uR v=true->VRel W S (kS n φ φ') (n+m) (bx n v) x:=by
 intro v x h
 induction h with
 |p pv x hp=>intro _;exact .p _ _ hp
 |agg cs vs hs _ ih=>
  intro hc;simp only[uR] at hc;simp only[bx,bt];refine .agg _ vs (by simp[hs]) λj c y h1 h2=>?_;simp only[Wl,Wf] at h1;obtain⟨c0,h1,rfl⟩:=h1;exact ih j c0 y h1 h2 (rB hc j c0 h1)
 |tup cs vs hs _ ih=>
  intro hc;simp only[uR] at hc;simp only[bx,bt];refine .tup _ vs (by simp[hs]) λj c y h1 h2=>?_;simp only[Wl,Wf] at h1;obtain⟨c0,h1,rfl⟩:=h1;exact ih j c0 y h1 h2 (rB hc j c0 h1)
 |ptr id esz i off hid=>
  intro _;have:=VRel.ptr (W:=W) (S:=S) (φ:=kS n φ φ') (n:=n+m) (n+id) esz i off (by omega);rw[cW] at this;exact this
 |sl id esz off len cap ba hid hl hb hc=>
  intro _;have:=VRel.sl (W:=W) (S:=S) (φ:=kS n φ φ') (n:=n+m) (n+id) esz off len cap ba (by omega) hl (by rw[cW];exact hb) (by rw[cW];exact hc);simpa[bx] using this
 |mp id hid=>
  intro _;have:=VRel.mp (W:=W) (S:=S) (φ:=kS n φ φ') (n:=n+m) (n+id) (by omega);rw[cW] at this;exact this
 |it id hid=>
  intro _;have:=VRel.it (W:=W) (S:=S) (φ:=kS n φ φ') (n:=n+m) (n+id) (by omega);rw[cW] at this;exact this
 |gp g off=>intro _;exact .gp g off
 |nils=>intro _;exact .nils
 |nilp=>intro _;exact .nilp
 |nilf=>intro _;exact .nilf
 |nilm=>intro _;exact .nilm
 |nili=>intro _;exact .nili
 |any x=>intro _;exact .any x
 |eptr e off b o hb hc=>intro _;exact .eptr e off b o hb hc
 |fn=>intro hc;simp[uR] at hc
 |ifc t pv x hp=>intro _;exact .ifc t pv x hp
theorem AC.lift{P:Program}{G:aw}{f:FuncId}{args:List AV}{r:AV}{h1:List AO}(H:AC P G f args [] λx h'=>x= .ret r/\h'=h1){h:List AO}(hv:au 0 args)(hr:uR r=true)(hh:h1.all GH=true):
 AC P G f args h λx h'=>x= .ret (bx h.length r)/\h'=h++h1.map (cS h.length):=by
 refine⟨H.1,λW S φ vs hH hA=>?_⟩;have h0:HRel G W S φ []:=⟨λid sz es e=>by simp at e,λid o e _=>by simp at e,λid id' e=>(aN e).elim,λb hb=>⟨(hH.sep b hb).1,λid e=>(aN e).elim⟩,λid hid=>by simp at hid,hH.glob⟩;refine(H.2 W _ φ vs h0 ⟨hA.1,λj c v h1 h2=>?_⟩).mono λe W' ⟨x,S',φ',h',⟨k0,k1⟩,k2,k3,k4⟩=>?_
 ·exact BY (λb hb=>hb) (aT hv j c h1) (hA.2 j _ v h1 h2)
 subst k0;subst k1;have hout:∀b,b<W.heap.size->W'.heap[b]?=W.heap[b]?:=λb hb=>k4.out b hb λid e=>(aN e).elim;have hlt:∀{id:Nat} {o:AO},h[id]?=some o->id<h.length:=λe=>(Wa.1 e).1
 have himg:∀id,Live h' id->W.heap.size<=(φ' id).1:=λid e=>by
  rcases k4.img id e with h2|⟨id2,h2,_⟩
  ·exact h2
  ·exact(aN h2).elim
 have hφ:∀{i},i<h.length->kS h.length φ φ' i=φ i:=λhi=>by simp[kS,hi]
 have hφ':∀i,kS h.length φ φ' (h.length+i)=φ' i:=λi=>cW _ _ _ i
 have hget:∀{i o},(h++h'.map (cS h.length))[i]?=some o->(i<h.length/\h[i]?=some o)\/(∃k o',i=h.length+k/\h'[k]?=some o'/\o=cS h.length o'):=λ{i o} e=>by
  rcases Xh i h.length with hi|hi
  ·rw[Wb hi] at e;exact .inl ⟨hi,e⟩
  ·rw[Wg hi,Wl,Wf] at e;obtain⟨o,e2,e3⟩:=e;exact .inr ⟨_,o,by omega,e2,e3.symm⟩
 have hsl:∀{o:AO},(cS h.length o).live->o.live:=λ{o} l=>by cases o<;>exact l
 have hnew:∀b,S' b->S b\/W.heap.size<=b:=λb hb=>by
  rcases k4.newS b hb with h2|h2|⟨id,h2,_⟩
  ·exact .inl h2
  ·exact .inr h2
  ·exact(aN h2).elim
 have K:Keep W S φ h W' S' (kS h.length φ φ') (h++h'.map (cS h.length)):=
  {pure:=λb hb=>⟨(k4.pure b hb).1,hout b (hH.sep b hb).1⟩,len:=by simp,same:=λ_ hid=>hφ hid
   blk:=λid hid c t fr e=>⟨c,t,fr,by rw[←hout _ (hH.bnd id hid)];exact e,rfl⟩
   os:=k4.os,tape:=k4.tape,output:=k4.output,size:=k4.size,out:=λb hb _=>hout b hb
   img:=λid ⟨o,e,l⟩=>by
    rcases hget e with⟨hi,e'⟩|⟨k,o',rfl,e',rfl⟩
    ·exact .inr ⟨id,⟨_,e',l⟩,by rw[hφ hi]⟩
    ·rw[hφ'];exact .inl (himg _ ⟨_,e',hsl l⟩)
   newS:=λb hb=>(hnew b hb).elim .inl λh2=> .inr (.inl h2)}
 have hlen:(h++h'.map (cS h.length)).length=h.length+h'.length:=by simp
 refine⟨.ret (bx h.length r),S',kS h.length φ φ',_,⟨rfl,rfl⟩,⟨λid sz es e=>?_,λid o1 e lo=>?_,λid id' ⟨o1,e1,l1⟩ ⟨o2,e2,l2⟩ he=>?_,λb hb=>⟨(k2.sep b hb).1,λid ⟨o1,e,l1⟩ he=>?_⟩,λid hid=>?_,λg cs hg=>?_⟩,?_,K⟩
 ·rcases hget e with⟨hi,e'⟩|⟨k,o',rfl,e',eo⟩
  ·obtain⟨c,t,fr,a1,a2,a3,a4,a5⟩:=hH.obj id sz es e';refine⟨c,t,fr,by rw[hφ hi,hout _ (hH.bnd id hi)];exact a1,a2,a3,by rw[hφ hi];exact a4,λj u hj=>?_⟩;obtain⟨b1,v,b2,b3⟩:=a5 j u hj;exact⟨b1,v,by rw[hφ hi];exact b2,b3.kept K.toKept⟩
  ·obtain⟨es',rfl,rfl⟩:∃es',o'= .row sz es'/\es=es'.map (cm h.length):=by cases o'<;>cases eo;exact⟨_,rfl,rfl⟩
   obtain⟨c,t,fr,a1,a2,a3,a4,a5⟩:=k2.obj k sz es' e';refine⟨c,t,fr,by rw[hφ'];exact a1,a2,λe he=>?_,by rw[hφ'];simpa using a4,λj u hj=>?_⟩
   ·obtain⟨e0,he0,rfl⟩:=Ww.1 he;rw[bt];simpa using a3 e0 he0
   ·have hfl:(es'.map (cm h.length)).flatten=es'.flatten.map (bx h.length):=by
     rw[Zj];congr 1;exact WY λl _=>bt _ l
    rw[hfl,Wl,Wf] at hj;obtain⟨u0,hj,rfl⟩:=hj;obtain⟨b1,v,b2,b3⟩:=a5 j u0 hj
    have hcl:uR u0=true:=by
     have h3:=Wu.1 hh _ (Wq e');simp only[GH] at h3;obtain⟨l,hl,hu⟩:=Yt.1 (Wq hj);have h4:=Wu.1 h3 l hl;obtain⟨q,hq⟩:=WA hu;exact rB h4 q u0 hq
    exact⟨by rw[tK];exact b1,v,by rw[hφ'];exact b2,by rw[hlen];exact Bg b3 hcl⟩
 ·rcases hget e with⟨hi,e'⟩|⟨k,o',rfl,e',eo⟩
  ·rw[hφ hi,hout _ (hH.bnd id hi)];exact(hH.oobj id o1 e' lo).mono λa v r=>r.kept K.toKept
  ·subst eo;rw[hφ'];have hq:=k2.oobj k o' e' (hsl lo);cases o' with
   |dead=>trivial
   |row sz es=>trivial
   |sit t pos=>exact hq
   |mp es'=>
    obtain⟨ents,clock,a1,a2,a3,a4⟩:=hq;refine⟨ents,clock,a1,by simpa using a2,λj k a hj=>?_,a4⟩;rw[Wl,Wf] at hj;obtain⟨⟨k0,a0⟩,hj,hk⟩:=hj;cases hk;obtain⟨x,c1,c2,c3⟩:=a3 j _ _ hj
    have hcl:uR a0=true:=by
     have h3:=Wu.1 hh _ (Wq e');simp only[GH] at h3;exact Wu.1 h3 _ (Wq hj)
    exact⟨x,c1,c2,by rw[hlen];exact Bg c3 hcl⟩
 ·rcases hget e1 with⟨hi,e1'⟩|⟨k,_,rfl,e1',rfl⟩<;>rcases hget e2 with⟨hi',e2'⟩|⟨k',_,rfl,e2',rfl⟩
  ·rw[hφ hi,hφ hi'] at he;exact hH.inj _ _ ⟨_,e1',l1⟩ ⟨_,e2',l2⟩ he
  ·rw[hφ hi,hφ'] at he;have:=himg _ ⟨_,e2',hsl l2⟩;have:=hH.bnd id hi;omega
  ·rw[hφ hi',hφ'] at he;have:=himg _ ⟨_,e1',hsl l1⟩;have:=hH.bnd id' hi';omega
  ·rw[hφ',hφ'] at he;rw[k2.inj _ _ ⟨_,e1',hsl l1⟩ ⟨_,e2',hsl l2⟩ he]
 ·rcases hget e with⟨hi,e'⟩|⟨k,_,rfl,e',rfl⟩
  ·rw[hφ hi] at he;rcases hnew b hb with h2|h2
   ·exact(hH.sep b h2).2 _ ⟨_,e',l1⟩ he
   ·have:=hH.bnd id hi;omega
  ·rw[hφ'] at he;exact(k2.sep b hb).2 _ ⟨_,e',hsl l1⟩ he
 ·rcases Xh id h.length with hi|hi
  ·rw[hφ hi];exact WN (hH.bnd id hi) k4.size
  ·have hid':id-h.length<h'.length:=by rw[hlen] at hid;omega
   have:=hφ' (id-h.length);rw[show h.length+(id-h.length)=id by omega] at this;rw[this];exact k2.bnd _ hid'
 ·obtain⟨g1,g2⟩:=hH.glob g cs hg;refine⟨(K.pure g g1).1,λj c hj=>?_⟩;obtain⟨v,v1,v2⟩:=g2 j c hj;exact⟨v,by rw[aJ (K.pure g g1).2];exact v1,v2.mono K.pure⟩
 ·cases k3 with
  |ret _ x hv=>rw[hlen];exact .ret _ _ (Bg hv hr)
end Go.Aw
namespace Go.Aw
variable {P:Program}
def Jx(P:Program)(t:TypeId):Option (List TypeId):=match P.underlying t with
 |some (.struct fs)=>some (fs.toList.map (·.type))
 |_=>none
theorem tX{t:TypeId}{vs:List PV}{ts:List TypeId}(h:Conf P t vs)(hu:Jx P t=some ts):ConfS P ts vs:=by
 unfold Jx at hu;cases h with
 |st vs e hs=>rw[e] at hu;cases hu;exact hs
 |bool b e=>rw[e] at hu;cases hu
 |int n e=>rw[e] at hu;cases hu
 |str s e=>rw[e] at hu;cases hu
 |sl es e=>rw[e] at hu;cases hu
 |arr vs e=>rw[e] at hu;cases hu
theorem gb{t:TypeId}{k:IntKind}{vs:List PV}(h:Conf P t vs)(hu:P.underlying t=some (.int k)):∃n,vs=[.int k n]/\(Lit.int k n).wf=true:=by
 cases h with
 |int n e hw=>rw[hu] at e;cases e;exact⟨n,rfl,hw⟩
 |sl es e=>rw[e] at hu;cases hu
 |bool b e=>rw[e] at hu;cases hu
 |str s e=>rw[e] at hu;cases hu
 |st vs e=>rw[e] at hu;cases hu
 |arr vs e=>rw[e] at hu;cases hu
theorem aY{t:TypeId}{ts:List TypeId}{vs:List PV}(h:ConfS P (t::ts) vs):∃a b,vs=a++b/\Conf P t a/\ConfS P ts b:=by
 cases h with
 |cons h1 h2=>exact⟨_,_,rfl,h1,h2⟩
theorem mA{vs:List PV}(h:ConfS P [] vs):vs=[]:=by cases h;rfl
theorem Ij{t:TypeId}{ts:List TypeId}{vss:List (List PV)}(h:Confs P (t::ts) vss):∃vs r,vss=vs::r/\Conf P t vs/\Confs P ts r:=by
 cases h with
 |cons h1 h2=>exact⟨_,_,rfl,h1,h2⟩
theorem LS{vss:List (List PV)}(h:Confs P [] vss):vss=[]:=by cases h;rfl
theorem JF{α β:Type}(g:β->α):∀{es:List α},(∀x∈es,∃m,x=g m)->∃ms:List β,es=ms.map g
 |[],_=>⟨[],rfl⟩
 |e::r,h=>by
  obtain⟨m,hm⟩:=h e (by simp);obtain⟨ms,hms⟩:=JF g (es:=r) λx hx=>h x (by simp[hx]);exact⟨m::ms,by simp[hm,hms]⟩
end Go.Aw
namespace Go.Aw
def OM:AV->Option AV
 | .p (.lst _ es)=>some (.p (.int .i64 es.length))
 | .nils=>some (.p (.int .i64 0))
 | .sl _ _ _ n=>some (.p (.int .i64 n))
 |_=>none
section
variable {P:Program} {G:aw} {d:Option Nat} {r:List CO} {ts:List AV} {h:List AO} {K:KT} {Qp:QP}
theorem Rg(x:AOp):ev G ts h (.len false x)=(OM (x.ev ts)).map (·,h):=by
 show(un (.len false x) (x.ev ts)).map (·,h)=_
 cases x.ev ts<;>try rfl
 rename_i v;cases v<;>rfl
@[simp high] theorem UW(x:AOp):rK P G (⟨d,none,.len false x⟩::r) ts h K Qp=nxt P G d r ts K Qp ((OM (x.ev ts)).map (·,h)):=by rw[←Rg (G:=G)];exact aW _ rfl
@[simp] theorem Vy(sz:Nat)(es:List (List PV)):OM (.p (.lst sz es))=some (.p (.int .i64 es.length)):=rfl
@[simp] theorem SY:OM .nils=some (.p (.int .i64 0)):=rfl
@[simp] theorem Uw(a b c n:Nat):OM (.sl a b c n)=some (.p (.int .i64 n)):=rfl
end
section
variable {G:aw} {h:List AO} {id sz:Nat} {l:List (List AV)}
end
end Go.Aw
