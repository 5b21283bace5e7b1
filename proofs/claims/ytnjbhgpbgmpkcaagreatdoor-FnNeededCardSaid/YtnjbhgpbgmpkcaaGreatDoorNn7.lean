/-
  Contracts and lemmas that the card needs, part 7.
-/
import Derived.Test.YtnjbhgpbgmpkcaaGreatDoorNn6
import Derived.Maps.RangeRun
namespace Go.Aw
open Go
theorem nD{h:List AO}{id i:Nat}{o:AO}(e:(h.set id .dead)[i]?=some o)(l:o.live):i≠id∧h[i]?=some o:=by
 rw[List.getElem?_set] at e
 split at e
 ·split at e
  ·cases e;exact l.elim
  ·cases e
 ·rename_i hne
  exact⟨fun h=>hne h.symm,e⟩
theorem dq{h:List AO}{id i:Nat}(l:Live (h.set id .dead) i):i≠id∧Live h i:=by
 obtain⟨o,e,l⟩:=l
 obtain⟨h1,h2⟩:=nD e l
 exact⟨h1,o,h2,l⟩
section
variable {G:ay} {W:World} {S:Nat→Prop} {φ:Aw.Place} {h:List AO}
theorem HRel.forget(H:HRel G W S φ h)(id:Nat):HRel G W S φ (h.set id .dead) where
 obj:=fun i sz es e=>by
  rw[List.length_set]
  exact H.obj i sz es (nD e trivial).2
 oobj:=fun i o e l=>by
  rw[List.length_set]
  exact H.oobj i o (nD e l).2 l
 inj:=fun i j li lj e=>H.inj i j (dq li).2 (dq lj).2 e
 sep:=fun b hb=>⟨(H.sep b hb).1,fun i li=>(H.sep b hb).2 i (dq li).2⟩
 bnd:=fun i hi=>H.bnd i (by simpa using hi)
 glob:=H.glob
theorem Keep.forget{id:Nat}{W':World}{S':Nat→Prop}{φ':Aw.Place}{h':List AO}(K:Keep W S φ (h.set id .dead) W' S' φ' h'):Keep W S φ h W' S' φ' h' where
 pure:=K.pure
 len:=by have:=K.len;rwa[List.length_set] at this
 same:=fun i hi=>K.same i (by rw[List.length_set];exact hi)
 blk:=fun i hi=>K.blk i (by rw[List.length_set];exact hi)
 os:=K.os
 tape:=K.tape
 output:=K.output
 size:=K.size
 out:=fun b hb hn=>K.out b hb fun i li=>hn i (dq li).2
 img:=fun i li=>by
  rcases K.img i li with h1|⟨j,h1,h2⟩
  ·exact .inl h1
  ·exact .inr ⟨j,(dq h1).2,h2⟩
 newS:=fun b hb=>by
  rcases K.newS b hb with h1|h1|⟨j,h1,h2⟩
  ·exact .inl h1
  ·exact .inr (.inl h1)
  ·exact .inr (.inr ⟨j,(dq h1).2,h2⟩)
structure Aside (r:Nat) (w w':World):Prop where
 other:∀b,b≠r→w'.heap[b]?=w.heap[b]?
 size:w'.heap.size=w.heap.size
 cells:∀c t fr,w'.heap[r]?≠some (.cells c t fr)
 os:w'.os=w.os
 tape:w'.tape=w.tape
 output:w'.output=w.output
theorem Aside.kept{r n:Nat}{w w':World}(A:Aside r w w')(hS:¬S r):Kept w S φ n w' S φ n where
 pure:=fun b hb=>⟨hb,A.other b fun e=>hS (e▸hb)⟩
 len:=Nat.le_refl _
 same:=fun _ _=>rfl
 blk:=fun i _ c t fr e=>by
  by_cases he:(φ i).1=r
  ·rw[he] at e;exact(A.cells c t fr e).elim
  ·rw[A.other _ he] at e;exact⟨c,t,fr,e,rfl⟩
theorem HRel.aside{r:Nat}{w w':World}(H:HRel G w S φ h)(A:Aside r w w')(hn:∀i,Live h i→(φ i).1≠r)(hS:¬S r):HRel G w' S φ h where
 obj:=fun i sz es e=>by
  obtain⟨c,t,fr,a1,a2,a3,a4,a5⟩:=H.obj i sz es e
  refine⟨c,t,fr,by rw[A.other _ (hn i (bB e))];exact a1,a2,a3,a4,fun j u hj=>?_⟩
  obtain⟨b1,v,b2,b3⟩:=a5 j u hj
  exact⟨b1,v,b2,b3.kept (A.kept hS)⟩
 oobj:=fun i o e l=>by
  rw[A.other _ (hn i ⟨o,e,l⟩)]
  exact(H.oobj i o e l).mono fun a v q=>q.kept (A.kept hS)
 inj:=H.inj
 sep:=fun b hb=>⟨by rw[A.size];exact(H.sep b hb).1,(H.sep b hb).2⟩
 bnd:=fun i hi=>by rw[A.size];exact H.bnd i hi
 glob:=fun g cs hg=>by
  obtain⟨g1,g2⟩:=H.glob g cs hg
  refine⟨g1,fun j c hj=>?_⟩
  obtain⟨v,v1,v2⟩:=g2 j c hj
  have hne:g≠r:=fun e=>hS (e▸g1)
  exact⟨v,by rw[aQ (A.other g hne)];exact v1,v2.mono fun b hb=>⟨hb,A.other b fun e=>hS (e▸hb)⟩⟩
theorem St.aside{W0:World}{S0:Nat→Prop}{φ0:Aw.Place}{h0:List AO}{a:Act}{ts:List AV}{r:Nat}{w w':World}(s:St G W0 S0 φ0 h0 w S φ a ts h)(A:Aside r w w')(hn:∀i,Live h i→(φ i).1≠r)(hS:¬S r)(hr:W0.heap.size≤r):St G W0 S0 φ0 h0 w' S φ a ts h where
 hrel:=s.hrel.aside A hn hS
 trel:=s.trel.kept (A.kept hS)
 defers:=s.defers
 keep:=by
  have k:=s.keep
  have q:Kept w S φ h.length w' S φ h.length:=A.kept hS
  exact{pure:=fun b hb=>⟨(k.pure b hb).1,(q.pure b (k.pure b hb).1).2.trans (k.pure b hb).2⟩
        len:=k.len
        same:=k.same
        blk:=fun i hi c t fr e=>by
         have h1:=q.blk i (Nat.lt_of_lt_of_le hi k.len) c t fr (by rw[k.same i hi];exact e)
         rw[k.same i hi] at h1
         obtain⟨c1,t1,fr1,e1,s1⟩:=h1
         obtain⟨c2,t2,fr2,e2,s2⟩:=k.blk i hi c1 t1 fr1 e1
         exact⟨c2,t2,fr2,e2,s2.trans s1⟩
        os:=A.os.trans k.os
        tape:=A.tape.trans k.tape
        output:=A.output.trans k.output
        size:=by rw[A.size];exact k.size
        out:=fun b hb hn2=>(A.other b (by omega)).trans (k.out b hb hn2)
        img:=k.img
        newS:=k.newS}
end
structure Free (W:World) (S:Nat→Prop) (φ:Aw.Place) (h:List AO) (b:Nat):Prop where
 lt:b<W.heap.size
 live:∀i,Live h i→(φ i).1≠b
 notS:¬S b
theorem Free.keep{W W':World}{S S':Nat→Prop}{φ φ':Aw.Place}{h h':List AO}{b:Nat}(F:Free W S φ h b)(K:Keep W S φ h W' S' φ' h'):Free W' S' φ' h' b∧W'.heap[b]?=W.heap[b]?:=
 ⟨⟨Nat.lt_of_lt_of_le F.lt K.size,fun i li e=>by
   rcases K.img i li with h1|⟨j,h1,h2⟩
   ·have:=F.lt;omega
   ·exact F.live j h1 (h2.trans e),fun hb=>by
   rcases K.newS b hb with h1|h1|⟨j,h1,h2⟩
   ·exact F.notS h1
   ·have:=F.lt;omega
   ·exact F.live j h1 h2⟩,K.out b F.lt F.live⟩
theorem zH{P:Program}{G:ay}{W0:World}{S0:Nat→Prop}{φ0:Aw.Place}{h0:List AO}{c:Code}{k:AK}(hk:iF P c=some k){W:World}{S:Nat→Prop}{φ:Aw.Place}{a:Act}{ts:List AV}{h:List AO}(s:St G W0 S0 φ0 h0 W S φ a ts h)
 {Q:AX→List AV→List AO→Prop}(hq:AKW P G h.length k ts h Q){Q':Exit→Act→World→Prop}
 (K:∀x ts' h' S' φ' e a' W',Q x ts' h'→XRel W' S' x e→St G W0 S0 φ0 h0 W' S' φ' a' ts' h'→Keep W S φ h W' S' φ' h'→Q' e a' W'):c.wp P Q' a W:=by
 have s1:St G W S φ h W S φ a ts h:=⟨s.hrel,s.trel,s.defers,Keep.refl s.hrel⟩
 refine wp_mono (uk (gM hk) s1 hq) fun e a' W' ⟨x,ts',h',S',φ',q1,q2,q3⟩=>?_
 exact K x ts' h' S' φ' e a' W' q1 q2 ⟨q3.hrel,q3.trel,q3.defers,s.keep.trans q3.keep⟩ q3.keep
theorem St.forget{G:ay}{W0:World}{S0:Nat→Prop}{φ0:Aw.Place}{h0:List AO}{id:Nat}{W:World}{S:Nat→Prop}{φ:Aw.Place}{a:Act}{ts:List AV}{h:List AO}(s:St G W0 S0 φ0 (h0.set id .dead) W S φ a ts h):St G W0 S0 φ0 h0 W S φ a ts h:=
 ⟨s.hrel,s.trel,s.defers,s.keep.forget⟩
theorem uu{l:List (Nat × AV)}:∀{l1:List (Nat × AV)},(∀x∈l1,look l x.1=x.2)→∀i,look l1 i= .any∨look l1 i=look l i
 |[],_,i=> .inl rfl
 |x::r,h,i=>by
  by_cases e:x.1=i
  ·right
   rw[look,if_pos e,←e]
   exact(h x (by simp)).symm
  ·rw[look,if_neg e]
   exact uu (fun y hy=>h y (by simp[hy])) i
theorem St.less{G:ay}{W0:World}{S0:Nat→Prop}{φ0:Aw.Place}{h0:List AO}{W:World}{S:Nat→Prop}{φ:Aw.Place}{a:Act}{n:Nat}{l l1:List (Nat × AV)}{h:List AO}(s:St G W0 S0 φ0 h0 W S φ a (aj n l) h)(hl:∀x∈l1,look l x.1=x.2):St G W0 S0 φ0 h0 W S φ a (aj n l1) h:=by
 refine⟨s.hrel,⟨by simpa[aj] using s.trel.size,fun i v hi=>?_⟩,s.defers,s.keep⟩
 have hin:i<n:=by have:=(List.getElem?_eq_some_iff.1 hi).1;simpa[aj] using this
 rw[dT hin] at hi
 cases hi
 rcases uu hl i with e|e
 ·rw[e];exact .any _
 ·rw[e];exact s.trel.get i _ (dT hin)
theorem DV(n d:Nat)(v:AV)(l:List (Nat × AV)):put (some d) v (aj n l)=aj n ((d,v)::l):=by
 rw[←AB,←qZ];rfl
theorem St.set{G:ay}{W0:World}{S0:Nat→Prop}{φ0:Aw.Place}{h0:List AO}{W:World}{S:Nat→Prop}{φ:Aw.Place}{a:Act}{n:Nat}{l:List (Nat × AV)}{h:List AO}(s:St G W0 S0 φ0 h0 W S φ a (aj n l) h){v:AV}{x:Value}(hv:VRel W S φ h.length v x)(d:Nat):St G W0 S0 φ0 h0 W S φ (a.put (some d) x) (aj n ((d,v)::l)) h:=by
 rw[←DV]
 exact s.put (some d) hv s.hrel (Keep.refl s.hrel)
theorem St.look{G:ay}{W0:World}{S0:Nat→Prop}{φ0:Aw.Place}{h0:List AO}{W:World}{S:Nat→Prop}{φ:Aw.Place}{a:Act}{n:Nat}{l:List (Nat × AV)}{h:List AO}(s:St G W0 S0 φ0 h0 W S φ a (aj n l) h)(i:Nat)(hi:i<n):VRel W S φ h.length (look l i) (a.tmps.getD i undef):=s.trel.get i _ (dT hi)
theorem St.size{G:ay}{W0:World}{S0:Nat→Prop}{φ0:Aw.Place}{h0:List AO}{W:World}{S:Nat→Prop}{φ:Aw.Place}{a:Act}{n:Nat}{l:List (Nat × AV)}{h:List AO}(s:St G W0 S0 φ0 h0 W S φ a (aj n l) h):a.tmps.size=n:=by
 have:=s.trel.size
 simpa[aj] using this
theorem sQ{e:MapEntry}{p:MapEntry→Bool}:∀{l:List MapEntry},l.Pairwise (fun x y=>x.born≠y.born)→e∈l→p e=true→(l.filter p).Perm (e::l.filter fun x=>p x&&x.born !=e.born)
 |x::r,hp,he,hpe=>by
  obtain⟨h1,h2⟩:=List.pairwise_cons.1 hp
  rcases List.mem_cons.1 he with rfl|he
  ·have e1:(r.filter fun x=>p x&&x.born !=e.born)=r.filter p:=List.filter_congr fun y hy=>by
    have:y.born≠e.born:=fun q=>h1 y hy q.symm
    simp[this]
   rw[List.filter_cons,if_pos hpe,List.filter_cons,if_neg (by simp),e1]
  ·have hne:x.born≠e.born:=h1 e he
   have ih:=sQ h2 he hpe
   rw[List.filter_cons,List.filter_cons]
   by_cases hx:p x=true
   ·rw[if_pos hx,if_pos (by simp[hx,hne])]
    exact(ih.cons x).trans (List.Perm.swap e x _)
   ·rw[if_neg hx,if_neg (by simp[hx])]
    exact ih
theorem uE{ents:Array MapEntry}{seen:Array Nat}{e:MapEntry}(hp:ents.toList.Pairwise (fun x y=>x.born≠y.born))(he:e∈(leftOf ents seen).toList):(leftOf ents seen).toList.Perm (e::(leftOf ents (seen.push e.born)).toList):=by
 simp only[leftOf,Array.toList_filter] at he⊢
 obtain⟨h1,h2⟩:=List.mem_filter.1 he
 refine(sQ hp h1 h2).trans (List.Perm.of_eq ?_)
 congr 1
 refine List.filter_congr fun x _=>?_
 by_cases hx:x.born=e.born
 ·simp[hx]
 ·simp[hx]
theorem yV{ents:Array MapEntry}(h:∀(i j:Nat) (e e':MapEntry),ents[i]?=some e→ents[j]?=some e'→e.born=e'.born→i=j):ents.toList.Pairwise (fun x y=>x.born≠y.born):=by
 rw[List.pairwise_iff_getElem]
 intro i j hi hj hij e
 have:=h i j ents.toList[i] ents.toList[j] (by rw[←Array.getElem?_toList];exact List.getElem?_eq_getElem hi) (by rw[←Array.getElem?_toList];exact List.getElem?_eq_getElem hj) e
 omega
theorem Ad{w w1:World}(hw:w1=w∨w1=w.drew){r:Nat}{o:Obj}(ho:∀c t fr,o≠ .cells c t fr):Aside r w (Go.ChangeMaps.setBlock w1 r o):=by
 have hh:w1.heap=w.heap:=by rcases hw with rfl|rfl<;>rfl
 refine⟨fun b hb=>?_,?_,fun c t fr e=>?_,?_,?_,?_⟩
 ·simp only[Go.ChangeMaps.setBlock,hh]
  exact Array.getElem?_setIfInBounds_ne fun e=>hb e.symm
 ·simp[Go.ChangeMaps.setBlock,hh]
 ·simp only[Go.ChangeMaps.setBlock,hh] at e
  rw[Array.getElem?_setIfInBounds] at e
  rw[if_pos rfl] at e
  split at e
  ·cases e;exact ho _ _ _ rfl
  ·cases e
 ·rcases hw with rfl|rfl<;>rfl
 ·rcases hw with rfl|rfl<;>rfl
 ·rcases hw with rfl|rfl<;>rfl
theorem fJ{P:Program}{ops:Array Oper}{Q:Exit→Act→World→Prop}{o:Oper}{rest:List Oper}{a:Act}{w w':World}{v:Value}(hg:o.guard=none)(hr:(execOp a.eval o).run P w= .ok (.value v) w')(h:wpList P ops Q rest (a.put o.dst v) w'):wpList P ops Q (o::rest) a w:=by
 simp only[wpList]
 rw[if_pos (by simp[Region.wanted,hg])]
 refine .inl ?_
 unfold Oper.wp
 rw[hr]
 exact h
theorem iK{a:Act}{d:Nat}{v:Value}(h:d<a.tmps.size):(a.put (some d) v).eval (.tmp d)=v:=by simp[Act.eval,Act.put,h]
theorem rU(a:Act)(d:Nat)(v:Value):(a.put (some d) v).tmps.size=a.tmps.size:=by simp[Act.put]
theorem sG{P:Program}{m:Sem Value}{w w':World}{v:Value}(h:m.run P w= .ok v w'):(do let x ←m;pure (Next.value x):Sem Next).run P w= .ok (.value v) w':=by
 rw[Sem.run_bind,h];rfl
theorem yI(w:World)(o:Obj):w.alloc o=Go.Sort.grow w #[o]:=by
 simp only[World.alloc,Go.Sort.grow]
 rw[Array.push_eq_append]
theorem AC.enterC{P:Program}{G:ay}{f:FuncId}{fn:Func}{c:Code}{rs:List RV}(hf:P.funcs[f]?=some fn)(hb:fn.body=some c)(hr:lI P fn.results.toList=some rs)(hcall:eV P f=true){args:List AV}{h:List AO}{R:ARes→List AO→Prop}
 (H:∀(W:World) (S:Nat→Prop) (φ:Aw.Place) (a:Act),HRel G W S φ h→St G W S φ h W S φ a (args++List.replicate (fn.ntmps-args.length) .any) h→c.wp P (tS G W S φ h (om G rs R)) a W):AC P G f args h R:=by
 refine⟨hcall,fun W S φ vs hH hA=>?_⟩
 have s:St G W S φ h W S φ {tmps:=vs++Array.replicate (fn.ntmps-vs.size) undef,defers:=[]} (args++List.replicate (fn.ntmps-args.length) .any) h:=by
  refine⟨hH,⟨by simp[hA.1],fun i v hi=>?_⟩,rfl,Keep.refl hH⟩
  rw[List.getElem?_append] at hi
  split at hi
  ·rename_i hl
   have hl':i<vs.size:=by rw[hA.1];exact hl
   have:(vs++Array.replicate (fn.ntmps-vs.size) undef).getD i undef=vs[i]:=by
    rw[Array.getD_eq_getD_getElem?,Array.getElem?_append_left hl',Array.getElem?_eq_getElem hl'];rfl
   simp only
   rw[this]
   exact hA.2 i v _ hi (Array.getElem?_eq_getElem hl')
  ·have:=List.mem_of_getElem? hi
   rw[(List.mem_replicate.1 this).2]
   exact .any _
 refine calls_of_wp hf hb (wp_mono (H W S φ _ hH s) fun e a' W' ⟨x,ts,h',S',φ',q1,q2,q3⟩=>?_)
 have fin:(∃vs,kT G ts h' rs=some vs∧R (.ret (ni vs)) h')→a'.defers=[]∧∃v,(results fn a'.tmps).run P W'= .ok v W'∧∃r S' φ' h',R r h'∧HRel G W' S' φ' h'∧ERel W' S' φ' h'.length r (.returned v)∧Keep W S φ h W' S' φ' h':=fun⟨vs,e1,e2⟩=>by
  obtain⟨xs,k1,k2⟩:=sZ q3.hrel q3.trel hr e1
  have hm:(fn.results.mapM fun r=>(match r with| .tmp t=>pure (a'.tmps.getD t undef)| .cell d t=>do loadVar t (←asAddr (a'.tmps.getD d undef)):Sem Value)).run P W'= .ok xs.toArray W':=by
   rw[Array.mapM_eq_mapM_toList,Sem.run_map]
   exact(congrArg (fun r=>Result.andThen r fun a w'=>Result.ok a.toArray w') k1).trans rfl
  refine⟨q3.defers,if h:xs.toArray.size=1 then xs.toArray[0] else .tuple xs.toArray,?_,.ret (ni vs),S',φ',h',e2,q3.hrel,.ret _ _ ?_,q3.keep⟩
  ·unfold results
   rw[Sem.run_bind]
   refine(congrArg (fun r=>Result.andThen r _) hm).trans ?_
   rfl
  ·have hl:=k2.1
   match vs,xs,hl,k2 with
   |[],[],_,k2=>exact .tup _ _ rfl fun j c v h1=>by simp at h1
   |[v],[x],_,k2=>exact k2.2 0 v x rfl rfl
   |v::v'::r,x::x'::r',hl,k2=>exact .tup _ _ (by simpa using hl) fun j c y h1 h2=>k2.2 j c y h1 (by simpa using h2)
 cases q2 with
 |normal=>exact fin q1
 |ret=>exact fin q1
 |exit id=>exact q1.elim
 |pan t v x hp=>exact⟨q3.defers,_,S',φ',h',q1,q3.hrel,.pan t v x hp,q3.keep⟩
end Go.Aw
namespace Go.Proofs.YtnjbhgpbgmpkcaaGreatDoor
open Go Go.Aw
set_option maxRecDepth 100000
set_option maxHeartbeats 4000000
variable (G:ay)
def tM(e:MapEntry):Int:=match e.key with| .int _ n=>n|_=>0
def Gn(ents:Array MapEntry)(r:Nat)(w:World):Nat:=match w.heap[r]? with|some (.mapIter _ _ seen _)=>(leftOf ents seen).size|_=>0
structure SkInv (G:ay) (W:World) (S:Nat→Prop) (φ:Aw.Place) (h1:List AO) (ks:List Int) (ents:Array MapEntry) (clock b r:Nat) (a:Act) (w:World) (S':Nat→Prop) (φ':Aw.Place) (hh d:List AO) (xs:List Int) (o:AV) (seen:Array Nat) (c0:Nat):Prop where
 st:St G W S φ h1 w S' φ' a (aj 18 [(6,.gp r 0),(3,o)]) hh
 hb:w.heap[b]?=some (.map ents clock)
 hr:w.heap[r]?=some (.mapIter (some b) clock seen c0)
 hc:clock≤c0
 fb:Free w S' φ' hh b
 fr:Free w S' φ' hh r
 pre:hh=h1++d
 out:(xs=[]∧o= .nils)∨∃j,xs≠[]∧o= .sl j 1 0 xs.length∧h1.length≤j∧hh[j]?=some (dM xs)
 perm:(xs++(leftOf ents seen).toList.map tM).Perm ks
def skR(ks:List Int)(h1:List AO)(x:ARes)(h':List AO):Prop:=∃xs d,xs.Perm ks∧h'=h1++d∧((xs=[]∧x= .ret .nils)∨∃j,x= .ret (.sl j 1 0 xs.length)∧h1.length≤j∧h'[j]?=some (dM (xs.mergeSort fun x y=>decide (x≤y))))
def skQ(h1:List AO)(r:Nat)(xs:List Int)(x:Aw.AX)(ts':List AV)(h2:List AO):Prop:=∃(l:List (Nat × AV)) (d:List AO) (j:Nat),x= .normal∧ts'=aj 18 l∧Aw.look l 6= .gp r 0∧Aw.look l 3= .sl j 1 0 xs.length∧h2=h1++d∧h1.length≤j∧h2[j]?=some (dM xs)
theorem uX{h:List AO}{id:Nat}{es:List (PV × AV)}{ks:List Int}(hid:h[id]?=some (.mp es))(hk:es.map (·.1)=ks.map (PV.int .i64))(hb:ks.length≤1099511627776):
 AC Tryz.prog G fC [.mp id] h (skR ks (h.set id .dead)):=by
 refine AC.enterC Tryz.func133 rfl (rs:=[.t 2]) (by kernel_rfl) (by kernel_rfl) fun W S φ a hH s0=>?_
 obtain⟨ents,clock,hbl,hm1,hm2,hm3,hm4⟩:=hH.oobj id _ hid trivial
 generalize hbb:(φ id).1=b at hbl
 have hidl:=(List.getElem?_eq_some_iff.1 hid).1
 have F0:Free W S φ (h.set id .dead) b:=⟨by rw[←hbb];exact hH.bnd id hidl,fun i li e=>(dq li).1 (hH.inj i id (dq li).2 (mh hid) (e.trans hbb.symm)),fun hS=>(hH.sep b hS).2 id (mh hid) hbb⟩
 have s1:St G W S φ (h.set id .dead) W S φ a (aj 18 [(0,.mp id)]) (h.set id .dead):=⟨hH.forget id,by rw[List.length_set];exact s0.trel,s0.defers,Keep.refl (hH.forget id)⟩
 refine wp_mono (Q:=tS G W S φ (h.set id .dead) (om G [.t 2] _)) ?_ fun e a' W' ⟨x,ts,h',S',φ',q1,q2,q3⟩=>⟨x,ts,h',S',φ',q1,q2,q3.forget⟩
 have hl1:(h.set id .dead).length=h.length:=List.length_set
 generalize hh1:h.set id .dead=h1 at*
 refine wp_seq (zH (k:= .reg [⟨some 2,none,.mov (.c .nils)⟩]) (by kernel_rfl) s1 (Q:=fun x ts' h'=>x= .normal∧ts'=aj 18 [(2,.nils),(0,.mp id)]∧h'=h1) (by simp) ?_)
 rintro x ts' h' S2 φ2 e a2 W2 ⟨rfl,rfl,rfl⟩ hx s2 K2
 cases hx
 refine wp_seq (zH (k:= .reg [⟨some 3,none,.mov (.c .nils)⟩]) (by kernel_rfl) s2 (Q:=fun x ts' h2=>x= .normal∧ts'=aj 18 [(3,.nils),(2,.nils),(0,.mp id)]∧h2=h') (by simp) ?_)
 rintro x ts' h1 S3 φ3 e a3 W3 ⟨rfl,rfl,rfl⟩ hx s3 K3
 cases hx
 have F3:=(F0.keep s3.keep).1
 have e3:=(F0.keep s3.keep).2
 rw[hbl] at e3
 have hbeq:φ3 id=φ id:=s3.keep.same id (by rw[hl1];exact hidl)
 have hm0:a3.tmps.getD 0 undef= .map (some b):=by
  have:=s3.trel.get 0 (.mp id) rfl
  generalize a3.tmps.getD 0 undef=x at this
  cases this with
  |mp _ _=>rw[hbeq,hbb]
 refine wp_seq (wp_seq (wp_region_list (fJ (v:= .map (some b)) (w':=W3) rfl ?_ (fJ (v:= .pointer (some ⟨W3.heap.size,0,none⟩)) (w':=W3.alloc (.mapIter (some b) clock #[] clock)) rfl ?_ (wpList_nil ?_)))))
 ·simp[execOp,Act.eval,hm0]
 ·have hr0:(Instr.range (Tryz.f133.params.getD 0 0) (.map (some b))).run Tryz.prog W3=_:=run_range_map W3 _ _ _ b ents clock (show Tryz.prog.underlying (Tryz.f133.params.getD 0 0)=some (.map (match Tryz.prog.underlying (Tryz.f133.params.getD 0 0) with|some (.map k _)=>k|_=>0) (match Tryz.prog.underlying (Tryz.f133.params.getD 0 0) with|some (.map _ e)=>e|_=>0)) by kernel_rfl) e3
  have hev:(a3.put (some 5) (.map (some b))).eval (.tmp 5)= .map (some b):=iK (by rw[s3.size];decide)
  refine sG (m:=Instr.range (Tryz.f133.params.getD 0 0) ((a3.put (some 5) (.map (some b))).eval (.tmp 5))) ?_
  rw[hev]
  exact hr0
 have hG:=s3.hrel.grown #[.mapIter (some b) clock #[] clock]
 rw[←yI] at hG
 generalize hr3:W3.heap.size=r
 have s4:St G W S φ h1 (W3.alloc (.mapIter (some b) clock #[] clock)) S3 φ3 ((a3.put (some 5) (.map (some b))).put (some 6) (.pointer (some ⟨r,0,none⟩))) (aj 18 [(6,.gp r 0),(3,.nils)]) h1:=by
  have q:St G W S φ h1 (W3.alloc (.mapIter (some b) clock #[] clock)) S3 φ3 a3 (aj 18 [(3,.nils),(2,.nils),(0,.mp id)]) h1:=⟨hG.1,s3.trel.kept hG.2.toKept,s3.defers,s3.keep.trans hG.2⟩
  exact((q.set (.any _) 5).set (.gp r 0) 6).less (by simp[Aw.look])
 have F4:=F3.keep hG.2
 have hrl:∀i,Live h1 i→(φ3 i).1≠r:=fun i li e=>by have:=s3.hrel.bnd i li.lt;omega
 have hrS:¬S3 r:=fun hS=>by have:=(s3.hrel.sep r hS).1;omega
 have hr4:(W3.alloc (.mapIter (some b) clock #[] clock)).heap[r]?=some (.mapIter (some b) clock #[] clock):=by
  rw[←hr3];exact heap_alloc_new _ _
 have hr4l:r<(W3.alloc (.mapIter (some b) clock #[] clock)).heap.size:=(Array.getElem?_eq_some_iff.1 hr4).1
 have hWr:W.heap.size≤r:=by have:=s3.keep.size;omega
 have hborn:=yV hm4
 have hold:∀x∈ents.toList,x.born<clock:=fun x hx=>by
  obtain⟨j,hj,e⟩:=List.mem_iff_getElem.1 hx
  exact hm3 j x (by rw[←Array.getElem?_toList,List.getElem?_eq_getElem hj,e])
 have hkey:∀e∈ents.toList,e.key= .int .i64 (tM e):=fun e he=>by
  obtain⟨j,hj,hje⟩:=List.mem_iff_getElem.1 he
  have hje':ents[j]?=some e:=by rw[←Array.getElem?_toList,List.getElem?_eq_getElem hj,hje]
  have hjl:j<es.length:=by rw[←hm1];simpa using hj
  obtain⟨e',k1,k2,_⟩:=hm2 j es[j].1 es[j].2 (List.getElem?_eq_getElem hjl)
  rw[hje'] at k1;cases k1
  have h2:(es.map (·.1))[j]?=(ks.map (PV.int .i64))[j]?:=by rw[hk]
  rw[List.getElem?_map,List.getElem?_map,List.getElem?_eq_getElem hjl] at h2
  simp only[Option.map_some] at h2
  rw[eq_comm,Option.map_eq_some_iff] at h2
  obtain⟨n,_,h3⟩:=h2
  rw[←h3] at k2
  simp only[oa,Option.some.injEq] at k2
  rw[tM,←k2]
 have hkeys:ents.toList.map tM=ks:=by
  refine List.ext_getElem? fun j=>?_
  rw[List.getElem?_map]
  have h2:(es.map (·.1))[j]?=(ks.map (PV.int .i64))[j]?:=by rw[hk]
  rw[List.getElem?_map,List.getElem?_map] at h2
  cases hj:es[j]? with
  |none=>
   rw[hj] at h2
   have:es.length≤j:=List.getElem?_eq_none_iff.1 hj
   have hn:ents.toList[j]?=none:=List.getElem?_eq_none (by simpa[hm1] using this)
   rw[hn]
   cases hq:ks[j]? with
   |none=>rfl
   |some n=>rw[hq] at h2;cases h2
  |some p=>
   rw[hj] at h2
   obtain⟨e',k1,k2,_⟩:=hm2 j p.1 p.2 hj
   rw[Array.getElem?_toList,k1]
   cases hq:ks[j]? with
   |none=>rw[hq] at h2;cases h2
   |some n=>
    rw[hq] at h2
    simp only[Option.map_some,Option.some.injEq] at h2
    rw[h2] at k2
    simp only[oa,Option.some.injEq] at k2
    simp only[Option.map_some,tM,←k2]
 have I0:SkInv G W S φ h1 ks ents clock b r ((a3.put (some 5) (.map (some b))).put (some 6) (.pointer (some ⟨r,0,none⟩))) (W3.alloc (.mapIter (some b) clock #[] clock)) S3 φ3 h1 [] [] .nils #[] clock:=
  ⟨s4,by rw[F4.2];exact e3,hr4,Nat.le_refl _,F4.1,⟨hr4l,hrl,hrS⟩,by simp,.inl ⟨rfl,rfl⟩,by
    have:leftOf ents #[]=ents:=by simp[leftOf]
    rw[List.nil_append,this,hkeys]⟩
 refine wp_block (wp_loop (fun a w=>∃S' φ' hh d xs o seen c0,SkInv G W S φ h1 ks ents clock b r a w S' φ' hh d xs o seen c0) (fun _ w=>Gn ents r w) ⟨_,_,_,_,_,_,_,_,I0⟩ ?_)
 clear I0 s4 hr4 hr4l F4 hG hrl hrS hr3 hm0 F3 e3 s3 K3 s2 K2 s1 s0
 rintro a w ⟨S',φ',hh,d,xs,o,seen,c0,I⟩
 have h6:a.tmps.getD 6 undef= .pointer (some ⟨r,0,none⟩):=by
  have:VRel w S' φ' hh.length (.gp r 0) (a.tmps.getD 6 undef):=I.st.look 6 (by omega)
  generalize a.tmps.getD 6 undef=x at this
  cases this;rfl
 have hasz:=I.st.size
 rcases run_next_at (P:=Tryz.prog) w 0 r b clock c0 seen ents clock I.hr I.hb hold I.hc with⟨h0,hrun⟩|⟨e,he,w1,hw1,hrun⟩
 ·refine wp_seq (wp_region_list (fJ (v:= .tuple #[.bool false]) (w':=w) rfl ?_ (fJ (v:= .bool false) (w':=w) rfl ?_ (wpList_nil ?_))))
  ·refine sG (m:=Instr.next (a.eval (.tmp 6)) false 0) ?_
   rw[show a.eval (.tmp 6)= .pointer (some ⟨r,0,none⟩) from h6]
   exact hrun
  ·refine sG (m:=Instr.extract ((a.put (some 7) (.tuple #[.bool false])).eval (.tmp 7)) 0) ?_
   rw[iK (by rw[hasz];decide)]
   rfl
  have hperm:xs.Perm ks:=by
   have e0:leftOf ents seen=#[]:=Array.eq_empty_of_size_eq_zero h0
   have:=I.perm
   rw[e0] at this
   simpa using this
  refine wp_seq (wp_cond (t:=false) (iK (by rw[rU,hasz];decide)) (wp_exit ?_))
  have s5:St G W S φ h1 w S' φ' ((a.put (some 7) (.tuple #[.bool false])).put (some 8) (.bool false)) (aj 18 [(3,o)]) hh:=((I.st.set (.any _) 7).set (.any _) 8).less (by simp[Aw.look])
  have hxl:xs.length≤1099511627776:=by rw[hperm.length_eq];exact hb
  show Code.wp _ _ _ _ _
  refine zH (k:= .seq (.reg [⟨some 15,none,.mov (.t 3)⟩,⟨some 16,none,.call jm [.t 15]⟩]) (.seq (.reg [⟨some 17,none,.mov (.t 3)⟩,⟨some 2,none,.mov (.t 17)⟩]) .ret)) (by kernel_rfl) s5 (Q:=om G [.t 2] (skR ks h1)) ?_ ?_
  ·rcases I.out with⟨rfl,rfl⟩|⟨j,hne,rfl,hj,hgj⟩
   ·simp-implicitDefEqProofs[]
    refine(uB G hh).mono ?_
    rintro x h2 ⟨rfl,rfl⟩
    simp-implicitDefEqProofs[aa]
    exact⟨[],d,hperm,I.pre,.inl ⟨rfl,rfl⟩⟩
   ·simp-implicitDefEqProofs[]
    refine(Dg G hgj hne (by omega)).mono ?_
    rintro x h2 ⟨rfl,rfl⟩
    simp-implicitDefEqProofs[aa]
    have hjl:=(List.getElem?_eq_some_iff.1 hgj).1
    refine⟨xs,d.set (j-h1.length) (dM (xs.mergeSort fun x y=>decide (x≤y))),hperm,?_,.inr ⟨j,rfl,hj,by simp[hjl]⟩⟩
    rw[I.pre,List.set_append_right _ _ hj]
  ·intro x ts' h' S5 φ5 e a5 W5 q1 q2 q3 _
   exact⟨x,ts',h',S5,φ5,q1,q2,q3⟩
 have hel:=mem_left he
 have hA:=Ad (r:=r) (o:= .mapIter (some b) clock (seen.push e.born) clock) hw1 (fun _ _ _ h=>by cases h)
 have s6:=I.st.aside hA I.fr.live I.fr.notS hWr
 generalize hw':Go.ChangeMaps.setBlock w1 r (.mapIter (some b) clock (seen.push e.born) clock)=w' at*
 have hrb:r≠b:=fun q=>by have h1:=I.hr;rw[q,I.hb] at h1;cases h1
 have hb6:w'.heap[b]?=some (.map ents clock):=by rw[hA.other b fun q=>hrb q.symm];exact I.hb
 have hr6:w'.heap[r]?=some (.mapIter (some b) clock (seen.push e.born) clock):=by
  have hh:w1.heap=w.heap:=by rcases hw1 with rfl|rfl<;>rfl
  rw[←hw']
  simp only[Go.ChangeMaps.setBlock,hh]
  rw[Array.getElem?_setIfInBounds,if_pos rfl,if_pos I.fr.lt]
 have fb6:Free w' S' φ' hh b:=⟨by rw[hA.size];exact I.fb.lt,I.fb.live,I.fb.notS⟩
 have fr6:Free w' S' φ' hh r:=⟨by rw[hA.size];exact I.fr.lt,I.fr.live,I.fr.notS⟩
 refine wp_seq (wp_region_list (fJ (v:= .tuple #[.bool true,e.key,e.val]) (w':=w') rfl ?_ (fJ (v:= .bool true) (w':=w') rfl ?_ (wpList_nil ?_))))
 ·refine sG (m:=Instr.next (a.eval (.tmp 6)) false 0) ?_
  rw[show a.eval (.tmp 6)= .pointer (some ⟨r,0,none⟩) from h6]
  exact hrun
 ·refine sG (m:=Instr.extract ((a.put (some 7) (.tuple #[.bool true,e.key,e.val])).eval (.tmp 7)) 0) ?_
  rw[iK (by rw[hasz];decide)]
  rfl
 refine wp_seq (wp_cond (t:=true) (iK (by rw[rU,hasz];decide)) (wp_skip ?_))
 have s7:St G W S φ h1 w' S' φ' ((a.put (some 7) (.tuple #[.bool true,e.key,e.val])).put (some 8) (.bool true)) (aj 18 [(6,.gp r 0),(3,o)]) hh:=((s6.set (.any _) 7).set (.any _) 8).less (by simp[Aw.look])
 have h66:((a.put (some 7) (.tuple #[.bool true,e.key,e.val])).put (some 8) (.bool true)).eval (.tmp 6)= .pointer (some ⟨r,0,none⟩):=by
  have:VRel w' S' φ' hh.length (.gp r 0) (((a.put (some 7) (.tuple #[.bool true,e.key,e.val])).put (some 8) (.bool true)).tmps.getD 6 undef):=s7.look 6 (by omega)
  show((a.put (some 7) (.tuple #[.bool true,e.key,e.val])).put (some 8) (.bool true)).tmps.getD 6 undef=_
  generalize ((a.put (some 7) (.tuple #[.bool true,e.key,e.val])).put (some 8) (.bool true)).tmps.getD 6 undef=x at this
  cases this;rfl
 generalize ((a.put (some 7) (.tuple #[.bool true,e.key,e.val])).put (some 8) (.bool true))=a7 at*
 have hasz7:=s7.size
 show Code.wp _ _ _ _ _
 refine wp_block (wp_seq (wp_region_list (fJ (v:= .tuple #[e.key,e.val]) (w':=w') rfl ?_ (fJ (v:=e.key) (w':=w') rfl ?_ (fJ (v:=e.key) (w':=w') rfl ?_ (wpList_nil ?_))))))
 ·refine sG (m:=Instr.entry (a7.eval (.tmp 6))) ?_
  rw[h66]
  exact run_entry_at w' r b clock seen ents clock e hr6 hb6 hel.1 (List.pairwise_map.2 hborn)
 ·refine sG (m:=Instr.extract ((a7.put (some 9) (.tuple #[e.key,e.val])).eval (.tmp 9)) 0) ?_
  rw[iK (by rw[hasz7];decide)]
  rfl
 ·have hev:(((a7.put (some 9) (.tuple #[e.key,e.val])).put (some 10) e.key).eval (.tmp 10))=e.key:=iK (by rw[rU,hasz7];decide)
  simp only[execOp]
  rw[hev]
  rfl
 have hke:=hkey e hel.1
 have hpp:(xs++(leftOf ents seen).toList.map tM).Perm ((xs++[tM e])++(leftOf ents (seen.push e.born)).toList.map tM):=by
  rw[List.append_assoc]
  exact List.Perm.append_left xs ((uE hborn he).map tM)
 have hsz2:=(uE hborn he).length_eq
 have hlen:=I.perm.length_eq
 rw[List.length_append,List.length_map] at hlen
 simp only[List.length_cons,Array.length_toList] at hsz2 hlen
 rw[hke]
 generalize tM e=n at*
 have s8:St G W S φ h1 w' S' φ' (((a7.put (some 9) (.tuple #[.int .i64 n,e.val])).put (some 10) (.int .i64 n)).put (some 4) (.int .i64 n)) (aj 18 [(4,.p (.int .i64 n)),(6,.gp r 0),(3,o)]) hh:=
  (((s7.set (.any _) 9).set (.any _) 10).set (.p _ _ (.int _ _)) 4).less (by simp[Aw.look])
 show Code.wp _ _ _ _ _
 refine zH (k:= .reg [⟨some 11,none,.mov (.t 3)⟩,⟨some 12,none,.mov (.t 4)⟩,⟨some 13,none,.bsl 1 [.p (.int .i64 0)] 1 [(0,1,.t 12)]⟩,⟨some 14,none,.app 1 8 (.t 11) (.t 13)⟩,⟨some 3,none,.mov (.t 14)⟩]) (by kernel_rfl) s8 (Q:=skQ h1 r (xs++[n])) ?_ ?_
 ·rcases I.out with⟨rfl,rfl⟩|⟨j,hne,rfl,hj,hgj⟩
  ·simp-implicitDefEqProofs[]
   refine⟨_,d++[.row 1 [[.p (.int .i64 n)]],.row 1 [[.p (.int .i64 n)]]],hh.length+1,rfl,rfl,rfl,rfl,by rw[I.pre];simp,by rw[I.pre];simp;omega,by simp[dM]⟩
  ·have hjl:=(List.getElem?_eq_some_iff.1 hgj).1
   have gr:∀t,(hh++t)[j]?=some (.row 1 (xs.map fun x=>[.p (.int .i64 x)])):=fun t=>by rw[List.getElem?_append_left hjl];exact hgj
   have ht:List.take xs.length (xs.map fun x=>[AV.p (.int .i64 x)])=xs.map fun x=>[AV.p (.int .i64 x)]:=List.take_of_length_le (by simp)
   simp-implicitDefEqProofs[gr]
   refine⟨⟨by omega,by omega⟩,?_⟩
   refine⟨_,(d++[AO.row 1 [[AV.p (.int .i64 n)]]]).set (j-h1.length) AO.dead++[AO.row 1 ((xs.map fun x=>[AV.p (.int .i64 x)])++[[AV.p (.int .i64 n)]])],hh.length+1,rfl,rfl,rfl,by simp[Aw.look],?_,by rw[I.pre];simp;omega,?_⟩
   ·rw[ht,I.pre,List.append_assoc,List.set_append_right _ _ hj,List.append_assoc]
   ·simp[dM,ht]
 rintro x ts' h2 S8 φ8 e8 a8 w8 ⟨l,d2,j2,rfl,rfl,l6,l3,e2,hj2,hg2⟩ hx s9 K9
 cases hx
 have fb9:=fb6.keep K9
 have fr9:=fr6.keep K9
 refine⟨⟨S8,φ8,h2,d2,xs++[n],.sl j2 1 0 (xs++[n]).length,seen.push e.born,clock,⟨s9.less ?_,by rw[fb9.2];exact hb6,by rw[fr9.2];exact hr6,Nat.le_refl _,fb9.1,fr9.1,e2,.inr ⟨j2,by simp,rfl,hj2,hg2⟩,hpp.symm.trans I.perm⟩⟩,?_⟩
 ·intro y hy
  rcases List.mem_cons.1 hy with rfl|hy
  ·exact l6
  ·rw[List.mem_singleton.1 hy];exact l3
 ·simp only[Gn,I.hr,fr9.2,hr6]
  omega
end Go.Proofs.YtnjbhgpbgmpkcaaGreatDoor
namespace Go.Proofs.YtnjbhgpbgmpkcaaGreatDoor
open Go Go.Aw
set_option maxRecDepth 100000
set_option maxHeartbeats 4000000
def nY(s:List Nat):List (PV × AV):=s.map fun(k:Nat)=>(PV.int .i64 (k:Int),AV.p (.bool true))
theorem xC(n:Nat):∀s:List Nat,eu (.int .i64 (n:Int)) (nY s)=some (if n∈s then some (AV.p (.bool true)) else none)
 |[]=>rfl
 |k::r=>by
  have ih:=xC n r
  by_cases h:n=k
  ·subst h;simp[nY,eu,keq]
  ·have h':¬(n:Int)=(k:Int):=by omega
   simp only[nY,List.map_cons,eu,keq,h',decide_false]
   simp only[nY] at ih
   simp[ih,h,h']
theorem xe(n:Nat):∀s:List Nat,n∉s→gP (.int .i64 (n:Int)) (.p (.bool true)) (nY s)=some (nY (s++[n]))
 |[],_=>rfl
 |k::r,hn=>by
  simp only[List.mem_cons,not_or] at hn
  have ih:=xe n r hn.2
  have h':¬(n:Int)=(k:Int):=by omega
  simp only[nY,List.map_cons,List.cons_append,gP,keq,h',decide_false]
  simp only[nY] at ih
  simp[ih,h']
def VH(l:List Fd)(m:Int)(s:List Nat):List AO:=[.row 1 [[.p (fdL l)]],.row 1 [[.p (.int .i64 m)]],.row 1 [[.fn (.func bE) [.ptr 0 1 0 0]]],.mp (nY s),.row 1 [[.mp 3]],.row 1 [[.fn (.func cz) [.ptr 4 1 0 0,.ptr 2 1 0 0,.ptr 5 1 0 0]]]]
theorem zx(l:List Fd)(m:Int)(s:List Nat):∀o∈VH l m s,okO (VH l m s).length o:=by
 have hm:okO 6 (.mp (nY s)):=by
  intro e he
  obtain⟨k,_,rfl⟩:=List.mem_map.1 he
  simp[below]
 have hlen:(VH l m s).length=6:=rfl
 rw[hlen]
 exact ae (by simp[okO,below]) (ae (by simp[okO,below]) (ae (by simp[okO,below,ah]) (ae hm (ae (by simp[okO,below]) (ae (by simp[okO,below,ah]) bv)))))
variable (G:ay)
theorem Aq(l:List Fd)(hz:aY l≤1073741824)(hc:bF l=0){k:Nat}(hk:k<l.length):VF Tryz.prog G dk [.agg [.p (fdL l)],.p (.int .i64 k)] (.p (cG (cC (aD l k)))):=by
 have hg:=List.getElem?_eq_getElem hk
 have e:aD l k=dN l l[k].body k:=by rw[aD,hg]
 have:=AC.mkFreeze (w:=cK) (qs:=[_]) ig (ug G l hz hg)
 rw[e,←ut hc hg]
 exact this
theorem wb(l:List Fd)(hz:aY l≤1073741824)(hc:bF l=0){k:Nat}(hk:k<l.length){h:List AO}(h0:h[0]?=some (.row 1 [[.p (fdL l)]])):
 AC Tryz.prog G bE [.p (.int .i64 k),.ptr 0 1 0 0] h fun x h'=>x= .ret (.p (cG (cC (aD l k))))∧h'=h:=by
 refine AC.go oz ?_
 simp-implicitDefEqProofs[jh,h0]
 refine(Aq G l hz hc hk).use ?_
 simp-implicitDefEqProofs[]
theorem FX(l:List Fd)(hz:aY l≤1073741824)(hc:bF l=0)(m:Int):∀(f n:Nat) (s:List Nat),n<f→n<l.length→
 AC Tryz.prog G cz [.p (.int .i64 n),.ptr 4 1 0 0,.ptr 2 1 0 0,.ptr 5 1 0 0] (VH l m s) fun x h=>x= .ret (.tup [])∧h=VH l m (gW (aD l) f n s):=by
 intro f
 induction f with
 |zero=>intro n s h;omega
 |succ f ih=>
  intro n s hn hl
  have hgm:=xC n s
  have hvh:∀s,VH l m s=[.row 1 [[.p (fdL l)]],.row 1 [[.p (.int .i64 m)]],.row 1 [[.fn (.func bE) [.ptr 0 1 0 0]]],.mp (nY s),.row 1 [[.mp 3]],.row 1 [[.fn (.func cz) [.ptr 4 1 0 0,.ptr 2 1 0 0,.ptr 5 1 0 0]]]]:=fun _=>rfl
  refine AC.go qd ?_
  by_cases hin:n∈s
  ·rw[gW,if_pos hin]
   simp-implicitDefEqProofs[gw,hvh,hgm,hin]
  ·rw[gW,if_neg hin]
   have hsm:=xe n s hin
   have hnd:=wb G l hz hc hl (h:=VH l m (s++[n])) rfl
   have hcl:∀k∈aD l n,k<n:=iC l n
   have hys:cC (aD l n)=(aD l n).map fun(k:Nat)=>(k:Int):=rfl
   have hll:=cf l
   have hcc:(aD l n).length≤n:=by
    unfold aD
    split
    ·exact jj l _ n
    ·simp
   generalize aD l n=ys at*
   simp-implicitDefEqProofs[gw,hvh,hgm,hin,hsm]
   rw[←hvh]
   refine hnd.mono ?_
   rintro x h ⟨rfl,rfl⟩
   have hnum:∀l,cG l= .lst 1 (l.map fun w=>[.int .i64 w]):=fun _=>rfl
   simp-implicitDefEqProofs[aa,hnum,hys]
   refine aJ (fun i:Nat=>aj 25 [(1,.ptr 4 1 0 0),(2,.ptr 2 1 0 0),(3,.ptr 5 1 0 0),(15,.p (cG (cC ys))),(16,.p (.int .i64 ys.length)),(17,.p (.int .i64 i))]) (fun i=>VH l m ((ys.take i).foldl (fun s k=>gW (aD l) f k s) (s++[n]))) (fun i=>i≤ys.length) (fun i=>ys.length-i) 0 (by simp) ?_ ?_
   ·refine ab (show 6≤6 from Nat.le_refl 6) (zx l m _) ?_
    rw[hvh]
    simp[below,hnum,hys]
   intro i hi
   simp-implicitDefEqProofs[hnum,hys]
   refine aS (fun h1=>?_) (fun h1=>?_)
   ·simp at h1
    have hg:=List.getElem?_eq_getElem h1
    have hlt:=hcl _ (List.getElem_mem h1)
    have hT:(ys.take (i+1)).foldl (fun s k=>gW (aD l) f k s) (s++[n])=gW (aD l) f ys[i] ((ys.take i).foldl (fun s k=>gW (aD l) f k s) (s++[n])):=by
     rw[al h1,List.foldl_append];rfl
    generalize ys[i]=y at hg hlt hT
    have hv:=ih y ((ys.take i).foldl (fun s k=>gW (aD l) f k s) (s++[n])) (by omega) (by omega)
    generalize (ys.take i).foldl (fun s k=>gW (aD l) f k s) (s++[n])=t at hv hT⊢
    simp-implicitDefEqProofs[hg,hvh]
    rw[←hvh]
    refine hv.mono ?_
    rintro x h ⟨rfl,rfl⟩
    simp-implicitDefEqProofs[aa]
    refine⟨i+1,h1,by omega,?_⟩
    rw[hT]
    refine ab (show 6≤6 from Nat.le_refl 6) (zx l m _) ?_
    rw[hvh]
    simp[below,hnum,hys,w1 (i:=i) (by omega)]
   ·simp at h1
    have hie:i=ys.length:=by omega
    subst hie
    rw[List.take_length]
    simp-implicitDefEqProofs[]
    exact hvh _
theorem AQ(l:List Fd)(hz:aY l≤1073741824)(hc:bF l=0)(h1:1≤l.length):AC Tryz.prog G iV [.sl 1 1 0 1,.fn (.func bE) [.ptr 0 1 0 0]] [.row 1 [[.p (fdL l)]],.row 1 [[.p (.int .i64 ((l.length-1:Nat):Int))]]] fun x h=>
 (x= .ret .nils∧dP (aD l) l.length=[])∨∃j,x= .ret (.sl j 1 0 (cC (dP (aD l) l.length)).length)∧h[j]?=some (dM (cC (dP (aD l) l.length))):=by
 refine AC.go tj ?_
 have hll:=cf l
 have hvh:∀s,VH l ((l.length-1:Nat):Int) s=[.row 1 [[.p (fdL l)]],.row 1 [[.p (.int .i64 ((l.length-1:Nat):Int))]],.row 1 [[.fn (.func bE) [.ptr 0 1 0 0]]],.mp (nY s),.row 1 [[.mp 3]],.row 1 [[.fn (.func cz) [.ptr 4 1 0 0,.ptr 2 1 0 0,.ptr 5 1 0 0]]]]:=fun _=>rfl
 have hv:=FX G l hz hc ((l.length-1:Nat):Int) l.length (l.length-1) [] (by omega) (by omega)
 have hsn:gW (aD l) l.length (l.length-1) []=qv (aD l) l.length:=rfl
 rw[hsn] at hv
 have hpm:=uf (iC l) h1 (List.Perm.refl _)
 have hnl:(qv (aD l) l.length).length≤l.length:=by
  have e:=congrArg List.length hpm
  rw[List.length_mergeSort,cC,cC,List.length_map,List.length_map] at e
  have:=List.length_filter_le (bAt (ja (aD l) l.length)) (List.range l.length)
  rw[List.length_range] at this
  rw[e];exact this
 have hne:=fun(xs:List Int) (hp:xs.Perm (cC (qv (aD l) l.length)))=>uf (iC l) h1 hp
 generalize qv (aD l) l.length=sn at*
 generalize dP (aD l) l.length=nd at*
 have hsk:=uX G (h:=VH l ((l.length-1:Nat):Int) sn) (id:=3) (es:=nY sn) (ks:=cC sn) rfl (by simp[nY,cC]) (by rw[cC,List.length_map];omega)
 simp-implicitDefEqProofs[lq]
 refine aJ (fun i:Nat=>aj 23 [(4,.nils),(5,.ptr 4 1 0 0),(6,.ptr 5 1 0 0),(11,.sl 1 1 0 1),(12,.p (.int .i64 1)),(13,.p (.int .i64 i))]) (fun i=>VH l ((l.length-1:Nat):Int) (if i=0 then[] else sn)) (fun i=>i≤1) (fun i=>1-i) 0 (by simp) ?_ ?_
 ·refine ab (h:=VH l ((l.length-1:Nat):Int) []) (show 2≤6 by omega) (zx l _ _) ?_
  show FgA 6 _ _
  simp[below]
 intro i hi
 have hw1:IntKind.i64.wrap 1=1:=ag (by omega) (by omega)
 match i,hi with
 |0,_=>
  simp-implicitDefEqProofs[hvh]
  rw[←hvh]
  refine hv.mono ?_
  rintro x h ⟨rfl,rfl⟩
  simp-implicitDefEqProofs[aa]
  refine⟨1,by omega,by omega,?_⟩
  refine ab (show 2≤6 by omega) (zx l _ _) ?_
  show FgA 6 _ _
  simp[below,hw1]
 |1,_=>
  simp-implicitDefEqProofs[hvh]
  rw[←hvh]
  refine hsk.mono ?_
  rintro x h ⟨xs,d,hp,rfl,⟨rfl,rfl⟩|⟨j,rfl,hj,hg⟩⟩
  ·have e:=hne [] hp
   simp-implicitDefEqProofs[aa]
   have:cC nd=[]:=by rw[←e];simp
   simpa[cC] using this
  ·have e:=hne xs hp
   simp-implicitDefEqProofs[aa]
   rw[e] at hg
   have el:=congrArg List.length e
   rw[List.length_mergeSort] at el
   exact⟨j,⟨rfl,el⟩,hg⟩
variable (hK:G eE=some dV) (hS:G cJ=some [.tbl opK opV])
include hK hS
def be(l:List Fd):List Int:=if bF l=0 then cC (dP (aD l) l.length) else[]
theorem xX(l:List Fd)(hz:aY l≤1073741824):AC Tryz.prog G dG [.agg [.p (fdL l)]] [] (MkW cK true [cG (be l)]):=by
 have key:AC Tryz.prog G dG [.agg [.p (fdL l)]] [] fun x h=>(x= .ret .nils∧be l=[])∨∃j,x= .ret (.sl j 1 0 (be l).length)∧h[j]?=some (dM (be l)):=by
  refine AC.go qU ?_
  have hll:=cf l
  have hfl:fdL l= .lst 3 (l.map Fd.cs):=rfl
  simp-implicitDefEqProofs[kM]
  refine(Cr G hK hS l hz).use ?_
  by_cases h0:bF l=0
  case neg=>
   have:be l=[]:=if_neg h0
   simp-implicitDefEqProofs[h0,this]
  have hP:be l=cC (dP (aD l) l.length):=if_pos h0
  have hp:=((re l).1 h0).1
  obtain⟨⟨h1,_⟩,_,_⟩:=(gl l).1 hp
  have h1l:1≤l.length:=by omega
  have hw:IntKind.i64.wrap ((l.length:Int)-1)=((l.length-1:Nat):Int):=by rw[ag (by omega) (by omega)];omega
  have hcl:=AQ G l hz h0 h1l
  rw[hP]
  simp-implicitDefEqProofs[h0,hfl,hw]
  refine hcl.mono ?_
  rintro x h (⟨rfl,e⟩|⟨j,rfl,hg⟩)
  ·simp-implicitDefEqProofs[aa]
   simp[cC,e]
  ·simp-implicitDefEqProofs[aa]
   exact hg
 refine key.wk (fun t v h hh=>?_) fun v h hh=>?_
 ·rcases hh with⟨e,_⟩|⟨_,e,_⟩<;>cases e
 rcases hh with⟨e,hn⟩|⟨id,e,hid⟩
 ·cases e
  rw[hn]
  exact⟨.nils,h,me (jT h),[.nils],[],rfl,.nils 1 .nil,List.nodup_nil⟩
 ·cases e
  exact⟨_,h,me (jT h),[.sl id 1 0 (be l).length],[id],rfl,uN hid rfl,by simp⟩
theorem yG(l:List Fd)(hz:aY l≤1073741824):VF Tryz.prog G dG [.agg [.p (fdL l)]] (.p (cG (be l))):=
 AC.mkFreeze (w:=cK) (qs:=[_]) ig (xX G hK hS l hz)
end Go.Proofs.YtnjbhgpbgmpkcaaGreatDoor
namespace Go.Proofs.YtnjbhgpbgmpkcaaGreatDoor
open Go Go.Aw
set_option maxRecDepth 100000
set_option maxHeartbeats 4000000
def pZ(nd:List Bool):AO:= .row 1 (nd.map fun b=>[.p (.bool b)])
theorem fu(nd:List Bool):∀x∈nd.map fun b=>[AV.p (.bool b)],ah 0 x:=fun x hx=>by obtain⟨_,_,rfl⟩:=List.mem_map.1 hx;simp
theorem vu{nd:List Bool}{i:Nat}(h:i<nd.length):nd[i]?=some (bAt nd i):=by simp[bAt,h]
structure NdS where (j:Nat) (nd:List Bool)
variable (G:ay)
theorem yn(l:List Fd)(hz:aY l≤1073741824):VF Tryz.prog G dz [.agg [.p (fdL l)]] (.p (cG (be l))):=by
 have key:AC Tryz.prog G dz [.agg [.p (fdL l)]] [] fun x h=>x= .ret (.sl 1 1 0 (be l).length)∧h[1]?=some (lb (be l)):=by
  refine AC.go qT ?_
  have hll:=cf l
  have hfl:fdL l= .lst 3 (l.map Fd.cs):=rfl
  simp-implicitDefEqProofs[kQ]
  refine(CD G l hz).use ?_
  by_cases h0:bF l=0
  case neg=>
   have:be l=[]:=if_neg h0
   simp-implicitDefEqProofs[h0,this,lb]
  have hP:be l=cC (dP (aD l) l.length):=if_pos h0
  have hp:=((re l).1 h0).1
  obtain⟨⟨h1,_⟩,_,_⟩:=(gl l).1 hp
  have h1l:1≤l.length:=by omega
  have hw:IntKind.i64.wrap ((l.length:Int)-1)=((l.length-1:Nat):Int):=by rw[ag (by omega) (by omega)];omega
  have hdn:=iC l
  have hbo:∀nd,pZ nd= .row 1 (nd.map fun b=>[.p (.bool b)]):=fun _=>rfl
  have hB:=rP hdn h1l
  rw[hP]
  have hrep:(List.replicate l.length [AV.p (.bool false)])[l.length-1]?=some [AV.p (.bool false)]:=by
   rw[List.getElem?_replicate,if_pos (by omega)]
  have hset:(List.replicate l.length [AV.p (.bool false)]).set (l.length-1) [AV.p (.bool true)]=(lh l.length).map fun b=>[AV.p (.bool b)]:=by
   rw[lh,List.map_set,List.map_replicate]
  simp-implicitDefEqProofs[h0,hfl,hw,hrep,hset]
  refine⟨by omega,by omega,?_⟩
  refine aJ (fun a:NdS=>aj 75 [(1,.ptr 0 1 0 0),(3,.sl 1 1 0 0),(4,.sl 2 1 0 l.length),(5,.p (.int .i64 ((a.j:Int)-1)))]) (fun a=>[.row 1 [[.p (fdL l)]],.row 1 [],pZ a.nd]) (fun a=>a.j≤l.length∧a.nd.length=l.length∧ry (aD l) a.j a.nd=ja (aD l) l.length) (fun a=>a.j) ⟨l.length,lh l.length⟩ ⟨Nat.le_refl _,by simp[lh],rfl⟩ ?_ ?_
  ·refine ab (h:=[.row 1 [[.p (fdL l)]],.row 1 [],pZ (lh l.length)]) (by simp) (ae (by simp[okO,below]) (ae (by simp[okO]) (ae (bu (fu _)) bv))) ?_
   simp[below]
   omega
  rintro⟨j,nd⟩ ⟨hj,hnl,hnd⟩
  simp only at hj hnl hnd
  simp-implicitDefEqProofs[hfl]
  refine aS (fun hc=>?_) (fun hc=>?_)
  ·simp at hc
   obtain⟨k,rfl⟩:∃k,j=k+1:=⟨j-1,by omega⟩
   have hk1:((k+1:Nat):Int)-1=(k:Int):=by omega
   have hkl:k<l.length:=by omega
   have hg:=List.getElem?_eq_getElem hkl
   have hce:aD l k=dN l l[k].body k:=by rw[aD,hg]
   have hcal:=xN G hg hz
   rw[←hce] at hcal
   have hlt:=hdn k
   have hcl:(aD l k).length≤k:=by rw[hce];exact jj l _ k
   have hstep:qc (aD l) nd k=(aD l k).foldl (fv k) nd:=rfl
   obtain⟨hb1,hb2⟩:=oY (aD l k) nd (fun i hi=>hlt i hi) (by omega)
   rw[ry,hstep] at hnd
   generalize hys:aD l k=ys at*
   have hnat:∀l,Gc l= .lst 1 (l.map fun(n:Nat)=>[.int .i64 (n:Int)]):=fun _=>rfl
   simp-implicitDefEqProofs[hk1,hfl]
   refine hcal.use ?_
   simp-implicitDefEqProofs[]
   refine aJ (fun i:Nat=>aj 75 [(1,.ptr 0 1 0 0),(3,.sl 1 1 0 0),(4,.sl 2 1 0 l.length),(5,.p (.int .i64 k)),(6,.p (Gc ys)),(7,.p (.int .i64 i))]) (fun i=>[.row 1 [[.p (fdL l)]],.row 1 [],pZ ((ys.take i).foldl (fv k) nd)]) (fun i=>i≤ys.length) (fun i=>ys.length-i) 0 (by simp) ?_ ?_
   ·refine ab (h:=[.row 1 [[.p (fdL l)]],.row 1 [],pZ nd]) (by simp) (ae (by simp[okO,below]) (ae (by simp[okO]) (ae (bu (fu _)) bv))) ?_
    simp[below,hnat]
   intro i hi
   simp-implicitDefEqProofs[hnat]
   refine aS (fun hci=>?_) (fun hci=>?_)
   ·simp at hci
    have hgi:=List.getElem?_eq_getElem hci
    have hyk:ys[i]<k:=hlt _ (List.getElem_mem hci)
    have hT:(ys.take (i+1)).foldl (fv k) nd=fv k ((ys.take i).foldl (fv k) nd) ys[i]:=by rw[al hci,List.foldl_append];rfl
    have hl2:((ys.take i).foldl (fv k) nd).length=l.length:=by
     rw[(oY (ys.take i) nd (fun x hx=>hlt x (List.mem_of_mem_take hx)) (by omega)).1,hnl]
    generalize (ys.take i).foldl (fv k) nd=md at hT hl2⊢
    generalize ys[i]=y at hgi hyk hT
    have g1:=vu (nd:=md) (i:=y) (by omega)
    have g2:=vu (nd:=md) (i:=k) (by omega)
    have hyl:y<l.length:=by omega
    have hyI:(y:Int)<(l.length:Int):=by omega
    have hkI:(k:Int)<(l.length:Int):=by omega
    have e1:fv k md y=md.set y (bAt md y||bAt md k):=rfl
    have hset2:∀b:Bool,pZ (md.set y b)= .row 1 ((md.map fun b=>[AV.p (.bool b)]).set y [AV.p (.bool b)]):=fun b=>by rw[pZ,List.map_set]
    rw[e1] at hT
    cases hby:bAt md y with
    |true=>
     rw[hby] at g1 hT
     rw[Bool.true_or] at hT
     simp-implicitDefEqProofs[hgi,hbo,g1,hyl,hyI]
     refine⟨i+1,hci,by omega,?_⟩
     have hok:okO 3 (pZ (md.set y true)):=bu (fu _)
     rw[hset2] at hok
     rw[hT,List.map_set]
     refine ab (h:=[.row 1 [[.p (fdL l)]],.row 1 [],.row 1 ((md.map fun b=>[AV.p (.bool b)]).set y [AV.p (.bool true)])]) (by simp) (ae (by simp[okO,below]) (ae (by simp[okO]) (ae hok bv))) ?_
     simp[below,hnat,w1 (i:=i) (by omega)]
    |false=>
     rw[hby] at g1 hT
     rw[Bool.false_or] at hT
     generalize bAt md k=bk at g2 hT
     simp-implicitDefEqProofs[hgi,hbo,g1,g2,hyl,hyI,hkI,hkl]
     refine⟨i+1,hci,by omega,?_⟩
     have hok:okO 3 (pZ (md.set y bk)):=bu (fu _)
     rw[hset2] at hok
     rw[hT,List.map_set]
     refine ab (h:=[.row 1 [[.p (fdL l)]],.row 1 [],.row 1 ((md.map fun b=>[AV.p (.bool b)]).set y [AV.p (.bool bk)])]) (by simp) (ae (by simp[okO,below]) (ae (by simp[okO]) (ae hok bv))) ?_
     simp[below,hnat,w1 (i:=i) (by omega)]
   ·simp at hci
    have hie:i=ys.length:=by omega
    subst hie
    rw[List.take_length]
    have hwk:IntKind.i64.wrap ((k:Int)-1)=(k:Int)-1:=ag (by omega) (by omega)
    simp-implicitDefEqProofs[hwk]
    refine⟨⟨k,ys.foldl (fv k) nd⟩,⟨by simp only;omega,by simp only;rw[hb1,hnl],hnd⟩,by simp only;omega,?_⟩
    refine ab (h:=[.row 1 [[.p (fdL l)]],.row 1 [],pZ (ys.foldl (fv k) nd)]) (by simp) (ae (by simp[okO,below]) (ae (by simp[okO]) (ae (bu (fu _)) bv))) ?_
    simp[below]
  ·simp at hc
   have hj0:j=0:=by omega
   subst hj0
   have hnd':nd=ja (aD l) l.length:=hnd
   have hft:∀i,i<nd.length→(List.range (i+1)).filter (bAt nd)=(List.range i).filter (bAt nd)++if bAt nd i=true then[i] else[]:=fun i _=>by
    rw[List.range_succ,List.filter_append]
    congr 1
    cases h:bAt nd i<;>simp[h]
   have hfl2:∀i,((List.range i).filter (bAt nd)).length≤i:=fun i=>by
    have:=List.length_filter_le (bAt nd) (List.range i)
    rwa[List.length_range] at this
   simp-implicitDefEqProofs[]
   refine aJ (fun i:Nat=>aj 75 [(1,.ptr 0 1 0 0),(3,.sl 1 1 0 ((List.range i).filter (bAt nd)).length),(4,.sl 2 1 0 l.length),(8,.p (.int .i64 i))]) (fun i=>[.row 1 [[.p (fdL l)]],tO ((List.range i).filter (bAt nd)),pZ nd]) (fun i=>i≤l.length) (fun i=>l.length-i) 0 (by simp) ?_ ?_
   ·refine ab (h:=[.row 1 [[.p (fdL l)]],.row 1 [],pZ nd]) (by simp) (ae (by simp[okO,below]) (ae (by simp[okO]) (ae (bu (fu _)) bv))) ?_
    simp[below]
   intro i hi
   simp-implicitDefEqProofs[]
   refine aS (fun hci=>?_) (fun hci=>?_)
   ·simp at hci
    have g1:=vu (nd:=nd) (i:=i) (by omega)
    have hT:=hft i (by omega)
    have hL:=hfl2 i
    have hno:∀l,tO l= .row 1 (l.map fun(n:Nat)=>[.p (.int .i64 (n:Int))]):=fun _=>rfl
    generalize (List.range i).filter (bAt nd)=c at hT hL⊢
    generalize bAt nd i=bi at g1 hT
    cases bi with
    |true=>
     rw[if_pos rfl] at hT
     simp-implicitDefEqProofs[hbo,g1,hno]
     refine⟨hci,⟨by omega,by omega⟩,i+1,hci,by omega,?_⟩
     have htk:List.take c.length (c.map fun(n:Nat)=>[AV.p (.int .i64 (n:Int))])=c.map fun(n:Nat)=>[AV.p (.int .i64 (n:Int))]:=List.take_of_length_le (by simp)
     rw[hT,htk,List.map_append]
     refine ph [0,4,2] rfl (by decide) (aW rfl (by simp) (aW rfl (fun x hx=>?_) (aW rfl (fun x hx=>fu _ x hx) bm))) (by simp[below,ren,w1 (i:=i) (by omega)])
     rcases List.mem_append.1 hx with h|h
     ·exact il _ x h
     ·exact il _ x h
    |false=>
     rw[if_neg (by simp),List.append_nil] at hT
     simp-implicitDefEqProofs[hbo,g1,hno]
     refine⟨hci,i+1,hci,by omega,?_⟩
     rw[hT]
     exact ab (h:=[.row 1 [[.p (fdL l)]],tO c,pZ nd]) (by simp) (ae (by simp[okO,below]) (ae (bu (il _)) (ae (bu (fu _)) bv))) (by simp[below,w1 (i:=i) (by omega)])
   ·simp at hci
    have hie:i=l.length:=by omega
    subst hie
    have hN:(List.range l.length).filter (bAt nd)=dP (aD l) l.length:=by rw[dP,hnd']
    rw[hN]
    simp-implicitDefEqProofs[]
    simp[cC,tO,lb]
 refine key.freezeR (fun t v h ⟨e,_⟩=>by cases e) fun v h ⟨e1,e2⟩=>?_
 cases e1
 exact .one (uD e2) .nil
end Go.Proofs.YtnjbhgpbgmpkcaaGreatDoor
namespace Go.Proofs.YtnjbhgpbgmpkcaaGreatDoor
open Go Go.Aw
set_option maxRecDepth 100000
set_option maxHeartbeats 4000000
theorem wy(l:List Fd)(k:Int):(bM l k).length≤l.length:=by
 unfold bM
 split
 ·rename_i h
  split
  ·rename_i f hf
   have h1:=jj l f.body k.toNat
   have h2:=(List.getElem?_eq_some_iff.1 hf).1
   have:dN l f.body k.toNat=dt l f.body k.toNat:=rfl
   rw[this];omega
  ·simp
 ·simp
variable (G:ay) (hK:G eE=some dV) (hS:G cJ=some [.tbl opK opV])
include hK hS
theorem zb(l:List Fd)(hz:aY l≤1073741824)(k:Int):AC Tryz.prog G dx [.agg [.p (fdL l)],.p (.int .i64 k)] [] (MkW cK true [cG (cC (bM l k))]):=by
 refine AC.go qG ?_
 have hll:=cf l
 have hfl:fdL l= .lst 3 (l.map Fd.cs):=rfl
 have hw:IntKind.i64.wrap ((l.length:Int)-1)=(l.length:Int)-1:=ag (by omega) (by omega)
 simp-implicitDefEqProofs[kO]
 refine(Cr G hK hS l hz).use ?_
 by_cases h0:bF l=0
 case neg=>
  have:bM l k=[]:=if_neg (fun h=>h0 h.1)
  rw[this]
  simp-implicitDefEqProofs[h0]
  exact⟨[.nils],[],rfl,.nils 1 .nil,List.nodup_nil⟩
 simp-implicitDefEqProofs[h0,hfl,hw]
 refine(ka G _ _ _).use ?_
 by_cases h1:inR k 0 ((l.length:Int)-1)=true
 case neg=>
  have h1':inR k 0 ((l.length:Int)-1)=false:=by simpa using h1
  have:bM l k=[]:=if_neg (fun h=>h1 h.2)
  rw[h1',this]
  simp-implicitDefEqProofs[]
  exact⟨[.nils],[],rfl,.nils 1 .nil,List.nodup_nil⟩
 have hk:0≤k∧k≤(l.length:Int)-1:=by simpa[inR] using h1
 obtain⟨n,rfl⟩:∃n:Nat,k=n:=⟨k.toNat,by omega⟩
 have hn:n<l.length:=by omega
 have hg:=List.getElem?_eq_getElem hn
 have hc:bM l (n:Int)=dN l l[n].body n:=by
  rw[bM,if_pos ⟨h0,h1⟩];simp only[Int.toNat_natCast,hg]
 have hA:=fun h:List AO=>AC.mkLift ig (ug G l hz hg) (h:=h) (by simp)
 have hO:pD l l[n].body=cC (dN l l[n].body n):=ut h0 hg
 rw[hO] at hA
 rw[h1,hc]
 generalize cC (dN l l[n].body n)=ys at*
 simp-implicitDefEqProofs[hfl]
 refine(hA _).mono ?_
 rintro x h2 ⟨vs,I,os,rfl,rfl,ho,nd,hf⟩
 obtain⟨v,rfl⟩:=dX ho
 simp-implicitDefEqProofs[aa,cK]
 exact⟨[v],I,rfl,ho,nd⟩
theorem yp(l:List Fd)(hz:aY l≤1073741824)(k:Int):VF Tryz.prog G dx [.agg [.p (fdL l)],.p (.int .i64 k)] (.p (cG (cC (bM l k)))):=
 AC.mkFreeze (w:=cK) (qs:=[_]) ig (zb G hK hS l hz k)
end Go.Proofs.YtnjbhgpbgmpkcaaGreatDoor
namespace Go.Proofs.YtnjbhgpbgmpkcaaGreatDoor
open Go Go.Aw
set_option maxRecDepth 100000
set_option maxHeartbeats 4000000
def qf(l:List (List UInt8)):Prop:=l.length≤1000000∧∀s∈l,s.length≤8
theorem dC{h:List AO}{id:Nat}{l:List Ex}(e:h[id]?=some (.row 4 (l.map fun x=>x.cs.map .p))):View h (.sl id 4 0 l.length) (exL l):=by
 have:=fO (h:=h) (id:=id) (sz:=4) (n:=l.length) (ls:=l.map Ex.cs) (by rw[e];simp) (by simp) (fun x hx=>by obtain⟨b,_,rfl⟩:=List.mem_map.1 hx;exact b.cs_len)
 exact this
variable (G:ay)
def ExQ(p n m:Nat)(v:AV)(q:Nat):Prop:=(∃e:Ex,v= .agg (e.cs.map .p)∧e.sz≤n)∧p≤q∧q≤p+m
theorem te{b:List Int}(hb:Byt b)(hl:b.length≤2000){p:Nat}(hp:p≤1000000000000)(names:List (List UInt8))(hn:qf names):AC Tryz.prog G cU [.ptr 0 2 0 0,.p (aC names)] [rdO b p] fun x h=>∃v q,x= .ret v∧h=[rdO b q]∧ExQ p 9 2 v q:=by
 refine kE G (AC.go mQ ?_)
 have hsl:aC names= .lst 1 (names.map fun w=>[.str w]):=rfl
 have fin1:∀(o n:Int) (s:List UInt8) (q:Nat) (rest:List AO),p≤q→q≤p+2→s.length≤8→DP b (ExQ p 9 2) (.ret (.agg [.p (.int .i64 o),.p (.int .i64 n),.p (.str s),.nils])) (rdO b q::rest):=fun o n s q rest h1 h2 hs=>
  ⟨_,rest,q,.agg ((Ex.mk o n s []).cs.map .p),rfl,rfl,.agg (.keep (by simp) (.keep (by simp) (.keep (by simp) (.one (View.nils 4) .nil)))) .nil,⟨_,rfl,by simp[Ex.sz,aU];omega⟩,h1,h2⟩
 have num:∀(q:Nat) (h:List AO),q≤1000000000001→h[0]?=some (rdO b q)→h[2]?=some (lb [0,1,2,3,5,7,15,16,100,255])→_:=fun q h hq h0 h1=>jo G hb hl (p:=q) (by omega) [0,1,2,3,5,7,15,16,100,255] (h:=h) (k:=2) (by simp) (by simp) (by omega) h0 h1
 by_cases hne:names=[]
 ·subst hne
  have hs0:aC []= .lst 1 []:=rfl
  simp-implicitDefEqProofs[eU,hs0]
  refine(num p _ (by omega) rfl rfl).mono ?_
  rintro r h ⟨n,_,rfl,rfl⟩
  simp-implicitDefEqProofs[aa]
  exact fin1 _ _ _ _ _ (by omega) (by omega) (by simp)
 ·have hlen:¬names.length=0:=fun h=>hne (List.eq_nil_of_length_eq_zero h)
  simp-implicitDefEqProofs[eU,hsl,hne]
  refine(aX G b hb hl p (by omega) 3 _).mono ?_
  rintro r h ⟨k,rfl,rfl,_⟩
  simp-implicitDefEqProofs[aa]
  refine aS (fun hc=>?_) (fun hc=>?_)
  ·simp-implicitDefEqProofs[]
   refine(num (p+1) _ (by omega) rfl rfl).mono ?_
   rintro r h ⟨n,_,rfl,rfl⟩
   simp-implicitDefEqProofs[aa]
   exact fin1 _ _ _ _ _ (by omega) (by omega) (by simp)
  ·simp-implicitDefEqProofs[]
   rw[←hsl]
   refine(zN G hb hl (by omega) names hne (by have:=hn.1;omega) _).mono ?_
   rintro r h ⟨s,hs,rfl,rfl⟩
   have:=hn.2 s hs
   simp-implicitDefEqProofs[aa]
   exact fin1 _ _ _ _ _ (by omega) (by omega) this
theorem sf{b:List Int}(hb:Byt b)(hl:b.length≤2000)(names:List (List UInt8))(hn:qf names):∀(d:Nat),d≤20→∀{p:Nat},p+6*3^d≤1000000000000→AC Tryz.prog G aV [.ptr 0 2 0 0,.p (aC names),.p (.int .i64 d)] [rdO b p] fun x h=>∃v q,x= .ret v∧h=[rdO b q]∧ExQ p (10*3^d) (6*3^d) v q:=by
 intro d
 induction d with
 |zero=>
  intro _ p hp
  refine kE G (AC.go jH ?_)
  simp-implicitDefEqProofs[dJ]
  refine(gS G (te G hb hl (by omega) names hn) _ (by simp[below])).mono ?_
  rintro r h ⟨v,q,rfl,rfl,⟨e,rfl,he⟩,h1,h2⟩
  have hec:=e.cs_eq
  simp-implicitDefEqProofs[aa,hec]
  exact⟨_,_,q,.agg (e.cs.map .p),rfl,rfl,.agg (by rw[hec];exact fS (by simp)) .nil,⟨e,rfl,by omega⟩,h1,by omega⟩
 |succ d ih=>
  intro hd p hp
  have hpow:3^(d+1)=3*3^d:=by rw[Nat.pow_succ];omega
  have h1p:1≤3^d:=Nat.one_le_pow _ _ (by omega)
  have ih:=fun{p:Nat} (hp:p+6*3^d≤1000000000000)=>ih (by omega) (p:=p) hp
  rw[hpow] at hp⊢
  generalize 3^d=t at*
  have hw:IntKind.i64.wrap (d:Int)=(d:Int):=ag (by omega) (by omega)
  have leaf:∀(q:Nat) (rest:List AO),p≤q→q≤p+3→AC Tryz.prog G cU [.ptr 0 2 0 0,.p (aC names)] (rdO b q::rest) fun x h=>∃v q',x= .ret v∧h=rdO b q'::rest∧ExQ q 9 2 v q':=fun q rest _ _=>gS G (te G hb hl (by omega) names hn) rest (by simp[below])
  have sub:∀(q:Nat) (rest:List AO),p≤q→q≤p+6+6*t→AC Tryz.prog G aV [.ptr 0 2 0 0,.p (aC names),.p (.int .i64 d)] (rdO b q::rest) fun x h=>∃v q',x= .ret v∧h=rdO b q'::rest∧ExQ q (10*t) (6*t) v q':=fun q rest _ _=>gS G (ih (by omega)) rest (by simp[below])
  refine kE G (AC.go jH ?_)
  have leafCase:∀(e:Ex) (q:Nat) (rest:List AO),e.sz≤9→p≤q→q≤p+5→DP b (ExQ p (10*(3*t)) (6*(3*t))) (.ret (.agg (e.cs.map .p))) (rdO b q::rest):=fun e q rest h1 h2 h3=>
   ⟨_,_,q,.agg (e.cs.map .p),rfl,rfl,.agg (by rw[e.cs_eq];exact fS (by simp)) .nil,⟨e,rfl,by omega⟩,h2,by omega⟩
  have bin:∀(o:Int) (e1 e2:Ex) (q:Nat) (rest:List AO) (k:Nat),(rdO b q::rest)[k+1]?=some (.row 4 [e1.cs.map .p,e2.cs.map .p])→e1.sz≤10*t→e2.sz≤10*t→p≤q→q≤p+6*(3*t)→DP b (ExQ p (10*(3*t)) (6*(3*t))) (.ret (.agg [.p (.int .i64 o),.p (.int .i64 0),.p (.str []),.sl (k+1) 4 0 2])) (rdO b q::rest):=fun o e1 e2 q rest k hk h1 h2 h3 h4=>
   ⟨_,rest,q,.agg ((Ex.mk o 0 [] [e1,e2]).cs.map .p),rfl,rfl,.agg (.keep (by simp) (.keep (by simp) (.keep (by simp) (.one (dC (l:=[e1,e2]) (by simpa using hk)) .nil)))) .nil,⟨_,rfl,by simp[Ex.sz,aU];omega⟩,h3,h4⟩
  have una:∀(o:Int) (e1:Ex) (q:Nat) (rest:List AO) (k:Nat),(rdO b q::rest)[k+1]?=some (.row 4 [e1.cs.map .p])→e1.sz≤10*t→p≤q→q≤p+6*(3*t)→DP b (ExQ p (10*(3*t)) (6*(3*t))) (.ret (.agg [.p (.int .i64 o),.p (.int .i64 0),.p (.str []),.sl (k+1) 4 0 1])) (rdO b q::rest):=fun o e1 q rest k hk h1 h3 h4=>
   ⟨_,rest,q,.agg ((Ex.mk o 0 [] [e1]).cs.map .p),rfl,rfl,.agg (.keep (by simp) (.keep (by simp) (.keep (by simp) (.one (dC (l:=[e1]) (by simpa using hk)) .nil)))) .nil,⟨_,rfl,by simp[Ex.sz,aU];omega⟩,h3,h4⟩
  by_cases hd0:d=0
  ·subst hd0
   simp-implicitDefEqProofs[dJ]
   refine(leaf p _ (by omega) (by omega)).mono ?_
   rintro r h ⟨v,q,rfl,rfl,⟨e,rfl,he⟩,h1,h2⟩
   have hec:=e.cs_eq
   simp-implicitDefEqProofs[aa,hec]
   have:=leafCase e q [.row 4 [e.cs.map .p]] he h1 (by omega)
   rw[hec] at this
   exact this
  have hd2:¬(d:Int)+1<2:=by omega
  simp-implicitDefEqProofs[dJ,hd2]
  refine(aX G b hb hl p (by omega) 4 _).mono ?_
  rintro r h ⟨k1,rfl,rfl,_⟩
  simp-implicitDefEqProofs[aa]
  refine aS (fun hc=>?_) (fun hc=>?_)
  ·simp-implicitDefEqProofs[]
   refine(leaf (p+1) _ (by omega) (by omega)).mono ?_
   rintro r h ⟨v,q,rfl,rfl,⟨e,rfl,he⟩,h1,h2⟩
   have hec:=e.cs_eq
   simp-implicitDefEqProofs[aa,hec]
   have:=leafCase e q [.row 4 [e.cs.map .p]] he (by omega) (by omega)
   rw[hec] at this
   exact this
  simp-implicitDefEqProofs[]
  refine(aX G b hb hl (p+1) (by omega) 7 _).mono ?_
  rintro r h ⟨k2,rfl,rfl,_⟩
  simp-implicitDefEqProofs[aa]
  refine aS (fun hc=>?_) (fun hc=>?_)
  ·simp-implicitDefEqProofs[]
   refine(jo G hb hl (p:=p+2) (by omega) [11,12,11] (k:=2) (by simp) (by simp) (by omega) rfl rfl).mono ?_
   rintro r h ⟨n,_,rfl,rfl⟩
   simp-implicitDefEqProofs[aa,hw]
   refine(sub (p+3) _ (by omega) (by omega)).mono ?_
   rintro r h ⟨v,q,rfl,rfl,⟨e,rfl,he⟩,h1,h2⟩
   have hec:=e.cs_eq
   simp-implicitDefEqProofs[aa,hec]
   exact una n e q _ 2 (by rw[hec];rfl) he (by omega) (by omega)
  ·simp-implicitDefEqProofs[]
   refine(jo G hb hl (p:=p+2) (by omega) [3,3,4,5,6,7,8,9,10] (k:=2) (by simp) (by simp) (by omega) rfl rfl).mono ?_
   rintro r h ⟨n,_,rfl,rfl⟩
   simp-implicitDefEqProofs[aa,hw]
   refine(sub (p+3) _ (by omega) (by omega)).mono ?_
   rintro r h ⟨v,q,rfl,rfl,⟨e,rfl,he⟩,h1,h2⟩
   have hec:=e.cs_eq
   simp-implicitDefEqProofs[aa,hec,hw]
   refine(sub q _ (by omega) (by omega)).mono ?_
   rintro r h ⟨v,q2,rfl,rfl,⟨e2,rfl,he2⟩,h3,h4⟩
   have hec2:=e2.cs_eq
   simp-implicitDefEqProofs[aa,hec2]
   exact bin n e e2 q2 _ 2 (by rw[hec,hec2];rfl) he he2 (by omega) (by omega)
end Go.Proofs.YtnjbhgpbgmpkcaaGreatDoor
namespace Go.Proofs.YtnjbhgpbgmpkcaaGreatDoor
open Go Go.Aw
set_option maxRecDepth 100000
set_option maxHeartbeats 4000000
def cm(fns:List Fd)(vs:List (List UInt8))(next left:Int):List AV:=[.ptr 0 2 0 0,slE 2 3 (aZ fns),.p (aC vs),.p (.int .i64 next),.p (.int .i64 left)]
def HG(b:List Int)(p:Nat)(fns:List Fd)(vs:List (List UInt8))(next left:Int):List AO:=[rdO b p,.row 5 [cm fns vs next left],bO 3 (aZ fns)]
def DG(b:List Int)(fns:List Fd)(Q:AV→Nat→List (List UInt8)→Int→Int→Prop)(x:ARes)(h:List AO):Prop:=
 ∃v rest q vc v1 vs next left,x= .ret v∧h=rdO b q:: .row 5 [[.ptr 0 2 0 0,slE 2 3 (aZ fns),vc,.p (.int .i64 next),.p (.int .i64 left)]]::bO 3 (aZ fns)::rest∧
  Fzs (.dead:: .dead:: .dead::rest) 3 [vc] [.p (aC vs)]∧Fzs (.dead:: .dead:: .dead::rest) 3 [v] [v1]∧Q v1 q vs next left
def PG(b:List Int)(fns:List Fd)(Q:AV→Nat→List (List UInt8)→Int→Int→Prop)(rest:List AO)(x:ARes)(h:List AO):Prop:=
 ∃v q vs next left,x= .ret v∧h=rdO b q:: .row 5 [cm fns vs next left]::bO 3 (aZ fns)::rest∧Q v q vs next left
variable (G:ay)
theorem jr{f:FuncId}{args:List AV}{b:List Int}{p:Nat}{fns:List Fd}{vs:List (List UInt8)}{next left:Int}{Q:AV→Nat→List (List UInt8)→Int→Int→Prop}(H:AC Tryz.prog G f args (HG b p fns vs next left) (DG b fns Q)):
 AC Tryz.prog G f args (HG b p fns vs next left) (PG b fns Q []):=by
 refine H.frz 3 (by simp[HG]) (fun t v h ⟨_,_,_,_,_,_,_,_,e,_⟩=>by cases e) ?_
 rintro v h ⟨v0,rest,q,vc,v1,vs',n',l',e,rfl,hc,hf,r⟩
 cases e
 refine⟨v1,HG b q fns vs' n' l',by simp,rfl,hf,.same (bj _ _ _) (.one ?_ (.same (iZ _ _) (.nil _))),v1,q,vs',n',l',rfl,rfl,r⟩
 exact .keep (by simp[below]) (.keep (mt (by omega)) (hc.append (.keep (by simp) (.keep (by simp) .nil))))
theorem BX(b:List Int)(p:Nat)(fns:List Fd)(vs:List (List UInt8))(next left:Int):∀o∈HG b p fns vs next left,okO 3 o:=by
 intro o ho
 simp only[HG,List.mem_cons,List.not_mem_nil,or_false] at ho
 rcases ho with rfl|rfl|rfl
 ·exact bj _ _ _
 ·intro e he
  rw[List.mem_singleton.1 he]
  exact⟨by simp[below],mt (by omega),by simp,by simp,by simp,trivial⟩
 ·exact iZ _ _
theorem cP{f:FuncId}{args:List AV}{b:List Int}{p:Nat}{fns:List Fd}{vs:List (List UInt8)}{next left:Int}{Q:AV→Nat→List (List UInt8)→Int→Int→Prop}(H:AC Tryz.prog G f args (HG b p fns vs next left) (PG b fns Q []))(rest:List AO)(ha:ah 3 args):
 AC Tryz.prog G f args (rdO b p:: .row 5 [cm fns vs next left]::bO 3 (aZ fns)::rest) (PG b fns Q rest):=by
 refine(AC.pre H rest ha (BX _ _ _ _ _ _) ?_).mono ?_
 ·rintro x h ⟨v,q,vs',n',l',_,rfl,_⟩;rfl
 ·rintro x h ⟨h1,⟨v,q,vs',n',l',e1,rfl,e2⟩,rfl⟩
  exact⟨v,q,vs',n',l',e1,rfl,e2⟩
def Jm(p:Nat)(vs:List (List UInt8))(next left:Int)(v:AV)(q:Nat)(vs':List (List UInt8))(next' left':Int):Prop:=(∃s:List UInt8,v= .p (.str s)∧s.length≤8)∧p≤q∧q≤p+2∧vs'=vs∧next'=next+1∧left'=left
theorem Ac{b:List Int}(hb:Byt b)(hl:b.length≤2000){p:Nat}(hp:p+2≤1000000000000)(fns:List Fd)(vs:List (List UInt8))(hv:qf vs){next:Int}(hn: -1≤next)(hn2:next≤1000000000000)(left:Int):
 AC Tryz.prog G fj [.ptr 1 5 0 0] (HG b p fns vs next left) (PG b fns (Jm p vs next left) []):=by
 refine jr G (AC.go nP ?_)
 have hw:IntKind.i64.wrap (next+1)=next+1:=ag (by omega) (by omega)
 have hsl:aC vs= .lst 1 (vs.map fun w=>[.str w]):=rfl
 simp-implicitDefEqProofs[iP,HG,cm,hw]
 refine(aX G b hb hl p (by omega) 9 _).mono ?_
 rintro r h ⟨k,rfl,rfl,_⟩
 have fin:∀(s:List UInt8) (q:Nat),s.length≤8→p≤q→q≤p+2→DG b fns (Jm p vs next left) (.ret (.p (.str s))) [rdO b q,.row 5 [[.ptr 0 2 0 0,slE 2 3 (aZ fns),.p (aC vs),.p (.int .i64 (next+1)),.p (.int .i64 left)]],bO 3 (aZ fns)]:=fun s q h1 h2 h3=>
  ⟨_,[],q,_,_,vs,next+1,left,rfl,rfl,.keep (by simp) .nil,.keep (by simp) .nil,⟨s,rfl,h1⟩,h2,h3,rfl,rfl,rfl⟩
 obtain⟨N,hN⟩:∃N:Nat,next+1=N:=⟨(next+1).toNat,by omega⟩
 have hm:N%24<24:=Nat.mod_lt _ (by omega)
 have ht:(N:Int).tmod 24=((N%24:Nat):Int):=rfl
 have hw2:IntKind.i64.wrap (((N%24:Nat):Int)+1)=((N%24+1:Nat):Int):=w1 (by omega)
 rw[hN] at fin⊢
 generalize N%24=m at hm ht hw2
 have hm1:m+1≤24:=by omega
 have h0m:(0:Int)≤(m:Int)+1:=by omega
 by_cases hc:k=0∧vs≠[]
 ·obtain⟨rfl,hne⟩:=hc
  have hpos:0<vs.length:=List.length_pos_iff.2 hne
  simp-implicitDefEqProofs[aa,hsl,hpos]
  rw[←hsl]
  refine(zN G hb hl (by omega) vs hne (by have:=hv.1;omega) _).mono ?_
  rintro r h ⟨s,hs,rfl,rfl⟩
  simp-implicitDefEqProofs[aa]
  exact fin s _ (hv.2 s hs) (by omega) (by omega)
 ·have hcc:(k=0∧0<vs.length)=False:=by
   simp only[eq_iff_iff,iff_false]
   exact fun⟨a,c⟩=>hc ⟨a,List.length_pos_iff.1 c⟩
  by_cases hk:k=0
  ·have hv0:vs=[]:=by
    by_cases e:vs=[]
    ·exact e
    ·exact absurd ⟨hk,e⟩ hc
   subst hv0
   have hs0:aC []= .lst 1 []:=rfl
   simp-implicitDefEqProofs[aa,hs0,hk,ht,hw2,hm1,h0m]
   rw[←hs0]
   refine fin _ (p+1) ?_ (by omega) (by omega)
   simp
   omega
  ·simp-implicitDefEqProofs[aa,hk,ht,hw2,hm1,h0m]
   refine fin _ (p+1) ?_ (by omega) (by omega)
   simp
   omega
def sY(fns:List Fd):Prop:=fns.length≤1000∧∀f∈fns,f.name.length≤8∧f.params.length≤3
def JI(p:Nat)(vs:List (List UInt8))(next left:Int)(v:AV)(q:Nat)(vs':List (List UInt8))(next' left':Int):Prop:=(∃e:Ex,v= .agg (e.cs.map .p)∧e.sz≤400)∧p≤q∧q≤p+400∧vs'=vs∧next'=next∧left'=left
theorem yB{b:List Int}(hb:Byt b)(hl:b.length≤2000){p:Nat}(hp:p≤1000000000000)(l:List Int)(hne:l≠[])(hll:l.length≤1000000000000)(rest:List AO):
 AC Tryz.prog G an [.ptr 0 2 0 0,.p (cG l)] (rdO b p::rest) fun x h=>∃n,n∈l∧x= .ret (.p (.int .i64 n))∧h=rdO b (p+1)::rest:=by
 have key:AC Tryz.prog G an [.ptr 0 2 0 0,.p (cG l)] [rdO b p] fun x h=>∃n,n∈l∧x= .ret (.p (.int .i64 n))∧h=[rdO b (p+1)]:=by
  refine AC.go kf ?_
  have hpos:0<l.length:=List.length_pos_iff.2 hne
  have hnl:cG l= .lst 1 (l.map fun n=>[.int .i64 n]):=rfl
  simp-implicitDefEqProofs[gz,hnl]
  refine(aX G b hb hl p (by omega) l.length []).mono ?_
  rintro r h ⟨m,rfl,rfl,hm⟩
  have hml:m<l.length:=by omega
  have hg:=List.getElem?_eq_getElem hml
  simp-implicitDefEqProofs[aa,hg]
 refine(key.pre rest (by simp[below]) (fun o ho=>by rw[List.mem_singleton.1 ho];exact bj _ _ _) ?_).mono ?_
 ·rintro x h ⟨n,_,_,rfl⟩;rfl
 ·rintro x h ⟨h1,⟨n,e1,e2,rfl⟩,rfl⟩
  exact⟨n,e1,e2,rfl⟩
structure ExS where (es:List Ex) (q:Nat)
theorem jx{b:List Int}(hb:Byt b)(hl:b.length≤2000){p:Nat}(hp:p+1000≤1000000000000)(fns:List Fd)(hf:sY fns)(vs:List (List UInt8))(hv:qf vs)(next left:Int){d:Nat}(hd:d≤3):
 AC Tryz.prog G aO [.ptr 1 5 0 0,.p (.int .i64 d)] (HG b p fns vs next left) (PG b fns (JI p vs next left) []):=by
 refine jr G (AC.go nX ?_)
 have hpow:3^d≤27:=by
  have:3^d≤3^3:=Nat.pow_le_pow_right (by omega) hd
  omega
 have sub:∀(k:Nat),k≤3→∀(q:Nat) (rest:List AO),p≤q→q≤p+700→AC Tryz.prog G aV [.ptr 0 2 0 0,.p (aC vs),.p (.int .i64 k)] (rdO b q::rest) fun x h=>∃v q',x= .ret v∧h=rdO b q'::rest∧ExQ q (10*3^k) (6*3^k) v q':=fun k hk q rest _ _=>by
  have:3^k≤3^3:=Nat.pow_le_pow_right (by omega) hk
  exact gS G (sf G hb hl vs hv k (by omega) (by omega)) rest (by simp[below])
 simp-implicitDefEqProofs[jv,HG,cm]
 refine(sub d hd p _ (by omega) (by omega)).mono ?_
 rintro r h ⟨v,q0,rfl,rfl,⟨e0,rfl,he0⟩,hq1,hq2⟩
 have hec:=e0.cs_eq
 simp-implicitDefEqProofs[aa,hec]
 have finE:∀(e:Ex) (q:Nat) (rest:List AO) (v:AV),Fzs (.dead:: .dead:: .dead::rest) 3 [v] [.agg (e.cs.map .p)]→e.sz≤400→p≤q→q≤p+400→DG b fns (JI p vs next left) (.ret v) (rdO b q:: .row 5 [[.ptr 0 2 0 0,slE 2 3 (aZ fns),.p (aC vs),.p (.int .i64 next),.p (.int .i64 left)]]::bO 3 (aZ fns)::rest):=fun e q rest v hz h1 h2 h3=>
  ⟨_,rest,q,_,_,vs,next,left,rfl,rfl,.keep (by simp) .nil,hz,⟨e,rfl,h1⟩,h2,h3,rfl,rfl,rfl⟩
 have fz0:∀rest,Fzs (.dead:: .dead:: .dead::rest) 3 [.agg [.p (.int .i64 e0.op),.p (.int .i64 e0.n),.p (.str e0.name),.p (exL e0.kids)]] [.agg (e0.cs.map .p)]:=fun rest=> .agg (by rw[hec];exact fS (by simp)) .nil
 by_cases hfe:fns=[]
 ·have h0:aZ fns=[]:=by rw[hfe];rfl
  simp-implicitDefEqProofs[h0]
  rw[←h0]
  have:=finE e0 q0 [.row 4 [[.p (.int .i64 e0.op),.p (.int .i64 e0.n),.p (.str e0.name),.p (exL e0.kids)]],.row 4 [[.p (.int .i64 e0.op),.p (.int .i64 e0.n),.p (.str e0.name),.p (exL e0.kids)]]] _ (fz0 _) (by omega) (by omega) (by omega)
  rw[h0] at this⊢
  exact this
 have hfr:¬aZ fns=[]:=fun h=>hfe (List.map_eq_nil_iff.1 h)
 have hfl:(aZ fns).length=fns.length:=by simp[aZ]
 have hfp:0<fns.length:=List.length_pos_iff.2 hfe
 simp only[ep hfr,dm hfr,hfl] at finE
 rw[show bO 3 (aZ fns)= .row 3 (aZ fns) from ep hfr,show slE 2 3 (aZ fns)= .sl 2 3 0 (aZ fns).length from dm hfr,hfl]
 generalize hR:aZ fns=R at*
 simp-implicitDefEqProofs[hfr]
 refine(aX G b hb hl q0 (by omega) 4 _).mono ?_
 rintro r h ⟨k1,rfl,rfl,_⟩
 simp-implicitDefEqProofs[aa]
 refine aS (fun hc=>?_) (fun hc=>?_)
 ·simp-implicitDefEqProofs[]
  exact finE e0 _ _ _ (fz0 _) (by omega) (by omega) (by omega)
 simp-implicitDefEqProofs[hfl]
 refine(aX G b hb hl (q0+1) (by omega) fns.length _).mono ?_
 rintro r h ⟨k2,rfl,rfl,hk2⟩
 have hk:k2<fns.length:=by omega
 have hg:=List.getElem?_eq_getElem hk
 have hgr:R[k2]?=some (fns[k2].cs.map .p):=by rw[←hR,aZ,List.getElem?_map,hg];rfl
 have hfo:=hf.2 _ (List.getElem_mem hk)
 generalize fns[k2]=fd at hg hgr hfo
 have hfc:fd.cs=[.str fd.name,aC fd.params,smL fd.body]:=rfl
 have hsp:aC fd.params= .lst 1 (fd.params.map fun w=>[.str w]):=rfl
 clear hfl hg
 simp-implicitDefEqProofs[aa,hgr,hk,hfc]
 have hexn:∀(es:List Ex) (e:Ex),exR (es++[e])=exR es++[e.cs.map .p]:=fun es e=>by simp[exR]
 have hRp:∀x∈R,ah 0 x:=by rw[←hR];exact qb fns
 refine aJ (fun s:ExS=>aj 99 [(8,.p (.int .i64 s.es.length)),(7,.ptr 6 4 0 0),(6,.ptr 5 3 0 0),(4,.ptr 3 4 0 0),(0,.ptr 1 5 0 0)])
  (fun s=>[rdO b s.q,.row 5 [[.ptr 0 2 0 0,.sl 2 3 0 fns.length,.p (aC vs),.p (.int .i64 next),.p (.int .i64 left)]],.row 3 R,.row 4 [[.p (.int .i64 0),.p (.int .i64 0),.p (.str []),.nils]],
    .row 4 [[.p (.int .i64 e0.op),.p (.int .i64 e0.n),.p (.str e0.name),.p (exL e0.kids)]],.row 3 [[.p (.str fd.name),.p (aC fd.params),.p (smL fd.body)]],.row 4 [[.p (.int .i64 13),.p (.int .i64 0),.p (.str fd.name),slE 7 4 (exR s.es)]],bO 4 (exR s.es)])
  (fun s=>s.es.length≤fd.params.length∧aU s.es≤90*s.es.length∧q0≤s.q∧s.q≤q0+2+54*s.es.length) (fun s=>fd.params.length-s.es.length) ⟨[],q0+1+1⟩ ⟨by simp,by simp[aU],by simp only;omega,by simp⟩
  (oh (by simp) (by simp) (by
    intro o h
    simp only[List.mem_cons,List.not_mem_nil,or_false] at h
    rcases h with rfl|rfl|rfl|rfl|rfl|rfl|rfl
    ·exact bj _ _ _
    ·simp[okO,below]
    ·exact bu (fun e he=>hRp e he)
    ·simp[okO,below]
    ·simp[okO,below]
    ·simp[okO,below]
    ·simp[okO,below]) (by simp[below])) ?_
 rintro⟨es,q⟩ ⟨h1,h2,h3,h4⟩
 simp only at h1 h2 h3 h4
 simp-implicitDefEqProofs[hsp]
 refine aS (fun hc=>?_) (fun hc=>?_)
 ·simp at hc
  have hp3:=hfo.2
  simp-implicitDefEqProofs[]
  refine(sub 2 (by omega) q _ (by omega) (by omega)).mono ?_
  rintro r h ⟨v,q2,rfl,rfl,⟨e,rfl,he⟩,hq3,hq4⟩
  have hec:=e.cs_eq
  simp-implicitDefEqProofs[aa,hec]
  have hxl:(exR es).length=es.length:=by simp[exR]
  refine⟨by rw[hxl];omega,⟨es++[e],q2⟩,⟨by simp;omega,by rw[cS];simp[aU];omega,by simp only;omega,by simp;omega⟩,by simp;omega,?_⟩
  rw[hexn,zi _ (by simp),xv _ (by simp),hec]
  refine db [0,1,2,3,4,5,6,8] (by simp) (by decide) (by decide) (bx rfl (bj _ _ _) (cR (by simp[below]) (by simp[ren,bf]) (aW rfl hRp (aW rfl (by simp[below]) (aW rfl (by simp[below]) (aW rfl (by simp[below]) (cR (by simp[below]) (by simp[ren,bf]) (aW rfl (fun x hx=>by
   rcases List.mem_append.1 hx with h|h
   ·exact dy _ x h
   ·rw[List.mem_singleton.1 h];simp) bm)))))))) ?_
  simp[below,ren,w1 (i:=es.length) (by omega)]
 ·simp at hc
  have hp3:=hfo.2
  have hlen:es.length=fd.params.length:=by omega
  have hxl:(exR es).length=es.length:=by simp[exR]
  have hkids:∀(h:List AO),h[7]?=some (bO 4 (exR es))→View h (slE 7 4 (exR es)) (exL es):=fun h hh=>fD hh
  simp-implicitDefEqProofs[]
  refine(aX G b hb hl q (by omega) 2 _).mono ?_
  rintro r h ⟨k3,rfl,rfl,_⟩
  simp-implicitDefEqProofs[aa]
  refine aS (fun hc2=>?_) (fun hc2=>?_)
  ·simp-implicitDefEqProofs[]
   have hcc:(Ex.mk 13 0 fd.name es).cs=[.int .i64 13,.int .i64 0,.str fd.name,exL es]:=Ex.cs_eq _
   exact finE ⟨13,0,fd.name,es⟩ (q+1) _ _ (.agg (by rw[hcc];exact .keep (by simp) (.keep (by simp) (.keep (by simp) (.one (hkids _ rfl) .nil)))) .nil) (by simp[Ex.sz];omega) (by omega) (by omega)
  ·simp-implicitDefEqProofs[]
   refine(yB G hb hl (p:=q+1) (by omega) [3,4,8,10] (by simp) (by simp) _).mono ?_
   rintro r h ⟨n,_,rfl,rfl⟩
   simp-implicitDefEqProofs[aa]
   refine(sub 2 (by omega) (q+1+1) _ (by omega) (by omega)).mono ?_
   rintro r h ⟨v,q2,rfl,rfl,⟨e,rfl,he⟩,hq3,hq4⟩
   have hec:=e.cs_eq
   simp-implicitDefEqProofs[aa,hec]
   have hcc:(Ex.mk 13 0 fd.name es).cs=[.int .i64 13,.int .i64 0,.str fd.name,exL es]:=Ex.cs_eq _
   exact finE ⟨n,0,[],[⟨13,0,fd.name,es⟩,e]⟩ q2 _ _ (.agg (.keep (by simp) (.keep (by simp) (.keep (by simp) (.one (pz (p0:=(Ex.mk 13 0 fd.name es).cs) (p1:=e.cs) rfl (Ex.cs_len _) (Ex.cs_len _) (fun j q a e1 e2=>by
    rw[hcc] at e1
    match j,e1,e2 with
    |0,e1,e2=>cases e1;cases e2;exact .p _
    |1,e1,e2=>cases e1;cases e2;exact .p _
    |2,e1,e2=>cases e1;cases e2;exact .p _
    |3,e1,e2=>cases e1;cases e2;exact hkids _ rfl
    |j+4,e1,e2=>simp at e1) (fun j q a e1 e2=>by
    rw[hec] at e1
    match j,e1,e2 with
    |0,e1,e2=>cases e1;cases e2;exact .p _
    |1,e1,e2=>cases e1;cases e2;exact .p _
    |2,e1,e2=>cases e1;cases e2;exact .p _
    |3,e1,e2=>cases e1;cases e2;exact .p _
    |j+4,e1,e2=>simp at e1)) .nil)))) .nil) (by simp[Ex.sz,aU];omega) (by omega) (by omega)
end Go.Proofs.YtnjbhgpbgmpkcaaGreatDoor
namespace Go.Proofs.YtnjbhgpbgmpkcaaGreatDoor
open Go Go.Aw
set_option maxRecDepth 100000
set_option maxHeartbeats 4000000
variable (G:ay)
def Lq(p:Nat)(vs:List (List UInt8))(next left:Int)(v:AV)(q:Nat)(vs':List (List UInt8))(next' left':Int):Prop:=(∃e:Ex,v= .agg (e.cs.map .p)∧e.sz≤410)∧p≤q∧q≤p+401∧vs'=vs∧next'=next∧left'=left
theorem CG{b:List Int}(hb:Byt b)(hl:b.length≤2000){p:Nat}(hp:p+2000≤1000000000000)(fns:List Fd)(hf:sY fns)(vs:List (List UInt8))(hv:qf vs)(next left:Int):
 AC Tryz.prog G dO [.ptr 1 5 0 0] (HG b p fns vs next left) (PG b fns (Lq p vs next left) []):=by
 refine jr G (AC.go pA ?_)
 simp-implicitDefEqProofs[jt,HG,cm]
 refine(cP G (jx G hb hl (p:=p) (by omega) fns hf vs hv next left (d:=2) (by omega)) _ (by simp[below])).mono ?_
 rintro r h ⟨v,q,vs',n',l',rfl,rfl,⟨e,rfl,he⟩,h1,h2,rfl,rfl,rfl⟩
 have hec:=e.cs_eq
 simp-implicitDefEqProofs[aa,cm,hec]
 refine(yB G hb hl (p:=q) (by omega) [16,16,16,8,17,0] (by simp) (by simp) _).mono ?_
 rintro r h ⟨n,_,rfl,rfl⟩
 simp-implicitDefEqProofs[aa]
 have hn:(Ex.mk 1 n [] []).cs=[.int .i64 1,.int .i64 n,.str [],.lst 4 []]:=Ex.cs_eq _
 refine⟨_,[_,_],q+1,_,.agg ((Ex.mk 7 0 [] [e,⟨1,n,[],[]⟩]).cs.map .p),vs',n',l',rfl,rfl,.keep (by simp) .nil,.agg (.keep (by simp) (.keep (by simp) (.keep (by simp) (.one (pz (p0:=e.cs) (p1:=(Ex.mk 1 n [] []).cs) rfl (Ex.cs_len _) (Ex.cs_len _) (fun j q a e1 e2=>?_) (fun j q a e1 e2=>?_)) .nil)))) .nil,⟨_,rfl,by simp[Ex.sz,aU];omega⟩,by omega,by omega,rfl,rfl,rfl⟩
 ·rw[hec] at e1
  match j,e1,e2 with
  |0,e1,e2=>cases e1;cases e2;exact .p _
  |1,e1,e2=>cases e1;cases e2;exact .p _
  |2,e1,e2=>cases e1;cases e2;exact .p _
  |3,e1,e2=>cases e1;cases e2;exact .p _
  |j+4,e1,e2=>simp at e1
 ·rw[hn] at e1
  match j,e1,e2 with
  |0,e1,e2=>cases e1;cases e2;exact .p _
  |1,e1,e2=>cases e1;cases e2;exact .p _
  |2,e1,e2=>cases e1;cases e2;exact .p _
  |3,e1,e2=>cases e1;cases e2;exact View.nils 4
  |j+4,e1,e2=>simp at e1
def IX(p:Nat)(e:Ex)(vs:List (List UInt8))(next left:Int)(v:AV)(q:Nat)(vs':List (List UInt8))(next' left':Int):Prop:=
 ∃s:List UInt8,s.length≤8∧v= .agg ((Sm.mk 1 s [e] [] []).cs.map .p)∧p≤q∧q≤p+2∧vs'=vs++[s]∧next'=next+1∧left'=left
theorem Gg{b:List Int}(hb:Byt b)(hl:b.length≤2000){p:Nat}(hp:p+2≤1000000000000)(fns:List Fd)(vs:List (List UInt8))(hv:qf vs){next:Int}(hn: -1≤next)(hn2:next≤1000000000000)(left:Int)(e:Ex):
 AC Tryz.prog G cx [.ptr 1 5 0 0,.agg (e.cs.map .p)] (HG b p fns vs next left) (PG b fns (IX p e vs next left) []):=by
 refine jr G (AC.go jX ?_)
 have hec:=e.cs_eq
 simp-implicitDefEqProofs[gt,HG,cm,hec]
 refine(cP G (Ac G hb hl hp fns vs hv hn hn2 left) _ (by simp[below])).mono ?_
 rintro r h ⟨v,q,vs',n',l',rfl,rfl,⟨s,rfl,hs⟩,h1,h2,rfl,rfl,rfl⟩
 have hsl:aC vs'= .lst 1 (vs'.map fun w=>[.str w]):=rfl
 simp-implicitDefEqProofs[aa,cm,hsl]
 have hv1:=hv.1
 have hrow:List.take vs'.length (List.map ((fun x=>List.map AV.p x)∘fun w=>[PV.str w]) vs')++[[AV.p (PV.str s)]]=(vs'++[s]).map fun w=>[AV.p (.str w)]:=by
  rw[List.take_of_length_le (by simp)];simp[Function.comp_def]
 have hlen:vs'.length+1=(vs'++[s]).length:=by simp
 refine⟨by omega,by omega,?_⟩
 rw[hrow,hlen]
 have hsm:(Sm.mk 1 s [e] [] []).cs=[.int .i64 1,.str s,exL [e],smL [],smL []]:=Sm.cs_eq _
 refine⟨_,_,q,_,.agg ((Sm.mk 1 s [e] [] []).cs.map .p),vs'++[s],next+1,l',rfl,rfl,.one (dI rfl) .nil,.agg ?_ .nil,⟨s,hs,rfl,h1,h2,rfl,rfl,rfl⟩⟩
 rw[hsm]
 refine .keep (by simp) (.keep (by simp) (.one ?_ (.one (View.nils 5) (.one (View.nils 5) .nil))))
 exact dC (l:=[e]) (by rw[List.map_singleton,hec];rfl)
theorem GW{b:List Int}(hb:Byt b)(hl:b.length≤2000){p:Nat}(hp:p+2≤1000000000000)(fns:List Fd)(vs:List (List UInt8))(hv:qf vs){next:Int}(hn: -1≤next)(hn2:next≤1000000000000)(left:Int)(N:Int):
 AC Tryz.prog G cx [.ptr 1 5 0 0,.agg [.p (.int .i64 1),.p (.int .i64 N),.p (.str []),.nils]] (HG b p fns vs next left) (PG b fns (IX p ⟨1,N,[],[]⟩ vs next left) []):=by
 refine jr G (AC.go jX ?_)
 simp-implicitDefEqProofs[gt,HG,cm]
 refine(cP G (Ac G hb hl hp fns vs hv hn hn2 left) _ (by simp[below])).mono ?_
 rintro r h ⟨v,q,vs',n',l',rfl,rfl,⟨s,rfl,hs⟩,h1,h2,rfl,rfl,rfl⟩
 have hsl:aC vs'= .lst 1 (vs'.map fun w=>[.str w]):=rfl
 simp-implicitDefEqProofs[aa,cm,hsl]
 have hv1:=hv.1
 have hrow:List.take vs'.length (List.map ((fun x=>List.map AV.p x)∘fun w=>[PV.str w]) vs')++[[AV.p (PV.str s)]]=(vs'++[s]).map fun w=>[AV.p (.str w)]:=by
  rw[List.take_of_length_le (by simp)];simp[Function.comp_def]
 have hlen:vs'.length+1=(vs'++[s]).length:=by simp
 refine⟨by omega,by omega,?_⟩
 rw[hrow,hlen]
 have hsm:(Sm.mk 1 s [⟨1,N,[],[]⟩] [] []).cs=[.int .i64 1,.str s,exL [⟨1,N,[],[]⟩],smL [],smL []]:=Sm.cs_eq _
 refine⟨_,_,q,_,.agg ((Sm.mk 1 s [⟨1,N,[],[]⟩] [] []).cs.map .p),vs'++[s],next+1,l',rfl,rfl,.one (dI rfl) .nil,.agg ?_ .nil,⟨s,hs,rfl,h1,h2,rfl,rfl,rfl⟩⟩
 rw[hsm]
 refine .keep (by simp) (.keep (by simp) (.one ?_ (.one (View.nils 5) (.one (View.nils 5) .nil))))
 refine View.sl _ _ _ _ [(Ex.mk 1 N [] []).cs] rfl (by simp) (by simp) fun i j e q e' a a1 a2 a3 a4=>?_
 rw[Nat.zero_add] at a3
 match i,a1,a3 with
 |0,a1,a3=>
  cases a1;cases a3
  have hn:(Ex.mk 1 N [] []).cs=[.int .i64 1,.int .i64 N,.str [],.lst 4 []]:=Ex.cs_eq _
  rw[hn] at a2
  match j,a2,a4 with
  |0,e1,e2=>cases e1;cases e2;exact .p _
  |1,e1,e2=>cases e1;cases e2;exact .p _
  |2,e1,e2=>cases e1;cases e2;exact .p _
  |3,e1,e2=>cases e1;cases e2;exact View.nils 4
  |j+4,e1,e2=>simp at e1
 |i+1,a1,a3=>simp at a1
end Go.Proofs.YtnjbhgpbgmpkcaaGreatDoor
namespace Go.Proofs.YtnjbhgpbgmpkcaaGreatDoor
open Go Go.Aw
set_option maxRecDepth 100000
set_option maxHeartbeats 4000000
def Pd(d:Nat):Nat:=5000*20^d
structure Bd (n:Nat) (p:Nat) (vs:List (List UInt8)) (next left:Int):Prop where
 p:p+n≤100000000000
 v:vs.length+n/50≤900000
 w:∀s∈vs,s.length≤8
 n0: -1≤next
 n1:next+n≤100000000000
 l0: -100000000000≤left-n
 l1:left≤100000000000
theorem Bd.shrt{n p:Nat}{vs:List (List UInt8)}{next left:Int}(h:Bd n p vs next left):qf vs:=⟨by have:=h.v;omega,h.w⟩
def Mv(n p q:Nat)(next next' left left':Int):Prop:=p≤q∧q≤p+n∧next≤next'∧next'≤next+n∧left-n≤left'∧left'≤left
def FH(b:List Int)(fns:List Fd)(vs:List (List UInt8))(p n:Nat)(next left:Int)(rest:List AO)(x:ARes)(h:List AO):Prop:=
 ∃(out:List Sm) (q:Nat) (next' left':Int),x= .ret (.sl (3+rest.length) 5 0 out.length)∧h=rdO b q:: .row 5 [cm fns vs next' left']::bO 3 (aZ fns)::rest++[.row 5 (smR out)]∧aq out≤n∧out.length≤100∧Mv n p q next next' left left'
def AH(G:ay)(b:List Int)(fns:List Fd)(d:Nat):Prop:=∀{p:Nat} {vs:List (List UInt8)} {next left:Int},Bd (Pd d) p vs next left→AC Tryz.prog G aM [.ptr 1 5 0 0,.p (.int .i64 d)] (HG b p fns vs next left) (FH b fns vs p (Pd d) next left [])
variable (G:ay)
theorem ox{b:List Int}{fns:List Fd}{d p:Nat}{vs:List (List UInt8)}{next left:Int}(H:AC Tryz.prog G aM [.ptr 1 5 0 0,.p (.int .i64 d)] (HG b p fns vs next left) (FH b fns vs p (Pd d) next left []))(rest:List AO):
 AC Tryz.prog G aM [.ptr 1 5 0 0,.p (.int .i64 d)] (rdO b p:: .row 5 [cm fns vs next left]::bO 3 (aZ fns)::rest) (FH b fns vs p (Pd d) next left rest):=by
 have H2:AC Tryz.prog G aM [.ptr 1 5 0 0,.p (.int .i64 d)] (HG b p fns vs next left) fun x h'=>∃h1 es,h'=h1++[.row 5 es]∧h1.length=(HG b p fns vs next left).length∧x= .ret (.sl (HG b p fns vs next left).length 5 0 es.length)∧(∀e∈es,ah 0 e)∧
  (∃(out:List Sm) (q:Nat) (next' left':Int),es=smR out∧h1=HG b q fns vs next' left'∧aq out≤Pd d∧out.length≤100∧Mv (Pd d) p q next next' left left'):=by
  refine H.mono ?_
  rintro x h ⟨out,q,n',l',rfl,rfl,h1,h2,h3⟩
  exact⟨HG b q fns vs n' l',smR out,rfl,rfl,by simp[HG,fa],dD out,out,q,n',l',rfl,rfl,h1,h2,h3⟩
 refine(AC.pre1 (R:=fun h1 es=>∃(out:List Sm) (q:Nat) (next' left':Int),es=smR out∧h1=HG b q fns vs next' left'∧aq out≤Pd d∧out.length≤100∧Mv (Pd d) p q next next' left left') H2 rest (by simp[below,HG]) (BX _ _ _ _ _ _) ?_).mono ?_
 ·rintro h1 es ⟨out,q,n',l',rfl,rfl,_⟩
  exact BX _ _ _ _ _ _
 ·rintro x h ⟨h1,es,rfl,_,rfl,_,out,q,n',l',rfl,rfl,r⟩
  exact⟨out,q,n',l',by simp[HG,fa],rfl,r⟩
def K_spec_l3Gen_loop:AK:= .seq (.reg [oJ 4 (.mov (.c .nils))]) (.seq (.reg [oM 9 0,oM 10 0,oN 11 10,oF 12 0 11,oL 13 12,oJ 14 (.bsl 1 [(.p (.int .i64 0))] 5 [(0,1,(.c (.p (.int .i64 2)))),(1,1,(.c (.p (.int .i64 3)))),(2,1,(.c (.p (.int .i64 1)))),(3,1,(.c (.p (.int .i64 0)))),(4,1,(.c (.p (.int .i64 5))))]),oJ 15 (.call an [(.t 13),(.t 14)]),oJ 16 (.bld [(.p (.int .i64 0)),(.p (.int .i64 0)),(.p (.str [])),.nils] [(0,1,(.c (.p (.int .i64 1)))),(1,1,(.t 15))]),oJ 17 (.call cx [(.t 9),(.t 16)]),oJ 5 (.alloc [(.p (.int .i64 0)),(.p (.str [])),.nils,.nils,.nils]),⟨none,none,.st 5 (.t 5) (.t 17)⟩]) (.seq (.reg [oF 18 1 5,oL 19 18,oJ 20 (.bld [(.p (.int .i64 0)),(.p (.int .i64 0)),(.p (.str [])),.nils] [(0,1,(.c (.p (.int .i64 2)))),(2,1,(.t 19))]),oJ 6 (.alloc [(.p (.int .i64 0)),(.p (.int .i64 0)),(.p (.str [])),.nils]),⟨none,none,.st 4 (.t 6) (.t 20)⟩]) (.seq (.reg [oM 21 0,oM 22 1,oJ 23 (.bin .sub (.t 22) (.c (.p (.int .i64 1)))),oJ 24 (.call aM [(.t 21),(.t 23)]),oM 7 24]) (.seq (.reg [oF 25 1 5,oL 26 25,oJ 27 (.ld (some 4) (.t 6)),oJ 28 (.bld [(.p (.int .i64 0)),(.p (.int .i64 0)),(.p (.str [])),.nils] [(0,1,(.c (.p (.int .i64 1)))),(1,1,(.c (.p (.int .i64 1))))]),oJ 29 (.bsl 4 [(.p (.int .i64 0)),(.p (.int .i64 0)),(.p (.str [])),.nils] 2 [(0,4,(.t 27)),(4,4,(.t 28))]),oJ 30 (.bld [(.p (.int .i64 0)),(.p (.int .i64 0)),(.p (.str [])),.nils] [(0,1,(.c (.p (.int .i64 4)))),(3,1,(.t 29))]),oJ 31 (.bsl 4 [(.p (.int .i64 0)),(.p (.int .i64 0)),(.p (.str [])),.nils] 1 [(0,4,(.t 30))]),oJ 32 (.bld [(.p (.int .i64 0)),(.p (.str [])),.nils,.nils,.nils] [(0,1,(.c (.p (.int .i64 2)))),(1,1,(.t 26)),(2,1,(.t 31))]),oJ 8 (.alloc [(.p (.int .i64 0)),(.p (.str [])),.nils,.nils,.nils]),⟨none,none,.st 5 (.t 8) (.t 32)⟩]) (.cut (.reg [oM 33 0,oM 34 0,oN 35 34,oF 36 4 35,oL 37 36,oJ 38 (.bin .sub (.t 37) (.c (.p (.int .i64 2)))),oN 39 33,oF 40 4 39,oS 40 38]) (.seq (.reg [oM 44 7,oJ 41 (.ld (some 5) (.t 5)),oJ 42 (.ld (some 4) (.t 6)),oJ 43 (.bslP 4 [(.p (.int .i64 0)),(.p (.int .i64 0)),(.p (.str [])),.nils] 1 [(0,4,(.t 42))]),oJ 45 (.ld (some 5) (.t 8)),oJ 46 (.bslP 5 [(.p (.int .i64 0)),(.p (.str [])),.nils,.nils,.nils] 1 [(0,5,(.t 45))]),oJ 47 (.app 5 96 (.t 44) (.t 46)),⟨none,none,.chk (some 5) 5 41⟩,⟨none,none,.chk (some 4) 6 42⟩,oJ 48 (.bld [(.p (.int .i64 0)),(.p (.str [])),.nils,.nils,.nils] [(0,1,(.c (.p (.int .i64 6)))),(2,1,(.t 43)),(3,1,(.t 47))]),oJ 49 (.bsl 5 [(.p (.int .i64 0)),(.p (.str [])),.nils,.nils,.nils] 2 [(0,5,(.t 41)),(5,5,(.t 48))]),oM 4 49]) (.ret)))))))
theorem pC:K_spec_l3Gen_loop.whole=F_spec_l3Gen_loop.ak:=rfl
def KR(n p:Nat)(vs:List (List UInt8))(next left:Int)(v:AV)(q:Nat)(vs':List (List UInt8))(next' left':Int):Prop:=
 ∃(out:List Sm) (s:List UInt8),v= .p (smL out)∧aq out≤n∧1≤out.length∧out.length≤2∧s.length≤8∧vs'=vs++[s]∧Mv n p q next next' left left'
theorem DU{b:List Int}(hb:Byt b)(hl:b.length≤2000)(fns:List Fd){d:Nat}(hd:d≤10)(hblk:AH G b fns d){p:Nat}{vs:List (List UInt8)}{next left:Int}(hB:Bd (Pd d+60) p vs next left):
 AC Tryz.prog G fQ [.ptr 1 5 0 0,.p (.int .i64 ((d:Int)+1))] (HG b p fns vs next left) (PG b fns (KR (Pd d+60) p vs next left) []):=by
 have hp:=hB.p
 have hv:=hB.v
 have hn0:=hB.n0
 have hn1:=hB.n1
 have hl0:=hB.l0
 have hl1:=hB.l1
 refine jr G (AC.goK px pC ?_)
 simp-implicitDefEqProofs[K_spec_l3Gen_loop,F_spec_l3Gen_loop,HG,cm]
 refine(jo G hb hl (p:=p) (by omega) [2,3,1,0,5] (k:=3) (by simp) (by simp) (by omega) rfl rfl).mono ?_
 rintro r h ⟨N,hN,rfl,rfl⟩
 have hN5:0≤N∧N≤5:=by simp at hN;omega
 simp-implicitDefEqProofs[aa]
 refine(cP G (GW G hb hl (p:=p+1) (by omega) fns vs hB.shrt hn0 (by omega) left N) _ (by simp[below])).mono ?_
 rintro r h ⟨v,q,vs',n',l',rfl,rfl,s,hs,rfl,h1,h2,rfl,rfl,rfl⟩
 have hsm:(Sm.mk 1 s [⟨1,N,[],[]⟩] [] []).cs=[.int .i64 1,.str s,exL [⟨1,N,[],[]⟩],smL [],smL []]:=Sm.cs_eq _
 have hwd:IntKind.i64.wrap ((d:Int)+1-1)=d:=by rw[ag (by omega) (by omega)];omega
 have hw2:IntKind.i64.wrap (d:Int)=d:=ag (by omega) (by omega)
 simp-implicitDefEqProofs[aa,cm,hsm,hw2]
 have hB2:Bd (Pd d) q (vs++[s]) (next+1) l':=⟨by omega,by simp;omega,fun w hw=>by
  rcases List.mem_append.1 hw with h|h
  ·exact hB.w w h
  ·rw[List.mem_singleton.1 h];exact hs,by omega,by omega,by omega,by omega⟩
 refine(ox G (hblk hB2) _).mono ?_
 rintro r h ⟨out,q2,n2,l2,rfl,rfl,z1,z2,m1,m2,m3,m4,m5,m6⟩
 have hwl:IntKind.i64.wrap (l2-2)=l2-2:=ag (by omega) (by omega)
 simp-implicitDefEqProofs[aa,cm,hwl]
 have hHb:∀(l:Int),okO 7 (.row 5 [[.ptr 0 2 0 0,slE 2 3 (aZ fns),.p (aC (vs++[s])),.p (.int .i64 n2),.p (.int .i64 l)]]):=fun l e he=>by
  rw[List.mem_singleton.1 he];exact⟨by simp[below],mt (by omega),by simp,by simp,by simp,trivial⟩
 refine kD (aj 50 [(0,.ptr 1 5 0 0),(5,.ptr 3 5 0 0),(6,.ptr 4 4 0 0),(7,.sl 5 5 0 out.length),(8,.ptr 6 5 0 0)])
  [rdO b q2,.row 5 [[.ptr 0 2 0 0,slE 2 3 (aZ fns),.p (aC (vs++[s])),.p (.int .i64 n2),.p (.int .i64 (l2-2))]],bO 3 (aZ fns),
   .row 5 [[.p (.int .i64 1),.p (.str s),.p (exL [Ex.mk 1 N [] []]),.p (smL []),.p (smL [])]],.row 4 [[.p (.int .i64 2),.p (.int .i64 0),.p (.str s),.p (exL [])]],.row 5 (smR out),
   .row 5 [[.p (.int .i64 2),.p (.str s),.p (exL [Ex.mk 4 0 [] [⟨2,0,s,[]⟩,⟨1,1,[],[]⟩]]),.p (smL []),.p (smL [])]]] ?_ ?_
 ·simp-implicitDefEqProofs[hwl]
  refine Wk.trans (db (l1:=[(0,.ptr 1 5 0 0),(5,.ptr 3 5 0 0),(6,.ptr 4 4 0 0),(7,.sl 5 5 0 out.length),(8,.ptr 6 5 0 0)])
   (h1:=[rdO b q2,.row 5 [[.ptr 0 2 0 0,slE 2 3 (aZ fns),.p (aC (vs++[s])),.p (.int .i64 n2),.p (.int .i64 (l2-2))]],bO 3 (aZ fns),
   .row 5 [[.p (.int .i64 1),.p (.str s),.p (exL [Ex.mk 1 N [] []]),.p (smL []),.p (smL [])]],.row 4 [[.p (.int .i64 2),.p (.int .i64 0),.p (.str s),.nils]],.row 5 (smR out),
   .row 5 [[.p (.int .i64 2),.p (.str s),.sl 8 4 0 1,.nils,.nils]],.row 4 [[.p (.int .i64 2),.p (.int .i64 0),.p (.str s),.nils],[.p (.int .i64 1),.p (.int .i64 1),.p (.str []),.nils]],.row 4 [[.p (.int .i64 4),.p (.int .i64 0),.p (.str []),.sl 7 4 0 2]]])
   [0,1,2,4,5,6,9,7,8] (by simp) (by decide) (by decide) (bx rfl (bj _ _ _) (cR (by simp[below]) (by simp[ren,bf]) (bx rfl (iZ _ _) (aW rfl (by simp[below]) (aW rfl (by simp[below]) (aW rfl (dD out) (cR (by simp[below]) (by simp[ren,bf]) (aW rfl (by simp[below]) (cR (by simp[below]) (by simp[ren,bf]) bm))))))))) (by simp[below,ren]))
   (jk 7 (by omega) (by simp) rfl (.same (bj _ _ _) (.same (hHb _) (.same (iZ _ _) (.same (by simp[okO,below]) (.one (.keep (by simp) (.keep (by simp) (.keep (by simp) (.one (View.nils 4) .nil)))) (.same (bu (dD out)) (.one (.keep (by simp) (.keep (by simp) (.one ?_ (.one (View.nils 5) (.one (View.nils 5) .nil))))) (.nil _)))))))) ?_)
  ·exact bs (p0:=(Ex.mk 4 0 [] [⟨2,0,s,[]⟩,⟨1,1,[],[]⟩]).cs) rfl (Ex.cs_len _) (fH (pz (p0:=(Ex.mk 2 0 s []).cs) (p1:=(Ex.mk 1 1 [] []).cs) rfl (Ex.cs_len _) (Ex.cs_len _) (fH (View.nils 4)) (fH (View.nils 4))))
  ·exact⟨.keep (by simp[below]) .nil,.keep (by simp[below]) .nil,.keep (by simp[below]) .nil,.keep (by simp[below]) .nil,.keep (by simp[below]) .nil,trivial⟩
 ·simp-implicitDefEqProofs[]
  have hless:(Sm.mk 2 s [Ex.mk 4 0 [] [⟨2,0,s,[]⟩,⟨1,1,[],[]⟩]] [] []).cs=[.int .i64 2,.str s,exL [Ex.mk 4 0 [] [⟨2,0,s,[]⟩,⟨1,1,[],[]⟩]],smL [],smL []]:=Sm.cs_eq _
  have hrow:List.take out.length (smR out)++[[AV.p (.int .i64 2),.p (.str s),.p (exL [Ex.mk 4 0 [] [⟨2,0,s,[]⟩,⟨1,1,[],[]⟩]]),.p (smL []),.p (smL [])]]=smR (out++[Sm.mk 2 s [Ex.mk 4 0 [] [⟨2,0,s,[]⟩,⟨1,1,[],[]⟩]] [] []]):=by
   rw[List.take_of_length_le (by rw[fa];exact Nat.le_refl _),vG];exact congrArg (smR out++ ·) (by rw[smR,List.map_singleton,hless];rfl)
  have hlen:out.length+1=(out++[Sm.mk 2 s [Ex.mk 4 0 [] [⟨2,0,s,[]⟩,⟨1,1,[],[]⟩]] [] []]).length:=by simp
  refine⟨⟨by rw[fa];exact Nat.le_refl _,by omega,by omega⟩,?_⟩
  rw[hrow,hlen]
  refine⟨_,_,q2,_,.p (smL [Sm.mk 1 s [⟨1,N,[],[]⟩] [] [],Sm.mk 6 [] [⟨2,0,s,[]⟩] (out++[Sm.mk 2 s [Ex.mk 4 0 [] [⟨2,0,s,[]⟩,⟨1,1,[],[]⟩]] [] []]) []]),vs++[s],n2,l2-2,rfl,rfl,.keep (by simp) .nil,
   .one (pz (p0:=(Sm.mk 1 s [⟨1,N,[],[]⟩] [] []).cs) (p1:=(Sm.mk 6 [] [⟨2,0,s,[]⟩] (out++[Sm.mk 2 s [Ex.mk 4 0 [] [⟨2,0,s,[]⟩,⟨1,1,[],[]⟩]] [] []]) []).cs) rfl (Sm.cs_len _) (Sm.cs_len _)
    (bR (.p _) (.p _) (.p _)) (bR ?_ (iQ rfl) (View.nils 5))) .nil,_,s,rfl,?_,by simp,by simp,hs,rfl,?_⟩
  ·have h2:(Ex.mk 2 0 s []).cs=[.int .i64 2,.int .i64 0,.str s,exL []]:=Ex.cs_eq _
   have he:exL [Ex.mk 2 0 s []]= .lst 4 [[.int .i64 2,.int .i64 0,.str s,exL []]]:=by rw[exL,List.map_singleton,h2]
   rw[he]
   exact .p _
  ·simp[aq,bn,Sm.sz,Ex.sz,aU]
   omega
  ·exact⟨by omega,by omega,by omega,by omega,by omega,by omega⟩
end Go.Proofs.YtnjbhgpbgmpkcaaGreatDoor
namespace Go.Proofs.YtnjbhgpbgmpkcaaGreatDoor
open Go Go.Aw
set_option maxRecDepth 100000
set_option maxHeartbeats 4000000
variable (G:ay)
def IS(n p:Nat)(vs:List (List UInt8))(next left:Int)(v:AV)(q:Nat)(vs':List (List UInt8))(next' left':Int):Prop:=
 ∃out:List Sm,v= .p (smL out)∧aq out≤n∧1≤out.length∧out.length≤2∧(vs'=vs∨∃s:List UInt8,s.length≤8∧vs'=vs++[s])∧Mv n p q next next' left left'
theorem GF{b:List Int}(hb:Byt b)(hl:b.length≤2000)(fns:List Fd)(hf:sY fns){d:Nat}(hd:d≤10)(hblk:1≤d→AH G b fns d){p:Nat}{vs:List (List UInt8)}{next left:Int}(hB:Bd (2*Pd d+3000) p vs next left):
 AC Tryz.prog G fP [.ptr 1 5 0 0,.p (.int .i64 ((d:Int)+1))] (HG b p fns vs next left) (PG b fns (IS (2*Pd d+3000) p vs next left) []):=by
 have hp:=hB.p
 have hv:=hB.v
 have hn0:=hB.n0
 have hn1:=hB.n1
 have hl0:=hB.l0
 have hl1:=hB.l1
 refine jr G (AC.go pB ?_)
 have hwl:IntKind.i64.wrap (left-1)=left-1:=ag (by omega) (by omega)
 have hsl:aC vs= .lst 1 (vs.map fun w=>[.str w]):=rfl
 simp-implicitDefEqProofs[jc,HG,cm,hwl]
 refine(aX G b hb hl p (by omega) 13 _).mono ?_
 rintro r h ⟨k,rfl,rfl,hk⟩
 have cK:∀(m:Sm) (q:Nat) (rest:List AO) (v:AV) (vc:AV) (vs':List (List UInt8)) (next' left':Int),Fzs (.dead:: .dead:: .dead::rest) 3 [vc] [.p (aC vs')]→Fzs (.dead:: .dead:: .dead::rest) 3 [v] [.p (smL [m])]→m.sz≤2*Pd d+3000→(vs'=vs∨∃s:List UInt8,s.length≤8∧vs'=vs++[s])→Mv (2*Pd d+3000) p q next next' left left'→
  DG b fns (IS (2*Pd d+3000) p vs next left) (.ret v) (rdO b q:: .row 5 [[.ptr 0 2 0 0,slE 2 3 (aZ fns),vc,.p (.int .i64 next'),.p (.int .i64 left')]]::bO 3 (aZ fns)::rest):=fun m q rest v vc vs' next' left' h1 h2 h3 h4 h5=>
  ⟨_,rest,q,_,_,vs',next',left',rfl,rfl,h1,h2,[m],rfl,by simp[aq];omega,by simp,by simp,h4,h5⟩
 by_cases hc:k<3∧vs≠[]
 ·obtain⟨hc1,hne⟩:=hc
  have hpos:0<vs.length:=List.length_pos_iff.2 hne
  have hc1':(k:Int)<3:=by omega
  have hv1:=hB.v
  simp-implicitDefEqProofs[aa,hsl,hc1,hc1',hpos]
  rw[←hsl]
  refine(zN G hb hl (p:=p+1) (by omega) vs hne (by omega) _).mono ?_
  rintro r h ⟨w,hw,rfl,rfl⟩
  have hw8:=hB.w w hw
  simp-implicitDefEqProofs[aa]
  refine(cP G (jx G hb hl (p:=p+1+1) (by omega) fns hf vs hB.shrt next (left-1) (d:=3) (by omega)) _ (by simp[below])).mono ?_
  rintro r h ⟨v,q,vs',n',l',rfl,rfl,⟨e,rfl,he⟩,h1,h2,rfl,rfl,rfl⟩
  have hec:=e.cs_eq
  simp-implicitDefEqProofs[aa,cm,hec]
  exact cK ⟨2,w,[e],[],[]⟩ q _ _ _ vs' n' (left-1) (.keep (by simp) .nil) (.one (bs (p0:=(Sm.mk 2 w [e] [] []).cs) rfl (Sm.cs_len _) (bR (dC (l:=[e]) (by rw[List.map_singleton,hec];rfl)) (View.nils 5) (View.nils 5))) .nil) (by simp[Sm.sz,aU,aq];omega) (.inl rfl) ⟨by omega,by omega,by omega,by omega,by omega,by omega⟩
 have hcc:(k<3∧0<vs.length)=False:=by
  simp only[eq_iff_iff,iff_false]
  exact fun⟨a,c⟩=>hc ⟨a,List.length_pos_iff.1 c⟩
 have hvz:(k:Int)<3→vs.length=0:=fun h=>by
  by_cases e:vs=[]
  ·rw[e];rfl
  ·exact absurd ⟨by omega,e⟩ hc
 have hvx:=hB.shrt
 have hvv:=hB.v
 by_cases k5:(k:Int)<5
 ·by_cases k3:(k:Int)<3
  ·have hv0:=hvz k3
   simp-implicitDefEqProofs[aa,hsl,k3,hv0,k5]
   rw[←hsl]
   refine(cP G (jx G hb hl (p:=p+1) (by omega) fns hf vs hvx next (left-1) (d:=3) (by omega)) _ (by simp[below])).mono ?_
   rintro r h ⟨v,q,vs',n',l',rfl,rfl,⟨e,rfl,he⟩,h1,h2,rfl,rfl,rfl⟩
   have hec:=e.cs_eq
   have hL:=Gg G hb hl (p:=q) (by omega) fns vs' hvx hn0 (by omega) (left-1) e
   rw[hec] at hL
   simp-implicitDefEqProofs[aa,cm,hec]
   refine(cP G hL _ (by simp[below])).mono ?_
   rintro r h ⟨v,q2,vs2,n2,l2,rfl,rfl,s,hs,rfl,h3,h4,rfl,rfl,rfl⟩
   have hsm:(Sm.mk 1 s [e] [] []).cs=[.int .i64 1,.str s,exL [e],smL [],smL []]:=Sm.cs_eq _
   simp-implicitDefEqProofs[aa,cm,hsm]
   exact cK ⟨1,s,[e],[],[]⟩ q2 _ _ _ (vs'++[s]) (n'+1) (left-1) (.keep (by simp) .nil) (.one (bs (p0:=(Sm.mk 1 s [e] [] []).cs) rfl (Sm.cs_len _) (bR (.p _) (.p _) (.p _))) .nil) (by simp[Sm.sz,aU,aq];omega) (.inr ⟨s,hs,rfl⟩) ⟨by omega,by omega,by omega,by omega,by omega,by omega⟩
  ·simp-implicitDefEqProofs[aa,hsl,k3,k5]
   rw[←hsl]
   refine(cP G (jx G hb hl (p:=p+1) (by omega) fns hf vs hvx next (left-1) (d:=3) (by omega)) _ (by simp[below])).mono ?_
   rintro r h ⟨v,q,vs',n',l',rfl,rfl,⟨e,rfl,he⟩,h1,h2,rfl,rfl,rfl⟩
   have hec:=e.cs_eq
   have hL:=Gg G hb hl (p:=q) (by omega) fns vs' hvx hn0 (by omega) (left-1) e
   rw[hec] at hL
   simp-implicitDefEqProofs[aa,cm,hec]
   refine(cP G hL _ (by simp[below])).mono ?_
   rintro r h ⟨v,q2,vs2,n2,l2,rfl,rfl,s,hs,rfl,h3,h4,rfl,rfl,rfl⟩
   have hsm:(Sm.mk 1 s [e] [] []).cs=[.int .i64 1,.str s,exL [e],smL [],smL []]:=Sm.cs_eq _
   simp-implicitDefEqProofs[aa,cm,hsm]
   exact cK ⟨1,s,[e],[],[]⟩ q2 _ _ _ (vs'++[s]) (n'+1) (left-1) (.keep (by simp) .nil) (.one (bs (p0:=(Sm.mk 1 s [e] [] []).cs) rfl (Sm.cs_len _) (bR (.p _) (.p _) (.p _))) .nil) (by simp[Sm.sz,aU,aq];omega) (.inr ⟨s,hs,rfl⟩) ⟨by omega,by omega,by omega,by omega,by omega,by omega⟩
 have k3:¬(k:Int)<3:=by omega
 by_cases k7:(k:Int)<7∨d=0
 ·by_cases k7':(k:Int)<7
  ·simp-implicitDefEqProofs[aa,k3,k5,k7']
   refine(cP G (jx G hb hl (p:=p+1) (by omega) fns hf vs hvx next (left-1) (d:=3) (by omega)) _ (by simp[below])).mono ?_
   rintro r h ⟨v,q,vs',n',l',rfl,rfl,⟨e,rfl,he⟩,h1,h2,rfl,rfl,rfl⟩
   have hec:=e.cs_eq
   simp-implicitDefEqProofs[aa,cm,hec]
   exact cK ⟨3,[],[e],[],[]⟩ q _ _ _ vs' n' (left-1) (.keep (by simp) .nil) (.one (bs (p0:=(Sm.mk 3 [] [e] [] []).cs) rfl (Sm.cs_len _) (bR (dC (l:=[e]) (by rw[List.map_singleton,hec];rfl)) (View.nils 5) (View.nils 5))) .nil) (by simp[Sm.sz,aU,aq];omega) (.inl rfl) ⟨by omega,by omega,by omega,by omega,by omega,by omega⟩
  ·have hdl:(d:Int)+1<2:=by omega
   simp-implicitDefEqProofs[aa,k3,k5,k7',hdl]
   refine(cP G (jx G hb hl (p:=p+1) (by omega) fns hf vs hvx next (left-1) (d:=3) (by omega)) _ (by simp[below])).mono ?_
   rintro r h ⟨v,q,vs',n',l',rfl,rfl,⟨e,rfl,he⟩,h1,h2,rfl,rfl,rfl⟩
   have hec:=e.cs_eq
   simp-implicitDefEqProofs[aa,cm,hec]
   exact cK ⟨3,[],[e],[],[]⟩ q _ _ _ vs' n' (left-1) (.keep (by simp) .nil) (.one (bs (p0:=(Sm.mk 3 [] [e] [] []).cs) rfl (Sm.cs_len _) (bR (dC (l:=[e]) (by rw[List.map_singleton,hec];rfl)) (View.nils 5) (View.nils 5))) .nil) (by simp[Sm.sz,aU,aq];omega) (.inl rfl) ⟨by omega,by omega,by omega,by omega,by omega,by omega⟩
 have k7':¬(k:Int)<7:=fun h=>k7 (.inl h)
 have hd1:1≤d:=by omega
 have hd2:¬((d:Int)+1)<2:=by omega
 have hblk2:AH G b fns d:= @hblk hd1
 by_cases e7:(k:Int)=7
 ·simp-implicitDefEqProofs[aa,k3,k5,k7',hd2,e7]
  refine(cP G (CG G hb hl (p:=p+1) (by omega) fns hf vs hvx next (left-1)) _ (by simp[below])).mono ?_
  rintro r h ⟨v,q,vs',n',l',rfl,rfl,⟨e,rfl,he⟩,h1,h2,rfl,rfl,rfl⟩
  have hec:=e.cs_eq
  simp-implicitDefEqProofs[aa,cm,hec]
  refine(cP G (jx G hb hl (p:=q) (by omega) fns hf vs' hvx n' (left-1) (d:=2) (by omega)) _ (by simp[below])).mono ?_
  rintro r h ⟨v,q2,vs2,n2,l2,rfl,rfl,⟨e2,rfl,he2⟩,h3,h4,rfl,rfl,rfl⟩
  have hec2:=e2.cs_eq
  simp-implicitDefEqProofs[aa,cm,hec2]
  exact cK ⟨4,[],[e,e2],[],[]⟩ q2 _ _ _ vs2 n2 (left-1) (.keep (by simp) .nil) (.one (bs (p0:=(Sm.mk 4 [] [e,e2] [] []).cs) rfl (Sm.cs_len _) (bR (dC (l:=[e,e2]) (by rw[List.map_cons,List.map_singleton,hec,hec2];rfl)) (View.nils 5) (View.nils 5))) .nil) (by simp[Sm.sz,aU,aq];omega) (.inl rfl) ⟨by omega,by omega,by omega,by omega,by omega,by omega⟩
 by_cases e8:(k:Int)=8
 ·simp-implicitDefEqProofs[aa,k3,k5,k7',hd2,e7,e8]
  refine(cP G (CG G hb hl (p:=p+1) (by omega) fns hf vs hvx next (left-1)) _ (by simp[below])).mono ?_
  rintro r h ⟨v,q,vs',n',l',rfl,rfl,⟨e,rfl,he⟩,h1,h2,rfl,rfl,rfl⟩
  have hec:=e.cs_eq
  simp-implicitDefEqProofs[aa,cm,hec]
  exact cK ⟨3,[],[⟨12,0,[],[e]⟩],[],[]⟩ q _ _ _ vs' n' (left-1) (.keep (by simp) .nil) (.one (bs (p0:=(Sm.mk 3 [] [⟨12,0,[],[e]⟩] [] []).cs) rfl (Sm.cs_len _) (bR (bs (p0:=(Ex.mk 12 0 [] [e]).cs) rfl (Ex.cs_len _) (fH (dC (l:=[e]) (by rw[List.map_singleton,hec];rfl)))) (View.nils 5) (View.nils 5))) .nil) (by simp[Sm.sz,Ex.sz,aU,aq];omega) (.inl rfl) ⟨by omega,by omega,by omega,by omega,by omega,by omega⟩
 have hwd:IntKind.i64.wrap ((d:Int)+1-1)=d:=by rw[ag (by omega) (by omega)];omega
 have hwd2:IntKind.i64.wrap (d:Int)=d:=ag (by omega) (by omega)
 by_cases k11:(k:Int)<11
 ·simp-implicitDefEqProofs[aa,k3,k5,k7',hd2,e7,e8,k11]
  refine(cP G (jx G hb hl (p:=p+1) (by omega) fns hf vs hvx next (left-1) (d:=3) (by omega)) _ (by simp[below])).mono ?_
  rintro r h ⟨v,q,vs',n',l',rfl,rfl,⟨e,rfl,he⟩,h1,h2,rfl,rfl,rfl⟩
  have hec:=e.cs_eq
  simp-implicitDefEqProofs[aa,cm,hec,hwd2]
  have hB2:Bd (Pd d) q vs' n' (left-1):=⟨by omega,by omega,hB.w,by omega,by omega,by omega,by omega⟩
  refine(ox G (hblk2 hB2) _).mono ?_
  rintro r h ⟨out,q2,n2,l2,rfl,rfl,z1,z2,m1,m2,m3,m4,m5,m6⟩
  simp-implicitDefEqProofs[aa,cm]
  refine(aX G b hb hl q2 (by omega) 2 _).mono ?_
  rintro r h ⟨k2,rfl,rfl,_⟩
  simp-implicitDefEqProofs[aa]
  refine aS (fun hq=>?_) (fun hq=>?_)
  ·simp-implicitDefEqProofs[hwd2]
   have hB3:Bd (Pd d) (q2+1) vs' n2 l2:=⟨by omega,by omega,hB.w,by omega,by omega,by omega,by omega⟩
   refine(ox G (hblk2 hB3) _).mono ?_
   rintro r h ⟨out2,q3,n3,l3,rfl,rfl,y1,y2,w1,w2,w3,w4,w5,w6⟩
   simp-implicitDefEqProofs[aa,cm]
   exact cK ⟨5,[],[e],out,out2⟩ q3 _ _ _ vs' n3 l3 (.keep (by simp) .nil) (.one (bs (p0:=(Sm.mk 5 [] [e] out out2).cs) rfl (Sm.cs_len _) (bR (dC (l:=[e]) (by rw[List.map_singleton,hec];rfl)) (iQ rfl) (iQ rfl))) .nil) (by simp[Sm.sz,aU];omega) (.inl rfl) ⟨by omega,by omega,by omega,by omega,by omega,by omega⟩
  ·simp-implicitDefEqProofs[]
   exact cK ⟨5,[],[e],out,[]⟩ (q2+1) _ _ _ vs' n2 l2 (.keep (by simp) .nil) (.one (bs (p0:=(Sm.mk 5 [] [e] out []).cs) rfl (Sm.cs_len _) (bR (dC (l:=[e]) (by rw[List.map_singleton,hec];rfl)) (iQ rfl) (View.nils 5))) .nil) (by simp[Sm.sz,aU,aq];omega) (.inl rfl) ⟨by omega,by omega,by omega,by omega,by omega,by omega⟩
 by_cases e11:(k:Int)=11
 ·simp-implicitDefEqProofs[aa,k3,k5,k7',hd2,e7,e8,k11,e11]
  refine(aX G b hb hl (p+1) (by omega) 3 _).mono ?_
  rintro r h ⟨k2,rfl,rfl,_⟩
  simp-implicitDefEqProofs[aa]
  refine aS (fun hq=>?_) (fun hq=>?_)
  ·simp-implicitDefEqProofs[]
   refine(cP G (jx G hb hl (p:=p+1+1) (by omega) fns hf vs hvx next (left-1) (d:=2) (by omega)) _ (by simp[below])).mono ?_
   rintro r h ⟨v,q,vs',n',l',rfl,rfl,⟨e,rfl,he⟩,h1,h2,rfl,rfl,rfl⟩
   have hec:=e.cs_eq
   simp-implicitDefEqProofs[aa,cm,hec]
   exact cK ⟨7,[],[e],[],[]⟩ q _ _ _ vs' n' (left-1) (.keep (by simp) .nil) (.one (bs (p0:=(Sm.mk 7 [] [e] [] []).cs) rfl (Sm.cs_len _) (bR (dC (l:=[e]) (by rw[List.map_singleton,hec];rfl)) (View.nils 5) (View.nils 5))) .nil) (by simp[Sm.sz,aU,aq];omega) (.inl rfl) ⟨by omega,by omega,by omega,by omega,by omega,by omega⟩
  ·simp-implicitDefEqProofs[]
   have hBL:Bd (Pd d+60) (p+1+1) vs next (left-1):=⟨by omega,by omega,hB.w,hn0,by omega,by omega,by omega⟩
   refine(cP G (DU G hb hl fns hd hblk2 hBL) _ (by simp[below])).mono ?_
   rintro r h ⟨v,q,vs2,n2,l2,rfl,rfl,out,s,rfl,z1,z2,z3,hs,rfl,m1,m2,m3,m4,m5,m6⟩
   simp-implicitDefEqProofs[aa,cm]
   exact⟨_,_,q,_,_,vs++[s],n2,l2,rfl,rfl,.keep (by simp) .nil,.keep (by simp) .nil,out,rfl,by omega,z2,z3,.inr ⟨s,hs,rfl⟩,by omega,by omega,by omega,by omega,by omega,by omega⟩
 ·simp-implicitDefEqProofs[aa,k3,k5,k7',hd2,e7,e8,k11,e11]
  have hBL:Bd (Pd d+60) (p+1) vs next (left-1):=⟨by omega,by omega,hB.w,hn0,by omega,by omega,by omega⟩
  refine(cP G (DU G hb hl fns hd hblk2 hBL) _ (by simp[below])).mono ?_
  rintro r h ⟨v,q,vs2,n2,l2,rfl,rfl,out,s,rfl,z1,z2,z3,hs,rfl,m1,m2,m3,m4,m5,m6⟩
  simp-implicitDefEqProofs[aa,cm]
  exact⟨_,_,q,_,_,vs++[s],n2,l2,rfl,rfl,.keep (by simp) .nil,.keep (by simp) .nil,out,rfl,by omega,z2,z3,.inr ⟨s,hs,rfl⟩,by omega,by omega,by omega,by omega,by omega,by omega⟩
end Go.Proofs.YtnjbhgpbgmpkcaaGreatDoor
namespace Go.Proofs.YtnjbhgpbgmpkcaaGreatDoor
open Go Go.Aw
set_option maxRecDepth 100000
set_option maxHeartbeats 4000000
variable (G:ay)
structure BkS where (j m:Nat) (out:List Sm) (q:Nat) (vs:List (List UInt8)) (next left:Int)
theorem IM(d:Nat):5000≤Pd d:=by
 have:1≤20^d:=Nat.one_le_pow _ _ (by omega)
 simp only[Pd];omega
theorem Ft(d:Nat):Pd (d+1)=20*Pd d:=by simp only[Pd,Nat.pow_succ];omega
theorem ve{b:List Int}(hb:Byt b)(hl:b.length≤2000)(fns:List Fd)(hf:sY fns){d:Nat}(hd:d≤10)(hblk:1≤d→AH G b fns d):AH G b fns (d+1):=by
 intro p vs next left hB
 have hp:=hB.p
 have hv:=hB.v
 have hn0:=hB.n0
 have hn1:=hB.n1
 have hl0:=hB.l0
 have hl1:=hB.l1
 have hP:=IM d
 have hPs:=Ft d
 generalize hN:Pd d=N at*
 rw[hPs] at hp hv hn1 hl0⊢
 have hGok:∀(vs:List (List UInt8)) (nx lf:Int),okO 4 (.row 5 [cm fns vs nx lf]):=fun vs nx lf e he=>by
  rw[List.mem_singleton.1 he];exact⟨by simp[below],mt (by omega),by simp,by simp,by simp,trivial⟩
 refine AC.go nQ ?_
 simp-implicitDefEqProofs[iN,HG,cm]
 refine(jo G hb hl (p:=p) (by omega) [2,3,1,4] (k:=4) (by simp) (by simp) (by omega) rfl rfl).mono ?_
 rintro r h ⟨I,hI,rfl,rfl⟩
 obtain⟨J,rfl,hJ⟩:∃J:Nat,I=J∧J≤4:=⟨I.toNat,by simp at hI;omega,by simp at hI;omega⟩
 simp-implicitDefEqProofs[aa]
 refine aJ (fun s:BkS=>aj 40 [(0,.ptr 1 5 0 0),(1,.p (.int .i64 ((d:Int)+1))),(5,.p (aC vs)),(6,.sl 3 5 0 s.out.length),(7,.p (.int .i64 s.j))])
  (fun s=>[rdO b s.q,.row 5 [cm fns s.vs s.next s.left],bO 3 (aZ fns),.row 5 (smR s.out)])
  (fun s=>s.j+s.m≤4∧aq s.out≤s.m*(2*N+3000)∧s.out.length≤2*s.m∧p≤s.q∧s.q≤p+1+s.m*(2*N+3000)∧s.vs.length≤vs.length+s.m∧(∀w∈s.vs,w.length≤8)∧next≤s.next∧s.next≤next+((s.m*(2*N+3000):Nat):Int)∧left-((s.m*(2*N+3000):Nat):Int)≤s.left∧s.left≤left)
  (fun s=>s.j) ⟨J,0,[],p+1,vs,next,left⟩ ⟨by simp only;omega,by simp[aq],by simp,by simp,by simp,by simp,hB.w,by simp,by simp,by simp,by simp⟩ ?_ ?_
 ·refine fX (m:=4) (by omega) (dd (h1:=[rdO b (p+1),.row 5 [cm fns vs next left],bO 3 (aZ fns),.row 5 (smR [])]) rfl rfl (ae (bj _ _ _) (ae (hGok _ _ _) (ae (iZ _ _) (ae (bu (dD [])) bv))))) (by simp[below])
 rintro⟨j,m,out,q,vs',nx,lf⟩ ⟨i1,i2,i3,i4,i5,i6,i7,i8,i9,i10,i11⟩
 simp only at i1 i2 i3 i4 i5 i6 i7 i8 i9 i10 i11
 simp-implicitDefEqProofs[cm]
 have hm4:m*(2*N+3000)≤4*(2*N+3000):=Nat.mul_le_mul_right _ (by omega)
 by_cases hc:0<j∧0<lf
 ·obtain⟨c1,c2⟩:=hc
  have hm3:m*(2*N+3000)≤3*(2*N+3000):=Nat.mul_le_mul_right _ (by omega)
  have hms:(m+1)*(2*N+3000)=m*(2*N+3000)+(2*N+3000):=by rw[Nat.add_mul,Nat.one_mul]
  have hmsI:((m+1:Nat):Int)*(2*(N:Int)+3000)=((m*(2*N+3000)+(2*N+3000):Nat):Int):=by rw[←hms];simp
  generalize m*(2*N+3000)=M at*
  have hB2:Bd (2*Pd d+3000) q vs' nx lf:=by
   rw[hN];exact⟨by omega,by omega,i7,by omega,by omega,by omega,by omega⟩
  have hS:=GF G hb hl fns hf hd hblk hB2
  rw[hN] at hS
  simp-implicitDefEqProofs[c1,c2]
  refine(cP G hS _ (by simp[below])).mono ?_
  rintro r h ⟨v,q2,vs2,n2,l2,rfl,rfl,out2,rfl,z1,z2,z3,hvs,m1,m2,m3,m4,m5,m6⟩
  have hsl:smL out2= .lst 5 (out2.map Sm.cs):=rfl
  simp-implicitDefEqProofs[aa,cm,hsl]
  have hol:(smR out).length=out.length:=fa out
  have hwj:IntKind.i64.wrap ((j:Int)-1)=((j-1:Nat):Int):=by rw[ag (by omega) (by omega)];omega
  have hrow:List.take out.length (smR out)++List.map ((fun x=>List.map AV.p x)∘Sm.cs) out2=smR (out++out2):=by
   rw[List.take_of_length_le (by omega),vG];rfl
  refine⟨⟨by omega,by omega,by omega⟩,⟨j-1,m+1,out++out2,q2,vs2,n2,l2⟩,⟨by simp only;omega,by simp only;rw[bn,hms];omega,by simp only;rw[List.length_append];omega,by simp only;omega,by simp only;rw[hms];omega,?_,?_,by simp only;omega,by simp only;rw[hmsI];omega,by simp only;rw[hmsI];omega,by simp only;omega⟩,by simp only;omega,?_⟩
  ·simp only
   rcases hvs with rfl|⟨s,_,rfl⟩
   ·omega
   ·rw[List.length_append,List.length_singleton];omega
  ·simp only
   rcases hvs with rfl|⟨s,hs,rfl⟩
   ·exact i7
   ·intro w hw
    rcases List.mem_append.1 hw with h|h
    ·exact i7 w h
    ·rw[List.mem_singleton.1 h];exact hs
  ·rw[hrow]
   refine db [0,1,2,4] (by simp) (by decide) (by decide) (bx rfl (bj _ _ _) (cR ?_ ?_ (bx rfl (iZ _ _) (aW rfl (dD _) bm)))) (by simp[below,ren,hwj])
   ·intro x hx
    rw[List.mem_singleton.1 hx];exact⟨by simp[below],mt (by simp),by simp,by simp,by simp,trivial⟩
   ·simp[cm,ren,bf]
 ·have hce:(decide (0<j)&&decide (0<lf))=false:=by
   by_cases h1:0<j
   ·have h2:¬0<lf:=fun h=>hc ⟨h1,h⟩
    simp[h2]
   ·simp[h1]
  have fin:FH b fns vs p (20*N) next left [] (.ret (.sl 3 5 0 out.length)) [rdO b q,.row 5 [[.ptr 0 2 0 0,slE 2 3 (aZ fns),.p (aC vs),.p (.int .i64 nx),.p (.int .i64 lf)]],bO 3 (aZ fns),.row 5 (smR out)]:=
   ⟨out,q,nx,lf,rfl,rfl,by omega,by omega,by omega,by omega,by omega,by omega,by omega,by omega⟩
  by_cases h1:0<j
  ·have h2:¬0<lf:=fun h=>hc ⟨h1,h⟩
   simp-implicitDefEqProofs[h1,h2]
   exact fin
  ·simp-implicitDefEqProofs[h1]
   exact fin
end Go.Proofs.YtnjbhgpbgmpkcaaGreatDoor
namespace Go.Proofs.YtnjbhgpbgmpkcaaGreatDoor
open Go Go.Aw
set_option maxRecDepth 100000
set_option maxHeartbeats 4000000
def K_spec_l3Gen_fn:AK:= .seq (.reg [oJ 6 (.alloc [(.p (.str [])),.nils,.nils])]) (.seq (.reg [oM 8 0,oJ 9 (.bsl 1 [(.p (.str []))] 3 [(0,1,(.c (.p (.str [97])))),(1,1,(.c (.p (.str [98])))),(2,1,(.c (.p (.str [99]))))]),oM 10 2,oJ 11 (.slS 1 (.t 9) none (some (.t 10))),oN 12 8,oF 13 2 12,oS 13 11]) (.seq (.reg [oM 14 0,oM 15 2,oJ 16 (.bin .sub (.t 15) (.c (.p (.int .i64 1)))),oN 17 14,oF 18 3 17,oS 18 16]) (.cut (.reg [oM 19 1,oJ 20 (.bsl 1 [(.p (.str []))] 0 []),oM 21 0,oN 22 21,oF 23 2 22,oL 24 23,oJ 25 (.app 1 16 (.t 20) (.t 24)),oJ 26 (.bld [(.p (.str [])),.nils,.nils] [(0,1,(.t 19)),(1,1,(.t 25))]),oJ 7 (.alloc [(.p (.str [])),.nils,.nils]),⟨none,none,.st 3 (.t 7) (.t 26)⟩]) (.seq (.reg [oM 27 0,oJ 28 (.call aM [(.t 27),(.c (.p (.int .i64 3)))]),oF 29 2 7,oS 29 28]) (.seq (.seq (.reg [oM 30 0,oN 31 30,oF 32 4 31,oL 33 32,oJ 34 (.bin .gtr (.t 33) (.c (.p (.int .i64 0)))),oM 35 34,⟨(some 36),some (35,true),.mov (.t 0)⟩,⟨(some 37),some (35,true),.nilck (.t 36)⟩,⟨(some 38),some (35,true),.fldA 0 (.t 37)⟩,⟨(some 39),some (35,true),.ld none (.t 38)⟩,⟨(some 40),some (35,true),.call af [(.t 39),(.c (.p (.int .i64 4)))]⟩,⟨(some 41),some (35,true),.bin .gtr (.t 40) (.c (.p (.int .i64 0)))⟩,oJ 42 (.pick (.t 35) (.t 41) (.c (.p (.bool false))))]) (.cond (.t 42) (.seq (.reg [oM 43 0,oM 44 0,oN 45 44,oF 46 4 45,oL 47 46,oJ 48 (.bin .sub (.t 47) (.c (.p (.int .i64 1)))),oN 49 43,oF 50 4 49,oS 50 48]) (.reg [oF 51 2 7,oM 53 0,oL 52 51,oJ 54 (.call aO [(.t 53),(.c (.p (.int .i64 2)))]),⟨none,none,.chk none 51 52⟩,oJ 55 (.bslP 4 [(.p (.int .i64 0)),(.p (.int .i64 0)),(.p (.str [])),.nils] 1 [(0,4,(.t 54))]),oJ 56 (.bld [(.p (.int .i64 0)),(.p (.str [])),.nils,.nils,.nils] [(0,1,(.c (.p (.int .i64 7)))),(2,1,(.t 55))]),oJ 57 (.bslP 5 [(.p (.int .i64 0)),(.p (.str [])),.nils,.nils,.nils] 1 [(0,5,(.t 56))]),oJ 58 (.app 5 96 (.t 52) (.t 57)),oF 59 2 7,oS 59 58])) (.skip))) (.seq (.reg [oJ 60 (.ld (some 3) (.t 7)),⟨none,none,.st 3 (.t 6) (.t 60)⟩]) (.ret)))))))
theorem qL:K_spec_l3Gen_fn.whole=F_spec_l3Gen_fn.ak:=rfl
theorem vb{h:List AO}{id:Nat}{out:List Sm}{m:Sm}{c:List AV}(e:h[id]?=some (.row 5 (smR out++[c])))(hc:∀(j:Nat) (q:PV) (a:AV),m.cs[j]?=some q→c[j]?=some a→View h a q):View h (.sl id 5 0 (out.length+1)) (smL (out++[m])):=by
 have hl:((out++[m]).map Sm.cs).length=out.length+1:=by simp
 have:=View.sl (h:=h) id 5 0 _ ((out++[m]).map Sm.cs) e (by rw[hl];simp[fa]) (fun x hx=>by obtain⟨b,_,rfl⟩:=List.mem_map.1 hx;exact b.cs_len) (fun i j e q e' a a1 a2 a3 a4=>?_)
 ·rwa[hl] at this
 rw[Nat.zero_add] at a3
 rw[List.map_append] at a1
 rcases Nat.lt_or_ge i out.length with hi|hi
 ·rw[List.getElem?_append_left (by simpa using hi),List.getElem?_map,List.getElem?_eq_getElem hi] at a1
  rw[List.getElem?_append_left (by simpa[fa] using hi),smR,List.getElem?_map,List.getElem?_eq_getElem hi] at a3
  cases a1;cases a3
  rw[List.getElem?_map,a2] at a4
  cases a4
  exact .p _
 ·rw[List.getElem?_append_right (by simpa using hi)] at a1
  rw[List.getElem?_append_right (by simpa[fa] using hi),fa] at a3
  rw[List.length_map] at a1
  cases hd:i-out.length with
  |zero=>
   rw[hd] at a1 a3
   cases a1;cases a3
   exact hc j q a a2 a4
  |succ n=>rw[hd] at a3;simp at a3
variable (G:ay)
theorem Cf{b:List Int}(hb:Byt b)(hl:b.length≤2000)(fns:List Fd)(hf:sY fns):AH G b fns 3:=
 ve G hb hl fns hf (d:=2) (by omega) fun _=>ve G hb hl fns hf (d:=1) (by omega) fun _=>ve G hb hl fns hf (d:=0) (by omega) fun h=>absurd h (by omega)
def abcW:List (List UInt8):=[[97],[98],[99]]
def fnQ(p:Nat)(name:List UInt8)(np:Nat)(left:Int)(v:AV)(q:Nat)(vs':List (List UInt8))(next' left':Int):Prop:=
 ∃f:Fd,v= .agg (f.cs.map .p)∧f.name=name∧f.params=abcW.take np∧aq f.body≤40000500∧p≤q∧q≤p+40000500∧left-40000500≤left'∧left'≤left
theorem Jx{b:List Int}(hb:Byt b)(hl:b.length≤2000){p:Nat}(hp:p≤90000000000)(fns:List Fd)(hf:sY fns)(vs:List (List UInt8))(next left:Int)(hl0: -1000000000≤left)(hl1:left≤1000000000)(name:List UInt8)(np:Nat)(hnp:np≤3):
 AC Tryz.prog G fc [.ptr 1 5 0 0,.p (.str name),.p (.int .i64 np)] (HG b p fns vs next left) (PG b fns (fnQ p name np left) []):=by
 refine jr G (AC.goK qH qL ?_)
 have hwn:IntKind.i64.wrap ((np:Int)-1)=(np:Int)-1:=ag (by omega) (by omega)
 have h3:(np:Int)≤3:=by omega
 simp-implicitDefEqProofs[K_spec_l3Gen_fn,F_spec_l3Gen_fn,HG,cm,hwn,h3,hnp]
 refine kD (aj 61 [(0,.ptr 1 5 0 0),(6,.ptr 3 3 0 0),(7,.ptr 4 3 0 0)]) [rdO b p,.row 5 [cm fns (abcW.take np) ((np:Int)-1) left],bO 3 (aZ fns),.row 3 [[.p (.str []),.nils,.nils]],.row 3 [[.p (.str name),.p (aC (abcW.take np)),.nils]]] ?_ ?_
 ·have hlen:(abcW.take np).length=np:=by simp[abcW];omega
  simp-implicitDefEqProofs[hnp,hlen]
  refine⟨⟨by omega,by omega⟩,?_⟩
  have hcutR:bH (abcW.take np)= .row 1 (List.take np [[AV.p (PV.str [97])],[AV.p (PV.str [98])],[AV.p (PV.str [99])]]):=by
   simp only[bH,List.map_take];rfl
  rw[←hcutR]
  refine Wk.trans (me (h1:=[rdO b p,.row 5 [[.ptr 0 2 0 0,slE 2 3 (aZ fns),.sl 4 1 0 np,.p (.int .i64 ((np:Int)-1)),.p (.int .i64 left)]],bO 3 (aZ fns),.row 3 [[.p (.str []),.nils,.nils]],bH (abcW.take np),.dead,bH (abcW.take np),.row 3 [[.p (.str name),.sl 6 1 0 np,.nils]]])
   ⟨.inl rfl,.inl rfl,.inl rfl,.inl rfl,.inr ⟨1,_,np,rfl,hcutR⟩,.inl rfl,.inl rfl,.inl rfl,trivial⟩) ?_
  refine Wk.trans (db (l1:=[(0,.ptr 1 5 0 0),(6,.ptr 3 3 0 0),(7,.ptr 4 3 0 0)])
   (h1:=[rdO b p,.row 5 [[.ptr 0 2 0 0,slE 2 3 (aZ fns),.sl 5 1 0 np,.p (.int .i64 ((np:Int)-1)),.p (.int .i64 left)]],bO 3 (aZ fns),.row 3 [[.p (.str []),.nils,.nils]],.row 3 [[.p (.str name),.sl 6 1 0 np,.nils]],bH (abcW.take np),bH (abcW.take np)])
   [0,1,2,3,7,4,6] (by simp) (by decide) (by decide) (bx rfl (bj _ _ _) (cR (by simp[below]) (by simp[ren,bf]) (bx rfl (iZ _ _) (aW rfl (by simp[below]) (cR (by simp[below]) (by simp[ren,bf]) (bx rfl (bq _) (bx rfl (bq _) bm))))))) (by simp[below,ren]))
   (jk 5 (by omega) (by simp) rfl (.same (bj _ _ _) (.one (.keep (by simp[below]) (.keep (mt (by omega)) (.one ?_ (.keep (by simp) (.keep (by simp) .nil))))) (.same (iZ _ _) (.same (by simp[okO,below]) (.one (.keep (by simp) (.one ?_ (.keep (by simp[below]) .nil))) (.nil _)))))) ?_)
  ·have:=dI (l:=abcW.take np) (id:=5) (h:=lL 5 [rdO b p,.row 5 [[.ptr 0 2 0 0,slE 2 3 (aZ fns),.sl 5 1 0 np,.p (.int .i64 ((np:Int)-1)),.p (.int .i64 left)]],bO 3 (aZ fns),.row 3 [[.p (.str []),.nils,.nils]],.row 3 [[.p (.str name),.sl 6 1 0 np,.nils]],bH (abcW.take np),bH (abcW.take np)]) rfl
   rwa[hlen] at this
  ·have:=dI (l:=abcW.take np) (id:=6) (h:=lL 5 [rdO b p,.row 5 [[.ptr 0 2 0 0,slE 2 3 (aZ fns),.sl 5 1 0 np,.p (.int .i64 ((np:Int)-1)),.p (.int .i64 left)]],bO 3 (aZ fns),.row 3 [[.p (.str []),.nils,.nils]],.row 3 [[.p (.str name),.sl 6 1 0 np,.nils]],bH (abcW.take np),bH (abcW.take np)]) rfl
   rwa[hlen] at this
  ·exact⟨.keep (by simp[below]) .nil,.keep (by simp[below]) .nil,.keep (by simp[below]) .nil,trivial⟩
 have hlen:(abcW.take np).length≤3:=by simp[abcW];omega
 have hw8:∀s∈abcW.take np,s.length≤8:=by
  intro s hs
  have:=List.mem_of_mem_take hs
  simp only[abcW,List.mem_cons,List.not_mem_nil,or_false] at this
  rcases this with rfl|rfl|rfl<;>simp
 have hPd:Pd 3=40000000:=rfl
 have hB:Bd (Pd 3) p (abcW.take np) ((np:Int)-1) left:=by rw[hPd];exact⟨by omega,by omega,hw8,by omega,by omega,by omega,by omega⟩
 simp-implicitDefEqProofs[cm]
 refine(ox G (Cf G hb hl fns hf hB) _).mono ?_
 rintro r h ⟨out,q,n2,l2,rfl,rfl,z1,z2,m1,m2,m3,m4,m5,m6⟩
 rw[hPd] at z1 m2 m4 m5
 simp-implicitDefEqProofs[aa,cm]
 have fin:∀(out:List Sm) (q:Nat) (l2:Int) (rest:List AO) (v:AV) (vc:AV) (vs':List (List UInt8)) (n2:Int),Fzs (.dead:: .dead:: .dead::rest) 3 [vc] [.p (aC vs')]→Fzs (.dead:: .dead:: .dead::rest) 3 [v] [.agg ((Fd.mk name (abcW.take np) out).cs.map .p)]→aq out≤40000500→p≤q→q≤p+40000500→left-40000500≤l2→l2≤left→
  DG b fns (fnQ p name np left) (.ret v) (rdO b q:: .row 5 [[.ptr 0 2 0 0,slE 2 3 (aZ fns),vc,.p (.int .i64 n2),.p (.int .i64 l2)]]::bO 3 (aZ fns)::rest):=fun out q l2 rest v vc vs' n2 h1 h2 h3 h4 h5 h6 h7=>
  ⟨_,rest,q,_,_,vs',n2,l2,rfl,rfl,h1,h2,⟨name,abcW.take np,out⟩,rfl,rfl,rfl,h3,h4,h5,h6,h7⟩
 by_cases hl2:0<l2
 ·simp-implicitDefEqProofs[hl2]
  refine(aX G b hb hl q (by omega) 4 _).mono ?_
  rintro r h ⟨k,rfl,rfl,_⟩
  simp-implicitDefEqProofs[aa]
  refine aS (fun hc=>?_) (fun hc=>?_)
  ·have hwl:IntKind.i64.wrap (l2-1)=l2-1:=ag (by omega) (by omega)
   simp-implicitDefEqProofs[hwl]
   have hShrt:qf (abcW.take np):=⟨by omega,hw8⟩
   refine(cP G (jx G hb hl (p:=q+1) (by omega) fns hf (abcW.take np) hShrt n2 (l2-1) (d:=2) (by omega)) _ (by simp[below])).mono ?_
   rintro r h ⟨v,q2,vs2,n3,l3,rfl,rfl,⟨e,rfl,he⟩,h1,h2,hvs,rfl,rfl⟩
   subst hvs
   have hec:=e.cs_eq
   have hol:(smR out).length=out.length:=fa out
   simp-implicitDefEqProofs[aa,cm,hec,hol]
   refine⟨⟨by omega,by omega⟩,?_⟩
   have htk:List.take out.length (smR out)=smR out:=List.take_of_length_le (by omega)
   rw[htk]
   have hm:(Sm.mk 7 [] [e] [] []).cs=[.int .i64 7,.str [],.lst 4 [[.int .i64 e.op,.int .i64 e.n,.str e.name,exL e.kids]],.lst 5 [],.lst 5 []]:=by
    rw[Sm.cs_eq,←hec];rfl
   refine fin (out++[⟨7,[],[e],[],[]⟩]) q2 (l2-1) _ _ _ (abcW.take np) n3 (.keep (by simp) .nil) (.agg (.keep (by simp) (.keep (by simp) (.one (vb rfl ?_) .nil))) .nil) (by simp[bn,aq,Sm.sz,aU];omega) (by omega) (by omega) (by omega) (by omega)
   intro j q a a1 a2
   rw[hm] at a1
   match j,a1,a2 with
   |0,a1,a2=>cases a1;cases a2;exact .p _
   |1,a1,a2=>cases a1;cases a2;exact .p _
   |2,a1,a2=>cases a1;cases a2;exact .p _
   |3,a1,a2=>cases a1;cases a2;exact View.e 0 5
   |4,a1,a2=>cases a1;cases a2;exact View.e 0 5
   |j+5,a1,a2=>simp at a1
  ·simp-implicitDefEqProofs[]
   exact fin out (q+1) l2 _ _ _ (abcW.take np) n2 (.keep (by simp) .nil) (.agg (.keep (by simp) (.keep (by simp) (.one (iQ rfl) .nil))) .nil) (by omega) (by omega) (by omega) (by omega) (by omega)
 ·simp-implicitDefEqProofs[hl2]
  exact fin out q l2 _ _ _ (abcW.take np) n2 (.keep (by simp) .nil) (.agg (.keep (by simp) (.keep (by simp) (.one (iQ rfl) .nil))) .nil) (by omega) (by omega) (by omega) (by omega) (by omega)
end Go.Proofs.YtnjbhgpbgmpkcaaGreatDoor
namespace Go.Proofs.YtnjbhgpbgmpkcaaGreatDoor
open Go Go.Aw
set_option maxRecDepth 100000
set_option maxHeartbeats 4000000
theorem rD{h:List AO}{s:List UInt8}{ps:List (List UInt8)}{bd:List Sm}{P B:AV}(hP:View h P (aC ps))(hB:View h B (smL bd)):∀(j:Nat) (q:PV) (x:AV),(Fd.mk s ps bd).cs[j]?=some q→[AV.p (.str s),P,B][j]?=some x→View h x q:=by
 intro j q x e1 e2
 match j,e1,e2 with
 |0,e1,e2=>cases e1;cases e2;exact .p _
 |1,e1,e2=>cases e1;cases e2;exact hP
 |2,e1,e2=>cases e1;cases e2;exact hB
 |j+3,e1,e2=>simp[Fd.cs] at e1
theorem qi{h:List AO}{id:Nat}{l:List Fd}(e:h[id]?=some (.row 3 (aZ l))):View h (.sl id 3 0 l.length) (fdL l):=by
 have:=fO (h:=h) (id:=id) (sz:=3) (n:=l.length) (ls:=l.map Fd.cs) (by rw[e,aZ];simp) (by simp) (fun x hx=>by obtain⟨b,_,rfl⟩:=List.mem_map.1 hx;exact b.cs_len)
 exact this
theorem wM(a b:List Fd):aZ (a++b)=aZ a++aZ b:=by simp[aZ]
theorem ru(a:List Fd):(aZ a).length=a.length:=by simp[aZ]
theorem jM(a b:List Fd):aY (a++b)=aY a+aY b:=by simp[aY]
def Hm:List Fd:=[⟨[109],[],[⟨3,[],[⟨1,1,[],[]⟩],[],[]⟩]⟩]
theorem zZ:bt Hm=true:=by decide
theorem zg(k:Nat)(hk:k≤3):(abcW.take k).length+((abcW.take k).map List.length).sum≤6:=by
 have h:k=0∨k=1∨k=2∨k=3:=by omega
 rcases h with rfl|rfl|rfl|rfl<;>decide
variable (G:ay)
structure PgS where (j:Nat) (fns:List Fd) (q:Nat) (vs:List (List UInt8)) (next left:Int)
def Ln(b:List Int)(p n:Nat)(x:ARes)(h:List AO):Prop:=∃(l:List Fd) (q:Nat),x= .ret (.agg [.p (fdL l)])∧h=[rdO b q]∧bt l=true∧aY l≤200000000∧p≤q∧q≤p+n
def KJ(b:List Int)(p n:Nat)(x:ARes)(h:List AO):Prop:=∃(l:List Fd) (q:Nat) (v:AV) (rest:List AO),x= .ret (.agg [v])∧h=rdO b q::rest∧View (lL 1 h) v (fdL l)∧bt l=true∧aY l≤200000000∧p≤q∧q≤p+n
theorem Em{b:List Int}(hb:Byt b)(hl:b.length≤2000){p:Nat}(hp:p≤10000000000):AC Tryz.prog G cW [.ptr 0 2 0 0] [rdO b p] (Ln b p 200000000):=by
 refine AC.frz (R:=KJ b p 200000000) ?_ 1 (by simp) (fun t v h ⟨_,_,_,_,e,_⟩=>by cases e) ?_
 ·refine AC.go tE ?_
  simp-implicitDefEqProofs[mS]
  refine(jo G hb hl (p:=p) (by omega) [14,20,8,26] (k:=2) (by simp) (by simp) (by omega) rfl rfl).mono ?_
  rintro r h ⟨L0,hL0,rfl,rfl⟩
  have hL:0≤L0∧L0≤26:=by simp at hL0;omega
  simp-implicitDefEqProofs[aa]
  refine(jo G hb hl (p:=p+1) (by omega) [0,1,1,2] (k:=4) (by simp) (by simp) (by omega) rfl rfl).mono ?_
  rintro r h ⟨J0,hJ0,rfl,rfl⟩
  obtain⟨J,rfl,hJ⟩:∃J:Nat,J0=J∧J≤2:=⟨J0.toNat,by simp at hJ0;omega,by simp at hJ0;omega⟩
  simp-implicitDefEqProofs[aa]
  refine aJ (fun s:PgS=>aj 69 [(0,.ptr 0 2 0 0),(2,.ptr 3 1 0 0),(3,.ptr 1 5 0 0),(4,.p (.int .i64 s.j))])
   (fun s=>[rdO b s.q,.row 5 [cm s.fns s.vs s.next s.left],bO 3 (aZ s.fns),.row 1 [[.nils]]])
   (fun s=>s.j+s.fns.length≤2∧sY s.fns∧aY s.fns≤s.fns.length*40000600∧p≤s.q∧s.q≤p+2+s.fns.length*40000600∧L0-s.fns.length*40000600≤s.left∧s.left≤L0)
   (fun s=>s.j) ⟨J,[],p+1+1,[],0,L0⟩ ⟨by simp only[List.length_nil];omega,⟨by simp,by simp⟩,by simp[aY],by simp only;omega,by simp,by simp,by simp⟩ ?_ ?_
  ·refine Wk.trans (db (l1:=[(0,.ptr 0 2 0 0),(2,.ptr 3 1 0 0),(3,.ptr 1 5 0 0),(4,.p (.int .i64 J))])
    (h1:=[rdO b (p+1+1),.row 5 [[.ptr 0 2 0 0,.nils,.nils,.p (.int .i64 0),.p (.int .i64 L0)]],.dead,.row 1 [[.nils]]])
    [0,3,2,1] (by simp) (by decide) (by decide) (bx rfl (bj _ _ _) (cR (by simp[below]) (by simp[ren,bf]) (bJ (by simp) (aW rfl (by simp[below]) bm)))) (by simp[below,ren]))
    (jk 4 (by omega) (by simp) rfl (.same (bj _ _ _) (.one (.keep (by simp[below]) (.keep (by simp[below,aZ,slE]) (.one (View.nils 1) (.keep (by simp) (.keep (by simp) .nil))))) (.dead (.same (by simp[okO,below]) (.nil _))))) ?_)
   exact⟨.keep (by simp[below]) .nil,.keep (by simp[below]) .nil,.keep (by simp[below]) .nil,.keep (by simp[below]) .nil,trivial⟩
  rintro⟨j,fns,q,vs,nx,lf⟩ ⟨i1,i2,i3,i4,i5,i6,i7⟩
  simp only at i1 i2 i3 i4 i5 i6 i7
  simp-implicitDefEqProofs[cm]
  by_cases hj:0<j
  ·have hfl:fns.length<3:=by omega
   have hcl:(aZ fns).length=fns.length:=ru fns
   obtain⟨nm,hget,hnm⟩:∃nm:List UInt8,([[PV.str [102]],[PV.str [103]],[PV.str [104]]]:List (List PV))[fns.length]?=some [.str nm]∧nm.length≤8:=by
    have h3:fns.length=0∨fns.length=1∨fns.length=2:=by omega
    rcases h3 with h|h|h<;>rw[h]
    ·exact⟨[102],rfl,by simp⟩
    ·exact⟨[103],rfl,by simp⟩
    ·exact⟨[104],rfl,by simp⟩
   simp-implicitDefEqProofs[hj,hcl,hget]
   refine(aX G b hb hl q (by omega) 3 _).mono ?_
   rintro r h ⟨k,rfl,rfl,hk⟩
   have hk3:k≤3:=by omega
   simp-implicitDefEqProofs[aa,hcl,hget]
   refine(cP G (Jx G hb hl (p:=q+1) (by omega) fns i2 vs nx lf (by omega) (by omega) nm k hk3) _ (by simp[below])).mono ?_
   rintro r h ⟨v,q2,vs2,n2,l2,rfl,rfl,f,rfl,hf1,hf2,z1,z2,z3,z4,z5⟩
   have hcs:=f.cs_len
   have hcf:f.cs=[.str f.name,aC f.params,smL f.body]:=rfl
   simp-implicitDefEqProofs[aa,cm,hcf]
   have hfs:f.sz≤40000600:=by
    have h1:f.sz=1+f.name.length+(f.params.length+(f.params.map List.length).sum)+aq f.body:=rfl
    have h2:=zg k hk3
    rw[←hf2] at h2
    rw[hf1] at h1
    omega
   have hwj:IntKind.i64.wrap ((j:Int)-1)=((j-1:Nat):Int):=by rw[ag (by omega) (by omega)];omega
   have hfp:f.params.length≤3:=by rw[hf2];simp[abcW];omega
   have hrow:aZ fns++[[AV.p (.str f.name),.p (aC f.params),.p (smL f.body)]]=aZ (fns++[f]):=by rw[wM];rfl
   have hne:aZ (fns++[f])≠[]:=by simp[aZ]
   have hll:(aZ fns).length+1=(aZ (fns++[f])).length:=by simp[aZ]
   rw[hrow,hll]
   refine⟨⟨by rw[←hll,hcl];omega,by omega⟩,⟨j-1,fns++[f],q2,vs2,n2,l2⟩,⟨by simp;omega,⟨by simp;omega,?_⟩,by simp only[jM,List.length_append];simp[aY] at*;omega,by simp only;omega,by simp;omega,by simp;omega,by simp only;omega⟩,by simp only;omega,?_⟩
   ·intro x hx
    rcases List.mem_append.1 hx with h|h
    ·exact i2.2 x h
    ·rw[List.mem_singleton.1 h,hf1];exact⟨hnm,hfp⟩
   ·rw[dm hne,ep hne]
    refine db [0,1,5,3] (by simp) (by decide) (by decide) (bx rfl (bj _ _ _) (cR (by simp[below]) (by simp[ren,bf]) (aW rfl (qb _) (aW rfl (by simp[below]) bm)))) (by simp[below,ren,hwj])
  ·simp-implicitDefEqProofs[hj]
   refine(jo G hb hl (p:=q) (by omega) [0,1,2,1] (k:=4) (by simp) (by simp) (by omega) rfl rfl).mono ?_
   rintro r h ⟨N0,hN0,rfl,rfl⟩
   obtain⟨np,rfl,hnp⟩:∃J:Nat,N0=J∧J≤2:=⟨N0.toNat,by simp at hN0;omega,by simp at hN0;omega⟩
   simp-implicitDefEqProofs[aa]
   refine(cP G (Jx G hb hl (p:=q+1) (by omega) fns i2 vs nx lf (by omega) (by omega) [109] np (by omega)) _ (by simp[below])).mono ?_
   rintro r h ⟨v,q2,vs2,n2,l2,rfl,rfl,f,rfl,hf1,hf2,z1,z2,z3,z4,z5⟩
   have hcf:f.cs=[.str f.name,aC f.params,smL f.body]:=rfl
   have hcl:(aZ fns).length=fns.length:=ru fns
   have hfs:f.sz≤40000600:=by
    have h1:f.sz=1+f.name.length+(f.params.length+(f.params.map List.length).sum)+aq f.body:=rfl
    have h2:=zg np (by omega)
    rw[←hf2] at h2
    rw[hf1] at h1
    simp at h1
    omega
   by_cases hfe:fns=[]
   ·subst hfe
    have h0:aZ []=[]:=rfl
    rw[h0]
    simp-implicitDefEqProofs[aa,cm,hcf,h0,vU,sR]
    have hrow:[[AV.p (.str f.name),.p (aC f.params),.p (smL f.body)]]=aZ [f]:=rfl
    rw[hrow]
    have vw:∀h:List AO,h[8]?=some (.row 3 (aZ [f]))→View h (.sl 8 3 0 1) (fdL [f]):=fun h e=>qi (l:=[f]) e
    refine((iI G [f] (by simp only[aY,List.map_cons,List.map_nil,List.sum_cons,List.sum_nil] at*;omega)).lend (.agg (.one (vw _ rfl) .nil) .nil) rfl).mono ?_
    rintro r h ⟨rfl,rfl⟩
    simp-implicitDefEqProofs[aa]
    by_cases hok:bt [f]=true
    ·simp-implicitDefEqProofs[hok]
     exact⟨[f],q2,_,_,rfl,rfl,vw _ rfl,hok,by simp only[aY,List.map_cons,List.map_nil,List.sum_cons,List.sum_nil] at*;omega,by omega,by omega⟩
    ·have hok':bt [f]=false:=by simpa using hok
     simp-implicitDefEqProofs[hok']
     exact⟨Hm,q2,_,_,rfl,rfl,bs (p0:=(Fd.mk [109] [] [⟨3,[],[⟨1,1,[],[]⟩],[],[]⟩]).cs) rfl rfl (rD (View.nils 1) (bs (p0:=(Sm.mk 3 [] [⟨1,1,[],[]⟩] [] []).cs) rfl (Sm.cs_len _) (bR (bs (p0:=(Ex.mk 1 1 [] []).cs) rfl (Ex.cs_len _) (fH (View.nils 4))) (View.nils 5) (View.nils 5)))),zZ,by decide,by omega,by omega⟩
   ·have h0:aZ fns≠[]:=fun h=>hfe (List.map_eq_nil_iff.1 h)
    simp only[cm,ep h0,dm h0]
    simp-implicitDefEqProofs[aa,hcf,hcl]
    refine⟨⟨by omega,by omega⟩,⟨by omega,by omega⟩,?_⟩
    have hrow:List.take fns.length (List.take fns.length (aZ fns))++[[AV.p (.str f.name),.p (aC f.params),.p (smL f.body)]]=aZ (fns++[f]):=by
     rw[List.take_of_length_le (by rw[List.length_take];omega),List.take_of_length_le (by omega),wM];rfl
    rw[hrow]
    have vw:∀h:List AO,h[8]?=some (.row 3 (aZ (fns++[f])))→View h (.sl 8 3 0 (fns.length+1)) (fdL (fns++[f])):=fun h e=>by
     have:=qi e
     rwa[List.length_append,List.length_singleton] at this
    refine((iI G (fns++[f]) (by rw[jM];simp only[aY,List.map_cons,List.map_nil,List.sum_cons,List.sum_nil] at*;omega)).lend (.agg (.one (vw _ rfl) .nil) .nil) rfl).mono ?_
    rintro r h ⟨rfl,rfl⟩
    simp-implicitDefEqProofs[aa]
    by_cases hok:bt (fns++[f])=true
    ·simp-implicitDefEqProofs[hok]
     exact⟨fns++[f],q2,_,_,rfl,rfl,vw _ rfl,hok,by rw[jM];simp only[aY,List.map_cons,List.map_nil,List.sum_cons,List.sum_nil] at*;omega,by omega,by omega⟩
    ·have hok':bt (fns++[f])=false:=by simpa using hok
     simp-implicitDefEqProofs[hok']
     exact⟨Hm,q2,_,_,rfl,rfl,bs (p0:=(Fd.mk [109] [] [⟨3,[],[⟨1,1,[],[]⟩],[],[]⟩]).cs) rfl rfl (rD (View.nils 1) (bs (p0:=(Sm.mk 3 [] [⟨1,1,[],[]⟩] [] []).cs) rfl (Sm.cs_len _) (bR (bs (p0:=(Ex.mk 1 1 [] []).cs) rfl (Ex.cs_len _) (fH (View.nils 4))) (View.nils 5) (View.nils 5)))),zZ,by decide,by omega,by omega⟩
 ·rintro v h ⟨l,q,v0,rest,e,rfl,hv,h1,h2,h3,h4⟩
  cases e
  exact⟨_,[rdO b q],by simp,rfl,.agg (.one hv .nil) .nil,.same (bj _ _ _) (.nil _),l,q,rfl,rfl,h1,h2,h3,h4⟩
end Go.Proofs.YtnjbhgpbgmpkcaaGreatDoor
namespace Go.Proofs.YtnjbhgpbgmpkcaaGreatDoor
open Go Go.Aw
set_option maxRecDepth 100000
set_option maxHeartbeats 4000000
variable (G:ay)
theorem uI{hF:List AO}{n:Nat}{o k:Int}{w:List UInt8}{ks:List Ex}{K:AV}(hk:View hF K (exL ks)):Fzs hF n [.agg [.p (.int .i64 o),.p (.int .i64 k),.p (.str w),K]] [.agg ((Ex.mk o k w ks).cs.map .p)]:=by
 rw[Ex.cs_eq]
 exact .agg (.keep (by simp) (.keep (by simp) (.keep (by simp) (.one hk .nil)))) .nil
def EX(h:List AO)(kids:List Ex)(K:AV):Prop:=(K= .nils∧kids=[])∨∃id rows hX,K= .sl (id+1) 4 0 kids.length∧kids≠[]∧h[id+1]?=some (.row 4 rows)∧hX.length=h.length∧(∀(i:Nat) o,hX[i]?=some o→o.live→h[i]?=some o)∧¬Live hX 0∧¬Live hX (id+1)∧
 rows.length=kids.length∧∀(j:Nat) (e e1:List AV),rows[j]?=some e→(exR kids)[j]?=some e1→Fzs hX h.length e e1
def DT(b:List Int)(Q:Ex→Nat→Prop)(x:ARes)(h:List AO):Prop:=∃(e:Ex) (q:Nat) (rest:List AO) (K:AV),x= .ret (.agg [.p (.int .i64 e.op),.p (.int .i64 e.n),.p (.str e.name),K])∧h=rdO b q::rest∧EX h e.kids K∧Q e q
def EN(b:List Int)(Q:Ex→Nat→Prop)(x:ARes)(h:List AO):Prop:=∃(e:Ex) (q:Nat),x= .ret (.agg [.p (.int .i64 e.op),.p (.int .i64 e.n),.p (.str e.name),slE 1 4 (exR e.kids)])∧h=[rdO b q,bO 4 (exR e.kids)]∧Q e q
def EoQ(p n m:Nat)(e:Ex)(q:Nat):Prop:=e.sz≤n∧p≤q∧q≤p+m
theorem xb{hF:List AO}{n:Nat}:∀h:List AO,FzO hF n h (List.replicate h.length .dead)
 |[]=> .nil _
 |o::r=>by rw[List.length_cons,List.replicate_succ];exact .dead (xb r)
theorem xx{hF:List AO}{n sz:Nat}{es es1:List (List AV)}(hl:es.length=es1.length)(hv:∀(j:Nat) (e e1:List AV),es[j]?=some e→es1[j]?=some e1→Fzs hF n e e1):∀(h:List AO) (id:Nat),h[id]?=some (.row sz es)→FzO hF n h ((List.replicate h.length .dead).set id (.row sz es1))
 |[],id,e=>by simp at e
 |o::r,0,e=>by
  cases e
  rw[List.length_cons,List.replicate_succ,List.set_cons_zero]
  exact .rows hl hv (xb r)
 |o::r,id+1,e=>by
  rw[List.length_cons,List.replicate_succ,List.set_cons_succ]
  exact .dead (xx hl hv r id (by simpa using e))
theorem xG{f:FuncId}{args:List AV}{b:List Int}{p:Nat}{Q:Ex→Nat→Prop}(H:AC Tryz.prog G f args [rdO b p] (DT b Q)):AC Tryz.prog G f args [rdO b p] (EN b Q):=by
 refine H.wk (fun t v h ⟨_,_,_,_,e,_⟩=>by cases e) ?_
 rintro v h ⟨e,q,rest,K,ev,rfl,hk,hq⟩
 cases ev
 rcases hk with⟨rfl,hk⟩|⟨id,rows,hX,rfl,hne,he,x1,x2,x3,x4,x5,x6⟩
 ·refine⟨_,_,?_,e,q,rfl,rfl,hq⟩
  have h0:exR e.kids=[]:=by rw[hk];rfl
  rw[h0,vU,sR]
  exact Wk.ofL [0,0] (by simp) (by simp) (by simp[rdO,fx]) (by simp[below,ah,ren,bf]) (bx rfl (bj _ _ _) (bJ (by simp) bm))
 ·have hr:exR e.kids≠[]:=fun h=>hne (List.map_eq_nil_iff.1 h)
  have hrl:(exR e.kids).length=e.kids.length:=by simp[exR]
  rw[List.getElem?_cons_succ] at he
  have hid:id<rest.length:=(List.getElem?_eq_some_iff.1 he).1
  refine⟨.agg [.p (.int .i64 e.op),.p (.int .i64 e.n),.p (.str e.name),slE 1 4 (exR e.kids)],[rdO b q,bO 4 (exR e.kids)],?_,e,q,rfl,rfl,hq⟩
  rw[dm hr,ep hr,hrl]
  refine Wk.trans (ts1:=[.agg [.p (.int .i64 e.op),.p (.int .i64 e.n),.p (.str e.name),.sl (id+1) 4 0 e.kids.length]]) (h1:=rdO b q::(List.replicate rest.length .dead).set id (.row 4 (exR e.kids))) (zo (hX:=hX) (by simp) x1 x2 (fun i ⟨o,e1,l1⟩ ⟨o2,e2,l2⟩=>?_) (by simp) rfl (fun i u hi=>?_) (.same (bj _ _ _) (xx (by rw[hrl];exact x5) x6 rest id he))) ?_
  ·cases i with
   |zero=>exact x3 ⟨o,e1,l1⟩
   |succ i=>
    by_cases hi:i=id
    ·subst hi;exact x4 ⟨o,e1,l1⟩
    ·rw[List.getElem?_cons_succ,List.getElem?_set_ne (Ne.symm hi),List.getElem?_replicate] at e2
     split at e2
     ·cases e2;exact l2
     ·cases e2
  ·cases i with
   |zero=>cases hi;exact .inr ⟨_,rfl,fS (by simp[below,ah];exact hid)⟩
   |succ i=>simp at hi
  ·refine Wk.of [0,id+1] (by simp) (by simp) (by simp) (by simp[below,ah,ren,bf]) (bx rfl (bj _ _ _) (aW ?_ (dy _) bm))
   rw[List.getElem?_cons_succ,List.getElem?_set_self (by simpa using hid)]
theorem rd{f:FuncId}{args:List AV}{b:List Int}{p:Nat}{Q:Ex→Nat→Prop}(H:AC Tryz.prog G f args [rdO b p] (EN b Q))(rest:List AO)(ha:ah 1 args):
 AC Tryz.prog G f args (rdO b p::rest) fun x h=>∃(e:Ex) (q:Nat),x= .ret (.agg [.p (.int .i64 e.op),.p (.int .i64 e.n),.p (.str e.name),slE (rest.length+1) 4 (exR e.kids)])∧h=rdO b q::(rest++[bO 4 (exR e.kids)])∧Q e q:=by
 refine(H.frame (h:=rdO b p::rest) [0] (by simp) (wX (n:=1) ha) (bx rfl (bj _ _ _) bm)).mono ?_
 rintro x h ⟨x0,h0,⟨e,q,rfl,rfl,hq⟩,hl,rfl,rfl⟩
 have hp:∀σ,fh σ (bO 4 (exR e.kids))=bO 4 (exR e.kids):=fun σ=>by
  unfold bO
  split
  ·rfl
  ·simp only[fh]
   rw[List.map_congr_left (g:=id) fun x hx=>dg _ x (dy _ x hx)];simp
 have hp2:∀σ,fh σ (rdO b q)=rdO b q:=fun σ=>by simp[rdO,fh,bf,ren]
 refine⟨e,q,?_,?_,hq⟩
 ·simp[ri,ren,bf]
 ·have hl2:([rdO b q,bO 4 (exR e.kids)]:List AO).length-[rdO b p].length=1:=rfl
  rw[hl2]
  simp only[List.length_cons,List.length_nil,Nat.zero_add,List.take_succ_cons,List.take_zero,List.map_cons,List.map_nil,hp2,List.drop_succ_cons,List.drop_zero,mrg,List.set_cons_zero,List.cons_append,hp]
def LfQ(p:Nat)(v:AV)(q:Nat):Prop:=(∃(o n:Int) (s:List UInt8),v= .agg [.p (.int .i64 o),.p (.int .i64 n),.p (.str s),.nils]∧s.length≤8)∧p≤q∧q≤p+2
theorem AL{b:List Int}(hb:Byt b)(hl:b.length≤2000){p:Nat}(hp:p≤1000000000000)(names:List (List UInt8))(hn:qf names):AC Tryz.prog G cU [.ptr 0 2 0 0,.p (aC names)] [rdO b p] fun x h=>∃v q,x= .ret v∧h=[rdO b q]∧LfQ p v q:=by
 refine kE G (AC.go mQ ?_)
 have hsl:aC names= .lst 1 (names.map fun w=>[.str w]):=rfl
 have fin1:∀(o n:Int) (s:List UInt8) (q:Nat) (rest:List AO),p≤q→q≤p+2→s.length≤8→DP b (LfQ p) (.ret (.agg [.p (.int .i64 o),.p (.int .i64 n),.p (.str s),.nils])) (rdO b q::rest):=fun o n s q rest h1 h2 hs=>
  ⟨_,rest,q,_,rfl,rfl,fS (by simp),⟨o,n,s,rfl,hs⟩,h1,h2⟩
 have num:∀(q:Nat) (h:List AO),q≤1000000000001→h[0]?=some (rdO b q)→h[2]?=some (lb [0,1,2,3,5,7,15,16,100,255])→_:=fun q h hq h0 h1=>jo G hb hl (p:=q) (by omega) [0,1,2,3,5,7,15,16,100,255] (h:=h) (k:=2) (by simp) (by simp) (by omega) h0 h1
 by_cases hne:names=[]
 ·subst hne
  have hs0:aC []= .lst 1 []:=rfl
  simp-implicitDefEqProofs[eU,hs0]
  refine(num p _ (by omega) rfl rfl).mono ?_
  rintro r h ⟨n,_,rfl,rfl⟩
  simp-implicitDefEqProofs[aa]
  exact fin1 _ _ _ _ _ (by omega) (by omega) (by simp)
 ·have hlen:¬names.length=0:=fun h=>hne (List.eq_nil_of_length_eq_zero h)
  simp-implicitDefEqProofs[eU,hsl,hne]
  refine(aX G b hb hl p (by omega) 3 _).mono ?_
  rintro r h ⟨k,rfl,rfl,_⟩
  simp-implicitDefEqProofs[aa]
  refine aS (fun hc=>?_) (fun hc=>?_)
  ·simp-implicitDefEqProofs[]
   refine(num (p+1) _ (by omega) rfl rfl).mono ?_
   rintro r h ⟨n,_,rfl,rfl⟩
   simp-implicitDefEqProofs[aa]
   exact fin1 _ _ _ _ _ (by omega) (by omega) (by simp)
  ·simp-implicitDefEqProofs[]
   rw[←hsl]
   refine(zN G hb hl (by omega) names hne (by have:=hn.1;omega) _).mono ?_
   rintro r h ⟨s,hs,rfl,rfl⟩
   have:=hn.2 s hs
   simp-implicitDefEqProofs[aa]
   exact fin1 _ _ _ _ _ (by omega) (by omega) this
theorem Br{b:List Int}(hb:Byt b)(hl:b.length≤2000)(names:List (List UInt8))(hn:qf names)(d:Nat)(hd:d+1≤20){p:Nat}(hp:p+6*3^(d+1)≤1000000000000):AC Tryz.prog G aV [.ptr 0 2 0 0,.p (aC names),.p (.int .i64 ((d+1:Nat):Int))] [rdO b p] (EN b (EoQ p (10*3^(d+1)) (6*3^(d+1)))):=by
 have hpow:3^(d+1)=3*3^d:=by rw[Nat.pow_succ];omega
 have h1p:1≤3^d:=Nat.one_le_pow _ _ (by omega)
 have ih:=fun{p:Nat} (hp:p+6*3^d≤1000000000000)=>sf G hb hl names hn d (by omega) (p:=p) hp
 rw[hpow] at hp⊢
 generalize 3^d=t at*
 have hw:IntKind.i64.wrap (d:Int)=(d:Int):=ag (by omega) (by omega)
 have leaf:∀(q:Nat) (rest:List AO),p≤q→q≤p+3→AC Tryz.prog G cU [.ptr 0 2 0 0,.p (aC names)] (rdO b q::rest) fun x h=>∃v q',x= .ret v∧h=rdO b q'::rest∧LfQ q v q':=fun q rest _ _=>gS G (AL G hb hl (by omega) names hn) rest (by simp[below])
 have sub:∀(q:Nat) (rest:List AO),p≤q→q≤p+6+6*t→AC Tryz.prog G aV [.ptr 0 2 0 0,.p (aC names),.p (.int .i64 d)] (rdO b q::rest) fun x h=>∃v q',x= .ret v∧h=rdO b q'::rest∧ExQ q (10*t) (6*t) v q':=fun q rest _ _=>gS G (ih (by omega)) rest (by simp[below])
 refine xG G (AC.go jH ?_)
 have leafCase:∀(o n:Int) (s:List UInt8) (q:Nat) (rest:List AO),s.length≤8→p≤q→q≤p+5→DT b (EoQ p (10*(3*t)) (6*(3*t))) (.ret (.agg [.p (.int .i64 o),.p (.int .i64 n),.p (.str s),.nils])) (rdO b q::rest):=fun o n s q rest h1 h2 h3=>
  ⟨⟨o,n,s,[]⟩,q,rest,_,rfl,rfl,.inl ⟨rfl,rfl⟩,by simp[Ex.sz,aU];omega,h2,by omega⟩
 have top:∀(kids:List Ex) (h:List AO) (k:Nat),h[k+1]?=some (.row 4 (exR kids))→kids≠[]→EX h kids (.sl (k+1) 4 0 kids.length):=fun kids h k hk hne=>
  .inr ⟨k,exR kids,List.replicate h.length .dead,rfl,hne,hk,by simp,fun i o e l=>(by rw[List.getElem?_replicate] at e;split at e<;>cases e;exact l.elim),fun⟨o,e,l⟩=>(by rw[List.getElem?_replicate] at e;split at e<;>cases e;exact l.elim),fun⟨o,e,l⟩=>(by rw[List.getElem?_replicate] at e;split at e<;>cases e;exact l.elim),by simp[exR],fun j e e1 h1 h2=>(by rw[h1] at h2;cases h2;exact fS (aN (Nat.zero_le _) _ (dy _ e (List.mem_of_getElem? h1))))⟩
 have bin:∀(o:Int) (e1 e2:Ex) (q:Nat) (rest:List AO) (k:Nat),(rdO b q::rest)[k+1]?=some (.row 4 [e1.cs.map .p,e2.cs.map .p])→e1.sz≤10*t→e2.sz≤10*t→p≤q→q≤p+6*(3*t)→DT b (EoQ p (10*(3*t)) (6*(3*t))) (.ret (.agg [.p (.int .i64 o),.p (.int .i64 0),.p (.str []),.sl (k+1) 4 0 2])) (rdO b q::rest):=fun o e1 e2 q rest k hk h1 h2 h3 h4=>
  ⟨⟨o,0,[],[e1,e2]⟩,q,rest,_,rfl,rfl,top [e1,e2] _ k hk (by simp),by simp[Ex.sz,aU];omega,h3,h4⟩
 have una:∀(o:Int) (e1:Ex) (q:Nat) (rest:List AO) (k:Nat),(rdO b q::rest)[k+1]?=some (.row 4 [e1.cs.map .p])→e1.sz≤10*t→p≤q→q≤p+6*(3*t)→DT b (EoQ p (10*(3*t)) (6*(3*t))) (.ret (.agg [.p (.int .i64 o),.p (.int .i64 0),.p (.str []),.sl (k+1) 4 0 1])) (rdO b q::rest):=fun o e1 q rest k hk h1 h3 h4=>
  ⟨⟨o,0,[],[e1]⟩,q,rest,_,rfl,rfl,top [e1] _ k hk (by simp),by simp[Ex.sz,aU];omega,h3,h4⟩
 by_cases hd0:d=0
 ·subst hd0
  simp-implicitDefEqProofs[dJ]
  refine(leaf p _ (by omega) (by omega)).mono ?_
  rintro r h ⟨v,q,rfl,rfl,⟨o,n,s,rfl,he⟩,h1,h2⟩
  simp-implicitDefEqProofs[aa]
  exact leafCase o n s q _ he (by omega) (by omega)
 have hd2:¬(d:Int)+1<2:=by omega
 simp-implicitDefEqProofs[dJ,hd2]
 refine(aX G b hb hl p (by omega) 4 _).mono ?_
 rintro r h ⟨k1,rfl,rfl,_⟩
 simp-implicitDefEqProofs[aa]
 refine aS (fun hc=>?_) (fun hc=>?_)
 ·simp-implicitDefEqProofs[]
  refine(leaf (p+1) _ (by omega) (by omega)).mono ?_
  rintro r h ⟨v,q,rfl,rfl,⟨o,n,s,rfl,he⟩,h1,h2⟩
  simp-implicitDefEqProofs[aa]
  exact leafCase o n s q _ he (by omega) (by omega)
 simp-implicitDefEqProofs[]
 refine(aX G b hb hl (p+1) (by omega) 7 _).mono ?_
 rintro r h ⟨k2,rfl,rfl,_⟩
 simp-implicitDefEqProofs[aa]
 refine aS (fun hc=>?_) (fun hc=>?_)
 ·simp-implicitDefEqProofs[]
  refine(jo G hb hl (p:=p+2) (by omega) [11,12,11] (k:=2) (by simp) (by simp) (by omega) rfl rfl).mono ?_
  rintro r h ⟨n,_,rfl,rfl⟩
  simp-implicitDefEqProofs[aa,hw]
  refine(sub (p+3) _ (by omega) (by omega)).mono ?_
  rintro r h ⟨v,q,rfl,rfl,⟨e,rfl,he⟩,h1,h2⟩
  have hec:=e.cs_eq
  simp-implicitDefEqProofs[aa,hec]
  exact una n e q _ 2 (by rw[hec];rfl) he (by omega) (by omega)
 ·simp-implicitDefEqProofs[]
  refine(jo G hb hl (p:=p+2) (by omega) [3,3,4,5,6,7,8,9,10] (k:=2) (by simp) (by simp) (by omega) rfl rfl).mono ?_
  rintro r h ⟨n,_,rfl,rfl⟩
  simp-implicitDefEqProofs[aa,hw]
  refine(sub (p+3) _ (by omega) (by omega)).mono ?_
  rintro r h ⟨v,q,rfl,rfl,⟨e,rfl,he⟩,h1,h2⟩
  have hec:=e.cs_eq
  simp-implicitDefEqProofs[aa,hec,hw]
  refine(sub q _ (by omega) (by omega)).mono ?_
  rintro r h ⟨v,q2,rfl,rfl,⟨e2,rfl,he2⟩,h3,h4⟩
  have hec2:=e2.cs_eq
  simp-implicitDefEqProofs[aa,hec2]
  exact bin n e e2 q2 _ 2 (by rw[hec,hec2];rfl) he he2 (by omega) (by omega)
end Go.Proofs.YtnjbhgpbgmpkcaaGreatDoor
namespace Go.Proofs.YtnjbhgpbgmpkcaaGreatDoor
open Go Go.Aw
set_option maxRecDepth 100000
set_option maxHeartbeats 4000000
variable (G:ay)
theorem Jh{h:List AO}{kids:List Ex}{id:Nat}(he:h[id+1]?=some (bO 4 (exR kids))):EX h kids (slE (id+1) 4 (exR kids)):=by
 by_cases hk:kids=[]
 ·subst hk;exact .inl ⟨rfl,rfl⟩
 ·have hr:exR kids≠[]:=fun h=>hk (List.map_eq_nil_iff.1 h)
  rw[ep hr] at he
  rw[dm hr]
  have hrl:(exR kids).length=kids.length:=by simp[exR]
  rw[hrl]
  exact .inr ⟨id,exR kids,List.replicate h.length .dead,rfl,hk,he,by simp,fun i o e l=>(by rw[List.getElem?_replicate] at e;split at e<;>cases e;exact l.elim),fun⟨o,e,l⟩=>(by rw[List.getElem?_replicate] at e;split at e<;>cases e;exact l.elim),fun⟨o,e,l⟩=>(by rw[List.getElem?_replicate] at e;split at e<;>cases e;exact l.elim),by simp[exR],fun j e e1 h1 h2=>(by rw[h1] at h2;cases h2;exact fS (aN (Nat.zero_le _) _ (dy _ e (List.mem_of_getElem? h1))))⟩
theorem Gz(l:List Ex)(n:Nat):okO n (bO 4 (exR l)):=bu (DR (dy l))
theorem DD{hF:List AO}{n id:Nat}{e:Ex}(he:hF[id]?=some (bO 4 (exR e.kids))):Fzs hF n [.p (.int .i64 e.op),.p (.int .i64 e.n),.p (.str e.name),slE id 4 (exR e.kids)] (e.cs.map .p):=by
 rw[e.cs_eq]
 exact .keep (by simp) (.keep (by simp) (.keep (by simp) (.one (fD he) .nil)))
structure KdS where (k:Nat) (es:List Ex) (q:Nat)
theorem vS{b:List Int}(hb:Byt b)(hl:b.length≤2000){d:Nat}(hd:d+1≤7){p:Nat}(hp:p+20000≤1000000000000):AC Tryz.prog G ee [.ptr 0 2 0 0,.p (.int .i64 ((d+1:Nat):Int))] [rdO b p] (EN b (EoQ p 30000 20000)):=by
 refine xG G (AC.go vZ ?_)
 have h3:3^(d+1)≤2187:=by
  have:3^(d+1)≤3^7:=Nat.pow_le_pow_right (by omega) hd
  omega
 have fin:∀(e:Ex) (q:Nat) (rest:List AO) (K:AV),EX (rdO b q::rest) e.kids K→e.sz≤30000→p≤q→q≤p+20000→DT b (EoQ p 30000 20000) (.ret (.agg [.p (.int .i64 e.op),.p (.int .i64 e.n),.p (.str e.name),K])) (rdO b q::rest):=fun e q rest K hk h1 h2 h3=>
  ⟨e,q,rest,K,rfl,rfl,hk,h1,h2,h3⟩
 have hn4:qf [[97],[98],[120],[103,111]]:=⟨by simp,by simp⟩
 have hn2:qf [[97],[98]]:=⟨by simp,by simp⟩
 simp-implicitDefEqProofs[od]
 refine(AC.give (hX:=[.dead,.dead,bH [[97],[98],[120],[103,111]]]) (hR:=[rdO b p,.row 4 [[.p (.int .i64 0),.p (.int .i64 0),.p (.str []),.nils]],.dead]) (pargs:=[.ptr 0 2 0 0,.p (aC [[97],[98],[120],[103,111]]),.p (.int .i64 ((d+1:Nat):Int))]) (.keep _ (.keep _ (.give _ .nil))) (.keep (by simp[below]) (.one (dI (l:=[[97],[98],[120],[103,111]]) rfl) (.keep (by simp) .nil))) (rd G (Br G hb hl _ hn4 d (by omega) (by omega)) _ (by simp[below]))).mono ?_
 rintro r h ⟨e0,q,rfl,rfl,he0,h1,h2⟩
 simp-implicitDefEqProofs[aa]
 refine(aX G b hb hl q (by omega) 3 _).mono ?_
 rintro r h ⟨k1,rfl,rfl,_⟩
 simp-implicitDefEqProofs[aa]
 refine aS (fun hc=>?_) (fun hc=>?_)
 ·simp-implicitDefEqProofs[]
  exact fin e0 _ _ _ (Jh rfl) (by omega) (by omega) (by omega)
 simp-implicitDefEqProofs[]
 refine(wU G hb hl (p:=q+1) (by omega) [[102],[103],[97]] (k:=5) (by simp) (by simp) (by omega) rfl rfl).mono ?_
 rintro r h ⟨s,hs,rfl,rfl⟩
 have hsl:s.length≤8:=by simp at hs;rcases hs with rfl|rfl|rfl<;>simp
 simp-implicitDefEqProofs[aa]
 refine(aX G b hb hl (q+1+1) (by omega) 4 _).mono ?_
 rintro r h ⟨k2,rfl,rfl,hk2⟩
 simp-implicitDefEqProofs[aa]
 have hexn:∀(es:List Ex) (e:Ex),exR (es++[e])=exR es++[e.cs.map .p]:=fun es e=>by simp[exR]
 refine aJ (fun s:KdS=>aj 42 [(7,.p (.int .i64 s.k)),(6,.ptr 6 4 0 0),(5,.ptr 4 4 0 0),(4,.ptr 1 4 0 0),(0,.ptr 0 2 0 0)])
  (fun a=>[rdO b a.q,.row 4 [[.p (.int .i64 0),.p (.int .i64 0),.p (.str []),.nils]],.dead,bO 4 (exR e0.kids),.row 4 [[.p (.int .i64 e0.op),.p (.int .i64 e0.n),.p (.str e0.name),slE 3 4 (exR e0.kids)]],.row 1 [[.p (.str [102])],[.p (.str [103])],[.p (.str [97])]],
    .row 4 [[.p (.int .i64 13),.p (.int .i64 0),.p (.str s),slE 7 4 (exR a.es)]],bO 4 (exR a.es)])
  (fun a=>a.k+a.es.length≤3∧aU a.es≤90*a.es.length∧q≤a.q∧a.q≤q+3+54*a.es.length) (fun a=>a.k) ⟨k2,[],q+1+1+1⟩ ⟨by simp only[List.length_nil];omega,by simp[aU],by simp only;omega,by simp⟩
  (oh (by simp) (by simp) (by
    intro o h
    simp only[List.mem_cons,List.not_mem_nil,or_false] at h
    rcases h with rfl|rfl|rfl|rfl|rfl|rfl|rfl
    ·exact bj _ _ _
    ·simp[okO,below]
    ·simp[okO]
    ·exact Gz _ _
    ·simp[okO,below]
    ·simp[okO,below]
    ·simp[okO,below]) (by simp[below])) ?_
 rintro⟨k,es,q1⟩ ⟨i1,i2,i3,i4⟩
 simp only at i1 i2 i3 i4
 have hxl:(exR es).length=es.length:=by simp[exR]
 simp-implicitDefEqProofs[]
 refine aS (fun hc=>?_) (fun hc=>?_)
 ·simp at hc
  simp-implicitDefEqProofs[]
  have hE:=gS G (sf G hb hl _ hn2 2 (by omega) (p:=q1) (by omega)) ([.row 4 [[.p (.int .i64 0),.p (.int .i64 0),.p (.str []),.nils]],.dead,bO 4 (exR e0.kids),.row 4 [[.p (.int .i64 e0.op),.p (.int .i64 e0.n),.p (.str e0.name),slE 3 4 (exR e0.kids)]],.row 1 [[.p (.str [102])],[.p (.str [103])],[.p (.str [97])]],
   .row 4 [[.p (.int .i64 13),.p (.int .i64 0),.p (.str s),slE 7 4 (exR es)]],bO 4 (exR es)]) (by simp[below])
  refine hE.mono ?_
  rintro r h ⟨v,q2,rfl,rfl,⟨e,rfl,he⟩,hq1,hq2⟩
  have hec':=e.cs_eq
  simp-implicitDefEqProofs[aa,hec']
  refine⟨by rw[hxl];omega,⟨k-1,es++[e],q2⟩,⟨by simp;omega,by rw[cS];simp[aU];omega,by simp only;omega,by simp;omega⟩,by simp;omega,?_⟩
  have hwk:IntKind.i64.wrap ((k:Int)-1)=((k-1:Nat):Int):=by rw[ag (by omega) (by omega)];omega
  rw[hexn,zi _ (by simp),xv _ (by simp),hec']
  refine db [0,1,2,3,4,5,6,8] (by simp) (by decide) (by decide) (bx rfl (bj _ _ _) (cR (by simp[below]) (by simp[ren,bf]) (bJ (by simp) (FV rfl (dy _) (cR (by simp[below]) (by simp[ren,bf]) (aW rfl (by simp[below]) (cR (by simp[below]) (by simp[ren,bf]) (aW rfl (fun x hx=>by
   rcases List.mem_append.1 hx with h|h
   ·exact dy _ x h
   ·rw[List.mem_singleton.1 h];simp) bm)))))))) ?_
  simp[below,ren,hwk]
 ·simp at hc
  simp-implicitDefEqProofs[]
  refine(aX G b hb hl q1 (by omega) 2 _).mono ?_
  rintro r h ⟨k3,rfl,rfl,_⟩
  simp-implicitDefEqProofs[aa]
  refine aS (fun hc2=>?_) (fun hc2=>?_)
  ·simp-implicitDefEqProofs[]
   exact fin ⟨13,0,s,es⟩ (q1+1) _ _ (Jh rfl) (by simp[Ex.sz];omega) (by omega) (by omega)
  ·simp-implicitDefEqProofs[]
   have hv:∀hF:List AO,hF[3]?=some (bO 4 (exR e0.kids))→hF[7]?=some (bO 4 (exR es))→∀(n j:Nat) (x x1:List AV),[[AV.p (.int .i64 e0.op),.p (.int .i64 e0.n),.p (.str e0.name),slE 3 4 (exR e0.kids)],[.p (.int .i64 13),.p (.int .i64 0),.p (.str s),slE 7 4 (exR es)]][j]?=some x→(exR [e0,⟨13,0,s,es⟩])[j]?=some x1→Fzs hF n x x1:=by
    intro hF h3 h7 n j x x1 a1 a2
    match j,a1,a2 with
    |0,a1,a2=>cases a1;cases a2;exact DD h3
    |1,a1,a2=>cases a1;cases a2;exact DD (e:=⟨13,0,s,es⟩) h7
    |j+2,a1,a2=>simp at a1
   refine fin ⟨3,0,[],[e0,⟨13,0,s,es⟩]⟩ (q1+1) _ _ (.inr ⟨7,_,[.dead,.dead,.dead,bO 4 (exR e0.kids),.dead,.dead,.dead,bO 4 (exR es),.dead],rfl,by simp[Ex.kids],rfl,rfl,fun i o e l=>?_,fun⟨o,e,l⟩=>?_,fun⟨o,e,l⟩=>?_,rfl,hv _ rfl rfl _⟩) (by simp[Ex.sz,aU];omega) (by omega) (by omega)
   ·match i,e with
    |0,e=>cases e;exact l.elim
    |1,e=>cases e;exact l.elim
    |2,e=>cases e;exact l.elim
    |3,e=>exact e
    |4,e=>cases e;exact l.elim
    |5,e=>cases e;exact l.elim
    |6,e=>cases e;exact l.elim
    |7,e=>exact e
    |8,e=>cases e;exact l.elim
    |i+9,e=>simp at e
   ·cases e;exact l
   ·cases e;exact l
theorem Ey{b:List Int}(hb:Byt b)(hl:b.length≤2000){p:Nat}(hp:p+50000≤1000000000000):AC Tryz.prog G gG [.ptr 0 2 0 0] [rdO b p] fun x h=>∃v q,x= .ret v∧h=[rdO b q]∧ExQ p 60000 50000 v q:=by
 refine kE G (AC.go tR ?_)
 have fin:∀(e:Ex) (q:Nat) (rest:List AO) (v:AV),Fzs (.dead::rest) 1 [v] [.agg (e.cs.map .p)]→e.sz≤60000→p≤q→q≤p+50000→DP b (ExQ p 60000 50000) (.ret v) (rdO b q::rest):=fun e q rest v hz h1 h2 h3=>
  ⟨_,rest,q,.agg (e.cs.map .p),rfl,rfl,hz,⟨e,rfl,h1⟩,h2,h3⟩
 simp-implicitDefEqProofs[nn]
 refine(rd G (vS G hb hl (d:=3) (by omega) (by omega)) _ (by simp[below])).mono ?_
 rintro r h ⟨e0,q,rfl,rfl,he0,h1,h2⟩
 have hsz:=e0.sz_eq
 have hkl:=bL e0.kids
 have hrl:(exR e0.kids).length=e0.kids.length:=by simp[exR]
 simp-implicitDefEqProofs[aa]
 refine(aX G b hb hl q (by omega) 20 _).mono ?_
 rintro r h ⟨k1,rfl,rfl,_⟩
 by_cases k10:k1=0
 ·subst k10
  simp-implicitDefEqProofs[aa]
  refine(jo G hb hl (p:=q+1) (by omega) [-1,256,3] (k:=4) (by simp) (by simp) (by omega) rfl rfl).mono ?_
  rintro r h ⟨n,_,rfl,rfl⟩
  simp-implicitDefEqProofs[aa]
  exact fin ⟨e0.op,n,e0.name,e0.kids⟩ _ _ _ (uI (fD rfl)) (by simp[Ex.sz];omega) (by omega) (by omega)
 by_cases k11:k1=1
 ·subst k11
  simp-implicitDefEqProofs[aa]
  refine(wU G hb hl (p:=q+1) (by omega) [[],[100,111],[65],[97,98,99,100,101],[113]] (k:=4) (by simp) (by simp) (by omega) rfl rfl).mono ?_
  rintro r h ⟨s,hs,rfl,rfl⟩
  have hsl:s.length≤8:=by simp at hs;rcases hs with rfl|rfl|rfl|rfl|rfl<;>simp
  simp-implicitDefEqProofs[aa]
  exact fin ⟨e0.op,e0.n,s,e0.kids⟩ _ _ _ (uI (fD rfl)) (by simp[Ex.sz];omega) (by omega) (by omega)
 by_cases k12:k1=2
 ·subst k12
  simp-implicitDefEqProofs[aa]
  refine(jo G hb hl (p:=q+1) (by omega) [0,14,-1,5,11] (k:=4) (by simp) (by simp) (by omega) rfl rfl).mono ?_
  rintro r h ⟨n,_,rfl,rfl⟩
  simp-implicitDefEqProofs[aa]
  exact fin ⟨n,e0.n,e0.name,e0.kids⟩ _ _ _ (uI (fD rfl)) (by simp[Ex.sz];omega) (by omega) (by omega)
 by_cases k13:k1=3
 ·subst k13
  simp-implicitDefEqProofs[aa]
  refine(AC.give (pargs:=[.ptr 0 2 0 0,.p (aC [])]) (Spl.rest _) (.keep (by simp[below]) (.one (View.nils 1) .nil)) (gS G (te G hb hl (p:=q+1) (by omega) [] ⟨by simp,by simp⟩) _ (by simp[below]))).mono ?_
  rintro r h ⟨v,q2,rfl,rfl,⟨e1,rfl,he1⟩,h3,h4⟩
  have hec1:=e1.cs_eq
  have hx:exR (e0.kids++[e1])=exR e0.kids++[[.p (.int .i64 e1.op),.p (.int .i64 e1.n),.p (.str e1.name),.p (exL e1.kids)]]:=by simp[exR,hec1]
  have hne:exR (e0.kids++[e1])≠[]:=by simp[exR]
  simp-implicitDefEqProofs[aa,hec1]
  refine⟨by omega,?_⟩
  rw[←hx]
  have hl2:(exR e0.kids).length+1=(exR (e0.kids++[e1])).length:=by simp[exR]
  have hv:∀h:List AO,h[4]?=some (.row 4 (exR (e0.kids++[e1])))→View h (.sl 4 4 0 ((exR e0.kids).length+1)) (exL (e0.kids++[e1])):=fun h e=>by
   have:=fD (h:=h) (id:=4) (l:=e0.kids++[e1]) (by rw[ep hne];exact e)
   rwa[dm hne,←hl2] at this
  exact fin ⟨e0.op,e0.n,e0.name,e0.kids++[e1]⟩ q2 _ _ (uI (hv _ rfl)) (by simp[Ex.sz,cS,aU];omega) (by omega) (by omega)
 by_cases k14:k1=4
 ·subst k14
  simp-implicitDefEqProofs[aa]
  refine(rd G (vS G hb hl (d:=6) (by omega) (by omega)) _ (by simp[below])).mono ?_
  rintro r h ⟨e1,q2,rfl,rfl,he1,h3,h4⟩
  simp-implicitDefEqProofs[aa]
  have hs1:=e1.sz_eq
  exact fin ⟨e1.op,e1.n,e1.name,e1.kids⟩ _ _ _ (uI (fD rfl)) (by simp[Ex.sz];omega) (by omega) (by omega)
 have c1:¬(k1:Int)=1:=by omega
 have c2:¬(k1:Int)=2:=by omega
 have c3:¬(k1:Int)=3:=by omega
 have c4:¬(k1:Int)=4:=by omega
 simp-implicitDefEqProofs[aa,k10,c1,c2,c3,c4]
 exact fin ⟨e0.op,e0.n,e0.name,e0.kids⟩ _ _ _ (uI (fD rfl)) (by simp[Ex.sz];omega) (by omega) (by omega)
end Go.Proofs.YtnjbhgpbgmpkcaaGreatDoor
namespace Go.Proofs.YtnjbhgpbgmpkcaaGreatDoor
open Go Go.Aw
set_option maxRecDepth 100000
set_option maxHeartbeats 4000000
variable (G:ay)
def PgQ(p n m:Nat)(v:AV)(q:Nat):Prop:=(∃l:List Fd,v= .agg [.p (fdL l)]∧aY l≤n)∧p≤q∧q≤p+m
theorem ui{h:List AO}{id sz:Nat}{rows:List (List AV)}{es:List (List PV)}(he:h[id]?=some (.row sz rows))(hl:rows.length=es.length)(hs:∀e∈es,e.length=sz)(hv:∀(i j:Nat) (e:List PV) (q:PV) (e':List AV) (a:AV),es[i]?=some e→e[j]?=some q→rows[i]?=some e'→e'[j]?=some a→View h a q){n:Nat}(hn:n=es.length):View h (.sl id sz 0 n) (.lst sz es):=by
 subst hn
 exact .sl id sz 0 rows es he (by omega) hs fun i j e q e' a a1 a2 a3 a4=>hv i j e q e' a a1 a2 (by rwa[Nat.zero_add] at a3) a4
theorem nF{h:List AO}{e:List PV}{j:Nat}{q:PV}{a:AV}(h1:e[j]?=some q)(h2:(e.map AV.p)[j]?=some a):View h a q:=by
 rw[List.getElem?_map,h1] at h2;cases h2;exact .p _
theorem Ap{h:List AO}{id k:Nat}{l:List Fd}{f:Fd}{P B:AV}(he:h[id]?=some (.row 3 ((aZ l).set k [.p (.str f.name),P,B])))(hk:k<l.length)(hP:View h P (aC f.params))(hB:View h B (smL f.body)){n:Nat}(hn:n=l.length):View h (.sl id 3 0 n) (fdL (l.set k f)):=by
 refine ui (es:=(l.set k f).map Fd.cs) he (by simp[aZ]) (fun e he=>by obtain⟨x,_,rfl⟩:=List.mem_map.1 he;simp) (fun i j e q e' a a1 a2 a3 a4=>?_) (by simpa using hn)
 rw[List.getElem?_map] at a1
 by_cases hik:k=i
 ·subst hik
  rw[List.getElem?_set_self hk] at a1
  rw[List.getElem?_set_self (by simpa[aZ] using hk)] at a3
  cases a1;cases a3
  exact rD (s:=f.name) (ps:=f.params) (bd:=f.body) hP hB j q a a2 a4
 ·rw[List.getElem?_set_ne hik] at a1 a3
  obtain⟨g,g1,g2⟩:=Option.map_eq_some_iff.1 a1
  subst g2
  rw[aZ,List.getElem?_map,g1] at a3
  cases a3
  exact nF a2 a4
theorem BA{h:List AO}{id:Nat}{l:List (List UInt8)}{s:List UInt8}(he:h[id]?=some (.row 1 (List.take l.length (l.map fun w=>[AV.p (.str w)])++[[.p (.str s)]]))):View h (.sl id 1 0 (l.length+1)) (aC (l++[s])):=by
 have e:h[id]?=some (bH (l++[s])):=by rw[he,List.take_of_length_le (by simp)];simp[bH]
 have:=dI e
 rwa[List.length_append,List.length_singleton] at this
theorem pa{h:List AO}{id:Nat}{l:List Sm}{s:Sm}{r:List AV}(he:h[id]?=some (.row 5 (List.take l.length (smR l)++[r])))(hr:∀(j:Nat) (q:PV) (a:AV),s.cs[j]?=some q→r[j]?=some a→View h a q):View h (.sl id 5 0 (l.length+1)) (smL (l++[s])):=by
 have hl:=fa l
 refine ui (es:=(l++[s]).map Sm.cs) he (by simp[hl]) (fun e he=>by obtain⟨x,_,rfl⟩:=List.mem_map.1 he;simp) (fun i j e q e' a a1 a2 a3 a4=>?_) (by simp)
 rw[List.take_of_length_le (by omega)] at a3
 rw[List.map_append] at a1
 rcases Nat.lt_or_ge i l.length with hi|hi
 ·rw[List.getElem?_append_left (by simpa using hi)] at a1
  rw[List.getElem?_append_left (by omega)] at a3
  rw[List.getElem?_map] at a1
  obtain⟨g,g1,g2⟩:=Option.map_eq_some_iff.1 a1
  subst g2
  rw[smR,List.getElem?_map,g1] at a3
  cases a3
  exact nF a2 a4
 ·rw[List.getElem?_append_right (by simpa using hi)] at a1
  rw[List.getElem?_append_right (by omega),hl] at a3
  simp only[List.length_map] at a1
  generalize i-l.length=k at a1 a3
  cases k with
  |zero=>cases a1;cases a3;exact hr j q a a2 a4
  |succ k=>simp at a1
theorem Dx{h:List AO}{id:Nat}{l:List Fd}{f:Fd}(he:h[id]?=some (.row 3 (List.take l.length (aZ l)++[f.cs.map .p]))):View h (.sl id 3 0 (l.length+1)) (fdL (l++[f])):=by
 have hl:=ru l
 have:=qi (h:=h) (id:=id) (l:=l++[f]) (by rw[he,List.take_of_length_le (by omega)];simp[aZ])
 rwa[List.length_append,List.length_singleton] at this
theorem wu(l:List Fd)(k:Nat)(f:Fd):aY (l.set k f)≤aY l+f.sz:=by
 by_cases hk:k<l.length
 ·rw[eK f hk]
  have e:l=l.take k++l.drop k:=(List.take_append_drop _ _).symm
  have e2:l.drop k=l[k]::l.drop (k+1):=List.drop_eq_getElem_cons hk
  have h1:aY l=aY (l.take k)+aY (l.drop k):=by rw[←jM,←e]
  rw[jM]
  have h3:aY (f::l.drop (k+1))=f.sz+aY (l.drop (k+1)):=by simp[aY]
  have h4:aY (l.drop k)=l[k].sz+aY (l.drop (k+1)):=by rw[e2];unfold aY;rw[List.map_cons,List.sum_cons]
  omega
 ·rw[List.set_eq_of_length_le (by omega)];omega
theorem uR{l:List Fd}{f:Fd}(h:f∈l):f.sz≤aY l:=by
 induction l with
 |nil=>cases h
 |cons x r ih=>
  have e:aY (x::r)=x.sz+aY r:=by simp[aY]
  rcases List.mem_cons.1 h with rfl|h
  ·omega
  ·have:=ih h;omega
def K_spec_l3Bent:AK:= .seq (.reg [oJ 2 (.alloc [.nils])]) (.seq (.reg [oM 9 0,oJ 10 (.call cW [(.t 9)]),oJ 3 (.alloc [.nils]),oS 3 10]) (.seq (.reg [oF 11 0 3,oL 12 11,oF 13 0 3,oL 14 13,oJ 15 (.len false (.t 14)),oJ 16 (.bin .sub (.t 15) (.c (.p (.int .i64 1)))),oJ 17 (.idxS 3 (.t 12) (.t 16)),oJ 18 (.ld (some 3) (.t 17)),oJ 4 (.alloc [(.p (.str [])),.nils,.nils]),⟨none,none,.st 3 (.t 4) (.t 18)⟩]) (.cut (.seq (.reg [oM 19 0,oJ 20 (.call af [(.t 19),(.c (.p (.int .i64 32)))])]) (.blk 0 (.seq (.reg [oJ 22 (.bin .eql (.t 20) (.c (.p (.int .i64 0)))),oM 21 22]) (.cond (.t 21) (.reg [oM 23 0,oJ 24 (.bsl 1 [(.p (.str []))] 4 [(0,1,(.c (.p (.str [102])))),(1,1,(.c (.p (.str [100,111])))),(2,1,(.c (.p (.str [])))),(3,1,(.c (.p (.str [103]))))]),oJ 25 (.call az [(.t 23),(.t 24)]),oF 26 0 4,oS 26 25]) (.seq (.reg [oJ 28 (.bin .eql (.t 20) (.c (.p (.int .i64 1)))),oM 27 28]) (.cond (.t 27) (.reg [oJ 29 (.bsl 1 [(.p (.str []))] 0 []),oF 30 1 4,oL 31 30,oJ 32 (.app 1 16 (.t 29) (.t 31)),oM 33 0,oJ 34 (.bsl 1 [(.p (.str []))] 3 [(0,1,(.c (.p (.str [97])))),(1,1,(.c (.p (.str [120])))),(2,1,(.c (.p (.str [105,102]))))]),oJ 35 (.call az [(.t 33),(.t 34)]),oJ 36 (.bsl 1 [(.p (.str []))] 1 [(0,1,(.t 35))]),oJ 37 (.app 1 16 (.t 32) (.t 36)),oF 38 1 4,oS 38 37]) (.seq (.reg [oJ 40 (.bin .eql (.t 20) (.c (.p (.int .i64 2)))),oM 39 40]) (.cond (.t 39) (.reg [oJ 41 (.bsl 5 [(.p (.int .i64 0)),(.p (.str [])),.nils,.nils,.nils] 0 []),oF 42 2 4,oL 43 42,oJ 44 (.app 5 96 (.t 41) (.t 43)),oM 45 0,oJ 46 (.call gG [(.t 45)]),oJ 47 (.bsl 4 [(.p (.int .i64 0)),(.p (.int .i64 0)),(.p (.str [])),.nils] 1 [(0,4,(.t 46))]),oJ 48 (.bld [(.p (.int .i64 0)),(.p (.str [])),.nils,.nils,.nils] [(0,1,(.c (.p (.int .i64 3)))),(2,1,(.t 47))]),oJ 49 (.bsl 5 [(.p (.int .i64 0)),(.p (.str [])),.nils,.nils,.nils] 1 [(0,5,(.t 48))]),oJ 50 (.app 5 96 (.t 44) (.t 49)),oF 51 2 4,oS 51 50]) (.seq (.reg [oJ 53 (.bin .eql (.t 20) (.c (.p (.int .i64 3)))),oM 52 53]) (.cond (.t 52) (.reg [oJ 54 (.bsl 5 [(.p (.int .i64 0)),(.p (.str [])),.nils,.nils,.nils] 0 []),oF 55 2 4,oL 56 55,oJ 57 (.app 5 96 (.t 54) (.t 56)),oM 58 0,oJ 59 (.call af [(.t 58),(.c (.p (.int .i64 10)))]),oM 60 0,oJ 61 (.bsl 1 [(.p (.str []))] 3 [(0,1,(.c (.p (.str [])))),(1,1,(.c (.p (.str [97])))),(2,1,(.c (.p (.str [122,122]))))]),oJ 62 (.call az [(.t 60),(.t 61)]),oM 63 0,oJ 64 (.call ee [(.t 63),(.c (.p (.int .i64 2)))]),oJ 65 (.bsl 4 [(.p (.int .i64 0)),(.p (.int .i64 0)),(.p (.str [])),.nils] 1 [(0,4,(.t 64))]),oJ 66 (.bld [(.p (.int .i64 0)),(.p (.str [])),.nils,.nils,.nils] [(0,1,(.t 59)),(1,1,(.t 62)),(2,1,(.t 65))]),oJ 67 (.bsl 5 [(.p (.int .i64 0)),(.p (.str [])),.nils,.nils,.nils] 1 [(0,5,(.t 66))]),oJ 68 (.app 5 96 (.t 57) (.t 67)),oF 69 2 4,oS 69 68]) (.seq (.reg [oJ 71 (.bin .eql (.t 20) (.c (.p (.int .i64 4)))),oM 70 71]) (.cond (.t 70) (.seq (.reg [oJ 72 (.bld [(.p (.int .i64 0)),(.p (.int .i64 0)),(.p (.str [])),.nils] [(0,1,(.c (.p (.int .i64 1))))]),oJ 73 (.bsl 4 [(.p (.int .i64 0)),(.p (.int .i64 0)),(.p (.str [])),.nils] 1 [(0,4,(.t 72))]),oJ 74 (.bld [(.p (.int .i64 0)),(.p (.str [])),.nils,.nils,.nils] [(0,1,(.c (.p (.int .i64 6)))),(2,1,(.t 73))]),oJ 5 (.alloc [(.p (.int .i64 0)),(.p (.str [])),.nils,.nils,.nils]),⟨none,none,.st 5 (.t 5) (.t 74)⟩]) (.cut (.seq (.reg [oM 75 0,oJ 76 (.call af [(.t 75),(.c (.p (.int .i64 5)))]),oM 6 76]) (.blk 1 (.loop (.seq (.seq (.reg [oM 77 6,oJ 78 (.bin .gtr (.t 77) (.c (.p (.int .i64 0))))]) (.cond (.t 78) (.skip) (.exit 1))) (.seq (.blk 2 (.reg [oM 81 0,oJ 82 (.bslP 1 [(.p (.int .i64 0))] 2 [(0,1,(.c (.p (.int .i64 5)))),(1,1,(.c (.p (.int .i64 6))))]),oF 84 2 5,oL 85 84,oJ 86 (.ld (some 5) (.t 5)),oJ 87 (.bslP 5 [(.p (.int .i64 0)),(.p (.str [])),.nils,.nils,.nils] 1 [(0,5,(.t 86))]),oJ 83 (.call an [(.t 81),(.t 82)]),⟨none,none,.chk none 84 85⟩,⟨none,none,.chk (some 5) 5 86⟩,oJ 88 (.bld [(.p (.int .i64 0)),(.p (.str [])),.nils,.nils,.nils] [(0,1,(.t 83)),(2,1,(.t 85)),(3,1,(.t 87))]),⟨none,none,.st 5 (.t 5) (.t 88)⟩])) (.reg [oM 79 6,oJ 80 (.bin .sub (.t 79) (.c (.p (.int .i64 1)))),oM 6 80])))))) (.reg [oF 90 2 4,oL 91 90,oJ 93 (.ld (some 5) (.t 5)),oJ 94 (.bslP 5 [(.p (.int .i64 0)),(.p (.str [])),.nils,.nils,.nils] 1 [(0,5,(.t 93))]),oJ 89 (.bsl 5 [(.p (.int .i64 0)),(.p (.str [])),.nils,.nils,.nils] 0 []),⟨none,none,.chk none 90 91⟩,⟨none,none,.chk (some 5) 5 93⟩,oJ 92 (.app 5 96 (.t 89) (.t 91)),⟨none,none,.chk (some 5) 5 93⟩,oJ 95 (.app 5 96 (.t 92) (.t 94)),oF 96 2 4,oS 96 95]))) (.seq (.reg [oJ 98 (.bin .eql (.t 20) (.c (.p (.int .i64 5)))),oM 97 98]) (.cond (.t 97) (.seq (.reg [oJ 99 (.bld [.nils] []),oS 2 99]) (.ret)) (.seq (.reg [oJ 101 (.bin .eql (.t 20) (.c (.p (.int .i64 6)))),oM 100 101]) (.cond (.t 100) (.seq (.reg [oM 102 0,oJ 103 (.bsl 1 [(.p (.int .i64 0))] 3 [(0,1,(.c (.p (.int .i64 20)))),(1,1,(.c (.p (.int .i64 40)))),(2,1,(.c (.p (.int .i64 41))))]),oJ 104 (.call an [(.t 102),(.t 103)]),oM 7 104]) (.blk 3 (.loop (.seq (.seq (.reg [oM 105 7,oJ 106 (.bin .gtr (.t 105) (.c (.p (.int .i64 0))))]) (.cond (.t 106) (.skip) (.exit 3))) (.seq (.blk 4 (.reg [oJ 109 (.bsl 5 [(.p (.int .i64 0)),(.p (.str [])),.nils,.nils,.nils] 0 []),oF 110 2 4,oL 111 110,oJ 112 (.app 5 96 (.t 109) (.t 111)),oM 113 7,oJ 114 (.bld [(.p (.int .i64 0)),(.p (.int .i64 0)),(.p (.str [])),.nils] [(0,1,(.c (.p (.int .i64 1)))),(1,1,(.t 113))]),oJ 115 (.bsl 4 [(.p (.int .i64 0)),(.p (.int .i64 0)),(.p (.str [])),.nils] 1 [(0,4,(.t 114))]),oJ 116 (.bld [(.p (.int .i64 0)),(.p (.str [])),.nils,.nils,.nils] [(0,1,(.c (.p (.int .i64 3)))),(2,1,(.t 115))]),oJ 117 (.bsl 5 [(.p (.int .i64 0)),(.p (.str [])),.nils,.nils,.nils] 1 [(0,5,(.t 116))]),oJ 118 (.app 5 96 (.t 112) (.t 117)),oF 119 2 4,oS 119 118])) (.reg [oM 107 7,oJ 108 (.bin .sub (.t 107) (.c (.p (.int .i64 1)))),oM 7 108])))))) (.seq (.reg [oJ 121 (.bin .eql (.t 20) (.c (.p (.int .i64 7)))),oM 120 121]) (.cond (.t 120) (.seq (.reg [oF 123 0 3,oF 126 0 3,oL 124 123,oL 127 126,oJ 128 (.idxS 3 (.t 127) (.c (.p (.int .i64 0)))),oJ 129 (.ld (some 3) (.t 128)),oJ 130 (.bslP 3 [(.p (.str [])),.nils,.nils] 1 [(0,3,(.t 129))]),oJ 122 (.bsl 3 [(.p (.str [])),.nils,.nils] 0 []),⟨none,none,.chk none 123 124⟩,⟨none,none,.chk none 126 127⟩,⟨none,none,.chk (some 3) 128 129⟩,oJ 125 (.app 3 64 (.t 122) (.t 124)),⟨none,none,.chk none 126 127⟩,⟨none,none,.chk (some 3) 128 129⟩,oJ 131 (.app 3 64 (.t 125) (.t 130)),oJ 132 (.bld [.nils] [(0,1,(.t 131))]),oS 2 132]) (.ret)) (.skip))))))))))))))))))) (.seq (.reg [oJ 133 (.bsl 3 [(.p (.str [])),.nils,.nils] 0 []),oF 134 0 3,oL 135 134,oJ 136 (.app 3 64 (.t 133) (.t 135)),oM 8 136]) (.seq (.reg [oM 137 8,oM 138 8,oJ 139 (.len false (.t 138)),oJ 140 (.bin .sub (.t 139) (.c (.p (.int .i64 1)))),oJ 141 (.ld (some 3) (.t 4)),oJ 142 (.idxS 3 (.t 137) (.t 140)),⟨none,none,.st 3 (.t 142) (.t 141)⟩]) (.seq (.reg [oM 143 8,oJ 144 (.bld [.nils] [(0,1,(.t 143))]),oS 2 144]) (.ret)))))))
theorem tU:K_spec_l3Bent.whole=F_spec_l3Bent.ak:=rfl
structure NsS where (i:Nat) (o:Int) (w:List UInt8) (A B C:PV) (q:Nat)
structure BdS where (i:Nat) (bd:List Sm)
structure CfS where (f:Fd) (q:Nat)
theorem Cp{b:List Int}(hb:Byt b)(hl:b.length≤2000){p:Nat}(hp:p≤10000000000):AC Tryz.prog G jA [.ptr 0 2 0 0] [rdO b p] fun x h=>∃v q,x= .ret v∧h=[rdO b q]∧PgQ p 500000000 200200000 v q:=by
 refine kE G (AC.goK tI tU ?_)
 have hprog:AC Tryz.prog G cW [.ptr 0 2 0 0] [rdO b p] fun x h=>∃v q,x= .ret v∧h=[rdO b q]∧((∃l:List Fd,v= .agg [.p (fdL l)]∧bt l=true∧aY l≤200000000)∧p≤q∧q≤p+200000000):=
  (Em G hb hl hp).mono fun x h ⟨l,q,e1,e2,e3,e4,e5,e6⟩=>⟨_,q,e1,e2,⟨l,rfl,e3,e4⟩,e5,e6⟩
 simp-implicitDefEqProofs[K_spec_l3Bent,F_spec_l3Bent]
 refine(gS G hprog _ (by simp[below])).mono ?_
 rintro r h ⟨v,q,rfl,rfl,⟨l,rfl,hok,hz⟩,h1,h2⟩
 have hlen:=((gl l).1 hok).1
 obtain⟨n,hn⟩:∃n,l.length=n+1:=⟨l.length-1,by omega⟩
 have hnl:n<l.length:=by omega
 have hfz:=uR (List.getElem_mem hnl)
 obtain⟨f,hfe⟩:∃f,l[n]=f:=⟨_,rfl⟩
 rw[hfe] at hfz
 have hg:l[n]?=some f:=by rw[List.getElem?_eq_getElem hnl,hfe]
 have fin:∀(r1:List (Nat × AV)) (f':Fd) (q':Nat) (rest:List AO) (P B:AV),Aw.look r1 0= .ptr 0 2 0 0→Aw.look r1 2= .ptr 1 1 0 0→Aw.look r1 3= .ptr 2 1 0 0→Aw.look r1 4= .ptr 3 3 0 0→View (.dead:: .dead:: .dead:: .dead::rest) P (aC f'.params)→View (.dead:: .dead:: .dead:: .dead::rest) B (smL f'.body)→f'.sz≤300000000→q≤q'→q'≤q+100000→
  ∃s:CfS,(s.f.sz≤300000000∧q≤s.q∧s.q≤q+100000)∧Wk 1 (aj 145 r1) (rdO b q':: .row 1 [[.nils]]:: .row 1 [[.p (.lst 3 (l.map Fd.cs))]]:: .row 3 [[.p (.str f'.name),P,B]]::rest) (aj 145 [(4,.ptr 3 3 0 0),(3,.ptr 2 1 0 0),(2,.ptr 1 1 0 0),(0,.ptr 0 2 0 0)])
   [rdO b s.q,.row 1 [[.nils]],.row 1 [[.p (.lst 3 (l.map Fd.cs))]],.row 3 [[.p (.str s.f.name),.p (aC s.f.params),.p (smL s.f.body)]]]:=fun r1 f' q' rest P B e0 e2 e3 e4 hP hB hz' h3 h4=>
  ⟨⟨f',q'⟩,⟨hz',h3,h4⟩,jk 4 (by omega) (by simp) rfl (.same (bj _ _ _) (.same (by simp[okO,below]) (.same (by simp[okO,below]) (.one (.keep (by simp[below]) (.one hP (.one hB .nil))) (.nil _))))) (by
    simp only[FzA,e0,e2,e3,e4]
    exact⟨.keep (by simp[below]) .nil,.keep (by simp[below]) .nil,.keep (by simp[below]) .nil,.keep (by simp[below]) .nil,trivial⟩)⟩
 have hfsz:f.sz=1+f.name.length+(f.params.length+(f.params.map List.length).sum)+aq f.body:=rfl
 have hln:l.length≤4:=hlen.2
 have hbl:=cg f.body
 have hcs:f.cs=[.str f.name,aC f.params,smL f.body]:=rfl
 have hfl:fdL l= .lst 3 (l.map Fd.cs):=rfl
 have hw:IntKind.i64.wrap ((l.length:Int)-1)=(n:Int):=by rw[ag (by omega) (by omega)];omega
 have hsl:aC f.params= .lst 1 (f.params.map fun w=>[.str w]):=rfl
 have hml:smL f.body= .lst 5 (f.body.map Sm.cs):=rfl
 simp-implicitDefEqProofs[aa,hfl,hw,hg,hcs]
 refine rN (fun _:CfS=>aj 145 [(4,.ptr 3 3 0 0),(3,.ptr 2 1 0 0),(2,.ptr 1 1 0 0),(0,.ptr 0 2 0 0)]) (fun s=>[rdO b s.q,.row 1 [[.nils]],.row 1 [[.p (.lst 3 (l.map Fd.cs))]],.row 3 [[.p (.str s.f.name),.p (aC s.f.params),.p (smL s.f.body)]]])
  (fun s=>s.f.sz≤300000000∧q≤s.q∧s.q≤q+100000) ?_ ?_
 rotate_left
 ·rintro⟨f',q'⟩ ⟨h3,h4,h5⟩
  simp only at h3 h4 h5
  simp-implicitDefEqProofs[hw,hnl,hfe,hcs]
  exact⟨⟨by omega,by omega⟩,_,_,q',.agg [.p (fdL (l.set n f'))],rfl,rfl,.agg (.one (Ap (f:=f') rfl hnl (.p _) (.p _) rfl) .nil) .nil,⟨_,rfl,by have:=wu l n f';omega⟩,by omega,by omega⟩
 simp-implicitDefEqProofs[]
 refine(aX G b hb hl q (by omega) 32 _).mono ?_
 rintro r h ⟨k,rfl,rfl,_⟩
 by_cases k0:k=0
 ·subst k0
  simp-implicitDefEqProofs[aa]
  refine(wU G hb hl (p:=q+1) (by omega) [[102],[100,111],[],[103]] (k:=4) (by simp) (by simp) (by omega) rfl rfl).mono ?_
  rintro r h ⟨s,hs,rfl,rfl⟩
  have hs8:s.length≤8:=by simp at hs;rcases hs with rfl|rfl|rfl|rfl<;>simp
  simp-implicitDefEqProofs[aa]
  exact fin _ ⟨s,f.params,f.body⟩ _ _ _ _ (by simp) (by simp) (by simp) (by simp) (.p _) (.p _) (by simp only[Fd.sz];omega) (by omega) (by omega)
 by_cases k1:k=1
 ·subst k1
  simp-implicitDefEqProofs[aa,hsl]
  refine⟨⟨by omega,by omega⟩,?_⟩
  refine(wU G hb hl (p:=q+1) (by omega) [[97],[120],[105,102]] (k:=6) (by simp) (by simp) (by omega) rfl rfl).mono ?_
  rintro r h ⟨s,hs,rfl,rfl⟩
  have hs8:s.length≤8:=by simp at hs;rcases hs with rfl|rfl|rfl<;>simp
  simp-implicitDefEqProofs[aa]
  refine⟨⟨by omega,by omega⟩,?_⟩
  exact fin _ ⟨f.name,f.params++[s],f.body⟩ _ _ _ _ (by simp) (by simp) (by simp) (by simp) (BA rfl) (.p _) (by simp[Fd.sz];omega) (by omega) (by omega)
 by_cases k2:k=2
 ·subst k2
  simp-implicitDefEqProofs[aa,hml]
  refine⟨⟨by omega,by omega⟩,?_⟩
  refine(gS G (Ey G hb hl (p:=q+1) (by omega)) _ (by simp[below])).mono ?_
  rintro r h ⟨v,q2,rfl,rfl,⟨e,rfl,he⟩,h3,h4⟩
  have hec:=e.cs_eq
  simp-implicitDefEqProofs[aa,hec]
  refine⟨⟨by omega,by omega⟩,?_⟩
  exact fin _ ⟨f.name,f.params,f.body++[⟨3,[],[e],[],[]⟩]⟩ _ _ _ _ (by simp) (by simp) (by simp) (by simp) (.p _) (pa rfl (bR (dC (l:=[e]) (by rw[List.map_singleton,hec];rfl)) (View.nils 5) (View.nils 5))) (by simp[Fd.sz,bn,aq,Sm.sz,aU];omega) (by omega) (by omega)
 by_cases k3:k=3
 ·subst k3
  simp-implicitDefEqProofs[aa,hml]
  refine⟨⟨by omega,by omega⟩,?_⟩
  refine(aX G b hb hl (q+1) (by omega) 10 _).mono ?_
  rintro r h ⟨o,rfl,rfl,_⟩
  simp-implicitDefEqProofs[aa]
  refine(wU G hb hl (p:=q+1+1) (by omega) [[],[97],[122,122]] (k:=6) (by simp) (by simp) (by omega) rfl rfl).mono ?_
  rintro r h ⟨s,hs,rfl,rfl⟩
  have hs8:s.length≤8:=by simp at hs;rcases hs with rfl|rfl|rfl<;>simp
  simp-implicitDefEqProofs[aa]
  refine(rd G (vS G hb hl (d:=1) (by omega) (p:=q+1+1+1) (by omega)) _ (by simp[below])).mono ?_
  rintro r h ⟨e,q2,rfl,rfl,he,h3,h4⟩
  simp-implicitDefEqProofs[aa]
  refine⟨⟨by omega,by omega⟩,?_⟩
  obtain⟨eo,en,es,ek⟩:=e
  exact fin _ ⟨f.name,f.params,f.body++[⟨o,s,[⟨eo,en,es,ek⟩],[],[]⟩]⟩ _ _ _ _ (by simp) (by simp) (by simp) (by simp) (.p _) (pa rfl (bR (bs (p0:=(Ex.mk eo en es ek).cs) rfl (Ex.cs_len _) (fH (fD rfl))) (View.nils 5) (View.nils 5))) (by simp[Fd.sz,bn,aq,Sm.sz,aU];omega) (by omega) (by omega)
 by_cases k5:k=5
 ·subst k5
  simp-implicitDefEqProofs[aa]
  exact⟨_,_,q+1,.agg [.p (fdL [])],rfl,rfl,.agg (.one (View.nils 3) .nil) .nil,⟨[],rfl,by simp[aY]⟩,by omega,by omega⟩
 by_cases k7:k=7
 ·subst k7
  simp-implicitDefEqProofs[aa,hfl]
  have hl0:0<l.length:=by omega
  have hf0:=uR (List.getElem_mem hl0)
  obtain⟨f0,hg0,hf0⟩:∃f0,l[0]?=some f0∧f0.sz≤aY l:=⟨_,List.getElem?_eq_getElem hl0,hf0⟩
  have hc0:f0.cs=[.str f0.name,aC f0.params,smL f0.body]:=rfl
  have hfa:aY (l++[f0])=aY l+f0.sz:=by rw[jM];simp[aY]
  simp-implicitDefEqProofs[hg0,hc0]
  exact⟨⟨by omega,by omega⟩,⟨by omega,by omega⟩,_,_,q+1,.agg [.p (fdL (l++[f0]))],rfl,rfl,.agg (.one (Dx rfl) .nil) .nil,⟨_,rfl,by omega⟩,by omega,by omega⟩
 by_cases k4:k=4
 ·subst k4
  simp-implicitDefEqProofs[aa]
  refine rN (fun _:NsS=>aj 145 [(5,.ptr 5 5 0 0),(4,.ptr 3 3 0 0),(3,.ptr 2 1 0 0),(2,.ptr 1 1 0 0),(0,.ptr 0 2 0 0)])
   (fun a=>[rdO b a.q,.row 1 [[.nils]],.row 1 [[.p (.lst 3 (l.map Fd.cs))]],.row 3 [[.p (.str f.name),.p (aC f.params),.p (smL f.body)]],.dead,.row 5 [[.p (.int .i64 a.o),.p (.str a.w),.p a.A,.p a.B,.p a.C]]])
   (fun a=>(∃s:Sm,s.cs=[.int .i64 a.o,.str a.w,a.A,a.B,a.C]∧aU s.args≤1∧s.sz+2*a.i≤20)∧q+2≤a.q∧a.q+a.i≤q+10) ?_ ?_
  rotate_left
  ·rintro⟨i,o,w,A,B,C,q1⟩ ⟨⟨s,hse,j1,j2⟩,j3,j4⟩
   simp only at hse j1 j2 j3 j4
   have hss:∀(h:List AO) (id:Nat),h[id]?=some (.row 5 (List.take f.body.length (smR f.body)++[[.p (.int .i64 o),.p (.str w),.p A,.p B,.p C]]))→View h (.sl id 5 0 (f.body.length+1)) (smL (f.body++[s])):=fun h id e=>pa e (fun j q a a1 a2=>nF (e:=[.int .i64 o,.str w,A,B,C]) (hse▸a1) a2)
   simp-implicitDefEqProofs[hml]
   refine⟨⟨by omega,by omega⟩,⟨by omega,by omega⟩,?_⟩
   exact fin _ ⟨f.name,f.params,f.body++[s]⟩ _ _ _ _ (by simp) (by simp) (by simp) (by simp) (.p _) (hss _ _ rfl) (by simp[Fd.sz,bn,aq];omega) (by omega) (by omega)
  simp-implicitDefEqProofs[]
  refine(aX G b hb hl (q+1) (by omega) 5 _).mono ?_
  rintro r h ⟨i0,rfl,rfl,hi0⟩
  simp-implicitDefEqProofs[aa]
  have hs0:(Sm.mk 6 [] [⟨1,0,[],[]⟩] [] []).cs=[.int .i64 6,.str [],exL [⟨1,0,[],[]⟩],smL [],smL []]:=Sm.cs_eq _
  refine aJ (fun a:NsS=>aj 145 [(6,.p (.int .i64 a.i)),(5,.ptr 5 5 0 0),(4,.ptr 3 3 0 0),(3,.ptr 2 1 0 0),(2,.ptr 1 1 0 0),(0,.ptr 0 2 0 0)])
   (fun a=>[rdO b a.q,.row 1 [[.nils]],.row 1 [[.p (.lst 3 (l.map Fd.cs))]],.row 3 [[.p (.str f.name),.p (aC f.params),.p (smL f.body)]],.dead,.row 5 [[.p (.int .i64 a.o),.p (.str a.w),.p a.A,.p a.B,.p a.C]]])
   (fun a=>(∃s:Sm,s.cs=[.int .i64 a.o,.str a.w,a.A,a.B,a.C]∧aU s.args≤1∧s.sz+2*a.i≤20)∧q+2≤a.q∧a.q+a.i≤q+10) (fun a=>a.i) ⟨i0,6,[],exL [⟨1,0,[],[]⟩],smL [],smL [],q+1+1⟩ ⟨⟨_,hs0,by simp[Sm.args,aU,Ex.sz],by simp[Sm.sz,aU,Ex.sz,aq];omega⟩,by simp only;omega,by simp only;omega⟩ ?_ ?_
  ·refine wx (hX:=[.dead,.dead,.dead,.dead,.row 4 [[.p (.int .i64 1),.p (.int .i64 0),.p (.str []),.nils]],.dead]) (by simp)
    (.same (bj _ _ _) (.same (by simp[okO,below]) (.same (by simp[okO,below]) (.same (by simp[okO,below]) (.give (.one ?_ .nil)))))) ?_
   ·exact .keep (by simp[below]) (.keep (by simp[below]) (.one (bs (p0:=(Ex.mk 1 0 [] []).cs) rfl (Ex.cs_len _) (fH (View.nils 4))) (.one (View.nils 5) (.one (View.nils 5) .nil))))
   ·exact⟨.keep (by simp[below]) .nil,.keep (by simp[below]) .nil,.keep (by simp[below]) .nil,.keep (by simp[below]) .nil,.keep (by simp[below]) .nil,.keep (by simp[below]) .nil,trivial⟩
  rintro⟨i,o,w,A,B,C,q1⟩ ⟨⟨s,hse,j1,j2⟩,j3,j4⟩
  simp only at hse j1 j2 j3 j4
  have hcs1:∀n:Int,(Sm.mk n [] s.args [s] []).cs=[.int .i64 n,.str [],A,.lst 5 [[.int .i64 o,.str w,A,B,C]],.lst 5 []]:=fun n=>by
   have hsa:=s.cs_eq
   rw[hse] at hsa
   simp only[List.cons.injEq] at hsa
   rw[Sm.cs_eq];simp only[Sm.op,Sm.name,Sm.args,Sm.body,Sm.els];rw[←hse,hsa.2.2.1];rfl
  have hsz:∀n:Int,(Sm.mk n [] s.args [s] []).sz=1+aU s.args+s.sz:=fun n=>by simp[Sm.sz,aq]
  simp-implicitDefEqProofs[]
  refine aS (fun hc=>?_) (fun hc=>?_)
  ·simp at hc
   simp-implicitDefEqProofs[]
   refine(yB G hb hl (p:=q1) (by omega) [5,6] (by simp) (by simp) _).mono ?_
   rintro r h ⟨n1,_,rfl,rfl⟩
   have hwk:IntKind.i64.wrap ((i:Int)-1)=((i-1:Nat):Int):=by rw[ag (by omega) (by omega)];omega
   simp-implicitDefEqProofs[aa]
   refine⟨⟨i-1,n1,[],A,.lst 5 [[.int .i64 o,.str w,A,B,C]],.lst 5 [],q1+1⟩,⟨⟨_,hcs1 n1,j1,by simp only[hsz];omega⟩,by simp only;omega,by simp only;omega⟩,by simp only;omega,?_⟩
   refine wx (hX:=[.dead,.dead,.dead,.dead,.dead,.dead]) (by simp) (.same (bj _ _ _) (.same (by simp[okO,below]) (.same (by simp[okO,below]) (.same (by simp[okO,below]) (.drop (.one (.keep (by simp[below]) (.keep (by simp[below]) (.keep (by simp[below]) (.keep (by simp[below]) (.one (View.nils 5) .nil))))) .nil)))))) ?_
   simp only[hwk]
   exact⟨.keep (by simp[below]) .nil,.keep (by simp[below]) .nil,.keep (by simp[below]) .nil,.keep (by simp[below]) .nil,.keep (by simp[below]) .nil,.keep (by simp[below]) .nil,trivial⟩
  ·simp at hc
   exact⟨⟨i,o,w,A,B,C,q1⟩,⟨⟨s,hse,j1,j2⟩,j3,j4⟩,fX (m:=6) (by simp) (dd rfl rfl (ae (bj _ _ _) (ae (by simp[okO,below]) (ae (by simp[okO,below]) (ae (by simp[okO,below]) (ae (by simp[okO]) (ae (by simp[okO,below]) bv))))))) (by simp[below])⟩
 by_cases k6:k=6
 ·subst k6
  simp-implicitDefEqProofs[aa]
  refine(jo G hb hl (p:=q+1) (by omega) [20,40,41] (k:=4) (by simp) (by simp) (by omega) rfl rfl).mono ?_
  rintro r h ⟨i0,hi0,rfl,rfl⟩
  obtain⟨i,rfl,hi⟩:∃J:Nat,i0=J∧J≤41:=⟨i0.toNat,by simp at hi0;omega,by simp at hi0;omega⟩
  simp-implicitDefEqProofs[aa]
  refine aJ (fun a:BdS=>aj 145 [(7,.p (.int .i64 a.i)),(4,.ptr 3 3 0 0),(3,.ptr 2 1 0 0),(2,.ptr 1 1 0 0),(0,.ptr 0 2 0 0)])
   (fun a=>[rdO b (q+1+1),.row 1 [[.nils]],.row 1 [[.p (.lst 3 (l.map Fd.cs))]],.row 3 [[.p (.str f.name),.p (aC f.params),.p (smL a.bd)]]])
   (fun a=>a.i≤41∧aq a.bd+10*a.i≤aq f.body+500) (fun a=>a.i) ⟨i,f.body⟩ ⟨hi,by simp only;omega⟩ ?_ ?_
  ·exact fX (m:=4) (by simp) (dd rfl rfl (ae (bj _ _ _) (ae (by simp[okO,below]) (ae (by simp[okO,below]) (ae (by simp[okO,below]) bv))))) (by simp[below])
  rintro⟨i1,bd⟩ ⟨j1,j2⟩
  simp only at j1 j2
  have hbl2:=cg bd
  have hml2:smL bd= .lst 5 (bd.map Sm.cs):=rfl
  simp-implicitDefEqProofs[hml2]
  refine aS (fun hc=>?_) (fun hc=>?_)
  ·simp at hc
   have hwk:IntKind.i64.wrap ((i1:Int)-1)=((i1-1:Nat):Int):=by rw[ag (by omega) (by omega)];omega
   simp-implicitDefEqProofs[hml2]
   refine⟨⟨by omega,by omega⟩,⟨by omega,by omega⟩,⟨i1-1,bd++[⟨3,[],[⟨1,i1,[],[]⟩],[],[]⟩]⟩,⟨by simp only;omega,by simp[bn,aq,Sm.sz,aU,Ex.sz];omega⟩,by simp only;omega,?_⟩
   refine jk 4 (by omega) (by simp) rfl (.same (bj _ _ _) (.same (by simp[okO,below]) (.same (by simp[okO,below]) (.one (.keep (by simp[below]) (.keep (by simp[below]) (.one (pa rfl (bR (bs (p0:=(Ex.mk 1 i1 [] []).cs) rfl (Ex.cs_len _) (fH (View.nils 4))) (View.nils 5) (View.nils 5))) .nil))) (.nil _))))) ?_
   simp only[hwk]
   exact⟨.keep (by simp[below]) .nil,.keep (by simp[below]) .nil,.keep (by simp[below]) .nil,.keep (by simp[below]) .nil,.keep (by simp[below]) .nil,trivial⟩
  ·simp at hc
   exact fin _ ⟨f.name,f.params,bd⟩ _ _ _ _ (by simp) (by simp) (by simp) (by simp) (.p _) (.p _) (by simp[Fd.sz];omega) (by omega) (by omega)
 have c1:¬(k:Int)=1:=by omega
 have c2:¬(k:Int)=2:=by omega
 have c3:¬(k:Int)=3:=by omega
 have c4:¬(k:Int)=4:=by omega
 have c5:¬(k:Int)=5:=by omega
 have c6:¬(k:Int)=6:=by omega
 have c7:¬(k:Int)=7:=by omega
 simp-implicitDefEqProofs[aa,k0,c1,c2,c3,c4,c5,c6,c7]
 exact fin _ ⟨f.name,f.params,f.body⟩ _ _ _ _ (by simp) (by simp) (by simp) (by simp) (.p _) (.p _) (by simp only[Fd.sz];omega) (by omega) (by omega)
end Go.Proofs.YtnjbhgpbgmpkcaaGreatDoor
