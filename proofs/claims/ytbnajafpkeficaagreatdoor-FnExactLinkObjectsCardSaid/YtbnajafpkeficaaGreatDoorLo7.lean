/-
  Contracts and lemmas that the card needs, part 7.
-/
import Derived.Test.YtbnajafpkeficaaGreatDoorLo6
import Derived.ChangeMaps
import Derived.WideShapes
import Derived.WideHanded
namespace Go.Aw
variable {P:Program} {G:az}
theorem CG{W:World}{S:Nat->Prop}{φ φ':au}{n m:Nat}{σ:List Nat}(hσ:∀i,i<m->σ.getD i 0<n/\φ (σ.getD i 0)=φ' i){v:AV}{x:Value}(h:VRel W S φ' m v x):VRel W S φ n (ren σ v) x:=by
 induction h with
 |p pv x hp=>exact .p _ _ hp
 |agg cs vs hs _ ih=>
  simp only[ren]
  refine .agg _ vs (by rw[hs,bT]) λj c y h1 h2=>?_
  rw[eK,Option.map_eq_some_iff] at h1
  obtain⟨c0,h1,rfl⟩:=h1
  exact ih j c0 y h1 h2
 |tup cs vs hs _ ih=>
  simp only[ren]
  refine .tup _ vs (by rw[hs,bT]) λj c y h1 h2=>?_
  rw[eK,Option.map_eq_some_iff] at h1
  obtain⟨c0,h1,rfl⟩:=h1
  exact ih j c0 y h1 h2
 |ptr id esz i off hid=>
  have:=VRel.ptr (W:=W) (S:=S) (φ:=φ) (n:=n) (σ.getD id 0) esz i off (hσ id hid).1
  rw[(hσ id hid).2] at this
  exact this
 |sl id esz off len cap ba hid hl hb hc=>
  exact VRel.sl (W:=W) (S:=S) (φ:=φ) (n:=n) (σ.getD id 0) esz off len cap ba (hσ id hid).1 hl (by rw[(hσ id hid).2];exact hb) (by rw[(hσ id hid).2];exact hc)
 |mp id hid=>
  have:=VRel.mp (W:=W) (S:=S) (φ:=φ) (n:=n) (σ.getD id 0) (hσ id hid).1
  rw[(hσ id hid).2] at this
  exact this
 |it id hid=>
  have:=VRel.it (W:=W) (S:=S) (φ:=φ) (n:=n) (σ.getD id 0) (hσ id hid).1
  rw[(hσ id hid).2] at this
  exact this
 |fn f caps vs hs _ ih=>
  simp only[ren]
  refine .fn f _ vs (by rw[hs,bT]) λj c y h1 h2=>?_
  rw[eK,Option.map_eq_some_iff] at h1
  obtain⟨c0,h1,rfl⟩:=h1
  exact ih j c0 y h1 h2
 |gp g off=>exact .gp g off
 |nils=>exact .nils
 |nilp=>exact .nilp
 |nilf=>exact .nilf
 |nilm=>exact .nilm
 |nili=>exact .nili
 |any x=>exact .any x
 |eptr e off b o hb hc=>exact .eptr e off b o hb hc
 |ifc t pv x hp=>exact .ifc t pv x hp
def nM(σ:List Nat):AO->AO
 | .row sz es=> .row sz (es.map (aF σ))
 | .mp es=> .mp (es.map λx=>(x.1,ren σ x.2))
 | .sit s pos=> .sit s pos
 | .dead=> .dead
def Ir(σ:List Nat):ARes->ARes
 | .ret v=> .ret (ren σ v)
 | .pan t v=> .pan t v
def mrg(h:List AO):List Nat->List AO->List AO
 |i::π,o::os=>mrg (h.set i o) π os
 |_,_=>h
theorem rz:∀(π:List Nat) (os h:List AO),(mrg h π os).length=h.length
 |[],_,_=>by simp[mrg]
 |_::_,[],_=>by simp[mrg]
 |i::π,o::os,h=>by rw[mrg,rz,List.length_set]
theorem Ai:∀(π:List Nat) (os h:List AO) (j:Nat),j∉π->(mrg h π os)[j]?=h[j]?
 |[],_,_,_,_=>by simp[mrg]
 |_::_,[],_,_,_=>by simp[mrg]
 |i::π,o::os,h,j,hj=>by
  simp only[List.mem_cons,not_or] at hj
  rw[mrg,Ai π os _ j hj.2,List.getElem?_set_ne (Ne.symm hj.1)]
theorem GZ:∀(π:List Nat) (os h:List AO),π.Nodup->(∀i∈π,i<h.length)->∀(i:Nat) (o:AO),i<π.length->os[i]?=some o->(mrg h π os)[π.getD i 0]?=some o
 |[],_,_,_,_,i,o,hi,_=>by simp at hi
 |_::_,[],_,_,_,i,o,_,e=>by simp at e
 |p::π,q::os,h,nd,hb,i,o,hi,e=>by
  simp only[List.nodup_cons] at nd
  rw[mrg]
  cases i with
  |zero=>
   simp at e;subst e
   have hp:=hb p (by simp)
   simp only[List.getD_cons_zero]
   rw[Ai π os _ p nd.1]
   simp[hp]
  |succ i=>
   simp only[List.getD_cons_succ]
   exact GZ π os _ nd.2 (λj hj=>by rw[List.length_set];exact hb j (by simp[hj])) i o (by simpa using hi) (by simpa using e)
theorem gy{σ:List Nat}{o:AO}(l:(nM σ o).live):o.live:=by cases o<;>exact l
theorem AC.frame{f:FuncId}{args0 args:List AV}{h0 h:List AO}{R:ARes->List AO->Prop}(H:AC P G f args0 h0 R)(π:List Nat)(nd:π.Nodup)(hT:TW π args args0)(hW:HW π h π h0):
 AC P G f args h λx h'=>∃x0 h0',R x0 h0'/\h0.length<=h0'.length/\x=Ir (π++List.range' h.length (h0'.length-h0.length)) x0/\
  h'=mrg h π ((h0'.take h0.length).map (nM (π++List.range' h.length (h0'.length-h0.length))))++(h0'.drop h0.length).map (nM (π++List.range' h.length (h0'.length-h0.length))):=by
 obtain⟨t1,t2⟩:=CZ hT
 obtain⟨q1,q2,q3,q4,q5⟩:=xX hW
 refine⟨H.1,λW S φ vs hH hA=>?_⟩
 have hliv:∀{id},Live h0 id->Live h (π.getD id 0):=λ{id} ⟨o,e,l⟩=>by
  cases o with
  |dead=>exact l.elim
  |row sz es=>exact bD (q3 _ _ _ e).2
  |mp es=>exact Aj (q4 _ _ e).2
  |sit t pos=>exact uF (q5 _ _ _ e)
 have hmem:∀{i},i<π.length->π.getD i 0∈π:=λ{i} hi=>by
  rw[List.getD_eq_getElem?_getD,List.getElem?_eq_getElem hi];exact List.getElem_mem hi
 have hinj:∀i j,i<π.length->j<π.length->π.getD i 0=π.getD j 0->i=j:=λi j hi hj e=>by
  rw[List.getD_eq_getElem?_getD,List.getD_eq_getElem?_getD,List.getElem?_eq_getElem hi,List.getElem?_eq_getElem hj] at e
  refine(List.getElem?_inj hi nd).1 ?_
  rw[List.getElem?_eq_getElem hi,List.getElem?_eq_getElem hj]
  exact congrArg some (by simpa using e)
 have hbnd:∀i∈π,i<h.length:=λi hi=>by
  obtain⟨j,hj⟩:=List.getElem?_of_mem hi
  have:=q2 j (List.getElem?_eq_some_iff.1 hj).1
  rwa[List.getD_eq_getElem?_getD,hj] at this
 have H0:HRel G W S (λi=>φ (π.getD i 0)) h0:=by
  refine⟨λid sz es hid=>?_,λid o hid lo=>?_,λid id' e1 e2 he=>?_,λb hb=>⟨(hH.sep b hb).1,λid hid he=>?_⟩,λid hid=>?_,hH.glob⟩
  ·obtain⟨b1,b2⟩:=q3 id sz es hid
   obtain⟨c,t,fr,a1,a2,a3,a4,a5⟩:=hH.obj _ _ _ b2
   refine⟨c,t,fr,a1,a2,λe he=>?_,by simpa using a4,λj u hj=>?_⟩
   ·have:=a3 (aF π e) (List.mem_map.2 ⟨e,he,rfl⟩)
    rwa[bT] at this
   ·have hr:(es.map (aF π)).flatten[j]?=some (ren π u):=by rw[fF,eK,hj];rfl
    obtain⟨c1,v,c2,c3⟩:=a5 j _ hr
    rw[oO] at c1
    exact⟨c1,v,c2,by rw[←q1];exact is u (bg (iG _ b1) j u hj) c3⟩
  ·cases o with
   |dead=>trivial
   |row sz es=>trivial
   |sit t pos=>exact hH.oobj _ _ (q5 id t pos hid) trivial
   |mp es=>
    obtain⟨b1,b2⟩:=q4 id es hid
    obtain⟨ents,clock,a1,a2,a3,a4⟩:=hH.oobj _ _ b2 trivial
    refine⟨ents,clock,a1,by simpa using a2,λj k a hj=>?_,a4⟩
    obtain⟨e,c1,c2,c3⟩:=a3 j k (ren π a) (by rw[List.getElem?_map,hj];rfl)
    exact⟨e,c1,c2,by rw[←q1];exact is a (b1 _ (List.mem_of_getElem? hj)) c3⟩
  ·exact hinj _ _ (by rw[q1];exact e1.lt) (by rw[q1];exact e2.lt) (hH.inj _ _ (hliv e1) (hliv e2) he)
  ·exact(hH.sep b hb).2 _ (hliv hid) he
  ·exact hH.bnd _ (q2 id (by rw[q1];exact hid))
 have hA0:kS W S (λi=>φ (π.getD i 0)) h0.length args0 vs:=⟨hA.1.trans t1,λj c v h1 h2=>by
  rcases t2 j c h1 with rfl|⟨b1,b2⟩
  ·exact .any _
  ·rw[←q1];exact is c b1 (hA.2 j _ v b2 h2)⟩
 refine(H.2 W S _ vs H0 hA0).mono λe W' ⟨x,S',φ',h',k1,k2,k3,k4⟩=>?_
 have hle:=k4.len
 have hkl:π.length=h0.length:=q1
 let σ:List Nat:=π++List.range' h.length (h'.length-h0.length)
 let ψ:au:=λj=>if j<h.length then φ j else φ' (h0.length+(j-h.length))
 have hψ1:∀{j},j<h.length->ψ j=φ j:=λ{j} hj=>by show(if j<h.length then φ j else _)=_;rw[if_pos hj]
 have hψ2:∀j,ψ (h.length+j)=φ' (h0.length+j):=λj=>by show(if h.length+j<h.length then φ _ else φ' _)=_;rw[if_neg (by omega)];congr 1;omega
 have hσ1:∀i,i<h0.length->σ.getD i 0=π.getD i 0:=λi hi=>by
  show(π++_).getD i 0=_
  rw[List.getD_eq_getElem?_getD,List.getD_eq_getElem?_getD,List.getElem?_append_left (by omega)]
 have hσ2:∀i,i<h'.length-h0.length->σ.getD (h0.length+i) 0=h.length+i:=λi hi=>by
  show(π++List.range' h.length (h'.length-h0.length)).getD _ 0=_
  rw[List.getD_eq_getElem?_getD,List.getElem?_append_right (by omega),show h0.length+i-π.length=i by omega]
  simp[hi]
 let hm:List AO:=mrg h π ((h'.take h0.length).map (nM σ))++(h'.drop h0.length).map (nM σ)
 have hml:hm.length=h.length+(h'.length-h0.length):=by simp[hm,rz]
 have hσ:∀i,i<h'.length->σ.getD i 0<hm.length/\ψ (σ.getD i 0)=φ' i:=λi hi=>by
  rcases Nat.lt_or_ge i h0.length with h1|h1
  ·have:=q2 i (by omega)
   rw[hσ1 i h1]
   exact⟨by omega,by rw[hψ1 this];exact(k4.same i h1).symm⟩
  ·obtain⟨j,rfl⟩:∃j,i=h0.length+j:=⟨i-h0.length,by omega⟩
   rw[hσ2 j (by omega)]
   exact⟨by omega,hψ2 j⟩
 have hget:∀{j o},hm[j]?=some o->(∃i o',i<h'.length/\σ.getD i 0=j/\h'[i]?=some o'/\o=nM σ o')\/(j<h.length/\j∉π/\h[j]?=some o):=λ{j o} e=>by
  rcases Nat.lt_or_ge j h.length with hj|hj
  ·have e':(mrg h π ((h'.take h0.length).map (nM σ)))[j]?=some o:=by rw[←e];exact(List.getElem?_append_left (by rw[rz];exact hj)).symm
   by_cases hp:j∈π
   ·left
    obtain⟨i,hi⟩:=List.getElem?_of_mem hp
    have hil:=(List.getElem?_eq_some_iff.1 hi).1
    have hig:π.getD i 0=j:=by rw[List.getD_eq_getElem?_getD,hi];rfl
    have hih:i<h'.length:=by omega
    have hio:h'[i]?=some h'[i]:=List.getElem?_eq_getElem hih
    have:=GZ π ((h'.take h0.length).map (nM σ)) h nd hbnd i (nM σ h'[i]) hil (by rw[List.getElem?_map,List.getElem?_take_of_lt (by omega),hio];rfl)
    rw[hig,e'] at this
    exact⟨i,h'[i],hih,by rw[hσ1 i (by omega),hig],hio,Option.some.inj this⟩
   ·exact .inr ⟨hj,hp,by rw[←e',Ai _ _ _ _ hp]⟩
  ·left
   have e':((h'.drop h0.length).map (nM σ))[j-h.length]?=some o:=by
    rw[←e]
    show _=(mrg h π _++_)[j]?
    rw[List.getElem?_append_right (by rw[rz];exact hj),rz]
   rw[List.getElem?_map,Option.map_eq_some_iff] at e'
   obtain⟨o',e1,e2⟩:=e'
   rw[List.getElem?_drop] at e1
   have hl:=(List.getElem?_eq_some_iff.1 e1).1
   exact⟨h0.length+(j-h.length),o',hl,by rw[hσ2 _ (by omega)];omega,e1,e2.symm⟩
 have hout:∀{j},j<h.length->j∉π->Live h j->W'.heap[(φ j).1]?=W.heap[(φ j).1]?:=λ{j} hj hp lj=>k4.out _ (hH.bnd j hj) λid hid he=>by
  have:=hH.inj _ _ (hliv hid) lj he
  exact hp (this▸hmem (by rw[q1];exact hid.lt))
 have hnew:∀b,S' b->S b\/W.heap.size<=b\/∃i,Live h0 i/\(φ (π.getD i 0)).1=b:=λb hb=>k4.newS b hb
 have K:Keep W S φ h W' S' ψ hm:=
  {pure:=k4.pure,len:=by omega,same:=λ_ hid=>hψ1 hid
   blk:=λid hid c t fr e=>by
    by_cases hx:∃i,Live h0 i/\(φ (π.getD i 0)).1=(φ id).1
    ·obtain⟨i,li,ei⟩:=hx
     have:=k4.blk i li.lt c t fr (by rw[ei];exact e)
     rwa[ei] at this
    ·rw[k4.out _ (hH.bnd id hid) λi li ei=>hx ⟨i,li,ei⟩] at e
     exact⟨c,t,fr,e,rfl⟩
   os:=k4.os,tape:=k4.tape,output:=k4.output,size:=k4.size
   out:=λb hb hn=>k4.out b hb λi li=>hn _ (hliv li)
   img:=λid ⟨o,e,l⟩=>by
    rcases hget e with⟨i,o',hi,rfl,e',rfl⟩|⟨hj,_,e'⟩
    ·rw[(hσ i hi).2]
     rcases k4.img i ⟨_,e',gy l⟩ with h2|⟨id2,h2,h3⟩
     ·exact .inl h2
     ·exact .inr ⟨_,hliv h2,h3⟩
    ·exact .inr ⟨id,⟨_,e',l⟩,by rw[hψ1 hj]⟩
   newS:=λb hb=>by
    rcases hnew b hb with h2|h2|⟨i,h2,h3⟩
    ·exact .inl h2
    ·exact .inr (.inl h2)
    ·exact .inr (.inr ⟨_,hliv h2,h3⟩)}
 refine⟨Ir σ x,S',ψ,hm,⟨x,h',k1,hle,rfl,rfl⟩,⟨λid sz es e=>?_,λid o1 e lo=>?_,λid id' ⟨o1,e1,l1⟩ ⟨o2,e2,l2⟩ he=>?_,λb hb=>⟨(k2.sep b hb).1,λid ⟨o1,e,l1⟩ he=>?_⟩,λid hid=>?_,k2.glob⟩,?_,K⟩
 ·rcases hget e with⟨i,o',hi,rfl,e',eo⟩|⟨hj,hp,e'⟩
  ·obtain⟨es',rfl,rfl⟩:∃es',o'= .row sz es'/\es=es'.map (aF σ):=by cases o'<;>cases eo;exact⟨_,rfl,rfl⟩
   obtain⟨c,t,fr,a1,a2,a3,a4,a5⟩:=k2.obj i sz es' e'
   refine⟨c,t,fr,by rw[(hσ i hi).2];exact a1,a2,λe he=>?_,by rw[(hσ i hi).2];simpa using a4,λj u hj=>?_⟩
   ·obtain⟨e0,he0,rfl⟩:=List.mem_map.1 he
    rw[bT];exact a3 e0 he0
   ·rw[fF,eK,Option.map_eq_some_iff] at hj
    obtain⟨u0,hj,rfl⟩:=hj
    obtain⟨b1,v,b2,b3⟩:=a5 j u0 hj
    exact⟨by rw[oO];exact b1,v,by rw[(hσ i hi).2];exact b2,CG hσ b3⟩
  ·obtain⟨c,t,fr,a1,a2,a3,a4,a5⟩:=hH.obj id sz es e'
   refine⟨c,t,fr,by rw[hψ1 hj,hout hj hp (bD e')];exact a1,a2,a3,by rw[hψ1 hj];exact a4,λj u hj2=>?_⟩
   obtain⟨b1,v,b2,b3⟩:=a5 j u hj2
   exact⟨b1,v,by rw[hψ1 hj];exact b2,b3.kept K.toKept⟩
 ·rcases hget e with⟨i,o',hi,rfl,e',rfl⟩|⟨hj,hp,e'⟩
  ·rw[(hσ i hi).2]
   have hq:=k2.oobj i o' e' (gy lo)
   cases o' with
   |dead=>trivial
   |row sz es=>trivial
   |sit t pos=>exact hq
   |mp es'=>
    obtain⟨ents,clock,a1,a2,a3,a4⟩:=hq
    refine⟨ents,clock,a1,by simpa using a2,λj k a hj=>?_,a4⟩
    rw[List.getElem?_map,Option.map_eq_some_iff] at hj
    obtain⟨⟨k0,a0⟩,hj,hk⟩:=hj
    cases hk
    obtain⟨x,c1,c2,c3⟩:=a3 j _ _ hj
    exact⟨x,c1,c2,CG hσ c3⟩
  ·rw[hψ1 hj,hout hj hp ⟨_,e',lo⟩]
   exact(hH.oobj id o1 e' lo).mono λa v r=>r.kept K.toKept
 ·rcases hget e1 with⟨i,o',hi,rfl,e1',rfl⟩|⟨hj,hp,e1'⟩<;>rcases hget e2 with⟨i',o'',hi',rfl,e2',rfl⟩|⟨hj',hp',e2'⟩
  ·rw[(hσ i hi).2,(hσ i' hi').2] at he
   rw[k2.inj _ _ ⟨_,e1',gy l1⟩ ⟨_,e2',gy l2⟩ he]
  ·rw[(hσ i hi).2,hψ1 hj'] at he
   rcases k4.img i ⟨_,e1',gy l1⟩ with h2|⟨id2,h2,h3⟩
   ·have:=hH.bnd _ hj'
    omega
   ·have:=hH.inj _ _ (hliv h2) ⟨_,e2',l2⟩ (h3.trans he)
    exact(hp' (this▸hmem (by rw[q1];exact h2.lt))).elim
  ·rw[(hσ i' hi').2,hψ1 hj] at he
   rcases k4.img i' ⟨_,e2',gy l2⟩ with h2|⟨id2,h2,h3⟩
   ·have:=hH.bnd _ hj
    omega
   ·have:=hH.inj _ _ (hliv h2) ⟨_,e1',l1⟩ (h3.trans he.symm)
    exact(hp (this▸hmem (by rw[q1];exact h2.lt))).elim
  ·rw[hψ1 hj,hψ1 hj'] at he;exact hH.inj _ _ ⟨_,e1',l1⟩ ⟨_,e2',l2⟩ he
 ·rcases hget e with⟨i,o',hi,rfl,e',rfl⟩|⟨hj,hp,e'⟩
  ·rw[(hσ i hi).2] at he
   exact(k2.sep b hb).2 _ ⟨_,e',gy l1⟩ he
  ·rw[hψ1 hj] at he
   rcases hnew b hb with h2|h2|⟨i,h2,h3⟩
   ·exact(hH.sep b h2).2 _ ⟨_,e',l1⟩ he
   ·have:=hH.bnd id hj
    omega
   ·have:=hH.inj _ _ (hliv h2) ⟨_,e',l1⟩ (h3.trans he.symm)
    exact hp (this▸hmem (by rw[q1];exact h2.lt))
 ·rcases Nat.lt_or_ge id h.length with hi|hi
  ·rw[hψ1 hi];exact Nat.lt_of_lt_of_le (hH.bnd id hi) k4.size
  ·obtain⟨k,rfl⟩:∃k,id=h.length+k:=⟨id-h.length,by omega⟩
   rw[hψ2]
   exact k2.bnd _ (by omega)
 ·cases k3 with
  |ret _ x hv=>exact .ret _ _ (CG hσ hv)
  |pan t v x hp=>exact .pan t v x hp
inductive Fzs (hF:List AO) (n:Nat):List AV->List AV->Prop where
 |nil:Fzs hF n [] []
 |one {a:AV} {q:PV} {l l':List AV}:View hF a q->Fzs hF n l l'->Fzs hF n (a::l) (.p q::l')
 |agg {cs cs' l l':List AV}:Fzs hF n cs cs'->Fzs hF n l l'->Fzs hF n (.agg cs::l) (.agg cs'::l')
 |tup {cs cs' l l':List AV}:Fzs hF n cs cs'->Fzs hF n l l'->Fzs hF n (.tup cs::l) (.tup cs'::l')
 |keep {a:AV} {l l':List AV}:below n a->Fzs hF n l l'->Fzs hF n (a::l) (a::l')
 |ptr {id esz i off:Nat} {es:List (List AV)} {e:List PV} {l l':List AV}:hF[id]?=some (.row esz es)->es[i]?=some (e.map .p)->Fzs hF n l l'->Fzs hF n (.ptr id esz i off::l) (.eptr e off::l')
theorem Fzs.len{hF:List AO}{n:Nat}:∀{l l':List AV},Fzs hF n l l'->l.length=l'.length
 |_,_,.nil=>rfl
 |_,_,.one _ r=>by simp[r.len]
 |_,_,.agg _ r=>by simp[r.len]
 |_,_,.tup _ r=>by simp[r.len]
 |_,_,.keep _ r=>by simp[r.len]
 |_,_,.ptr _ _ r=>by simp[r.len]
theorem Fzs.append{hF:List AO}{n:Nat}:∀{l l' m m':List AV},Fzs hF n l l'->Fzs hF n m m'->Fzs hF n (l++m) (l'++m')
 |_,_,_,_,.nil,h=>h
 |_,_,_,_,.one v r,h=> .one v (r.append h)
 |_,_,_,_,.agg v r,h=> .agg v (r.append h)
 |_,_,_,_,.tup v r,h=> .tup v (r.append h)
 |_,_,_,_,.keep v r,h=> .keep v (r.append h)
 |_,_,_,_,.ptr a b r,h=> .ptr a b (r.append h)
theorem vY{W:World}{S S':Nat->Prop}{φ:au}{n m:Nat}(hS:∀b,S b->S' b){v:AV}(hb:below m v){x:Value}(h:VRel W S φ n v x):VRel W S' φ m v x:=by
 induction h with
 |p v x hp=>exact .p _ _ (hp.mono λb hb=>⟨hS b hb,rfl⟩)
 |agg cs vs hs _ ih=>exact .agg cs vs hs λj c y h1 h2=>ih j c y h1 h2 (bg (by simpa[below] using hb) j c h1)
 |tup cs vs hs _ ih=>exact .tup cs vs hs λj c y h1 h2=>ih j c y h1 h2 (bg (by simpa[below] using hb) j c h1)
 |ptr id e i o _=>exact .ptr id e i o hb
 |sl id e o l cap ba _ h1 h2 h3=>exact .sl id e o l cap ba hb h1 h2 h3
 |mp id _=>exact .mp id hb
 |it id _=>exact .it id hb
 |eptr e off b o hb' hc=>
  exact .eptr e off b o (hS b hb') λj c hj=>by
   obtain⟨v,h1,h2⟩:=hc j c hj
   exact⟨v,h1,h2.mono λb hb=>⟨hS b hb,rfl⟩⟩
 |gp g off=>exact .gp g off
 |fn f caps vs hs _ ih=>exact .fn f caps vs hs λj c y h1 h2=>ih j c y h1 h2 (bg (by simpa[below] using hb) j c h1)
 |nils=>exact .nils
 |nilp=>exact .nilp
 |nilf=>exact .nilf
 |nilm=>exact .nilm
 |nili=>exact .nili
 |ifc t pv x hp=>exact .ifc _ _ _ (hp.mono λb hb=>⟨hS b hb,rfl⟩)
 |any x=>exact .any x
theorem Fzs.rel{W:World}{S:Nat->Prop}{φ:au}{hF:List AO}{n:Nat}(H:HRel G W S φ hF):∀{l l':List AV},Fzs hF n l l'->∀(j:Nat) (c c':AV) (x:Value),l[j]?=some c->l'[j]?=some c'->VRel W S φ hF.length c x->VRel W (λb=>S b\/fM φ hF b) φ n c' x/\(c.isCell=true->c'.isCell=true)
 |_,_,.nil,j,c,c',x,h1,_,_=>by simp at h1
 |_,_,.one hv r,j,c,c',x,h1,h2,hx=>by
  cases j with
  |zero=>simp at h1 h2;subst h1;subst h2;exact⟨.p _ _ (hv.prel H hx),λ_=>rfl⟩
  |succ j=>exact r.rel H j c c' x (by simpa using h1) (by simpa using h2) hx
 |_,_,.agg (cs:=cs0) hv r,j,c,c',x,h1,h2,hx=>by
  cases j with
  |zero=>
   simp at h1 h2;subst h1;subst h2
   cases hx with
   |agg cs vs hs hc=>
    refine⟨.agg _ vs (hs.trans hv.len) λi u y e1 e2=>?_,λh=>by cases h⟩
    obtain⟨u0,e0⟩:∃u0,cs0[i]?=some u0:=⟨_,List.getElem?_eq_getElem (by rw[hv.len];exact(List.getElem?_eq_some_iff.1 e1).1)⟩
    exact(hv.rel H i u0 u y e0 e1 (hc i u0 y e0 e2)).1
  |succ j=>exact r.rel H j c c' x (by simpa using h1) (by simpa using h2) hx
 |_,_,.tup (cs:=cs0) hv r,j,c,c',x,h1,h2,hx=>by
  cases j with
  |zero=>
   simp at h1 h2;subst h1;subst h2
   cases hx with
   |tup cs vs hs hc=>
    refine⟨.tup _ vs (hs.trans hv.len) λi u y e1 e2=>?_,λh=>by cases h⟩
    obtain⟨u0,e0⟩:∃u0,cs0[i]?=some u0:=⟨_,List.getElem?_eq_getElem (by rw[hv.len];exact(List.getElem?_eq_some_iff.1 e1).1)⟩
    exact(hv.rel H i u0 u y e0 e1 (hc i u0 y e0 e2)).1
  |succ j=>exact r.rel H j c c' x (by simpa using h1) (by simpa using h2) hx
 |_,_,.keep hb r,j,c,c',x,h1,h2,hx=>by
  cases j with
  |zero=>simp at h1 h2;subst h1;subst h2;exact⟨vY (λb hb=> .inl hb) hb hx,id⟩
  |succ j=>exact r.rel H j c c' x (by simpa using h1) (by simpa using h2) hx
 |_,_,.ptr (id:=pid) (esz:=esz) (i:=i) (off:=off) (es:=es) (e:=e) he hi r,j,c,c',x,h1,h2,hx=>by
  cases j with
  |zero=>
   simp at h1 h2;subst h1;subst h2
   refine⟨?_,λ_=>rfl⟩
   cases hx with
   |ptr _ _ _ _ hid=>
    obtain⟨ct,t,fr,a1,a2,a3,a4,a5⟩:=H.obj pid esz es he
    have hv:=VRel.eptr (W:=W) (S:=λb=>S b\/fM φ hF b) (φ:=φ) (n:=n) e off (φ pid).1 ((φ pid).2+i*esz) (.inr ⟨pid,bD he,rfl⟩) (λj q hq=>by
     have hle:(e.map AV.p).length=esz:=a3 _ (List.mem_of_getElem? hi)
     have hj:j<esz:=by
      have:=(List.getElem?_eq_some_iff.1 hq).1
      rw[List.length_map] at hle
      omega
     have hfl:es.flatten[i*esz+j]?=some (.p q):=by
      rw[bv a3 _ _ hj,hi];simp[hq]
     obtain⟨_,v,hv1,hv2⟩:=a5 _ _ hfl
     refine⟨v,?_,?_⟩
     ·simp only[World.cell?,a1]
      rw[Nat.add_assoc]
      simp[hv1]
     ·cases hv2 with
      |p _ _ hp=>exact hp.mono λb hb=>⟨.inl hb,rfl⟩)
    rw[Nat.add_assoc] at hv
    exact hv
  |succ j=>exact r.rel H j c c' x (by simpa using h1) (by simpa using h2) hx
inductive FzO (hF:List AO) (n:Nat):List AO->List AO->Prop where
 |nil (r:List AO):FzO hF n r []
 |same {o:AO} {r r1:List AO}:okO n o->FzO hF n r r1->FzO hF n (o::r) (o::r1)
 |one {sz:Nat} {e e1:List AV} {r r1:List AO}:Fzs hF n e e1->FzO hF n r r1->FzO hF n (.row sz [e]::r) (.row sz [e1]::r1)
 |rows {sz:Nat} {es es1:List (List AV)} {r r1:List AO}:es.length=es1.length->(∀(j:Nat) (e e1:List AV),es[j]?=some e->es1[j]?=some e1->Fzs hF n e e1)->FzO hF n r r1->FzO hF n (.row sz es::r) (.row sz es1::r1)
 |dead {o:AO} {r r1:List AO}:FzO hF n r r1->FzO hF n (o::r) (.dead::r1)
def FzI(hF:List AO)(n:Nat)(h:List AO)(i:Nat):AO->Prop
 | .row sz es1=>∃es,h[i]?=some (.row sz es)/\es.length=es1.length/\∀(j:Nat) (e e1:List AV),es[j]?=some e->es1[j]?=some e1->Fzs hF n e e1
 | .mp es=>h[i]?=some (.mp es)/\∀e∈es,below n e.2
 | .sit s p=>h[i]?=some (.sit s p)
 | .dead=>True
theorem Bw{hF:List AO}{n:Nat}:∀{l:List AV},ab n l->Fzs hF n l l
 |[],_=> .nil
 |_::_,h=> .keep h.1 (Bw h.2)
theorem FzO.get{hF:List AO}{n:Nat}:∀{h h1:List AO},FzO hF n h h1->∀(i:Nat) (o:AO),h1[i]?=some o->FzI hF n h i o
 |_,_,.nil _,i,o,e=>by simp at e
 |_,_,.same (o:=o0) ho r,i,o,e=>by
  cases i with
  |zero=>
   simp at e;subst e
   cases o0 with
   |dead=>trivial
   |row sz es=>exact⟨es,rfl,rfl,λj e e1 h1 h2=>by rw[h1] at h2;cases h2;exact Bw (ho e (List.mem_of_getElem? h1))⟩
   |mp es=>exact⟨rfl,ho⟩
   |sit s p=>exact rfl
  |succ i=>
   have:=r.get i o (by simpa using e)
   cases o<;>exact this
 |_,_,.one (e:=e0) (e1:=e01) hv r,i,o,e=>by
  cases i with
  |zero=>
   simp at e;subst e
   refine⟨_,rfl,rfl,λj e e1 h1 h2=>?_⟩
   cases j with
   |zero=>simp at h1 h2;subst h1;subst h2;exact hv
   |succ j=>simp at h1
  |succ i=>
   have:=r.get i o (by simpa using e)
   cases o<;>exact this
 |_,_,.rows hl hv r,i,o,e=>by
  cases i with
  |zero=>simp at e;subst e;exact⟨_,rfl,hl,hv⟩
  |succ i=>
   have:=r.get i o (by simpa using e)
   cases o<;>exact this
 |_,_,.dead r,i,o,e=>by
  cases i with
  |zero=>simp at e;subst e;trivial
  |succ i=>
   have:=r.get i o (by simpa using e)
   cases o<;>exact this
theorem sP{hF:List AO}{n:Nat}:∀{es es1:List (List AV)},es.length=es1.length->(∀(j:Nat) (e e1:List AV),es[j]?=some e->es1[j]?=some e1->Fzs hF n e e1)->Fzs hF n es.flatten es1.flatten
 |[],[],_,_=> .nil
 |e::r,e1::r1,hl,h=>by
  simp only[List.flatten_cons]
  exact(h 0 e e1 rfl rfl).append (sP (by simpa using hl) λj a b ha hb=>h (j+1) a b (by simpa using ha) (by simpa using hb))
 |[],_::_,hl,_=>by simp at hl
 |_::_,[],hl,_=>by simp at hl
def pw(n:Nat)(h:List AO):List AO:=List.replicate n .dead++h.drop n
theorem Kh{k n:Nat}{ts ts1:List AV}{h h1:List AO}(hk:k<=n)(hnl:n<=h.length)(hl:h1.length=n)(htl:ts.length=ts1.length)
 (hT:∀(i:Nat) (v1:AV),ts1[i]?=some v1->v1= .any\/∃v,ts[i]?=some v/\Fzs (pw n h) n [v] [v1])(ho:FzO (pw n h) n h h1):Wk k ts h ts1 h1:=by
 intro G W0 S0 φ0 h0 W S φ a ek s
 subst ek
 have k2:=s.hrel
 have k4:=s.keep
 have htn:(pw n h).length=h.length:=by simp[pw];omega
 have htg:∀{id o},(pw n h)[id]?=some o->o.live->n<=id/\h[id]?=some o:=λ{id o} e l=>by
  rcases Nat.lt_or_ge id n with hi|hi
  ·rw[pw,List.getElem?_append_left (by simpa using hi),List.getElem?_replicate,if_pos hi] at e
   cases e;exact l.elim
  ·rw[pw,List.getElem?_append_right (by simpa using hi),List.length_replicate,List.getElem?_drop,show n+(id-n)=id by omega] at e
   exact⟨hi,e⟩
 have HF:HRel G W S φ (pw n h):=by
  refine⟨λid sz es e=>?_,λid o e lo=>?_,λid id' ⟨o1,e1,l1⟩ ⟨o2,e2,l2⟩ he=>k2.inj _ _ ⟨_,(htg e1 l1).2,l1⟩ ⟨_,(htg e2 l2).2,l2⟩ he,λb hb=>⟨(k2.sep b hb).1,λid ⟨o1,e,l1⟩ he=>(k2.sep b hb).2 id ⟨_,(htg e l1).2,l1⟩ he⟩,λid hid=>k2.bnd id (by rwa[htn] at hid),k2.glob⟩
  ·rw[htn];exact k2.obj id sz es (htg e trivial).2
  ·rw[htn];exact k2.oobj id o (htg e lo).2 lo
 have hg:∀{i o},h1[i]?=some o->o.live->i<n/\Live h i:=λ{i o} e l=>by
  refine⟨by rw[←hl];exact(List.getElem?_eq_some_iff.1 e).1,?_⟩
  have:=ho.get i o e
  cases o with
  |dead=>exact l.elim
  |row sz es=>obtain⟨es',e',_⟩:=this;exact bD e'
  |mp es=>exact Aj this.1
  |sit s p=>exact uF this
 refine⟨(λb=>S b\/fM φ (pw n h) b),φ,⟨⟨λid sz es e=>?_,λid o e lo=>?_,λid id' ⟨o1,e1,l1⟩ ⟨o2,e2,l2⟩ he=>k2.inj _ _ (hg e1 l1).2 (hg e2 l2).2 he,λb hb=>⟨?_,λid ⟨o1,e,l1⟩ he=>?_⟩,λid hid=>k2.bnd id (by omega),λg cs hgl=>?_⟩,⟨s.trel.size.trans htl,λi v hi=>?_⟩,s.defers,?_⟩⟩
 ·obtain⟨es',e',hel,hef⟩:=ho.get id _ e
  obtain⟨c,t,fr,a1,a2,a3,a4,a5⟩:=k2.obj id sz es' e'
  have hall:=sP hel hef
  refine⟨c,t,fr,a1,a2,λx hx=>?_,by rw[←hel];exact a4,λj u hj=>?_⟩
  ·obtain⟨j,hj⟩:=List.getElem?_of_mem hx
   obtain⟨y,hy⟩:∃y,es'[j]?=some y:=⟨_,List.getElem?_eq_getElem (by rw[hel];exact(List.getElem?_eq_some_iff.1 hj).1)⟩
   rw[←(hef j y x hy hj).len];exact a3 y (List.mem_of_getElem? hy)
  ·obtain⟨u0,hu0⟩:∃u0,es'.flatten[j]?=some u0:=⟨_,List.getElem?_eq_getElem (by rw[hall.len];exact(List.getElem?_eq_some_iff.1 hj).1)⟩
   obtain⟨b1,v,b2,b3⟩:=a5 j u0 hu0
   obtain⟨c1,c2⟩:=hall.rel HF j u0 u v hu0 hj (by rw[htn];exact b3)
   exact⟨c2 b1,v,b2,by rw[hl];exact c1⟩
 ·have hi:=ho.get id o e
  cases o with
  |dead=>trivial
  |row sz es=>trivial
  |sit s p=>exact k2.oobj id _ hi trivial
  |mp es=>
   obtain⟨ents,clock,a1,a2,a3,a4⟩:=k2.oobj id _ hi.1 trivial
   refine⟨ents,clock,a1,a2,λj k a hj=>?_,a4⟩
   obtain⟨x,c1,c2,c3⟩:=a3 j k a hj
   exact⟨x,c1,c2,by rw[hl];exact vY (λb hb=> .inl hb) (hi.2 _ (List.mem_of_getElem? hj)) c3⟩
 ·rcases hb with hb|⟨id,⟨o,e,l⟩,he⟩
  ·exact(k2.sep b hb).1
  ·rw[←he];exact k2.bnd id (by rw[←htn];exact(List.getElem?_eq_some_iff.1 e).1)
 ·obtain⟨g1,g2⟩:=hg e l1
  rcases hb with hb|⟨id2,⟨o,e2,l⟩,he2⟩
  ·exact(k2.sep b hb).2 id g2 he
  ·obtain⟨g3,g4⟩:=htg e2 l
   have:=k2.inj _ _ g2 ⟨_,g4,l⟩ (he.trans he2.symm)
   omega
 ·obtain⟨g1,g2⟩:=k2.glob g cs hgl
  exact⟨.inl g1,λj c hj=>by obtain⟨v,q1,q2⟩:=g2 j c hj;exact⟨v,q1,q2.mono λb hb=>⟨.inl hb,rfl⟩⟩⟩
 ·rcases hT i v hi with rfl|⟨v0,e0,hv⟩
  ·exact .any _
  ·rw[hl]
   exact(hv.rel HF 0 v0 v _ rfl rfl (by rw[htn];exact s.trel.get i _ e0)).1
 ·exact{pure:=λb hb=>⟨.inl (k4.pure b hb).1,(k4.pure b hb).2⟩,len:=by omega,same:=k4.same
        blk:=k4.blk,os:=k4.os,tape:=k4.tape,output:=k4.output,size:=k4.size,out:=k4.out
        img:=λid ⟨o,e,l⟩=>k4.img id (hg e l).2
        newS:=λb hb=>by
         rcases hb with hb|⟨id,⟨o,e,l⟩,he⟩
         ·exact k4.newS b hb
         ·rcases k4.img id ⟨_,(htg e l).2,l⟩ with h2|⟨id2,h2,h3⟩
          ·exact .inr (.inl (by rw[←he];exact h2))
          ·exact .inr (.inr ⟨id2,h2,by rw[h3,he]⟩)}
theorem AC.wk{f:FuncId}{args:List AV}{h:List AO}{R R':ARes->List AO->Prop}(H:AC P G f args h R)(hp:∀t v h',R (.pan t v) h'->R' (.pan t v) h')
 (hw:∀v h',R (.ret v) h'->∃v1 h1,Wk h.length [v] h' [v1] h1/\R' (.ret v1) h1):AC P G f args h R':=by
 refine⟨H.1,λW S φ vs hH hA=>(H.2 W S φ vs hH hA).mono λe W' ⟨r,S',φ',h',k1,k2,k3,k4⟩=>?_⟩
 cases r with
 |pan t v=>exact⟨_,S',φ',h',hp t v h' k1,k2,k3,k4⟩
 |ret v=>
  cases k3 with
  |ret _ x hv=>
   obtain⟨v1,h1,w,hr⟩:=hw v h' k1
   have s:St G W S φ h W' S' φ' {tmps:=#[x],defers:=[]} [v] h':=⟨k2,⟨rfl,λi u hi=>by
    cases i with
    |zero=>simp at hi;subst hi;exact hv
    |succ i=>simp at hi⟩,rfl,k4⟩
   obtain⟨S1,φ1,s1⟩:=w G W S φ h W' S' φ' _ rfl s
   exact⟨.ret v1,S1,φ1,h1,hr,s1.hrel,.ret _ _ (s1.trel.get 0 v1 rfl),s1.keep⟩
theorem AC.frz{f:FuncId}{args:List AV}{h:List AO}{R R':ARes->List AO->Prop}(H:AC P G f args h R)(n:Nat)(hn:h.length<=n)(hp:∀t v h',R (.pan t v) h'->R' (.pan t v) h')
 (hw:∀v h',R (.ret v) h'->∃v1 h1,n<=h'.length/\h1.length=n/\Fzs (pw n h') n [v] [v1]/\FzO (pw n h') n h' h1/\R' (.ret v1) h1):AC P G f args h R':=
 H.wk hp λv h' r=>by
  obtain⟨v1,h1,a1,a2,a3,a4,a5⟩:=hw v h' r
  exact⟨v1,h1,Kh hn a1 a2 rfl (λi u hi=>by
   cases i with
   |zero=>simp at hi;subst hi;exact .inr ⟨v,rfl,a3⟩
   |succ i=>simp at hi) a4,a5⟩
end Go.Aw
namespace Go.Aw
variable {P:Program} {G:az}
theorem pM{σ:List Nat}{n:Nat}(hσ:∀i,i<n->σ.getD i 0=i):∀v:AV,below n v->ren σ v=v:=by
 have key:∀(s:Nat),(∀v:AV,SizeOf.sizeOf v<s->below n v->ren σ v=v)/\(∀l:List AV,SizeOf.sizeOf l<s->ab n l->aF σ l=l):=by
  intro s
  induction s with
  |zero=>exact⟨λv h=>by omega,λl h=>by omega⟩
  |succ s ih=>
   refine⟨λv hs hb=>?_,λl hs hb=>?_⟩
   ·cases v<;>simp only[ren,below] at hb⊢ <;>first
     |rfl
     |(rw[ih.2 _ (by simp at hs;omega) hb])
     |(rw[hσ _ hb])
   ·cases l with
    |nil=>rfl
    |cons v r=>
     simp only[aF];rw[ih.1 v (by simp at hs;omega) hb.1,ih.2 r (by simp at hs;omega) hb.2]
 exact λv=>(key _).1 v (Nat.lt_succ_self _)
theorem mt{σ:List Nat}{n:Nat}(hσ:∀i,i<n->σ.getD i 0=i):∀l:List AV,ab n l->aF σ l=l
 |[],_=>rfl
 |v::r,h=>by simp only[aF];rw[pM hσ v h.1,mt hσ r h.2]
theorem GF{σ:List Nat}{n:Nat}(hσ:∀i,i<n->σ.getD i 0=i):∀o:AO,okO n o->nM σ o=o
 | .row sz es,h=>by
   simp only[nM];rw[List.map_congr_left (g:=id) λe he=>mt hσ e (h e he)];simp
 | .mp es,h=>by
   simp only[nM];rw[List.map_congr_left (g:=id) λe he=>by rw[pM hσ e.2 (h e he)];rfl];simp
 | .sit s p,_=>rfl
 | .dead,_=>rfl
theorem AC.known{f:FuncId}{args:List AV}{h:List AO}{R:ARes->List AO->Prop}(H:AC P G f args h R):AC P G f args h λx h'=>R x h'/\HB h'/\(∀v,x= .ret v->below h'.length v)/\h.length<=h'.length:=
 ⟨H.1,λW S φ vs a b=>(H.2 W S φ vs a b).mono λ_ _ ⟨r,S',φ',h',k1,k2,k3,k4⟩=>⟨r,S',φ',h',⟨k1,k2.hb,λv e=>by
   subst e
   cases k3 with
   |ret _ x hv=>exact hv.isBelow,k4.len⟩,k2,k3,k4⟩⟩
theorem Ea:∀(a b rest:List AO) (n:Nat),b.length=a.length->∀pre:List AO,pre.length=n->mrg (pre++a++rest) (List.range' n a.length) b=pre++b++rest
 |[],[],rest,n,_,pre,_=>by simp[mrg]
 |x::a,y::b,rest,n,hl,pre,hp=>by
  simp only[List.length_cons,List.range'_succ,mrg]
  have e:(pre++x::a++rest).set n y=(pre++[y])++a++rest:=by
   subst hp
   rw[List.append_assoc,List.set_append_right _ _ (Nat.le_refl _),Nat.sub_self];simp
  rw[e,Ea a b rest (n+1) (by simpa using hl) (pre++[y]) (by simp[hp])]
  simp
 |[],_::_,_,_,hl,_,_=>by simp at hl
 |_::_,[],_,_,hl,_,_=>by simp at hl
theorem Mf{n:Nat}{h0 rest:List AO}(hn:h0.length=n)(ho:∀o∈h0,okO n o):HW (List.range' 0 n) (h0++rest) (List.range' 0 n) h0:=by
 have hσ:∀i,i<n->(List.range' 0 n).getD i 0=i:=λi hi=>by simp[List.getD_eq_getElem?_getD,hi]
 have key:∀(l:List AO) (k:Nat),k+l.length=n->(∀i,l[i]?=h0[k+i]?)->HW (List.range' 0 n) (h0++rest) (List.range' k l.length) l:=by
  intro l
  induction l with
  |nil=>intro _ _ _;exact trivial
  |cons o r ih=>
   intro k hk hg
   have h0k:=hg 0
   simp at h0k hk
   have hm:o∈h0:=List.mem_of_getElem? h0k.symm
   have hget:(h0++rest)[k]?=some o:=by rw[List.getElem?_append_left (by omega)];exact h0k.symm
   refine⟨by simp;omega,?_,ih (k+1) (by omega) λi=>by have:=hg (i+1);simp at this;rw[this];congr 1;omega⟩
   have hoo:=ho o hm
   cases o with
   |dead=>trivial
   |row sz es=>exact⟨λe he=>by simpa using hoo e he,by rw[hget,List.map_congr_left (g:=id) λe he=>mt hσ e (hoo e he)];simp⟩
   |mp es=>exact⟨λe he=>by simpa using hoo e he,by rw[hget,List.map_congr_left (g:=id) λe he=>by rw[pM hσ e.2 (hoo e he)];rfl];simp⟩
   |sit s p=>exact hget
 have:=key h0 0 (by omega) (λi=>by simp)
 rwa[hn] at this
theorem HS{n:Nat}:∀{args:List AV},ab n args->TW (List.range' 0 n) args args
 |[],_=>trivial
 |v::r,h=>⟨.inr ⟨by simpa using h.1,pM (λi hi=>by simp[List.getD_eq_getElem?_getD,hi]) v h.1⟩,HS h.2⟩
theorem AC.pre{f:FuncId}{args:List AV}{h0:List AO}{R:ARes->List AO->Prop}(H:AC P G f args h0 R)(rest:List AO)(hb:ab h0.length args)(ho:∀o∈h0,okO h0.length o)
 (hl:∀x h',R x h'->h'.length=h0.length):AC P G f args (h0++rest) λx h'=>∃h1,R x h1/\h'=h1++rest:=by
 refine(H.known.frame (List.range' 0 h0.length) List.nodup_range' (HS hb) (Mf rfl ho)).mono λx h' ⟨x0,h1,⟨r,hbb,hv,_⟩,_,e1,e2⟩=>?_
 have hl1:=hl _ _ r
 have hσ:∀i,i<h0.length->(List.range' 0 h0.length++List.range' (h0++rest).length (h1.length-h0.length)).getD i 0=i:=λi hi=>by
  rw[List.getD_eq_getElem?_getD,List.getElem?_append_left (by simpa using hi)];simp[hi]
 have hoo:∀o∈h1,okO h0.length o:=λo ho=>by
  obtain⟨i,hi⟩:=List.getElem?_of_mem ho
  cases o with
  |dead=>trivial
  |row sz es=>intro e he;have:=(hbb.1 i sz es hi e he).2.1;rwa[hl1] at this
  |mp es=>intro e he;have:=hbb.2 i es hi e he;rwa[hl1] at this
  |sit s p=>trivial
 have em:h1.map (nM (List.range' 0 h0.length++List.range' (h0++rest).length (h1.length-h0.length)))=h1:=by
  rw[List.map_congr_left (g:=id) λo ho=>GF hσ o (hoo o ho)];simp
 refine⟨h1,?_,?_⟩
 ·subst e1
  cases x0 with
  |pan t v=>exact r
  |ret v=>
   have:=hv v rfl
   rw[hl1] at this
   simp only[Ir]
   rw[pM hσ v this];exact r
 ·rw[e2,List.take_of_length_le (by omega),List.drop_of_length_le (by omega),em,List.map_nil,List.append_nil]
  have:=Ea h0 h1 rest 0 hl1 [] rfl
  simpa using this
def Cuts:List AO->List AO->Prop
 |[],[]=>True
 |o::r,o1::r1=>(o1=o\/∃sz es k,o= .row sz es/\o1= .row sz (es.take k))/\Cuts r r1
 |_,_=>False
theorem Cuts.get:∀{h h1:List AO},Cuts h h1->h.length=h1.length/\∀(i:Nat) (o1:AO),h1[i]?=some o1->∃o,h[i]?=some o/\(o1=o\/∃sz es k,o= .row sz es/\o1= .row sz (es.take k))
 |[],[],_=>⟨rfl,λi o e=>by simp at e⟩
 |o::r,o1::r1,hc=>by
  obtain⟨c1,c2⟩:=hc
  obtain⟨g1,g2⟩:=Cuts.get c2
  refine⟨by simp[g1],λi u e=>?_⟩
  cases i with
  |zero=>simp at e;subst e;exact⟨o,rfl,c1⟩
  |succ i=>simp at e;simpa using g2 i u e
 |[],_::_,hc=>hc.elim
 |_::_,[],hc=>hc.elim
end Go.Aw
namespace Go.Aw
section
variable {H:Type} {enc:TypeId × Value->H} {P:Program} {W:World} {sp:Nat->Bool} {held:Bool} {L:List TypeId} {ub:DataW H->Nat}
end
end Go.Aw
namespace Go.Aw
theorem AC.lendR{P:Program}{G:az}{f:FuncId}{args pargs:List AV}{R:ARes->List AO->Prop}(H:AC P G f pargs [] R){h:List AO}(hv:Views h args pargs)(hp:∀t v h1,¬R (.pan t v) h1)(hc:∀v h1,R (.ret v) h1->clean v=true/\h1.all cleanO=true):
 AC P G f args h λx h'=>∃r h1,R (.ret r) h1/\x= .ret (aY h.length r)/\h'=h++h1.map (aX h.length):=by
 refine⟨H.1,λW S φ vs hH hA=>?_⟩
 have h0:HRel G W (λb=>S b\/fM φ h b) φ []:=⟨λid sz es e=>by simp at e,λid o e _=>by simp at e,λid id' e=>(aH e).elim,λb hb=>⟨by
  rcases hb with hb|⟨id,e,he⟩
  ·exact(hH.sep b hb).1
  ·rw[←he];exact hH.bnd id e.lt,λid e=>(aH e).elim⟩,λid hid=>by simp at hid,λg cs hg=>by
  obtain⟨g1,g2⟩:=hH.glob g cs hg
  exact⟨.inl g1,λj c hj=>by obtain⟨v,k1,k2⟩:=g2 j c hj;exact⟨v,k1,k2.mono λb hb=>⟨.inl hb,rfl⟩⟩⟩⟩
 refine(H.2 W _ φ vs h0 ⟨by rw[hA.1,hv.len],λj c v h1 h2=>?_⟩).mono λe W' ⟨x,S',φ',h',k0,k2,k3,k4⟩=>?_
 ·have hj:j<vs.size:=(Array.getElem?_eq_some_iff.1 h2).1
  have hjl:j<args.length:=by rw[←hA.1];exact hj
  exact hv.rel hH j _ c v (List.getElem?_eq_getElem hjl) h1 (hA.2 j _ v (List.getElem?_eq_getElem hjl) h2)
 obtain⟨r,rfl⟩:∃r,x= .ret r:=by
  cases x with
  |ret v=>exact⟨v,rfl⟩
  |pan t v=>exact(hp _ _ _ k0).elim
 obtain⟨hr,hh⟩:=hc _ _ k0
 have hout:∀b,b<W.heap.size->W'.heap[b]?=W.heap[b]?:=λb hb=>k4.out b hb λid e=>(aH e).elim
 have hlt:∀{id:Nat} {o:AO},h[id]?=some o->id<h.length:=λe=>(List.getElem?_eq_some_iff.1 e).1
 have himg:∀id,Live h' id->W.heap.size<=(φ' id).1:=λid e=>by
  rcases k4.img id e with h2|⟨id2,h2,_⟩
  ·exact h2
  ·exact(aH h2).elim
 have hφ:∀{i},i<h.length->gb h.length φ φ' i=φ i:=λhi=>by simp[gb,hi]
 have hφ':∀i,gb h.length φ φ' (h.length+i)=φ' i:=λi=>dc _ _ _ i
 have hget:∀{i o},(h++h'.map (aX h.length))[i]?=some o->(i<h.length/\h[i]?=some o)\/(∃k o',i=h.length+k/\h'[k]?=some o'/\o=aX h.length o'):=λ{i o} e=>by
  rcases Nat.lt_or_ge i h.length with hi|hi
  ·rw[List.getElem?_append_left hi] at e;exact .inl ⟨hi,e⟩
  ·rw[List.getElem?_append_right hi,List.getElem?_map,Option.map_eq_some_iff] at e
   obtain⟨o,e2,e3⟩:=e
   exact .inr ⟨_,o,by omega,e2,e3.symm⟩
 have hsl:∀{o:AO},(aX h.length o).live->o.live:=λ{o} l=>by cases o<;>exact l
 have K:Keep W S φ h W' S (gb h.length φ φ') (h++h'.map (aX h.length)):=
  {pure:=λb hb=>⟨hb,hout b (hH.sep b hb).1⟩,len:=by simp,same:=λ_ hid=>hφ hid
   blk:=λid hid c t fr e=>⟨c,t,fr,by rw[←hout _ (hH.bnd id hid)];exact e,rfl⟩
   os:=k4.os,tape:=k4.tape,output:=k4.output,size:=k4.size,out:=λb hb _=>hout b hb
   img:=λid ⟨o,e,l⟩=>by
    rcases hget e with⟨hi,e'⟩|⟨k,o',rfl,e',rfl⟩
    ·exact .inr ⟨id,⟨_,e',l⟩,by rw[hφ hi]⟩
    ·rw[hφ'];exact .inl (himg _ ⟨_,e',hsl l⟩)
   newS:=λb hb=> .inl hb}
 have hlen:(h++h'.map (aX h.length)).length=h.length+h'.length:=by simp
 refine⟨.ret (aY h.length r),S,gb h.length φ φ',_,⟨r,h',k0,rfl,rfl⟩,⟨λid sz es e=>?_,λid o1 e lo=>?_,λid id' ⟨o1,e1,l1⟩ ⟨o2,e2,l2⟩ he=>?_,λb hb=>⟨Nat.lt_of_lt_of_le (hH.sep b hb).1 k4.size,λid ⟨o1,e,l1⟩ he=>?_⟩,λid hid=>?_,λg cs hg=>?_⟩,?_,K⟩
 ·rcases hget e with⟨hi,e'⟩|⟨k,o',rfl,e',eo⟩
  ·obtain⟨c,t,fr,a1,a2,a3,a4,a5⟩:=hH.obj id sz es e'
   refine⟨c,t,fr,by rw[hφ hi,hout _ (hH.bnd id hi)];exact a1,a2,a3,by rw[hφ hi];exact a4,λj u hj=>?_⟩
   obtain⟨b1,v,b2,b3⟩:=a5 j u hj
   exact⟨b1,v,by rw[hφ hi];exact b2,b3.kept K.toKept⟩
  ·obtain⟨es',rfl,rfl⟩:∃es',o'= .row sz es'/\es=es'.map (bi h.length):=by cases o'<;>cases eo;exact⟨_,rfl,rfl⟩
   obtain⟨c,t,fr,a1,a2,a3,a4,a5⟩:=k2.obj k sz es' e'
   refine⟨c,t,fr,by rw[hφ'];exact a1,a2,λe he=>?_,by rw[hφ'];simpa using a4,λj u hj=>?_⟩
   ·obtain⟨e0,he0,rfl⟩:=List.mem_map.1 he
    rw[bu];simpa using a3 e0 he0
   ·have hfl:(es'.map (bi h.length)).flatten=es'.flatten.map (aY h.length):=by
     rw[List.map_flatten];congr 1;exact List.map_congr_left λl _=>bu _ l
    rw[hfl,List.getElem?_map,Option.map_eq_some_iff] at hj
    obtain⟨u0,hj,rfl⟩:=hj
    obtain⟨b1,v,b2,b3⟩:=a5 j u0 hj
    have hcl:clean u0=true:=by
     have h3:=List.all_eq_true.1 hh _ (List.mem_of_getElem? e')
     simp only[cleanO] at h3
     obtain⟨l,hl,hu⟩:=List.mem_flatten.1 (List.mem_of_getElem? hj)
     have h4:=List.all_eq_true.1 h3 l hl
     obtain⟨q,hq⟩:=List.getElem?_of_mem hu
     exact gh h4 q u0 hq
    exact⟨by rw[lh];exact b1,v,by rw[hφ'];exact b2,by rw[hlen];exact iB b3 hcl⟩
 ·rcases hget e with⟨hi,e'⟩|⟨k,o',rfl,e',eo⟩
  ·rw[hφ hi,hout _ (hH.bnd id hi)]
   exact(hH.oobj id o1 e' lo).mono λa v r=>r.kept K.toKept
  ·subst eo
   rw[hφ']
   have hq:=k2.oobj k o' e' (hsl lo)
   cases o' with
   |dead=>trivial
   |row sz es=>trivial
   |sit t pos=>exact hq
   |mp es'=>
    obtain⟨ents,clock,a1,a2,a3,a4⟩:=hq
    refine⟨ents,clock,a1,by simpa using a2,λj k a hj=>?_,a4⟩
    rw[List.getElem?_map,Option.map_eq_some_iff] at hj
    obtain⟨⟨k0,a0⟩,hj,hk⟩:=hj
    cases hk
    obtain⟨x,c1,c2,c3⟩:=a3 j _ _ hj
    have hcl:clean a0=true:=by
     have h3:=List.all_eq_true.1 hh _ (List.mem_of_getElem? e')
     simp only[cleanO] at h3
     exact List.all_eq_true.1 h3 _ (List.mem_of_getElem? hj)
    exact⟨x,c1,c2,by rw[hlen];exact iB c3 hcl⟩
 ·rcases hget e1 with⟨hi,e1'⟩|⟨k,_,rfl,e1',rfl⟩<;>rcases hget e2 with⟨hi',e2'⟩|⟨k',_,rfl,e2',rfl⟩
  ·rw[hφ hi,hφ hi'] at he;exact hH.inj _ _ ⟨_,e1',l1⟩ ⟨_,e2',l2⟩ he
  ·rw[hφ hi,hφ'] at he
   have:=himg _ ⟨_,e2',hsl l2⟩
   have:=hH.bnd id hi
   omega
  ·rw[hφ hi',hφ'] at he
   have:=himg _ ⟨_,e1',hsl l1⟩
   have:=hH.bnd id' hi'
   omega
  ·rw[hφ',hφ'] at he;rw[k2.inj _ _ ⟨_,e1',hsl l1⟩ ⟨_,e2',hsl l2⟩ he]
 ·rcases hget e with⟨hi,e'⟩|⟨k,_,rfl,e',rfl⟩
  ·rw[hφ hi] at he;exact(hH.sep b hb).2 _ ⟨_,e',l1⟩ he
  ·rw[hφ'] at he
   have:=himg _ ⟨_,e',hsl l1⟩
   have:=(hH.sep b hb).1
   omega
 ·rcases Nat.lt_or_ge id h.length with hi|hi
  ·rw[hφ hi];exact Nat.lt_of_lt_of_le (hH.bnd id hi) k4.size
  ·have hid':id-h.length<h'.length:=by rw[hlen] at hid;omega
   have:=hφ' (id-h.length)
   rw[show h.length+(id-h.length)=id by omega] at this
   rw[this]
   exact k2.bnd _ hid'
 ·obtain⟨g1,g2⟩:=hH.glob g cs hg
  refine⟨g1,λj c hj=>?_⟩
  obtain⟨v,v1,v2⟩:=g2 j c hj
  exact⟨v,by rw[aW (K.pure g g1).2];exact v1,v2.mono K.pure⟩
 ·cases k3 with
  |ret _ x hv=>rw[hlen];exact .ret _ _ (iB hv hr)
def BI:PV->Bool
 | .lst _ (_::_)=>false
 | .tbl _ _=>false
 |_=>true
inductive OwnL (s:Bool) (h:List AO):List AV->List PV->List Nat->Prop where
 |nil:OwnL s h [] [] []
 |p (q:PV) {vs:List AV} {qs:List PV} {I:List Nat}:(s=true->BI q=true)->OwnL s h vs qs I->OwnL s h (.p q::vs) (q::qs) I
 |nils (sz:Nat) {vs:List AV} {qs:List PV} {I:List Nat}:OwnL s h vs qs I->OwnL s h (.nils::vs) (.lst sz []::qs) I
 |sl (id sz n:Nat) (rows:List (List AV)) (es:List (List PV)) {J:List Nat} {vs:List AV} {qs:List PV} {I:List Nat}:h[id]?=some (.row sz rows)->n=es.length->rows.length=es.length->
   (∀e∈rows,e.length=sz)->(∀e∈es,e.length=sz)->OwnL s h rows.flatten es.flatten J->OwnL s h vs qs I->OwnL s h (.sl id sz 0 n::vs) (.lst sz es::qs) (id::(J++I))
section
variable {s:Bool} {h h':List AO} {vs:List AV} {qs:List PV} {I:List Nat}
theorem OwnL.len(H:OwnL s h vs qs I):vs.length=qs.length:=by
 induction H with
 |nil=>rfl
 |p q _ _ ih=>simp[ih]
 |nils sz _ ih=>simp[ih]
 |sl id sz n rows es _ _ _ _ _ _ _ _ ih=>simp[ih]
theorem OwnL.frame(H:OwnL s h vs qs I)(e:∀i∈I,h'[i]?=h[i]?):OwnL s h' vs qs I:=by
 induction H with
 |nil=>exact .nil
 |p q hq _ ih=>exact .p q hq (ih e)
 |nils sz _ ih=>exact .nils sz (ih e)
 |sl id sz n rows es a1 a2 a3 a4 a5 _ _ ih1 ih2=>
  exact .sl id sz n rows es (by rw[e _ (by simp)];exact a1) a2 a3 a4 a5 (ih1 λi hi=>e i (by simp[hi])) (ih2 λi hi=>e i (by simp[hi]))
theorem OwnL.more(H:OwnL s h vs qs I)(os:List AO):OwnL s (h++os) vs qs I:=by
 induction H with
 |nil=>exact .nil
 |p q hq _ ih=>exact .p q hq ih
 |nils sz _ ih=>exact .nils sz ih
 |sl id sz n rows es a1 a2 a3 a4 a5 _ _ ih1 ih2=>
  exact .sl id sz n rows es (by rw[List.getElem?_append_left (List.getElem?_eq_some_iff.1 a1).1];exact a1) a2 a3 a4 a5 ih1 ih2
theorem OwnL.set_out(H:OwnL s h vs qs I){id:Nat}(hn:id∉I)(o:AO):OwnL s (h.set id o) vs qs I:=
 H.frame λi hi=>List.getElem?_set_ne (by rintro rfl;exact hn hi)
theorem OwnL.ids(H:OwnL s h vs qs I):∀i∈I,∃sz rows,h[i]?=some (.row sz rows):=by
 induction H with
 |nil=>intro i hi;cases hi
 |p q hq _ ih=>exact ih
 |nils sz _ ih=>exact ih
 |sl id sz n rows es a1 a2 a3 a4 a5 _ _ ih1 ih2=>
  intro i hi
  simp only[List.mem_cons,List.mem_append] at hi
  rcases hi with rfl|hi|hi
  ·exact⟨_,_,a1⟩
  ·exact ih1 i hi
  ·exact ih2 i hi
theorem OwnL.lt(H:OwnL s h vs qs I){i:Nat}(hi:i∈I):i<h.length:=by
 obtain⟨_,_,e⟩:=H.ids i hi
 exact(List.getElem?_eq_some_iff.1 e).1
theorem OwnL.app{a b:List AV}{c d:List PV}{J:List Nat}(H:OwnL s h a c I)(H2:OwnL s h b d J):OwnL s h (a++b) (c++d) (I++J):=by
 induction H with
 |nil=>exact H2
 |p q hq _ ih=>exact .p q hq ih
 |nils sz _ ih=>exact .nils sz ih
 |sl id sz n rows es a1 a2 a3 a4 a5 a6 _ ih1 ih2=>
  have:=OwnL.sl id sz n rows es a1 a2 a3 a4 a5 a6 ih2
  simpa only[List.cons_append,List.append_assoc] using this
theorem OwnL.split:∀{a b:List AV} {c d:List PV} {I:List Nat},OwnL s h (a++b) (c++d) I->a.length=c.length->∃I1 I2,I=I1++I2/\OwnL s h a c I1/\OwnL s h b d I2
 |[],b,[],d,I,H,_=>⟨[],I,rfl,.nil,H⟩
 |v::a,b,q::c,d,I,H,hl=>by
  simp only[List.cons_append] at H
  have hl':a.length=c.length:=by simpa using hl
  cases H with
  |p _ hq H=>
   obtain⟨I1,I2,e,h1,h2⟩:=OwnL.split H hl'
   exact⟨I1,I2,e,.p _ hq h1,h2⟩
  |nils sz H=>
   obtain⟨I1,I2,e,h1,h2⟩:=OwnL.split H hl'
   exact⟨I1,I2,e,.nils _ h1,h2⟩
  |sl id sz n rows es a1 a2 a3 a4 a5 a6 H=>
   obtain⟨I1,I2,e,h1,h2⟩:=OwnL.split H hl'
   subst e
   exact⟨_::(_++I1),I2,by simp,.sl id sz n rows es a1 a2 a3 a4 a5 a6 h1,h2⟩
 |[],_,_::_,_,_,_,hl=>by simp at hl
 |_::_,_,[],_,_,_,hl=>by simp at hl
theorem OwnL.one{v:AV}{q:PV}{vs:List AV}{qs:List PV}(H:OwnL s h (v::vs) (q::qs) I):∃I1 I2,I=I1++I2/\OwnL s h [v] [q] I1/\OwnL s h vs qs I2:=
 OwnL.split (a:=[v]) (c:=[q]) H rfl
theorem uv{α:Type}{sz:Nat}:∀{l:List (List α)},(∀e∈l,e.length=sz)->l.flatten.length=l.length*sz
 |[],_=>by simp
 |e::r,hl=>by
  rw[List.flatten_cons,List.length_append,uv (λx hx=>hl x (List.mem_cons_of_mem _ hx)),hl e (List.mem_cons_self ..),List.length_cons,Nat.succ_mul];omega
theorem pP{α:Type}{l:List α}{i:Nat}{x:α}(e:l[i]?=some x):l=l.take i++x::l.drop (i+1):=by
 obtain⟨hi,e⟩:=List.getElem?_eq_some_iff.1 e
 rw[←e,←List.drop_eq_getElem_cons hi,List.take_append_drop]
theorem ow{α:Type}{l:List α}{i:Nat}(x:α)(hi:i<l.length):l.set i x=l.take i++x::l.drop (i+1):=by
 rw[List.set_eq_take_append_cons_drop,if_pos hi]
theorem OwnL.put{sz:Nat}{rows:List (List AV)}{es:List (List PV)}{J:List Nat}(H:OwnL s h rows.flatten es.flatten J)(hl:rows.length=es.length)(hr:∀e∈rows,e.length=sz)(he:∀e∈es,e.length=sz){i:Nat}{e:List PV}(hi:es[i]?=some e):
 ∃r J1 Ji J2,rows[i]?=some r/\J=J1++(Ji++J2)/\OwnL s h r e Ji/\∀(h':List AO) (r':List AV) (e':List PV) (Ji':List Nat),(∀j∈J1++J2,h'[j]?=h[j]?)->OwnL s h' r' e' Ji'->OwnL s h' (rows.set i r').flatten (es.set i e').flatten (J1++(Ji'++J2)):=by
 have hil:i<es.length:=(List.getElem?_eq_some_iff.1 hi).1
 have hir:i<rows.length:=by omega
 have e1:=List.getElem?_eq_getElem hir
 have d1:=pP e1
 have d2:=pP hi
 generalize rows[i]=r at e1 d1
 have t1:(rows.take i).flatten.length=(es.take i).flatten.length:=by
  rw[uv (λx hx=>hr x (List.mem_of_mem_take hx)),uv (λx hx=>he x (List.mem_of_mem_take hx)),List.length_take,List.length_take,hl]
 have t2:r.length=e.length:=by rw[hr r (List.mem_of_getElem? e1),he e (List.mem_of_getElem? hi)]
 have H0:=H
 rw[d1,d2,List.flatten_append,List.flatten_append,List.flatten_cons,List.flatten_cons] at H0
 obtain⟨J1,J3,rfl,k1,k2⟩:=OwnL.split H0 t1
 obtain⟨Ji,J2,rfl,k3,k4⟩:=OwnL.split k2 t2
 refine⟨r,J1,Ji,J2,e1,rfl,k3,λh' r' e' Ji' hf ho=>?_⟩
 rw[ow _ hir,ow _ hil,List.flatten_append,List.flatten_append,List.flatten_cons,List.flatten_cons]
 exact(k1.frame λj hj=>hf j (by simp[hj])).app (ho.app (k4.frame λj hj=>hf j (by simp[hj])))
theorem OwnL.view(H:OwnL s h vs qs I):∀(j:Nat) (v:AV) (q:PV),vs[j]?=some v->qs[j]?=some q->View h v q:=by
 induction H with
 |nil=>intro j v q e;simp at e
 |p q hq _ ih=>
  intro j v q' e1 e2
  cases j with
  |zero=>cases e1;cases e2;exact .p _
  |succ j=>exact ih j v q' (by simpa using e1) (by simpa using e2)
 |nils sz _ ih=>
  intro j v q' e1 e2
  cases j with
  |zero=>cases e1;cases e2;exact .nils _
  |succ j=>exact ih j v q' (by simpa using e1) (by simpa using e2)
 |sl id sz n rows es a1 a2 a3 a4 a5 _ _ ih1 ih2=>
  intro j v q' e1 e2
  cases j with
  |succ j=>exact ih2 j v q' (by simpa using e1) (by simpa using e2)
  |zero=>
   cases e1;cases e2;subst a2
   refine .sl id sz 0 rows es a1 (by omega) a5 λi j e q e' a b1 b2 b3 b4=>?_
   rw[Nat.zero_add] at b3
   have hj:j<sz:=by
    have:=(List.getElem?_eq_some_iff.1 b2).1
    rw[a5 e (List.mem_of_getElem? b1)] at this;exact this
   exact ih1 (i*sz+j) a q (by rw[bv a4 i j hj,b3];exact b4) (by rw[bv a5 i j hj,b1];exact b2)
theorem OwnL.views(H:OwnL s h vs qs I):Views h vs (qs.map .p):=by
 have hv:=H.view
 have hl:=H.len
 clear H
 induction vs generalizing qs with
 |nil=>
  cases qs with
  |nil=>exact .nil
  |cons q qs=>simp at hl
 |cons v vs ih=>
  cases qs with
  |nil=>simp at hl
  |cons q qs=>exact .one (hv 0 v q rfl rfl) (ih (λj v q e1 e2=>hv (j+1) v q (by simpa using e1) (by simpa using e2)) (by simpa using hl))
theorem OwnL.blw(H:OwnL s h vs qs I):ab h.length vs:=by
 induction H with
 |nil=>exact True.intro
 |p q hq _ ih=>exact⟨True.intro,ih⟩
 |nils sz _ ih=>exact⟨True.intro,ih⟩
 |sl id sz n rows es a1 _ _ _ _ _ _ _ ih2=>exact⟨(List.getElem?_eq_some_iff.1 a1).1,ih2⟩
theorem OwnL.ren{σ:List Nat}(H:OwnL s h vs qs I)(hσ:∀i∈I,∀sz rows,h[i]?=some (.row sz rows)->h'[σ.getD i 0]?=some (.row sz (rows.map (aF σ)))):OwnL s h' (aF σ vs) qs (I.map λi=>σ.getD i 0):=by
 induction H with
 |nil=>exact .nil
 |p q hq _ ih=>exact .p q hq (ih hσ)
 |nils sz _ ih=>exact .nils sz (ih hσ)
 |sl id sz n rows es a1 a2 a3 a4 a5 _ _ ih1 ih2=>
  have k1:=ih1 λi hi=>hσ i (by simp[hi])
  rw[←fF] at k1
  have:=OwnL.sl (s:=s) (σ.getD id 0) sz n (rows.map (aF σ)) es (hσ id (by simp) _ _ a1) a2 (by simpa using a3) (λe he=>by obtain⟨e0,he0,rfl⟩:=List.mem_map.1 he;rw[bT];exact a4 e0 he0) a5 k1 (ih2 λi hi=>hσ i (by simp[hi]))
  simpa[aF,Go.Aw.ren] using this
theorem xW(n:Nat)(es:List (List AV)):(es.map (bi n)).flatten=bi n es.flatten:=by
 rw[bu,List.map_flatten];congr 1;exact List.map_congr_left λl _=>bu n l
theorem OwnL.shift(H:OwnL s h vs qs I)(pre:List AO):OwnL s (pre++h.map (aX pre.length)) (bi pre.length vs) qs (I.map λi=>pre.length+i):=by
 induction H with
 |nil=>exact .nil
 |p q hq _ ih=>exact .p q hq ih
 |nils sz _ ih=>exact .nils sz ih
 |sl id sz n rows es a1 a2 a3 a4 a5 _ _ ih1 ih2=>
  rw[←xW] at ih1
  have:=OwnL.sl (s:=s) (h:=pre++h.map (aX pre.length)) (pre.length+id) sz n (rows.map (bi pre.length)) es (by rw[List.getElem?_append_right (by omega),Nat.add_sub_cancel_left,List.getElem?_map,a1];rfl) a2 (by simpa using a3) (λe he=>by obtain⟨e0,he0,rfl⟩:=List.mem_map.1 he;rw[bu,List.length_map];exact a4 e0 he0) a5 ih1 ih2
  simpa[bi,aY] using this
theorem OwnL.clean(H:OwnL true h vs qs I):dk vs=true:=by
 induction H with
 |nil=>rfl
 |p q hq _ ih=>
  have:=hq rfl
  simp only[dk,Bool.and_eq_true]
  refine⟨?_,ih⟩
  match q,this with
  | .bool _,_=>rfl
  | .int _ _,_=>rfl
  | .str _,_=>rfl
  | .lst _ [],_=>rfl
 |nils sz _ ih=>simpa[dk,Go.Aw.clean] using ih
 |sl id sz n rows es a1 _ _ _ _ _ _ _ ih2=>simpa[dk,Go.Aw.clean] using ih2
theorem vN:∀{l:List AV},(∀v∈l,Go.Aw.clean v=true)->dk l=true
 |[],_=>rfl
 |v::r,hl=>by simp only[dk,Bool.and_eq_true];exact⟨hl v (by simp),vN λx hx=>hl x (by simp[hx])⟩
theorem OwnL.cleanO(H:OwnL true h vs qs I):∀i∈I,∀o,h[i]?=some o->Go.Aw.cleanO o=true:=by
 induction H with
 |nil=>intro i hi;cases hi
 |p q hq _ ih=>exact ih
 |nils sz _ ih=>exact ih
 |sl id sz n rows es a1 a2 a3 a4 a5 k _ ih1 ih2=>
  intro i hi o ho
  simp only[List.mem_cons,List.mem_append] at hi
  rcases hi with rfl|hi|hi
  ·rw[a1] at ho;cases ho
   have kc:=k.clean
   simp only[Go.Aw.cleanO,List.all_eq_true]
   intro e he
   refine vN λv hv=>?_
   obtain⟨j,hj⟩:=List.getElem?_of_mem (List.mem_flatten.2 ⟨e,he,hv⟩)
   exact gh kc j v hj
  ·exact ih1 i hi o ho
  ·exact ih2 i hi o ho
end
def MkW(w:List AV->AV)(s:Bool)(qs:List PV)(x:ARes)(h:List AO):Prop:=∃vs I,x= .ret (w vs)/\OwnL s h vs qs I/\I.Nodup
structure Shp (w:List AV->AV):Prop where
 ren:∀σ vs,Go.Aw.ren σ (w vs)=w (aF σ vs)
 shift:∀n vs,aY n (w vs)=w (bi n vs)
 clean:∀vs,dk vs=true->Go.Aw.clean (w vs)=true
 below:∀n vs,ab n vs->Go.Aw.below n (w vs)
 views:∀h vs (qs:List PV),Views h vs (qs.map .p)->Views h [w vs] [w (qs.map .p)]
def lZ(vs:List AV):AV:=vs.headD .any
theorem DO:Shp .agg:=⟨λ_ _=>rfl,λ_ _=>rfl,λ_ h=>h,λ_ _ h=>h,λ_ _ _ h=> .agg h .nil⟩
theorem zN:Shp lZ:=by
 refine⟨λσ vs=>?_,λσ vs=>?_,λvs h=>?_,λn vs h=>?_,λh vs qs hv=>?_⟩
 ·cases vs<;>rfl
 ·cases vs<;>rfl
 ·cases vs with
  |nil=>rfl
  |cons v r=>simp only[dk,Bool.and_eq_true] at h;exact h.1
 ·cases vs with
  |nil=>exact True.intro
  |cons v r=>exact h.1
 ·cases qs with
  |nil=>
   cases hv
   exact .keep True.intro .nil
  |cons q qs=>
   cases hv with
   |one h1 _=>exact .one h1 .nil
   |keep h1 _=>exact .keep h1 .nil
def Ar(b:Bool)(vs:List AV):AV:= .tup [.agg vs,.p (.bool b)]
theorem vF(b:Bool):Shp (Ar b):=⟨λ_ _=>rfl,λ_ _=>rfl,λvs h=>by simp[Ar,Go.Aw.clean,dk,h],λn vs h=>⟨h,True.intro,True.intro⟩,λ_ _ _ h=> .tup (.agg h (.one (.p _) .nil)) .nil⟩
section
variable {P:Program} {G:az} {f:FuncId} {w:List AV->AV} {s:Bool} {qs:List PV}
def Mk(w:List AV->AV)(s:Bool)(qs:List PV)(h:List AO)(x:ARes)(h':List AO):Prop:=
 ∃vs I os,x= .ret (w vs)/\h'=h++os/\OwnL s h' vs qs I/\I.Nodup/\∀i∈I,h.length<=i
theorem sf{g:Nat->Nat}(hg:∀i j,g i=g j->i=j):∀{l:List Nat},l.Nodup->(l.map g).Nodup
 |[],_=>by simp
 |a::r,hn=>by
  rw[List.nodup_cons] at hn
  rw[List.map_cons,List.nodup_cons]
  exact⟨λhm=>by obtain⟨b,hb,e⟩:=List.mem_map.1 hm;rw[hg _ _ e] at hb;exact hn.1 hb,sf hg hn.2⟩
theorem AC.mkKill{args:List AV}(hw:Shp w)(H:AC P G f args [] (MkW w s qs)):AC P G f args [] λx h=>∃vs I,x= .ret (w vs)/\OwnL s h vs qs I/\I.Nodup/\∀(i:Nat) o,h[i]?=some o->o= .dead\/i∈I:=by
 refine H.known.gc (λt v h ⟨⟨_,_,e,_⟩,_⟩=>by cases e) λv h ⟨⟨vs,I,e,ho,nd⟩,hb,hbl,_⟩=>?_
 cases e
 have hid:∀i,i<h.length->(List.range h.length).getD i 0=i:=λi hi=>by
  rw[List.getD_eq_getElem?_getD];simp[hi]
 let g:Nat->AO:=λi=>if i∈I then(h[i]?).getD .dead else .dead
 have hg:∀i,i<h.length->((List.range h.length).map g)[i]?=some (g i):=λi hi=>by simp[hi]
 refine⟨w vs,(List.range h.length).map g,⟨List.range h.length,by simp,λi hi=>by simp at hi,List.nodup_range,?_,?_,?_⟩,vs,I,rfl,ho.frame λi hi=>?_,nd,λi o hi=>?_⟩
 ·rw[List.length_range];exact hw.below _ _ ho.blw
 ·rw[hw.ren,mt hid _ ho.blw]
 ·have:∀(n k:Nat),k+n=h.length->HW (List.range h.length) h (List.range' k n) ((List.range' k n).map g):=by
   intro n
   induction n with
   |zero=>intro k _;exact True.intro
   |succ n ih=>
    intro k hk
    rw[List.range'_succ,List.map_cons]
    have ih:=ih (k+1) (by omega)
    by_cases hm:k∈I
    ·obtain⟨sz,rows,e⟩:=ho.ids k hm
     have eg:g k= .row sz rows:=by simp only[g,if_pos hm,e,Option.getD_some]
     rw[eg]
     have hb1:=hb.1 k sz rows e
     refine aE (λx hx=>by rw[List.length_range];exact(hb1 x hx).2.1) ?_ ih
     rw[e,List.map_congr_left (g:=id) λx hx=>mt hid x (hb1 x hx).2.1];simp
    ·have eg:g k= .dead:=by simp only[g,if_neg hm]
     rw[eg]
     exact cm (by omega) ih
  have:=this h.length 0 (by omega)
  rwa[←List.range_eq_range'] at this
 ·have hl:=ho.lt hi
  rw[hg i hl]
  obtain⟨sz,rows,e⟩:=ho.ids i hi
  simp only[g,if_pos hi,e,Option.getD_some]
 ·have hl:i<h.length:=by simpa using(List.getElem?_eq_some_iff.1 hi).1
  rw[hg i hl] at hi
  cases hi
  by_cases hm:i∈I
  ·exact .inr hm
  ·exact .inl (if_neg hm)
theorem AC.mkLend{args pargs:List AV}(hw:Shp w)(H:AC P G f pargs [] (MkW w true qs)){h:List AO}(hv:Views h args pargs):AC P G f args h (Mk w true qs h):=by
 refine((AC.mkKill hw H).lendR hv (λt v h1 ⟨_,_,e,_⟩=>by cases e) λv h1 ⟨vs,I,e,ho,nd,hd⟩=>?_).mono ?_
 ·cases e
  refine⟨hw.clean _ ho.clean,List.all_eq_true.2 λo hm=>?_⟩
  obtain⟨i,hi⟩:=List.getElem?_of_mem hm
  rcases hd i o hi with rfl|hI
  ·rfl
  ·exact ho.cleanO i hI o hi
 ·rintro x h' ⟨r,h1,⟨vs,I,e,ho,nd,hd⟩,rfl,rfl⟩
  cases e
  refine⟨bi h.length vs,I.map λi=>h.length+i,_,by rw[hw.shift],rfl,ho.shift h,sf (λi j e=>by omega) nd,λi hi=>?_⟩
  obtain⟨j,_,rfl⟩:=List.mem_map.1 hi
  omega
theorem AC.mkLift{args:List AV}(hw:Shp w)(H:AC P G f args [] (MkW w s qs)){h:List AO}(hv:ab 0 args):AC P G f args h (Mk w s qs h):=by
 have hT:TW [] args args:=by
  have:=HS (n:=0) (args:=args) hv
  simpa using this
 refine(H.frame (h:=h) [] List.nodup_nil hT True.intro).mono ?_
 rintro x h' ⟨x0,h0,⟨vs,I,rfl,ho,nd⟩,hl,rfl,rfl⟩
 have hσ:∀i,i<h0.length->([]++List.range' h.length (h0.length-([]:List AO).length)).getD i 0=h.length+i:=λi hi=>by
  rw[List.nil_append,List.getD_eq_getElem?_getD];simp[hi]
 generalize hs:([]:List Nat)++List.range' h.length (h0.length-([]:List AO).length)=σ at*
 have ho2:=ho.ren (h':=h++h0.map (nM σ)) (σ:=σ) λi hi sz rows e=>by
  rw[hσ i (ho.lt hi),List.getElem?_append_right (by omega),Nat.add_sub_cancel_left,List.getElem?_map,e];rfl
 refine⟨aF σ vs,I.map λi=>σ.getD i 0,h0.map (nM σ),by simp only[Ir];rw[hw.ren],by simp[mrg],by simpa[mrg] using ho2,?_,λi hi=>?_⟩
 ·rw[List.map_congr_left (g:=λi=>h.length+i) λi hi=>hσ i (ho.lt hi)]
  exact sf (λi j e=>by omega) nd
 ·obtain⟨j,hj,rfl⟩:=List.mem_map.1 hi
  rw[hσ j (ho.lt hj)];omega
theorem AC.mkFreeze{args:List AV}(hw:Shp w)(H:AC P G f args [] (MkW w s qs)):VF P G f args (w (qs.map .p)):=
 H.freezeR (λt v h ⟨_,_,e,_⟩=>by cases e) λv h ⟨vs,I,e,ho,_⟩=>by cases e;exact hw.views _ _ _ ho.views
end
structure RowOwn (s:Bool) (h:List AO) (id sz:Nat) (rows:List (List AV)) (D:List (List PV)) (J:List Nat):Prop where
 here:h[id]?=some (.row sz rows)
 len:rows.length=D.length
 rl:∀e∈rows,e.length=sz
 dl:∀e∈D,e.length=sz
 own:OwnL s h rows.flatten D.flatten J
 nd:(id::J).Nodup
section
variable {s:Bool} {h:List AO} {id sz:Nat} {rows:List (List AV)} {D:List (List PV)} {J:List Nat}
theorem RowOwn.lt(H:RowOwn s h id sz rows D J):id<h.length:=(List.getElem?_eq_some_iff.1 H.here).1
theorem RowOwn.tree(H:RowOwn s h id sz rows D J){n:Nat}(hn:n=D.length):OwnL s h [.sl id sz 0 n] [.lst sz D] (id::J):=by
 have:=OwnL.sl id sz n rows D H.here hn H.len H.rl H.dl H.own .nil
 rwa[List.append_nil] at this
theorem OwnL.inv{v:AV}{I:List Nat}(H:OwnL s h [v] [.lst sz D] I)(nd:I.Nodup):(D=[]/\I=[]/\(v= .nils\/v= .p (.lst sz [])))\/(s=false/\v= .p (.lst sz D)/\I=[])\/∃id rows J,v= .sl id sz 0 D.length/\I=id::J/\RowOwn s h id sz rows D J:=by
 cases H with
 |p _ hq H=>
  cases H
  cases s with
  |false=>exact .inr (.inl ⟨rfl,rfl,rfl⟩)
  |true=>
   cases D with
   |nil=>exact .inl ⟨rfl,rfl,.inr rfl⟩
   |cons=>simp[BI] at hq
 |nils _ H=>cases H;exact .inl ⟨rfl,rfl,.inl rfl⟩
 |sl id sz n rows es a1 a2 a3 a4 a5 a6 H=>
  cases H
  subst a2
  rw[List.append_nil] at nd⊢
  exact .inr (.inr ⟨id,rows,_,rfl,rfl,a1,a3,a4,a5,a6,nd⟩)
theorem RowOwn.fill(H:RowOwn s h id sz rows D J){i:Nat}(hi:i<D.length){h2 os:List AO}(e2:h2=h++os){r':List AV}{e':List PV}{I2:List Nat}(ho:OwnL s h2 r' e' I2)(nd2:I2.Nodup)(hf:∀j∈I2,h.length<=j)(he:e'.length=sz):
 ∃J',RowOwn s (h2.set id (.row sz (rows.set i r'))) id sz (rows.set i r') (D.set i e') J':=by
 subst e2
 obtain⟨r,J1,Ji,J2,g1,rfl,g3,g4⟩:=H.own.put H.len H.rl H.dl (List.getElem?_eq_getElem hi)
 have hid:=H.lt
 have hn:=H.nd
 have hlt:∀j∈J1++(Ji++J2),j<h.length:=λj hj=>H.own.lt hj
 simp only[List.nodup_cons,List.nodup_append,List.mem_append,not_or] at hn hlt
 obtain⟨⟨n1,n2,n3⟩,m1,⟨m2,m3,m4⟩,m5⟩:=hn
 have hid2:id∉I2:=λhm=>by have:=hf _ hm;omega
 refine⟨J1++(I2++J2),by rw[List.getElem?_set_self (by simp;omega)],by simp[H.len],λe he'=>?_,λe he'=>?_,g4 _ r' e' I2 (λj hj=>?_) (ho.set_out hid2 _),?_⟩
 ·rcases List.mem_or_eq_of_mem_set he' with h1|rfl
  ·exact H.rl e h1
  ·rw[ho.len,he]
 ·rcases List.mem_or_eq_of_mem_set he' with h1|rfl
  ·exact H.dl e h1
  ·exact he
 ·have hj2:j≠id:=λe=>by
   subst e
   rcases List.mem_append.1 hj with hj|hj
   ·exact n1 hj
   ·exact n3 hj
  have hjl:j<h.length:=by
   rcases List.mem_append.1 hj with hj|hj
   ·exact hlt j (.inl hj)
   ·exact hlt j (.inr (.inr hj))
  rw[List.getElem?_set_ne (Ne.symm hj2),List.getElem?_append_left hjl]
 ·simp only[List.nodup_cons,List.nodup_append,List.mem_append,not_or]
  refine⟨⟨n1,hid2,n3⟩,m1,⟨nd2,m3,λa ha b hb e=>?_⟩,λa ha b hb e=>?_⟩
  ·have:=hf a ha;have:=hlt b (.inr (.inr hb));omega
  ·rcases hb with hb|hb
   ·have:=hf b hb;have:=hlt a (.inl ha);omega
   ·exact m5 a ha b (.inr hb) e
theorem RowOwn.change(H:RowOwn s h id sz rows D J){i:Nat}{e:List PV}(hi:D[i]?=some e):
 ∃r Ji,rows[i]?=some r/\OwnL s h r e Ji/\(id::Ji).Nodup/\(∀j∈Ji,j∈J)/\∀(h2:List AO) (r':List AV) (e':List PV),h2[id]?=some (.row sz (rows.set i r'))->(∀j,j<h.length->j≠id->j∉Ji->h2[j]?=h[j]?)->OwnL s h2 r' e' Ji->e'.length=sz->
  RowOwn s h2 id sz (rows.set i r') (D.set i e') J:=by
 obtain⟨r,J1,Ji,J2,g1,rfl,g3,g4⟩:=H.own.put H.len H.rl H.dl hi
 have hn:=H.nd
 have hlt:∀j∈J1++(Ji++J2),j<h.length:=λj hj=>H.own.lt hj
 simp only[List.nodup_cons,List.nodup_append,List.mem_append,not_or] at hn hlt
 obtain⟨⟨n1,n2,n3⟩,m1,⟨m2,m3,m4⟩,m5⟩:=hn
 refine⟨r,Ji,g1,g3,by simp[n2,m2],λj hj=>by simp[hj],λh2 r' e' k1 k2 k3 k4=>⟨k1,by simp[H.len],λx hx=>?_,λx hx=>?_,g4 h2 r' e' Ji (λj hj=>?_) k3,H.nd⟩⟩
 ·rcases List.mem_or_eq_of_mem_set hx with h1|rfl
  ·exact H.rl x h1
  ·rw[k3.len,k4]
 ·rcases List.mem_or_eq_of_mem_set hx with h1|rfl
  ·exact H.dl x h1
  ·exact k4
 ·rcases List.mem_append.1 hj with hj|hj
  ·exact k2 j (hlt j (.inl hj)) (λe=>n1 (e▸hj)) λhm=>m5 j hj j (.inl hm) rfl
  ·exact k2 j (hlt j (.inr (.inr hj))) (λe=>n3 (e▸hj)) λhm=>m4 j hm j hj rfl
theorem RowOwn.push(H:RowOwn s h id sz rows D J){h2 os:List AO}(e2:h2=h++os){r':List AV}{e':List PV}{I2:List Nat}(ho:OwnL s h2 r' e' I2)(nd2:I2.Nodup)(hf:∀j∈I2,h.length<=j)(he:e'.length=sz):
 RowOwn s (h2.set id .dead++[.row sz (rows++[r'])]) h2.length sz (rows++[r']) (D++[e']) (J++I2):=by
 subst e2
 have hid:=H.lt
 have hn:=H.nd
 rw[List.nodup_cons] at hn
 have hid2:id∉I2:=λhm=>by have:=hf _ hm;omega
 have hlt:∀j∈J,j<h.length:=λj hj=>H.own.lt hj
 have hlt2:∀j∈I2,j<(h++os).length:=λj hj=>ho.lt hj
 refine⟨by rw[List.getElem?_append_right (by simp)];simp,by simp[H.len],λe he'=>?_,λe he'=>?_,?_,?_⟩
 ·rcases List.mem_append.1 he' with h1|h1
  ·exact H.rl e h1
  ·rw[List.mem_singleton.1 h1,ho.len,he]
 ·rcases List.mem_append.1 he' with h1|h1
  ·exact H.dl e h1
  ·rw[List.mem_singleton.1 h1,he]
 ·rw[List.flatten_append,List.flatten_append,List.flatten_singleton,List.flatten_singleton]
  exact(((H.own.more os).set_out hn.1 _).more _).app ((ho.set_out hid2 _).more _)
 ·rw[List.nodup_cons,List.nodup_append]
  refine⟨λhm=>?_,hn.2,nd2,λa ha b hb e=>?_⟩
  ·rcases List.mem_append.1 hm with hm|hm
   ·have:=hlt _ hm;simp at this;omega
   ·have:=hlt2 _ hm;omega
  ·have:=hlt a ha;have:=hf b hb;omega
theorem RowOwn.more(H:RowOwn s h id sz rows D J)(os:List AO):RowOwn s (h++os) id sz rows D J:=
 ⟨by rw[List.getElem?_append_left H.lt];exact H.here,H.len,H.rl,H.dl,H.own.more os,H.nd⟩
theorem RowOwn.frame(H:RowOwn s h id sz rows D J){h':List AO}(e:∀i∈id::J,h'[i]?=h[i]?):RowOwn s h' id sz rows D J:=
 ⟨by rw[e id (by simp)];exact H.here,H.len,H.rl,H.dl,H.own.frame λi hi=>e i (by simp[hi]),H.nd⟩
end
theorem HB.row{h:List AO}(hb:HB h){i sz:Nat}{rows:List (List AV)}(e:h[i]?=some (.row sz rows)):∀x∈rows,x.length=sz/\ab h.length x/\x.all AV.isCell=true:=hb.1 i sz rows e
theorem OwnL.cells{s:Bool}{h:List AO}{vs:List AV}{qs:List PV}{I:List Nat}(H:OwnL s h vs qs I):vs.all AV.isCell=true:=by
 induction H with
 |nil=>rfl
 |p q hq _ ih=>simpa[AV.isCell] using ih
 |nils sz _ ih=>simpa[AV.isCell] using ih
 |sl id sz n rows es a1 _ _ _ _ _ _ _ ih2=>simpa[AV.isCell] using ih2
theorem aA{k n:Nat}{l l1:List (Nat × AV)}{h:List AO}(hk:k<=h.length)(H:FgA h.length l l1):Wk k (aB n l) h (aB n l1) h:=by
 intro G W0 S0 φ0 h0 W S φ a ek s
 exact mo hk s.hrel.hb H G W0 S0 φ0 h0 W S φ a ek s
structure FilS where (i:Nat) (h:List AO)
def FilI(s:Bool)(id sz:Nat)(D:List (List PV))(z:List PV)(a:FilS):Prop:=
 a.i<=D.length/\∃rows J,RowOwn s a.h id sz rows (D.take a.i++List.replicate (D.length-a.i) z) J
section
variable {s:Bool} {h:List AO} {id sz i:Nat} {D:List (List PV)} {z:List PV}
theorem zl{zv:List AV}{q:List PV}(hz:OwnL s h zv q []):∀n,OwnL s h (List.replicate n zv).flatten (List.replicate n q).flatten []
 |0=> .nil
 |n+1=>by
  rw[List.replicate_succ,List.replicate_succ,List.flatten_cons,List.flatten_cons]
  exact hz.app (zl hz n)
theorem FilI.init{zv:List AV}{n:Nat}(e:h[id]?=some (.row sz (List.replicate n zv)))(hn:n=D.length)(hz:OwnL s h zv z [])(hl:zv.length=sz):FilI s id sz D z ⟨0,h⟩:=by
 subst hn
 have hzl:z.length=sz:=by rw[←hz.len,hl]
 refine⟨Nat.zero_le _,_,[],e,by simp,λx hx=>by rw[(List.mem_replicate.1 hx).2,hl],λx hx=>?_,?_,by simp⟩
 ·simp only[List.take_zero,List.nil_append,Nat.sub_zero] at hx
  rw[(List.mem_replicate.1 hx).2,hzl]
 ·simpa using zl hz D.length
theorem FilI.step(H:FilI s id sz D z ⟨i,h⟩){e:List PV}(hi:D[i]?=some e){h2 os:List AO}(e2:h2=h++os){r':List AV}{I2:List Nat}(ho:OwnL s h2 r' e I2)(nd2:I2.Nodup)(hf:∀j∈I2,h.length<=j)(he:e.length=sz):
 ∃rows r,h2[id]?=some (.row sz rows)/\rows[i]?=some r/\r.length=sz/\rows.length=D.length/\i<D.length/\FilI s id sz D z ⟨i+1,h2.set id (.row sz (rows.set i r'))⟩:=by
 obtain⟨_,rows,J,hr⟩:=H
 have hil:i<D.length:=(List.getElem?_eq_some_iff.1 hi).1
 have hlen:rows.length=D.length:=by have:=hr.len;simp at this;omega
 obtain⟨J',hr'⟩:=hr.fill (i:=i) (by simp;omega) e2 ho nd2 hf he
 have h2e:h2[id]?=some (.row sz rows):=by rw[e2,List.getElem?_append_left hr.lt];exact hr.here
 have hd:(D.take i++List.replicate (D.length-i) z).set i e=D.take (i+1)++List.replicate (D.length-(i+1)) z:=Hz rfl hil hi
 rw[hd] at hr'
 have hri:=List.getElem?_eq_getElem (l:=rows) (i:=i) (by omega)
 exact⟨rows,_,h2e,hri,hr.rl _ (List.mem_of_getElem? hri),hlen,hil,hil,_,J',hr'⟩
theorem FilI.done(H:FilI s id sz D z ⟨i,h⟩)(hi:D.length<=i):∃rows J,RowOwn s h id sz rows D J:=by
 obtain⟨h1,rows,J,hr⟩:=H
 simp only at h1 hr
 obtain rfl:i=D.length:=by omega
 refine⟨rows,J,?_⟩
 simpa using hr
end
structure PshS where (i id:Nat) (h:List AO)
def PshI(s:Bool)(sz:Nat)(D:List (List PV))(a:PshS):Prop:=a.i<=D.length/\∃rows J,RowOwn s a.h a.id sz rows (D.take a.i) J
section
variable {s:Bool} {h:List AO} {id sz i:Nat} {D:List (List PV)}
theorem PshI.init(e:h[id]?=some (.row sz [])):PshI s sz D ⟨0,id,h⟩:=
 ⟨Nat.zero_le _,[],[],e,rfl,λ_ h=>(by cases h),λ_ h=>(by cases h),.nil,by simp⟩
theorem PshI.row(H:PshI s sz D ⟨i,id,h⟩)(os:List AO):∃rows,(h++os)[id]?=some (.row sz rows)/\rows.length=i/\id<h.length:=by
 obtain⟨h1,rows,J,hr⟩:=H
 have:=hr.len
 simp only at h1 this hr
 rw[List.length_take,Nat.min_eq_left h1] at this
 exact⟨rows,(hr.more os).here,this,hr.lt⟩
theorem PshI.step(H:PshI s sz D ⟨i,id,h⟩){e:List PV}(hi:D[i]?=some e){h2 os:List AO}(e2:h2=h++os){r':List AV}{I2:List Nat}(ho:OwnL s h2 r' e I2)(nd2:I2.Nodup)(hf:∀j∈I2,h.length<=j)(he:e.length=sz):
 ∃rows,h2[id]?=some (.row sz rows)/\rows.length=i/\i<D.length/\id<h2.length/\∀os2,PshI s sz D ⟨i+1,h2.length,h2.set id .dead++ .row sz (rows++[r'])::os2⟩:=by
 obtain⟨h1,rows,J,hr⟩:=H
 have hil:i<D.length:=(List.getElem?_eq_some_iff.1 hi).1
 have hlen:=hr.len
 simp only at h1 hlen hr
 rw[List.length_take,Nat.min_eq_left h1] at hlen
 have hp:=hr.push e2 ho nd2 hf he
 have h2e:h2[id]?=some (.row sz rows):=by rw[e2,List.getElem?_append_left hr.lt];exact hr.here
 refine⟨rows,h2e,hlen,hil,(List.getElem?_eq_some_iff.1 h2e).1,λos2=>⟨hil,rows++[r'],J++I2,?_⟩⟩
 have:=hp.more os2
 have hd:D.take i++[e]=D.take (i+1):=by rw[List.take_add_one,hi];rfl
 rw[hd,List.append_assoc] at this
 exact this
theorem PshI.done(H:PshI s sz D ⟨i,id,h⟩)(hi:D.length<=i):∃rows J,RowOwn s h id sz rows D J:=by
 obtain⟨h1,rows,J,hr⟩:=H
 simp only at h1 hr
 exact⟨rows,J,by rwa[List.take_of_length_le hi] at hr⟩
end
end Go.Aw
namespace Go.Aw
def Mkd(h:List AO)(v:AV)(I:List Nat)(q:PV)(r:PV)(x:ARes)(h':List AO):Prop:=
 x= .ret (.p r)/\OwnL true h' [v] [q] I/\(∀j,j<h.length->j∉I->h'[j]?=h[j]?)/\h.length<=h'.length
def MkI(h0:List AO)(id sz:Nat)(A L:List (List PV))(J:List Nat)(a:FilS):Prop:=
 a.i<=L.length/\(∃rows,RowOwn true a.h id sz rows (A.take a.i++L.drop a.i) J)/\(∀j,j<h0.length->j∉id::J->a.h[j]?=h0[j]?)/\h0.length<=a.h.length
section
variable {h0 h:List AO} {id sz i:Nat} {A L:List (List PV)} {J:List Nat}
theorem Ju{α:Type}{A L:List α}{i:Nat}{x:α}(hA:A[i]?=some x)(hi:i<L.length):(A.take i++L.drop i).set i x=A.take (i+1)++L.drop (i+1):=by
 obtain⟨ha,e⟩:=List.getElem?_eq_some_iff.1 hA
 have hl:(A.take i).length=i:=by rw[List.length_take];omega
 rw[List.set_append_right _ _ (by omega),hl,Nat.sub_self,List.drop_eq_getElem_cons hi,List.set_cons_zero,List.take_add_one,hA]
 simp
theorem MkI.init{rows:List (List AV)}(H:RowOwn true h id sz rows L J):MkI h id sz A L J ⟨0,h⟩:=
 ⟨Nat.zero_le _,⟨rows,by simpa using H⟩,λ_ _ _=>rfl,Nat.le_refl _⟩
theorem MkI.step(H:MkI h0 id sz A L J ⟨i,h⟩){e e':List PV}(hi:L[i]?=some e)(hA:A[i]?=some e'):
 ∃rows r Ji,h[id]?=some (.row sz rows)/\rows[i]?=some r/\OwnL true h r e Ji/\(id::Ji).Nodup/\id<h.length/\i<rows.length/\∀(h2:List AO) (r':List AV),h2[id]?=some (.row sz (rows.set i r'))->(∀j,j<h.length->j≠id->j∉Ji->h2[j]?=h[j]?)->
  OwnL true h2 r' e' Ji->e'.length=sz->h.length<=h2.length->MkI h0 id sz A L J ⟨i+1,h2⟩:=by
 obtain⟨_,⟨rows,ho⟩,hf,hl⟩:=H
 simp only at ho hf hl
 have hil:i<L.length:=(List.getElem?_eq_some_iff.1 hi).1
 have hal:i<A.length:=(List.getElem?_eq_some_iff.1 hA).1
 have hget:(A.take i++L.drop i)[i]?=some e:=by
  rw[List.getElem?_append_right (by rw[List.length_take];omega),List.length_take,Nat.min_eq_left (by omega),Nat.sub_self,List.getElem?_drop,Nat.add_zero];exact hi
 obtain⟨r,Ji,k1,k2,k3,k4,k5⟩:=ho.change hget
 refine⟨rows,r,Ji,ho.here,k1,k2,k3,ho.lt,(List.getElem?_eq_some_iff.1 k1).1,λh2 r' a1 a2 a3 a4 a6=>⟨hil,⟨rows.set i r',?_⟩,λj hj hn=>?_,Nat.le_trans hl a6⟩⟩
 ·have:=k5 h2 r' e' a1 a2 a3 a4
  rwa[Ju hA hil] at this
 ·have hn':=hn
  rw[List.mem_cons,not_or] at hn'
  rw[a2 j (by omega) hn'.1 λhm=>hn'.2 (k4 j hm)]
  exact hf j hj hn
theorem MkI.done(H:MkI h0 id sz A L J ⟨i,h⟩)(hi:L.length<=i)(hA:A.length=L.length):(∃rows,RowOwn true h id sz rows A J)/\(∀j,j<h0.length->j∉id::J->h[j]?=h0[j]?)/\h0.length<=h.length:=by
 obtain⟨h1,⟨rows,ho⟩,hf,hl⟩:=H
 simp only at h1 ho hf hl
 refine⟨⟨rows,?_⟩,hf,hl⟩
 rwa[List.take_of_length_le (by omega),List.drop_of_length_le (by omega),List.append_nil] at ho
end
inductive Spl:List AO->List AO->List AO->Prop where
 |nil:Spl [] [] []
 |keep (o:AO) {h hX hR:List AO}:Spl h hX hR->Spl (o::h) (.dead::hX) (o::hR)
 |give (o:AO) {h hX hR:List AO}:Spl h hX hR->Spl (o::h) (o::hX) (.dead::hR)
theorem Spl.rest:∀h:List AO,Spl h (List.replicate h.length .dead) h
 |[]=> .nil
 |o::r=> .keep o (Spl.rest r)
theorem Spl.get{h hX hR:List AO}(H:Spl h hX hR):hX.length=h.length/\hR.length=h.length/\(∀(i:Nat) o,hX[i]?=some o->o.live->h[i]?=some o)/\(∀(i:Nat) o,hR[i]?=some o->o.live->h[i]?=some o)/\∀i:Nat,Live hX i->¬Live hR i:=by
 induction H with
 |nil=>exact⟨rfl,rfl,λi o e=>by simp at e,λi o e=>by simp at e,λi h=>(aH h).elim⟩
 |keep o _ ih=>
  obtain⟨a,b,c,d,e⟩:=ih
  refine⟨by simp[a],by simp[b],λi x hx lx=>?_,λi x hx lx=>?_,λi ⟨x,hx,lx⟩ ⟨y,hy,ly⟩=>?_⟩
  ·cases i with
   |zero=>cases hx;exact lx.elim
   |succ i=>exact c i x (by simpa using hx) lx
  ·cases i with
   |zero=>exact hx
   |succ i=>exact d i x (by simpa using hx) lx
  ·cases i with
   |zero=>cases hx;exact lx.elim
   |succ i=>exact e i ⟨x,by simpa using hx,lx⟩ ⟨y,by simpa using hy,ly⟩
 |give o _ ih=>
  obtain⟨a,b,c,d,e⟩:=ih
  refine⟨by simp[a],by simp[b],λi x hx lx=>?_,λi x hx lx=>?_,λi ⟨x,hx,lx⟩ ⟨y,hy,ly⟩=>?_⟩
  ·cases i with
   |zero=>exact hx
   |succ i=>exact c i x (by simpa using hx) lx
  ·cases i with
   |zero=>cases hx;exact lx.elim
   |succ i=>exact d i x (by simpa using hx) lx
  ·cases i with
   |zero=>cases hy;exact ly.elim
   |succ i=>exact e i ⟨x,by simpa using hx,lx⟩ ⟨y,by simpa using hy,ly⟩
section
variable {P:Program} {G:az}
theorem HRel.sub{W:World}{S:Nat->Prop}{φ:au}{h h1:List AO}(H:HRel G W S φ h)(hl:h1.length=h.length)(hg:∀(i:Nat) o,h1[i]?=some o->o.live->h[i]?=some o):HRel G W S φ h1:=by
 have hlv:∀{i},Live h1 i->Live h i:=λ⟨o,e,l⟩=>⟨o,hg _ _ e l,l⟩
 refine⟨λid sz es e=>?_,λid o e lo=>?_,λid id' a b=>H.inj id id' (hlv a) (hlv b),λb hb=>⟨(H.sep b hb).1,λid a=>(H.sep b hb).2 id (hlv a)⟩,λid hid=>H.bnd id (by rwa[hl] at hid),H.glob⟩
 ·rw[hl];exact H.obj id sz es (hg _ _ e trivial)
 ·rw[hl];exact H.oobj id o (hg _ _ e lo) lo
theorem HRel.wide{W:World}{S:Nat->Prop}{φ:au}{h hX:List AO}(H:HRel G W S φ h)(HX:HRel G W S φ hX)(hl:hX.length=h.length)(hd:∀i j:Nat,Live hX i->Live h j->(φ i).1≠(φ j).1):HRel G W (λb=>S b\/fM φ hX b) φ h:=by
 have K:Kept W S φ h.length W (λb=>S b\/fM φ hX b) φ h.length:=⟨λb hb=>⟨.inl hb,rfl⟩,Nat.le_refl _,λ_ _=>rfl,λ_ _ c t fr e=>⟨c,t,fr,e,rfl⟩⟩
 refine⟨λid sz es e=>?_,λid o e lo=>(H.oobj id o e lo).mono λa v r=>r.kept K,H.inj,λb hb=>?_,H.bnd,λg cs hg=>?_⟩
 ·obtain⟨c,t,fr,a1,a2,a3,a4,a5⟩:=H.obj id sz es e
  exact⟨c,t,fr,a1,a2,a3,a4,λj u hj=>by obtain⟨b1,v,b2,b3⟩:=a5 j u hj;exact⟨b1,v,b2,b3.kept K⟩⟩
 ·rcases hb with hb|⟨id,e,he⟩
  ·exact H.sep b hb
  ·subst he
   exact⟨HX.bnd id e.lt,λid2 e2 he=>hd id id2 e e2 he.symm⟩
 ·obtain⟨g1,g2⟩:=H.glob g cs hg
  exact⟨.inl g1,λj c hj=>by obtain⟨v,k1,k2⟩:=g2 j c hj;exact⟨v,k1,k2.mono λb hb=>⟨.inl hb,rfl⟩⟩⟩
theorem AC.give{f:FuncId}{args pargs:List AV}{h hX hR:List AO}{R:ARes->List AO->Prop}(hs:Spl h hX hR)(hv:Fzs hX h.length args pargs)(H:AC P G f pargs hR R):AC P G f args h R:=by
 obtain⟨l1,l2,g1,g2,g3⟩:=hs.get
 refine⟨H.1,λW S φ vs hH hA=>?_⟩
 have HX:=hH.sub l1 g1
 have HR:=(hH.sub l2 g2).wide HX (by rw[l1,l2]) λi j a b e=>by
  obtain⟨o,e1,lo⟩:=a
  obtain⟨o2,e2,lo2⟩:=b
  have:=hH.inj i j ⟨o,g1 _ _ e1 lo,lo⟩ ⟨o2,g2 _ _ e2 lo2,lo2⟩ e
  subst this
  exact g3 i ⟨o,e1,lo⟩ ⟨o2,e2,lo2⟩
 have hlX:∀{i},Live hX i->Live h i:=λ⟨o,e,l⟩=>⟨o,g1 _ _ e l,l⟩
 have hlR:∀{i},Live hR i->Live h i:=λ⟨o,e,l⟩=>⟨o,g2 _ _ e l,l⟩
 have hA':kS W (λb=>S b\/fM φ hX b) φ hR.length pargs vs:=by
  refine⟨by rw[hA.1,hv.len],λj c v e1 e2=>?_⟩
  have hj:j<vs.size:=(Array.getElem?_eq_some_iff.1 e2).1
  have hjl:j<args.length:=by rw[←hA.1];exact hj
  rw[l2]
  exact(hv.rel HX j _ c v (List.getElem?_eq_getElem hjl) e1 (by rw[l1];exact hA.2 j _ v (List.getElem?_eq_getElem hjl) e2)).1
 refine(H.2 W _ φ vs HR hA').mono λe W' ⟨r,S',φ',h',k1,k2,k3,k4⟩=>⟨r,S',φ',h',k1,k2,k3,?_⟩
 exact{pure:=λb hb=>k4.pure b (.inl hb),len:=by rw[←l2];exact k4.len,same:=λid hid=>k4.same id (by rw[l2];exact hid)
       blk:=λid hid=>k4.blk id (by rw[l2];exact hid)
       os:=k4.os,tape:=k4.tape,output:=k4.output,size:=k4.size,out:=λb hb hn=>k4.out b hb λid a=>hn id (hlR a)
       img:=λid a=>by
        rcases k4.img id a with h2|⟨id2,h2,h3⟩
        ·exact .inl h2
        ·exact .inr ⟨id2,hlR h2,h3⟩
       newS:=λb hb=>by
        rcases k4.newS b hb with(h2|⟨id,h2,h3⟩)|h2|⟨id2,h2,h3⟩
        ·exact .inl h2
        ·exact .inr (.inr ⟨id,hlX h2,h3⟩)
        ·exact .inr (.inl h2)
        ·exact .inr (.inr ⟨id2,hlR h2,h3⟩)}
end
end Go.Aw
namespace Go.Proofs.YtbnajafpkeficaaGreatDoor
open Go Go.Aw
set_option maxRecDepth 100000
set_option maxHeartbeats 4000000
section
theorem rT{α:Type}{l:List α}{i:Nat}{x:α}(h:l[i]?=some x)(hh:i<l.length):l[i]'hh=x:=(List.getElem?_eq_some_iff.1 h).2
def ixI:Option Nat->Int|none=> -1|some i=>i
def aP(l:List Nat):List Int:=l.map Int.ofNat
theorem fz(l:List Nat):(aP l).length=l.length:=by simp[aP]
def dX(l:List Int):List (List AV):=l.map λn=>[AV.p (.int .i64 n)]
theorem ny{h:List AO}{id:Nat}{l:List Int}(e:h[id]?=some (.row 1 (dX l))):View h (.sl id 1 0 l.length) (bk l):=yW e
def cr(l:List Bool):List (List AV):=l.map λb=>[AV.p (.bool b)]
def obL(os:List Obj):PV:= .lst 6 (os.map Obj.cs)
def atN(os:List Obj)(w:List UInt8):Option Nat:=os.findIdx? λo=>decide (o.name=w)
def csW(os:List Obj)(k:Nat):List (List UInt8):=match os[k]? with|none=>[]|some o=>kA o
theorem nA{os:List Obj}{k:Nat}(h:k<os.length):csW os k=kA os[k]:=by rw[csW,List.getElem?_eq_getElem h]
theorem jH{os:List Obj}(w:List UInt8)(k:Nat)(h:atN os w=some k):k<os.length:=(List.findIdx?_eq_some_iff_getElem.1 h).1
structure ObsOk (os:List Obj):Prop where
 sm:∀o∈os,ObjSm o
 sz:∀o∈os,szO o<=1048576
 len:os.length<=1048576
theorem nr{o:Obj}(hz:szO o<=1048576):(kA o).length<=1048576:=by
 have hsz:szO o=o.name.length+o.code.length+o.calls.length+szW o.names:=rfl
 have hwz:szW o.names=o.names.length+(o.names.map List.length).sum:=rfl
 unfold kA;split
 ·exact Nat.le_trans (Bq _) (by omega)
 ·simp
variable (G:az)
theorem Cd(l:List Int)(v:Int)(hl:l.length<=1073741824):VF Tryz.prog G dv [.p (bk l),.p (.int .i64 v)] (.p (.int .i64 (ixI (l.findIdx? λx=>decide (x=v))))):=by
 have hLn:bk l= .lst 1 (l.map λn=>[.int .i64 n]):=rfl
 refine AC.go pF ?_
 simp-implicitDefEqProofs[kZ,hLn]
 refine aw (λi:Nat=>aB 19 [(5,.p (.int .i64 i)),(0,.p (.lst 1 (l.map λn=>[.int .i64 n]))),(1,.p (.int .i64 v))]) (λ_=>[]) (λi=>i<=l.length/\v∉l.take i) (λi=>l.length-i) 0 ⟨Nat.zero_le _,by simp⟩ (aD rfl (by simp[below])) ?_
 rintro i ⟨hi,hn⟩
 simp-implicitDefEqProofs[]
 refine aR (λhc=>?_) (λhc=>?_)
 ·have hc:i<l.length:=by simpa using hc
  have hwi:=w1 (i:=i) (by omega)
  have hg:=List.getElem?_eq_getElem hc
  generalize hx:l[i]=x at hg
  by_cases he:x=v
  ·have hf:(l.findIdx? λx=>decide (x=v))=some i:=by
    rw[List.findIdx?_eq_some_iff_getElem]
    exact⟨hc,by simp[hx,he],λj hj=>by
     have:¬l[j]=v:=λe=>hn (List.mem_take_iff_getElem.2 ⟨j,by omega,e⟩)
     simpa using this⟩
   simp-implicitDefEqProofs[hg,he,hf,ixI]
  ·simp-implicitDefEqProofs[hg,he]
   refine⟨i+1,⟨hc,λhm=>?_⟩,by omega,aD rfl (by simp[below,hwi])⟩
   rw[List.take_add_one,hg,List.mem_append] at hm
   rcases hm with hm|hm
   ·exact hn hm
   ·simp at hm;exact he hm.symm
 ·have hie:l.length<=i:=by simpa using hc
  rw[List.take_of_length_le hie] at hn
  have hf:(l.findIdx? λx=>decide (x=v))=none:=by
   rw[List.findIdx?_eq_none_iff]
   intro x hx
   have:¬x=v:=λe=>hn (e▸hx)
   simpa using this
  simp-implicitDefEqProofs[hf,ixI]
theorem Kn(l:List Int)(v:Int):decide (0<=ixI (l.findIdx? λx=>decide (x=v)))=decide (v∈l):=by
 cases e:(l.findIdx? λx=>decide (x=v)) with
 |none=>
  rw[List.findIdx?_eq_none_iff] at e
  have:v∉l:=λh=>by have:=e v h;simp at this
  simp[ixI,this]
 |some i=>
  obtain⟨h1,h2,_⟩:=List.findIdx?_eq_some_iff_getElem.1 e
  have:v∈l:=by
   have h2:l[i]=v:=by simpa using h2
   exact h2▸List.getElem_mem h1
  simp[ixI,this]
theorem pU(os:List Obj)(w:List UInt8)(hl:os.length<=1048576):VF Tryz.prog G cD [.p (obL os),.p (.str w)] (.p (.int .i64 (ixI (atN os w)))):=by
 have hLn:obL os= .lst 6 (os.map Obj.cs):=rfl
 refine AC.go zO ?_
 simp-implicitDefEqProofs[pN,hLn]
 refine aw (λi:Nat=>aB 20 [(5,.p (.int .i64 i)),(0,.p (.lst 6 (os.map Obj.cs))),(1,.p (.str w))]) (λ_=>[]) (λi=>i<=os.length/\∀o∈os.take i,o.name≠w) (λi=>os.length-i) 0 ⟨Nat.zero_le _,by simp⟩ (aD rfl (by simp[below])) ?_
 rintro i ⟨hi,hn⟩
 simp-implicitDefEqProofs[]
 refine aR (λhc=>?_) (λhc=>?_)
 ·have hc:i<os.length:=by simpa using hc
  have hwi:=w1 (i:=i) (by omega)
  have hg:=List.getElem?_eq_getElem hc
  generalize hx:os[i]=x at hg
  by_cases he:x.name=w
  ·have hf:atN os w=some i:=by
    rw[atN,List.findIdx?_eq_some_iff_getElem]
    exact⟨hc,by simp[hx,he],λj hj=>by
     have:¬os[j].name=w:=λe=>hn _ (List.mem_take_iff_getElem.2 ⟨j,by omega,rfl⟩) e
     simpa using this⟩
   simp-implicitDefEqProofs[hg,Obj.cs,he,hf,ixI]
  ·simp-implicitDefEqProofs[hg,Obj.cs,he]
   refine⟨i+1,⟨hc,λo ho=>?_⟩,by omega,aD rfl (by simp[below,hwi])⟩
   rw[List.take_add_one,hg,List.mem_append] at ho
   rcases ho with hm|hm
   ·exact hn o hm
   ·simp at hm;exact hm▸he
 ·have hie:os.length<=i:=by simpa using hc
  rw[List.take_of_length_le hie] at hn
  have hf:atN os w=none:=by
   rw[atN,List.findIdx?_eq_none_iff]
   intro x hx
   have:¬x.name=w:=hn x hx
   simpa using this
  simp-implicitDefEqProofs[hf,ixI]
end
section
structure NcS where (i:Nat) (S:List Bool)
theorem CU(l:List Bool):(cr l).length=l.length:=by simp[cr]
theorem gm{l:List Bool}{i:Nat}{b:Bool}(h:l[i]?=some b):(cr l)[i]?=some [.p (.bool b)]:=by simp[cr,h]
theorem vJ(l:List Bool)(i:Nat)(b:Bool):(cr l).set i [.p (.bool b)]=cr (l.set i b):=by simp[cr,List.map_set]
variable (G:az)
theorem FH(os:List Obj)(ho:ObsOk os):∀(f:Nat) (w:List UInt8) (S:List Bool) (X:List AO) (id:Nat),S.length=os.length->yJ S<f->X[id]?=some (.row 1 (cr S))->
 AC Tryz.prog G fG [.p (obL os),.p (.str w),.sl id 1 0 os.length] X λx X'=>∃(b:Bool) (T:List Bool),x= .ret (.p (.bool b))/\X'=X.set id (.row 1 (cr T))/\T.length=os.length/\
  (b=true->∃k,atN os w=some k/\NdI (atN os) (csW os) (Ld (atN os) (csW os) k) S T/\onB T k)/\(b=false->LW (atN os) (csW os) w):=by
 have hLn:obL os= .lst 6 (os.map Obj.cs):=rfl
 have hAt:=λw=>pU G os w ho.len
 intro f
 induction f with
 |zero=>intro w S X id _ h;omega
 |succ f ih=>
  intro w S X id hSl hc hX
  have hidl:=(List.getElem?_eq_some_iff.1 hX).1
  have hXs:X.set id (.row 1 (cr S))=X:=by
   have:=rT hX hidl
   rw[←this];simp
  have hAw:=hAt w
  rw[hLn] at ih hAw⊢
  refine AC.go vj ?_
  simp-implicitDefEqProofs[mU]
  refine hAw.use ?_
  cases hk:atN os w with
  |none=>
   simp-implicitDefEqProofs[ixI]
   exact⟨S,hXs.symm,hSl,.inl hk⟩
  |some k=>
   have hkl:=jH w k hk
   have hkS:k<S.length:=by omega
   have hg:=List.getElem?_eq_getElem hkl
   have hom:os[k]∈os:=List.getElem_mem hkl
   have hcl:=nr (ho.sz _ hom)
   have hcs:csW os k=kA os[k]:=nA hkl
   have hOC:=gD G os[k] (ho.sm _ hom) (ho.sz _ hom)
   rcases Kq hkS with⟨h1,h2⟩|⟨h1,h2⟩
   ·have hr:=gm h2
    simp-implicitDefEqProofs[ixI,hX,hr]
    exact⟨hkl,S,hXs.symm,hSl,.rfl' S,h1⟩
   ·have hr:=gm h2
    have hrs:=vJ S k true
    have hXl:(X.set id (AO.row 1 (cr (S.set k true))))[id]?=some (AO.row 1 (cr (S.set k true))):=by rw[List.getElem?_set_self hidl]
    have hcn:=AP hkS h1
    have hSl2:(S.set k true).length=os.length:=by rw[List.length_set];exact hSl
    have hrl:=CU S
    simp-implicitDefEqProofs[ixI,hX,hr,hkl,hg,hrs,hSl]
    refine hOC.use ?_
    have hsl:aQ (kA os[k])= .lst 1 ((kA os[k]).map λw=>[.str w]):=rfl
    rw[←hcs] at hsl hcl⊢
    generalize hS1:S.set k true=S1 at*
    simp-implicitDefEqProofs[hsl]
    refine aw (λa:NcS=>aB 41 [(9,.p (.int .i64 a.i)),(8,.p (.lst 1 ((csW os k).map λw=>[.str w]))),(0,.p (.lst 6 (os.map Obj.cs))),(2,.sl id 1 0 os.length)]) (λa=>X.set id (.row 1 (cr a.S)))
     (λa=>a.i<=(csW os k).length/\NdI (atN os) (csW os) (Ld (atN os) (csW os) k) S1 a.S/\∀v∈(csW os k).take a.i,∃j,atN os v=some j/\onB a.S j) (λa=>(csW os k).length-a.i) ⟨0,S1⟩ ⟨Nat.zero_le _,.rfl' _,by simp⟩ (aA (by simp) (by simp[below];omega)) ?_
    rintro⟨i,U⟩ ⟨hi,hU,htk⟩
    simp only at hi hU htk⊢
    simp-implicitDefEqProofs[]
    refine aR (λhc1=>?_) (λhc1=>?_)
    ·have hc1:i<(csW os k).length:=by simpa using hc1
     have hwi:=w1 (i:=i) (by omega)
     have hgi:=List.getElem?_eq_getElem hc1
     have hvm:=List.getElem_mem hc1
     generalize (csW os k)[i]=v at hgi hvm
     have hUl:U.length=os.length:=by rw[hU.len,hSl2]
     have hcu:=FM (S:=S1) (T:=U) hU.len hU.sub
     have hcall:=ih v U (X.set id (.row 1 (cr U))) id hUl (by omega) (List.getElem?_set_self hidl)
     simp only[List.set_set] at hcall
     simp-implicitDefEqProofs[hgi]
     refine AC.mono hcall ?_
     rintro _ _ ⟨b,T,rfl,rfl,hTl,hb1,hb2⟩
     cases b with
     |false=>
      simp-implicitDefEqProofs[ag]
      refine⟨T,rfl,hTl,.inr ⟨k,hk,?_⟩⟩
      rcases hb2 rfl with g|⟨j,hj,g⟩
      ·exact⟨k,v,.refl,hvm,g⟩
      ·exact g.up hvm hj
     |true=>
      obtain⟨j,hj,hN,hon⟩:=hb1 rfl
      simp-implicitDefEqProofs[ag]
      refine⟨⟨i+1,T⟩,⟨hc1,hU.trans (hN.mono λx hx=> .first hvm hj hx),λu hu=>?_⟩,by simp only;omega,aA (by simp) (by simp[below,hwi];omega)⟩
      rw[List.take_add_one,hgi,List.mem_append] at hu
      rcases hu with hu|hu
      ·obtain⟨q,q1,q2⟩:=htk u hu
       exact⟨q,q1,hN.sub q q2⟩
      ·have:u=v:=by simpa using hu
       subst this
       exact⟨j,hj,hon⟩
    ·have hie:(csW os k).length<=i:=by simpa using hc1
     rw[List.take_of_length_le hie] at htk
     subst hS1
     obtain⟨q1,q2⟩:=hU.close hkS htk
     simp-implicitDefEqProofs[]
     exact⟨U,rfl,by rw[hU.len,hSl2],q1,q2⟩
noncomputable def lpB (os:List Obj) (k:Nat):Bool:= @decide (Lp (atN os) (csW os) k k) (Classical.propDecidable _)
theorem lpB_iff{os:List Obj}{k:Nat}:lpB os k=true↔Lp (atN os) (csW os) k k:= @decide_eq_true_iff _ (Classical.propDecidable _)
def eT(l:List (List UInt8)):List (List AV):=l.map λw=>[AV.p (.str w)]
structure RcS where (S:List Bool) (W:List (List UInt8)) (pre:List (List AV)) (id:Nat) (X:List AO)
theorem Cz(os:List Obj)(ho:ObsOk os)(h12:os.length<=12)(k:Nat)(hk:k<os.length):VF Tryz.prog G gZ [.p (obL os),.p (.int .i64 k)] (.p (.bool (lpB os k))):=by
 have hLn:obL os= .lst 6 (os.map Obj.cs):=rfl
 have hAt:=λw=>pU G os w ho.len
 rw[hLn] at hAt⊢
 have hg:=List.getElem?_eq_getElem hk
 have hom:os[k]∈os:=List.getElem_mem hk
 have hcl:=nr (ho.sz _ hom)
 have hcs:csW os k=kA os[k]:=nA hk
 have hOC:=gD G os[k] (ho.sm _ hom) (ho.sz _ hom)
 rw[←hcs] at hOC hcl
 have hsl:aQ (csW os k)= .lst 1 ((csW os k).map λw=>[.str w]):=rfl
 rw[hsl] at hOC
 have hrw:List.replicate os.length [AV.p (.bool false)]=cr (List.replicate os.length false):=by simp[cr]
 refine AC.go tt ?_
 simp-implicitDefEqProofs[lV,hk,hg]
 refine⟨by omega,?_⟩
 refine hOC.use ?_
 have hWw:List.map ((λx=>List.map AV.p x)∘λn=>[PV.str n]) (csW os k)=eT (csW os k):=by simp[eT]
 have hWl:(eT (csW os k)).length=(csW os k).length:=by simp[eT]
 simp-implicitDefEqProofs[hWw,hWl,hrw]
 refine⟨⟨by omega,by omega⟩,?_⟩
 have hcb0:=El (S:=List.replicate os.length false)
 rw[List.length_replicate] at hcb0
 refine aw (λa:RcS=>aB 50 [(6,.sl a.id 1 a.pre.length a.W.length),(5,.sl 0 1 0 os.length),(0,.p (.lst 6 (os.map Obj.cs))),(1,.p (.int .i64 k))]) (λa=>a.X)
  (λa=>a.X[0]?=some (.row 1 (cr a.S))/\a.S.length=os.length/\0<a.id/\a.X[a.id]?=some (.row 1 (a.pre++eT a.W))/\RdI (atN os) (csW os) k a.S a.W/\a.W.length+1048576*yJ a.S<=13631488) (λa=>a.W.length+1048576*yJ a.S)
  ⟨List.replicate os.length false,csW os k,[],2,_⟩ ⟨rfl,by simp,by simp,rfl,RdI.start _ _,by simp only;omega⟩ (aA (Nat.zero_le _) (by simp[below])) ?_
 rintro⟨S,W,pre,id,X⟩ ⟨g0,hSl,hid0,hX,hR,hms⟩
 simp only at g0 hSl hid0 hX hR hms⊢
 have h0l:=(List.getElem?_eq_some_iff.1 g0).1
 have hidl:=(List.getElem?_eq_some_iff.1 hX).1
 cases W with
 |nil=>
  have hno:lpB os k=false:=by
   cases e:lpB os k with
   |false=>rfl
   |true=>exact absurd (lpB_iff.1 e) hR.done
  simp-implicitDefEqProofs[hno]
 |cons v W=>
  have hc0:eT (v::W)=[AV.p (.str v)]::eT W:=rfl
  have hWl2:(eT W).length=W.length:=by simp[eT]
  rw[List.length_cons] at hms
  have hAv:=hAt v
  have hpre2:pre++eT (v::W)=(pre++[[.p (.str v)]])++eT W:=by simp[eT]
  have hX2:X[id]?=some (.row 1 ((pre++[[.p (.str v)]])++eT W)):=by rw[hX,hpre2]
  simp-implicitDefEqProofs[hX,hc0,hWl2]
  refine hAv.use ?_
  simp-implicitDefEqProofs[hX,hc0,hWl2]
  cases hv:atN os v with
  |none=>
   have hn1:¬(-1:Int)=(k:Int):=by omega
   simp-implicitDefEqProofs[ixI,hn1]
   refine⟨⟨S,W,pre++[[.p (.str v)]],id,X⟩,⟨g0,hSl,hid0,hX2,hR.skip (λj e=>by rw[hv] at e;cases e),by simp only;omega⟩,by simp only[List.length_cons];omega,aA (Nat.zero_le _) ?_⟩
   simp[below];omega
  |some i=>
   by_cases hik:i=k
   ·subst hik
    have hyes:lpB os i=true:=lpB_iff.2 (hR.found hv)
    simp-implicitDefEqProofs[ixI,hyes]
   have hik2:¬(i:Int)=(k:Int):=by omega
   have hil:=jH v i hv
   have hiS:i<S.length:=by omega
   rcases Kq hiS with⟨h1,h2⟩|⟨h1,h2⟩
   ·have hr:=gm h2
    simp-implicitDefEqProofs[ixI,hik2,g0,hr,hil]
    refine⟨⟨S,W,pre++[[.p (.str v)]],id,X⟩,⟨g0,hSl,hid0,hX2,hR.skip (λj e=>by rw[hv] at e;cases e;exact⟨h1,hik⟩),by simp only;omega⟩,by simp only[List.length_cons];omega,aA (Nat.zero_le _) ?_⟩
    simp[below];omega
   ·have hr:=gm h2
    have hgi:=List.getElem?_eq_getElem hil
    have homi:os[i]∈os:=List.getElem_mem hil
    have hcli:=nr (ho.sz _ homi)
    have hcsi:csW os i=kA os[i]:=nA hil
    have hOCi:=gD G os[i] (ho.sm _ homi) (ho.sz _ homi)
    rw[←hcsi] at hOCi hcli
    have hsli:aQ (csW os i)= .lst 1 ((csW os i).map λw=>[.str w]):=rfl
    rw[hsli] at hOCi
    have hWwi:List.map ((λx=>List.map AV.p x)∘λn=>[PV.str n]) (csW os i)=eT (csW os i):=by simp[eT]
    have hWli:(eT (csW os i)).length=(csW os i).length:=by simp[eT]
    have hrs:=vJ S i true
    have hX3:∀o,(X.set 0 o)[id]?=some (.row 1 ((pre++[[.p (.str v)]])++eT W)):=λo=>by rw[List.getElem?_set_ne (by omega)];exact hX2
    have hcn:=AP hiS h1
    simp-implicitDefEqProofs[ixI,hik2,g0,hr,hil,hrs,hgi]
    refine hOCi.use ?_
    simp-implicitDefEqProofs[hX3,hWwi,hWli,hWl2]
    have htt:List.take W.length (eT W)=eT W:=List.take_of_length_le (by omega)
    rw[htt]
    refine⟨⟨by omega,by omega,by omega⟩,⟨S.set i true,W++csW os i,[],X.length,_⟩,⟨?_,by simp only;rw[List.length_set];exact hSl,by simp only;omega,?_,hR.step hv hiS hik,by simp only;rw[List.length_append];omega⟩,by simp only;rw[List.length_append];omega,aA (Nat.zero_le _) (by simp[below])⟩
    ·simp only
     rw[List.getElem?_append_left (by simp;omega),List.getElem?_set_ne (by omega),List.getElem?_set_self h0l]
    ·simp only
     rw[List.getElem?_append_right (by simp)];simp[eT]
end
section
section
variable {α:Type} {ix:α->Option Nat} {cs:Nat->List α}
theorem kY{f:Nat}(hf:∀k out x,x∈rb ix cs f k out->x∈out\/Ld ix cs k x):∀(ws:List α) (out:List Nat) (x:Nat),x∈lM ix cs f ws out->x∈out\/∃w∈ws,RW ix cs w x
 |[],_,_,h=> .inl h
 |w::ws,out,x,h=>by
  rw[pi] at h
  rcases kY hf ws _ x h with g|⟨v,hv,g⟩
  ·rw[rO] at g
   split at g
   ·exact .inl g
   ·rename_i j hj
    rcases hf j out x g with g|g
    ·exact .inl g
    ·exact .inr ⟨w,by simp,j,hj,g⟩
  ·exact .inr ⟨v,by simp[hv],g⟩
theorem uP:∀(f k:Nat) (out:List Nat) (x:Nat),x∈rb ix cs f k out->x∈out\/Ld ix cs k x
 |0,_,_,_,h=> .inl h
 |f+1,k,out,x,h=>by
  by_cases hk:k∈out
  ·rw[tT hk] at h;exact .inl h
  ·rw[nu hk] at h
   rcases List.mem_append.1 h with h|h
   ·rcases kY (uP f) (cs k) out x h with g|⟨w,hw,j,hj,g⟩
    ·exact .inl g
    ·exact .inr (.first hw hj g)
   ·rw[List.mem_singleton.1 h];exact .inr .refl
theorem rD{f:Nat}(hf:∀k out,(∀y,Ld ix cs k y->¬Lp ix cs y y)->out.Nodup->(rb ix cs f k out).Nodup):∀(ws:List α) (out:List Nat),(∀w∈ws,∀y,RW ix cs w y->¬Lp ix cs y y)->out.Nodup->(lM ix cs f ws out).Nodup
 |[],_,_,h=>h
 |w::ws,out,hr,h=>by
  rw[pi]
  refine rD hf ws _ (λv hv=>hr v (by simp[hv])) ?_
  rw[rO]
  split
  ·exact h
  ·rename_i j hj
   exact hf j out (λy hy=>hr w (by simp) y ⟨j,hj,hy⟩) h
theorem Eb:∀(f k:Nat) (out:List Nat),(∀y,Ld ix cs k y->¬Lp ix cs y y)->out.Nodup->(rb ix cs f k out).Nodup
 |0,_,_,_,h=>h
 |f+1,k,out,hr,h=>by
  by_cases hk:k∈out
  ·rw[tT hk];exact h
  ·rw[nu hk,List.nodup_append]
   refine⟨rD (Eb f) (cs k) out (λw hw y ⟨j,hj,hy⟩=>hr y (.first hw hj hy)) h,by simp,λa ha b hb e=>?_⟩
   rw[List.mem_singleton] at hb
   subst hb
   subst e
   rcases kY (uP f) (cs a) out a ha with g|⟨w,hw,j,hj,g⟩
   ·exact hk g
   ·exact hr a .refl (Ld.lp .refl hw hj g)
end
theorem IG{a b:List Nat}(nd:a.Nodup)(h:∀v∈a,v∈b):a.length<=b.length:=by
 induction a generalizing b with
 |nil=>exact Nat.zero_le _
 |cons x t ih=>
  obtain⟨u,w,rfl⟩:=List.append_of_mem (h x (by simp))
  rw[List.nodup_cons] at nd
  have:=ih (b:=u++w) nd.2 λy hy=>by
   have h1:=h y (by simp[hy])
   simp only[List.mem_append,List.mem_cons] at h1⊢
   rcases h1 with h1|h1|h1
   ·exact .inl h1
   ·subst h1;exact absurd hy nd.1
   ·exact .inr h1
  simp only[List.length_append,List.length_cons] at this⊢
  omega
theorem Di{a:List Nat}{n:Nat}(nd:a.Nodup)(h:∀v∈a,v<n):a.length<=n:=by
 have:=IG (b:=List.range n) nd λv hv=>List.mem_range.2 (h v hv)
 rwa[List.length_range] at this
structure PcS where (i id:Nat) (X:List AO)
variable (G:az)
theorem FW(os:List Obj)(ho:ObsOk os):∀(f:Nat) (path:List Nat) (k:Nat) (out:List Nat) (X:List AO) (id:Nat),os.length<=f+path.length->path.Nodup->(∀p∈path,p<os.length/\Lp (atN os) (csW os) p k)->
 k<os.length->¬Ls (atN os) (csW os) k->(∀y,Ld (atN os) (csW os) k y->¬Lp (atN os) (csW os) y y)->out.Nodup->(∀x∈out,x<os.length)->X[id]?=some (.row 1 (dX (aP out)))->
 AC Tryz.prog G gG [.p (obL os),.p (.int .i64 k),.sl id 1 0 out.length] X λx X'=>∃id',x= .ret (.sl id' 1 0 (rb (atN os) (csW os) f k out).length)/\X'[id']?=some (.row 1 (dX (aP (rb (atN os) (csW os) f k out))))/\X.length<=X'.length:=by
 have hLn:obL os= .lst 6 (os.map Obj.cs):=rfl
 have hAt:=λw=>pU G os w ho.len
 rw[hLn] at hAt⊢
 intro f
 induction f with
 |zero=>
  intro path k out X id hf hpn hp hk hl hr hnd hlt hX
  exfalso
  by_cases hkp:k∈path
  ·exact hr k .refl (hp k hkp).2
  ·have:=Di (a:=k::path) (n:=os.length) (List.nodup_cons.2 ⟨hkp,hpn⟩) λv hv=>by
    rcases List.mem_cons.1 hv with e|e
    ·rw[e];exact hk
    ·exact(hp v e).1
   rw[List.length_cons] at this
   omega
 |succ f ih=>
  intro path k out X id hf hpn hp hk hl hr hnd hlt hX
  have hidl:=(List.getElem?_eq_some_iff.1 hX).1
  have hol:=Di hnd hlt
  have hlen:=ho.len
  have hkp:k∉path:=λh=>hr k .refl (hp k h).2
  have hA:=Cd G (aP out) k (by rw[fz];omega)
  have han:=Kn (aP out) k
  have hmem:decide ((k:Int)∈aP out)=decide (k∈out):=by
   rw[Bool.eq_iff_iff,decide_eq_true_iff,decide_eq_true_iff]
   simp only[aP,List.mem_map]
   exact⟨λ⟨a,h1,h2⟩=>by rw[←Int.ofNat.inj h2];exact h1,λh=>⟨k,h,rfl⟩⟩
  rw[hmem] at han
  generalize ixI ((aP out).findIdx? λx=>decide (x=(k:Int)))=z at hA han
  have hvw:∀Y:List AO,Y[id]?=some (.row 1 (dX (aP out)))->View Y (.sl id 1 0 out.length) (bk (aP out)):=λY hY=>by
   have:=ny hY;rwa[fz] at this
  refine AC.go yj ?_
  simp-implicitDefEqProofs[nZ]
  refine(VF.lend hA (.one (hvw _ hX) (.keep (by simp[below]) .nil)) rfl).mono ?_
  rintro _ Y ⟨rfl,eY⟩
  subst eY
  by_cases hm:k∈out
  ·have hz:0<=z:=by rw[decide_eq_true hm] at han;simpa using han
   simp-implicitDefEqProofs[ag,hz,tT hm]
   exact hX
  ·have hz:¬0<=z:=by rw[decide_eq_false hm] at han;simpa using han
   have hg:=List.getElem?_eq_getElem hk
   have hom:os[k]∈os:=List.getElem_mem hk
   have hcl:=nr (ho.sz _ hom)
   have hcs:csW os k=kA os[k]:=nA hk
   have hOC:=gD G os[k] (ho.sm _ hom) (ho.sz _ hom)
   rw[←hcs] at hOC hcl
   have hsl:aQ (csW os k)= .lst 1 ((csW os k).map λw=>[.str w]):=rfl
   rw[hsl] at hOC
   simp-implicitDefEqProofs[ag,hz,hk,hg]
   refine hOC.use ?_
   simp-implicitDefEqProofs[]
   have hdone:= @nu _ (atN os) (csW os) f k out hm
   have hrw:∀v∈csW os k,∃j,atN os v=some j:=λv hv=>by
    cases e:atN os v with
    |none=>exact absurd ⟨k,v,.refl,hv,e⟩ hl
    |some j=>exact⟨j,rfl⟩
   obtain⟨D,hD⟩:∃D:Nat->List Nat,D=λi=>lM (atN os) (csW os) f ((csW os k).take i) out:=⟨_,rfl⟩
   have hD0:D 0=out:=by rw[hD];rfl
   have hDs:∀i v j,(csW os k)[i]?=some v->atN os v=some j->D (i+1)=rb (atN os) (csW os) f j (D i):=λi v j h e=>by
    rw[hD];simp only;rw[List.take_add_one,h]
    show lM _ _ _ (_++[v]) _=_
    rw[Cl,rO,e]
   have hDe:∀i,(csW os k).length<=i->D i=lM (atN os) (csW os) f (csW os k) out:=λi h=>by rw[hD];simp only;rw[List.take_of_length_le h]
   have hDn:∀i,(D i).Nodup:=λi=>by
    rw[hD]
    exact rD (Eb f) _ out (λw hw y ⟨j,hj,hy⟩=>hr y (.first (List.mem_of_mem_take hw) hj hy)) hnd
   have hDl:∀i,∀x∈D i,x<os.length:=λi x hx=>by
    rw[hD] at hx
    rcases kY (uP f) _ out x hx with g|⟨w,hw,j,hj,g⟩
    ·exact hlt x g
    ·cases g with
     |refl=>exact jH w _ hj
     |step _ _ hm=>exact jH _ _ hm
   clear hD
   refine aw (λa:PcS=>aB 38 [(8,.p (.int .i64 a.i)),(7,.p (.lst 1 ((csW os k).map λw=>[.str w]))),(0,.p (.lst 6 (os.map Obj.cs))),(1,.p (.int .i64 k)),(2,.sl a.id 1 0 (D a.i).length)]) (λa=>a.X)
    (λa=>a.i<=(csW os k).length/\a.X[a.id]?=some (.row 1 (dX (aP (D a.i))))/\Y.length<=a.X.length) (λa=>(csW os k).length-a.i) ⟨0,id,Y⟩ ⟨Nat.zero_le _,by simp only[hD0];exact hX,Nat.le_refl _⟩ (aA (Nat.le_refl _) (by simp[below,hD0];omega)) ?_
   rintro⟨i,id2,Z⟩ ⟨hi,hZ,hZl⟩
   simp only at hi hZ hZl⊢
   have hid2:=(List.getElem?_eq_some_iff.1 hZ).1
   have hDil:=Di (hDn i) (hDl i)
   simp-implicitDefEqProofs[]
   refine aR (λhc1=>?_) (λhc1=>?_)
   ·have hc1:i<(csW os k).length:=by simpa using hc1
    have hwi:=w1 (i:=i) (by omega)
    have hgi:=List.getElem?_eq_getElem hc1
    have hvm:=List.getElem_mem hc1
    generalize (csW os k)[i]=v at hgi hvm
    obtain⟨j,hj⟩:=hrw v hvm
    have hAv:=hAt v
    rw[hj] at hAv
    have hcall:=ih (k::path) j (D i) Z id2 (by rw[List.length_cons];omega) (List.nodup_cons.2 ⟨hkp,hpn⟩) (λp hp2=>by
     rcases List.mem_cons.1 hp2 with e|e
     ·rw[e];exact⟨hk,k,v,.refl,hvm,hj⟩
     ·exact⟨(hp p e).1,(hp p e).2.ld (.step .refl hvm hj)⟩) (jH v j hj) (λh=>hl (h.up hvm hj)) (λy hy=>hr y (.first hvm hj hy)) (hDn i) (hDl i) hZ
    rw[←hDs i v j hgi hj] at hcall
    simp-implicitDefEqProofs[hgi]
    refine hAv.use ?_
    simp-implicitDefEqProofs[ixI]
    refine AC.mono hcall ?_
    rintro _ Z2 ⟨id3,rfl,e1,e2⟩
    have hid3:=(List.getElem?_eq_some_iff.1 e1).1
    simp-implicitDefEqProofs[ag]
    exact⟨⟨i+1,id3,Z2⟩,⟨hc1,e1,by simp only;omega⟩,by simp only;omega,aA (by omega) (by simp[below,hwi];omega)⟩
   ·have hie:(csW os k).length<=i:=by simpa using hc1
    have hDe2:=hDe i hie
    have hrl:(dX (aP (D i))).length=(D i).length:=by simp[dX,aP]
    have htt:List.take (D i).length (dX (aP (D i)))=dX (aP (D i)):=List.take_of_length_le (by omega)
    rw[hdone,←hDe2]
    have hgm:∀t,(Z++t)[id2]?=some (.row 1 (dX (aP (D i)))):=λt=>by rw[List.getElem?_append_left hid2];exact hZ
    simp-implicitDefEqProofs[hgm,hrl,htt]
    exact⟨⟨by omega,by omega⟩,by simp[dX,aP],by omega⟩
end
section
noncomputable def DV (os:List Obj) (w:List UInt8):Bool:= @decide (LW (atN os) (csW os) w) (Classical.propDecidable _)
theorem lostB_iff{os:List Obj}{w:List UInt8}:DV os w=true↔LW (atN os) (csW os) w:= @decide_eq_true_iff _ (Classical.propDecidable _)
noncomputable def Jt (os:List Obj) (w:List UInt8):Bool:= @decide (∃y,RW (atN os) (csW os) w y/\Lp (atN os) (csW os) y y) (Classical.propDecidable _)
theorem rndB_iff{os:List Obj}{w:List UInt8}:Jt os w=true↔∃y,RW (atN os) (csW os) w y/\Lp (atN os) (csW os) y y:= @decide_eq_true_iff _ (Classical.propDecidable _)
def apart(os:List Obj):Bool:=decide ((os.map Obj.name).Nodup)
theorem apart_iff{os:List Obj}:apart os=true↔∀(i:Nat) (h:i<os.length),atN os os[i].name=some i:=by
 rw[apart,decide_eq_true_iff]
 constructor
 ·intro nd i h
  rw[atN,List.findIdx?_eq_some_iff_getElem]
  refine⟨h,by simp,λj hj=>?_⟩
  have h1:j<(os.map Obj.name).length:=by rw[List.length_map];omega
  have h2:i<(os.map Obj.name).length:=by rw[List.length_map];omega
  have:=List.getElem_inj (h₀:=h1) (h₁:=h2) nd
  rw[List.getElem_map,List.getElem_map] at this
  have:¬os[j].name=os[i].name:=λe=>by have:=this.1 e;omega
  simpa using this
 ·intro H
  rw[List.nodup_iff_pairwise_ne,List.pairwise_iff_getElem]
  intro i j hi hj hij e
  rw[List.length_map] at hi hj
  rw[List.getElem_map,List.getElem_map] at e
  have h1:=H i hi
  rw[e,H j hj] at h1
  cases h1
  omega
noncomputable def vn (os:List Obj) (w:List UInt8):List Nat:=rO (atN os) (csW os) (os.length+1) w []
noncomputable def lnk (os:List Obj) (w:List UInt8):List Nat × Int:=
 if 12<os.length then([],1) else if aS w=false then([],1) else if os.all bC=false then([],1) else if apart os=false then([],2) else if DV os w=true then([],3) else if Jt os w=true then([],4)
 else if 4<(vn os w).length then([],5) else(vn os w,0)
theorem JB(os:List Obj)(w:List UInt8):(lnk os w).1.length<=4:=by
 unfold lnk
 repeat' split
 all_goals first|exact Nat.zero_le _|(simp only;omega)
variable (G:az)
theorem Bn(os:List Obj)(ho:ObsOk os)(w:List UInt8)(hw:w.length<=1048576):VF Tryz.prog G er [.p (obL os),.p (.str w)] (.tup [.p (bk (aP (lnk os w).1)),.p (.int .i64 (lnk os w).2)]):=by
 have hLn:obL os= .lst 6 (os.map Obj.cs):=rfl
 have hAt:=λw=>pU G os w ho.len
 have hNd:=λS X=>FH G os ho (os.length+1) w S X 0
 have hPt:=λk X id=>FW G os ho (os.length+1) [] k [] X id
 have hRd:=λh12 k=>Cz G os ho h12 k
 have hsl:=ho.len
 rw[hLn] at hAt hNd hPt hRd⊢
 suffices key:AC Tryz.prog G er [.p (.lst 6 (os.map Obj.cs)),.p (.str w)] [] λx h=>∃v,x= .ret (.tup [v,.p (.int .i64 (lnk os w).2)])/\View h v (bk (aP (lnk os w).1)) from
  AC.freezeR key (λt v h ⟨_,e,_⟩=>by cases e) λv h ⟨_,e,hv⟩=>by cases e;exact .tup (.one hv (.keep (by simp[below]) .nil)) .nil
 have hnone:∀(h:List AO) (id:Nat),h[id]?=some (.row 1 [])->View h (.sl id 1 0 0) (bk (aP [])):=λh id e=>ny (l:=[]) e
 by_cases h12:12<os.length
 ·have h12i:(12:Int)<(os.length:Int):=by omega
  have hr:lnk os w=([],1):=by rw[lnk,if_pos h12]
  rw[hr]
  refine AC.go kG ?_
  simp-implicitDefEqProofs[gu,h12i]
  exact hnone _ _ rfl
 have h12i:¬(12:Int)<(os.length:Int):=by omega
 refine AC.go kG ?_
 simp-implicitDefEqProofs[gu,h12i]
 refine(vK G w (by omega)).use ?_
 cases hn:aS w with
 |false=>
  have hr:lnk os w=([],1):=by rw[lnk,if_neg h12,if_pos hn]
  rw[hr]
  simp-implicitDefEqProofs[]
  exact hnone _ _ rfl
 |true=>
  simp-implicitDefEqProofs[]
  refine aw (λi:Nat=>aB 85 [(6,.p (.int .i64 i)),(0,.p (.lst 6 (os.map Obj.cs))),(1,.p (.str w))]) (λ_=>[]) (λi=>i<=os.length/\∀o∈os.take i,bC o=true) (λi=>os.length-i) 0 ⟨Nat.zero_le _,by simp⟩ (aD rfl (by simp[below])) ?_
  rintro i ⟨hi,hok⟩
  simp-implicitDefEqProofs[]
  refine aR (λhc=>?_) (λhc=>?_)
  ·have hc:i<os.length:=by simpa using hc
   have hwi:=w1 (i:=i) (by omega)
   have hg:=List.getElem?_eq_getElem hc
   have hom:=List.getElem_mem hc
   have hOV:=og G os[i] (ho.sm _ hom) (ho.sz _ hom)
   generalize os[i]=o at hg hom hOV
   simp-implicitDefEqProofs[hg]
   refine hOV.use ?_
   cases hv:bC o with
   |false=>
    have hr:lnk os w=([],1):=by rw[lnk,if_neg h12,if_neg (by rw[hn];simp),if_pos (List.all_eq_false.2 ⟨o,hom,by rw[hv];simp⟩)]
    rw[hr]
    simp-implicitDefEqProofs[]
    exact hnone _ _ rfl
   |true=>
    simp-implicitDefEqProofs[]
    refine⟨i+1,⟨hc,λx hx=>?_⟩,by omega,aD rfl (by simp[below,hwi])⟩
    rw[List.take_add_one,hg,List.mem_append] at hx
    rcases hx with hx|hx
    ·exact hok x hx
    ·simp at hx;rw[hx];exact hv
  ·have hie:os.length<=i:=by simpa using hc
   rw[List.take_of_length_le hie] at hok
   have hall:os.all bC=true:=List.all_eq_true.2 hok
   have hna:¬os.all bC=false:=by rw[hall];simp
   have hnn:¬aS w=false:=by rw[hn];simp
   clear hok hc hi hie
   simp-implicitDefEqProofs[]
   refine aw (λi:Nat=>aB 85 [(7,.p (.int .i64 i)),(0,.p (.lst 6 (os.map Obj.cs))),(1,.p (.str w))]) (λ_=>[]) (λi=>i<=os.length/\∀(j:Nat) (h:j<os.length),j<i->atN os os[j].name=some j) (λi=>os.length-i) 0 ⟨Nat.zero_le _,λj h h2=>by omega⟩ (aD rfl (by simp[below])) ?_
   rintro i ⟨hi,hap⟩
   simp-implicitDefEqProofs[]
   refine aR (λhc=>?_) (λhc=>?_)
   ·have hc:i<os.length:=by simpa using hc
    have hwi:=w1 (i:=i) (by omega)
    have hg:=List.getElem?_eq_getElem hc
    simp-implicitDefEqProofs[hg,Obj.cs]
    refine(hAt os[i].name).use ?_
    by_cases he:atN os os[i].name=some i
    ·simp-implicitDefEqProofs[he,ixI]
     refine⟨i+1,⟨hc,λj h hj=>?_⟩,by omega,aD rfl (by simp[below,hwi])⟩
     rcases Nat.lt_or_ge j i with h1|h1
     ·exact hap j h h1
     ·have:j=i:=by omega
      subst this;exact he
    ·have hne:¬ixI (atN os os[i].name)=(i:Int):=λe=>by
      cases e2:atN os os[i].name with
      |none=>rw[e2] at e;simp only[ixI] at e;omega
      |some j=>rw[e2] at e he;simp only[ixI] at e;exact he (by rw[show j=i by omega])
     have hr:lnk os w=([],2):=by
      have:apart os=false:=by
       cases e:apart os with
       |false=>rfl
       |true=>exact absurd (apart_iff.1 e i hc) he
      rw[lnk,if_neg h12,if_neg hnn,if_neg hna,if_pos this]
     rw[hr]
     simp-implicitDefEqProofs[hne]
     exact hnone _ _ rfl
   ·have hie:os.length<=i:=by simpa using hc
    have hap1:apart os=true:=apart_iff.2 λj h=>hap j h (by omega)
    have hnap:¬apart os=false:=by rw[hap1];simp
    clear hc hi hie hap
    have hrw:List.replicate os.length [AV.p (.bool false)]=cr (List.replicate os.length false):=by simp[cr]
    have hcb0:=El (S:=List.replicate os.length false)
    rw[List.length_replicate] at hcb0
    simp-implicitDefEqProofs[hrw]
    refine⟨by omega,?_⟩
    refine AC.mono (hNd (List.replicate os.length false) [.row 1 (cr (List.replicate os.length false))] (by simp) (by omega) rfl) ?_
    rintro _ _ ⟨b,T,rfl,rfl,hTl,hb1,hb2⟩
    cases b with
    |false=>
     have hr:lnk os w=([],3):=by rw[lnk,if_neg h12,if_neg hnn,if_neg hna,if_neg hnap,if_pos (lostB_iff.2 (hb2 rfl))]
     rw[hr]
     simp-implicitDefEqProofs[ag]
     exact hnone _ _ rfl
    |true=>
     obtain⟨k0,hk0,hN,hon⟩:=hb1 rfl
     obtain⟨hT,hnl⟩:=hN.done hon
     have hnlost:¬DV os w=true:=λh=>by
      rcases lostB_iff.1 h with h|⟨k,hk,h⟩
      ·rw[hk0] at h;cases h
      ·rw[hk0] at hk;cases hk;exact hnl h
     have hk0l:=jH w k0 hk0
     simp-implicitDefEqProofs[ag]
     refine aw (λi:Nat=>aB 85 [(9,.p (.int .i64 i)),(8,.sl 0 1 0 os.length),(0,.p (.lst 6 (os.map Obj.cs))),(1,.p (.str w))]) (λ_=>[.row 1 (cr T)]) (λi=>i<=os.length/\∀j,j<i->onB T j->¬Lp (atN os) (csW os) j j) (λi=>os.length-i) 0 ⟨Nat.zero_le _,λj h2=>by omega⟩ (aA (Nat.zero_le _) (by simp[below])) ?_
     rintro i ⟨hi,hrd⟩
     simp-implicitDefEqProofs[]
     refine aR (λhc=>?_) (λhc=>?_)
     ·have hc:i<os.length:=by simpa using hc
      have hwi:=w1 (i:=i) (by omega)
      have hR1:=hRd (by omega) i hc
      rcases Kq (S:=T) (k:=i) (by omega) with⟨h1,h2⟩|⟨h1,h2⟩
      ·have hr:=gm h2
       simp-implicitDefEqProofs[hr,hc]
       refine hR1.use ?_
       cases e:lpB os i with
       |true=>
        have hr:lnk os w=([],4):=by rw[lnk,if_neg h12,if_neg hnn,if_neg hna,if_neg hnap,if_neg hnlost,if_pos (rndB_iff.2 ⟨i,⟨k0,hk0,(hT i).1 h1⟩,lpB_iff.1 e⟩)]
        rw[hr]
        simp-implicitDefEqProofs[]
        exact hnone _ _ rfl
       |false=>
        simp-implicitDefEqProofs[]
        refine⟨i+1,⟨hc,λj hj hon2=>?_⟩,by omega,aA (Nat.zero_le _) (by simp[below,hwi])⟩
        rcases Nat.lt_or_ge j i with h3|h3
        ·exact hrd j h3 hon2
        ·have:j=i:=by omega
         subst this
         exact λh=>by rw[lpB_iff.2 h] at e;cases e
      ·have hr:=gm h2
       simp-implicitDefEqProofs[hr,hc]
       refine⟨i+1,⟨hc,λj hj hon2=>?_⟩,by omega,aA (Nat.zero_le _) (by simp[below,hwi])⟩
       rcases Nat.lt_or_ge j i with h3|h3
       ·exact hrd j h3 hon2
       ·have:j=i:=by omega
        subst this
        exact absurd hon2 h1
     ·have hie:os.length<=i:=by simpa using hc
      have hTl2:∀y,onB T y->y<os.length:=λy hy=>by
       have:=(List.getElem?_eq_some_iff.1 hy).1;omega
      have hnr:∀y,Ld (atN os) (csW os) k0 y->¬Lp (atN os) (csW os) y y:=λy hy=>hrd y (by have:=hTl2 y ((hT y).2 hy);omega) ((hT y).2 hy)
      have hnrnd:¬Jt os w=true:=λh=>by
       obtain⟨y,⟨k,hk,hy⟩,hp⟩:=rndB_iff.1 h
       rw[hk0] at hk;cases hk
       exact hnr y hy hp
      have hres:lnk os w=if 4<(vn os w).length then([],5) else(vn os w,0):=by rw[lnk,if_neg h12,if_neg hnn,if_neg hna,if_neg hnap,if_neg hnlost,if_neg hnrnd]
      have hO:rb (atN os) (csW os) (os.length+1) k0 []=vn os w:=by rw[vn,rO,hk0]
      have hcall:=hPt k0 [.row 1 (cr T),.row 1 []] 1 (by simp) (by simp) (by simp) hk0l hnl hnr (by simp) (by simp) rfl
      rw[hO] at hcall
      have hAw:=hAt w
      rw[hk0] at hAw
      rw[hres]
      generalize vn os w=L at hcall
      simp-implicitDefEqProofs[]
      refine hAw.use ?_
      simp-implicitDefEqProofs[ixI]
      refine AC.mono hcall ?_
      rintro _ Y ⟨id,rfl,e1,e2⟩
      by_cases h4:4<L.length
      ·have h4i:(4:Int)<(L.length:Int):=by omega
       simp-implicitDefEqProofs[ag,h4,h4i]
       refine hnone _ _ ?_
       rw[List.getElem?_append_right (Nat.le_refl _),Nat.sub_self];rfl
      ·have h4i:¬(4:Int)<(L.length:Int):=by omega
       simp-implicitDefEqProofs[ag,h4,h4i]
       have:=ny e1
       rwa[fz] at this
end
section
section
variable {α:Type} {ix:α->Option Nat} {cs:Nat->List α}
theorem DM{s:Lk}(hm:∀x,s.mark x<=2)(k:Nat)(x:Nat):(newS s k).mark x<=2:=by
 simp only[newS,kX];split
 ·omega
 ·exact hm x
theorem rR{f n:Nat}(hn:∀w k,ix w=some k->k<n)(hf:∀w s,dO n s<f->(∀x,s.mark x<=2)->(cb ix cs f w s).out.length+dO n (cb ix cs f w s)<=s.out.length+dO n s):
 ∀(ws:List α) (s:Lk),dO n s<f->(∀x,s.mark x<=2)->(dg ix cs f ws s).out.length+dO n (dg ix cs f ws s)<=s.out.length+dO n s
 |[],s,_,_=>Nat.le_refl _
 |w::ws,s,hc,hm=>by
  obtain⟨h1,_⟩:=pJ (cs:=cs) hn f w s hc hm
  have hc2:dO n (cb ix cs f w s)<f:=Nat.lt_of_le_of_lt (gH λx hx=>by rw[h1.old x hx];exact hx) hc
  rw[oN]
  exact Nat.le_trans (rR hn hf ws _ hc2 (h1.le2 hm)) (hf w s hc hm)
theorem IY{n:Nat}(hn:∀w k,ix w=some k->k<n):∀(f:Nat) (w:α) (s:Lk),dO n s<f->(∀x,s.mark x<=2)->(cb ix cs f w s).out.length+dO n (cb ix cs f w s)<=s.out.length+dO n s:=by
 intro f
 induction f with
 |zero=>intro w s h;omega
 |succ f ih=>
  intro w s hc hm
  cases hk:ix w with
  |none=>rw[nw hk];exact Nat.le_refl _
  |some k=>
   by_cases h1:s.mark k=1
   ·rw[pz hk h1];exact Nat.le_refl _
   by_cases h2:s.mark k=2
   ·rw[rm hk h2];exact Nat.le_refl _
   rw[ro hk h1 h2]
   have h0:s.mark k=0:=by have:=hm k;omega
   have hc1:=tZ (hn w k hk) h0
   have h3:=rR hn ih (cs k) (newS s k) (by omega) (DM hm k)
   have h4:dO n (ma (dg ix cs f (cs k) (newS s k)) k)<=dO n (dg ix cs f (cs k) (newS s k)):=gH λx hx=>by
    simp only[ma,kX];split
    ·omega
    ·exact hx
   have h5:(ma (dg ix cs f (cs k) (newS s k)) k).out.length=(dg ix cs f (cs k) (newS s k)).out.length+1:=by simp[ma]
   have h6:(newS s k).out=s.out:=rfl
   rw[h6] at h3
   omega
theorem Ev{f n:Nat}(hn:∀w k,ix w=some k->k<n)(ws:List α)(s:Lk)(hc:dO n s<f)(hm:∀x,s.mark x<=2):dO n (dg ix cs f ws s)<f/\(∀x,(dg ix cs f ws s).mark x<=2)/\(∀x,s.mark x≠0->(dg ix cs f ws s).mark x=s.mark x)/\(dg ix cs f ws s).out.length+dO n (dg ix cs f ws s)<=s.out.length+dO n s:=by
 obtain⟨g1,_⟩:=py (pJ (cs:=cs) hn f) ws s hc hm
 exact⟨Nat.lt_of_le_of_lt (gH λx hx=>by rw[g1.old x hx];exact hx) hc,g1.le2 hm,g1.old,rR hn (IY hn f) ws s hc hm⟩
end
def Hq(es:List (PV × AV)):Prop:=∀e∈es,∃s:List UInt8,e.1= .str s
theorem uo{es:List (PV × AV)}(k:List UInt8)(v:AV)(h:Hq es):∃es',eA (.str k) v es=some es'/\Hq es'/\bB (.str k) es'=some (some v)/\∀q,q≠k->bB (.str q) es'=bB (.str q) es:=by
 induction es with
 |nil=>
  refine⟨[(.str k,v)],rfl,λe he=>⟨k,by simp at he;rw[he]⟩,by simp[bB,keq],λq hq=>by simp[bB,keq,hq]⟩
 |cons e r ih=>
  obtain⟨n,hn⟩:=h e (by simp)
  obtain⟨e1,e2⟩:=e
  simp only at hn
  subst hn
  obtain⟨es',h1,h2,h3,h4⟩:=ih λx hx=>h x (by simp[hx])
  by_cases hk:k=n
  ·subst hk
   refine⟨(.str k,v)::r,by simp[eA,keq],λx hx=>?_,by simp[bB,keq],λq hq=>by simp[bB,keq,hq]⟩
   rcases List.mem_cons.1 hx with rfl|hx
   ·exact⟨k,rfl⟩
   ·exact h x (by simp[hx])
  ·refine⟨(.str n,e2)::es',by simp[eA,keq,hk,h1],λx hx=>?_,by simp[bB,keq,hk,h3],λq hq=>by simp only[bB,keq];rw[h4 q hq]⟩
   rcases List.mem_cons.1 hx with rfl|hx
   ·exact⟨n,rfl⟩
   ·exact h2 x hx
structure StM (os:List Obj) (s:Lk) (es:List (PV × AV)):Prop where
 str:Hq es
 get:∀v k,atN os v=some k->bB (.str v) es=some (if s.mark k=0 then none else some (.p (.int .i64 (s.mark k))))
theorem vW{os:List Obj}{v:List UInt8}{k:Nat}(h:atN os v=some k):∃hk:k<os.length,os[k].name=v:=by
 obtain⟨h1,h2,_⟩:=List.findIdx?_eq_some_iff_getElem.1 h
 exact⟨h1,by simpa using h2⟩
theorem StM.set{os:List Obj}{s:Lk}{es:List (PV × AV)}{w:List UInt8}{k:Nat}(h:StM os s es)(hk:atN os w=some k){m:Nat}(hm:m≠0){t:Lk}(ht:∀x,t.mark x=kX s.mark k m x):∃es',eA (.str w) (.p (.int .i64 m)) es=some es'/\StM os t es':=by
 obtain⟨es',h1,h2,h3,h4⟩:=uo w (.p (.int .i64 m)) h.str
 refine⟨es',h1,h2,λv j hj=>?_⟩
 rw[ht,kX]
 by_cases e:v=w
 ·subst e
  rw[hk] at hj
  cases hj
  rw[if_pos rfl,if_neg hm,h3]
 ·have:j≠k:=λe2=>by
   subst e2
   obtain⟨_,n1⟩:=vW hj
   obtain⟨_,n2⟩:=vW hk
   exact e (n1.symm.trans n2)
  rw[if_neg this,h4 v e]
  exact h.get v j hj
structure LkH (os:List Obj) (ae:List (PV × AV)) (s:Lk) (X:List AO):Prop where
 at_:X[0]?=some (.mp ae)
 st:∃es,X[1]?=some (.mp es)/\StM os s es
 bx:∃V,X[2]?=some (.row 6 [[.mp 0,.p (obL os),.mp 1,V,.p (.bool s.lost),.p (.bool s.round)]])/\((V= .nils/\s.out=[])\/∃id,3<=id/\V= .sl id 1 0 s.out.length/\X[id]?=some (.row 1 (dX (aP s.out))))
theorem LkH.l3{os:List Obj}{ae:List (PV × AV)}{s:Lk}{X:List AO}(h:LkH os ae s X):3<=X.length:=by
 obtain⟨V,h1,_⟩:=h.bx
 have:=(List.getElem?_eq_some_iff.1 h1).1;omega
structure PuS where (i:Nat) (X:List AO)
variable (G:az)
theorem Jc(l:List (List UInt8))(hb:l.length<=1048576):VF Tryz.prog G gV [.p (aQ l)] (.p (aQ (tw l))):=by
 by_cases hn:l=[]
 ·subst hn
  exact AC.freezeR ((Hs G [] (by simp)).mono (R':=λr _=>r= .ret .nils) λr h e=>by rw[if_pos rfl] at e;exact e) (λt v h e=>by cases e) λv h e=>by cases e;exact .one (View.nils 1) .nil
 ·exact AC.freeze (IT G hb hn) (.one (nE rfl) .nil)
theorem MA(os:List Obj)(ho:ObsOk os)(hall:∀o∈os,bC o=true)(h12:os.length<=12)(ae:List (PV × AV))(hae:∀v,bB (.str v) ae=some ((atN os v).map λ(k:Nat)=>AV.p (.int .i64 (k:Int)))):
 ∀(f:Nat) (w:List UInt8) (s:Lk) (X:List AO),dO os.length s<f->(∀x,s.mark x<=2)->s.out.length+dO os.length s<=12->LkH os ae s X->
 AC Tryz.prog G dT [.ptr 2 6 0 0,.p (.str w)] X λx X'=>x= .ret (.tup [])/\X.length<=X'.length/\LkH os ae (cb (atN os) (csW os) f w s) X':=by
 have hLn:obL os= .lst 6 (os.map Obj.cs):=rfl
 intro f
 induction f with
 |zero=>intro w s X h;omega
 |succ f ih=>
  intro w s X hc hm hob hX
  have hX3:=hX.l3
  have g0:=hX.at_
  obtain⟨es,g1,hS⟩:=hX.st
  obtain⟨V,g2,hV⟩:=hX.bx
  have hge:=hae w
  rw[hLn] at g2
  refine AC.go ru ?_
  cases hk:atN os w with
  |none=>
   rw[hk] at hge
   rw[nw hk]
   simp-implicitDefEqProofs[cI,g0,g2,hge]
   have h2l:=(List.getElem?_eq_some_iff.1 g2).1
   refine⟨by rw[List.getElem?_set_ne (by omega)];exact g0,⟨es,by rw[List.getElem?_set_ne (by omega)];exact g1,⟨hS.str,hS.get⟩⟩,⟨V,by rw[List.getElem?_set_self h2l];rfl,?_⟩⟩
   rcases hV with h|⟨id,h3,h4,h5⟩
   ·exact .inl h
   ·exact .inr ⟨id,h3,h4,by rw[List.getElem?_set_ne (by omega)];exact h5⟩
  |some k=>
   rw[hk] at hge
   have hgs:=hS.get w k hk
   have h2l:=(List.getElem?_eq_some_iff.1 g2).1
   by_cases h1:s.mark k=1
   ·rw[h1,if_neg (by omega)] at hgs
    rw[pz hk h1]
    simp-implicitDefEqProofs[cI,g0,g1,g2,hge,hgs]
    refine⟨by rw[List.getElem?_set_ne (by omega)];exact g0,⟨es,by rw[List.getElem?_set_ne (by omega)];exact g1,⟨hS.str,hS.get⟩⟩,⟨V,by rw[List.getElem?_set_self h2l];rfl,?_⟩⟩
    rcases hV with h|⟨id,h3,h4,h5⟩
    ·exact .inl h
    ·exact .inr ⟨id,h3,h4,by rw[List.getElem?_set_ne (by omega)];exact h5⟩
   by_cases h2:s.mark k=2
   ·rw[h2,if_neg (by omega)] at hgs
    rw[rm hk h2]
    simp-implicitDefEqProofs[cI,g0,g1,g2,hge,hgs]
    exact hX
   have h0:s.mark k=0:=by have:=hm k;omega
   rw[h0,if_pos rfl] at hgs
   have hkl:=jH w k hk
   have hg:=List.getElem?_eq_getElem hkl
   have hom:os[k]∈os:=List.getElem_mem hkl
   have hcl:=nr (ho.sz _ hom)
   have hcs:csW os k=tw os[k].names:=by rw[nA hkl,kA,if_pos (hall _ hom)]
   have hsz:=ho.sz _ hom
   have hszd:szO os[k]=os[k].name.length+os[k].code.length+os[k].calls.length+szW os[k].names:=rfl
   have hwz:szW os[k].names=os[k].names.length+(os[k].names.map List.length).sum:=rfl
   have hU:=Jc G os[k].names (by omega)
   have hUl:=Bq os[k].names
   rw[←hcs] at hU hUl
   have hsl:∀l,aQ l= .lst 1 (l.map λw=>[.str w]):=λ_=>rfl
   have hsl2:aQ (csW os k)= .lst 1 ((csW os k).map λw=>[.str w]):=rfl
   rw[hsl2] at hU
   obtain⟨es1,hm1,hS1⟩:=hS.set hk (m:=1) (by omega) (t:=newS s k) λ_=>rfl
   have hm1':eA (.str w) (.p (.int .i64 1)) es=some es1:=hm1
   have hc1:=tZ hkl h0
   have hX1:LkH os ae (newS s k) (X.set 1 (.mp es1)):=by
    refine⟨by rw[List.getElem?_set_ne (by omega)];exact g0,⟨es1,by rw[List.getElem?_set_self (by omega)],hS1⟩,⟨V,by rw[List.getElem?_set_ne (by omega)];exact g2,?_⟩⟩
    rcases hV with h|⟨id,h3,h4,h5⟩
    ·exact .inl h
    ·exact .inr ⟨id,h3,h4,by rw[List.getElem?_set_ne (by omega)];exact h5⟩
   rw[ro hk h1 h2]
   have hkp:=λi=>Ev (cs:=csW os) (f:=f) (n:=os.length) jH ((csW os k).take i) (newS s k) (by omega) (DM hm k)
   obtain⟨D,hD⟩:∃D:Nat->Lk,D=λi=>dg (atN os) (csW os) f ((csW os k).take i) (newS s k):=⟨_,rfl⟩
   have hD0:D 0=newS s k:=by rw[hD];rfl
   have hDs:∀i v,(csW os k)[i]?=some v->D (i+1)=cb (atN os) (csW os) f v (D i):=λi v h=>by
    rw[hD];simp only;rw[List.take_add_one,h]
    show dg _ _ _ (_++[v]) _=_
    rw[Dg]
   have hDe:∀i,(csW os k).length<=i->dg (atN os) (csW os) f (csW os k) (newS s k)=D i:=λi h=>by rw[hD];simp only;rw[List.take_of_length_le h]
   have hDk:∀i,dO os.length (D i)<f/\(∀x,(D i).mark x<=2)/\(D i).mark k≠0/\(D i).out.length+dO os.length (D i)<=11:=λi=>by
    rw[hD]
    obtain⟨q1,q2,q3,q4⟩:=hkp i
    have nk:(newS s k).mark k=1:=by simp[newS,kX]
    refine⟨q1,q2,by simp only;rw[q3 k (by omega),nk];omega,Nat.le_trans q4 ?_⟩
    show s.out.length+_<=_
    omega
   rw[←hsl2,hcs] at hU
   clear hkp hD
   simp-implicitDefEqProofs[cI,g0,g1,g2,hge,hgs,hm1',hkl,hg,Obj.cs]
   refine hU.use ?_
   rw[←hcs,hsl2]
   simp-implicitDefEqProofs[]
   refine aw (λa:PuS=>aB 80 [(57,.p (.int .i64 a.i)),(56,.p (.int .i64 (csW os k).length)),(55,.p (.lst 1 ((csW os k).map λw=>[.str w]))),(0,.ptr 2 6 0 0),(1,.p (.str w)),(4,.p (.int .i64 k))]) (λa=>a.X)
    (λa=>a.i<=(csW os k).length/\X.length<=a.X.length/\LkH os ae (D a.i) a.X) (λa=>(csW os k).length-a.i) ⟨0,X.set 1 (.mp es1)⟩ ⟨Nat.zero_le _,by simp,by simp only[hD0];exact hX1⟩ (aA (by simp) (by simp[below];omega)) ?_
   rintro⟨i,Z⟩ ⟨hi,hZl,hZ⟩
   simp only at hi hZl hZ⊢
   obtain⟨d1,d2,d3,d4⟩:=hDk i
   simp-implicitDefEqProofs[]
   refine aR (λhc2=>?_) (λhc2=>?_)
   ·have hc2:i<(csW os k).length:=by simpa using hc2
    have hwi:=w1 (i:=i) (by omega)
    have hgi:=List.getElem?_eq_getElem hc2
    generalize (csW os k)[i]=v at hgi
    have hcall:=ih v (D i) Z d1 d2 (by omega) hZ
    rw[←hDs i v hgi] at hcall
    simp-implicitDefEqProofs[hgi]
    refine AC.mono hcall ?_
    rintro _ Z2 ⟨rfl,e1,e2⟩
    have:=e2.l3
    simp-implicitDefEqProofs[ag]
    exact⟨⟨i+1,Z2⟩,⟨hc2,by simp only;omega,e2⟩,by simp only;omega,aA (by omega) (by simp[below,hwi];omega)⟩
   ·have hie:(csW os k).length<=i:=by simpa using hc2
    rw[hDe i hie]
    have hZ3:=hZ.l3
    have z0:=hZ.at_
    obtain⟨es2,z1,hS2⟩:=hZ.st
    obtain⟨V2,z2,hV2⟩:=hZ.bx
    rw[hLn] at z2
    obtain⟨es3,hm3,hS3⟩:=hS2.set hk (m:=2) (by omega) (t:=ma (D i) k) λ_=>rfl
    have hm3':eA (.str w) (.p (.int .i64 2)) es2=some es3:=hm3
    have hx2:∀o t,(Z.set 1 o++t)[2]?=Z[2]?:=λo t=>by rw[List.getElem?_append_left (by simp;omega),List.getElem?_set_ne (by omega)]
    rw[z2] at hx2
    rcases hV2 with⟨rfl,he⟩|⟨id,h3,rfl,h5⟩
    ·simp-implicitDefEqProofs[z0,z1,z2,hm3',hx2]
     refine⟨by omega,⟨?_,⟨es3,?_,hS3⟩,⟨_,List.getElem?_set_self (by simp;omega),.inr ⟨Z.length+1,by omega,?_,?_⟩⟩⟩⟩
     ·rw[List.getElem?_set_ne (by omega),List.getElem?_append_left (by simp;omega),List.getElem?_set_ne (by omega)];exact z0
     ·rw[List.getElem?_set_ne (by omega),List.getElem?_append_left (by simp;omega),List.getElem?_set_self (by omega)]
     ·simp[ma,he]
     ·rw[List.getElem?_set_ne (by omega),List.getElem?_append_right (by simp)]
      simp[ma,he,dX,aP]
    ·have hidl:=(List.getElem?_eq_some_iff.1 h5).1
     have hgm:∀o t,(Z.set 1 o++t)[id]?=some (.row 1 (dX (aP (D i).out))):=λo t=>by rw[List.getElem?_append_left (by simp;omega),List.getElem?_set_ne (by omega)];exact h5
     have hrl:(dX (aP (D i).out)).length=(D i).out.length:=by simp[dX,aP]
     have htt:List.take (D i).out.length (dX (aP (D i).out))=dX (aP (D i).out):=List.take_of_length_le (by omega)
     have hx3:∀o t t2,((Z.set 1 o++t).set id AO.dead++t2)[2]?=some (.row 6 [[.mp 0,.p (.lst 6 (os.map Obj.cs)),.mp 1,.sl id 1 0 (D i).out.length,.p (.bool (D i).lost),.p (.bool (D i).round)]]):=λo t t2=>by
      rw[List.getElem?_append_left (by simp;omega),List.getElem?_set_ne (by omega)];exact hx2 o t
     simp-implicitDefEqProofs[z0,z1,z2,hm3',hx2,hgm,hrl,htt,hx3]
     have hle:(ma (D i) k).out.length=(D i).out.length+1:=by simp[ma]
     refine⟨⟨by omega,by omega⟩,by omega,⟨?_,⟨es3,?_,hS3⟩,⟨_,List.getElem?_set_self (by simp<;>omega),.inr ⟨Z.length+1,by omega,by rw[hle],?_⟩⟩⟩⟩
     ·rw[List.getElem?_set_ne (by omega),List.getElem?_append_left (by simp<;>omega),List.getElem?_set_ne (by omega),List.getElem?_append_left (by simp<;>omega),List.getElem?_set_ne (by omega)];exact z0
     ·rw[List.getElem?_set_ne (by omega),List.getElem?_append_left (by simp<;>omega),List.getElem?_set_ne (by omega),List.getElem?_append_left (by simp<;>omega),List.getElem?_set_self (by omega)]
     ·rw[List.getElem?_set_ne (by omega),List.getElem?_append_right (by simp)]
      simp[ma,dX,aP]
end
section
variable (G:az)
theorem EU(l:List Int):iL (bV l)=true:=by simp[iL,bV,jD,nN]
theorem FG(l:List Int):iL (gM l)=true:=by simp[iL,gM,jD,nN]
theorem CN(n:Nat)(l:List Int):aX n (gM l)=gM l:=by
 simp only[aX,gM,List.map_map];rfl
theorem Fv(l:List Int):∀x∈l.map (λw=>[AV.p (.int .u8 w)]),ab 0 x:=by
 intro x hx;obtain⟨m,_,rfl⟩:=List.mem_map.1 hx;simp[ab,below]
theorem ET(l:List Int):∀x∈l.map (λw=>[AV.p (.int .i64 w)]),ab 0 x:=by
 intro x hx;obtain⟨m,_,rfl⟩:=List.mem_map.1 hx;simp[ab,below]
theorem CS(o:Obj)(h1:o.code.length<=1048576)(h2:o.calls.length<=1048576)(h3:o.names.length<=1048576):AC Tryz.prog G cw [.agg (o.cs.map .p)] [] λx h=>
 ∃a b c,x= .ret (.agg (o.ov a b c))/\h[a]?=some (bV o.code)/\h[b]?=some (gM o.calls)/\h[c]?=some (fR o.names)/\a<b/\b<c:=by
 refine AC.go tB ?_
 simp-implicitDefEqProofs[lD,Obj.cs]
 refine(AC.lift (Fl G o.code h1) (by simp[ab,below]) rfl (by simp only[List.all_cons,List.all_nil,EU];rfl)).mono ?_
 rintro r h ⟨rfl,rfl⟩
 simp-implicitDefEqProofs[ag,aY,bi,oz]
 refine(AC.lift (Hd G o.calls h2) (by simp[ab,below]) rfl (by simp only[List.all_cons,List.all_nil,FG];rfl)).mono ?_
 rintro r h ⟨rfl,rfl⟩
 simp-implicitDefEqProofs[ag,aY,bi,CN]
 refine(AC.lift (Av G o.names h3) (by simp[ab,below]) rfl (by simp only[List.all_cons,List.all_nil,Eu];rfl)).mono ?_
 rintro r h ⟨rfl,rfl⟩
 simp-implicitDefEqProofs[ag,aY,bi,Dx]
 exact⟨3,4,5,rfl,rfl,rfl,rfl,by omega,by omega⟩
theorem Dp(o:Obj)(h1:o.code.length<=1048576)(h2:o.calls.length<=1048576)(h3:o.names.length<=1048576):AC Tryz.prog G cw [.agg (o.cs.map .p)] [] λx h=>
 x= .ret (.agg (o.ov 0 1 2))/\h=[bV o.code,gM o.calls,fR o.names]:=by
 refine(CS G o h1 h2 h3).gc (λt v h ⟨_,_,_,e,_⟩=>by cases e) λv h ⟨a,b,c,e,e1,e2,e3,l1,l2⟩=>?_
 cases e
 refine⟨.agg (o.ov 0 1 2),[bV o.code,gM o.calls,fR o.names],⟨[a,b,c],by simp,by simp,?_,by simp[below,ab,Obj.ov],by simp[ren,aF,Obj.ov],af e1 (Fv _) (af e2 (ET _) (af e3 (zj _) aj))⟩,rfl,rfl⟩
 simp
 omega
variable (hG:G bW=some pvForms) (hK:G ig=some gB)
include hG hK
end
section
theorem GW{os:List Obj}{i:Nat}{v:List UInt8}(h:i<os.length):atN (os.take (i+1)) v=(atN (os.take i) v).or (if os[i].name=v then some i else none):=by
 rw[atN,List.take_add_one,List.getElem?_eq_getElem h,List.findIdx?_append]
 show(atN (os.take i) v).or _=_
 congr 1
 simp only[Option.toList_some,List.findIdx?_singleton]
 by_cases e:os[i].name=v
 ·simp[e];omega
 ·simp[e]
theorem HA{os:List Obj}{i j:Nat}{v:List UInt8}(h:atN (os.take i) v=some j):atN os v=some j/\j<i:=by
 obtain⟨h1,h2,h3⟩:=List.findIdx?_eq_some_iff_getElem.1 h
 rw[List.length_take] at h1
 refine⟨?_,by omega⟩
 rw[atN,List.findIdx?_eq_some_iff_getElem]
 refine⟨by omega,by simpa using h2,λq hq=>?_⟩
 have:=h3 q hq
 simpa using this
structure LmS where (i:Nat) (ae:List (PV × AV)) (X:List AO)
structure AtM (os:List Obj) (i:Nat) (ae:List (PV × AV)):Prop where
 str:Hq ae
 get:∀v,bB (.str v) ae=some ((atN (os.take i) v).map λ(k:Nat)=>AV.p (.int .i64 (k:Int)))
theorem AtM.start(os:List Obj):AtM os 0 []:=⟨λe he=>(by cases he),λv=>rfl⟩
theorem AtM.step{os:List Obj}{i:Nat}{ae:List (PV × AV)}(h:AtM os i ae)(hi:i<os.length)(hn:atN (os.take i) os[i].name=none):∃ae',eA (.str os[i].name) (.p (.int .i64 i)) ae=some ae'/\AtM os (i+1) ae':=by
 obtain⟨ae',h1,h2,h3,h4⟩:=uo os[i].name (.p (.int .i64 i)) h.str
 refine⟨ae',h1,h2,λv=>?_⟩
 rw[GW hi]
 by_cases e:v=os[i].name
 ·subst e
  rw[h3,hn,if_pos rfl];rfl
 ·have e2:¬os[i].name=v:=λh=>e h.symm
  rw[h4 v e,h.get v,if_neg e2,Option.or_none]
variable (G:az)
variable (hG:G bW=some pvForms) (hK:G ig=some gB)
include hG hK
theorem ye(o:Obj)(ho:ObjSm o)(hz:szO o<=1048576):VF Tryz.prog G bM [.agg (o.cs.map .p)] (.p (.bool (!bC o))):=by
 refine AC.go pc ?_
 have hv:=yu G hG hK o ho hz
 rw[Obj.cs] at hv
 simp-implicitDefEqProofs[jg,Obj.cs]
 refine hv.use ?_
 simp-implicitDefEqProofs[]
def CX(os:List Obj):Int:=ixI (os.findIdx? λo=> !bC o)
omit hG hK in
theorem Hr(os:List Obj):decide (0<=CX os)= !os.all bC:=by
 unfold CX
 cases h:os.findIdx? (λo=> !bC o) with
 |none=>
  rw[List.findIdx?_eq_none_iff] at h
  have:os.all bC=true:=List.all_eq_true.2 λo ho=>by simpa using h o ho
  rw[this];simp[ixI]
 |some i=>
  obtain⟨h1,h2,_⟩:=List.findIdx?_eq_some_iff_getElem.1 h
  have:os.all bC=false:=List.all_eq_false.2 ⟨_,List.getElem_mem h1,by simpa using h2⟩
  rw[this];simp[ixI]
theorem Dq(os:List Obj)(ho:ObsOk os):VF Tryz.prog G bO [.p (obL os),.fn (.func bM) []] (.p (.int .i64 (CX os))):=by
 refine AC.go gv ?_
 have hsl:obL os= .lst 6 (os.map Obj.cs):=rfl
 have hlen:=ho.len
 simp-implicitDefEqProofs[cZ,hsl]
 refine aw (λi:Nat=>aB 19 [(0,.p (.lst 6 (os.map Obj.cs))),(1,.fn (.func bM) []),(7,.p (.int .i64 os.length)),(8,.p (.int .i64 i))]) (λ_=>[]) (λi=>i<=os.length/\∀w∈os.take i,bC w=true) (λi=>os.length-i) 0 (by simp) ?_ ?_
 ·exact bh (by simp) (by simp[okO]) (by simp[below,ab])
 ·intro i ⟨hi,hn⟩
  simp-implicitDefEqProofs[]
  refine aR (λh1=>?_) (λh1=>?_)
  ·have h1:i<os.length:=by simpa using h1
   have hg:=List.getElem?_eq_getElem h1
   have hom:=List.getElem_mem h1
   have hf1:=ye G hG hK os[i] (ho.sm _ hom) (ho.sz _ hom)
   simp-implicitDefEqProofs[hg]
   refine hf1.use ?_
   by_cases he:bC os[i]=true
   ·simp-implicitDefEqProofs[he]
    refine⟨i+1,⟨h1,λp hp=>?_⟩,by omega,bh (by simp) (by simp[okO]) ?_⟩
    ·rw[aq h1] at hp
     rcases List.mem_append.1 hp with hp|hp
     ·exact hn p hp
     ·rw[List.mem_singleton.1 hp];exact he
    ·simp[below,ab,w1 (i:=i) (by omega)]
   ·have hf:CX os=i:=by
     have:os.findIdx? (λw=> !bC w)=some i:=by
      rw[List.findIdx?_eq_some_iff_getElem]
      exact⟨h1,by simpa using he,λj hj=>by have:=hn os[j] (List.mem_take_iff_getElem.2 ⟨j,by omega,rfl⟩);simpa using this⟩
     rw[CX,this];rfl
    simp-implicitDefEqProofs[he,hf]
  ·simp at h1
   rw[List.take_of_length_le h1] at hn
   have hf:CX os= -1:=by
    have:os.findIdx? (λw=> !bC w)=none:=by
     rw[List.findIdx?_eq_none_iff];intro x hx;simpa using hn x hx
    rw[CX,this];rfl
   simp-implicitDefEqProofs[hf]
theorem yh(os:List Obj)(ho:ObsOk os):VF Tryz.prog G bA [.p (obL os),.fn (.func bM) []] (.p (.bool (!os.all bC))):=by
 rw[←Hr]
 refine AC.go fE ?_
 have hI:=Dq G hG hK os ho
 simp-implicitDefEqProofs[cn]
 refine hI.use ?_
 simp-implicitDefEqProofs[]
end
section
theorem II{os:List Obj}{w:List UInt8}(h:(lnk os w).2≠0):(lnk os w).1=[]:=by
 unfold lnk at h⊢
 repeat' split
 all_goals first|rfl|skip
 exfalso
 simp_all
variable (G:az)
variable (hG:G bW=some pvForms) (hK:G ig=some gB)
include hG hK
theorem nh(os:List Obj)(ho:ObsOk os)(w:List UInt8)(hw:w.length<=1048576):AC Tryz.prog G cf [.p (obL os),.p (.str w)] [] λx h=>
 if(lnk os w).2=0 then∃id,x= .ret (.tup [.sl id 1 0 (lnk os w).1.length,.p (.int .i64 0)])/\h[id]?=some (.row 1 (dX (aP (lnk os w).1))) else x= .ret (.tup [.nils,.p (.int .i64 (lnk os w).2)]):=by
 have hLn:obL os= .lst 6 (os.map Obj.cs):=rfl
 have hCB:=yh G hG hK os ho
 have hPut:=λhall h12 ae hae X=>MA G os ho hall h12 ae hae (os.length+1) w lk0 X
 have hlen:=ho.len
 obtain⟨q1,q2,q3⟩:=AH (cs:=csW os) (n:=os.length) (ix:=atN os) (λw k h=>jH w k h) w
 rw[hLn] at hCB⊢
 by_cases h12:12<os.length
 ·have h12i:(12:Int)<(os.length:Int):=by omega
  have hr:lnk os w=([],1):=by rw[lnk,if_pos h12]
  rw[hr]
  refine AC.go kI ?_
  simp-implicitDefEqProofs[gt,h12i]
 have h12i:¬(12:Int)<(os.length:Int):=by omega
 refine AC.go kI ?_
 simp-implicitDefEqProofs[gt,h12i]
 refine(pS G hK w (by omega)).use ?_
 cases hn:aS w with
 |false=>
  have hr:lnk os w=([],1):=by rw[lnk,if_neg h12,if_pos hn]
  rw[hr]
  simp-implicitDefEqProofs[]
 |true=>
  simp-implicitDefEqProofs[]
  refine hCB.use ?_
  cases hv:os.all bC with
  |false=>
   have hr:lnk os w=([],1):=by rw[lnk,if_neg h12,if_neg (by rw[hn];simp),if_pos hv]
   rw[hr]
   simp-implicitDefEqProofs[]
  |true=>
   have hna:¬os.all bC=false:=by rw[hv];simp
   have hnn:¬aS w=false:=by rw[hn];simp
   have hok:∀o∈os,bC o=true:=List.all_eq_true.1 hv
   simp-implicitDefEqProofs[]
   obtain⟨B,hB⟩:∃B:AO,B=AO.row 6 [[.mp 0,.p (.lst 6 (os.map Obj.cs)),.mp 1,.nils,.p (.bool false),.p (.bool false)]]:=⟨_,rfl⟩
   rw[←hB]
   refine aw (λa:LmS=>aB 78 [(30,.p (.int .i64 a.i)),(29,.p (.int .i64 os.length)),(28,.p (.lst 6 (os.map Obj.cs))),(6,.ptr 2 6 0 0),(1,.p (.str w))]) (λa=>a.X)
    (λa=>a.i<=os.length/\a.X[0]?=some (.mp a.ae)/\a.X[1]?=some (.mp [])/\a.X[2]?=some B/\AtM os a.i a.ae/\∀(j:Nat) (h:j<os.length),j<a.i->atN os os[j].name=some j) (λa=>os.length-a.i) ⟨0,[],[.mp [],.mp [],B]⟩ ⟨Nat.zero_le _,rfl,rfl,rfl,.start os,λj h h2=>by simp only at h2;omega⟩ (aA (Nat.zero_le _) (by simp[below])) ?_
   rintro⟨i,ae,X⟩ ⟨hi,g0,g1,g2,hM,hap⟩
   simp only at hi g0 g1 g2 hM hap⊢
   have h2l:=(List.getElem?_eq_some_iff.1 g2).1
   simp-implicitDefEqProofs[]
   refine aR (λhc=>?_) (λhc=>?_)
   ·have hc:i<os.length:=by simpa using hc
    have hwi:=w1 (i:=i) (by omega)
    have hg:=List.getElem?_eq_getElem hc
    have hgt:=hM.get os[i].name
    have a0:∀t,(X++t)[0]?=some (.mp ae):=λt=>by rw[List.getElem?_append_left (by omega)];exact g0
    have a2:∀t,(X++t)[2]?=some (AO.row 6 [[.mp 0,.p (.lst 6 (os.map Obj.cs)),.mp 1,.nils,.p (.bool false),.p (.bool false)]]):=λt=>by rw[List.getElem?_append_left (by omega),←hB];exact g2
    have a0e:=λt hh=>rT (a0 t) hh
    have a2e:=λt hh=>rT (a2 t) hh
    cases hf:atN (os.take i) os[i].name with
    |some j=>
     rw[hf] at hgt
     have hr:lnk os w=([],2):=by
      have:apart os=false:=by
       cases e:apart os with
       |false=>rfl
       |true=>
        obtain⟨e1,e2⟩:=HA hf
        rw[apart_iff.1 e i hc] at e1
        cases e1;omega
      rw[lnk,if_neg h12,if_neg hnn,if_neg hna,if_pos this]
     rw[hr]
     simp-implicitDefEqProofs[hg,Obj.cs,a0,a2,a0e,a2e,hgt]
    |none=>
     rw[hf] at hgt
     obtain⟨ae',hm1,hM2⟩:=hM.step hc hf
     simp-implicitDefEqProofs[hg,Obj.cs,a0,a2,a0e,a2e,hgt,hm1]
     refine⟨⟨i+1,ae',_⟩,⟨hc,?_,?_,?_,hM2,λj h hj=>?_⟩,by simp only;omega,aA (Nat.zero_le _) (by simp[below,hwi];omega)⟩
     ·simp only;rw[List.getElem?_set_self (by simp<;>omega)]
     ·simp only;rw[List.getElem?_set_ne (by omega),List.getElem?_append_left (by omega)];exact g1
     ·simp only;rw[List.getElem?_set_ne (by omega),List.getElem?_append_left (by omega)];exact g2
     ·simp only at hj
      rcases Nat.lt_or_ge j i with h1|h1
      ·exact hap j h h1
      ·have:j=i:=by omega
       subst this
       rw[atN,List.findIdx?_eq_some_iff_getElem]
       refine⟨h,by simp,λq hq=>?_⟩
       rw[atN,List.findIdx?_eq_none_iff] at hf
       have:=hf os[q] (List.mem_take_iff_getElem.2 ⟨q,by omega,rfl⟩)
       simpa using this
   ·have hie:os.length<=i:=by simpa using hc
    have hap1:apart os=true:=apart_iff.2 λj h=>hap j h (by omega)
    have hnap:¬apart os=false:=by rw[hap1];simp
    have hae:∀v,bB (.str v) ae=some ((atN os v).map λ(k:Nat)=>AV.p (.int .i64 (k:Int))):=λv=>by
     have:=hM.get v
     rwa[List.take_of_length_le hie] at this
    have hL0:LkH os ae lk0 X:=by
     refine⟨g0,⟨[],g1,λe he=>(by cases he),λv k _=>rfl⟩,.nils,?_,.inl ⟨rfl,rfl⟩⟩
     rw[g2,hB];rfl
    have hcall:=hPut hok (by omega) ae hae X (by rw[zK];omega) (λ_=>Nat.zero_le _) (by rw[zK];show 0+_<=_;omega) hL0
    generalize hT:cb (atN os) (csW os) (os.length+1) w lk0=T at hcall q1 q2 q3
    simp-implicitDefEqProofs[]
    refine AC.mono hcall ?_
    rintro _ Y ⟨rfl,e1,e2⟩
    obtain⟨V,z2,hV⟩:=e2.bx
    rw[hLn] at z2
    cases hl:T.lost with
    |true=>
     rw[hl] at z2
     have hr:lnk os w=([],3):=by rw[lnk,if_neg h12,if_neg hnn,if_neg hna,if_neg hnap,if_pos (lostB_iff.2 (q1.1 hl))]
     rw[hr]
     simp-implicitDefEqProofs[ag,z2]
    |false=>
     have hnlost:¬DV os w=true:=λh=>by rw[q1.2 (lostB_iff.1 h)] at hl;cases hl
     have q2:=q2 hl
     have q3:=q3 hl
     rw[hl] at z2
     cases hr:T.round with
     |true=>
      rw[hr] at z2
      have hr2:lnk os w=([],4):=by rw[lnk,if_neg h12,if_neg hnn,if_neg hna,if_neg hnap,if_neg hnlost,if_pos (rndB_iff.2 (q2.1 hr))]
      rw[hr2]
      simp-implicitDefEqProofs[ag,z2]
     |false=>
      rw[hr] at z2
      have hnr:¬Jt os w=true:=λh=>by rw[q2.2 (rndB_iff.1 h)] at hr;cases hr
      have hO:T.out=vn os w:=(q3 hr).1
      have hres:lnk os w=if 4<T.out.length then([],5) else(T.out,0):=by rw[hO,lnk,if_neg h12,if_neg hnn,if_neg hna,if_neg hnap,if_neg hnlost,if_neg hnr]
      rw[hres]
      rcases hV with⟨rfl,he⟩|⟨id,_,rfl,h5⟩
      ·exfalso
       have hne:vn os w≠[]:=by
        rw[vn,rO]
        cases hk:atN os w with
        |none=>exact absurd (lostB_iff.2 (.inl hk)) hnlost
        |some k=>simp only;rw[nu (by simp)];simp
       exact hne (hO▸he)
      ·by_cases h4:4<T.out.length
       ·have h4i:(4:Int)<(T.out.length:Int):=by omega
        simp-implicitDefEqProofs[ag,z2,h4,h4i]
       ·have h4i:¬(4:Int)<(T.out.length:Int):=by omega
        simp-implicitDefEqProofs[ag,z2,h4,h4i]
        exact h5
theorem Ae(os:List Obj)(ho:ObsOk os)(w:List UInt8)(hw:w.length<=1048576)(h0:(lnk os w).2=0):AC Tryz.prog G cf [.p (obL os),.p (.str w)] [] λx h=>x= .ret (.tup [.sl 0 1 0 (lnk os w).1.length,.p (.int .i64 0)])/\h=[.row 1 (dX (aP (lnk os w).1))]:=by
 refine(nh G hG hK os ho w hw).gc (λt v h e=>?_) λv h e=>?_
 ·rw[if_pos h0] at e;obtain⟨_,e,_⟩:=e;cases e
 ·rw[if_pos h0] at e
  obtain⟨id,e1,e2⟩:=e
  cases e1
  refine⟨.tup [.sl 0 1 0 (lnk os w).1.length,.p (.int .i64 0)],[.row 1 (dX (aP (lnk os w).1))],⟨[id],by simp,by simp,by simp,by simp[below,ab],by simp[ren,aF],af e2 ?_ aj⟩,rfl,rfl⟩
  intro x hx
  obtain⟨m,_,rfl⟩:=List.mem_map.1 hx
  simp[ab,below]
theorem zy(os:List Obj)(ho:ObsOk os)(w:List UInt8)(hw:w.length<=1048576)(h0:(lnk os w).2≠0):VF Tryz.prog G cf [.p (obL os),.p (.str w)] (.tup [.nils,.p (.int .i64 (lnk os w).2)]):=
 AC.freezeR ((nh G hG hK os ho w hw).mono (R':=λr _=>r= .ret (.tup [.nils,.p (.int .i64 (lnk os w).2)])) λr h e=>by rw[if_neg h0] at e;exact e) (λt v h e=>by cases e) λv h e=>by cases e;exact .tup (.keep (by simp[below]) (.keep (by simp[below]) .nil)) .nil
theorem zU(os:List Obj)(ho:ObsOk os)(w:List UInt8)(hw:w.length<=1048576):VF Tryz.prog G cf [.p (obL os),.p (.str w)] (.tup [.p (bk (aP (lnk os w).1)),.p (.int .i64 (lnk os w).2)]):=by
 by_cases h0:(lnk os w).2=0
 ·have h1:=Ae G hG hK os ho w hw h0
  rw[h0]
  refine AC.freeze h1 (.tup (.one ?_ (.keep (by simp[below]) .nil)) .nil)
  have:=ny (h:=[.row 1 (dX (aP (lnk os w).1))]) (id:=0) (l:=aP (lnk os w).1) rfl
  rwa[fz] at this
 ·refine((nh G hG hK os ho w hw).mono (R':=λr _=>r= .ret (.tup [.nils,.p (.int .i64 (lnk os w).2)])) λr h e=>by rw[if_neg h0] at e;exact e).freezeR (λt v h e=>by cases e) λv h e=>?_
  cases e
  rw[II h0]
  exact .tup (.one (View.nils 1) (.keep (by simp[below]) .nil)) .nil
end
end Go.Proofs.YtbnajafpkeficaaGreatDoor
namespace Go.Aw
inductive Thn (hF:List AO) (n:Nat):List AO->List AO->List AO->Prop where
 |nil:Thn hF n [] [] []
 |same {o:AO} {r rX r1:List AO}:okO n o->Thn hF n r rX r1->Thn hF n (o::r) (.dead::rX) (o::r1)
 |one {sz:Nat} {e e1:List AV} {r rX r1:List AO}:Fzs hF n e e1->Thn hF n r rX r1->Thn hF n (.row sz [e]::r) (.dead::rX) (.row sz [e1]::r1)
 |rows {sz:Nat} {es es1:List (List AV)} {r rX r1:List AO}:es.length=es1.length->(∀(j:Nat) (e e1:List AV),es[j]?=some e->es1[j]?=some e1->Fzs hF n e e1)->Thn hF n r rX r1->Thn hF n (.row sz es::r) (.dead::rX) (.row sz es1::r1)
 |drop {o:AO} {r rX r1:List AO}:Thn hF n r rX r1->Thn hF n (o::r) (.dead::rX) (.dead::r1)
 |give {o:AO} {r rX r1:List AO}:Thn hF n r rX r1->Thn hF n (o::r) (o::rX) (.dead::r1)
theorem Thn.len{hF:List AO}{n:Nat}{h hX h1:List AO}(H:Thn hF n h hX h1):hX.length=h.length/\h1.length=h.length:=by
 induction H with
 |nil=>exact⟨rfl,rfl⟩
 |same ho _ ih=>simp[ih]
 |one hv _ ih=>simp[ih]
 |rows hl hv _ ih=>simp[ih]
 |drop _ ih=>simp[ih]
 |give _ ih=>simp[ih]
theorem Thn.sub{hF:List AO}{n:Nat}{h hX h1:List AO}(H:Thn hF n h hX h1):∀(i:Nat) o,hX[i]?=some o->o.live->h[i]?=some o/\¬Live h1 i:=by
 induction H with
 |nil=>intro i o e;simp at e
 |give _ ih=>
  intro i o e l
  cases i with
  |zero=>exact⟨e,λ⟨o2,e2,l2⟩=>by cases e2;exact l2⟩
  |succ i=>
   obtain⟨a,b⟩:=ih i o (by simpa using e) l
   exact⟨a,λ⟨o2,e2,l2⟩=>b ⟨o2,by simpa using e2,l2⟩⟩
 |same ho _ ih=>
  intro i o e l
  cases i with
  |zero=>cases e;exact l.elim
  |succ i=>
   obtain⟨a,b⟩:=ih i o (by simpa using e) l
   exact⟨a,λ⟨o2,e2,l2⟩=>b ⟨o2,by simpa using e2,l2⟩⟩
 |one hv _ ih=>
  intro i o e l
  cases i with
  |zero=>cases e;exact l.elim
  |succ i=>
   obtain⟨a,b⟩:=ih i o (by simpa using e) l
   exact⟨a,λ⟨o2,e2,l2⟩=>b ⟨o2,by simpa using e2,l2⟩⟩
 |rows hl hv _ ih=>
  intro i o e l
  cases i with
  |zero=>cases e;exact l.elim
  |succ i=>
   obtain⟨a,b⟩:=ih i o (by simpa using e) l
   exact⟨a,λ⟨o2,e2,l2⟩=>b ⟨o2,by simpa using e2,l2⟩⟩
 |drop _ ih=>
  intro i o e l
  cases i with
  |zero=>cases e;exact l.elim
  |succ i=>
   obtain⟨a,b⟩:=ih i o (by simpa using e) l
   exact⟨a,λ⟨o2,e2,l2⟩=>b ⟨o2,by simpa using e2,l2⟩⟩
end Go.Aw
namespace Go.Aw
theorem HB.ok{h:List AO}(hb:HB h):∀o∈h,okO h.length o:=by
 intro o ho
 obtain⟨i,hi⟩:=List.getElem?_of_mem ho
 cases o with
 |row sz es=>exact λe he=>(hb.1 i sz es hi e he).2.1
 |mp es=>exact λe he=>hb.2 i es hi e he
 |_=>exact True.intro
theorem Views.fzs{hF:List AO}{n:Nat}:∀{l l':List AV},Views hF l l'->Fzs hF n l l'
 |_,_,.nil=> .nil
 |_,_,.one h r=> .one h r.fzs
 |_,_,.agg h r=> .agg h.fzs r.fzs
 |_,_,.tup h r=> .tup h.fzs r.fzs
 |_,_,.keep h r=> .keep (mZ (Nat.zero_le n) [_] ⟨h,trivial⟩).1 r.fzs
theorem BH{hF:List AO}{n:Nat}:∀{h:List AO} (r:List AO),(∀o∈h,okO n o)->FzO hF n (h++r) h
 |[],r,_=> .nil r
 |o::h,r,hk=> .same (hk o (by simp)) (BH r λx hx=>hk x (by simp[hx]))
section
variable {P:Program} {G:az} {f:FuncId} {w:List AV->AV} {qs:List PV}
theorem AC.mkLendF{args pargs:List AV}(hc:fS P f=true)(hw:Shp w)(H:AC P G f pargs [] (MkW w true qs)){h:List AO}(hv:Views h args pargs):AC P G f args h λx h'=>x= .ret (w (qs.map .p))/\h'=h:=
 AC.hb hc λhb=>(AC.mkLend hw H hv).frz h.length (Nat.le_refl _) (λt v h' ⟨_,_,_,e,_⟩=>by cases e) λv h' ⟨vs,I,os,e,e2,ho,nd,hf⟩=>by
  cases e
  have hl:h.length<=h'.length:=by rw[e2];simp
  have ho2:OwnL true (pw h.length h') vs qs I:=ho.frame λi hi=>by
   have h1:=hf i hi
   rw[pw,List.getElem?_append_right (by simpa using h1),List.length_replicate,List.getElem?_drop]
   congr 1;omega
  refine⟨_,h,hl,rfl,(hw.views _ _ _ ho2.views).fzs,?_,rfl,rfl⟩
  have:=BH (hF:=pw h.length h') (n:=h.length) (h:=h) os hb.ok
  rwa[←e2] at this
theorem AC.mkLendQ{args pargs:List AV}(hc:fS P f=true)(hw:Shp w)(H:AC P G f pargs [] (MkW w true qs)){h:List AO}(hv:Views h args pargs){ts:List AV}{d:Option Nat}{cs:List CO}{K:KT}{Qp:QP}(hk:rK P G cs (put d (w (qs.map .p)) ts) h K Qp):po P G f args h d cs ts K Qp:=
 ⟨_,AC.mkLendF hc hw H hv,hk⟩
end
end Go.Aw
namespace Go.Proofs.YtbnajafpkeficaaGreatDoor
open Go Go.Aw
set_option maxRecDepth 100000
set_option maxHeartbeats 4000000
section
def cN(f:Mfn)(i:Nat):Nat:=(pt f i).length
theorem DK(f:Mfn):cN f 0=0:=rfl
theorem tS{f:Mfn}(hc:aC f=true){i:Nat}(h:i<f.ins.length):cN f (i+1)=cN f i+if f.ins[i].op=14 then 1 else 0:=by
 have hl:(ca f).length=f.ins.length:=by rw[uZ,if_pos hc]
 rw[cN,ss h (by omega),List.length_append,cN,sB]
 split<;>rfl
theorem Cm{f:Mfn}(hc:aC f=true){i:Nat}(h:f.ins.length<=i):cN f i=(bI f).length:=by
 have hl:(ca f).length=f.ins.length:=by rw[uZ,if_pos hc]
 rw[cN,mI (by omega)]
theorem uc{f:Mfn}(hc:aC f=true):∀{j i:Nat},i<=j->j<=f.ins.length->cN f i<=cN f j
 |0,i,h,_=>by rw[show i=0 by omega];exact Nat.le_refl _
 |j+1,i,h,hj=>by
  rcases Nat.lt_or_ge i (j+1) with h1|h1
  ·have:=uc hc (j:=j) (i:=i) (by omega) (by omega)
   have h2:=tS hc (i:=j) (by omega)
   omega
  ·rw[show i=j+1 by omega];exact Nat.le_refl _
theorem JH{f:Mfn}(hc:aC f=true){i:Nat}(h:i<f.ins.length)(ho:f.ins[i].op=14):cN f i<(bI f).length:=by
 have h1:=tS hc h
 rw[if_pos ho] at h1
 have h2:=uc hc (i:=i+1) (j:=f.ins.length) h (Nat.le_refl _)
 rw[Cm hc (Nat.le_refl _)] at h2
 omega
def Er(f:Mfn)(pl:List UInt8->Int)(ws:List (List UInt8))(i:Nat)(x:Mins):Mins:=if x.op=14 then{x with n:=pl (ws[cN f i]?.getD [])} else x
def kK(f:Mfn)(pl:List UInt8->Int)(ws:List (List UInt8))(i:Nat):List Mins:=f.ins.mapIdx λj x=>if j<i then Er f pl ws j x else x
def md(f:Mfn)(pl:List UInt8->Int)(ws:List (List UInt8)):Mfn:={f with ins:=f.ins.mapIdx (Er f pl ws)}
theorem yS(f:Mfn)(pl:List UInt8->Int)(ws:List (List UInt8)):kK f pl ws 0=f.ins:=by
 rw[kK]
 conv=>rhs;rw[←List.map_id f.ins]
 rw[List.mapIdx_eq_zipIdx_map]
 apply List.ext_getElem<;>simp
theorem xZ{f:Mfn}{pl:List UInt8->Int}{ws:List (List UInt8)}{i:Nat}(h:i<f.ins.length):(kK f pl ws i)[i]?=some f.ins[i]:=by
 rw[kK,List.getElem?_mapIdx,List.getElem?_eq_getElem h];simp
theorem uE{f:Mfn}{pl:List UInt8->Int}{ws:List (List UInt8)}{i:Nat}(h:i<f.ins.length):(kK f pl ws i).set i (Er f pl ws i f.ins[i])=kK f pl ws (i+1):=by
 apply List.ext_getElem
 ·simp[kK]
 intro j h1 h2
 simp only[List.getElem_set,kK,List.getElem_mapIdx]
 by_cases e:i=j
 ·subst e;simp
 ·rw[if_neg e]
  have:(j<i)=(j<i+1):=by simp only[eq_iff_iff];omega
  simp only[this]
theorem za{f:Mfn}{pl:List UInt8->Int}{ws:List (List UInt8)}{i:Nat}(h:i<f.ins.length)(ho:¬f.ins[i].op=14):kK f pl ws (i+1)=kK f pl ws i:=by
 rw[←uE h,Er,if_neg ho]
 have:=xZ (pl:=pl) (ws:=ws) h
 obtain⟨h1,h2⟩:=List.getElem?_eq_some_iff.1 this
 conv=>lhs;rw[←h2]
 exact List.set_getElem_self h1
theorem AR(f:Mfn)(pl:List UInt8->Int)(ws:List (List UInt8)){i:Nat}(h:f.ins.length<=i):kK f pl ws i=(md f pl ws).ins:=by
 rw[kK,md]
 apply List.ext_getElem
 ·simp
 intro j h1 h2
 simp only[List.getElem_mapIdx]
 simp at h1
 rw[if_pos (by omega)]
def fnO(os:List Obj)(k:Nat):Mfn:=match os[k]? with|none=>zF|some o=>(dG o.params o.slots o.code).getD zF
def nmO(os:List Obj)(k:Nat):List (List UInt8):=match os[k]? with|none=>[]|some o=>o.names
def fw(os:List Obj)(L:List Nat)(v:List UInt8):Int:=ixI ((aP L).findIdx? λx=>decide (x=ixI (atN os v)))
def dD(os:List Obj)(L:List Nat):List Mfn:=L.map λk=>md (fnO os k) (fw os L) (nmO os k)
noncomputable def jr (os:List Obj) (w:List UInt8):List Mfn × Int:=if(lnk os w).2=0 then(if bn (dD os (lnk os w).1)=true then(dD os (lnk os w).1,0) else([],1)) else([],(lnk os w).2)
theorem ua{o:Obj}(h:bC o=true):∃f,dG o.params o.slots o.code=some f/\aC f=true/\o.names.length=(bI f).length/\f=cg f/\f.ins.length<=2000/\f.ins≠[]:=by
 unfold bC at h
 split at h
 ·cases h
 ·rename_i f hd
  simp only[Bool.and_eq_true,decide_eq_true_eq] at h
  obtain⟨hc,_⟩:=rL hd
  refine⟨f,hd,hc,by rw[h.1.1.1.2];exact h.1.1.2,h.2,?_,?_⟩
  ·exact(bP (by simp only[aC,Bool.and_eq_true] at hc;exact hc.1):fK f.ins).1
  ·intro e;have:=ji hc;rw[e] at this;simp at this
structure OrdOk (os:List Obj) (L:List Nat):Prop where
 nd:L.Nodup
 lt:∀x∈L,x<os.length
 topo:Dd (atN os) (csW os) L
 le4:L.length<=4
 ok:∀o∈os,bC o=true
 apart:∀(i:Nat) (h:i<os.length),atN os os[i].name=some i
theorem Cw{os:List Obj}{w:List UInt8}(h:(lnk os w).2=0):OrdOk os (lnk os w).1:=by
 have h4:=JB os w
 unfold lnk at h h4⊢
 split at h
 ·cases h
 split at h
 ·cases h
 split at h
 ·cases h
 split at h
 ·cases h
 split at h
 ·cases h
 split at h
 ·cases h
 split at h
 ·cases h
 rename_i a1 a2 a3 a4 a5 a6 a7
 rw[if_neg a1,if_neg a2,if_neg a3,if_neg a4,if_neg a5,if_neg a6,if_neg a7] at h4⊢
 obtain⟨q1,q2,q3⟩:=AH (cs:=csW os) (n:=os.length) (ix:=atN os) (λw k h=>jH w k h) w
 have hl:(cb (atN os) (csW os) (os.length+1) w lk0).lost=false:=by
  cases e:(cb (atN os) (csW os) (os.length+1) w lk0).lost with
  |false=>rfl
  |true=>exact absurd (lostB_iff.2 (q1.1 e)) a5
 have hr:(cb (atN os) (csW os) (os.length+1) w lk0).round=false:=by
  cases e:(cb (atN os) (csW os) (os.length+1) w lk0).round with
  |false=>rfl
  |true=>exact absurd (rndB_iff.2 ((q2 hl).1 e)) a6
 obtain⟨p1,p2,p3,p4⟩:=q3 hl hr
 have e:vn os w=(cb (atN os) (csW os) (os.length+1) w lk0).out:=p1.symm
 simp only at h4⊢
 rw[e] at h4⊢
 refine⟨p2,p4,p3,h4,List.all_eq_true.1 (by simpa using a3),apart_iff.1 (by simpa using a4)⟩
end
section
theorem oW{s:Bool}{h:List AO}{vs:List AV}{q:PV}{I:List Nat}(H:OwnL s h vs [q] I):∃v,vs=[v]:=by
 have:=H.len
 match vs,this with
 |[v],_=>exact⟨v,rfl⟩
theorem EV{s:Bool}{h:List AO}{vs:List AV}{q r t:PV}{I:List Nat}(H:OwnL s h vs [q,r,t] I):∃a b c,vs=[a,b,c]:=by
 have:=H.len
 match vs,this with
 |[a,b,c],_=>exact⟨a,b,c,rfl⟩
theorem jo(q:PV):(AV.p q).cells=[.p q]:=rfl
theorem bL:AV.nils.cells=[.nils]:=rfl
theorem co(c:List AV):(AV.agg c).cells=c:=rfl
theorem jp(q:PV):(AV.p q).isCell=true:=rfl
theorem bK:AV.nils.isCell=true:=rfl
theorem lU{s:Bool}{h:List AO}{v:AV}{q:PV}{I:List Nat}(H:OwnL s h [v] [q] I):v.cells=[v]/\v.isCell=true:=by
 cases H with
 |p _ _ _=>exact⟨rfl,rfl⟩
 |nils _ _=>exact⟨rfl,rfl⟩
 |sl id sz n rows es _ _ _ _ _ _ _=>exact⟨rfl,rfl⟩
theorem CL{h:List AO}:∀{l:List PV},(∀q∈l,BI q=true)->OwnL true h (l.map .p) l []
 |[],_=> .nil
 |q::r,hq=> .p q (λ_=>hq q (by simp)) (CL λx hx=>hq x (by simp[hx]))
theorem fT{α β:Type}(f:α->β):∀l:List α,(l.map λx=>[f x]).flatten=l.map f
 |[]=>rfl
 |w::r=>by rw[List.map_cons,List.flatten_cons,fT f r];rfl
theorem uS{α:Type}{h:List AO}{id:Nat}(f:α->PV)(hf:∀x,BI (f x)=true){l:List α}(e:h[id]?=some (.row 1 (l.map λx=>[AV.p (f x)]))){n:Nat}(hn:n=l.length):OwnL true h [.sl id 1 0 n] [.lst 1 (l.map λx=>[f x])] [id]:=by
 refine .sl id 1 n _ (l.map λx=>[f x]) e (by simp[hn]) (by simp) (λx hx=>?_) (λx hx=>?_) (J:=[]) ?_ .nil
 ·obtain⟨m,_,rfl⟩:=List.mem_map.1 hx;rfl
 ·obtain⟨m,_,rfl⟩:=List.mem_map.1 hx;rfl
 ·rw[fT (λx=>AV.p (f x)),fT f]
  have:=CL (h:=h) (l:=l.map f) (λq hq=>by obtain⟨m,_,rfl⟩:=List.mem_map.1 hq;exact hf m)
  rwa[List.map_map] at this
theorem yQ{h:List AO}{id:Nat}{l:List Int}(e:h[id]?=some (bV l)){n:Nat}(hn:n=l.length):OwnL true h [.sl id 1 0 n] [aN l] [id]:=uS (PV.int .u8) (λ_=>rfl) e hn
theorem sg{h:List AO}{id:Nat}{l:List Int}(e:h[id]?=some (gM l)){n:Nat}(hn:n=l.length):OwnL true h [.sl id 1 0 n] [bk l] [id]:=uS (PV.int .i64) (λ_=>rfl) e hn
theorem yU{h:List AO}{id:Nat}{l:List (List UInt8)}(e:h[id]?=some (fR l)){n:Nat}(hn:n=l.length):OwnL true h [.sl id 1 0 n] [aQ l] [id]:=uS PV.str (λ_=>rfl) e hn
theorem Hf{s:Bool}{h:List AO}{vs:List AV}{o:Obj}{I:List Nat}(H:OwnL s h vs o.cs I):∃A B E I1 I2 I3,vs=[.p (.str o.name),.p (.int .i64 o.params),.p (.int .i64 o.slots),A,B,E]/\I=I1++(I2++I3)/\OwnL s h [A] [aN o.code] I1/\OwnL s h [B] [bk o.calls] I2/\OwnL s h [E] [aQ o.names] I3:=by
 rw[show o.cs=[.str o.name,.int .i64 o.params,.int .i64 o.slots,aN o.code,bk o.calls,aQ o.names] from rfl] at H
 cases H with
 |p _ _ H=>
  cases H with
  |p _ _ H=>
   cases H with
   |p _ _ H=>
    obtain⟨A,B,E,rfl⟩:=EV H
    obtain⟨I1,I',rfl,h1,H⟩:=H.one
    obtain⟨I2,I3,rfl,h2,h3⟩:=H.one
    exact⟨A,B,E,I1,I2,I3,rfl,rfl,h1,h2,h3⟩
theorem GY{s:Bool}{h:List AO}{o:Obj}{A B E:AV}{I1 I2 I3:List Nat}(h1:OwnL s h [A] [aN o.code] I1)(h2:OwnL s h [B] [bk o.calls] I2)(h3:OwnL s h [E] [aQ o.names] I3):
 OwnL s h [.p (.str o.name),.p (.int .i64 o.params),.p (.int .i64 o.slots),A,B,E] o.cs (I1++(I2++I3)):=
 .p _ (λ_=>rfl) (.p _ (λ_=>rfl) (.p _ (λ_=>rfl) (h1.app (h2.app h3))))
theorem NL{r:List AV}(h:r.length=6):∃a b c d e f,r=[a,b,c,d,e,f]:=by
 match r,h with
 |[a,b,c,d,e,f],_=>exact⟨a,b,c,d,e,f,rfl⟩
def mc(os:List Obj):Nat:=os.length+(os.map szO).sum
def ry(os:List Obj)(i:Nat):Nat:=((os.take i).map szO).sum
theorem EX{os:List Obj}{i:Nat}(h:i<os.length):ry os (i+1)=ry os i+szO os[i]:=by
 show((os.take (i+1)).map szO).sum=((os.take i).map szO).sum+szO os[i]
 rw[aq h,List.map_append,List.sum_append];rfl
theorem Gq{os:List Obj}{i:Nat}(h:os.length<=i):ry os i=(os.map szO).sum:=by rw[ry,List.take_of_length_le h]
theorem IR{os:List Obj}{i:Nat}:ry os i<=(os.map szO).sum:=by
 conv=>rhs;rw[←List.take_append_drop i os,List.map_append,List.sum_append]
 simp[ry]
theorem zR{os:List Obj}{o:Obj}(h:o∈os):szO o<=(os.map szO).sum:=by
 induction os with
 |nil=>cases h
 |cons x r ih=>
  rw[List.map_cons,List.sum_cons]
  rcases List.mem_cons.1 h with rfl|h
  ·omega
  ·have:=ih h;omega
variable (G:az)
theorem AB(os:List Obj)(hb:os.length<=9223372036854775807)(ho:∀o∈os,ObjSm o):VF Tryz.prog G gk [.p (obL os),.p (.int .i64 1048576)] (.p (.int .i64 (if mc os<=1048576 then((1048576-mc os:Nat):Int) else-1))):=by
 refine AC.go sA ?_
 have hLn:obL os= .lst 6 (os.map Obj.cs):=rfl
 have hw:IntKind.i64.wrap (1048576-(os.length:Int))=1048576-(os.length:Int):=aa (by omega) (by omega)
 have hsz:mc os=os.length+(os.map szO).sum:=rfl
 by_cases h:os.length<=1048576
 case neg=>
  have h1:1048576-(os.length:Int)<0:=by omega
  have h2:¬mc os<=1048576:=by omega
  simp-implicitDefEqProofs[gz,hLn,hw,h1,h2]
 have h1:¬1048576-(os.length:Int)<0:=by omega
 simp-implicitDefEqProofs[gz,hLn,hw,h1]
 refine aw (λi:Nat=>aB 27 [(0,.p (.lst 6 (os.map Obj.cs))),(1,.p (.int .i64 ((1048576-os.length-ry os i:Nat):Int))),(5,.p (.int .i64 i))]) (λ_=>[]) (λi=>i<=os.length/\os.length+ry os i<=1048576) (λi=>os.length-i) 0 (by simp[ry];omega) ?_ ?_
 ·refine aD rfl ?_
  simp[below,ry]
  omega
 ·intro i ⟨hi,hx⟩
  simp-implicitDefEqProofs[]
  refine aR (λh1=>?_) (λh1=>?_)
  ·have h1:i<os.length:=by simpa using h1
   have hg:=List.getElem?_eq_getElem h1
   have hsu:=EX h1
   have hsl:=IR (os:=os) (i:=i+1)
   have hc:=CK G os[i] (1048576-os.length-ry os i) (by omega) (ho _ (List.getElem_mem h1))
   generalize os[i]=o at hg hsu hc
   simp-implicitDefEqProofs[hg]
   refine hc.use ?_
   by_cases h2:szO o<=1048576-os.length-ry os i
   ·have h3:¬((1048576-os.length-ry os i-szO o:Nat):Int)<0:=by omega
    simp-implicitDefEqProofs[h2,h3]
    refine⟨i+1,⟨h1,by omega⟩,by omega,aD rfl ?_⟩
    simp[below,w1 (i:=i) (by omega)]
    omega
   ·have h5:¬mc os<=1048576:=by omega
    simp-implicitDefEqProofs[h2,h5]
  ·simp at h1
   have hta:=Gq (os:=os) h1
   have h5:mc os<=1048576:=by omega
   have h6:((1048576-os.length-ry os i:Nat):Int)=((1048576-mc os:Nat):Int):=by omega
   simp-implicitDefEqProofs[h5,h6]
theorem BZ(o:Obj)(h1:o.code.length<=1048576)(h2:o.calls.length<=1048576)(h3:o.names.length<=1048576):AC Tryz.prog G cw [.agg (o.cs.map .p)] [] (MkW .agg true o.cs):=by
 refine(Dp G o h1 h2 h3).mono ?_
 rintro _ _ ⟨rfl,rfl⟩
 refine⟨o.ov 0 1 2,[0]++([1]++[2]),rfl,GY (yQ rfl rfl) (sg rfl rfl) (yU rfl rfl),by simp⟩
def zOb:List PV:=[.str [],.int .i64 0,.int .i64 0,.lst 1 [],.lst 1 [],.lst 1 []]
theorem Ca(l:List Obj)(hb:l.length<=1048576)(H:∀e∈l,AC Tryz.prog G cw [.agg (e.cs.map .p)] [] (MkW .agg true e.cs)):AC Tryz.prog G bw [.p (obL l)] [] (MkW lZ true [obL l]):=by
 have hsl:obL l= .lst 6 (l.map Obj.cs):=rfl
 refine AC.go rC ?_
 simp-implicitDefEqProofs[kF,hsl]
 refine⟨by omega,?_⟩
 refine aw (λa:FilS=>aB 23 [(0,.p (.lst 6 (l.map Obj.cs))),(3,.sl 0 6 0 l.length),(4,.p (.int .i64 a.i))]) (λa=>a.h) (FilI true 0 6 (l.map Obj.cs) zOb) (λa=>l.length-a.i) ⟨0,[.row 6 (List.replicate l.length [.p (.str []),.p (.int .i64 0),.p (.int .i64 0),.nils,.nils,.nils])]⟩
  (FilI.init rfl (by simp) (.p _ (λ_=>rfl) (.p _ (λ_=>rfl) (.p _ (λ_=>rfl) (.nils 1 (.nils 1 (.nils 1 .nil)))))) rfl) ?_ ?_
 ·exact aA (by simp) (by simp[below])
 ·rintro⟨i,hh⟩ hI
  simp-implicitDefEqProofs[]
  refine aR (λh1=>?_) (λh1=>?_)
  ·simp at h1
   have hg:=List.getElem?_eq_getElem h1
   have hH:=H l[i] (List.getElem_mem h1)
   have hD':(l.map Obj.cs)[i]?=some l[i].cs:=by rw[List.getElem?_map,hg];rfl
   generalize l[i]=e at hg hH hD'
   have hcs:e.cs=[.str e.name,.int .i64 e.params,.int .i64 e.slots,aN e.code,bk e.calls,aQ e.names]:=rfl
   have hA:=AC.mkLift DO hH (h:=hh) (by rw[hcs];simp)
   rw[hcs] at hA
   simp-implicitDefEqProofs[hg,hcs]
   refine hA.mono ?_
   rintro r h2 ⟨vs,I2,os,rfl,e2,ho,nd,hf⟩
   rw[←hcs] at ho
   obtain⟨rows,r0,k1,k2,k3,k4,k5,k6⟩:=hI.step hD' e2 ho nd hf e.cs_len
   obtain⟨A,B,E,I3,I4,I5,rfl,_,hA1,hA2,hA3⟩:=Hf ho
   obtain⟨c1,c2⟩:=lU hA1
   obtain⟨c3,c4⟩:=lU hA2
   obtain⟨c5,c6⟩:=lU hA3
   obtain⟨z1,z2,z3,z4,z5,z6,rfl⟩:=NL k3
   have hll:0<h2.length:=(List.getElem?_eq_some_iff.1 k1).1
   simp-implicitDefEqProofs[-AV.cells,-AV.isCell,jo,bL,co,jp,bK,c1,c2,c3,c4,c5,c6,ag,k1,k2,h1,dP]
   refine⟨_,k6,by simp;omega,aA (by simp) ?_⟩
   simp[below,w1 (i:=i) (by omega)]
   omega
  ·simp at h1
   obtain⟨rows,J,hr⟩:=hI.done (by simpa using h1)
   simp-implicitDefEqProofs[]
   exact⟨_,_,rfl,hr.tree (by simp),hr.nd⟩
theorem Ej(os:List Obj)(hz:mc os<=1048576):AC Tryz.prog G bw [.p (obL os)] [] (MkW lZ true [obL os]):=by
 have hsz:mc os=os.length+(os.map szO).sum:=rfl
 refine Ca G os (by omega) λo ho=>?_
 have h1:=zR ho
 have hszo:szO o=o.name.length+o.code.length+o.calls.length+szW o.names:=rfl
 have hwz:szW o.names=o.names.length+(o.names.map List.length).sum:=rfl
 exact BZ G o (by omega) (by omega) (by omega)
theorem IF(os:List Obj)(hz:mc os<=1048576):VF Tryz.prog G bw [.p (obL os)] (.p (obL os)):=AC.mkFreeze (w:=lZ) (qs:=[_]) zN (Ej G os hz)
theorem Jf(os:List Obj)(hz:mc os<=1048576):VF Tryz.prog G gi [.p (obL os),.p (obL os)] (.p (.bool true)):=by
 have hsz:mc os=os.length+(os.map szO).sum:=rfl
 have hLn:obL os= .lst 6 (os.map Obj.cs):=rfl
 refine AC.go sn ?_
 simp-implicitDefEqProofs[kQ,hLn]
 refine aw (λi:Nat=>aB 27 [(0,.p (.lst 6 (os.map Obj.cs))),(1,.p (.lst 6 (os.map Obj.cs))),(5,.p (.int .i64 i))]) (λ_=>[]) (λi=>i<=os.length) (λi=>os.length-i) 0 (by simp) ?_ ?_
 ·exact aD rfl (by simp[below])
 intro i hi
 simp-implicitDefEqProofs[]
 refine aR (λh1=>?_) (λh1=>?_)
 ·simp at h1
  have hg:=List.getElem?_eq_getElem h1
  have h2:=zR (List.getElem_mem h1)
  generalize os[i]=o at hg h2
  have hszo:szO o=o.name.length+o.code.length+o.calls.length+szW o.names:=rfl
  have hwz:szW o.names=o.names.length+(o.names.map List.length).sum:=rfl
  have hc:=CF G o o (by omega) (by omega) (by omega)
  simp-implicitDefEqProofs[hg]
  refine hc.use ?_
  simp-implicitDefEqProofs[]
  exact⟨i+1,h1,by omega,aD rfl (by simp[below,w1 (i:=i) (by omega)])⟩
 ·simp at h1
  simp-implicitDefEqProofs[]
end
section
def AJ(c:Int)(vs:List AV):AV:= .tup [.agg vs,.p (.int .i64 c)]
theorem vL(c:Int):Shp (AJ c):=⟨λ_ _=>rfl,λ_ _=>rfl,λvs h=>by simp[AJ,Go.Aw.clean,dk,h],λn vs h=>⟨h,True.intro,True.intro⟩,λ_ _ _ h=> .tup (.agg h (.keep (by simp[below]) .nil)) .nil⟩
theorem Be{h:List AO}:∀{D:List (List PV)},(∀d∈D,∀q∈d,BI q=true)->OwnL true h (D.map λd=>d.map AV.p).flatten D.flatten []
 |[],_=> .nil
 |d::r,hq=>by
  rw[List.map_cons,List.flatten_cons,List.flatten_cons]
  exact(CL (hq d (by simp))).app (Be λx hx=>hq x (by simp[hx]))
theorem BP{h:List AO}{id:Nat}{ins:List Mins}(e:h[id]?=some (bq ins)):RowOwn true h id 5 (ins.map Mins.av) (ins.map Mins.cs) []:=by
 refine⟨e,by simp,λx hx=>?_,λx hx=>?_,?_,by simp⟩
 ·obtain⟨m,_,rfl⟩:=List.mem_map.1 hx;rfl
 ·obtain⟨m,_,rfl⟩:=List.mem_map.1 hx;rfl
 ·have:=Be (h:=h) (D:=ins.map Mins.cs) λd hd q hq=>by
   obtain⟨m,_,rfl⟩:=List.mem_map.1 hd
   simp only[Mins.cs,List.mem_cons,List.not_mem_nil,or_false] at hq
   rcases hq with rfl|rfl|rfl|rfl|rfl<;>rfl
  rwa[List.map_map] at this
theorem gO{h:List AO}{id:Nat}{ins:List Mins}(e:h[id]?=some (bq ins)){n:Nat}(hn:n=ins.length):OwnL true h [.sl id 5 0 n] [bp ins] [id]:=
 (BP e).tree (by simp[hn])
theorem ue{s:Bool}{h:List AO}{vs:List AV}{f:Mfn}{I:List Nat}(H:OwnL s h vs f.cs I):∃A,vs=[.p (.int .i64 f.params),.p (.int .i64 f.slots),A]/\OwnL s h [A] [bp f.ins] I:=by
 rw[show f.cs=[.int .i64 f.params,.int .i64 f.slots,bp f.ins] from rfl] at H
 cases H with
 |p _ _ H=>
  cases H with
  |p _ _ H=>
   obtain⟨v,rfl⟩:=oW H
   exact⟨v,rfl,H⟩
theorem jE{s:Bool}{h:List AO}{f:Mfn}{A:AV}{I:List Nat}(H:OwnL s h [A] [bp f.ins] I):OwnL s h [.p (.int .i64 f.params),.p (.int .i64 f.slots),A] f.cs I:=
 .p _ (λ_=>rfl) (.p _ (λ_=>rfl) H)
theorem Il{D:List (List PV)}{vs:List AV}{h:List AO}{J:List Nat}(hq:∀d∈D,∀q∈d,∃k n,q= .int k n)(H:OwnL true h vs D.flatten J):vs=D.flatten.map AV.p/\J=[]:=by
 have key:∀{l:List PV} {vs:List AV} {J:List Nat},(∀q∈l,∃k n,q= .int k n)->OwnL true h vs l J->vs=l.map AV.p/\J=[]:=by
  intro l
  induction l with
  |nil=>intro vs J _ H;cases H;exact⟨rfl,rfl⟩
  |cons q r ih=>
   intro vs J hq H
   obtain⟨k,n,rfl⟩:=hq q (by simp)
   cases H with
   |p _ _ H=>
    obtain⟨e1,e2⟩:=ih (λx hx=>hq x (by simp[hx])) H
    exact⟨by rw[e1];rfl,e2⟩
 refine key (λq hm=>?_) H
 obtain⟨d,hd,hm⟩:=List.mem_flatten.1 hm
 exact hq d hd q hm
theorem Ed{α:Type}{sz:Nat}:∀{a b:List (List α)},a.flatten=b.flatten->a.length=b.length->(∀e∈a,e.length=sz)->(∀e∈b,e.length=sz)->a=b
 |[],[],_,_,_,_=>rfl
 |x::a,y::b,h,hl,ha,hb=>by
  rw[List.flatten_cons,List.flatten_cons] at h
  obtain⟨h1,h2⟩:=List.append_inj h (by rw[ha x (by simp),hb y (by simp)])
  rw[h1,Ed h2 (by simpa using hl) (λe he=>ha e (by simp[he])) (λe he=>hb e (by simp[he]))]
 |[],_::_,_,hl,_,_=>by simp at hl
 |_::_,[],_,hl,_,_=>by simp at hl
theorem pR{h:List AO}{v:AV}{ins:List Mins}{I:List Nat}(H:OwnL true h [v] [bp ins] I)(nd:I.Nodup)(hne:ins≠[]):∃id,v= .sl id 5 0 ins.length/\I=[id]/\h[id]?=some (bq ins):=by
 rcases H.inv nd with⟨h0,_⟩|⟨h0,_⟩|⟨id,rows,J,rfl,rfl,hr⟩
 ·exact absurd (List.map_eq_nil_iff.1 h0) hne
 ·cases h0
 ·have hown:=hr.own
  obtain⟨e1,e2⟩:=Il (λd hd q hq=>by
   obtain⟨m,_,rfl⟩:=List.mem_map.1 hd
   simp only[Mins.cs,List.mem_cons,List.not_mem_nil,or_false] at hq
   rcases hq with rfl|rfl|rfl|rfl|rfl<;>exact⟨_,_,rfl⟩) hown
  subst e2
  have e3:rows=ins.map Mins.av:=by
   refine Ed (sz:=5) ?_ (by have:=hr.len;simpa using this) hr.rl λe he=>by obtain⟨m,_,rfl⟩:=List.mem_map.1 he;rfl
   rw[e1,List.map_flatten,List.map_map];rfl
  refine⟨id,by rw[List.length_map],rfl,?_⟩
  rw[hr.here,e3];rfl
theorem RowOwn.first{s:Bool}{sz:Nat}{h2:List AO}{r':List AV}{e':List PV}{I2:List Nat}(ho:OwnL s h2 r' e' I2)(nd2:I2.Nodup)(he:e'.length=sz):RowOwn s (h2++[.row sz [r']]) h2.length sz [r'] [e'] I2:=by
 refine⟨by rw[List.getElem?_append_right (Nat.le_refl _),Nat.sub_self];rfl,rfl,λe h=>?_,λe h=>?_,?_,?_⟩
 ·rw[List.mem_singleton.1 h,ho.len,he]
 ·rw[List.mem_singleton.1 h,he]
 ·rw[List.flatten_singleton,List.flatten_singleton];exact ho.more _
 ·rw[List.nodup_cons]
  exact⟨λhm=>by have:=ho.lt hm;omega,nd2⟩
variable (G:az)
theorem Bl(p s:Int)(code:List Int)(hb:bJ code)(hl:code.length<=1048576){f:Mfn}(hd:dG p s code=some f):AC Tryz.prog G cA [.p (.int .i64 p),.p (.int .i64 s),.p (aN code)] [] (MkW (Ar true) true f.cs):=by
 refine(sS G p s code hb hl).mono λx h e=>?_
 rw[hd] at e
 obtain⟨id,rfl,e2⟩:=e
 exact⟨f.ov id,[id],rfl,jE (gO e2 rfl),by simp⟩
end
section
structure LsS where (i:Nat) (V:AV) (I:List Nat) (X:List AO)
structure LjS where (j:Nat)
structure LnI (b:Nat) (fs:List Mfn) (V:AV) (I:List Nat) (X:List AO):Prop where
 own:OwnL true X [V] [bc fs] I
 nd:I.Nodup
 lo:∀j∈I,b<=j
 np:∀q,V≠ .p q
theorem LnI.up{b:Nat}{fs:List Mfn}{V:AV}{I:List Nat}{X X':List AO}(h:LnI b fs V I X)(hf:∀j∈I,X'[j]?=X[j]?):LnI b fs V I X':=⟨h.own.frame hf,h.nd,h.lo,h.np⟩
theorem LnI.push{b:Nat}{fs:List Mfn}{V:AV}{I:List Nat}{X:List AO}(h:LnI b fs V I X){f:Mfn}{K:AV}{J:List Nat}(hK:OwnL true X [K] [bp f.ins] J)(hJ:J.Nodup)(hd:∀a∈I,a∉J)(hJ2:∀j∈J,b<=j):
 (V= .nils/\fs=[]\/∃id rows,V= .sl id 3 0 fs.length/\b<=id/\X[id]?=some (.row 3 rows)/\rows.length=fs.length/\
   LnI b (fs++[f]) (.sl X.length 3 0 (fs.length+1)) (X.length::(I.filter (λj=>decide (j≠id))++J)) (X.set id .dead++[.row 3 (rows++[[.p (.int .i64 f.params),.p (.int .i64 f.slots),K]])])):=by
 rcases h.own.inv h.nd with⟨h0,rfl,hV|hV⟩|⟨h0,_⟩|⟨id,rows,J0,rfl,rfl,hr⟩
 ·exact .inl ⟨hV,List.map_eq_nil_iff.1 h0⟩
 ·exact absurd hV (h.np _)
 ·cases h0
 ·have hlen:rows.length=fs.length:=by have:=hr.len;simpa using this
  refine .inr ⟨id,rows,by rw[List.length_map],h.lo id (by simp),hr.here,hlen,?_⟩
  have hnd:=h.nd
  rw[List.nodup_cons] at hnd
  have hfl:((id::J0).filter λj=>decide (j≠id))=J0:=by
   rw[List.filter_cons]
   simp only[ne_eq,not_true_eq_false,decide_false,Bool.false_eq_true,if_false]
   exact List.filter_eq_self.2 λa ha=>by
    have:a≠id:=λe=>hnd.1 (e▸ha)
    simpa using this
  rw[hfl]
  have hid:=hr.lt
  have hidJ:id∉J:=hd id (by simp)
  have hown2:OwnL true (X.set id .dead) [.p (.int .i64 f.params),.p (.int .i64 f.slots),K] f.cs J:=jE (hK.set_out hidJ _)
  have hnew:RowOwn true (X.set id .dead++[.row 3 (rows++[[.p (.int .i64 f.params),.p (.int .i64 f.slots),K]])]) X.length 3 (rows++[[.p (.int .i64 f.params),.p (.int .i64 f.slots),K]]) (fs.map Mfn.cs++[f.cs]) (J0++J):=by
   refine⟨by rw[List.getElem?_append_right (by simp)];simp,by simp[hr.len],λe he=>?_,λe he=>?_,?_,?_⟩
   ·rcases List.mem_append.1 he with h1|h1
    ·exact hr.rl e h1
    ·rw[List.mem_singleton.1 h1];rfl
   ·rcases List.mem_append.1 he with h1|h1
    ·exact hr.dl e h1
    ·rw[List.mem_singleton.1 h1];rfl
   ·rw[List.flatten_append,List.flatten_append,List.flatten_singleton,List.flatten_singleton]
    exact((hr.own.set_out hnd.1 _).more _).app (hown2.more _)
   ·rw[List.nodup_cons,List.nodup_append]
    refine⟨λhm=>?_,hnd.2,hJ,λa ha b hb e=>hd a (by simp[ha]) (e▸hb)⟩
    rcases List.mem_append.1 hm with hm|hm
    ·have:=hr.own.lt hm;omega
    ·have:=hK.lt hm;omega
  refine⟨?_,hnew.nd,λj hj=>?_,λq e=>by cases e⟩
  ·have:=hnew.tree (n:=fs.length+1) (by simp)
   rw[bc,List.map_append];exact this
  ·rcases List.mem_cons.1 hj with e|hj
   ·have:=h.lo id (by simp);omega
   ·rcases List.mem_append.1 hj with hj|hj
    ·exact h.lo j (by simp[hj])
    ·exact hJ2 j hj
theorem LnI.first{b:Nat}{X:List AO}{f:Mfn}{K:AV}{J:List Nat}(hK:OwnL true X [K] [bp f.ins] J)(hJ:J.Nodup)(hJ2:∀j∈J,b<=j)(h2:b<=X.length):LnI b [f] (.sl X.length 3 0 1) (X.length::J) (X++[.row 3 [[.p (.int .i64 f.params),.p (.int .i64 f.slots),K]]]):=by
 have hnew:=RowOwn.first (sz:=3) (jE hK) hJ rfl
 refine⟨?_,hnew.nd,λj hj=>?_,λq e=>by cases e⟩
 ·exact hnew.tree (n:=1) rfl
 ·rcases List.mem_cons.1 hj with e|hj
  ·omega
  ·exact hJ2 j hj
theorem zX{os:List Obj}{L:List Nat}(hO:OrdOk os L):szF (dD os L)<=1048576:=by
 have key:∀M:List Nat,(∀x∈M,x<os.length)->((dD os M).map (·.ins.length)).sum<=2000*M.length:=by
  intro M
  induction M with
  |nil=>intro _;simp[dD]
  |cons k r ih=>
   intro h
   have h1:=ih λx hx=>h x (by simp[hx])
   have hk:=h k (by simp)
   obtain⟨f,hdec,_,_,_,h2000,_⟩:=ua (hO.ok _ (List.getElem_mem hk))
   have hfo:fnO os k=f:=by rw[fnO,List.getElem?_eq_getElem hk];simp only;rw[hdec];rfl
   have h2:(md (fnO os k) (fw os r) (nmO os k)).ins.length=f.ins.length:=by rw[hfo];simp[md]
   simp only[dD,List.map_map,List.map_cons,List.sum_cons,List.length_cons,Function.comp_def] at h1⊢
   have h3:∀pl,(md (fnO os k) pl (nmO os k)).ins.length=f.ins.length:=λpl=>by rw[hfo];simp[md]
   have h4:∀pl,(r.map λk=>(md (fnO os k) pl (nmO os k)).ins.length)=r.map λk=>(md (fnO os k) (fw os r) (nmO os k)).ins.length:=λpl=>by
    refine List.map_congr_left λx _=>?_
    simp[md]
   rw[h3,h4]
   omega
 have h1:=key L hO.lt
 have h2:=hO.le4
 have h3:(dD os L).length=L.length:=by simp[dD]
 rw[szF,h3]
 omega
variable (G:az)
theorem MB(os:List Obj)(L:List Nat)(ho:ObsOk os)(hL:L.length<=4)(v:List UInt8):VF Tryz.prog G dv [.p (bk (aP L)),.p (.int .i64 (ixI (atN os v)))] (.p (.int .i64 (fw os L v))):=
 Cd G (aP L) _ (by rw[fz];omega)
theorem ul(os:List Obj)(ho:ObsOk os)(w:List UInt8)(hw:w.length<=1048576):AC Tryz.prog G dy [.p (obL os),.p (.str w)] [] (MkW (AJ (jr os w).2) true [bc (jr os w).1]):=by
 have hLn:obL os= .lst 6 (os.map Obj.cs):=rfl
 have hSL:=Bn G os ho w hw
 have hAt:=λw=>pU G os w ho.len
 have hlen:=ho.len
 rw[hLn] at hSL hAt⊢
 by_cases h0:(lnk os w).2=0
 case neg=>
  have hM:jr os w=([],(lnk os w).2):=by rw[jr,if_neg h0]
  rw[hM]
  refine AC.go iW ?_
  simp-implicitDefEqProofs[fk]
  refine hSL.use ?_
  simp-implicitDefEqProofs[h0]
  exact⟨[.nils],[],rfl,.nils 3 .nil,List.nodup_nil⟩
 have hO:=Cw h0
 have hM:jr os w=if bn (dD os (lnk os w).1)=true then(dD os (lnk os w).1,0) else([],1):=by rw[jr,if_pos h0]
 rw[hM]
 rw[h0] at hSL
 generalize (lnk os w).1=L at*
 have hLL:bk (aP L)= .lst 1 ((aP L).map λn=>[.int .i64 n]):=rfl
 have hLlen:=fz L
 have h4:=hO.le4
 have hPl:=λv=>MB G os L ho h4 v
 simp only[hLL] at hSL hPl
 refine AC.go iW ?_
 simp-implicitDefEqProofs[fk]
 refine hSL.use ?_
 simp-implicitDefEqProofs[]
 refine aw (λa:LsS=>aB 90 [(9,.p (.int .i64 a.i)),(6,.p (.lst 1 ((aP L).map λn=>[.int .i64 n]))),(0,.p (.lst 6 (os.map Obj.cs))),(4,.ptr 0 1 0 0),(8,.ptr 1 1 0 0)]) (λa=>a.X)
  (λa=>a.i<=L.length/\a.X[0]?=some (.row 1 [[.nils]])/\a.X[1]?=some (.row 1 [[a.V]])/\LnI 2 ((dD os L).take a.i) a.V a.I a.X) (λa=>L.length-a.i) ⟨0,.nils,[],[.row 1 [[.nils]],.row 1 [[.nils]]]⟩ ⟨Nat.zero_le _,rfl,rfl,.nils 3 .nil,List.nodup_nil,by simp,λq e=>by cases e⟩ (aA (Nat.zero_le _) (by simp[below])) ?_
 rintro⟨i,V,I,X⟩ ⟨hi,g0,g1,hX⟩
 simp only at hi g0 g1 hX⊢
 have h1l:=(List.getElem?_eq_some_iff.1 g1).1
 simp-implicitDefEqProofs[hLlen]
 refine aR (λhc=>?_) (λhc=>?_)
 ·have hc:i<L.length:=by simpa using hc
  have hwi:=w1 (i:=i) (by omega)
  have hgi:=List.getElem?_eq_getElem hc
  have hLm:=List.getElem_mem hc
  generalize hk:L[i]=k at hgi hLm
  have hkl:=hO.lt k hLm
  have hgo:=List.getElem?_eq_getElem hkl
  have hom:os[k]∈os:=List.getElem_mem hkl
  obtain⟨f,hdec,hcode,hnames,_,h2000,hne⟩:=ua (hO.ok _ hom)
  have hsm:=ho.sm _ hom
  have hsz:=ho.sz _ hom
  have hfo:fnO os k=f:=by rw[fnO,hgo];simp only;rw[hdec];rfl
  have hno:nmO os k=os[k].names:=by rw[nmO,hgo]
  have hnx:(dD os L).take (i+1)=(dD os L).take i++[md f (fw os L) os[k].names]:=by
   rw[List.take_add_one,dD,List.getElem?_map,hgi]
   simp only[Option.map_some,Option.toList_some,hfo,hno]
  have hszo:szO os[k]=os[k].name.length+os[k].code.length+os[k].calls.length+szW os[k].names:=rfl
  have hwz:szW os[k].names=os[k].names.length+(os[k].names.map List.length).sum:=rfl
  have hDec:=Bl G os[k].params os[k].slots os[k].code hsm.bytes (by omega) hdec
  have hbl:∀l,aN l= .lst 1 (l.map λn=>[.int .u8 n]):=λ_=>rfl
  have hA:=λh=>AC.mkLift (vF true) hDec (h:=h) (by simp)
  have hgiI:(aP L)[i]?=some (k:Int):=by rw[aP,List.getElem?_map,hgi];rfl
  simp-implicitDefEqProofs[hgiI,hgo,hkl,Obj.cs]
  refine(hA _).mono ?_
  rintro _ h2 ⟨vs,J,os2,rfl,e2,hown,nd2,hf2⟩
  obtain⟨K,rfl,hK⟩:=ue hown
  obtain⟨id,rfl,rfl,hrow⟩:=pR hK nd2 hne
  have hidX:=hf2 id (by simp)
  simp at hidX
  have hidl:=(List.getElem?_eq_some_iff.1 hrow).1
  simp-implicitDefEqProofs[Ar,ag]
  obtain⟨Y,hY⟩:∃Y:List AO,Y=h2++[AO.row 3 [[AV.p (.int .i64 f.params),AV.p (.int .i64 f.slots),AV.sl id 5 0 f.ins.length]]]:=⟨_,rfl⟩
  rw[←hY]
  obtain⟨q,hq⟩:∃q,q=h2.length:=⟨_,rfl⟩
  rw[←hq]
  have hYl:Y.length=q+1:=by rw[hY,hq];simp
  have hYid:Y[id]?=some (bq f.ins):=by rw[hY,List.getElem?_append_left hidl];exact hrow
  have hXq:X.length<q:=by rw[hq,e2];simp<;>omega
  have hidq:id<q:=by omega
  have hYX:∀j,j<X.length->Y[j]?=X[j]?:=λj hj=>by rw[hY,List.getElem?_append_left (by omega),e2,List.getElem?_append_left (by simp;omega),List.getElem?_append_left hj]
  have hYf:Y[q]?=some (AO.row 3 [[AV.p (.int .i64 f.params),AV.p (.int .i64 f.slots),AV.sl id 5 0 f.ins.length]]):=by rw[hY,hq,List.getElem?_append_right (Nat.le_refl _),Nat.sub_self];rfl
  have hYo:Y[X.length]?=some (AO.row 6 [[AV.p (.str os[k].name),AV.p (.int .i64 os[k].params),AV.p (.int .i64 os[k].slots),AV.p (aN os[k].code),AV.p (bk os[k].calls),AV.p (aQ os[k].names)]]):=by
   rw[hY,List.getElem?_append_left (by omega),e2,List.getElem?_append_left (by simp),List.getElem?_append_right (Nat.le_refl _),Nat.sub_self];rfl
  have zf:∀o,(Y.set id o)[q]?=some (AO.row 3 [[AV.p (.int .i64 f.params),AV.p (.int .i64 f.slots),AV.sl id 5 0 f.ins.length]]):=λo=>by rw[List.getElem?_set_ne (by omega)];exact hYf
  have zo:∀o,(Y.set id o)[X.length]?=some (AO.row 6 [[AV.p (.str os[k].name),AV.p (.int .i64 os[k].params),AV.p (.int .i64 os[k].slots),AV.p (aN os[k].code),AV.p (bk os[k].calls),AV.p (aQ os[k].names)]]):=λo=>by rw[List.getElem?_set_ne (by omega)];exact hYo
  have zi:∀o,(Y.set id o)[id]?=some o:=λo=>List.getElem?_set_self (by omega)
  have hset0:Y=Y.set id (bq (kK f (fw os L) os[k].names 0)):=by
   rw[yS]
   obtain⟨h1,h3⟩:=List.getElem?_eq_some_iff.1 hYid
   conv=>lhs;rw[←List.set_getElem_self h1,h3]
  clear hY e2 hrow hown hK hf2
  refine aw (λa:LjS=>aB 90 [(14,.p (.int .i64 a.j)),(13,.p (.int .i64 (cN f a.j))),(11,.ptr q 3 0 0),(10,.ptr X.length 6 0 0),(9,.p (.int .i64 i)),(6,.p (.lst 1 ((aP L).map λn=>[.int .i64 n]))),(0,.p (.lst 6 (os.map Obj.cs))),(4,.ptr 0 1 0 0),(8,.ptr 1 1 0 0)])
   (λa=>Y.set id (bq (kK f (fw os L) os[k].names a.j))) (λa=>a.j<=f.ins.length) (λa=>f.ins.length-a.j) ⟨0⟩ (Nat.zero_le _) (by rw[←hset0];exact aA (Nat.zero_le _) (by simp[below,DK];omega)) ?_
  rintro⟨j⟩ hj
  simp only at hj⊢
  simp-implicitDefEqProofs[zf]
  refine aR (λhc2=>?_) (λhc2=>?_)
  ·have hc2:j<f.ins.length:=by simpa using hc2
   have hwj:=w1 (i:=j) (by omega)
   have hgj:=xZ (pl:=fw os L) (ws:=os[k].names) hc2
   have hbo:∀l,bq l= .row 5 (l.map Mins.av):=λ_=>rfl
   have hcs:=tS hcode hc2
   have hcn:=Cm hcode (f:=f) (i:=f.ins.length) (Nat.le_refl _)
   have hcm:=uc hcode (i:=j) (j:=f.ins.length) hj (Nat.le_refl _)
   by_cases hop:f.ins[j].op=14
   ·have hs:=uE (pl:=fw os L) (ws:=os[k].names) hc2
    have hlt:=JH hcode hc2 hop
    rw[if_pos hop] at hcs
    have hgn:=List.getElem?_eq_getElem (l:=os[k].names) (i:=cN f j) (by omega)
    have hwn:=w1 (i:=cN f j) (by omega)
    generalize os[k].names[cN f j]'(by omega)=v at hgn
    have hs2:((kK f (fw os L) os[k].names j).map Mins.av).set j [.p (.int .i64 14),.p (.int .i64 f.ins[j].a),.p (.int .i64 f.ins[j].b),.p (.int .i64 f.ins[j].c),.p (.int .i64 (fw os L v))]=(kK f (fw os L) os[k].names (j+1)).map Mins.av:=by
     rw[←hs,List.map_set,Er,if_pos hop,hgn,Mins.av_eq,hop];rfl
    have hsl:aQ os[k].names= .lst 1 (os[k].names.map λw=>[.str w]):=rfl
    have hP:=hPl v
    have hA2:=hAt v
    simp-implicitDefEqProofs[zi,zf,zo,hbo,hgj,hc2,Mins.av_eq,hop,hsl,hgn]
    refine hA2.use ?_
    simp-implicitDefEqProofs[zi,zf,zo,hbo]
    refine hP.use ?_
    simp-implicitDefEqProofs[zi,zf,zo,hbo,hgj,hc2,Mins.av_eq,hop,dP,hs2]
    refine⟨⟨j+1⟩,hc2,by simp only;omega,?_⟩
    rw[hcs]
    exact aA (Nat.zero_le _) (by simp[below,hwj,hwn];omega)
   ·have hs:=za (pl:=fw os L) (ws:=os[k].names) hc2 hop
    rw[if_neg hop] at hcs
    simp-implicitDefEqProofs[zi,zf,zo,hbo,hgj,hc2,Mins.av_eq,hop]
    refine⟨⟨j+1⟩,hc2,by simp only;omega,?_⟩
    rw[hs,hcs]
    exact aA (Nat.zero_le _) (by simp[below,hwj];omega)
  ·have hje:f.ins.length<=j:=by simpa using hc2
   have hra:=AR f (fw os L) os[k].names hje
   have hRl:(md f (fw os L) os[k].names).ins.length=f.ins.length:=by simp[md]
   rw[hra,←hRl]
   generalize hRg:md f (fw os L) os[k].names=R at hnx hRl
   rw[←hRl] at zf
   have hRp:f.params=R.params/\f.slots=R.slots:=by rw[←hRg];exact⟨rfl,rfl⟩
   rw[hRp.1,hRp.2] at zf
   have zfx:=zf (bq R.ins)
   have zix:=zi (bq R.ins)
   have z0:(Y.set id (bq R.ins))[0]?=some (.row 1 [[.nils]]):=by rw[List.getElem?_set_ne (by omega),hYX 0 (by omega)];exact g0
   have z1:(Y.set id (bq R.ins))[1]?=some (.row 1 [[V]]):=by rw[List.getElem?_set_ne (by omega),hYX 1 (by omega)];exact g1
   have hZX:LnI 2 ((dD os L).take i) V I (Y.set id (bq R.ins)):=hX.up λj hj=>by
    have:=hX.own.lt hj
    rw[List.getElem?_set_ne (by omega),hYX j this]
   have hZl:(Y.set id (bq R.ins)).length=q+1:=by rw[List.length_set];exact hYl
   have hIX:∀a∈I,a<X.length:=λa ha=>hX.own.lt ha
   generalize Y.set id (bq R.ins)=Z at*
   have hKZ:=gO (n:=R.ins.length) zix rfl
   have hfs:((dD os L).take i).length=i:=by rw[List.length_take,dD,List.length_map];omega
   generalize hlit:AO.row 3 [[AV.p (.int .i64 R.params),AV.p (.int .i64 R.slots),AV.sl id 5 0 R.ins.length]]=lit
   have y1:∀t,(Z++t)[1]?=some (.row 1 [[V]]):=λt=>by rw[List.getElem?_append_left (by omega)];exact z1
   have hZ2:LnI 2 ((dD os L).take i) V I (Z++[lit]):=hZX.up λj hj=>by rw[List.getElem?_append_left (by have:=hIX j hj;omega)]
   have hps:=hZ2.push (hKZ.more [lit]) (by simp) (λa ha hm=>by have:=hIX a ha;have:=List.mem_singleton.1 hm;omega) (λj hj=>by have:=List.mem_singleton.1 hj;omega)
   rw[hfs] at hps
   rcases hps with⟨rfl,hnil⟩|⟨oid,rows,rfl,ho2,horow,hrl,hnew⟩
   ·have y1e:=λt hh=>rT (y1 t) hh
    have hF:=LnI.first (b:=2) (f:=R) (hKZ.more [lit]) (by simp) (λj hj=>by have:=List.mem_singleton.1 hj;omega) (by simp;omega)
    rw[List.length_append,List.length_singleton,List.append_assoc] at hF
    subst hlit
    simp-implicitDefEqProofs[zfx,z1,y1,y1e]
    refine⟨⟨i+1,.sl (Z.length+1) 3 0 1,(Z.length+1)::[id],_⟩,⟨hc,?_,?_,?_⟩,by simp only;omega,aA (Nat.zero_le _) (by simp[below,hwi]<;>omega)⟩
    ·simp only
     rw[List.getElem?_set_ne (by omega),List.getElem?_append_left (by omega)];exact z0
    ·simp only
     rw[List.getElem?_set_self (by simp<;>omega)]
    ·simp only
     rw[hnx,hnil]
     exact hF.up λj hj=>List.getElem?_set_ne (by have:=hF.lo j hj;omega)
   ·have hoX:=hIX oid (by
     have:=hZX.own
     cases this with
     |sl=>simp)
    have zor:∀t,(Z++t)[oid]?=some (.row 3 rows):=λt=>by
     rw[List.getElem?_append_left (by omega)]
     rw[List.getElem?_append_left (by omega)] at horow
     exact horow
    have htt:List.take i rows=rows:=List.take_of_length_le (by omega)
    have y1d:∀t o t2,((Z++t).set oid o++t2)[1]?=some (.row 1 [[.sl oid 3 0 i]]):=λt o t2=>by
     rw[List.getElem?_append_left (by simp;omega),List.getElem?_set_ne (by omega)];exact y1 t
    have y1e:=λt hh=>rT (y1 t) hh
    have y1de:=λt o t2 hh=>rT (y1d t o t2) hh
    rw[List.length_append,List.length_singleton] at hnew
    subst hlit
    simp-implicitDefEqProofs[zfx,z1,y1,y1e,zor,htt,hrl,y1d,y1de]
    refine⟨⟨by omega,by omega⟩,⟨i+1,.sl (Z.length+1) 3 0 (i+1),(Z.length+1)::(I.filter (λj=>decide (j≠oid))++[id]),_⟩,⟨hc,?_,?_,?_⟩,by simp only;omega,aA (Nat.zero_le _) (by simp[below,hwi]<;>omega)⟩
    ·simp only
     rw[List.getElem?_set_ne (by omega),List.getElem?_append_left (by simp<;>omega),List.getElem?_set_ne (by omega),List.getElem?_append_left (by omega)];exact z0
    ·simp only
     rw[List.getElem?_set_self (by simp<;>omega)]
    ·simp only
     rw[hnx]
     exact hnew.up λj hj=>List.getElem?_set_ne (by have:=hnew.lo j hj;omega)
 ·have hie:L.length<=i:=by simpa using hc
  have hfull:(dD os L).take i=dD os L:=List.take_of_length_le (by rw[dD,List.length_map];exact hie)
  rw[hfull] at hX
  have hszF:=zX hO
  have hMV:=sU G (dD os L) hszF
  simp-implicitDefEqProofs[g1]
  refine(VF.lend hMV (.agg (.one (hX.own.view 0 _ _ rfl rfl) .nil) .nil) rfl).mono ?_
  rintro _ Y ⟨rfl,eY⟩
  subst eY
  have hs0:∀o,(Y.set 0 o)[0]?=some o:=λo=>List.getElem?_set_self (by omega)
  obtain⟨c1,c2⟩:=lU hX.own
  cases hm:bn (dD os L) with
  |false=>
   simp-implicitDefEqProofs[ag,g0,hs0]
   exact⟨[.nils],[],rfl,.nils 3 .nil,List.nodup_nil⟩
  |true=>
   simp-implicitDefEqProofs[-AV.cells,-AV.isCell,jo,bL,co,jp,bK,c1,c2,ag,g0,g1,hs0]
   exact⟨[V],I,rfl,hX.own.frame λj hj=>List.getElem?_set_ne (by have:=hX.lo j hj;omega),hX.nd⟩
theorem yG(os:List Obj)(ho:ObsOk os)(w:List UInt8)(hw:w.length<=1048576):VF Tryz.prog G dy [.p (obL os),.p (.str w)] (.tup [.agg [.p (bc (jr os w).1)],.p (.int .i64 (jr os w).2)]):=
 AC.mkFreeze (w:=AJ (jr os w).2) (qs:=[_]) (vL _) (ul G os ho w hw)
end
section
variable (G:az)
theorem Jl(f:Mfn)(hx:f.ins≠[])(hb:f.ins.length<=1000000):AC Tryz.prog G ep [.agg (f.cs.map .p)] [] λx h=>∃id,x= .ret (.agg ((cg f).ov id))/\h[id]?=some (bq (cg f).ins):=by
 refine AC.go ll ?_
 have hin:bp f.ins= .lst 5 (f.ins.map Mins.cs):=rfl
 simp-implicitDefEqProofs[lf]
 refine(AC.lift (uH G f hx hb) (by simp[ab,below]) rfl ?_).mono ?_
 ·simp only[List.all_cons,List.all_nil,pm];rfl
 rintro r h ⟨rfl,rfl⟩
 simp-implicitDefEqProofs[ag,aY,bi,oV,Mfn.ov]
 refine aw (λi:Nat=>aB 26 [(1,.ptr 0 3 0 0),(2,.ptr 1 3 0 0),(8,.p (.int .i64 f.ins.length)),(9,.p (.int .i64 i))]) (λi=>[.row 3 [[.p (.int .i64 f.params),.p (.int .i64 f.slots),.sl 2 5 0 f.ins.length]],.row 3 [cK],bq (ce f i)])
  (λi=>i<=f.ins.length) (λi=>f.ins.length-i) 0 (by simp) ?_ ?_
 ·rw[sF]
  refine al [0,1,2] rfl (by decide) (aE (by simp[below]) (by simp[ren,aF]) (af rfl (by simp[cK,ab,below]) (af rfl (cC _) aj))) ?_
  simp[below,ren]
 ·intro i hi
  simp-implicitDefEqProofs[]
  refine aR (λh1=>?_) (λh1=>?_)
  ·simp at h1
   have hg:=uY h1
   have hbo:bq (ce f i)= .row 5 ((ce f i).map Mins.av):=rfl
   by_cases ho:f.ins[i].op=14
   ·have hs:=ya h1
    have hs2:((ce f i).map Mins.av).set i [.p (.int .i64 14),.p (.int .i64 f.ins[i].a),.p (.int .i64 f.ins[i].b),.p (.int .i64 f.ins[i].c),.p (.int .i64 0)]=(ce f (i+1)).map Mins.av:=by
     rw[←hs,List.map_set,iO,if_pos ho,Mins.av_eq,ho]
    simp-implicitDefEqProofs[hbo,hg,h1,Mins.av_eq,ho,dP,hs2]
    refine⟨i+1,h1,by omega,?_⟩
    refine al [0,1,2] rfl (by decide) (aE (by simp[below]) (by simp[ren,aF]) (af rfl (by simp[cK,ab,below]) (af rfl (cC _) aj))) ?_
    simp[below,ren,w1 (i:=i) (by omega)]
   ·have hs:=sO h1 ho
    simp-implicitDefEqProofs[hbo,hg,h1,Mins.av_eq,ho]
    refine⟨i+1,h1,by omega,?_⟩
    rw[hs]
    refine al [0,1,2] rfl (by decide) (aE (by simp[below]) (by simp[ren,aF]) (af rfl (by simp[cK,ab,below]) (af rfl (cC _) aj))) ?_
    simp[below,ren,w1 (i:=i) (by omega)]
  ·simp at h1
   have hie:i=f.ins.length:=by omega
   subst hie
   simp-implicitDefEqProofs[vO]
   exact⟨by simp[cK],2,⟨rfl,rfl,rfl,by simp[cg]⟩,rfl⟩
theorem Ip(f:Mfn)(hx:f.ins≠[])(hb:f.ins.length<=1000000):AC Tryz.prog G ep [.agg (f.cs.map .p)] [] (MkW .agg true (cg f).cs):=
 (Jl G f hx hb).mono λx h ⟨id,e1,e2⟩=>⟨(cg f).ov id,[id],e1,jE (gO e2 rfl),by simp⟩
variable (hG:G bW=some pvForms)
include hG
theorem BV{f:Mfn}(hn:f.ins.length<=1000000)(hlo:∀x∈f.ins,x.op=14-> -9223372036854775808<=x.n):AC Tryz.prog G dh [.agg (f.cs.map .p)] [] (MkW lZ true [bk (bI f)]):=by
 refine(sN G hG f hn hlo).mono λx h ⟨id,e1,e2⟩=>?_
 subst e1
 by_cases he:bI f=[]
 ·rw[he,show jm []=[] from rfl,rh]
  exact⟨[.nils],[],rfl,.nils 1 .nil,List.nodup_nil⟩
 ·have hne:jm (bI f)≠[]:=λe=>he (List.map_eq_nil_iff.1 e)
  rw[cP hne]
  rw[dS hne] at e2
  exact⟨[_],[id],rfl,sg e2 (by simp[jm]),by simp⟩
theorem Bi(p s:Int)(code:List Int)(hb:bJ code)(hl:code.length<=1048576){f:Mfn}(hd:dG p s code=some f):AC Tryz.prog G bY [.p (.int .i64 p),.p (.int .i64 s),.p (aN code)] [] (MkW (Ar true) true f.cs):=by
 refine(mH G hG p s code hb hl).mono λx h e=>?_
 rw[hd] at e
 obtain⟨id,rfl,e2⟩:=e
 exact⟨f.ov id,[id],rfl,jE (gO e2 rfl),by simp⟩
variable (hK:G ig=some gB)
include hK
theorem KF(o:Obj)(ho:ObjSm o)(hz:szO o<=1048576)(hk:bC o=true){f:Mfn}(hd:dG o.params o.slots o.code=some f):AC Tryz.prog G gP [.agg (o.cs.map .p)] [] (MkW (Ar true) true f.cs):=by
 obtain⟨f',hd',hc,hnl,hbk,h2000,hne⟩:=ua hk
 rw[hd] at hd'
 cases hd'
 have hsz:szO o=o.name.length+o.code.length+o.calls.length+szW o.names:=rfl
 have hwz:szW o.names=o.names.length+(o.names.map List.length).sum:=rfl
 have hA:=λh=>AC.mkLift (vF true) (Bi G hG o.params o.slots o.code ho.bytes (by omega) hd) (h:=h) (by simp)
 refine AC.go sW ?_
 simp-implicitDefEqProofs[mY,Obj.cs]
 refine(hA _).mono ?_
 rintro _ h2 ⟨vs,J,os2,rfl,e2,hown,nd2,hf2⟩
 obtain⟨K,rfl,hK2⟩:=ue hown
 obtain⟨id,rfl,rfl,hrow⟩:=pR hK2 nd2 hne
 have hidl:=(List.getElem?_eq_some_iff.1 hrow).1
 have hl2:0<h2.length:=by rw[e2];simp<;>omega
 have a0:∀t,(h2++t)[0]?=some (AO.row 6 [[AV.p (.str o.name),AV.p (.int .i64 o.params),AV.p (.int .i64 o.slots),AV.p (aN o.code),AV.p (bk o.calls),AV.p (aQ o.names)]]):=λt=>by rw[List.getElem?_append_left hl2,e2];rfl
 have a0e:=λt hh=>rT (a0 t) hh
 have hrt:∀t,(h2++t)[id]?=some (bq f.ins):=λt=>by rw[List.getElem?_append_left hidl];exact hrow
 have hvw:∀t l l',Views (h2++t) l l'->Views (h2++t) (.agg [.p (.int .i64 f.params),.p (.int .i64 f.slots),.sl id 5 0 f.ins.length]::l) (.agg (f.cs.map .p)::l'):=λt l l' hl=> .agg (jE (gO (hrt t) rfl)).views hl
 have hbk2:(cg f).cs=f.cs:=by rw[←hbk]
 have hB:=Ip G f hne (by omega)
 rw[hbk2] at hB
 have hlo:∀x∈f.ins,x.op=14-> -9223372036854775808<=x.n:=λx hx h=>by have:=Cf hc hx h;omega
 have hC:=BV G hG (f:=f) (by omega) hlo
 have hob:=hk
 simp only[bC,hd,Bool.and_eq_true,decide_eq_true_eq] at hob
 have h4':(o.names.length:Int)=(o.calls.length:Int):=by have:=hob.1.1.2;omega
 have hcb:(bI f).length<=1048576:=by rw[←hnl];omega
 simp-implicitDefEqProofs[Ar,ag,a0,a0e]
 refine(pS G hK o.name (by omega)).use ?_
 simp-implicitDefEqProofs[hob.1.1.1.1,a0,a0e]
 refine AC.mkLendQ (mF ll) DO hB (hvw _ _ _ .nil) ?_
 have hsm:=zt G f f (by omega)
 simp-implicitDefEqProofs[-AV.cells,-AV.isCell,jo,bL,co,jp,bK,a0,a0e]
 refine(VF.lend hsm (hvw _ _ _ (.keep (by simp[below]) .nil)) rfl).mono ?_
 rintro _ Y ⟨rfl,eY⟩
 subst eY
 simp-implicitDefEqProofs[ag,a0,a0e]
 refine AC.mkLendQ (mF kL) zN hC (hvw _ _ _ .nil) ?_
 have hnl2:∀l,bk l= .lst 1 (l.map λn=>[.int .i64 n]):=λ_=>rfl
 have hsl:∀l,aQ l= .lst 1 (l.map λw=>[.str w]):=λ_=>rfl
 simp-implicitDefEqProofs[a0,a0e,lZ]
 refine(uj G (bI f) o.calls hcb).use ?_
 simp-implicitDefEqProofs[a0,a0e,hob.1.1.1.2,hnl2,hsl,h4']
 have hCN:=od G hK o.names (by omega) (uy hz)
 rw[hsl,hob.1.2] at hCN
 have hl2':1<h2.length:=by rw[e2];simp<;>omega
 have a1:∀t,(h2++t)[1]?=some (AO.row 3 [[.p (.int .i64 0),.p (.int .i64 0),.nils]]):=λt=>by rw[List.getElem?_append_left hl2',e2];rfl
 have a1e:=λt hh=>rT (a1 t) hh
 have a1s:∀o t,((h2++t).set 1 o)[1]?=some o:=λo t=>List.getElem?_set_self (by simp;omega)
 have hqe:∀x t,(h2++x::t)[h2.length]?=some x:=λx t=>by rw[List.getElem?_append_right (Nat.le_refl _),Nat.sub_self];rfl
 refine hCN.use ?_
 simp-implicitDefEqProofs[a0,a0e,a1,a1e,hqe,a1s]
 have hid1:=hf2 id (by simp)
 simp at hid1
 exact⟨[.p (.int .i64 f.params),.p (.int .i64 f.slots),.sl id 5 0 f.ins.length],[id],rfl,jE (gO (by rw[List.getElem?_set_ne (by omega)];exact hrt _) rfl),by simp⟩
end
end Go.Proofs.YtbnajafpkeficaaGreatDoor
