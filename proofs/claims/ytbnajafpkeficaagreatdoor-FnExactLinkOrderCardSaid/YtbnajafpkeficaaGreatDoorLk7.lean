/-
  Contracts and lemmas that the card needs, part 7.
-/
import Derived.Test.YtbnajafpkeficaaGreatDoorLk6
import Derived.ChangeMaps
import Derived.WideShapes
import Derived.WideHanded
import Derived.Test.YtbnajafpkeficaaGreatDoorRows
import Derived.WalkKit
import Derived.ProofKit
import Derived.LaidMore
namespace Go.Aw
variable {P:Program} {G:ay}
theorem Ai{W:World}{S:Nat->Prop}{φ φ':au}{n m:Nat}{σ:List Nat}(hσ:∀i,i<m->σ.getD i 0<n/\φ (σ.getD i 0)=φ' i){v:AV}{x:Value}(h:VRel W S φ' m v x):VRel W S φ n (ren σ v) x:=by
 induction h with
 |p pv x hp=>exact .p _ _ hp
 |agg cs vs hs _ ih=>
  simp only[ren]
  refine .agg _ vs (by rw[hs,bM]) λj c y h1 h2=>?_
  rw[eA,Option.map_eq_some_iff] at h1
  obtain⟨c0,h1,rfl⟩:=h1
  exact ih j c0 y h1 h2
 |tup cs vs hs _ ih=>
  simp only[ren]
  refine .tup _ vs (by rw[hs,bM]) λj c y h1 h2=>?_
  rw[eA,Option.map_eq_some_iff] at h1
  obtain⟨c0,h1,rfl⟩:=h1
  exact ih j c0 y h1 h2
 |ptr id esz i off hid=>
  have:=VRel.ptr (W:=W) (S:=S) (φ:=φ) (n:=n) (σ.getD id 0) esz i off (hσ id hid).1
  rw[(hσ id hid).2] at this
  exact this
 |sl id esz off len cap ba hid hl hb hc=>
  exact VRel.sl (W:=W) (S:=S) (φ:=φ) (n:=n) (σ.getD id 0) esz off len cap ba (hσ id hid).1 hl (by rw[(hσ id hid).2];exact hb) (by rw[(hσ id hid).2];exact hc)
 |mp id hid=>
  have:=VRel.mp (W:=W) (S:=S) (φ:=φ) (n:=n) (σ.getD id 0) (hσ id hid).1
  rw[(hσ id hid).2] at this
  exact this
 |it id hid=>
  have:=VRel.it (W:=W) (S:=S) (φ:=φ) (n:=n) (σ.getD id 0) (hσ id hid).1
  rw[(hσ id hid).2] at this
  exact this
 |fn f caps vs hs _ ih=>
  simp only[ren]
  refine .fn f _ vs (by rw[hs,bM]) λj c y h1 h2=>?_
  rw[eA,Option.map_eq_some_iff] at h1
  obtain⟨c0,h1,rfl⟩:=h1
  exact ih j c0 y h1 h2
 |gp g off=>exact .gp g off
 |nils=>exact .nils
 |nilp=>exact .nilp
 |nilf=>exact .nilf
 |nilm=>exact .nilm
 |nili=>exact .nili
 |any x=>exact .any x
 |eptr e off b o hb hc=>exact .eptr e off b o hb hc
 |ifc t pv x hp=>exact .ifc t pv x hp
def mF(σ:List Nat):AO->AO
 | .row sz es=> .row sz (es.map (aF σ))
 | .mp es=> .mp (es.map λx=>(x.1,ren σ x.2))
 | .sit s pos=> .sit s pos
 | .dead=> .dead
def Gk(σ:List Nat):ARes->ARes
 | .ret v=> .ret (ren σ v)
 | .pan t v=> .pan t v
def mrg(h:List AO):List Nat->List AO->List AO
 |i::π,o::os=>mrg (h.set i o) π os
 |_,_=>h
theorem oI:∀(π:List Nat) (os h:List AO),(mrg h π os).length=h.length
 |[],_,_=>by simp[mrg]
 |_::_,[],_=>by simp[mrg]
 |i::π,o::os,h=>by rw[mrg,oI,List.length_set]
theorem vK:∀(π:List Nat) (os h:List AO) (j:Nat),j∉π->(mrg h π os)[j]?=h[j]?
 |[],_,_,_,_=>by simp[mrg]
 |_::_,[],_,_,_=>by simp[mrg]
 |i::π,o::os,h,j,hj=>by
  simp only[List.mem_cons,not_or] at hj
  rw[mrg,vK π os _ j hj.2,List.getElem?_set_ne (Ne.symm hj.1)]
theorem EW:∀(π:List Nat) (os h:List AO),π.Nodup->(∀i∈π,i<h.length)->∀(i:Nat) (o:AO),i<π.length->os[i]?=some o->(mrg h π os)[π.getD i 0]?=some o
 |[],_,_,_,_,i,o,hi,_=>by simp at hi
 |_::_,[],_,_,_,i,o,_,e=>by simp at e
 |p::π,q::os,h,nd,hb,i,o,hi,e=>by
  simp only[List.nodup_cons] at nd
  rw[mrg]
  cases i with
  |zero=>
   simp at e;subst e
   have hp:=hb p (by simp)
   simp only[List.getD_cons_zero]
   rw[vK π os _ p nd.1]
   simp[hp]
  |succ i=>
   simp only[List.getD_cons_succ]
   exact EW π os _ nd.2 (λj hj=>by rw[List.length_set];exact hb j (by simp[hj])) i o (by simpa using hi) (by simpa using e)
theorem ga{σ:List Nat}{o:AO}(l:(mF σ o).live):o.live:=by cases o<;>exact l
theorem AC.frame{f:FuncId}{args0 args:List AV}{h0 h:List AO}{R:ARes->List AO->Prop}(H:AC P G f args0 h0 R)(π:List Nat)(nd:π.Nodup)(hT:TW π args args0)(hW:HW π h π h0):
 AC P G f args h λx h'=>∃x0 h0',R x0 h0'/\h0.length<=h0'.length/\x=Gk (π++List.range' h.length (h0'.length-h0.length)) x0/\
  h'=mrg h π ((h0'.take h0.length).map (mF (π++List.range' h.length (h0'.length-h0.length))))++(h0'.drop h0.length).map (mF (π++List.range' h.length (h0'.length-h0.length))):=by
 obtain⟨t1,t2⟩:=Aq hT
 obtain⟨q1,q2,q3,q4,q5⟩:=tN hW
 refine⟨H.1,λW S φ vs hH hA=>?_⟩
 have hliv:∀{id},Live h0 id->Live h (π.getD id 0):=λ{id} ⟨o,e,l⟩=>by
  cases o with
  |dead=>exact l.elim
  |row sz es=>exact bD (q3 _ _ _ e).2
  |mp es=>exact Cd (q4 _ _ e).2
  |sit t pos=>exact zJ (q5 _ _ _ e)
 have hmem:∀{i},i<π.length->π.getD i 0∈π:=λ{i} hi=>by
  rw[List.getD_eq_getElem?_getD,List.getElem?_eq_getElem hi];exact List.getElem_mem hi
 have hinj:∀i j,i<π.length->j<π.length->π.getD i 0=π.getD j 0->i=j:=λi j hi hj e=>by
  rw[List.getD_eq_getElem?_getD,List.getD_eq_getElem?_getD,List.getElem?_eq_getElem hi,List.getElem?_eq_getElem hj] at e
  refine(List.getElem?_inj hi nd).1 ?_
  rw[List.getElem?_eq_getElem hi,List.getElem?_eq_getElem hj]
  exact congrArg some (by simpa using e)
 have hbnd:∀i∈π,i<h.length:=λi hi=>by
  obtain⟨j,hj⟩:=List.getElem?_of_mem hi
  have:=q2 j (List.getElem?_eq_some_iff.1 hj).1
  rwa[List.getD_eq_getElem?_getD,hj] at this
 have H0:HRel G W S (λi=>φ (π.getD i 0)) h0:=by
  refine⟨λid sz es hid=>?_,λid o hid lo=>?_,λid id' e1 e2 he=>?_,λb hb=>⟨(hH.sep b hb).1,λid hid he=>?_⟩,λid hid=>?_,hH.glob⟩
  ·obtain⟨b1,b2⟩:=q3 id sz es hid
   obtain⟨c,t,fr,a1,a2,a3,a4,a5⟩:=hH.obj _ _ _ b2
   refine⟨c,t,fr,a1,a2,λe he=>?_,by simpa using a4,λj u hj=>?_⟩
   ·have:=a3 (aF π e) (List.mem_map.2 ⟨e,he,rfl⟩)
    rwa[bM] at this
   ·have hr:(es.map (aF π)).flatten[j]?=some (ren π u):=by rw[fk,eA,hj];rfl
    obtain⟨c1,v,c2,c3⟩:=a5 j _ hr
    rw[nR] at c1
    exact⟨c1,v,c2,by rw[←q1];exact gU u (be (iw _ b1) j u hj) c3⟩
  ·cases o with
   |dead=>trivial
   |row sz es=>trivial
   |sit t pos=>exact hH.oobj _ _ (q5 id t pos hid) trivial
   |mp es=>
    obtain⟨b1,b2⟩:=q4 id es hid
    obtain⟨ents,clock,a1,a2,a3,a4⟩:=hH.oobj _ _ b2 trivial
    refine⟨ents,clock,a1,by simpa using a2,λj k a hj=>?_,a4⟩
    obtain⟨e,c1,c2,c3⟩:=a3 j k (ren π a) (by rw[List.getElem?_map,hj];rfl)
    exact⟨e,c1,c2,by rw[←q1];exact gU a (b1 _ (List.mem_of_getElem? hj)) c3⟩
  ·exact hinj _ _ (by rw[q1];exact e1.lt) (by rw[q1];exact e2.lt) (hH.inj _ _ (hliv e1) (hliv e2) he)
  ·exact(hH.sep b hb).2 _ (hliv hid) he
  ·exact hH.bnd _ (q2 id (by rw[q1];exact hid))
 have hA0:ko W S (λi=>φ (π.getD i 0)) h0.length args0 vs:=⟨hA.1.trans t1,λj c v h1 h2=>by
  rcases t2 j c h1 with rfl|⟨b1,b2⟩
  ·exact .any _
  ·rw[←q1];exact gU c b1 (hA.2 j _ v b2 h2)⟩
 refine(H.2 W S _ vs H0 hA0).mono λe W' ⟨x,S',φ',h',k1,k2,k3,k4⟩=>?_
 have hle:=k4.len
 have hkl:π.length=h0.length:=q1
 let σ:List Nat:=π++List.range' h.length (h'.length-h0.length)
 let ψ:au:=λj=>if j<h.length then φ j else φ' (h0.length+(j-h.length))
 have hψ1:∀{j},j<h.length->ψ j=φ j:=λ{j} hj=>by show(if j<h.length then φ j else _)=_;rw[if_pos hj]
 have hψ2:∀j,ψ (h.length+j)=φ' (h0.length+j):=λj=>by show(if h.length+j<h.length then φ _ else φ' _)=_;rw[if_neg (by omega)];congr 1;omega
 have hσ1:∀i,i<h0.length->σ.getD i 0=π.getD i 0:=λi hi=>by
  show(π++_).getD i 0=_
  rw[List.getD_eq_getElem?_getD,List.getD_eq_getElem?_getD,List.getElem?_append_left (by omega)]
 have hσ2:∀i,i<h'.length-h0.length->σ.getD (h0.length+i) 0=h.length+i:=λi hi=>by
  show(π++List.range' h.length (h'.length-h0.length)).getD _ 0=_
  rw[List.getD_eq_getElem?_getD,List.getElem?_append_right (by omega),show h0.length+i-π.length=i by omega]
  simp[hi]
 let hm:List AO:=mrg h π ((h'.take h0.length).map (mF σ))++(h'.drop h0.length).map (mF σ)
 have hml:hm.length=h.length+(h'.length-h0.length):=by simp[hm,oI]
 have hσ:∀i,i<h'.length->σ.getD i 0<hm.length/\ψ (σ.getD i 0)=φ' i:=λi hi=>by
  rcases Nat.lt_or_ge i h0.length with h1|h1
  ·have:=q2 i (by omega)
   rw[hσ1 i h1]
   exact⟨by omega,by rw[hψ1 this];exact(k4.same i h1).symm⟩
  ·obtain⟨j,rfl⟩:∃j,i=h0.length+j:=⟨i-h0.length,by omega⟩
   rw[hσ2 j (by omega)]
   exact⟨by omega,hψ2 j⟩
 have hget:∀{j o},hm[j]?=some o->(∃i o',i<h'.length/\σ.getD i 0=j/\h'[i]?=some o'/\o=mF σ o')\/(j<h.length/\j∉π/\h[j]?=some o):=λ{j o} e=>by
  rcases Nat.lt_or_ge j h.length with hj|hj
  ·have e':(mrg h π ((h'.take h0.length).map (mF σ)))[j]?=some o:=by rw[←e];exact(List.getElem?_append_left (by rw[oI];exact hj)).symm
   by_cases hp:j∈π
   ·left
    obtain⟨i,hi⟩:=List.getElem?_of_mem hp
    have hil:=(List.getElem?_eq_some_iff.1 hi).1
    have hig:π.getD i 0=j:=by rw[List.getD_eq_getElem?_getD,hi];rfl
    have hih:i<h'.length:=by omega
    have hio:h'[i]?=some h'[i]:=List.getElem?_eq_getElem hih
    have:=EW π ((h'.take h0.length).map (mF σ)) h nd hbnd i (mF σ h'[i]) hil (by rw[List.getElem?_map,List.getElem?_take_of_lt (by omega),hio];rfl)
    rw[hig,e'] at this
    exact⟨i,h'[i],hih,by rw[hσ1 i (by omega),hig],hio,Option.some.inj this⟩
   ·exact .inr ⟨hj,hp,by rw[←e',vK _ _ _ _ hp]⟩
  ·left
   have e':((h'.drop h0.length).map (mF σ))[j-h.length]?=some o:=by
    rw[←e]
    show _=(mrg h π _++_)[j]?
    rw[List.getElem?_append_right (by rw[oI];exact hj),oI]
   rw[List.getElem?_map,Option.map_eq_some_iff] at e'
   obtain⟨o',e1,e2⟩:=e'
   rw[List.getElem?_drop] at e1
   have hl:=(List.getElem?_eq_some_iff.1 e1).1
   exact⟨h0.length+(j-h.length),o',hl,by rw[hσ2 _ (by omega)];omega,e1,e2.symm⟩
 have hout:∀{j},j<h.length->j∉π->Live h j->W'.heap[(φ j).1]?=W.heap[(φ j).1]?:=λ{j} hj hp lj=>k4.out _ (hH.bnd j hj) λid hid he=>by
  have:=hH.inj _ _ (hliv hid) lj he
  exact hp (this▸hmem (by rw[q1];exact hid.lt))
 have hnew:∀b,S' b->S b\/W.heap.size<=b\/∃i,Live h0 i/\(φ (π.getD i 0)).1=b:=λb hb=>k4.newS b hb
 have K:Keep W S φ h W' S' ψ hm:=
  {pure:=k4.pure,len:=by omega,same:=λ_ hid=>hψ1 hid
   blk:=λid hid c t fr e=>by
    by_cases hx:∃i,Live h0 i/\(φ (π.getD i 0)).1=(φ id).1
    ·obtain⟨i,li,ei⟩:=hx
     have:=k4.blk i li.lt c t fr (by rw[ei];exact e)
     rwa[ei] at this
    ·rw[k4.out _ (hH.bnd id hid) λi li ei=>hx ⟨i,li,ei⟩] at e
     exact⟨c,t,fr,e,rfl⟩
   os:=k4.os,tape:=k4.tape,output:=k4.output,size:=k4.size
   out:=λb hb hn=>k4.out b hb λi li=>hn _ (hliv li)
   img:=λid ⟨o,e,l⟩=>by
    rcases hget e with⟨i,o',hi,rfl,e',rfl⟩|⟨hj,_,e'⟩
    ·rw[(hσ i hi).2]
     rcases k4.img i ⟨_,e',ga l⟩ with h2|⟨id2,h2,h3⟩
     ·exact .inl h2
     ·exact .inr ⟨_,hliv h2,h3⟩
    ·exact .inr ⟨id,⟨_,e',l⟩,by rw[hψ1 hj]⟩
   newS:=λb hb=>by
    rcases hnew b hb with h2|h2|⟨i,h2,h3⟩
    ·exact .inl h2
    ·exact .inr (.inl h2)
    ·exact .inr (.inr ⟨_,hliv h2,h3⟩)}
 refine⟨Gk σ x,S',ψ,hm,⟨x,h',k1,hle,rfl,rfl⟩,⟨λid sz es e=>?_,λid o1 e lo=>?_,λid id' ⟨o1,e1,l1⟩ ⟨o2,e2,l2⟩ he=>?_,λb hb=>⟨(k2.sep b hb).1,λid ⟨o1,e,l1⟩ he=>?_⟩,λid hid=>?_,k2.glob⟩,?_,K⟩
 ·rcases hget e with⟨i,o',hi,rfl,e',eo⟩|⟨hj,hp,e'⟩
  ·obtain⟨es',rfl,rfl⟩:∃es',o'= .row sz es'/\es=es'.map (aF σ):=by cases o'<;>cases eo;exact⟨_,rfl,rfl⟩
   obtain⟨c,t,fr,a1,a2,a3,a4,a5⟩:=k2.obj i sz es' e'
   refine⟨c,t,fr,by rw[(hσ i hi).2];exact a1,a2,λe he=>?_,by rw[(hσ i hi).2];simpa using a4,λj u hj=>?_⟩
   ·obtain⟨e0,he0,rfl⟩:=List.mem_map.1 he
    rw[bM];exact a3 e0 he0
   ·rw[fk,eA,Option.map_eq_some_iff] at hj
    obtain⟨u0,hj,rfl⟩:=hj
    obtain⟨b1,v,b2,b3⟩:=a5 j u0 hj
    exact⟨by rw[nR];exact b1,v,by rw[(hσ i hi).2];exact b2,Ai hσ b3⟩
  ·obtain⟨c,t,fr,a1,a2,a3,a4,a5⟩:=hH.obj id sz es e'
   refine⟨c,t,fr,by rw[hψ1 hj,hout hj hp (bD e')];exact a1,a2,a3,by rw[hψ1 hj];exact a4,λj u hj2=>?_⟩
   obtain⟨b1,v,b2,b3⟩:=a5 j u hj2
   exact⟨b1,v,by rw[hψ1 hj];exact b2,b3.kept K.toKept⟩
 ·rcases hget e with⟨i,o',hi,rfl,e',rfl⟩|⟨hj,hp,e'⟩
  ·rw[(hσ i hi).2]
   have hq:=k2.oobj i o' e' (ga lo)
   cases o' with
   |dead=>trivial
   |row sz es=>trivial
   |sit t pos=>exact hq
   |mp es'=>
    obtain⟨ents,clock,a1,a2,a3,a4⟩:=hq
    refine⟨ents,clock,a1,by simpa using a2,λj k a hj=>?_,a4⟩
    rw[List.getElem?_map,Option.map_eq_some_iff] at hj
    obtain⟨⟨k0,a0⟩,hj,hk⟩:=hj
    cases hk
    obtain⟨x,c1,c2,c3⟩:=a3 j _ _ hj
    exact⟨x,c1,c2,Ai hσ c3⟩
  ·rw[hψ1 hj,hout hj hp ⟨_,e',lo⟩]
   exact(hH.oobj id o1 e' lo).mono λa v r=>r.kept K.toKept
 ·rcases hget e1 with⟨i,o',hi,rfl,e1',rfl⟩|⟨hj,hp,e1'⟩<;>rcases hget e2 with⟨i',o'',hi',rfl,e2',rfl⟩|⟨hj',hp',e2'⟩
  ·rw[(hσ i hi).2,(hσ i' hi').2] at he
   rw[k2.inj _ _ ⟨_,e1',ga l1⟩ ⟨_,e2',ga l2⟩ he]
  ·rw[(hσ i hi).2,hψ1 hj'] at he
   rcases k4.img i ⟨_,e1',ga l1⟩ with h2|⟨id2,h2,h3⟩
   ·have:=hH.bnd _ hj'
    omega
   ·have:=hH.inj _ _ (hliv h2) ⟨_,e2',l2⟩ (h3.trans he)
    exact(hp' (this▸hmem (by rw[q1];exact h2.lt))).elim
  ·rw[(hσ i' hi').2,hψ1 hj] at he
   rcases k4.img i' ⟨_,e2',ga l2⟩ with h2|⟨id2,h2,h3⟩
   ·have:=hH.bnd _ hj
    omega
   ·have:=hH.inj _ _ (hliv h2) ⟨_,e1',l1⟩ (h3.trans he.symm)
    exact(hp (this▸hmem (by rw[q1];exact h2.lt))).elim
  ·rw[hψ1 hj,hψ1 hj'] at he;exact hH.inj _ _ ⟨_,e1',l1⟩ ⟨_,e2',l2⟩ he
 ·rcases hget e with⟨i,o',hi,rfl,e',rfl⟩|⟨hj,hp,e'⟩
  ·rw[(hσ i hi).2] at he
   exact(k2.sep b hb).2 _ ⟨_,e',ga l1⟩ he
  ·rw[hψ1 hj] at he
   rcases hnew b hb with h2|h2|⟨i,h2,h3⟩
   ·exact(hH.sep b h2).2 _ ⟨_,e',l1⟩ he
   ·have:=hH.bnd id hj
    omega
   ·have:=hH.inj _ _ (hliv h2) ⟨_,e',l1⟩ (h3.trans he.symm)
    exact hp (this▸hmem (by rw[q1];exact h2.lt))
 ·rcases Nat.lt_or_ge id h.length with hi|hi
  ·rw[hψ1 hi];exact Nat.lt_of_lt_of_le (hH.bnd id hi) k4.size
  ·obtain⟨k,rfl⟩:∃k,id=h.length+k:=⟨id-h.length,by omega⟩
   rw[hψ2]
   exact k2.bnd _ (by omega)
 ·cases k3 with
  |ret _ x hv=>exact .ret _ _ (Ai hσ hv)
  |pan t v x hp=>exact .pan t v x hp
inductive Fzs (hF:List AO) (n:Nat):List AV->List AV->Prop where
 |nil:Fzs hF n [] []
 |one {a:AV} {q:PV} {l l':List AV}:View hF a q->Fzs hF n l l'->Fzs hF n (a::l) (.p q::l')
 |agg {cs cs' l l':List AV}:Fzs hF n cs cs'->Fzs hF n l l'->Fzs hF n (.agg cs::l) (.agg cs'::l')
 |tup {cs cs' l l':List AV}:Fzs hF n cs cs'->Fzs hF n l l'->Fzs hF n (.tup cs::l) (.tup cs'::l')
 |keep {a:AV} {l l':List AV}:below n a->Fzs hF n l l'->Fzs hF n (a::l) (a::l')
 |ptr {id esz i off:Nat} {es:List (List AV)} {e:List PV} {l l':List AV}:hF[id]?=some (.row esz es)->es[i]?=some (e.map .p)->Fzs hF n l l'->Fzs hF n (.ptr id esz i off::l) (.eptr e off::l')
theorem Fzs.len{hF:List AO}{n:Nat}:∀{l l':List AV},Fzs hF n l l'->l.length=l'.length
 |_,_,.nil=>rfl
 |_,_,.one _ r=>by simp[r.len]
 |_,_,.agg _ r=>by simp[r.len]
 |_,_,.tup _ r=>by simp[r.len]
 |_,_,.keep _ r=>by simp[r.len]
 |_,_,.ptr _ _ r=>by simp[r.len]
theorem Fzs.append{hF:List AO}{n:Nat}:∀{l l' m m':List AV},Fzs hF n l l'->Fzs hF n m m'->Fzs hF n (l++m) (l'++m')
 |_,_,_,_,.nil,h=>h
 |_,_,_,_,.one v r,h=> .one v (r.append h)
 |_,_,_,_,.agg v r,h=> .agg v (r.append h)
 |_,_,_,_,.tup v r,h=> .tup v (r.append h)
 |_,_,_,_,.keep v r,h=> .keep v (r.append h)
 |_,_,_,_,.ptr a b r,h=> .ptr a b (r.append h)
theorem Bf{W:World}{S S':Nat->Prop}{φ:au}{n m:Nat}(hS:∀b,S b->S' b){v:AV}(hb:below m v){x:Value}(h:VRel W S φ n v x):VRel W S' φ m v x:=by
 induction h with
 |p v x hp=>exact .p _ _ (hp.mono λb hb=>⟨hS b hb,rfl⟩)
 |agg cs vs hs _ ih=>exact .agg cs vs hs λj c y h1 h2=>ih j c y h1 h2 (be (by simpa[below] using hb) j c h1)
 |tup cs vs hs _ ih=>exact .tup cs vs hs λj c y h1 h2=>ih j c y h1 h2 (be (by simpa[below] using hb) j c h1)
 |ptr id e i o _=>exact .ptr id e i o hb
 |sl id e o l cap ba _ h1 h2 h3=>exact .sl id e o l cap ba hb h1 h2 h3
 |mp id _=>exact .mp id hb
 |it id _=>exact .it id hb
 |eptr e off b o hb' hc=>
  exact .eptr e off b o (hS b hb') λj c hj=>by
   obtain⟨v,h1,h2⟩:=hc j c hj
   exact⟨v,h1,h2.mono λb hb=>⟨hS b hb,rfl⟩⟩
 |gp g off=>exact .gp g off
 |fn f caps vs hs _ ih=>exact .fn f caps vs hs λj c y h1 h2=>ih j c y h1 h2 (be (by simpa[below] using hb) j c h1)
 |nils=>exact .nils
 |nilp=>exact .nilp
 |nilf=>exact .nilf
 |nilm=>exact .nilm
 |nili=>exact .nili
 |ifc t pv x hp=>exact .ifc _ _ _ (hp.mono λb hb=>⟨hS b hb,rfl⟩)
 |any x=>exact .any x
theorem Fzs.rel{W:World}{S:Nat->Prop}{φ:au}{hF:List AO}{n:Nat}(H:HRel G W S φ hF):∀{l l':List AV},Fzs hF n l l'->∀(j:Nat) (c c':AV) (x:Value),l[j]?=some c->l'[j]?=some c'->VRel W S φ hF.length c x->VRel W (λb=>S b\/fG φ hF b) φ n c' x/\(c.isCell=true->c'.isCell=true)
 |_,_,.nil,j,c,c',x,h1,_,_=>by simp at h1
 |_,_,.one hv r,j,c,c',x,h1,h2,hx=>by
  cases j with
  |zero=>simp at h1 h2;subst h1;subst h2;exact⟨.p _ _ (hv.prel H hx),λ_=>rfl⟩
  |succ j=>exact r.rel H j c c' x (by simpa using h1) (by simpa using h2) hx
 |_,_,.agg (cs:=cs0) hv r,j,c,c',x,h1,h2,hx=>by
  cases j with
  |zero=>
   simp at h1 h2;subst h1;subst h2
   cases hx with
   |agg cs vs hs hc=>
    refine⟨.agg _ vs (hs.trans hv.len) λi u y e1 e2=>?_,λh=>by cases h⟩
    obtain⟨u0,e0⟩:∃u0,cs0[i]?=some u0:=⟨_,List.getElem?_eq_getElem (by rw[hv.len];exact(List.getElem?_eq_some_iff.1 e1).1)⟩
    exact(hv.rel H i u0 u y e0 e1 (hc i u0 y e0 e2)).1
  |succ j=>exact r.rel H j c c' x (by simpa using h1) (by simpa using h2) hx
 |_,_,.tup (cs:=cs0) hv r,j,c,c',x,h1,h2,hx=>by
  cases j with
  |zero=>
   simp at h1 h2;subst h1;subst h2
   cases hx with
   |tup cs vs hs hc=>
    refine⟨.tup _ vs (hs.trans hv.len) λi u y e1 e2=>?_,λh=>by cases h⟩
    obtain⟨u0,e0⟩:∃u0,cs0[i]?=some u0:=⟨_,List.getElem?_eq_getElem (by rw[hv.len];exact(List.getElem?_eq_some_iff.1 e1).1)⟩
    exact(hv.rel H i u0 u y e0 e1 (hc i u0 y e0 e2)).1
  |succ j=>exact r.rel H j c c' x (by simpa using h1) (by simpa using h2) hx
 |_,_,.keep hb r,j,c,c',x,h1,h2,hx=>by
  cases j with
  |zero=>simp at h1 h2;subst h1;subst h2;exact⟨Bf (λb hb=> .inl hb) hb hx,id⟩
  |succ j=>exact r.rel H j c c' x (by simpa using h1) (by simpa using h2) hx
 |_,_,.ptr (id:=pid) (esz:=esz) (i:=i) (off:=off) (es:=es) (e:=e) he hi r,j,c,c',x,h1,h2,hx=>by
  cases j with
  |zero=>
   simp at h1 h2;subst h1;subst h2
   refine⟨?_,λ_=>rfl⟩
   cases hx with
   |ptr _ _ _ _ hid=>
    obtain⟨ct,t,fr,a1,a2,a3,a4,a5⟩:=H.obj pid esz es he
    have hv:=VRel.eptr (W:=W) (S:=λb=>S b\/fG φ hF b) (φ:=φ) (n:=n) e off (φ pid).1 ((φ pid).2+i*esz) (.inr ⟨pid,bD he,rfl⟩) (λj q hq=>by
     have hle:(e.map AV.p).length=esz:=a3 _ (List.mem_of_getElem? hi)
     have hj:j<esz:=by
      have:=(List.getElem?_eq_some_iff.1 hq).1
      rw[List.length_map] at hle
      omega
     have hfl:es.flatten[i*esz+j]?=some (.p q):=by
      rw[bp a3 _ _ hj,hi];simp[hq]
     obtain⟨_,v,hv1,hv2⟩:=a5 _ _ hfl
     refine⟨v,?_,?_⟩
     ·simp only[World.cell?,a1]
      rw[Nat.add_assoc]
      simp[hv1]
     ·cases hv2 with
      |p _ _ hp=>exact hp.mono λb hb=>⟨.inl hb,rfl⟩)
    rw[Nat.add_assoc] at hv
    exact hv
  |succ j=>exact r.rel H j c c' x (by simpa using h1) (by simpa using h2) hx
inductive FzO (hF:List AO) (n:Nat):List AO->List AO->Prop where
 |nil (r:List AO):FzO hF n r []
 |same {o:AO} {r r1:List AO}:okO n o->FzO hF n r r1->FzO hF n (o::r) (o::r1)
 |one {sz:Nat} {e e1:List AV} {r r1:List AO}:Fzs hF n e e1->FzO hF n r r1->FzO hF n (.row sz [e]::r) (.row sz [e1]::r1)
 |rows {sz:Nat} {es es1:List (List AV)} {r r1:List AO}:es.length=es1.length->(∀(j:Nat) (e e1:List AV),es[j]?=some e->es1[j]?=some e1->Fzs hF n e e1)->FzO hF n r r1->FzO hF n (.row sz es::r) (.row sz es1::r1)
 |dead {o:AO} {r r1:List AO}:FzO hF n r r1->FzO hF n (o::r) (.dead::r1)
def FzI(hF:List AO)(n:Nat)(h:List AO)(i:Nat):AO->Prop
 | .row sz es1=>∃es,h[i]?=some (.row sz es)/\es.length=es1.length/\∀(j:Nat) (e e1:List AV),es[j]?=some e->es1[j]?=some e1->Fzs hF n e e1
 | .mp es=>h[i]?=some (.mp es)/\∀e∈es,below n e.2
 | .sit s p=>h[i]?=some (.sit s p)
 | .dead=>True
theorem yH{hF:List AO}{n:Nat}:∀{l:List AV},aa n l->Fzs hF n l l
 |[],_=> .nil
 |_::_,h=> .keep h.1 (yH h.2)
theorem FzO.get{hF:List AO}{n:Nat}:∀{h h1:List AO},FzO hF n h h1->∀(i:Nat) (o:AO),h1[i]?=some o->FzI hF n h i o
 |_,_,.nil _,i,o,e=>by simp at e
 |_,_,.same (o:=o0) ho r,i,o,e=>by
  cases i with
  |zero=>
   simp at e;subst e
   cases o0 with
   |dead=>trivial
   |row sz es=>exact⟨es,rfl,rfl,λj e e1 h1 h2=>by rw[h1] at h2;cases h2;exact yH (ho e (List.mem_of_getElem? h1))⟩
   |mp es=>exact⟨rfl,ho⟩
   |sit s p=>exact rfl
  |succ i=>
   have:=r.get i o (by simpa using e)
   cases o<;>exact this
 |_,_,.one (e:=e0) (e1:=e01) hv r,i,o,e=>by
  cases i with
  |zero=>
   simp at e;subst e
   refine⟨_,rfl,rfl,λj e e1 h1 h2=>?_⟩
   cases j with
   |zero=>simp at h1 h2;subst h1;subst h2;exact hv
   |succ j=>simp at h1
  |succ i=>
   have:=r.get i o (by simpa using e)
   cases o<;>exact this
 |_,_,.rows hl hv r,i,o,e=>by
  cases i with
  |zero=>simp at e;subst e;exact⟨_,rfl,hl,hv⟩
  |succ i=>
   have:=r.get i o (by simpa using e)
   cases o<;>exact this
 |_,_,.dead r,i,o,e=>by
  cases i with
  |zero=>simp at e;subst e;trivial
  |succ i=>
   have:=r.get i o (by simpa using e)
   cases o<;>exact this
theorem AC.wk{f:FuncId}{args:List AV}{h:List AO}{R R':ARes->List AO->Prop}(H:AC P G f args h R)(hp:∀t v h',R (.pan t v) h'->R' (.pan t v) h')
 (hw:∀v h',R (.ret v) h'->∃v1 h1,Wk h.length [v] h' [v1] h1/\R' (.ret v1) h1):AC P G f args h R':=by
 refine⟨H.1,λW S φ vs hH hA=>(H.2 W S φ vs hH hA).mono λe W' ⟨r,S',φ',h',k1,k2,k3,k4⟩=>?_⟩
 cases r with
 |pan t v=>exact⟨_,S',φ',h',hp t v h' k1,k2,k3,k4⟩
 |ret v=>
  cases k3 with
  |ret _ x hv=>
   obtain⟨v1,h1,w,hr⟩:=hw v h' k1
   have s:St G W S φ h W' S' φ' {tmps:=#[x],defers:=[]} [v] h':=⟨k2,⟨rfl,λi u hi=>by
    cases i with
    |zero=>simp at hi;subst hi;exact hv
    |succ i=>simp at hi⟩,rfl,k4⟩
   obtain⟨S1,φ1,s1⟩:=w G W S φ h W' S' φ' _ rfl s
   exact⟨.ret v1,S1,φ1,h1,hr,s1.hrel,.ret _ _ (s1.trel.get 0 v1 rfl),s1.keep⟩
end Go.Aw
namespace Go.Aw
variable {P:Program} {G:ay}
theorem oq{σ:List Nat}{n:Nat}(hσ:∀i,i<n->σ.getD i 0=i):∀v:AV,below n v->ren σ v=v:=by
 have key:∀(s:Nat),(∀v:AV,SizeOf.sizeOf v<s->below n v->ren σ v=v)/\(∀l:List AV,SizeOf.sizeOf l<s->aa n l->aF σ l=l):=by
  intro s
  induction s with
  |zero=>exact⟨λv h=>by omega,λl h=>by omega⟩
  |succ s ih=>
   refine⟨λv hs hb=>?_,λl hs hb=>?_⟩
   ·cases v<;>simp only[ren,below] at hb⊢ <;>first
     |rfl
     |(rw[ih.2 _ (by simp at hs;omega) hb])
     |(rw[hσ _ hb])
   ·cases l with
    |nil=>rfl
    |cons v r=>
     simp only[aF];rw[ih.1 v (by simp at hs;omega) hb.1,ih.2 r (by simp at hs;omega) hb.2]
 exact λv=>(key _).1 v (Nat.lt_succ_self _)
theorem lC{σ:List Nat}{n:Nat}(hσ:∀i,i<n->σ.getD i 0=i):∀l:List AV,aa n l->aF σ l=l
 |[],_=>rfl
 |v::r,h=>by simp only[aF];rw[oq hσ v h.1,lC hσ r h.2]
theorem DY{σ:List Nat}{n:Nat}(hσ:∀i,i<n->σ.getD i 0=i):∀o:AO,okO n o->mF σ o=o
 | .row sz es,h=>by
   simp only[mF];rw[List.map_congr_left (g:=id) λe he=>lC hσ e (h e he)];simp
 | .mp es,h=>by
   simp only[mF];rw[List.map_congr_left (g:=id) λe he=>by rw[oq hσ e.2 (h e he)];rfl];simp
 | .sit s p,_=>rfl
 | .dead,_=>rfl
theorem AC.known{f:FuncId}{args:List AV}{h:List AO}{R:ARes->List AO->Prop}(H:AC P G f args h R):AC P G f args h λx h'=>R x h'/\HB h'/\(∀v,x= .ret v->below h'.length v)/\h.length<=h'.length:=
 ⟨H.1,λW S φ vs a b=>(H.2 W S φ vs a b).mono λ_ _ ⟨r,S',φ',h',k1,k2,k3,k4⟩=>⟨r,S',φ',h',⟨k1,k2.hb,λv e=>by
   subst e
   cases k3 with
   |ret _ x hv=>exact hv.isBelow,k4.len⟩,k2,k3,k4⟩⟩
theorem BL:∀(a b rest:List AO) (n:Nat),b.length=a.length->∀pre:List AO,pre.length=n->mrg (pre++a++rest) (List.range' n a.length) b=pre++b++rest
 |[],[],rest,n,_,pre,_=>by simp[mrg]
 |x::a,y::b,rest,n,hl,pre,hp=>by
  simp only[List.length_cons,List.range'_succ,mrg]
  have e:(pre++x::a++rest).set n y=(pre++[y])++a++rest:=by
   subst hp
   rw[List.append_assoc,List.set_append_right _ _ (Nat.le_refl _),Nat.sub_self];simp
  rw[e,BL a b rest (n+1) (by simpa using hl) (pre++[y]) (by simp[hp])]
  simp
 |[],_::_,_,_,hl,_,_=>by simp at hl
 |_::_,[],_,_,hl,_,_=>by simp at hl
theorem Ka{n:Nat}{h0 rest:List AO}(hn:h0.length=n)(ho:∀o∈h0,okO n o):HW (List.range' 0 n) (h0++rest) (List.range' 0 n) h0:=by
 have hσ:∀i,i<n->(List.range' 0 n).getD i 0=i:=λi hi=>by simp[List.getD_eq_getElem?_getD,hi]
 have key:∀(l:List AO) (k:Nat),k+l.length=n->(∀i,l[i]?=h0[k+i]?)->HW (List.range' 0 n) (h0++rest) (List.range' k l.length) l:=by
  intro l
  induction l with
  |nil=>intro _ _ _;exact trivial
  |cons o r ih=>
   intro k hk hg
   have h0k:=hg 0
   simp at h0k hk
   have hm:o∈h0:=List.mem_of_getElem? h0k.symm
   have hget:(h0++rest)[k]?=some o:=by rw[List.getElem?_append_left (by omega)];exact h0k.symm
   refine⟨by simp;omega,?_,ih (k+1) (by omega) λi=>by have:=hg (i+1);simp at this;rw[this];congr 1;omega⟩
   have hoo:=ho o hm
   cases o with
   |dead=>trivial
   |row sz es=>exact⟨λe he=>by simpa using hoo e he,by rw[hget,List.map_congr_left (g:=id) λe he=>lC hσ e (hoo e he)];simp⟩
   |mp es=>exact⟨λe he=>by simpa using hoo e he,by rw[hget,List.map_congr_left (g:=id) λe he=>by rw[oq hσ e.2 (hoo e he)];rfl];simp⟩
   |sit s p=>exact hget
 have:=key h0 0 (by omega) (λi=>by simp)
 rwa[hn] at this
theorem Fc{n:Nat}:∀{args:List AV},aa n args->TW (List.range' 0 n) args args
 |[],_=>trivial
 |v::r,h=>⟨.inr ⟨by simpa using h.1,oq (λi hi=>by simp[List.getD_eq_getElem?_getD,hi]) v h.1⟩,Fc h.2⟩
theorem AC.pre{f:FuncId}{args:List AV}{h0:List AO}{R:ARes->List AO->Prop}(H:AC P G f args h0 R)(rest:List AO)(hb:aa h0.length args)(ho:∀o∈h0,okO h0.length o)
 (hl:∀x h',R x h'->h'.length=h0.length):AC P G f args (h0++rest) λx h'=>∃h1,R x h1/\h'=h1++rest:=by
 refine(H.known.frame (List.range' 0 h0.length) List.nodup_range' (Fc hb) (Ka rfl ho)).mono λx h' ⟨x0,h1,⟨r,hbb,hv,_⟩,_,e1,e2⟩=>?_
 have hl1:=hl _ _ r
 have hσ:∀i,i<h0.length->(List.range' 0 h0.length++List.range' (h0++rest).length (h1.length-h0.length)).getD i 0=i:=λi hi=>by
  rw[List.getD_eq_getElem?_getD,List.getElem?_append_left (by simpa using hi)];simp[hi]
 have hoo:∀o∈h1,okO h0.length o:=λo ho=>by
  obtain⟨i,hi⟩:=List.getElem?_of_mem ho
  cases o with
  |dead=>trivial
  |row sz es=>intro e he;have:=(hbb.1 i sz es hi e he).2.1;rwa[hl1] at this
  |mp es=>intro e he;have:=hbb.2 i es hi e he;rwa[hl1] at this
  |sit s p=>trivial
 have em:h1.map (mF (List.range' 0 h0.length++List.range' (h0++rest).length (h1.length-h0.length)))=h1:=by
  rw[List.map_congr_left (g:=id) λo ho=>DY hσ o (hoo o ho)];simp
 refine⟨h1,?_,?_⟩
 ·subst e1
  cases x0 with
  |pan t v=>exact r
  |ret v=>
   have:=hv v rfl
   rw[hl1] at this
   simp only[Gk]
   rw[oq hσ v this];exact r
 ·rw[e2,List.take_of_length_le (by omega),List.drop_of_length_le (by omega),em,List.map_nil,List.append_nil]
  have:=BL h0 h1 rest 0 hl1 [] rfl
  simpa using this
def Cuts:List AO->List AO->Prop
 |[],[]=>True
 |o::r,o1::r1=>(o1=o\/∃sz es k,o= .row sz es/\o1= .row sz (es.take k))/\Cuts r r1
 |_,_=>False
theorem Cuts.get:∀{h h1:List AO},Cuts h h1->h.length=h1.length/\∀(i:Nat) (o1:AO),h1[i]?=some o1->∃o,h[i]?=some o/\(o1=o\/∃sz es k,o= .row sz es/\o1= .row sz (es.take k))
 |[],[],_=>⟨rfl,λi o e=>by simp at e⟩
 |o::r,o1::r1,hc=>by
  obtain⟨c1,c2⟩:=hc
  obtain⟨g1,g2⟩:=Cuts.get c2
  refine⟨by simp[g1],λi u e=>?_⟩
  cases i with
  |zero=>simp at e;subst e;exact⟨o,rfl,c1⟩
  |succ i=>simp at e;simpa using g2 i u e
 |[],_::_,hc=>hc.elim
 |_::_,[],hc=>hc.elim
end Go.Aw
namespace Go.Aw
section
variable {H:Type} {enc:TypeId × Value->H} {P:Program} {W:World} {sp:Nat->Bool} {held:Bool} {L:List TypeId} {ub:DataW H->Nat}
end
end Go.Aw
namespace Go.Aw
theorem AC.lendR{P:Program}{G:ay}{f:FuncId}{args pargs:List AV}{R:ARes->List AO->Prop}(H:AC P G f pargs [] R){h:List AO}(hv:Views h args pargs)(hp:∀t v h1,¬R (.pan t v) h1)(hc:∀v h1,R (.ret v) h1->clean v=true/\h1.all cleanO=true):
 AC P G f args h λx h'=>∃r h1,R (.ret r) h1/\x= .ret (aU h.length r)/\h'=h++h1.map (aT h.length):=by
 refine⟨H.1,λW S φ vs hH hA=>?_⟩
 have h0:HRel G W (λb=>S b\/fG φ h b) φ []:=⟨λid sz es e=>by simp at e,λid o e _=>by simp at e,λid id' e=>(aG e).elim,λb hb=>⟨by
  rcases hb with hb|⟨id,e,he⟩
  ·exact(hH.sep b hb).1
  ·rw[←he];exact hH.bnd id e.lt,λid e=>(aG e).elim⟩,λid hid=>by simp at hid,λg cs hg=>by
  obtain⟨g1,g2⟩:=hH.glob g cs hg
  exact⟨.inl g1,λj c hj=>by obtain⟨v,k1,k2⟩:=g2 j c hj;exact⟨v,k1,k2.mono λb hb=>⟨.inl hb,rfl⟩⟩⟩⟩
 refine(H.2 W _ φ vs h0 ⟨by rw[hA.1,hv.len],λj c v h1 h2=>?_⟩).mono λe W' ⟨x,S',φ',h',k0,k2,k3,k4⟩=>?_
 ·have hj:j<vs.size:=(Array.getElem?_eq_some_iff.1 h2).1
  have hjl:j<args.length:=by rw[←hA.1];exact hj
  exact hv.rel hH j _ c v (List.getElem?_eq_getElem hjl) h1 (hA.2 j _ v (List.getElem?_eq_getElem hjl) h2)
 obtain⟨r,rfl⟩:∃r,x= .ret r:=by
  cases x with
  |ret v=>exact⟨v,rfl⟩
  |pan t v=>exact(hp _ _ _ k0).elim
 obtain⟨hr,hh⟩:=hc _ _ k0
 have hout:∀b,b<W.heap.size->W'.heap[b]?=W.heap[b]?:=λb hb=>k4.out b hb λid e=>(aG e).elim
 have hlt:∀{id:Nat} {o:AO},h[id]?=some o->id<h.length:=λe=>(List.getElem?_eq_some_iff.1 e).1
 have himg:∀id,Live h' id->W.heap.size<=(φ' id).1:=λid e=>by
  rcases k4.img id e with h2|⟨id2,h2,_⟩
  ·exact h2
  ·exact(aG h2).elim
 have hφ:∀{i},i<h.length->fO h.length φ φ' i=φ i:=λhi=>by simp[fO,hi]
 have hφ':∀i,fO h.length φ φ' (h.length+i)=φ' i:=λi=>cS _ _ _ i
 have hget:∀{i o},(h++h'.map (aT h.length))[i]?=some o->(i<h.length/\h[i]?=some o)\/(∃k o',i=h.length+k/\h'[k]?=some o'/\o=aT h.length o'):=λ{i o} e=>by
  rcases Nat.lt_or_ge i h.length with hi|hi
  ·rw[List.getElem?_append_left hi] at e;exact .inl ⟨hi,e⟩
  ·rw[List.getElem?_append_right hi,List.getElem?_map,Option.map_eq_some_iff] at e
   obtain⟨o,e2,e3⟩:=e
   exact .inr ⟨_,o,by omega,e2,e3.symm⟩
 have hsl:∀{o:AO},(aT h.length o).live->o.live:=λ{o} l=>by cases o<;>exact l
 have K:Keep W S φ h W' S (fO h.length φ φ') (h++h'.map (aT h.length)):=
  {pure:=λb hb=>⟨hb,hout b (hH.sep b hb).1⟩,len:=by simp,same:=λ_ hid=>hφ hid
   blk:=λid hid c t fr e=>⟨c,t,fr,by rw[←hout _ (hH.bnd id hid)];exact e,rfl⟩
   os:=k4.os,tape:=k4.tape,output:=k4.output,size:=k4.size,out:=λb hb _=>hout b hb
   img:=λid ⟨o,e,l⟩=>by
    rcases hget e with⟨hi,e'⟩|⟨k,o',rfl,e',rfl⟩
    ·exact .inr ⟨id,⟨_,e',l⟩,by rw[hφ hi]⟩
    ·rw[hφ'];exact .inl (himg _ ⟨_,e',hsl l⟩)
   newS:=λb hb=> .inl hb}
 have hlen:(h++h'.map (aT h.length)).length=h.length+h'.length:=by simp
 refine⟨.ret (aU h.length r),S,fO h.length φ φ',_,⟨r,h',k0,rfl,rfl⟩,⟨λid sz es e=>?_,λid o1 e lo=>?_,λid id' ⟨o1,e1,l1⟩ ⟨o2,e2,l2⟩ he=>?_,λb hb=>⟨Nat.lt_of_lt_of_le (hH.sep b hb).1 k4.size,λid ⟨o1,e,l1⟩ he=>?_⟩,λid hid=>?_,λg cs hg=>?_⟩,?_,K⟩
 ·rcases hget e with⟨hi,e'⟩|⟨k,o',rfl,e',eo⟩
  ·obtain⟨c,t,fr,a1,a2,a3,a4,a5⟩:=hH.obj id sz es e'
   refine⟨c,t,fr,by rw[hφ hi,hout _ (hH.bnd id hi)];exact a1,a2,a3,by rw[hφ hi];exact a4,λj u hj=>?_⟩
   obtain⟨b1,v,b2,b3⟩:=a5 j u hj
   exact⟨b1,v,by rw[hφ hi];exact b2,b3.kept K.toKept⟩
  ·obtain⟨es',rfl,rfl⟩:∃es',o'= .row sz es'/\es=es'.map (bi h.length):=by cases o'<;>cases eo;exact⟨_,rfl,rfl⟩
   obtain⟨c,t,fr,a1,a2,a3,a4,a5⟩:=k2.obj k sz es' e'
   refine⟨c,t,fr,by rw[hφ'];exact a1,a2,λe he=>?_,by rw[hφ'];simpa using a4,λj u hj=>?_⟩
   ·obtain⟨e0,he0,rfl⟩:=List.mem_map.1 he
    rw[bn];simpa using a3 e0 he0
   ·have hfl:(es'.map (bi h.length)).flatten=es'.flatten.map (aU h.length):=by
     rw[List.map_flatten];congr 1;exact List.map_congr_left λl _=>bn _ l
    rw[hfl,List.getElem?_map,Option.map_eq_some_iff] at hj
    obtain⟨u0,hj,rfl⟩:=hj
    obtain⟨b1,v,b2,b3⟩:=a5 j u0 hj
    have hcl:clean u0=true:=by
     have h3:=List.all_eq_true.1 hh _ (List.mem_of_getElem? e')
     simp only[cleanO] at h3
     obtain⟨l,hl,hu⟩:=List.mem_flatten.1 (List.mem_of_getElem? hj)
     have h4:=List.all_eq_true.1 h3 l hl
     obtain⟨q,hq⟩:=List.getElem?_of_mem hu
     exact fW h4 q u0 hq
    exact⟨by rw[kj];exact b1,v,by rw[hφ'];exact b2,by rw[hlen];exact hE b3 hcl⟩
 ·rcases hget e with⟨hi,e'⟩|⟨k,o',rfl,e',eo⟩
  ·rw[hφ hi,hout _ (hH.bnd id hi)]
   exact(hH.oobj id o1 e' lo).mono λa v r=>r.kept K.toKept
  ·subst eo
   rw[hφ']
   have hq:=k2.oobj k o' e' (hsl lo)
   cases o' with
   |dead=>trivial
   |row sz es=>trivial
   |sit t pos=>exact hq
   |mp es'=>
    obtain⟨ents,clock,a1,a2,a3,a4⟩:=hq
    refine⟨ents,clock,a1,by simpa using a2,λj k a hj=>?_,a4⟩
    rw[List.getElem?_map,Option.map_eq_some_iff] at hj
    obtain⟨⟨k0,a0⟩,hj,hk⟩:=hj
    cases hk
    obtain⟨x,c1,c2,c3⟩:=a3 j _ _ hj
    have hcl:clean a0=true:=by
     have h3:=List.all_eq_true.1 hh _ (List.mem_of_getElem? e')
     simp only[cleanO] at h3
     exact List.all_eq_true.1 h3 _ (List.mem_of_getElem? hj)
    exact⟨x,c1,c2,by rw[hlen];exact hE c3 hcl⟩
 ·rcases hget e1 with⟨hi,e1'⟩|⟨k,_,rfl,e1',rfl⟩<;>rcases hget e2 with⟨hi',e2'⟩|⟨k',_,rfl,e2',rfl⟩
  ·rw[hφ hi,hφ hi'] at he;exact hH.inj _ _ ⟨_,e1',l1⟩ ⟨_,e2',l2⟩ he
  ·rw[hφ hi,hφ'] at he
   have:=himg _ ⟨_,e2',hsl l2⟩
   have:=hH.bnd id hi
   omega
  ·rw[hφ hi',hφ'] at he
   have:=himg _ ⟨_,e1',hsl l1⟩
   have:=hH.bnd id' hi'
   omega
  ·rw[hφ',hφ'] at he;rw[k2.inj _ _ ⟨_,e1',hsl l1⟩ ⟨_,e2',hsl l2⟩ he]
 ·rcases hget e with⟨hi,e'⟩|⟨k,_,rfl,e',rfl⟩
  ·rw[hφ hi] at he;exact(hH.sep b hb).2 _ ⟨_,e',l1⟩ he
  ·rw[hφ'] at he
   have:=himg _ ⟨_,e',hsl l1⟩
   have:=(hH.sep b hb).1
   omega
 ·rcases Nat.lt_or_ge id h.length with hi|hi
  ·rw[hφ hi];exact Nat.lt_of_lt_of_le (hH.bnd id hi) k4.size
  ·have hid':id-h.length<h'.length:=by rw[hlen] at hid;omega
   have:=hφ' (id-h.length)
   rw[show h.length+(id-h.length)=id by omega] at this
   rw[this]
   exact k2.bnd _ hid'
 ·obtain⟨g1,g2⟩:=hH.glob g cs hg
  refine⟨g1,λj c hj=>?_⟩
  obtain⟨v,v1,v2⟩:=g2 j c hj
  exact⟨v,by rw[aS (K.pure g g1).2];exact v1,v2.mono K.pure⟩
 ·cases k3 with
  |ret _ x hv=>rw[hlen];exact .ret _ _ (hE hv hr)
def Bz:PV->Bool
 | .lst _ (_::_)=>false
 | .tbl _ _=>false
 |_=>true
inductive OwnL (s:Bool) (h:List AO):List AV->List PV->List Nat->Prop where
 |nil:OwnL s h [] [] []
 |p (q:PV) {vs:List AV} {qs:List PV} {I:List Nat}:(s=true->Bz q=true)->OwnL s h vs qs I->OwnL s h (.p q::vs) (q::qs) I
 |nils (sz:Nat) {vs:List AV} {qs:List PV} {I:List Nat}:OwnL s h vs qs I->OwnL s h (.nils::vs) (.lst sz []::qs) I
 |sl (id sz n:Nat) (rows:List (List AV)) (es:List (List PV)) {J:List Nat} {vs:List AV} {qs:List PV} {I:List Nat}:h[id]?=some (.row sz rows)->n=es.length->rows.length=es.length->
   (∀e∈rows,e.length=sz)->(∀e∈es,e.length=sz)->OwnL s h rows.flatten es.flatten J->OwnL s h vs qs I->OwnL s h (.sl id sz 0 n::vs) (.lst sz es::qs) (id::(J++I))
section
variable {s:Bool} {h h':List AO} {vs:List AV} {qs:List PV} {I:List Nat}
theorem OwnL.len(H:OwnL s h vs qs I):vs.length=qs.length:=by
 induction H with
 |nil=>rfl
 |p q _ _ ih=>simp[ih]
 |nils sz _ ih=>simp[ih]
 |sl id sz n rows es _ _ _ _ _ _ _ _ ih=>simp[ih]
theorem OwnL.frame(H:OwnL s h vs qs I)(e:∀i∈I,h'[i]?=h[i]?):OwnL s h' vs qs I:=by
 induction H with
 |nil=>exact .nil
 |p q hq _ ih=>exact .p q hq (ih e)
 |nils sz _ ih=>exact .nils sz (ih e)
 |sl id sz n rows es a1 a2 a3 a4 a5 _ _ ih1 ih2=>
  exact .sl id sz n rows es (by rw[e _ (by simp)];exact a1) a2 a3 a4 a5 (ih1 λi hi=>e i (by simp[hi])) (ih2 λi hi=>e i (by simp[hi]))
theorem OwnL.more(H:OwnL s h vs qs I)(os:List AO):OwnL s (h++os) vs qs I:=by
 induction H with
 |nil=>exact .nil
 |p q hq _ ih=>exact .p q hq ih
 |nils sz _ ih=>exact .nils sz ih
 |sl id sz n rows es a1 a2 a3 a4 a5 _ _ ih1 ih2=>
  exact .sl id sz n rows es (by rw[List.getElem?_append_left (List.getElem?_eq_some_iff.1 a1).1];exact a1) a2 a3 a4 a5 ih1 ih2
theorem OwnL.set_out(H:OwnL s h vs qs I){id:Nat}(hn:id∉I)(o:AO):OwnL s (h.set id o) vs qs I:=
 H.frame λi hi=>List.getElem?_set_ne (by rintro rfl;exact hn hi)
theorem OwnL.ids(H:OwnL s h vs qs I):∀i∈I,∃sz rows,h[i]?=some (.row sz rows):=by
 induction H with
 |nil=>intro i hi;cases hi
 |p q hq _ ih=>exact ih
 |nils sz _ ih=>exact ih
 |sl id sz n rows es a1 a2 a3 a4 a5 _ _ ih1 ih2=>
  intro i hi
  simp only[List.mem_cons,List.mem_append] at hi
  rcases hi with rfl|hi|hi
  ·exact⟨_,_,a1⟩
  ·exact ih1 i hi
  ·exact ih2 i hi
theorem OwnL.lt(H:OwnL s h vs qs I){i:Nat}(hi:i∈I):i<h.length:=by
 obtain⟨_,_,e⟩:=H.ids i hi
 exact(List.getElem?_eq_some_iff.1 e).1
theorem OwnL.app{a b:List AV}{c d:List PV}{J:List Nat}(H:OwnL s h a c I)(H2:OwnL s h b d J):OwnL s h (a++b) (c++d) (I++J):=by
 induction H with
 |nil=>exact H2
 |p q hq _ ih=>exact .p q hq ih
 |nils sz _ ih=>exact .nils sz ih
 |sl id sz n rows es a1 a2 a3 a4 a5 a6 _ ih1 ih2=>
  have:=OwnL.sl id sz n rows es a1 a2 a3 a4 a5 a6 ih2
  simpa only[List.cons_append,List.append_assoc] using this
theorem OwnL.split:∀{a b:List AV} {c d:List PV} {I:List Nat},OwnL s h (a++b) (c++d) I->a.length=c.length->∃I1 I2,I=I1++I2/\OwnL s h a c I1/\OwnL s h b d I2
 |[],b,[],d,I,H,_=>⟨[],I,rfl,.nil,H⟩
 |v::a,b,q::c,d,I,H,hl=>by
  simp only[List.cons_append] at H
  have hl':a.length=c.length:=by simpa using hl
  cases H with
  |p _ hq H=>
   obtain⟨I1,I2,e,h1,h2⟩:=OwnL.split H hl'
   exact⟨I1,I2,e,.p _ hq h1,h2⟩
  |nils sz H=>
   obtain⟨I1,I2,e,h1,h2⟩:=OwnL.split H hl'
   exact⟨I1,I2,e,.nils _ h1,h2⟩
  |sl id sz n rows es a1 a2 a3 a4 a5 a6 H=>
   obtain⟨I1,I2,e,h1,h2⟩:=OwnL.split H hl'
   subst e
   exact⟨_::(_++I1),I2,by simp,.sl id sz n rows es a1 a2 a3 a4 a5 a6 h1,h2⟩
 |[],_,_::_,_,_,_,hl=>by simp at hl
 |_::_,_,[],_,_,_,hl=>by simp at hl
theorem OwnL.one{v:AV}{q:PV}{vs:List AV}{qs:List PV}(H:OwnL s h (v::vs) (q::qs) I):∃I1 I2,I=I1++I2/\OwnL s h [v] [q] I1/\OwnL s h vs qs I2:=
 OwnL.split (a:=[v]) (c:=[q]) H rfl
theorem ue{α:Type}{sz:Nat}:∀{l:List (List α)},(∀e∈l,e.length=sz)->l.flatten.length=l.length*sz
 |[],_=>by simp
 |e::r,hl=>by
  rw[List.flatten_cons,List.length_append,ue (λx hx=>hl x (List.mem_cons_of_mem _ hx)),hl e (List.mem_cons_self ..),List.length_cons,Nat.succ_mul];omega
theorem oz{α:Type}{l:List α}{i:Nat}{x:α}(e:l[i]?=some x):l=l.take i++x::l.drop (i+1):=by
 obtain⟨hi,e⟩:=List.getElem?_eq_some_iff.1 e
 rw[←e,←List.drop_eq_getElem_cons hi,List.take_append_drop]
theorem mS{α:Type}{l:List α}{i:Nat}(x:α)(hi:i<l.length):l.set i x=l.take i++x::l.drop (i+1):=by
 rw[List.set_eq_take_append_cons_drop,if_pos hi]
theorem OwnL.put{sz:Nat}{rows:List (List AV)}{es:List (List PV)}{J:List Nat}(H:OwnL s h rows.flatten es.flatten J)(hl:rows.length=es.length)(hr:∀e∈rows,e.length=sz)(he:∀e∈es,e.length=sz){i:Nat}{e:List PV}(hi:es[i]?=some e):
 ∃r J1 Ji J2,rows[i]?=some r/\J=J1++(Ji++J2)/\OwnL s h r e Ji/\∀(h':List AO) (r':List AV) (e':List PV) (Ji':List Nat),(∀j∈J1++J2,h'[j]?=h[j]?)->OwnL s h' r' e' Ji'->OwnL s h' (rows.set i r').flatten (es.set i e').flatten (J1++(Ji'++J2)):=by
 have hil:i<es.length:=(List.getElem?_eq_some_iff.1 hi).1
 have hir:i<rows.length:=by omega
 have e1:=List.getElem?_eq_getElem hir
 have d1:=oz e1
 have d2:=oz hi
 generalize rows[i]=r at e1 d1
 have t1:(rows.take i).flatten.length=(es.take i).flatten.length:=by
  rw[ue (λx hx=>hr x (List.mem_of_mem_take hx)),ue (λx hx=>he x (List.mem_of_mem_take hx)),List.length_take,List.length_take,hl]
 have t2:r.length=e.length:=by rw[hr r (List.mem_of_getElem? e1),he e (List.mem_of_getElem? hi)]
 have H0:=H
 rw[d1,d2,List.flatten_append,List.flatten_append,List.flatten_cons,List.flatten_cons] at H0
 obtain⟨J1,J3,rfl,k1,k2⟩:=OwnL.split H0 t1
 obtain⟨Ji,J2,rfl,k3,k4⟩:=OwnL.split k2 t2
 refine⟨r,J1,Ji,J2,e1,rfl,k3,λh' r' e' Ji' hf ho=>?_⟩
 rw[mS _ hir,mS _ hil,List.flatten_append,List.flatten_append,List.flatten_cons,List.flatten_cons]
 exact(k1.frame λj hj=>hf j (by simp[hj])).app (ho.app (k4.frame λj hj=>hf j (by simp[hj])))
theorem OwnL.view(H:OwnL s h vs qs I):∀(j:Nat) (v:AV) (q:PV),vs[j]?=some v->qs[j]?=some q->View h v q:=by
 induction H with
 |nil=>intro j v q e;simp at e
 |p q hq _ ih=>
  intro j v q' e1 e2
  cases j with
  |zero=>cases e1;cases e2;exact .p _
  |succ j=>exact ih j v q' (by simpa using e1) (by simpa using e2)
 |nils sz _ ih=>
  intro j v q' e1 e2
  cases j with
  |zero=>cases e1;cases e2;exact .nils _
  |succ j=>exact ih j v q' (by simpa using e1) (by simpa using e2)
 |sl id sz n rows es a1 a2 a3 a4 a5 _ _ ih1 ih2=>
  intro j v q' e1 e2
  cases j with
  |succ j=>exact ih2 j v q' (by simpa using e1) (by simpa using e2)
  |zero=>
   cases e1;cases e2;subst a2
   refine .sl id sz 0 rows es a1 (by omega) a5 λi j e q e' a b1 b2 b3 b4=>?_
   rw[Nat.zero_add] at b3
   have hj:j<sz:=by
    have:=(List.getElem?_eq_some_iff.1 b2).1
    rw[a5 e (List.mem_of_getElem? b1)] at this;exact this
   exact ih1 (i*sz+j) a q (by rw[bp a4 i j hj,b3];exact b4) (by rw[bp a5 i j hj,b1];exact b2)
theorem OwnL.views(H:OwnL s h vs qs I):Views h vs (qs.map .p):=by
 have hv:=H.view
 have hl:=H.len
 clear H
 induction vs generalizing qs with
 |nil=>
  cases qs with
  |nil=>exact .nil
  |cons q qs=>simp at hl
 |cons v vs ih=>
  cases qs with
  |nil=>simp at hl
  |cons q qs=>exact .one (hv 0 v q rfl rfl) (ih (λj v q e1 e2=>hv (j+1) v q (by simpa using e1) (by simpa using e2)) (by simpa using hl))
theorem OwnL.blw(H:OwnL s h vs qs I):aa h.length vs:=by
 induction H with
 |nil=>exact True.intro
 |p q hq _ ih=>exact⟨True.intro,ih⟩
 |nils sz _ ih=>exact⟨True.intro,ih⟩
 |sl id sz n rows es a1 _ _ _ _ _ _ _ ih2=>exact⟨(List.getElem?_eq_some_iff.1 a1).1,ih2⟩
theorem OwnL.ren{σ:List Nat}(H:OwnL s h vs qs I)(hσ:∀i∈I,∀sz rows,h[i]?=some (.row sz rows)->h'[σ.getD i 0]?=some (.row sz (rows.map (aF σ)))):OwnL s h' (aF σ vs) qs (I.map λi=>σ.getD i 0):=by
 induction H with
 |nil=>exact .nil
 |p q hq _ ih=>exact .p q hq (ih hσ)
 |nils sz _ ih=>exact .nils sz (ih hσ)
 |sl id sz n rows es a1 a2 a3 a4 a5 _ _ ih1 ih2=>
  have k1:=ih1 λi hi=>hσ i (by simp[hi])
  rw[←fk] at k1
  have:=OwnL.sl (s:=s) (σ.getD id 0) sz n (rows.map (aF σ)) es (hσ id (by simp) _ _ a1) a2 (by simpa using a3) (λe he=>by obtain⟨e0,he0,rfl⟩:=List.mem_map.1 he;rw[bM];exact a4 e0 he0) a5 k1 (ih2 λi hi=>hσ i (by simp[hi]))
  simpa[aF,Go.Aw.ren] using this
theorem td(n:Nat)(es:List (List AV)):(es.map (bi n)).flatten=bi n es.flatten:=by
 rw[bn,List.map_flatten];congr 1;exact List.map_congr_left λl _=>bn n l
theorem OwnL.shift(H:OwnL s h vs qs I)(pre:List AO):OwnL s (pre++h.map (aT pre.length)) (bi pre.length vs) qs (I.map λi=>pre.length+i):=by
 induction H with
 |nil=>exact .nil
 |p q hq _ ih=>exact .p q hq ih
 |nils sz _ ih=>exact .nils sz ih
 |sl id sz n rows es a1 a2 a3 a4 a5 _ _ ih1 ih2=>
  rw[←td] at ih1
  have:=OwnL.sl (s:=s) (h:=pre++h.map (aT pre.length)) (pre.length+id) sz n (rows.map (bi pre.length)) es (by rw[List.getElem?_append_right (by omega),Nat.add_sub_cancel_left,List.getElem?_map,a1];rfl) a2 (by simpa using a3) (λe he=>by obtain⟨e0,he0,rfl⟩:=List.mem_map.1 he;rw[bn,List.length_map];exact a4 e0 he0) a5 ih1 ih2
  simpa[bi,aU] using this
theorem OwnL.clean(H:OwnL true h vs qs I):cY vs=true:=by
 induction H with
 |nil=>rfl
 |p q hq _ ih=>
  have:=hq rfl
  simp only[cY,Bool.and_eq_true]
  refine⟨?_,ih⟩
  match q,this with
  | .bool _,_=>rfl
  | .int _ _,_=>rfl
  | .str _,_=>rfl
  | .lst _ [],_=>rfl
 |nils sz _ ih=>simpa[cY,Go.Aw.clean] using ih
 |sl id sz n rows es a1 _ _ _ _ _ _ _ ih2=>simpa[cY,Go.Aw.clean] using ih2
theorem tW:∀{l:List AV},(∀v∈l,Go.Aw.clean v=true)->cY l=true
 |[],_=>rfl
 |v::r,hl=>by simp only[cY,Bool.and_eq_true];exact⟨hl v (by simp),tW λx hx=>hl x (by simp[hx])⟩
theorem OwnL.cleanO(H:OwnL true h vs qs I):∀i∈I,∀o,h[i]?=some o->Go.Aw.cleanO o=true:=by
 induction H with
 |nil=>intro i hi;cases hi
 |p q hq _ ih=>exact ih
 |nils sz _ ih=>exact ih
 |sl id sz n rows es a1 a2 a3 a4 a5 k _ ih1 ih2=>
  intro i hi o ho
  simp only[List.mem_cons,List.mem_append] at hi
  rcases hi with rfl|hi|hi
  ·rw[a1] at ho;cases ho
   have kc:=k.clean
   simp only[Go.Aw.cleanO,List.all_eq_true]
   intro e he
   refine tW λv hv=>?_
   obtain⟨j,hj⟩:=List.getElem?_of_mem (List.mem_flatten.2 ⟨e,he,hv⟩)
   exact fW kc j v hj
  ·exact ih1 i hi o ho
  ·exact ih2 i hi o ho
end
def MkW(w:List AV->AV)(s:Bool)(qs:List PV)(x:ARes)(h:List AO):Prop:=∃vs I,x= .ret (w vs)/\OwnL s h vs qs I/\I.Nodup
structure Shp (w:List AV->AV):Prop where
 ren:∀σ vs,Go.Aw.ren σ (w vs)=w (aF σ vs)
 shift:∀n vs,aU n (w vs)=w (bi n vs)
 clean:∀vs,cY vs=true->Go.Aw.clean (w vs)=true
 below:∀n vs,aa n vs->Go.Aw.below n (w vs)
 views:∀h vs (qs:List PV),Views h vs (qs.map .p)->Views h [w vs] [w (qs.map .p)]
def kY(vs:List AV):AV:=vs.headD .any
theorem FQ:Shp .agg:=⟨λ_ _=>rfl,λ_ _=>rfl,λ_ h=>h,λ_ _ h=>h,λ_ _ _ h=> .agg h .nil⟩
theorem shp_one:Shp kY:=by
 refine⟨λσ vs=>?_,λσ vs=>?_,λvs h=>?_,λn vs h=>?_,λh vs qs hv=>?_⟩
 ·cases vs<;>rfl
 ·cases vs<;>rfl
 ·cases vs with
  |nil=>rfl
  |cons v r=>simp only[cY,Bool.and_eq_true] at h;exact h.1
 ·cases vs with
  |nil=>exact True.intro
  |cons v r=>exact h.1
 ·cases qs with
  |nil=>
   cases hv
   exact .keep True.intro .nil
  |cons q qs=>
   cases hv with
   |one h1 _=>exact .one h1 .nil
   |keep h1 _=>exact .keep h1 .nil
section
variable {P:Program} {G:ay} {f:FuncId} {w:List AV->AV} {s:Bool} {qs:List PV}
def Mk(w:List AV->AV)(s:Bool)(qs:List PV)(h:List AO)(x:ARes)(h':List AO):Prop:=
 ∃vs I os,x= .ret (w vs)/\h'=h++os/\OwnL s h' vs qs I/\I.Nodup/\∀i∈I,h.length<=i
theorem pw{g:Nat->Nat}(hg:∀i j,g i=g j->i=j):∀{l:List Nat},l.Nodup->(l.map g).Nodup
 |[],_=>by simp
 |a::r,hn=>by
  rw[List.nodup_cons] at hn
  rw[List.map_cons,List.nodup_cons]
  exact⟨λhm=>by obtain⟨b,hb,e⟩:=List.mem_map.1 hm;rw[hg _ _ e] at hb;exact hn.1 hb,pw hg hn.2⟩
theorem AC.mkKill{args:List AV}(hw:Shp w)(H:AC P G f args [] (MkW w s qs)):AC P G f args [] λx h=>∃vs I,x= .ret (w vs)/\OwnL s h vs qs I/\I.Nodup/\∀(i:Nat) o,h[i]?=some o->o= .dead\/i∈I:=by
 refine H.known.gc (λt v h ⟨⟨_,_,e,_⟩,_⟩=>by cases e) λv h ⟨⟨vs,I,e,ho,nd⟩,hb,hbl,_⟩=>?_
 cases e
 have hid:∀i,i<h.length->(List.range h.length).getD i 0=i:=λi hi=>by
  rw[List.getD_eq_getElem?_getD];simp[hi]
 let g:Nat->AO:=λi=>if i∈I then(h[i]?).getD .dead else .dead
 have hg:∀i,i<h.length->((List.range h.length).map g)[i]?=some (g i):=λi hi=>by simp[hi]
 refine⟨w vs,(List.range h.length).map g,⟨List.range h.length,by simp,λi hi=>by simp at hi,List.nodup_range,?_,?_,?_⟩,vs,I,rfl,ho.frame λi hi=>?_,nd,λi o hi=>?_⟩
 ·rw[List.length_range];exact hw.below _ _ ho.blw
 ·rw[hw.ren,lC hid _ ho.blw]
 ·have:∀(n k:Nat),k+n=h.length->HW (List.range h.length) h (List.range' k n) ((List.range' k n).map g):=by
   intro n
   induction n with
   |zero=>intro k _;exact True.intro
   |succ n ih=>
    intro k hk
    rw[List.range'_succ,List.map_cons]
    have ih:=ih (k+1) (by omega)
    by_cases hm:k∈I
    ·obtain⟨sz,rows,e⟩:=ho.ids k hm
     have eg:g k= .row sz rows:=by simp only[g,if_pos hm,e,Option.getD_some]
     rw[eg]
     have hb1:=hb.1 k sz rows e
     refine aC (λx hx=>by rw[List.length_range];exact(hb1 x hx).2.1) ?_ ih
     rw[e,List.map_congr_left (g:=id) λx hx=>lC hid x (hb1 x hx).2.1];simp
    ·have eg:g k= .dead:=by simp only[g,if_neg hm]
     rw[eg]
     exact bW (by omega) ih
  have:=this h.length 0 (by omega)
  rwa[←List.range_eq_range'] at this
 ·have hl:=ho.lt hi
  rw[hg i hl]
  obtain⟨sz,rows,e⟩:=ho.ids i hi
  simp only[g,if_pos hi,e,Option.getD_some]
 ·have hl:i<h.length:=by simpa using(List.getElem?_eq_some_iff.1 hi).1
  rw[hg i hl] at hi
  cases hi
  by_cases hm:i∈I
  ·exact .inr hm
  ·exact .inl (if_neg hm)
theorem AC.mkLend{args pargs:List AV}(hw:Shp w)(H:AC P G f pargs [] (MkW w true qs)){h:List AO}(hv:Views h args pargs):AC P G f args h (Mk w true qs h):=by
 refine((AC.mkKill hw H).lendR hv (λt v h1 ⟨_,_,e,_⟩=>by cases e) λv h1 ⟨vs,I,e,ho,nd,hd⟩=>?_).mono ?_
 ·cases e
  refine⟨hw.clean _ ho.clean,List.all_eq_true.2 λo hm=>?_⟩
  obtain⟨i,hi⟩:=List.getElem?_of_mem hm
  rcases hd i o hi with rfl|hI
  ·rfl
  ·exact ho.cleanO i hI o hi
 ·rintro x h' ⟨r,h1,⟨vs,I,e,ho,nd,hd⟩,rfl,rfl⟩
  cases e
  refine⟨bi h.length vs,I.map λi=>h.length+i,_,by rw[hw.shift],rfl,ho.shift h,pw (λi j e=>by omega) nd,λi hi=>?_⟩
  obtain⟨j,_,rfl⟩:=List.mem_map.1 hi
  omega
theorem AC.mkLift{args:List AV}(hw:Shp w)(H:AC P G f args [] (MkW w s qs)){h:List AO}(hv:aa 0 args):AC P G f args h (Mk w s qs h):=by
 have hT:TW [] args args:=by
  have:=Fc (n:=0) (args:=args) hv
  simpa using this
 refine(H.frame (h:=h) [] List.nodup_nil hT True.intro).mono ?_
 rintro x h' ⟨x0,h0,⟨vs,I,rfl,ho,nd⟩,hl,rfl,rfl⟩
 have hσ:∀i,i<h0.length->([]++List.range' h.length (h0.length-([]:List AO).length)).getD i 0=h.length+i:=λi hi=>by
  rw[List.nil_append,List.getD_eq_getElem?_getD];simp[hi]
 generalize hs:([]:List Nat)++List.range' h.length (h0.length-([]:List AO).length)=σ at*
 have ho2:=ho.ren (h':=h++h0.map (mF σ)) (σ:=σ) λi hi sz rows e=>by
  rw[hσ i (ho.lt hi),List.getElem?_append_right (by omega),Nat.add_sub_cancel_left,List.getElem?_map,e];rfl
 refine⟨aF σ vs,I.map λi=>σ.getD i 0,h0.map (mF σ),by simp only[Gk];rw[hw.ren],by simp[mrg],by simpa[mrg] using ho2,?_,λi hi=>?_⟩
 ·rw[List.map_congr_left (g:=λi=>h.length+i) λi hi=>hσ i (ho.lt hi)]
  exact pw (λi j e=>by omega) nd
 ·obtain⟨j,hj,rfl⟩:=List.mem_map.1 hi
  rw[hσ j (ho.lt hj)];omega
theorem AC.mkFreeze{args:List AV}(hw:Shp w)(H:AC P G f args [] (MkW w s qs)):VF P G f args (w (qs.map .p)):=
 H.freezeR (λt v h ⟨_,_,e,_⟩=>by cases e) λv h ⟨vs,I,e,ho,_⟩=>by cases e;exact hw.views _ _ _ ho.views
end
structure RowOwn (s:Bool) (h:List AO) (id sz:Nat) (rows:List (List AV)) (D:List (List PV)) (J:List Nat):Prop where
 here:h[id]?=some (.row sz rows)
 len:rows.length=D.length
 rl:∀e∈rows,e.length=sz
 dl:∀e∈D,e.length=sz
 own:OwnL s h rows.flatten D.flatten J
 nd:(id::J).Nodup
section
variable {s:Bool} {h:List AO} {id sz:Nat} {rows:List (List AV)} {D:List (List PV)} {J:List Nat}
theorem RowOwn.lt(H:RowOwn s h id sz rows D J):id<h.length:=(List.getElem?_eq_some_iff.1 H.here).1
theorem RowOwn.tree(H:RowOwn s h id sz rows D J){n:Nat}(hn:n=D.length):OwnL s h [.sl id sz 0 n] [.lst sz D] (id::J):=by
 have:=OwnL.sl id sz n rows D H.here hn H.len H.rl H.dl H.own .nil
 rwa[List.append_nil] at this
theorem OwnL.inv{v:AV}{I:List Nat}(H:OwnL s h [v] [.lst sz D] I)(nd:I.Nodup):(D=[]/\I=[]/\(v= .nils\/v= .p (.lst sz [])))\/(s=false/\v= .p (.lst sz D)/\I=[])\/∃id rows J,v= .sl id sz 0 D.length/\I=id::J/\RowOwn s h id sz rows D J:=by
 cases H with
 |p _ hq H=>
  cases H
  cases s with
  |false=>exact .inr (.inl ⟨rfl,rfl,rfl⟩)
  |true=>
   cases D with
   |nil=>exact .inl ⟨rfl,rfl,.inr rfl⟩
   |cons=>simp[Bz] at hq
 |nils _ H=>cases H;exact .inl ⟨rfl,rfl,.inl rfl⟩
 |sl id sz n rows es a1 a2 a3 a4 a5 a6 H=>
  cases H
  subst a2
  rw[List.append_nil] at nd⊢
  exact .inr (.inr ⟨id,rows,_,rfl,rfl,a1,a3,a4,a5,a6,nd⟩)
theorem RowOwn.fill(H:RowOwn s h id sz rows D J){i:Nat}(hi:i<D.length){h2 os:List AO}(e2:h2=h++os){r':List AV}{e':List PV}{I2:List Nat}(ho:OwnL s h2 r' e' I2)(nd2:I2.Nodup)(hf:∀j∈I2,h.length<=j)(he:e'.length=sz):
 ∃J',RowOwn s (h2.set id (.row sz (rows.set i r'))) id sz (rows.set i r') (D.set i e') J':=by
 subst e2
 obtain⟨r,J1,Ji,J2,g1,rfl,g3,g4⟩:=H.own.put H.len H.rl H.dl (List.getElem?_eq_getElem hi)
 have hid:=H.lt
 have hn:=H.nd
 have hlt:∀j∈J1++(Ji++J2),j<h.length:=λj hj=>H.own.lt hj
 simp only[List.nodup_cons,List.nodup_append,List.mem_append,not_or] at hn hlt
 obtain⟨⟨n1,n2,n3⟩,m1,⟨m2,m3,m4⟩,m5⟩:=hn
 have hid2:id∉I2:=λhm=>by have:=hf _ hm;omega
 refine⟨J1++(I2++J2),by rw[List.getElem?_set_self (by simp;omega)],by simp[H.len],λe he'=>?_,λe he'=>?_,g4 _ r' e' I2 (λj hj=>?_) (ho.set_out hid2 _),?_⟩
 ·rcases List.mem_or_eq_of_mem_set he' with h1|rfl
  ·exact H.rl e h1
  ·rw[ho.len,he]
 ·rcases List.mem_or_eq_of_mem_set he' with h1|rfl
  ·exact H.dl e h1
  ·exact he
 ·have hj2:j≠id:=λe=>by
   subst e
   rcases List.mem_append.1 hj with hj|hj
   ·exact n1 hj
   ·exact n3 hj
  have hjl:j<h.length:=by
   rcases List.mem_append.1 hj with hj|hj
   ·exact hlt j (.inl hj)
   ·exact hlt j (.inr (.inr hj))
  rw[List.getElem?_set_ne (Ne.symm hj2),List.getElem?_append_left hjl]
 ·simp only[List.nodup_cons,List.nodup_append,List.mem_append,not_or]
  refine⟨⟨n1,hid2,n3⟩,m1,⟨nd2,m3,λa ha b hb e=>?_⟩,λa ha b hb e=>?_⟩
  ·have:=hf a ha;have:=hlt b (.inr (.inr hb));omega
  ·rcases hb with hb|hb
   ·have:=hf b hb;have:=hlt a (.inl ha);omega
   ·exact m5 a ha b (.inr hb) e
theorem RowOwn.change(H:RowOwn s h id sz rows D J){i:Nat}{e:List PV}(hi:D[i]?=some e):
 ∃r Ji,rows[i]?=some r/\OwnL s h r e Ji/\(id::Ji).Nodup/\(∀j∈Ji,j∈J)/\∀(h2:List AO) (r':List AV) (e':List PV),h2[id]?=some (.row sz (rows.set i r'))->(∀j,j<h.length->j≠id->j∉Ji->h2[j]?=h[j]?)->OwnL s h2 r' e' Ji->e'.length=sz->
  RowOwn s h2 id sz (rows.set i r') (D.set i e') J:=by
 obtain⟨r,J1,Ji,J2,g1,rfl,g3,g4⟩:=H.own.put H.len H.rl H.dl hi
 have hn:=H.nd
 have hlt:∀j∈J1++(Ji++J2),j<h.length:=λj hj=>H.own.lt hj
 simp only[List.nodup_cons,List.nodup_append,List.mem_append,not_or] at hn hlt
 obtain⟨⟨n1,n2,n3⟩,m1,⟨m2,m3,m4⟩,m5⟩:=hn
 refine⟨r,Ji,g1,g3,by simp[n2,m2],λj hj=>by simp[hj],λh2 r' e' k1 k2 k3 k4=>⟨k1,by simp[H.len],λx hx=>?_,λx hx=>?_,g4 h2 r' e' Ji (λj hj=>?_) k3,H.nd⟩⟩
 ·rcases List.mem_or_eq_of_mem_set hx with h1|rfl
  ·exact H.rl x h1
  ·rw[k3.len,k4]
 ·rcases List.mem_or_eq_of_mem_set hx with h1|rfl
  ·exact H.dl x h1
  ·exact k4
 ·rcases List.mem_append.1 hj with hj|hj
  ·exact k2 j (hlt j (.inl hj)) (λe=>n1 (e▸hj)) λhm=>m5 j hj j (.inl hm) rfl
  ·exact k2 j (hlt j (.inr (.inr hj))) (λe=>n3 (e▸hj)) λhm=>m4 j hm j hj rfl
theorem RowOwn.push(H:RowOwn s h id sz rows D J){h2 os:List AO}(e2:h2=h++os){r':List AV}{e':List PV}{I2:List Nat}(ho:OwnL s h2 r' e' I2)(nd2:I2.Nodup)(hf:∀j∈I2,h.length<=j)(he:e'.length=sz):
 RowOwn s (h2.set id .dead++[.row sz (rows++[r'])]) h2.length sz (rows++[r']) (D++[e']) (J++I2):=by
 subst e2
 have hid:=H.lt
 have hn:=H.nd
 rw[List.nodup_cons] at hn
 have hid2:id∉I2:=λhm=>by have:=hf _ hm;omega
 have hlt:∀j∈J,j<h.length:=λj hj=>H.own.lt hj
 have hlt2:∀j∈I2,j<(h++os).length:=λj hj=>ho.lt hj
 refine⟨by rw[List.getElem?_append_right (by simp)];simp,by simp[H.len],λe he'=>?_,λe he'=>?_,?_,?_⟩
 ·rcases List.mem_append.1 he' with h1|h1
  ·exact H.rl e h1
  ·rw[List.mem_singleton.1 h1,ho.len,he]
 ·rcases List.mem_append.1 he' with h1|h1
  ·exact H.dl e h1
  ·rw[List.mem_singleton.1 h1,he]
 ·rw[List.flatten_append,List.flatten_append,List.flatten_singleton,List.flatten_singleton]
  exact(((H.own.more os).set_out hn.1 _).more _).app ((ho.set_out hid2 _).more _)
 ·rw[List.nodup_cons,List.nodup_append]
  refine⟨λhm=>?_,hn.2,nd2,λa ha b hb e=>?_⟩
  ·rcases List.mem_append.1 hm with hm|hm
   ·have:=hlt _ hm;simp at this;omega
   ·have:=hlt2 _ hm;omega
  ·have:=hlt a ha;have:=hf b hb;omega
theorem RowOwn.more(H:RowOwn s h id sz rows D J)(os:List AO):RowOwn s (h++os) id sz rows D J:=
 ⟨by rw[List.getElem?_append_left H.lt];exact H.here,H.len,H.rl,H.dl,H.own.more os,H.nd⟩
theorem RowOwn.frame(H:RowOwn s h id sz rows D J){h':List AO}(e:∀i∈id::J,h'[i]?=h[i]?):RowOwn s h' id sz rows D J:=
 ⟨by rw[e id (by simp)];exact H.here,H.len,H.rl,H.dl,H.own.frame λi hi=>e i (by simp[hi]),H.nd⟩
end
theorem HB.row{h:List AO}(hb:HB h){i sz:Nat}{rows:List (List AV)}(e:h[i]?=some (.row sz rows)):∀x∈rows,x.length=sz/\aa h.length x/\x.all AV.isCell=true:=hb.1 i sz rows e
theorem OwnL.cells{s:Bool}{h:List AO}{vs:List AV}{qs:List PV}{I:List Nat}(H:OwnL s h vs qs I):vs.all AV.isCell=true:=by
 induction H with
 |nil=>rfl
 |p q hq _ ih=>simpa[AV.isCell] using ih
 |nils sz _ ih=>simpa[AV.isCell] using ih
 |sl id sz n rows es a1 _ _ _ _ _ _ _ ih2=>simpa[AV.isCell] using ih2
theorem bh{k n:Nat}{l l1:List (Nat × AV)}{h:List AO}(hk:k<=h.length)(H:FgA h.length l l1):Wk k (aB n l) h (aB n l1) h:=by
 intro G W0 S0 φ0 h0 W S φ a ek s
 exact lD hk s.hrel.hb H G W0 S0 φ0 h0 W S φ a ek s
structure FilS where (i:Nat) (h:List AO)
def FilI(s:Bool)(id sz:Nat)(D:List (List PV))(z:List PV)(a:FilS):Prop:=
 a.i<=D.length/\∃rows J,RowOwn s a.h id sz rows (D.take a.i++List.replicate (D.length-a.i) z) J
section
variable {s:Bool} {h:List AO} {id sz i:Nat} {D:List (List PV)} {z:List PV}
theorem vt{zv:List AV}{q:List PV}(hz:OwnL s h zv q []):∀n,OwnL s h (List.replicate n zv).flatten (List.replicate n q).flatten []
 |0=> .nil
 |n+1=>by
  rw[List.replicate_succ,List.replicate_succ,List.flatten_cons,List.flatten_cons]
  exact hz.app (vt hz n)
theorem FilI.init{zv:List AV}{n:Nat}(e:h[id]?=some (.row sz (List.replicate n zv)))(hn:n=D.length)(hz:OwnL s h zv z [])(hl:zv.length=sz):FilI s id sz D z ⟨0,h⟩:=by
 subst hn
 have hzl:z.length=sz:=by rw[←hz.len,hl]
 refine⟨Nat.zero_le _,_,[],e,by simp,λx hx=>by rw[(List.mem_replicate.1 hx).2,hl],λx hx=>?_,?_,by simp⟩
 ·simp only[List.take_zero,List.nil_append,Nat.sub_zero] at hx
  rw[(List.mem_replicate.1 hx).2,hzl]
 ·simpa using vt hz D.length
theorem FilI.step(H:FilI s id sz D z ⟨i,h⟩){e:List PV}(hi:D[i]?=some e){h2 os:List AO}(e2:h2=h++os){r':List AV}{I2:List Nat}(ho:OwnL s h2 r' e I2)(nd2:I2.Nodup)(hf:∀j∈I2,h.length<=j)(he:e.length=sz):
 ∃rows r,h2[id]?=some (.row sz rows)/\rows[i]?=some r/\r.length=sz/\rows.length=D.length/\i<D.length/\FilI s id sz D z ⟨i+1,h2.set id (.row sz (rows.set i r'))⟩:=by
 obtain⟨_,rows,J,hr⟩:=H
 have hil:i<D.length:=(List.getElem?_eq_some_iff.1 hi).1
 have hlen:rows.length=D.length:=by have:=hr.len;simp at this;omega
 obtain⟨J',hr'⟩:=hr.fill (i:=i) (by simp;omega) e2 ho nd2 hf he
 have h2e:h2[id]?=some (.row sz rows):=by rw[e2,List.getElem?_append_left hr.lt];exact hr.here
 have hd:(D.take i++List.replicate (D.length-i) z).set i e=D.take (i+1)++List.replicate (D.length-(i+1)) z:=Fm rfl hil hi
 rw[hd] at hr'
 have hri:=List.getElem?_eq_getElem (l:=rows) (i:=i) (by omega)
 exact⟨rows,_,h2e,hri,hr.rl _ (List.mem_of_getElem? hri),hlen,hil,hil,_,J',hr'⟩
theorem FilI.done(H:FilI s id sz D z ⟨i,h⟩)(hi:D.length<=i):∃rows J,RowOwn s h id sz rows D J:=by
 obtain⟨h1,rows,J,hr⟩:=H
 simp only at h1 hr
 obtain rfl:i=D.length:=by omega
 refine⟨rows,J,?_⟩
 simpa using hr
end
structure PshS where (i id:Nat) (h:List AO)
def PshI(s:Bool)(sz:Nat)(D:List (List PV))(a:PshS):Prop:=a.i<=D.length/\∃rows J,RowOwn s a.h a.id sz rows (D.take a.i) J
section
variable {s:Bool} {h:List AO} {id sz i:Nat} {D:List (List PV)}
theorem PshI.init(e:h[id]?=some (.row sz [])):PshI s sz D ⟨0,id,h⟩:=
 ⟨Nat.zero_le _,[],[],e,rfl,λ_ h=>(by cases h),λ_ h=>(by cases h),.nil,by simp⟩
theorem PshI.row(H:PshI s sz D ⟨i,id,h⟩)(os:List AO):∃rows,(h++os)[id]?=some (.row sz rows)/\rows.length=i/\id<h.length:=by
 obtain⟨h1,rows,J,hr⟩:=H
 have:=hr.len
 simp only at h1 this hr
 rw[List.length_take,Nat.min_eq_left h1] at this
 exact⟨rows,(hr.more os).here,this,hr.lt⟩
theorem PshI.step(H:PshI s sz D ⟨i,id,h⟩){e:List PV}(hi:D[i]?=some e){h2 os:List AO}(e2:h2=h++os){r':List AV}{I2:List Nat}(ho:OwnL s h2 r' e I2)(nd2:I2.Nodup)(hf:∀j∈I2,h.length<=j)(he:e.length=sz):
 ∃rows,h2[id]?=some (.row sz rows)/\rows.length=i/\i<D.length/\id<h2.length/\∀os2,PshI s sz D ⟨i+1,h2.length,h2.set id .dead++ .row sz (rows++[r'])::os2⟩:=by
 obtain⟨h1,rows,J,hr⟩:=H
 have hil:i<D.length:=(List.getElem?_eq_some_iff.1 hi).1
 have hlen:=hr.len
 simp only at h1 hlen hr
 rw[List.length_take,Nat.min_eq_left h1] at hlen
 have hp:=hr.push e2 ho nd2 hf he
 have h2e:h2[id]?=some (.row sz rows):=by rw[e2,List.getElem?_append_left hr.lt];exact hr.here
 refine⟨rows,h2e,hlen,hil,(List.getElem?_eq_some_iff.1 h2e).1,λos2=>⟨hil,rows++[r'],J++I2,?_⟩⟩
 have:=hp.more os2
 have hd:D.take i++[e]=D.take (i+1):=by rw[List.take_add_one,hi];rfl
 rw[hd,List.append_assoc] at this
 exact this
theorem PshI.done(H:PshI s sz D ⟨i,id,h⟩)(hi:D.length<=i):∃rows J,RowOwn s h id sz rows D J:=by
 obtain⟨h1,rows,J,hr⟩:=H
 simp only at h1 hr
 exact⟨rows,J,by rwa[List.take_of_length_le hi] at hr⟩
end
end Go.Aw
namespace Go.Aw
def Mkd(h:List AO)(v:AV)(I:List Nat)(q:PV)(r:PV)(x:ARes)(h':List AO):Prop:=
 x= .ret (.p r)/\OwnL true h' [v] [q] I/\(∀j,j<h.length->j∉I->h'[j]?=h[j]?)/\h.length<=h'.length
def MkI(h0:List AO)(id sz:Nat)(A L:List (List PV))(J:List Nat)(a:FilS):Prop:=
 a.i<=L.length/\(∃rows,RowOwn true a.h id sz rows (A.take a.i++L.drop a.i) J)/\(∀j,j<h0.length->j∉id::J->a.h[j]?=h0[j]?)/\h0.length<=a.h.length
section
variable {h0 h:List AO} {id sz i:Nat} {A L:List (List PV)} {J:List Nat}
theorem Gg{α:Type}{A L:List α}{i:Nat}{x:α}(hA:A[i]?=some x)(hi:i<L.length):(A.take i++L.drop i).set i x=A.take (i+1)++L.drop (i+1):=by
 obtain⟨ha,e⟩:=List.getElem?_eq_some_iff.1 hA
 have hl:(A.take i).length=i:=by rw[List.length_take];omega
 rw[List.set_append_right _ _ (by omega),hl,Nat.sub_self,List.drop_eq_getElem_cons hi,List.set_cons_zero,List.take_add_one,hA]
 simp
theorem MkI.init{rows:List (List AV)}(H:RowOwn true h id sz rows L J):MkI h id sz A L J ⟨0,h⟩:=
 ⟨Nat.zero_le _,⟨rows,by simpa using H⟩,λ_ _ _=>rfl,Nat.le_refl _⟩
theorem MkI.step(H:MkI h0 id sz A L J ⟨i,h⟩){e e':List PV}(hi:L[i]?=some e)(hA:A[i]?=some e'):
 ∃rows r Ji,h[id]?=some (.row sz rows)/\rows[i]?=some r/\OwnL true h r e Ji/\(id::Ji).Nodup/\id<h.length/\i<rows.length/\∀(h2:List AO) (r':List AV),h2[id]?=some (.row sz (rows.set i r'))->(∀j,j<h.length->j≠id->j∉Ji->h2[j]?=h[j]?)->
  OwnL true h2 r' e' Ji->e'.length=sz->h.length<=h2.length->MkI h0 id sz A L J ⟨i+1,h2⟩:=by
 obtain⟨_,⟨rows,ho⟩,hf,hl⟩:=H
 simp only at ho hf hl
 have hil:i<L.length:=(List.getElem?_eq_some_iff.1 hi).1
 have hal:i<A.length:=(List.getElem?_eq_some_iff.1 hA).1
 have hget:(A.take i++L.drop i)[i]?=some e:=by
  rw[List.getElem?_append_right (by rw[List.length_take];omega),List.length_take,Nat.min_eq_left (by omega),Nat.sub_self,List.getElem?_drop,Nat.add_zero];exact hi
 obtain⟨r,Ji,k1,k2,k3,k4,k5⟩:=ho.change hget
 refine⟨rows,r,Ji,ho.here,k1,k2,k3,ho.lt,(List.getElem?_eq_some_iff.1 k1).1,λh2 r' a1 a2 a3 a4 a6=>⟨hil,⟨rows.set i r',?_⟩,λj hj hn=>?_,Nat.le_trans hl a6⟩⟩
 ·have:=k5 h2 r' e' a1 a2 a3 a4
  rwa[Gg hA hil] at this
 ·have hn':=hn
  rw[List.mem_cons,not_or] at hn'
  rw[a2 j (by omega) hn'.1 λhm=>hn'.2 (k4 j hm)]
  exact hf j hj hn
theorem MkI.done(H:MkI h0 id sz A L J ⟨i,h⟩)(hi:L.length<=i)(hA:A.length=L.length):(∃rows,RowOwn true h id sz rows A J)/\(∀j,j<h0.length->j∉id::J->h[j]?=h0[j]?)/\h0.length<=h.length:=by
 obtain⟨h1,⟨rows,ho⟩,hf,hl⟩:=H
 simp only at h1 ho hf hl
 refine⟨⟨rows,?_⟩,hf,hl⟩
 rwa[List.take_of_length_le (by omega),List.drop_of_length_le (by omega),List.append_nil] at ho
end
inductive Spl:List AO->List AO->List AO->Prop where
 |nil:Spl [] [] []
 |keep (o:AO) {h hX hR:List AO}:Spl h hX hR->Spl (o::h) (.dead::hX) (o::hR)
 |give (o:AO) {h hX hR:List AO}:Spl h hX hR->Spl (o::h) (o::hX) (.dead::hR)
theorem Spl.rest:∀h:List AO,Spl h (List.replicate h.length .dead) h
 |[]=> .nil
 |o::r=> .keep o (Spl.rest r)
theorem Spl.get{h hX hR:List AO}(H:Spl h hX hR):hX.length=h.length/\hR.length=h.length/\(∀(i:Nat) o,hX[i]?=some o->o.live->h[i]?=some o)/\(∀(i:Nat) o,hR[i]?=some o->o.live->h[i]?=some o)/\∀i:Nat,Live hX i->¬Live hR i:=by
 induction H with
 |nil=>exact⟨rfl,rfl,λi o e=>by simp at e,λi o e=>by simp at e,λi h=>(aG h).elim⟩
 |keep o _ ih=>
  obtain⟨a,b,c,d,e⟩:=ih
  refine⟨by simp[a],by simp[b],λi x hx lx=>?_,λi x hx lx=>?_,λi ⟨x,hx,lx⟩ ⟨y,hy,ly⟩=>?_⟩
  ·cases i with
   |zero=>cases hx;exact lx.elim
   |succ i=>exact c i x (by simpa using hx) lx
  ·cases i with
   |zero=>exact hx
   |succ i=>exact d i x (by simpa using hx) lx
  ·cases i with
   |zero=>cases hx;exact lx.elim
   |succ i=>exact e i ⟨x,by simpa using hx,lx⟩ ⟨y,by simpa using hy,ly⟩
 |give o _ ih=>
  obtain⟨a,b,c,d,e⟩:=ih
  refine⟨by simp[a],by simp[b],λi x hx lx=>?_,λi x hx lx=>?_,λi ⟨x,hx,lx⟩ ⟨y,hy,ly⟩=>?_⟩
  ·cases i with
   |zero=>exact hx
   |succ i=>exact c i x (by simpa using hx) lx
  ·cases i with
   |zero=>cases hx;exact lx.elim
   |succ i=>exact d i x (by simpa using hx) lx
  ·cases i with
   |zero=>cases hy;exact ly.elim
   |succ i=>exact e i ⟨x,by simpa using hx,lx⟩ ⟨y,by simpa using hy,ly⟩
section
variable {P:Program} {G:ay}
theorem HRel.sub{W:World}{S:Nat->Prop}{φ:au}{h h1:List AO}(H:HRel G W S φ h)(hl:h1.length=h.length)(hg:∀(i:Nat) o,h1[i]?=some o->o.live->h[i]?=some o):HRel G W S φ h1:=by
 have hlv:∀{i},Live h1 i->Live h i:=λ⟨o,e,l⟩=>⟨o,hg _ _ e l,l⟩
 refine⟨λid sz es e=>?_,λid o e lo=>?_,λid id' a b=>H.inj id id' (hlv a) (hlv b),λb hb=>⟨(H.sep b hb).1,λid a=>(H.sep b hb).2 id (hlv a)⟩,λid hid=>H.bnd id (by rwa[hl] at hid),H.glob⟩
 ·rw[hl];exact H.obj id sz es (hg _ _ e trivial)
 ·rw[hl];exact H.oobj id o (hg _ _ e lo) lo
theorem HRel.wide{W:World}{S:Nat->Prop}{φ:au}{h hX:List AO}(H:HRel G W S φ h)(HX:HRel G W S φ hX)(hl:hX.length=h.length)(hd:∀i j:Nat,Live hX i->Live h j->(φ i).1≠(φ j).1):HRel G W (λb=>S b\/fG φ hX b) φ h:=by
 have K:Kept W S φ h.length W (λb=>S b\/fG φ hX b) φ h.length:=⟨λb hb=>⟨.inl hb,rfl⟩,Nat.le_refl _,λ_ _=>rfl,λ_ _ c t fr e=>⟨c,t,fr,e,rfl⟩⟩
 refine⟨λid sz es e=>?_,λid o e lo=>(H.oobj id o e lo).mono λa v r=>r.kept K,H.inj,λb hb=>?_,H.bnd,λg cs hg=>?_⟩
 ·obtain⟨c,t,fr,a1,a2,a3,a4,a5⟩:=H.obj id sz es e
  exact⟨c,t,fr,a1,a2,a3,a4,λj u hj=>by obtain⟨b1,v,b2,b3⟩:=a5 j u hj;exact⟨b1,v,b2,b3.kept K⟩⟩
 ·rcases hb with hb|⟨id,e,he⟩
  ·exact H.sep b hb
  ·subst he
   exact⟨HX.bnd id e.lt,λid2 e2 he=>hd id id2 e e2 he.symm⟩
 ·obtain⟨g1,g2⟩:=H.glob g cs hg
  exact⟨.inl g1,λj c hj=>by obtain⟨v,k1,k2⟩:=g2 j c hj;exact⟨v,k1,k2.mono λb hb=>⟨.inl hb,rfl⟩⟩⟩
theorem AC.give{f:FuncId}{args pargs:List AV}{h hX hR:List AO}{R:ARes->List AO->Prop}(hs:Spl h hX hR)(hv:Fzs hX h.length args pargs)(H:AC P G f pargs hR R):AC P G f args h R:=by
 obtain⟨l1,l2,g1,g2,g3⟩:=hs.get
 refine⟨H.1,λW S φ vs hH hA=>?_⟩
 have HX:=hH.sub l1 g1
 have HR:=(hH.sub l2 g2).wide HX (by rw[l1,l2]) λi j a b e=>by
  obtain⟨o,e1,lo⟩:=a
  obtain⟨o2,e2,lo2⟩:=b
  have:=hH.inj i j ⟨o,g1 _ _ e1 lo,lo⟩ ⟨o2,g2 _ _ e2 lo2,lo2⟩ e
  subst this
  exact g3 i ⟨o,e1,lo⟩ ⟨o2,e2,lo2⟩
 have hlX:∀{i},Live hX i->Live h i:=λ⟨o,e,l⟩=>⟨o,g1 _ _ e l,l⟩
 have hlR:∀{i},Live hR i->Live h i:=λ⟨o,e,l⟩=>⟨o,g2 _ _ e l,l⟩
 have hA':ko W (λb=>S b\/fG φ hX b) φ hR.length pargs vs:=by
  refine⟨by rw[hA.1,hv.len],λj c v e1 e2=>?_⟩
  have hj:j<vs.size:=(Array.getElem?_eq_some_iff.1 e2).1
  have hjl:j<args.length:=by rw[←hA.1];exact hj
  rw[l2]
  exact(hv.rel HX j _ c v (List.getElem?_eq_getElem hjl) e1 (by rw[l1];exact hA.2 j _ v (List.getElem?_eq_getElem hjl) e2)).1
 refine(H.2 W _ φ vs HR hA').mono λe W' ⟨r,S',φ',h',k1,k2,k3,k4⟩=>⟨r,S',φ',h',k1,k2,k3,?_⟩
 exact{pure:=λb hb=>k4.pure b (.inl hb),len:=by rw[←l2];exact k4.len,same:=λid hid=>k4.same id (by rw[l2];exact hid)
       blk:=λid hid=>k4.blk id (by rw[l2];exact hid)
       os:=k4.os,tape:=k4.tape,output:=k4.output,size:=k4.size,out:=λb hb hn=>k4.out b hb λid a=>hn id (hlR a)
       img:=λid a=>by
        rcases k4.img id a with h2|⟨id2,h2,h3⟩
        ·exact .inl h2
        ·exact .inr ⟨id2,hlR h2,h3⟩
       newS:=λb hb=>by
        rcases k4.newS b hb with(h2|⟨id,h2,h3⟩)|h2|⟨id2,h2,h3⟩
        ·exact .inl h2
        ·exact .inr (.inr ⟨id,hlX h2,h3⟩)
        ·exact .inr (.inl h2)
        ·exact .inr (.inr ⟨id2,hlR h2,h3⟩)}
end
end Go.Aw
namespace Go.Proofs.YtbnajafpkeficaaGreatDoor
open Go Go.Aw
set_option maxRecDepth 100000
set_option maxHeartbeats 4000000
section
theorem HU{α:Type}{l:List α}{i:Nat}{x:α}(h:l[i]?=some x)(hh:i<l.length):l[i]'hh=x:=(List.getElem?_eq_some_iff.1 h).2
def ixI:Option Nat->Int|none=> -1|some i=>i
def bv(l:List Nat):List Int:=l.map Int.ofNat
theorem gY(l:List Nat):(bv l).length=l.length:=by simp[bv]
def dL(l:List Int):List (List AV):=l.map λn=>[AV.p (.int .i64 n)]
theorem mt{h:List AO}{id:Nat}{l:List Int}(e:h[id]?=some (.row 1 (dL l))):View h (.sl id 1 0 l.length) (bc l):=vB e
def ca(l:List Bool):List (List AV):=l.map λb=>[AV.p (.bool b)]
def obL(os:List Obj):PV:= .lst 6 (os.map Obj.cs)
def atN(os:List Obj)(w:List UInt8):Option Nat:=os.findIdx? λo=>decide (o.name=w)
def csW(os:List Obj)(k:Nat):List (List UInt8):=match os[k]? with|none=>[]|some o=>kx o
theorem oF{os:List Obj}{k:Nat}(h:k<os.length):csW os k=kx os[k]:=by rw[csW,List.getElem?_eq_getElem h]
theorem kz{os:List Obj}(w:List UInt8)(k:Nat)(h:atN os w=some k):k<os.length:=(List.findIdx?_eq_some_iff_getElem.1 h).1
structure ObsOk (os:List Obj):Prop where
 sm:∀o∈os,ObjSm o
 sz:∀o∈os,szO o<=1048576
 len:os.length<=1048576
theorem lL{o:Obj}(hz:szO o<=1048576):(kx o).length<=1048576:=by
 have hsz:szO o=o.name.length+o.code.length+o.calls.length+szW o.names:=rfl
 have hwz:szW o.names=o.names.length+(o.names.map List.length).sum:=rfl
 unfold kx;split
 ·exact Nat.le_trans (yt _) (by omega)
 ·simp
variable (G:ay)
theorem DW(l:List Int)(v:Int)(hl:l.length<=1073741824):VF Tryz.prog G fp [.p (bc l),.p (.int .i64 v)] (.p (.int .i64 (ixI (l.findIdx? λx=>decide (x=v))))):=by
 have hLn:bc l= .lst 1 (l.map λn=>[.int .i64 n]):=rfl
 refine AC.go od ?_
 simp-implicitDefEqProofs[jY,hLn]
 refine az (λi:Nat=>aB 19 [(5,.p (.int .i64 i)),(0,.p (.lst 1 (l.map λn=>[.int .i64 n]))),(1,.p (.int .i64 v))]) (λ_=>[]) (λi=>i<=l.length/\v∉l.take i) (λi=>l.length-i) 0 ⟨Nat.zero_le _,by simp⟩ (aA rfl (by simp[below])) ?_
 rintro i ⟨hi,hn⟩
 simp-implicitDefEqProofs[]
 refine bf (λhc=>?_) (λhc=>?_)
 ·have hc:i<l.length:=by simpa using hc
  have hwi:=w1 (i:=i) (by omega)
  have hg:=List.getElem?_eq_getElem hc
  generalize hx:l[i]=x at hg
  by_cases he:x=v
  ·have hf:(l.findIdx? λx=>decide (x=v))=some i:=by
    rw[List.findIdx?_eq_some_iff_getElem]
    exact⟨hc,by simp[hx,he],λj hj=>by
     have:¬l[j]=v:=λe=>hn (List.mem_take_iff_getElem.2 ⟨j,by omega,e⟩)
     simpa using this⟩
   simp-implicitDefEqProofs[hg,he,hf,ixI]
  ·simp-implicitDefEqProofs[hg,he]
   refine⟨i+1,⟨hc,λhm=>?_⟩,by omega,aA rfl (by simp[below,hwi])⟩
   rw[List.take_add_one,hg,List.mem_append] at hm
   rcases hm with hm|hm
   ·exact hn hm
   ·simp at hm;exact he hm.symm
 ·have hie:l.length<=i:=by simpa using hc
  rw[List.take_of_length_le hie] at hn
  have hf:(l.findIdx? λx=>decide (x=v))=none:=by
   rw[List.findIdx?_eq_none_iff]
   intro x hx
   have:¬x=v:=λe=>hn (e▸hx)
   simpa using this
  simp-implicitDefEqProofs[hf,ixI]
theorem Hx(l:List Int)(v:Int):decide (0<=ixI (l.findIdx? λx=>decide (x=v)))=decide (v∈l):=by
 cases e:(l.findIdx? λx=>decide (x=v)) with
 |none=>
  rw[List.findIdx?_eq_none_iff] at e
  have:v∉l:=λh=>by have:=e v h;simp at this
  simp[ixI,this]
 |some i=>
  obtain⟨h1,h2,_⟩:=List.findIdx?_eq_some_iff_getElem.1 e
  have:v∈l:=by
   have h2:l[i]=v:=by simpa using h2
   exact h2▸List.getElem_mem h1
  simp[ixI,this]
theorem sA(os:List Obj)(w:List UInt8)(hl:os.length<=1048576):VF Tryz.prog G cV [.p (obL os),.p (.str w)] (.p (.int .i64 (ixI (atN os w)))):=by
 have hLn:obL os= .lst 6 (os.map Obj.cs):=rfl
 refine AC.go xY ?_
 simp-implicitDefEqProofs[oc,hLn]
 refine az (λi:Nat=>aB 20 [(5,.p (.int .i64 i)),(0,.p (.lst 6 (os.map Obj.cs))),(1,.p (.str w))]) (λ_=>[]) (λi=>i<=os.length/\∀o∈os.take i,o.name≠w) (λi=>os.length-i) 0 ⟨Nat.zero_le _,by simp⟩ (aA rfl (by simp[below])) ?_
 rintro i ⟨hi,hn⟩
 simp-implicitDefEqProofs[]
 refine bf (λhc=>?_) (λhc=>?_)
 ·have hc:i<os.length:=by simpa using hc
  have hwi:=w1 (i:=i) (by omega)
  have hg:=List.getElem?_eq_getElem hc
  generalize hx:os[i]=x at hg
  by_cases he:x.name=w
  ·have hf:atN os w=some i:=by
    rw[atN,List.findIdx?_eq_some_iff_getElem]
    exact⟨hc,by simp[hx,he],λj hj=>by
     have:¬os[j].name=w:=λe=>hn _ (List.mem_take_iff_getElem.2 ⟨j,by omega,rfl⟩) e
     simpa using this⟩
   simp-implicitDefEqProofs[hg,Obj.cs,he,hf,ixI]
  ·simp-implicitDefEqProofs[hg,Obj.cs,he]
   refine⟨i+1,⟨hc,λo ho=>?_⟩,by omega,aA rfl (by simp[below,hwi])⟩
   rw[List.take_add_one,hg,List.mem_append] at ho
   rcases ho with hm|hm
   ·exact hn o hm
   ·simp at hm;exact hm▸he
 ·have hie:os.length<=i:=by simpa using hc
  rw[List.take_of_length_le hie] at hn
  have hf:atN os w=none:=by
   rw[atN,List.findIdx?_eq_none_iff]
   intro x hx
   have:¬x.name=w:=hn x hx
   simpa using this
  simp-implicitDefEqProofs[hf,ixI]
end
section
structure NcS where (i:Nat) (S:List Bool)
theorem AA(l:List Bool):(ca l).length=l.length:=by simp[ca]
theorem fR{l:List Bool}{i:Nat}{b:Bool}(h:l[i]?=some b):(ca l)[i]?=some [.p (.bool b)]:=by simp[ca,h]
theorem uh(l:List Bool)(i:Nat)(b:Bool):(ca l).set i [.p (.bool b)]=ca (l.set i b):=by simp[ca,List.map_set]
variable (G:ay)
theorem Dh(os:List Obj)(ho:ObsOk os):∀(f:Nat) (w:List UInt8) (S:List Bool) (X:List AO) (id:Nat),S.length=os.length->ux S<f->X[id]?=some (.row 1 (ca S))->
 AC Tryz.prog G fh [.p (obL os),.p (.str w),.sl id 1 0 os.length] X λx X'=>∃(b:Bool) (T:List Bool),x= .ret (.p (.bool b))/\X'=X.set id (.row 1 (ca T))/\T.length=os.length/\
  (b=true->∃k,atN os w=some k/\NdI (atN os) (csW os) (Ld (atN os) (csW os) k) S T/\onB T k)/\(b=false->LW (atN os) (csW os) w):=by
 have hLn:obL os= .lst 6 (os.map Obj.cs):=rfl
 have hAt:=λw=>sA G os w ho.len
 intro f
 induction f with
 |zero=>intro w S X id _ h;omega
 |succ f ih=>
  intro w S X id hSl hc hX
  have hidl:=(List.getElem?_eq_some_iff.1 hX).1
  have hXs:X.set id (.row 1 (ca S))=X:=by
   have:=HU hX hidl
   rw[←this];simp
  have hAw:=hAt w
  rw[hLn] at ih hAw⊢
  refine AC.go sU ?_
  simp-implicitDefEqProofs[lF]
  refine hAw.use ?_
  cases hk:atN os w with
  |none=>
   simp-implicitDefEqProofs[ixI]
   exact⟨S,hXs.symm,hSl,.inl hk⟩
  |some k=>
   have hkl:=kz w k hk
   have hkS:k<S.length:=by omega
   have hg:=List.getElem?_eq_getElem hkl
   have hom:os[k]∈os:=List.getElem_mem hkl
   have hcl:=lL (ho.sz _ hom)
   have hcs:csW os k=kx os[k]:=oF hkl
   have hOC:=gh G os[k] (ho.sm _ hom) (ho.sz _ hom)
   rcases Hy hkS with⟨h1,h2⟩|⟨h1,h2⟩
   ·have hr:=fR h2
    simp-implicitDefEqProofs[ixI,hX,hr]
    exact⟨hkl,S,hXs.symm,hSl,.rfl' S,h1⟩
   ·have hr:=fR h2
    have hrs:=uh S k true
    have hXl:(X.set id (AO.row 1 (ca (S.set k true))))[id]?=some (AO.row 1 (ca (S.set k true))):=by rw[List.getElem?_set_self hidl]
    have hcn:=yM hkS h1
    have hSl2:(S.set k true).length=os.length:=by rw[List.length_set];exact hSl
    have hrl:=AA S
    simp-implicitDefEqProofs[ixI,hX,hr,hkl,hg,hrs,hSl]
    refine hOC.use ?_
    have hsl:aW (kx os[k])= .lst 1 ((kx os[k]).map λw=>[.str w]):=rfl
    rw[←hcs] at hsl hcl⊢
    generalize hS1:S.set k true=S1 at*
    simp-implicitDefEqProofs[hsl]
    refine az (λa:NcS=>aB 41 [(9,.p (.int .i64 a.i)),(8,.p (.lst 1 ((csW os k).map λw=>[.str w]))),(0,.p (.lst 6 (os.map Obj.cs))),(2,.sl id 1 0 os.length)]) (λa=>X.set id (.row 1 (ca a.S)))
     (λa=>a.i<=(csW os k).length/\NdI (atN os) (csW os) (Ld (atN os) (csW os) k) S1 a.S/\∀v∈(csW os k).take a.i,∃j,atN os v=some j/\onB a.S j) (λa=>(csW os k).length-a.i) ⟨0,S1⟩ ⟨Nat.zero_le _,.rfl' _,by simp⟩ (bh (by simp) (by simp[below];omega)) ?_
    rintro⟨i,U⟩ ⟨hi,hU,htk⟩
    simp only at hi hU htk⊢
    simp-implicitDefEqProofs[]
    refine bf (λhc1=>?_) (λhc1=>?_)
    ·have hc1:i<(csW os k).length:=by simpa using hc1
     have hwi:=w1 (i:=i) (by omega)
     have hgi:=List.getElem?_eq_getElem hc1
     have hvm:=List.getElem_mem hc1
     generalize (csW os k)[i]=v at hgi hvm
     have hUl:U.length=os.length:=by rw[hU.len,hSl2]
     have hcu:=CM (S:=S1) (T:=U) hU.len hU.sub
     have hcall:=ih v U (X.set id (.row 1 (ca U))) id hUl (by omega) (List.getElem?_set_self hidl)
     simp only[List.set_set] at hcall
     simp-implicitDefEqProofs[hgi]
     refine AC.mono hcall ?_
     rintro _ _ ⟨b,T,rfl,rfl,hTl,hb1,hb2⟩
     cases b with
     |false=>
      simp-implicitDefEqProofs[ag]
      refine⟨T,rfl,hTl,.inr ⟨k,hk,?_⟩⟩
      rcases hb2 rfl with g|⟨j,hj,g⟩
      ·exact⟨k,v,.refl,hvm,g⟩
      ·exact g.up hvm hj
     |true=>
      obtain⟨j,hj,hN,hon⟩:=hb1 rfl
      simp-implicitDefEqProofs[ag]
      refine⟨⟨i+1,T⟩,⟨hc1,hU.trans (hN.mono λx hx=> .first hvm hj hx),λu hu=>?_⟩,by simp only;omega,bh (by simp) (by simp[below,hwi];omega)⟩
      rw[List.take_add_one,hgi,List.mem_append] at hu
      rcases hu with hu|hu
      ·obtain⟨q,q1,q2⟩:=htk u hu
       exact⟨q,q1,hN.sub q q2⟩
      ·have:u=v:=by simpa using hu
       subst this
       exact⟨j,hj,hon⟩
    ·have hie:(csW os k).length<=i:=by simpa using hc1
     rw[List.take_of_length_le hie] at htk
     subst hS1
     obtain⟨q1,q2⟩:=hU.close hkS htk
     simp-implicitDefEqProofs[]
     exact⟨U,rfl,by rw[hU.len,hSl2],q1,q2⟩
noncomputable def lpB (os:List Obj) (k:Nat):Bool:= @decide (Lp (atN os) (csW os) k k) (Classical.propDecidable _)
theorem lpB_iff{os:List Obj}{k:Nat}:lpB os k=true↔Lp (atN os) (csW os) k k:= @decide_eq_true_iff _ (Classical.propDecidable _)
def eq(l:List (List UInt8)):List (List AV):=l.map λw=>[AV.p (.str w)]
structure RcS where (S:List Bool) (W:List (List UInt8)) (pre:List (List AV)) (id:Nat) (X:List AO)
theorem AJ(os:List Obj)(ho:ObsOk os)(h12:os.length<=12)(k:Nat)(hk:k<os.length):VF Tryz.prog G gJ [.p (obL os),.p (.int .i64 k)] (.p (.bool (lpB os k))):=by
 have hLn:obL os= .lst 6 (os.map Obj.cs):=rfl
 have hAt:=λw=>sA G os w ho.len
 rw[hLn] at hAt⊢
 have hg:=List.getElem?_eq_getElem hk
 have hom:os[k]∈os:=List.getElem_mem hk
 have hcl:=lL (ho.sz _ hom)
 have hcs:csW os k=kx os[k]:=oF hk
 have hOC:=gh G os[k] (ho.sm _ hom) (ho.sz _ hom)
 rw[←hcs] at hOC hcl
 have hsl:aW (csW os k)= .lst 1 ((csW os k).map λw=>[.str w]):=rfl
 rw[hsl] at hOC
 have hrw:List.replicate os.length [AV.p (.bool false)]=ca (List.replicate os.length false):=by simp[ca]
 refine AC.go rQ ?_
 simp-implicitDefEqProofs[kH,hk,hg]
 refine⟨by omega,?_⟩
 refine hOC.use ?_
 have hWw:List.map ((λx=>List.map AV.p x)∘λn=>[PV.str n]) (csW os k)=eq (csW os k):=by simp[eq]
 have hWl:(eq (csW os k)).length=(csW os k).length:=by simp[eq]
 simp-implicitDefEqProofs[hWw,hWl,hrw]
 refine⟨⟨by omega,by omega⟩,?_⟩
 have hcb0:=BC (S:=List.replicate os.length false)
 rw[List.length_replicate] at hcb0
 refine az (λa:RcS=>aB 50 [(6,.sl a.id 1 a.pre.length a.W.length),(5,.sl 0 1 0 os.length),(0,.p (.lst 6 (os.map Obj.cs))),(1,.p (.int .i64 k))]) (λa=>a.X)
  (λa=>a.X[0]?=some (.row 1 (ca a.S))/\a.S.length=os.length/\0<a.id/\a.X[a.id]?=some (.row 1 (a.pre++eq a.W))/\RdI (atN os) (csW os) k a.S a.W/\a.W.length+1048576*ux a.S<=13631488) (λa=>a.W.length+1048576*ux a.S)
  ⟨List.replicate os.length false,csW os k,[],2,_⟩ ⟨rfl,by simp,by simp,rfl,RdI.start _ _,by simp only;omega⟩ (bh (Nat.zero_le _) (by simp[below])) ?_
 rintro⟨S,W,pre,id,X⟩ ⟨g0,hSl,hid0,hX,hR,hms⟩
 simp only at g0 hSl hid0 hX hR hms⊢
 have h0l:=(List.getElem?_eq_some_iff.1 g0).1
 have hidl:=(List.getElem?_eq_some_iff.1 hX).1
 cases W with
 |nil=>
  have hno:lpB os k=false:=by
   cases e:lpB os k with
   |false=>rfl
   |true=>exact absurd (lpB_iff.1 e) hR.done
  simp-implicitDefEqProofs[hno]
 |cons v W=>
  have hc0:eq (v::W)=[AV.p (.str v)]::eq W:=rfl
  have hWl2:(eq W).length=W.length:=by simp[eq]
  rw[List.length_cons] at hms
  have hAv:=hAt v
  have hpre2:pre++eq (v::W)=(pre++[[.p (.str v)]])++eq W:=by simp[eq]
  have hX2:X[id]?=some (.row 1 ((pre++[[.p (.str v)]])++eq W)):=by rw[hX,hpre2]
  simp-implicitDefEqProofs[hX,hc0,hWl2]
  refine hAv.use ?_
  simp-implicitDefEqProofs[hX,hc0,hWl2]
  cases hv:atN os v with
  |none=>
   have hn1:¬(-1:Int)=(k:Int):=by omega
   simp-implicitDefEqProofs[ixI,hn1]
   refine⟨⟨S,W,pre++[[.p (.str v)]],id,X⟩,⟨g0,hSl,hid0,hX2,hR.skip (λj e=>by rw[hv] at e;cases e),by simp only;omega⟩,by simp only[List.length_cons];omega,bh (Nat.zero_le _) ?_⟩
   simp[below];omega
  |some i=>
   by_cases hik:i=k
   ·subst hik
    have hyes:lpB os i=true:=lpB_iff.2 (hR.found hv)
    simp-implicitDefEqProofs[ixI,hyes]
   have hik2:¬(i:Int)=(k:Int):=by omega
   have hil:=kz v i hv
   have hiS:i<S.length:=by omega
   rcases Hy hiS with⟨h1,h2⟩|⟨h1,h2⟩
   ·have hr:=fR h2
    simp-implicitDefEqProofs[ixI,hik2,g0,hr,hil]
    refine⟨⟨S,W,pre++[[.p (.str v)]],id,X⟩,⟨g0,hSl,hid0,hX2,hR.skip (λj e=>by rw[hv] at e;cases e;exact⟨h1,hik⟩),by simp only;omega⟩,by simp only[List.length_cons];omega,bh (Nat.zero_le _) ?_⟩
    simp[below];omega
   ·have hr:=fR h2
    have hgi:=List.getElem?_eq_getElem hil
    have homi:os[i]∈os:=List.getElem_mem hil
    have hcli:=lL (ho.sz _ homi)
    have hcsi:csW os i=kx os[i]:=oF hil
    have hOCi:=gh G os[i] (ho.sm _ homi) (ho.sz _ homi)
    rw[←hcsi] at hOCi hcli
    have hsli:aW (csW os i)= .lst 1 ((csW os i).map λw=>[.str w]):=rfl
    rw[hsli] at hOCi
    have hWwi:List.map ((λx=>List.map AV.p x)∘λn=>[PV.str n]) (csW os i)=eq (csW os i):=by simp[eq]
    have hWli:(eq (csW os i)).length=(csW os i).length:=by simp[eq]
    have hrs:=uh S i true
    have hX3:∀o,(X.set 0 o)[id]?=some (.row 1 ((pre++[[.p (.str v)]])++eq W)):=λo=>by rw[List.getElem?_set_ne (by omega)];exact hX2
    have hcn:=yM hiS h1
    simp-implicitDefEqProofs[ixI,hik2,g0,hr,hil,hrs,hgi]
    refine hOCi.use ?_
    simp-implicitDefEqProofs[hX3,hWwi,hWli,hWl2]
    have htt:List.take W.length (eq W)=eq W:=List.take_of_length_le (by omega)
    rw[htt]
    refine⟨⟨by omega,by omega,by omega⟩,⟨S.set i true,W++csW os i,[],X.length,_⟩,⟨?_,by simp only;rw[List.length_set];exact hSl,by simp only;omega,?_,hR.step hv hiS hik,by simp only;rw[List.length_append];omega⟩,by simp only;rw[List.length_append];omega,bh (Nat.zero_le _) (by simp[below])⟩
    ·simp only
     rw[List.getElem?_append_left (by simp;omega),List.getElem?_set_ne (by omega),List.getElem?_set_self h0l]
    ·simp only
     rw[List.getElem?_append_right (by simp)];simp[eq]
end
section
section
variable {α:Type} {ix:α->Option Nat} {cs:Nat->List α}
theorem ke{f:Nat}(hf:∀k out x,x∈oJ ix cs f k out->x∈out\/Ld ix cs k x):∀(ws:List α) (out:List Nat) (x:Nat),x∈kS ix cs f ws out->x∈out\/∃w∈ws,RW ix cs w x
 |[],_,_,h=> .inl h
 |w::ws,out,x,h=>by
  rw[ny] at h
  rcases ke hf ws _ x h with g|⟨v,hv,g⟩
  ·rw[pD] at g
   split at g
   ·exact .inl g
   ·rename_i j hj
    rcases hf j out x g with g|g
    ·exact .inl g
    ·exact .inr ⟨w,by simp,j,hj,g⟩
  ·exact .inr ⟨v,by simp[hv],g⟩
theorem sO:∀(f k:Nat) (out:List Nat) (x:Nat),x∈oJ ix cs f k out->x∈out\/Ld ix cs k x
 |0,_,_,_,h=> .inl h
 |f+1,k,out,x,h=>by
  by_cases hk:k∈out
  ·rw[sn hk] at h;exact .inl h
  ·rw[lR hk] at h
   rcases List.mem_append.1 h with h|h
   ·rcases ke (sO f) (cs k) out x h with g|⟨w,hw,j,hj,g⟩
    ·exact .inl g
    ·exact .inr (.first hw hj g)
   ·rw[List.mem_singleton.1 h];exact .inr .refl
theorem pp{f:Nat}(hf:∀k out,(∀y,Ld ix cs k y->¬Lp ix cs y y)->out.Nodup->(oJ ix cs f k out).Nodup):∀(ws:List α) (out:List Nat),(∀w∈ws,∀y,RW ix cs w y->¬Lp ix cs y y)->out.Nodup->(kS ix cs f ws out).Nodup
 |[],_,_,h=>h
 |w::ws,out,hr,h=>by
  rw[ny]
  refine pp hf ws _ (λv hv=>hr v (by simp[hv])) ?_
  rw[pD]
  split
  ·exact h
  ·rename_i j hj
   exact hf j out (λy hy=>hr w (by simp) y ⟨j,hj,hy⟩) h
theorem BE:∀(f k:Nat) (out:List Nat),(∀y,Ld ix cs k y->¬Lp ix cs y y)->out.Nodup->(oJ ix cs f k out).Nodup
 |0,_,_,_,h=>h
 |f+1,k,out,hr,h=>by
  by_cases hk:k∈out
  ·rw[sn hk];exact h
  ·rw[lR hk,List.nodup_append]
   refine⟨pp (BE f) (cs k) out (λw hw y ⟨j,hj,hy⟩=>hr y (.first hw hj hy)) h,by simp,λa ha b hb e=>?_⟩
   rw[List.mem_singleton] at hb
   subst hb
   subst e
   rcases ke (sO f) (cs a) out a ha with g|⟨w,hw,j,hj,g⟩
   ·exact hk g
   ·exact hr a .refl (Ld.lp .refl hw hj g)
end
theorem GY{a b:List Nat}(nd:a.Nodup)(h:∀v∈a,v∈b):a.length<=b.length:=by
 induction a generalizing b with
 |nil=>exact Nat.zero_le _
 |cons x t ih=>
  obtain⟨u,w,rfl⟩:=List.append_of_mem (h x (by simp))
  rw[List.nodup_cons] at nd
  have:=ih (b:=u++w) nd.2 λy hy=>by
   have h1:=h y (by simp[hy])
   simp only[List.mem_append,List.mem_cons] at h1⊢
   rcases h1 with h1|h1|h1
   ·exact .inl h1
   ·subst h1;exact absurd hy nd.1
   ·exact .inr h1
  simp only[List.length_append,List.length_cons] at this⊢
  omega
theorem Bl{a:List Nat}{n:Nat}(nd:a.Nodup)(h:∀v∈a,v<n):a.length<=n:=by
 have:=GY (b:=List.range n) nd λv hv=>List.mem_range.2 (h v hv)
 rwa[List.length_range] at this
structure PcS where (i id:Nat) (X:List AO)
variable (G:ay)
theorem DE(os:List Obj)(ho:ObsOk os):∀(f:Nat) (path:List Nat) (k:Nat) (out:List Nat) (X:List AO) (id:Nat),os.length<=f+path.length->path.Nodup->(∀p∈path,p<os.length/\Lp (atN os) (csW os) p k)->
 k<os.length->¬Ls (atN os) (csW os) k->(∀y,Ld (atN os) (csW os) k y->¬Lp (atN os) (csW os) y y)->out.Nodup->(∀x∈out,x<os.length)->X[id]?=some (.row 1 (dL (bv out)))->
 AC Tryz.prog G gg [.p (obL os),.p (.int .i64 k),.sl id 1 0 out.length] X λx X'=>∃id',x= .ret (.sl id' 1 0 (oJ (atN os) (csW os) f k out).length)/\X'[id']?=some (.row 1 (dL (bv (oJ (atN os) (csW os) f k out))))/\X.length<=X'.length:=by
 have hLn:obL os= .lst 6 (os.map Obj.cs):=rfl
 have hAt:=λw=>sA G os w ho.len
 rw[hLn] at hAt⊢
 intro f
 induction f with
 |zero=>
  intro path k out X id hf hpn hp hk hl hr hnd hlt hX
  exfalso
  by_cases hkp:k∈path
  ·exact hr k .refl (hp k hkp).2
  ·have:=Bl (a:=k::path) (n:=os.length) (List.nodup_cons.2 ⟨hkp,hpn⟩) λv hv=>by
    rcases List.mem_cons.1 hv with e|e
    ·rw[e];exact hk
    ·exact(hp v e).1
   rw[List.length_cons] at this
   omega
 |succ f ih=>
  intro path k out X id hf hpn hp hk hl hr hnd hlt hX
  have hidl:=(List.getElem?_eq_some_iff.1 hX).1
  have hol:=Bl hnd hlt
  have hlen:=ho.len
  have hkp:k∉path:=λh=>hr k .refl (hp k h).2
  have hA:=DW G (bv out) k (by rw[gY];omega)
  have han:=Hx (bv out) k
  have hmem:decide ((k:Int)∈bv out)=decide (k∈out):=by
   rw[Bool.eq_iff_iff,decide_eq_true_iff,decide_eq_true_iff]
   simp only[bv,List.mem_map]
   exact⟨λ⟨a,h1,h2⟩=>by rw[←Int.ofNat.inj h2];exact h1,λh=>⟨k,h,rfl⟩⟩
  rw[hmem] at han
  generalize ixI ((bv out).findIdx? λx=>decide (x=(k:Int)))=z at hA han
  have hvw:∀Y:List AO,Y[id]?=some (.row 1 (dL (bv out)))->View Y (.sl id 1 0 out.length) (bc (bv out)):=λY hY=>by
   have:=mt hY;rwa[gY] at this
  refine AC.go uq ?_
  simp-implicitDefEqProofs[mY]
  refine(VF.lend hA (.one (hvw _ hX) (.keep (by simp[below]) .nil)) rfl).mono ?_
  rintro _ Y ⟨rfl,eY⟩
  subst eY
  by_cases hm:k∈out
  ·have hz:0<=z:=by rw[decide_eq_true hm] at han;simpa using han
   simp-implicitDefEqProofs[ag,hz,sn hm]
   exact hX
  ·have hz:¬0<=z:=by rw[decide_eq_false hm] at han;simpa using han
   have hg:=List.getElem?_eq_getElem hk
   have hom:os[k]∈os:=List.getElem_mem hk
   have hcl:=lL (ho.sz _ hom)
   have hcs:csW os k=kx os[k]:=oF hk
   have hOC:=gh G os[k] (ho.sm _ hom) (ho.sz _ hom)
   rw[←hcs] at hOC hcl
   have hsl:aW (csW os k)= .lst 1 ((csW os k).map λw=>[.str w]):=rfl
   rw[hsl] at hOC
   simp-implicitDefEqProofs[ag,hz,hk,hg]
   refine hOC.use ?_
   simp-implicitDefEqProofs[]
   have hdone:= @lR _ (atN os) (csW os) f k out hm
   have hrw:∀v∈csW os k,∃j,atN os v=some j:=λv hv=>by
    cases e:atN os v with
    |none=>exact absurd ⟨k,v,.refl,hv,e⟩ hl
    |some j=>exact⟨j,rfl⟩
   obtain⟨D,hD⟩:∃D:Nat->List Nat,D=λi=>kS (atN os) (csW os) f ((csW os k).take i) out:=⟨_,rfl⟩
   have hD0:D 0=out:=by rw[hD];rfl
   have hDs:∀i v j,(csW os k)[i]?=some v->atN os v=some j->D (i+1)=oJ (atN os) (csW os) f j (D i):=λi v j h e=>by
    rw[hD];simp only;rw[List.take_add_one,h]
    show kS _ _ _ (_++[v]) _=_
    rw[AZ,pD,e]
   have hDe:∀i,(csW os k).length<=i->D i=kS (atN os) (csW os) f (csW os k) out:=λi h=>by rw[hD];simp only;rw[List.take_of_length_le h]
   have hDn:∀i,(D i).Nodup:=λi=>by
    rw[hD]
    exact pp (BE f) _ out (λw hw y ⟨j,hj,hy⟩=>hr y (.first (List.mem_of_mem_take hw) hj hy)) hnd
   have hDl:∀i,∀x∈D i,x<os.length:=λi x hx=>by
    rw[hD] at hx
    rcases ke (sO f) _ out x hx with g|⟨w,hw,j,hj,g⟩
    ·exact hlt x g
    ·cases g with
     |refl=>exact kz w _ hj
     |step _ _ hm=>exact kz _ _ hm
   clear hD
   refine az (λa:PcS=>aB 38 [(8,.p (.int .i64 a.i)),(7,.p (.lst 1 ((csW os k).map λw=>[.str w]))),(0,.p (.lst 6 (os.map Obj.cs))),(1,.p (.int .i64 k)),(2,.sl a.id 1 0 (D a.i).length)]) (λa=>a.X)
    (λa=>a.i<=(csW os k).length/\a.X[a.id]?=some (.row 1 (dL (bv (D a.i))))/\Y.length<=a.X.length) (λa=>(csW os k).length-a.i) ⟨0,id,Y⟩ ⟨Nat.zero_le _,by simp only[hD0];exact hX,Nat.le_refl _⟩ (bh (Nat.le_refl _) (by simp[below,hD0];omega)) ?_
   rintro⟨i,id2,Z⟩ ⟨hi,hZ,hZl⟩
   simp only at hi hZ hZl⊢
   have hid2:=(List.getElem?_eq_some_iff.1 hZ).1
   have hDil:=Bl (hDn i) (hDl i)
   simp-implicitDefEqProofs[]
   refine bf (λhc1=>?_) (λhc1=>?_)
   ·have hc1:i<(csW os k).length:=by simpa using hc1
    have hwi:=w1 (i:=i) (by omega)
    have hgi:=List.getElem?_eq_getElem hc1
    have hvm:=List.getElem_mem hc1
    generalize (csW os k)[i]=v at hgi hvm
    obtain⟨j,hj⟩:=hrw v hvm
    have hAv:=hAt v
    rw[hj] at hAv
    have hcall:=ih (k::path) j (D i) Z id2 (by rw[List.length_cons];omega) (List.nodup_cons.2 ⟨hkp,hpn⟩) (λp hp2=>by
     rcases List.mem_cons.1 hp2 with e|e
     ·rw[e];exact⟨hk,k,v,.refl,hvm,hj⟩
     ·exact⟨(hp p e).1,(hp p e).2.ld (.step .refl hvm hj)⟩) (kz v j hj) (λh=>hl (h.up hvm hj)) (λy hy=>hr y (.first hvm hj hy)) (hDn i) (hDl i) hZ
    rw[←hDs i v j hgi hj] at hcall
    simp-implicitDefEqProofs[hgi]
    refine hAv.use ?_
    simp-implicitDefEqProofs[ixI]
    refine AC.mono hcall ?_
    rintro _ Z2 ⟨id3,rfl,e1,e2⟩
    have hid3:=(List.getElem?_eq_some_iff.1 e1).1
    simp-implicitDefEqProofs[ag]
    exact⟨⟨i+1,id3,Z2⟩,⟨hc1,e1,by simp only;omega⟩,by simp only;omega,bh (by omega) (by simp[below,hwi];omega)⟩
   ·have hie:(csW os k).length<=i:=by simpa using hc1
    have hDe2:=hDe i hie
    have hrl:(dL (bv (D i))).length=(D i).length:=by simp[dL,bv]
    have htt:List.take (D i).length (dL (bv (D i)))=dL (bv (D i)):=List.take_of_length_le (by omega)
    rw[hdone,←hDe2]
    have hgm:∀t,(Z++t)[id2]?=some (.row 1 (dL (bv (D i)))):=λt=>by rw[List.getElem?_append_left hid2];exact hZ
    simp-implicitDefEqProofs[hgm,hrl,htt]
    exact⟨⟨by omega,by omega⟩,by simp[dL,bv],by omega⟩
end
section
noncomputable def Cc (os:List Obj) (w:List UInt8):Bool:= @decide (LW (atN os) (csW os) w) (Classical.propDecidable _)
theorem lostB_iff{os:List Obj}{w:List UInt8}:Cc os w=true↔LW (atN os) (csW os) w:= @decide_eq_true_iff _ (Classical.propDecidable _)
noncomputable def Hf (os:List Obj) (w:List UInt8):Bool:= @decide (∃y,RW (atN os) (csW os) w y/\Lp (atN os) (csW os) y y) (Classical.propDecidable _)
theorem rndB_iff{os:List Obj}{w:List UInt8}:Hf os w=true↔∃y,RW (atN os) (csW os) w y/\Lp (atN os) (csW os) y y:= @decide_eq_true_iff _ (Classical.propDecidable _)
def mc(os:List Obj):Bool:=decide ((os.map Obj.name).Nodup)
theorem apart_iff{os:List Obj}:mc os=true↔∀(i:Nat) (h:i<os.length),atN os os[i].name=some i:=by
 rw[mc,decide_eq_true_iff]
 constructor
 ·intro nd i h
  rw[atN,List.findIdx?_eq_some_iff_getElem]
  refine⟨h,by simp,λj hj=>?_⟩
  have h1:j<(os.map Obj.name).length:=by rw[List.length_map];omega
  have h2:i<(os.map Obj.name).length:=by rw[List.length_map];omega
  have:=List.getElem_inj (h₀:=h1) (h₁:=h2) nd
  rw[List.getElem_map,List.getElem_map] at this
  have:¬os[j].name=os[i].name:=λe=>by have:=this.1 e;omega
  simpa using this
 ·intro H
  rw[List.nodup_iff_pairwise_ne,List.pairwise_iff_getElem]
  intro i j hi hj hij e
  rw[List.length_map] at hi hj
  rw[List.getElem_map,List.getElem_map] at e
  have h1:=H i hi
  rw[e,H j hj] at h1
  cases h1
  omega
noncomputable def uA (os:List Obj) (w:List UInt8):List Nat:=pD (atN os) (csW os) (os.length+1) w []
noncomputable def lnk (os:List Obj) (w:List UInt8):List Nat × Int:=
 if 12<os.length then([],1) else if aP w=false then([],1) else if os.all bJ=false then([],1) else if mc os=false then([],2) else if Cc os w=true then([],3) else if Hf os w=true then([],4)
 else if 4<(uA os w).length then([],5) else(uA os w,0)
theorem FZ(os:List Obj)(w:List UInt8):(lnk os w).1.length<=4:=by
 unfold lnk
 repeat' split
 all_goals first|exact Nat.zero_le _|(simp only;omega)
variable (G:ay)
theorem zB(os:List Obj)(ho:ObsOk os)(w:List UInt8)(hw:w.length<=1048576):VF Tryz.prog G dP [.p (obL os),.p (.str w)] (.tup [.p (bc (bv (lnk os w).1)),.p (.int .i64 (lnk os w).2)]):=by
 have hLn:obL os= .lst 6 (os.map Obj.cs):=rfl
 have hAt:=λw=>sA G os w ho.len
 have hNd:=λS X=>Dh G os ho (os.length+1) w S X 0
 have hPt:=λk X id=>DE G os ho (os.length+1) [] k [] X id
 have hRd:=λh12 k=>AJ G os ho h12 k
 have hsl:=ho.len
 rw[hLn] at hAt hNd hPt hRd⊢
 suffices key:AC Tryz.prog G dP [.p (.lst 6 (os.map Obj.cs)),.p (.str w)] [] λx h=>∃v,x= .ret (.tup [v,.p (.int .i64 (lnk os w).2)])/\View h v (bc (bv (lnk os w).1)) from
  AC.freezeR key (λt v h ⟨_,e,_⟩=>by cases e) λv h ⟨_,e,hv⟩=>by cases e;exact .tup (.one hv (.keep (by simp[below]) .nil)) .nil
 have hnone:∀(h:List AO) (id:Nat),h[id]?=some (.row 1 [])->View h (.sl id 1 0 0) (bc (bv [])):=λh id e=>mt (l:=[]) e
 by_cases h12:12<os.length
 ·have h12i:(12:Int)<(os.length:Int):=by omega
  have hr:lnk os w=([],1):=by rw[lnk,if_pos h12]
  rw[hr]
  refine AC.go jE ?_
  simp-implicitDefEqProofs[fH,h12i]
  exact hnone _ _ rfl
 have h12i:¬(12:Int)<(os.length:Int):=by omega
 refine AC.go jE ?_
 simp-implicitDefEqProofs[fH,h12i]
 refine(sL G w (by omega)).use ?_
 cases hn:aP w with
 |false=>
  have hr:lnk os w=([],1):=by rw[lnk,if_neg h12,if_pos hn]
  rw[hr]
  simp-implicitDefEqProofs[]
  exact hnone _ _ rfl
 |true=>
  simp-implicitDefEqProofs[]
  refine az (λi:Nat=>aB 85 [(6,.p (.int .i64 i)),(0,.p (.lst 6 (os.map Obj.cs))),(1,.p (.str w))]) (λ_=>[]) (λi=>i<=os.length/\∀o∈os.take i,bJ o=true) (λi=>os.length-i) 0 ⟨Nat.zero_le _,by simp⟩ (aA rfl (by simp[below])) ?_
  rintro i ⟨hi,hok⟩
  simp-implicitDefEqProofs[]
  refine bf (λhc=>?_) (λhc=>?_)
  ·have hc:i<os.length:=by simpa using hc
   have hwi:=w1 (i:=i) (by omega)
   have hg:=List.getElem?_eq_getElem hc
   have hom:=List.getElem_mem hc
   have hOV:=nf G os[i] (ho.sm _ hom) (ho.sz _ hom)
   generalize os[i]=o at hg hom hOV
   simp-implicitDefEqProofs[hg]
   refine hOV.use ?_
   cases hv:bJ o with
   |false=>
    have hr:lnk os w=([],1):=by rw[lnk,if_neg h12,if_neg (by rw[hn];simp),if_pos (List.all_eq_false.2 ⟨o,hom,by rw[hv];simp⟩)]
    rw[hr]
    simp-implicitDefEqProofs[]
    exact hnone _ _ rfl
   |true=>
    simp-implicitDefEqProofs[]
    refine⟨i+1,⟨hc,λx hx=>?_⟩,by omega,aA rfl (by simp[below,hwi])⟩
    rw[List.take_add_one,hg,List.mem_append] at hx
    rcases hx with hx|hx
    ·exact hok x hx
    ·simp at hx;rw[hx];exact hv
  ·have hie:os.length<=i:=by simpa using hc
   rw[List.take_of_length_le hie] at hok
   have hall:os.all bJ=true:=List.all_eq_true.2 hok
   have hna:¬os.all bJ=false:=by rw[hall];simp
   have hnn:¬aP w=false:=by rw[hn];simp
   clear hok hc hi hie
   simp-implicitDefEqProofs[]
   refine az (λi:Nat=>aB 85 [(7,.p (.int .i64 i)),(0,.p (.lst 6 (os.map Obj.cs))),(1,.p (.str w))]) (λ_=>[]) (λi=>i<=os.length/\∀(j:Nat) (h:j<os.length),j<i->atN os os[j].name=some j) (λi=>os.length-i) 0 ⟨Nat.zero_le _,λj h h2=>by omega⟩ (aA rfl (by simp[below])) ?_
   rintro i ⟨hi,hap⟩
   simp-implicitDefEqProofs[]
   refine bf (λhc=>?_) (λhc=>?_)
   ·have hc:i<os.length:=by simpa using hc
    have hwi:=w1 (i:=i) (by omega)
    have hg:=List.getElem?_eq_getElem hc
    simp-implicitDefEqProofs[hg,Obj.cs]
    refine(hAt os[i].name).use ?_
    by_cases he:atN os os[i].name=some i
    ·simp-implicitDefEqProofs[he,ixI]
     refine⟨i+1,⟨hc,λj h hj=>?_⟩,by omega,aA rfl (by simp[below,hwi])⟩
     rcases Nat.lt_or_ge j i with h1|h1
     ·exact hap j h h1
     ·have:j=i:=by omega
      subst this;exact he
    ·have hne:¬ixI (atN os os[i].name)=(i:Int):=λe=>by
      cases e2:atN os os[i].name with
      |none=>rw[e2] at e;simp only[ixI] at e;omega
      |some j=>rw[e2] at e he;simp only[ixI] at e;exact he (by rw[show j=i by omega])
     have hr:lnk os w=([],2):=by
      have:mc os=false:=by
       cases e:mc os with
       |false=>rfl
       |true=>exact absurd (apart_iff.1 e i hc) he
      rw[lnk,if_neg h12,if_neg hnn,if_neg hna,if_pos this]
     rw[hr]
     simp-implicitDefEqProofs[hne]
     exact hnone _ _ rfl
   ·have hie:os.length<=i:=by simpa using hc
    have hap1:mc os=true:=apart_iff.2 λj h=>hap j h (by omega)
    have hnap:¬mc os=false:=by rw[hap1];simp
    clear hc hi hie hap
    have hrw:List.replicate os.length [AV.p (.bool false)]=ca (List.replicate os.length false):=by simp[ca]
    have hcb0:=BC (S:=List.replicate os.length false)
    rw[List.length_replicate] at hcb0
    simp-implicitDefEqProofs[hrw]
    refine⟨by omega,?_⟩
    refine AC.mono (hNd (List.replicate os.length false) [.row 1 (ca (List.replicate os.length false))] (by simp) (by omega) rfl) ?_
    rintro _ _ ⟨b,T,rfl,rfl,hTl,hb1,hb2⟩
    cases b with
    |false=>
     have hr:lnk os w=([],3):=by rw[lnk,if_neg h12,if_neg hnn,if_neg hna,if_neg hnap,if_pos (lostB_iff.2 (hb2 rfl))]
     rw[hr]
     simp-implicitDefEqProofs[ag]
     exact hnone _ _ rfl
    |true=>
     obtain⟨k0,hk0,hN,hon⟩:=hb1 rfl
     obtain⟨hT,hnl⟩:=hN.done hon
     have hnlost:¬Cc os w=true:=λh=>by
      rcases lostB_iff.1 h with h|⟨k,hk,h⟩
      ·rw[hk0] at h;cases h
      ·rw[hk0] at hk;cases hk;exact hnl h
     have hk0l:=kz w k0 hk0
     simp-implicitDefEqProofs[ag]
     refine az (λi:Nat=>aB 85 [(9,.p (.int .i64 i)),(8,.sl 0 1 0 os.length),(0,.p (.lst 6 (os.map Obj.cs))),(1,.p (.str w))]) (λ_=>[.row 1 (ca T)]) (λi=>i<=os.length/\∀j,j<i->onB T j->¬Lp (atN os) (csW os) j j) (λi=>os.length-i) 0 ⟨Nat.zero_le _,λj h2=>by omega⟩ (bh (Nat.zero_le _) (by simp[below])) ?_
     rintro i ⟨hi,hrd⟩
     simp-implicitDefEqProofs[]
     refine bf (λhc=>?_) (λhc=>?_)
     ·have hc:i<os.length:=by simpa using hc
      have hwi:=w1 (i:=i) (by omega)
      have hR1:=hRd (by omega) i hc
      rcases Hy (S:=T) (k:=i) (by omega) with⟨h1,h2⟩|⟨h1,h2⟩
      ·have hr:=fR h2
       simp-implicitDefEqProofs[hr,hc]
       refine hR1.use ?_
       cases e:lpB os i with
       |true=>
        have hr:lnk os w=([],4):=by rw[lnk,if_neg h12,if_neg hnn,if_neg hna,if_neg hnap,if_neg hnlost,if_pos (rndB_iff.2 ⟨i,⟨k0,hk0,(hT i).1 h1⟩,lpB_iff.1 e⟩)]
        rw[hr]
        simp-implicitDefEqProofs[]
        exact hnone _ _ rfl
       |false=>
        simp-implicitDefEqProofs[]
        refine⟨i+1,⟨hc,λj hj hon2=>?_⟩,by omega,bh (Nat.zero_le _) (by simp[below,hwi])⟩
        rcases Nat.lt_or_ge j i with h3|h3
        ·exact hrd j h3 hon2
        ·have:j=i:=by omega
         subst this
         exact λh=>by rw[lpB_iff.2 h] at e;cases e
      ·have hr:=fR h2
       simp-implicitDefEqProofs[hr,hc]
       refine⟨i+1,⟨hc,λj hj hon2=>?_⟩,by omega,bh (Nat.zero_le _) (by simp[below,hwi])⟩
       rcases Nat.lt_or_ge j i with h3|h3
       ·exact hrd j h3 hon2
       ·have:j=i:=by omega
        subst this
        exact absurd hon2 h1
     ·have hie:os.length<=i:=by simpa using hc
      have hTl2:∀y,onB T y->y<os.length:=λy hy=>by
       have:=(List.getElem?_eq_some_iff.1 hy).1;omega
      have hnr:∀y,Ld (atN os) (csW os) k0 y->¬Lp (atN os) (csW os) y y:=λy hy=>hrd y (by have:=hTl2 y ((hT y).2 hy);omega) ((hT y).2 hy)
      have hnrnd:¬Hf os w=true:=λh=>by
       obtain⟨y,⟨k,hk,hy⟩,hp⟩:=rndB_iff.1 h
       rw[hk0] at hk;cases hk
       exact hnr y hy hp
      have hres:lnk os w=if 4<(uA os w).length then([],5) else(uA os w,0):=by rw[lnk,if_neg h12,if_neg hnn,if_neg hna,if_neg hnap,if_neg hnlost,if_neg hnrnd]
      have hO:oJ (atN os) (csW os) (os.length+1) k0 []=uA os w:=by rw[uA,pD,hk0]
      have hcall:=hPt k0 [.row 1 (ca T),.row 1 []] 1 (by simp) (by simp) (by simp) hk0l hnl hnr (by simp) (by simp) rfl
      rw[hO] at hcall
      have hAw:=hAt w
      rw[hk0] at hAw
      rw[hres]
      generalize uA os w=L at hcall
      simp-implicitDefEqProofs[]
      refine hAw.use ?_
      simp-implicitDefEqProofs[ixI]
      refine AC.mono hcall ?_
      rintro _ Y ⟨id,rfl,e1,e2⟩
      by_cases h4:4<L.length
      ·have h4i:(4:Int)<(L.length:Int):=by omega
       simp-implicitDefEqProofs[ag,h4,h4i]
       refine hnone _ _ ?_
       rw[List.getElem?_append_right (Nat.le_refl _),Nat.sub_self];rfl
      ·have h4i:¬(4:Int)<(L.length:Int):=by omega
       simp-implicitDefEqProofs[ag,h4,h4i]
       have:=mt e1
       rwa[gY] at this
end
section
section
variable {α:Type} {ix:α->Option Nat} {cs:Nat->List α}
theorem Bw{s:Lk}(hm:∀x,s.mark x<=2)(k:Nat)(x:Nat):(newS s k).mark x<=2:=by
 simp only[newS,ky];split
 ·omega
 ·exact hm x
theorem rb{f n:Nat}(hn:∀w k,ix w=some k->k<n)(hf:∀w s,dA n s<f->(∀x,s.mark x<=2)->(cr ix cs f w s).out.length+dA n (cr ix cs f w s)<=s.out.length+dA n s):
 ∀(ws:List α) (s:Lk),dA n s<f->(∀x,s.mark x<=2)->(cO ix cs f ws s).out.length+dA n (cO ix cs f ws s)<=s.out.length+dA n s
 |[],s,_,_=>Nat.le_refl _
 |w::ws,s,hc,hm=>by
  obtain⟨h1,_⟩:=oR (cs:=cs) hn f w s hc hm
  have hc2:dA n (cr ix cs f w s)<f:=Nat.lt_of_le_of_lt (gw λx hx=>by rw[h1.old x hx];exact hx) hc
  rw[nx]
  exact Nat.le_trans (rb hn hf ws _ hc2 (h1.le2 hm)) (hf w s hc hm)
theorem Gf{n:Nat}(hn:∀w k,ix w=some k->k<n):∀(f:Nat) (w:α) (s:Lk),dA n s<f->(∀x,s.mark x<=2)->(cr ix cs f w s).out.length+dA n (cr ix cs f w s)<=s.out.length+dA n s:=by
 intro f
 induction f with
 |zero=>intro w s h;omega
 |succ f ih=>
  intro w s hc hm
  cases hk:ix w with
  |none=>rw[mo hk];exact Nat.le_refl _
  |some k=>
   by_cases h1:s.mark k=1
   ·rw[pc hk h1];exact Nat.le_refl _
   by_cases h2:s.mark k=2
   ·rw[oV hk h2];exact Nat.le_refl _
   rw[ou hk h1 h2]
   have h0:s.mark k=0:=by have:=hm k;omega
   have hc1:=sj (hn w k hk) h0
   have h3:=rb hn ih (cs k) (newS s k) (by omega) (Bw hm k)
   have h4:dA n (lf (cO ix cs f (cs k) (newS s k)) k)<=dA n (cO ix cs f (cs k) (newS s k)):=gw λx hx=>by
    simp only[lf,ky];split
    ·omega
    ·exact hx
   have h5:(lf (cO ix cs f (cs k) (newS s k)) k).out.length=(cO ix cs f (cs k) (newS s k)).out.length+1:=by simp[lf]
   have h6:(newS s k).out=s.out:=rfl
   rw[h6] at h3
   omega
theorem Dx{f n:Nat}(hn:∀w k,ix w=some k->k<n)(ws:List α)(s:Lk)(hc:dA n s<f)(hm:∀x,s.mark x<=2):dA n (cO ix cs f ws s)<f/\(∀x,(cO ix cs f ws s).mark x<=2)/\(∀x,s.mark x≠0->(cO ix cs f ws s).mark x=s.mark x)/\(cO ix cs f ws s).out.length+dA n (cO ix cs f ws s)<=s.out.length+dA n s:=by
 obtain⟨g1,_⟩:=oo (oR (cs:=cs) hn f) ws s hc hm
 exact⟨Nat.lt_of_le_of_lt (gw λx hx=>by rw[g1.old x hx];exact hx) hc,g1.le2 hm,g1.old,rb hn (Gf hn f) ws s hc hm⟩
end
def GH(es:List (PV × AV)):Prop:=∀e∈es,∃s:List UInt8,e.1= .str s
theorem zo{es:List (PV × AV)}(k:List UInt8)(v:AV)(h:GH es):∃es',er (.str k) v es=some es'/\GH es'/\bw (.str k) es'=some (some v)/\∀q,q≠k->bw (.str q) es'=bw (.str q) es:=by
 induction es with
 |nil=>
  refine⟨[(.str k,v)],rfl,λe he=>⟨k,by simp at he;rw[he]⟩,by simp[bw,keq],λq hq=>by simp[bw,keq,hq]⟩
 |cons e r ih=>
  obtain⟨n,hn⟩:=h e (by simp)
  obtain⟨e1,e2⟩:=e
  simp only at hn
  subst hn
  obtain⟨es',h1,h2,h3,h4⟩:=ih λx hx=>h x (by simp[hx])
  by_cases hk:k=n
  ·subst hk
   refine⟨(.str k,v)::r,by simp[er,keq],λx hx=>?_,by simp[bw,keq],λq hq=>by simp[bw,keq,hq]⟩
   rcases List.mem_cons.1 hx with rfl|hx
   ·exact⟨k,rfl⟩
   ·exact h x (by simp[hx])
  ·refine⟨(.str n,e2)::es',by simp[er,keq,hk,h1],λx hx=>?_,by simp[bw,keq,hk,h3],λq hq=>by simp only[bw,keq];rw[h4 q hq]⟩
   rcases List.mem_cons.1 hx with rfl|hx
   ·exact⟨n,rfl⟩
   ·exact h2 x hx
structure StM (os:List Obj) (s:Lk) (es:List (PV × AV)):Prop where
 str:GH es
 get:∀v k,atN os v=some k->bw (.str v) es=some (if s.mark k=0 then none else some (.p (.int .i64 (s.mark k))))
theorem zk{os:List Obj}{v:List UInt8}{k:Nat}(h:atN os v=some k):∃hk:k<os.length,os[k].name=v:=by
 obtain⟨h1,h2,_⟩:=List.findIdx?_eq_some_iff_getElem.1 h
 exact⟨h1,by simpa using h2⟩
theorem StM.set{os:List Obj}{s:Lk}{es:List (PV × AV)}{w:List UInt8}{k:Nat}(h:StM os s es)(hk:atN os w=some k){m:Nat}(hm:m≠0){t:Lk}(ht:∀x,t.mark x=ky s.mark k m x):∃es',er (.str w) (.p (.int .i64 m)) es=some es'/\StM os t es':=by
 obtain⟨es',h1,h2,h3,h4⟩:=zo w (.p (.int .i64 m)) h.str
 refine⟨es',h1,h2,λv j hj=>?_⟩
 rw[ht,ky]
 by_cases e:v=w
 ·subst e
  rw[hk] at hj
  cases hj
  rw[if_pos rfl,if_neg hm,h3]
 ·have:j≠k:=λe2=>by
   subst e2
   obtain⟨_,n1⟩:=zk hj
   obtain⟨_,n2⟩:=zk hk
   exact e (n1.symm.trans n2)
  rw[if_neg this,h4 v e]
  exact h.get v j hj
structure LkH (os:List Obj) (ae:List (PV × AV)) (s:Lk) (X:List AO):Prop where
 at_:X[0]?=some (.mp ae)
 st:∃es,X[1]?=some (.mp es)/\StM os s es
 bx:∃V,X[2]?=some (.row 6 [[.mp 0,.p (obL os),.mp 1,V,.p (.bool s.lost),.p (.bool s.round)]])/\((V= .nils/\s.out=[])\/∃id,3<=id/\V= .sl id 1 0 s.out.length/\X[id]?=some (.row 1 (dL (bv s.out))))
theorem LkH.l3{os:List Obj}{ae:List (PV × AV)}{s:Lk}{X:List AO}(h:LkH os ae s X):3<=X.length:=by
 obtain⟨V,h1,_⟩:=h.bx
 have:=(List.getElem?_eq_some_iff.1 h1).1;omega
structure PuS where (i:Nat) (X:List AO)
variable (G:ay)
theorem Gn(l:List (List UInt8))(hb:l.length<=1048576):VF Tryz.prog G gv [.p (aW l)] (.p (aW (ty l))):=by
 by_cases hn:l=[]
 ·subst hn
  exact AC.freezeR ((DU G [] (by simp)).mono (R':=λr _=>r= .ret .nils) λr h e=>by rw[if_pos rfl] at e;exact e) (λt v h e=>by cases e) λv h e=>by cases e;exact .one (View.nils 1) .nil
 ·exact AC.freeze (Gw G hb hn) (.one (mu rfl) .nil)
theorem Jc(os:List Obj)(ho:ObsOk os)(hall:∀o∈os,bJ o=true)(h12:os.length<=12)(ae:List (PV × AV))(hae:∀v,bw (.str v) ae=some ((atN os v).map λ(k:Nat)=>AV.p (.int .i64 (k:Int)))):
 ∀(f:Nat) (w:List UInt8) (s:Lk) (X:List AO),dA os.length s<f->(∀x,s.mark x<=2)->s.out.length+dA os.length s<=12->LkH os ae s X->
 AC Tryz.prog G dE [.ptr 2 6 0 0,.p (.str w)] X λx X'=>x= .ret (.tup [])/\X.length<=X'.length/\LkH os ae (cr (atN os) (csW os) f w s) X':=by
 have hLn:obL os= .lst 6 (os.map Obj.cs):=rfl
 intro f
 induction f with
 |zero=>intro w s X h;omega
 |succ f ih=>
  intro w s X hc hm hob hX
  have hX3:=hX.l3
  have g0:=hX.at_
  obtain⟨es,g1,hS⟩:=hX.st
  obtain⟨V,g2,hV⟩:=hX.bx
  have hge:=hae w
  rw[hLn] at g2
  refine AC.go oH ?_
  cases hk:atN os w with
  |none=>
   rw[hk] at hge
   rw[mo hk]
   simp-implicitDefEqProofs[ch,g0,g2,hge]
   have h2l:=(List.getElem?_eq_some_iff.1 g2).1
   refine⟨by rw[List.getElem?_set_ne (by omega)];exact g0,⟨es,by rw[List.getElem?_set_ne (by omega)];exact g1,⟨hS.str,hS.get⟩⟩,⟨V,by rw[List.getElem?_set_self h2l];rfl,?_⟩⟩
   rcases hV with h|⟨id,h3,h4,h5⟩
   ·exact .inl h
   ·exact .inr ⟨id,h3,h4,by rw[List.getElem?_set_ne (by omega)];exact h5⟩
  |some k=>
   rw[hk] at hge
   have hgs:=hS.get w k hk
   have h2l:=(List.getElem?_eq_some_iff.1 g2).1
   by_cases h1:s.mark k=1
   ·rw[h1,if_neg (by omega)] at hgs
    rw[pc hk h1]
    simp-implicitDefEqProofs[ch,g0,g1,g2,hge,hgs]
    refine⟨by rw[List.getElem?_set_ne (by omega)];exact g0,⟨es,by rw[List.getElem?_set_ne (by omega)];exact g1,⟨hS.str,hS.get⟩⟩,⟨V,by rw[List.getElem?_set_self h2l];rfl,?_⟩⟩
    rcases hV with h|⟨id,h3,h4,h5⟩
    ·exact .inl h
    ·exact .inr ⟨id,h3,h4,by rw[List.getElem?_set_ne (by omega)];exact h5⟩
   by_cases h2:s.mark k=2
   ·rw[h2,if_neg (by omega)] at hgs
    rw[oV hk h2]
    simp-implicitDefEqProofs[ch,g0,g1,g2,hge,hgs]
    exact hX
   have h0:s.mark k=0:=by have:=hm k;omega
   rw[h0,if_pos rfl] at hgs
   have hkl:=kz w k hk
   have hg:=List.getElem?_eq_getElem hkl
   have hom:os[k]∈os:=List.getElem_mem hkl
   have hcl:=lL (ho.sz _ hom)
   have hcs:csW os k=ty os[k].names:=by rw[oF hkl,kx,if_pos (hall _ hom)]
   have hsz:=ho.sz _ hom
   have hszd:szO os[k]=os[k].name.length+os[k].code.length+os[k].calls.length+szW os[k].names:=rfl
   have hwz:szW os[k].names=os[k].names.length+(os[k].names.map List.length).sum:=rfl
   have hU:=Gn G os[k].names (by omega)
   have hUl:=yt os[k].names
   rw[←hcs] at hU hUl
   have hsl:∀l,aW l= .lst 1 (l.map λw=>[.str w]):=λ_=>rfl
   have hsl2:aW (csW os k)= .lst 1 ((csW os k).map λw=>[.str w]):=rfl
   rw[hsl2] at hU
   obtain⟨es1,hm1,hS1⟩:=hS.set hk (m:=1) (by omega) (t:=newS s k) λ_=>rfl
   have hm1':er (.str w) (.p (.int .i64 1)) es=some es1:=hm1
   have hc1:=sj hkl h0
   have hX1:LkH os ae (newS s k) (X.set 1 (.mp es1)):=by
    refine⟨by rw[List.getElem?_set_ne (by omega)];exact g0,⟨es1,by rw[List.getElem?_set_self (by omega)],hS1⟩,⟨V,by rw[List.getElem?_set_ne (by omega)];exact g2,?_⟩⟩
    rcases hV with h|⟨id,h3,h4,h5⟩
    ·exact .inl h
    ·exact .inr ⟨id,h3,h4,by rw[List.getElem?_set_ne (by omega)];exact h5⟩
   rw[ou hk h1 h2]
   have hkp:=λi=>Dx (cs:=csW os) (f:=f) (n:=os.length) kz ((csW os k).take i) (newS s k) (by omega) (Bw hm k)
   obtain⟨D,hD⟩:∃D:Nat->Lk,D=λi=>cO (atN os) (csW os) f ((csW os k).take i) (newS s k):=⟨_,rfl⟩
   have hD0:D 0=newS s k:=by rw[hD];rfl
   have hDs:∀i v,(csW os k)[i]?=some v->D (i+1)=cr (atN os) (csW os) f v (D i):=λi v h=>by
    rw[hD];simp only;rw[List.take_add_one,h]
    show cO _ _ _ (_++[v]) _=_
    rw[Am]
   have hDe:∀i,(csW os k).length<=i->cO (atN os) (csW os) f (csW os k) (newS s k)=D i:=λi h=>by rw[hD];simp only;rw[List.take_of_length_le h]
   have hDk:∀i,dA os.length (D i)<f/\(∀x,(D i).mark x<=2)/\(D i).mark k≠0/\(D i).out.length+dA os.length (D i)<=11:=λi=>by
    rw[hD]
    obtain⟨q1,q2,q3,q4⟩:=hkp i
    have nk:(newS s k).mark k=1:=by simp[newS,ky]
    refine⟨q1,q2,by simp only;rw[q3 k (by omega),nk];omega,Nat.le_trans q4 ?_⟩
    show s.out.length+_<=_
    omega
   rw[←hsl2,hcs] at hU
   clear hkp hD
   simp-implicitDefEqProofs[ch,g0,g1,g2,hge,hgs,hm1',hkl,hg,Obj.cs]
   refine hU.use ?_
   rw[←hcs,hsl2]
   simp-implicitDefEqProofs[]
   refine az (λa:PuS=>aB 80 [(57,.p (.int .i64 a.i)),(56,.p (.int .i64 (csW os k).length)),(55,.p (.lst 1 ((csW os k).map λw=>[.str w]))),(0,.ptr 2 6 0 0),(1,.p (.str w)),(4,.p (.int .i64 k))]) (λa=>a.X)
    (λa=>a.i<=(csW os k).length/\X.length<=a.X.length/\LkH os ae (D a.i) a.X) (λa=>(csW os k).length-a.i) ⟨0,X.set 1 (.mp es1)⟩ ⟨Nat.zero_le _,by simp,by simp only[hD0];exact hX1⟩ (bh (by simp) (by simp[below];omega)) ?_
   rintro⟨i,Z⟩ ⟨hi,hZl,hZ⟩
   simp only at hi hZl hZ⊢
   obtain⟨d1,d2,d3,d4⟩:=hDk i
   simp-implicitDefEqProofs[]
   refine bf (λhc2=>?_) (λhc2=>?_)
   ·have hc2:i<(csW os k).length:=by simpa using hc2
    have hwi:=w1 (i:=i) (by omega)
    have hgi:=List.getElem?_eq_getElem hc2
    generalize (csW os k)[i]=v at hgi
    have hcall:=ih v (D i) Z d1 d2 (by omega) hZ
    rw[←hDs i v hgi] at hcall
    simp-implicitDefEqProofs[hgi]
    refine AC.mono hcall ?_
    rintro _ Z2 ⟨rfl,e1,e2⟩
    have:=e2.l3
    simp-implicitDefEqProofs[ag]
    exact⟨⟨i+1,Z2⟩,⟨hc2,by simp only;omega,e2⟩,by simp only;omega,bh (by omega) (by simp[below,hwi];omega)⟩
   ·have hie:(csW os k).length<=i:=by simpa using hc2
    rw[hDe i hie]
    have hZ3:=hZ.l3
    have z0:=hZ.at_
    obtain⟨es2,z1,hS2⟩:=hZ.st
    obtain⟨V2,z2,hV2⟩:=hZ.bx
    rw[hLn] at z2
    obtain⟨es3,hm3,hS3⟩:=hS2.set hk (m:=2) (by omega) (t:=lf (D i) k) λ_=>rfl
    have hm3':er (.str w) (.p (.int .i64 2)) es2=some es3:=hm3
    have hx2:∀o t,(Z.set 1 o++t)[2]?=Z[2]?:=λo t=>by rw[List.getElem?_append_left (by simp;omega),List.getElem?_set_ne (by omega)]
    rw[z2] at hx2
    rcases hV2 with⟨rfl,he⟩|⟨id,h3,rfl,h5⟩
    ·simp-implicitDefEqProofs[z0,z1,z2,hm3',hx2]
     refine⟨by omega,⟨?_,⟨es3,?_,hS3⟩,⟨_,List.getElem?_set_self (by simp;omega),.inr ⟨Z.length+1,by omega,?_,?_⟩⟩⟩⟩
     ·rw[List.getElem?_set_ne (by omega),List.getElem?_append_left (by simp;omega),List.getElem?_set_ne (by omega)];exact z0
     ·rw[List.getElem?_set_ne (by omega),List.getElem?_append_left (by simp;omega),List.getElem?_set_self (by omega)]
     ·simp[lf,he]
     ·rw[List.getElem?_set_ne (by omega),List.getElem?_append_right (by simp)]
      simp[lf,he,dL,bv]
    ·have hidl:=(List.getElem?_eq_some_iff.1 h5).1
     have hgm:∀o t,(Z.set 1 o++t)[id]?=some (.row 1 (dL (bv (D i).out))):=λo t=>by rw[List.getElem?_append_left (by simp;omega),List.getElem?_set_ne (by omega)];exact h5
     have hrl:(dL (bv (D i).out)).length=(D i).out.length:=by simp[dL,bv]
     have htt:List.take (D i).out.length (dL (bv (D i).out))=dL (bv (D i).out):=List.take_of_length_le (by omega)
     have hx3:∀o t t2,((Z.set 1 o++t).set id AO.dead++t2)[2]?=some (.row 6 [[.mp 0,.p (.lst 6 (os.map Obj.cs)),.mp 1,.sl id 1 0 (D i).out.length,.p (.bool (D i).lost),.p (.bool (D i).round)]]):=λo t t2=>by
      rw[List.getElem?_append_left (by simp;omega),List.getElem?_set_ne (by omega)];exact hx2 o t
     simp-implicitDefEqProofs[z0,z1,z2,hm3',hx2,hgm,hrl,htt,hx3]
     have hle:(lf (D i) k).out.length=(D i).out.length+1:=by simp[lf]
     refine⟨⟨by omega,by omega⟩,by omega,⟨?_,⟨es3,?_,hS3⟩,⟨_,List.getElem?_set_self (by simp<;>omega),.inr ⟨Z.length+1,by omega,by rw[hle],?_⟩⟩⟩⟩
     ·rw[List.getElem?_set_ne (by omega),List.getElem?_append_left (by simp<;>omega),List.getElem?_set_ne (by omega),List.getElem?_append_left (by simp<;>omega),List.getElem?_set_ne (by omega)];exact z0
     ·rw[List.getElem?_set_ne (by omega),List.getElem?_append_left (by simp<;>omega),List.getElem?_set_ne (by omega),List.getElem?_append_left (by simp<;>omega),List.getElem?_set_self (by omega)]
     ·rw[List.getElem?_set_ne (by omega),List.getElem?_append_right (by simp)]
      simp[lf,dL,bv]
end
section
variable (G:ay)
theorem CJ(l:List Int):ir (bN l)=true:=by simp[ir,bN,iY,mD]
theorem CY(l:List Int):ir (gy l)=true:=by simp[ir,gy,iY,mD]
theorem AR(n:Nat)(l:List Int):aT n (gy l)=gy l:=by
 simp only[aT,gy,List.map_map];rfl
theorem CC(l:List Int):∀x∈l.map (λw=>[AV.p (.int .u8 w)]),aa 0 x:=by
 intro x hx;obtain⟨m,_,rfl⟩:=List.mem_map.1 hx;simp[aa,below]
theorem CQ(l:List Int):∀x∈l.map (λw=>[AV.p (.int .i64 w)]),aa 0 x:=by
 intro x hx;obtain⟨m,_,rfl⟩:=List.mem_map.1 hx;simp[aa,below]
theorem zV(o:Obj)(h1:o.code.length<=1048576)(h2:o.calls.length<=1048576)(h3:o.names.length<=1048576):AC Tryz.prog G cg [.agg (o.cs.map .p)] [] λx h=>
 ∃a b c,x= .ret (.agg (o.ov a b c))/\h[a]?=some (bN o.code)/\h[b]?=some (gy o.calls)/\h[c]?=some (fv o.names)/\a<b/\b<c:=by
 refine AC.go rY ?_
 simp-implicitDefEqProofs[kG,Obj.cs]
 refine(AC.lift (CA G o.code h1) (by simp[aa,below]) rfl (by simp only[List.all_cons,List.all_nil,CJ];rfl)).mono ?_
 rintro r h ⟨rfl,rfl⟩
 simp-implicitDefEqProofs[ag,aU,bi,np]
 refine(AC.lift (Fg G o.calls h2) (by simp[aa,below]) rfl (by simp only[List.all_cons,List.all_nil,CY];rfl)).mono ?_
 rintro r h ⟨rfl,rfl⟩
 simp-implicitDefEqProofs[ag,aU,bi,AR]
 refine(AC.lift (zt G o.names h3) (by simp[aa,below]) rfl (by simp only[List.all_cons,List.all_nil,CP];rfl)).mono ?_
 rintro r h ⟨rfl,rfl⟩
 simp-implicitDefEqProofs[ag,aU,bi,AS]
 exact⟨3,4,5,rfl,rfl,rfl,rfl,by omega,by omega⟩
theorem As(o:Obj)(h1:o.code.length<=1048576)(h2:o.calls.length<=1048576)(h3:o.names.length<=1048576):AC Tryz.prog G cg [.agg (o.cs.map .p)] [] λx h=>
 x= .ret (.agg (o.ov 0 1 2))/\h=[bN o.code,gy o.calls,fv o.names]:=by
 refine(zV G o h1 h2 h3).gc (λt v h ⟨_,_,_,e,_⟩=>by cases e) λv h ⟨a,b,c,e,e1,e2,e3,l1,l2⟩=>?_
 cases e
 refine⟨.agg (o.ov 0 1 2),[bN o.code,gy o.calls,fv o.names],⟨[a,b,c],by simp,by simp,?_,by simp[below,aa,Obj.ov],by simp[ren,aF,Obj.ov],af e1 (CC _) (af e2 (CQ _) (af e3 (vp _) aj))⟩,rfl,rfl⟩
 simp
 omega
variable (hG:G bX=some pvForms) (hK:G ju=some iu)
include hG hK
end
section
theorem FF{os:List Obj}{i:Nat}{v:List UInt8}(h:i<os.length):atN (os.take (i+1)) v=(atN (os.take i) v).or (if os[i].name=v then some i else none):=by
 rw[atN,List.take_add_one,List.getElem?_eq_getElem h,List.findIdx?_append]
 show(atN (os.take i) v).or _=_
 congr 1
 simp only[Option.toList_some,List.findIdx?_singleton]
 by_cases e:os[i].name=v
 ·simp[e];omega
 ·simp[e]
theorem FH{os:List Obj}{i j:Nat}{v:List UInt8}(h:atN (os.take i) v=some j):atN os v=some j/\j<i:=by
 obtain⟨h1,h2,h3⟩:=List.findIdx?_eq_some_iff_getElem.1 h
 rw[List.length_take] at h1
 refine⟨?_,by omega⟩
 rw[atN,List.findIdx?_eq_some_iff_getElem]
 refine⟨by omega,by simpa using h2,λq hq=>?_⟩
 have:=h3 q hq
 simpa using this
structure LmS where (i:Nat) (ae:List (PV × AV)) (X:List AO)
structure AtM (os:List Obj) (i:Nat) (ae:List (PV × AV)):Prop where
 str:GH ae
 get:∀v,bw (.str v) ae=some ((atN (os.take i) v).map λ(k:Nat)=>AV.p (.int .i64 (k:Int)))
theorem AtM.start(os:List Obj):AtM os 0 []:=⟨λe he=>(by cases he),λv=>rfl⟩
theorem AtM.step{os:List Obj}{i:Nat}{ae:List (PV × AV)}(h:AtM os i ae)(hi:i<os.length)(hn:atN (os.take i) os[i].name=none):∃ae',er (.str os[i].name) (.p (.int .i64 i)) ae=some ae'/\AtM os (i+1) ae':=by
 obtain⟨ae',h1,h2,h3,h4⟩:=zo os[i].name (.p (.int .i64 i)) h.str
 refine⟨ae',h1,h2,λv=>?_⟩
 rw[FF hi]
 by_cases e:v=os[i].name
 ·subst e
  rw[h3,hn,if_pos rfl];rfl
 ·have e2:¬os[i].name=v:=λh=>e h.symm
  rw[h4 v e,h.get v,if_neg e2,Option.or_none]
variable (G:ay)
variable (hG:G bX=some pvForms) (hK:G ju=some iu)
include hG hK
theorem uP(o:Obj)(ho:ObjSm o)(hz:szO o<=1048576):VF Tryz.prog G bG [.agg (o.cs.map .p)] (.p (.bool (!bJ o))):=by
 refine AC.go nF ?_
 have hv:=uL G hG hK o ho hz
 rw[Obj.cs] at hv
 simp-implicitDefEqProofs[ie,Obj.cs]
 refine hv.use ?_
 simp-implicitDefEqProofs[]
def Bo(os:List Obj):Int:=ixI (os.findIdx? λo=> !bJ o)
omit hG hK in
theorem ET(os:List Obj):decide (0<=Bo os)= !os.all bJ:=by
 unfold Bo
 cases h:os.findIdx? (λo=> !bJ o) with
 |none=>
  rw[List.findIdx?_eq_none_iff] at h
  have:os.all bJ=true:=List.all_eq_true.2 λo ho=>by simpa using h o ho
  rw[this];simp[ixI]
 |some i=>
  obtain⟨h1,h2,_⟩:=List.findIdx?_eq_some_iff_getElem.1 h
  have:os.all bJ=false:=List.all_eq_false.2 ⟨_,List.getElem_mem h1,by simpa using h2⟩
  rw[this];simp[ixI]
theorem Ae(os:List Obj)(ho:ObsOk os):VF Tryz.prog G bE [.p (obL os),.fn (.func bG) []] (.p (.int .i64 (Bo os))):=by
 refine AC.go fS ?_
 have hsl:obL os= .lst 6 (os.map Obj.cs):=rfl
 have hlen:=ho.len
 simp-implicitDefEqProofs[cH,hsl]
 refine az (λi:Nat=>aB 19 [(0,.p (.lst 6 (os.map Obj.cs))),(1,.fn (.func bG) []),(7,.p (.int .i64 os.length)),(8,.p (.int .i64 i))]) (λ_=>[]) (λi=>i<=os.length/\∀w∈os.take i,bJ w=true) (λi=>os.length-i) 0 (by simp) ?_ ?_
 ·exact aZ (by simp) (by simp[okO]) (by simp[below,aa])
 ·intro i ⟨hi,hn⟩
  simp-implicitDefEqProofs[]
  refine bf (λh1=>?_) (λh1=>?_)
  ·have h1:i<os.length:=by simpa using h1
   have hg:=List.getElem?_eq_getElem h1
   have hom:=List.getElem_mem h1
   have hf1:=uP G hG hK os[i] (ho.sm _ hom) (ho.sz _ hom)
   simp-implicitDefEqProofs[hg]
   refine hf1.use ?_
   by_cases he:bJ os[i]=true
   ·simp-implicitDefEqProofs[he]
    refine⟨i+1,⟨h1,λp hp=>?_⟩,by omega,aZ (by simp) (by simp[okO]) ?_⟩
    ·rw[aq h1] at hp
     rcases List.mem_append.1 hp with hp|hp
     ·exact hn p hp
     ·rw[List.mem_singleton.1 hp];exact he
    ·simp[below,aa,w1 (i:=i) (by omega)]
   ·have hf:Bo os=i:=by
     have:os.findIdx? (λw=> !bJ w)=some i:=by
      rw[List.findIdx?_eq_some_iff_getElem]
      exact⟨h1,by simpa using he,λj hj=>by have:=hn os[j] (List.mem_take_iff_getElem.2 ⟨j,by omega,rfl⟩);simpa using this⟩
     rw[Bo,this];rfl
    simp-implicitDefEqProofs[he,hf]
  ·simp at h1
   rw[List.take_of_length_le h1] at hn
   have hf:Bo os= -1:=by
    have:os.findIdx? (λw=> !bJ w)=none:=by
     rw[List.findIdx?_eq_none_iff];intro x hx;simpa using hn x hx
    rw[Bo,this];rfl
   simp-implicitDefEqProofs[hf]
theorem uO(os:List Obj)(ho:ObsOk os):VF Tryz.prog G bu [.p (obL os),.fn (.func bG) []] (.p (.bool (!os.all bJ))):=by
 rw[←ET]
 refine AC.go fd ?_
 have hI:=Ae G hG hK os ho
 simp-implicitDefEqProofs[bY]
 refine hI.use ?_
 simp-implicitDefEqProofs[]
end
section
theorem BQ{os:List Obj}{w:List UInt8}(h:(lnk os w).2≠0):(lnk os w).1=[]:=by
 unfold lnk at h⊢
 repeat' split
 all_goals first|rfl|skip
 exfalso
 simp_all
variable (G:ay)
variable (hG:G bX=some pvForms) (hK:G ju=some iu)
include hG hK
theorem lZ(os:List Obj)(ho:ObsOk os)(w:List UInt8)(hw:w.length<=1048576):AC Tryz.prog G bq [.p (obL os),.p (.str w)] [] λx h=>
 if(lnk os w).2=0 then∃id,x= .ret (.tup [.sl id 1 0 (lnk os w).1.length,.p (.int .i64 0)])/\h[id]?=some (.row 1 (dL (bv (lnk os w).1))) else x= .ret (.tup [.nils,.p (.int .i64 (lnk os w).2)]):=by
 have hLn:obL os= .lst 6 (os.map Obj.cs):=rfl
 have hCB:=uO G hG hK os ho
 have hPut:=λhall h12 ae hae X=>Jc G os ho hall h12 ae hae (os.length+1) w lk0 X
 have hlen:=ho.len
 obtain⟨q1,q2,q3⟩:=ES (cs:=csW os) (n:=os.length) (ix:=atN os) (λw k h=>kz w k h) w
 rw[hLn] at hCB⊢
 by_cases h12:12<os.length
 ·have h12i:(12:Int)<(os.length:Int):=by omega
  have hr:lnk os w=([],1):=by rw[lnk,if_pos h12]
  rw[hr]
  refine AC.go jA ?_
  simp-implicitDefEqProofs[fM,h12i]
 have h12i:¬(12:Int)<(os.length:Int):=by omega
 refine AC.go jA ?_
 simp-implicitDefEqProofs[fM,h12i]
 refine(tc G hK w (by omega)).use ?_
 cases hn:aP w with
 |false=>
  have hr:lnk os w=([],1):=by rw[lnk,if_neg h12,if_pos hn]
  rw[hr]
  simp-implicitDefEqProofs[]
 |true=>
  simp-implicitDefEqProofs[]
  refine hCB.use ?_
  cases hv:os.all bJ with
  |false=>
   have hr:lnk os w=([],1):=by rw[lnk,if_neg h12,if_neg (by rw[hn];simp),if_pos hv]
   rw[hr]
   simp-implicitDefEqProofs[]
  |true=>
   have hna:¬os.all bJ=false:=by rw[hv];simp
   have hnn:¬aP w=false:=by rw[hn];simp
   have hok:∀o∈os,bJ o=true:=List.all_eq_true.1 hv
   simp-implicitDefEqProofs[]
   obtain⟨B,hB⟩:∃B:AO,B=AO.row 6 [[.mp 0,.p (.lst 6 (os.map Obj.cs)),.mp 1,.nils,.p (.bool false),.p (.bool false)]]:=⟨_,rfl⟩
   rw[←hB]
   refine az (λa:LmS=>aB 78 [(30,.p (.int .i64 a.i)),(29,.p (.int .i64 os.length)),(28,.p (.lst 6 (os.map Obj.cs))),(6,.ptr 2 6 0 0),(1,.p (.str w))]) (λa=>a.X)
    (λa=>a.i<=os.length/\a.X[0]?=some (.mp a.ae)/\a.X[1]?=some (.mp [])/\a.X[2]?=some B/\AtM os a.i a.ae/\∀(j:Nat) (h:j<os.length),j<a.i->atN os os[j].name=some j) (λa=>os.length-a.i) ⟨0,[],[.mp [],.mp [],B]⟩ ⟨Nat.zero_le _,rfl,rfl,rfl,.start os,λj h h2=>by simp only at h2;omega⟩ (bh (Nat.zero_le _) (by simp[below])) ?_
   rintro⟨i,ae,X⟩ ⟨hi,g0,g1,g2,hM,hap⟩
   simp only at hi g0 g1 g2 hM hap⊢
   have h2l:=(List.getElem?_eq_some_iff.1 g2).1
   simp-implicitDefEqProofs[]
   refine bf (λhc=>?_) (λhc=>?_)
   ·have hc:i<os.length:=by simpa using hc
    have hwi:=w1 (i:=i) (by omega)
    have hg:=List.getElem?_eq_getElem hc
    have hgt:=hM.get os[i].name
    have a0:∀t,(X++t)[0]?=some (.mp ae):=λt=>by rw[List.getElem?_append_left (by omega)];exact g0
    have a2:∀t,(X++t)[2]?=some (AO.row 6 [[.mp 0,.p (.lst 6 (os.map Obj.cs)),.mp 1,.nils,.p (.bool false),.p (.bool false)]]):=λt=>by rw[List.getElem?_append_left (by omega),←hB];exact g2
    have a0e:=λt hh=>HU (a0 t) hh
    have a2e:=λt hh=>HU (a2 t) hh
    cases hf:atN (os.take i) os[i].name with
    |some j=>
     rw[hf] at hgt
     have hr:lnk os w=([],2):=by
      have:mc os=false:=by
       cases e:mc os with
       |false=>rfl
       |true=>
        obtain⟨e1,e2⟩:=FH hf
        rw[apart_iff.1 e i hc] at e1
        cases e1;omega
      rw[lnk,if_neg h12,if_neg hnn,if_neg hna,if_pos this]
     rw[hr]
     simp-implicitDefEqProofs[hg,Obj.cs,a0,a2,a0e,a2e,hgt]
    |none=>
     rw[hf] at hgt
     obtain⟨ae',hm1,hM2⟩:=hM.step hc hf
     simp-implicitDefEqProofs[hg,Obj.cs,a0,a2,a0e,a2e,hgt,hm1]
     refine⟨⟨i+1,ae',_⟩,⟨hc,?_,?_,?_,hM2,λj h hj=>?_⟩,by simp only;omega,bh (Nat.zero_le _) (by simp[below,hwi];omega)⟩
     ·simp only;rw[List.getElem?_set_self (by simp<;>omega)]
     ·simp only;rw[List.getElem?_set_ne (by omega),List.getElem?_append_left (by omega)];exact g1
     ·simp only;rw[List.getElem?_set_ne (by omega),List.getElem?_append_left (by omega)];exact g2
     ·simp only at hj
      rcases Nat.lt_or_ge j i with h1|h1
      ·exact hap j h h1
      ·have:j=i:=by omega
       subst this
       rw[atN,List.findIdx?_eq_some_iff_getElem]
       refine⟨h,by simp,λq hq=>?_⟩
       rw[atN,List.findIdx?_eq_none_iff] at hf
       have:=hf os[q] (List.mem_take_iff_getElem.2 ⟨q,by omega,rfl⟩)
       simpa using this
   ·have hie:os.length<=i:=by simpa using hc
    have hap1:mc os=true:=apart_iff.2 λj h=>hap j h (by omega)
    have hnap:¬mc os=false:=by rw[hap1];simp
    have hae:∀v,bw (.str v) ae=some ((atN os v).map λ(k:Nat)=>AV.p (.int .i64 (k:Int))):=λv=>by
     have:=hM.get v
     rwa[List.take_of_length_le hie] at this
    have hL0:LkH os ae lk0 X:=by
     refine⟨g0,⟨[],g1,λe he=>(by cases he),λv k _=>rfl⟩,.nils,?_,.inl ⟨rfl,rfl⟩⟩
     rw[g2,hB];rfl
    have hcall:=hPut hok (by omega) ae hae X (by rw[vW];omega) (λ_=>Nat.zero_le _) (by rw[vW];show 0+_<=_;omega) hL0
    generalize hT:cr (atN os) (csW os) (os.length+1) w lk0=T at hcall q1 q2 q3
    simp-implicitDefEqProofs[]
    refine AC.mono hcall ?_
    rintro _ Y ⟨rfl,e1,e2⟩
    obtain⟨V,z2,hV⟩:=e2.bx
    rw[hLn] at z2
    cases hl:T.lost with
    |true=>
     rw[hl] at z2
     have hr:lnk os w=([],3):=by rw[lnk,if_neg h12,if_neg hnn,if_neg hna,if_neg hnap,if_pos (lostB_iff.2 (q1.1 hl))]
     rw[hr]
     simp-implicitDefEqProofs[ag,z2]
    |false=>
     have hnlost:¬Cc os w=true:=λh=>by rw[q1.2 (lostB_iff.1 h)] at hl;cases hl
     have q2:=q2 hl
     have q3:=q3 hl
     rw[hl] at z2
     cases hr:T.round with
     |true=>
      rw[hr] at z2
      have hr2:lnk os w=([],4):=by rw[lnk,if_neg h12,if_neg hnn,if_neg hna,if_neg hnap,if_neg hnlost,if_pos (rndB_iff.2 (q2.1 hr))]
      rw[hr2]
      simp-implicitDefEqProofs[ag,z2]
     |false=>
      rw[hr] at z2
      have hnr:¬Hf os w=true:=λh=>by rw[q2.2 (rndB_iff.1 h)] at hr;cases hr
      have hO:T.out=uA os w:=(q3 hr).1
      have hres:lnk os w=if 4<T.out.length then([],5) else(T.out,0):=by rw[hO,lnk,if_neg h12,if_neg hnn,if_neg hna,if_neg hnap,if_neg hnlost,if_neg hnr]
      rw[hres]
      rcases hV with⟨rfl,he⟩|⟨id,_,rfl,h5⟩
      ·exfalso
       have hne:uA os w≠[]:=by
        rw[uA,pD]
        cases hk:atN os w with
        |none=>exact absurd (lostB_iff.2 (.inl hk)) hnlost
        |some k=>simp only;rw[lR (by simp)];simp
       exact hne (hO▸he)
      ·by_cases h4:4<T.out.length
       ·have h4i:(4:Int)<(T.out.length:Int):=by omega
        simp-implicitDefEqProofs[ag,z2,h4,h4i]
       ·have h4i:¬(4:Int)<(T.out.length:Int):=by omega
        simp-implicitDefEqProofs[ag,z2,h4,h4i]
        exact h5
theorem yf(os:List Obj)(ho:ObsOk os)(w:List UInt8)(hw:w.length<=1048576)(h0:(lnk os w).2=0):AC Tryz.prog G bq [.p (obL os),.p (.str w)] [] λx h=>x= .ret (.tup [.sl 0 1 0 (lnk os w).1.length,.p (.int .i64 0)])/\h=[.row 1 (dL (bv (lnk os w).1))]:=by
 refine(lZ G hG hK os ho w hw).gc (λt v h e=>?_) λv h e=>?_
 ·rw[if_pos h0] at e;obtain⟨_,e,_⟩:=e;cases e
 ·rw[if_pos h0] at e
  obtain⟨id,e1,e2⟩:=e
  cases e1
  refine⟨.tup [.sl 0 1 0 (lnk os w).1.length,.p (.int .i64 0)],[.row 1 (dL (bv (lnk os w).1))],⟨[id],by simp,by simp,by simp,by simp[below,aa],by simp[ren,aF],af e2 ?_ aj⟩,rfl,rfl⟩
  intro x hx
  obtain⟨m,_,rfl⟩:=List.mem_map.1 hx
  simp[aa,below]
theorem vE(os:List Obj)(ho:ObsOk os)(w:List UInt8)(hw:w.length<=1048576):VF Tryz.prog G bq [.p (obL os),.p (.str w)] (.tup [.p (bc (bv (lnk os w).1)),.p (.int .i64 (lnk os w).2)]):=by
 by_cases h0:(lnk os w).2=0
 ·have h1:=yf G hG hK os ho w hw h0
  rw[h0]
  refine AC.freeze h1 (.tup (.one ?_ (.keep (by simp[below]) .nil)) .nil)
  have:=mt (h:=[.row 1 (dL (bv (lnk os w).1))]) (id:=0) (l:=bv (lnk os w).1) rfl
  rwa[gY] at this
 ·refine((lZ G hG hK os ho w hw).mono (R':=λr _=>r= .ret (.tup [.nils,.p (.int .i64 (lnk os w).2)])) λr h e=>by rw[if_neg h0] at e;exact e).freezeR (λt v h e=>by cases e) λv h e=>?_
  cases e
  rw[BQ h0]
  exact .tup (.one (View.nils 1) (.keep (by simp[below]) .nil)) .nil
end
section
theorem tJ{s:Bool}{h:List AO}{vs:List AV}{q:PV}{I:List Nat}(H:OwnL s h vs [q] I):∃v,vs=[v]:=by
 have:=H.len
 match vs,this with
 |[v],_=>exact⟨v,rfl⟩
theorem Dn{s:Bool}{h:List AO}{vs:List AV}{q r t:PV}{I:List Nat}(H:OwnL s h vs [q,r,t] I):∃a b c,vs=[a,b,c]:=by
 have:=H.len
 match vs,this with
 |[a,b,c],_=>exact⟨a,b,c,rfl⟩
theorem mI(q:PV):(AV.p q).cells=[.p q]:=rfl
theorem cD:AV.nils.cells=[.nils]:=rfl
theorem dY(c:List AV):(AV.agg c).cells=c:=rfl
theorem mG(q:PV):(AV.p q).isCell=true:=rfl
theorem cA:AV.nils.isCell=true:=rfl
theorem rm{s:Bool}{h:List AO}{v:AV}{q:PV}{I:List Nat}(H:OwnL s h [v] [q] I):v.cells=[v]/\v.isCell=true:=by
 cases H with
 |p _ _ _=>exact⟨rfl,rfl⟩
 |nils _ _=>exact⟨rfl,rfl⟩
 |sl id sz n rows es _ _ _ _ _ _ _=>exact⟨rfl,rfl⟩
theorem Ea{h:List AO}:∀{l:List PV},(∀q∈l,Bz q=true)->OwnL true h (l.map .p) l []
 |[],_=> .nil
 |q::r,hq=> .p q (λ_=>hq q (by simp)) (Ea λx hx=>hq x (by simp[hx]))
theorem fu{α β:Type}(f:α->β):∀l:List α,(l.map λx=>[f x]).flatten=l.map f
 |[]=>rfl
 |w::r=>by rw[List.map_cons,List.flatten_cons,fu f r];rfl
theorem tC{α:Type}{h:List AO}{id:Nat}(f:α->PV)(hf:∀x,Bz (f x)=true){l:List α}(e:h[id]?=some (.row 1 (l.map λx=>[AV.p (f x)]))){n:Nat}(hn:n=l.length):OwnL true h [.sl id 1 0 n] [.lst 1 (l.map λx=>[f x])] [id]:=by
 refine .sl id 1 n _ (l.map λx=>[f x]) e (by simp[hn]) (by simp) (λx hx=>?_) (λx hx=>?_) (J:=[]) ?_ .nil
 ·obtain⟨m,_,rfl⟩:=List.mem_map.1 hx;rfl
 ·obtain⟨m,_,rfl⟩:=List.mem_map.1 hx;rfl
 ·rw[fu (λx=>AV.p (f x)),fu f]
  have:=Ea (h:=h) (l:=l.map f) (λq hq=>by obtain⟨m,_,rfl⟩:=List.mem_map.1 hq;exact hf m)
  rwa[List.map_map] at this
theorem vh{h:List AO}{id:Nat}{l:List Int}(e:h[id]?=some (bN l)){n:Nat}(hn:n=l.length):OwnL true h [.sl id 1 0 n] [aN l] [id]:=tC (PV.int .u8) (λ_=>rfl) e hn
theorem pZ{h:List AO}{id:Nat}{l:List Int}(e:h[id]?=some (gy l)){n:Nat}(hn:n=l.length):OwnL true h [.sl id 1 0 n] [bc l] [id]:=tC (PV.int .i64) (λ_=>rfl) e hn
theorem vq{h:List AO}{id:Nat}{l:List (List UInt8)}(e:h[id]?=some (fv l)){n:Nat}(hn:n=l.length):OwnL true h [.sl id 1 0 n] [aW l] [id]:=tC PV.str (λ_=>rfl) e hn
theorem DV{s:Bool}{h:List AO}{vs:List AV}{o:Obj}{I:List Nat}(H:OwnL s h vs o.cs I):∃A B E I1 I2 I3,vs=[.p (.str o.name),.p (.int .i64 o.params),.p (.int .i64 o.slots),A,B,E]/\I=I1++(I2++I3)/\OwnL s h [A] [aN o.code] I1/\OwnL s h [B] [bc o.calls] I2/\OwnL s h [E] [aW o.names] I3:=by
 rw[show o.cs=[.str o.name,.int .i64 o.params,.int .i64 o.slots,aN o.code,bc o.calls,aW o.names] from rfl] at H
 cases H with
 |p _ _ H=>
  cases H with
  |p _ _ H=>
   cases H with
   |p _ _ H=>
    obtain⟨A,B,E,rfl⟩:=Dn H
    obtain⟨I1,I',rfl,h1,H⟩:=H.one
    obtain⟨I2,I3,rfl,h2,h3⟩:=H.one
    exact⟨A,B,E,I1,I2,I3,rfl,rfl,h1,h2,h3⟩
theorem Eh{s:Bool}{h:List AO}{o:Obj}{A B E:AV}{I1 I2 I3:List Nat}(h1:OwnL s h [A] [aN o.code] I1)(h2:OwnL s h [B] [bc o.calls] I2)(h3:OwnL s h [E] [aW o.names] I3):
 OwnL s h [.p (.str o.name),.p (.int .i64 o.params),.p (.int .i64 o.slots),A,B,E] o.cs (I1++(I2++I3)):=
 .p _ (λ_=>rfl) (.p _ (λ_=>rfl) (.p _ (λ_=>rfl) (h1.app (h2.app h3))))
theorem Lr{r:List AV}(h:r.length=6):∃a b c d e f,r=[a,b,c,d,e,f]:=by
 match r,h with
 |[a,b,c,d,e,f],_=>exact⟨a,b,c,d,e,f,rfl⟩
def kX(os:List Obj):Nat:=os.length+(os.map szO).sum
def om(os:List Obj)(i:Nat):Nat:=((os.take i).map szO).sum
theorem CN{os:List Obj}{i:Nat}(h:i<os.length):om os (i+1)=om os i+szO os[i]:=by
 show((os.take (i+1)).map szO).sum=((os.take i).map szO).sum+szO os[i]
 rw[aq h,List.map_append,List.sum_append];rfl
theorem EH{os:List Obj}{i:Nat}(h:os.length<=i):om os i=(os.map szO).sum:=by rw[om,List.take_of_length_le h]
theorem GK{os:List Obj}{i:Nat}:om os i<=(os.map szO).sum:=by
 conv=>rhs;rw[←List.take_append_drop i os,List.map_append,List.sum_append]
 simp[om]
theorem yc{os:List Obj}{o:Obj}(h:o∈os):szO o<=(os.map szO).sum:=by
 induction os with
 |nil=>cases h
 |cons x r ih=>
  rw[List.map_cons,List.sum_cons]
  rcases List.mem_cons.1 h with rfl|h
  ·omega
  ·have:=ih h;omega
variable (G:ay)
theorem yp(os:List Obj)(hb:os.length<=9223372036854775807)(ho:∀o∈os,ObjSm o):VF Tryz.prog G gf [.p (obL os),.p (.int .i64 1048576)] (.p (.int .i64 (if kX os<=1048576 then((1048576-kX os:Nat):Int) else-1))):=by
 refine AC.go pW ?_
 have hLn:obL os= .lst 6 (os.map Obj.cs):=rfl
 have hw:IntKind.i64.wrap (1048576-(os.length:Int))=1048576-(os.length:Int):=ab (by omega) (by omega)
 have hsz:kX os=os.length+(os.map szO).sum:=rfl
 by_cases h:os.length<=1048576
 case neg=>
  have h1:1048576-(os.length:Int)<0:=by omega
  have h2:¬kX os<=1048576:=by omega
  simp-implicitDefEqProofs[fL,hLn,hw,h1,h2]
 have h1:¬1048576-(os.length:Int)<0:=by omega
 simp-implicitDefEqProofs[fL,hLn,hw,h1]
 refine az (λi:Nat=>aB 27 [(0,.p (.lst 6 (os.map Obj.cs))),(1,.p (.int .i64 ((1048576-os.length-om os i:Nat):Int))),(5,.p (.int .i64 i))]) (λ_=>[]) (λi=>i<=os.length/\os.length+om os i<=1048576) (λi=>os.length-i) 0 (by simp[om];omega) ?_ ?_
 ·refine aA rfl ?_
  simp[below,om]
  omega
 ·intro i ⟨hi,hx⟩
  simp-implicitDefEqProofs[]
  refine bf (λh1=>?_) (λh1=>?_)
  ·have h1:i<os.length:=by simpa using h1
   have hg:=List.getElem?_eq_getElem h1
   have hsu:=CN h1
   have hsl:=GK (os:=os) (i:=i+1)
   have hc:=Ax G os[i] (1048576-os.length-om os i) (by omega) (ho _ (List.getElem_mem h1))
   generalize os[i]=o at hg hsu hc
   simp-implicitDefEqProofs[hg]
   refine hc.use ?_
   by_cases h2:szO o<=1048576-os.length-om os i
   ·have h3:¬((1048576-os.length-om os i-szO o:Nat):Int)<0:=by omega
    simp-implicitDefEqProofs[h2,h3]
    refine⟨i+1,⟨h1,by omega⟩,by omega,aA rfl ?_⟩
    simp[below,w1 (i:=i) (by omega)]
    omega
   ·have h5:¬kX os<=1048576:=by omega
    simp-implicitDefEqProofs[h2,h5]
  ·simp at h1
   have hta:=EH (os:=os) h1
   have h5:kX os<=1048576:=by omega
   have h6:((1048576-os.length-om os i:Nat):Int)=((1048576-kX os:Nat):Int):=by omega
   simp-implicitDefEqProofs[h5,h6]
theorem ze(o:Obj)(h1:o.code.length<=1048576)(h2:o.calls.length<=1048576)(h3:o.names.length<=1048576):AC Tryz.prog G cg [.agg (o.cs.map .p)] [] (MkW .agg true o.cs):=by
 refine(As G o h1 h2 h3).mono ?_
 rintro _ _ ⟨rfl,rfl⟩
 refine⟨o.ov 0 1 2,[0]++([1]++[2]),rfl,Eh (vh rfl rfl) (pZ rfl rfl) (vq rfl rfl),by simp⟩
def zOb:List PV:=[.str [],.int .i64 0,.int .i64 0,.lst 1 [],.lst 1 [],.lst 1 []]
theorem yn(l:List Obj)(hb:l.length<=1048576)(H:∀e∈l,AC Tryz.prog G cg [.agg (e.cs.map .p)] [] (MkW .agg true e.cs)):AC Tryz.prog G br [.p (obL l)] [] (MkW kY true [obL l]):=by
 have hsl:obL l= .lst 6 (l.map Obj.cs):=rfl
 refine AC.go pG ?_
 simp-implicitDefEqProofs[jH,hsl]
 refine⟨by omega,?_⟩
 refine az (λa:FilS=>aB 23 [(0,.p (.lst 6 (l.map Obj.cs))),(3,.sl 0 6 0 l.length),(4,.p (.int .i64 a.i))]) (λa=>a.h) (FilI true 0 6 (l.map Obj.cs) zOb) (λa=>l.length-a.i) ⟨0,[.row 6 (List.replicate l.length [.p (.str []),.p (.int .i64 0),.p (.int .i64 0),.nils,.nils,.nils])]⟩
  (FilI.init rfl (by simp) (.p _ (λ_=>rfl) (.p _ (λ_=>rfl) (.p _ (λ_=>rfl) (.nils 1 (.nils 1 (.nils 1 .nil)))))) rfl) ?_ ?_
 ·exact bh (by simp) (by simp[below])
 ·rintro⟨i,hh⟩ hI
  simp-implicitDefEqProofs[]
  refine bf (λh1=>?_) (λh1=>?_)
  ·simp at h1
   have hg:=List.getElem?_eq_getElem h1
   have hH:=H l[i] (List.getElem_mem h1)
   have hD':(l.map Obj.cs)[i]?=some l[i].cs:=by rw[List.getElem?_map,hg];rfl
   generalize l[i]=e at hg hH hD'
   have hcs:e.cs=[.str e.name,.int .i64 e.params,.int .i64 e.slots,aN e.code,bc e.calls,aW e.names]:=rfl
   have hA:=AC.mkLift FQ hH (h:=hh) (by rw[hcs];simp)
   rw[hcs] at hA
   simp-implicitDefEqProofs[hg,hcs]
   refine hA.mono ?_
   rintro r h2 ⟨vs,I2,os,rfl,e2,ho,nd,hf⟩
   rw[←hcs] at ho
   obtain⟨rows,r0,k1,k2,k3,k4,k5,k6⟩:=hI.step hD' e2 ho nd hf e.cs_len
   obtain⟨A,B,E,I3,I4,I5,rfl,_,hA1,hA2,hA3⟩:=DV ho
   obtain⟨c1,c2⟩:=rm hA1
   obtain⟨c3,c4⟩:=rm hA2
   obtain⟨c5,c6⟩:=rm hA3
   obtain⟨z1,z2,z3,z4,z5,z6,rfl⟩:=Lr k3
   have hll:0<h2.length:=(List.getElem?_eq_some_iff.1 k1).1
   simp-implicitDefEqProofs[-AV.cells,-AV.isCell,mI,cD,dY,mG,cA,c1,c2,c3,c4,c5,c6,ag,k1,k2,h1,eS]
   refine⟨_,k6,by simp;omega,bh (by simp) ?_⟩
   simp[below,w1 (i:=i) (by omega)]
   omega
  ·simp at h1
   obtain⟨rows,J,hr⟩:=hI.done (by simpa using h1)
   simp-implicitDefEqProofs[]
   exact⟨_,_,rfl,hr.tree (by simp),hr.nd⟩
theorem BY(os:List Obj)(hz:kX os<=1048576):AC Tryz.prog G br [.p (obL os)] [] (MkW kY true [obL os]):=by
 have hsz:kX os=os.length+(os.map szO).sum:=rfl
 refine yn G os (by omega) λo ho=>?_
 have h1:=yc ho
 have hszo:szO o=o.name.length+o.code.length+o.calls.length+szW o.names:=rfl
 have hwz:szW o.names=o.names.length+(o.names.map List.length).sum:=rfl
 exact ze G o (by omega) (by omega) (by omega)
theorem Gl(os:List Obj)(hz:kX os<=1048576):VF Tryz.prog G br [.p (obL os)] (.p (obL os)):=AC.mkFreeze (w:=kY) (qs:=[_]) shp_one (BY G os hz)
theorem Ha(os:List Obj)(hz:kX os<=1048576):VF Tryz.prog G fK [.p (obL os),.p (obL os)] (.p (.bool true)):=by
 have hsz:kX os=os.length+(os.map szO).sum:=rfl
 have hLn:obL os= .lst 6 (os.map Obj.cs):=rfl
 refine AC.go ra ?_
 simp-implicitDefEqProofs[jJ,hLn]
 refine az (λi:Nat=>aB 27 [(0,.p (.lst 6 (os.map Obj.cs))),(1,.p (.lst 6 (os.map Obj.cs))),(5,.p (.int .i64 i))]) (λ_=>[]) (λi=>i<=os.length) (λi=>os.length-i) 0 (by simp) ?_ ?_
 ·exact aA rfl (by simp[below])
 intro i hi
 simp-implicitDefEqProofs[]
 refine bf (λh1=>?_) (λh1=>?_)
 ·simp at h1
  have hg:=List.getElem?_eq_getElem h1
  have h2:=yc (List.getElem_mem h1)
  generalize os[i]=o at hg h2
  have hszo:szO o=o.name.length+o.code.length+o.calls.length+szW o.names:=rfl
  have hwz:szW o.names=o.names.length+(o.names.map List.length).sum:=rfl
  have hc:=AL G o o (by omega) (by omega) (by omega)
  simp-implicitDefEqProofs[hg]
  refine hc.use ?_
  simp-implicitDefEqProofs[]
  exact⟨i+1,h1,by omega,aA rfl (by simp[below,w1 (i:=i) (by omega)])⟩
 ·simp at h1
  simp-implicitDefEqProofs[]
end
section
theorem oM{α:Type}:∀{rows:List (List α)} {l:List α},rows.flatten=l->(∀e∈rows,e.length=1)->rows=l.map λx=>[x]
 |[],l,e,_=>by subst e;rfl
 |r::rs,l,e,h=>by
  subst e
  have h1:=h r (by simp)
  match r,h1 with
  |[x],_=>
   have ih:=oM (rows:=rs) rfl λe he=>h e (by simp[he])
   rw[List.flatten_cons,List.singleton_append,List.map_cons,←ih]
theorem pf{α:Type}(f:α->PV)(hn:∀x sz y es,f x≠ .lst sz (y::es))(hn2:∀x sz,f x≠ .lst sz []){h:List AO}:∀{ps:List α} {vs:List AV} {J:List Nat},OwnL true h vs (ps.map f) J->vs=ps.map (λw=> .p (f w))/\J=[]
 |[],vs,J,H=>by
  cases H
  exact⟨rfl,rfl⟩
 |w::r,vs,J,H=>by
  rw[List.map_cons] at H
  generalize hq:f w=q at H
  cases H with
  |p _ _ H=>
   obtain⟨e1,e2⟩:=pf f hn hn2 H
   exact⟨by rw[e1,List.map_cons,hq],e2⟩
  |nils sz H=>exact absurd hq (hn2 w sz)
  |sl id sz n rows es a1 a2 a3 a4 a5 a6 H=>
   cases es with
   |nil=>exact absurd hq (hn2 w sz)
   |cons y es=>exact absurd hq (hn w sz y es)
variable (G:ay)
theorem Ht(h:List AO)(v:AV)(I:List Nat)(ps:List Int)(k:Nat)(ho:OwnL true h [v] [aN ps] I)(nd:I.Nodup)(hk:k+ps.length<=1152921504606846976):
 AC Tryz.prog G dS [v,.p (.int .i64 k)] h (Mkd h v I (aN (oT k ps.length)) (.int .i64 ((k+ps.length:Nat):Int))):=by
 rcases ho.inv nd with⟨h0,rfl,rfl|rfl⟩|⟨h0,_⟩|⟨id,rows,J,rfl,rfl,hr⟩
 ·have hl0:ps=[]:=List.map_eq_nil_iff.1 h0
  subst hl0
  refine AC.go dU ?_
  have hst:Mkd h .nils [] (aN (oT k 0)) (.int .i64 ((k+0:Nat):Int)) (.ret (.p (.int .i64 k))) h:=⟨rfl,.nils 1 .nil,λ_ _ _=>rfl,Nat.le_refl _⟩
  simp-implicitDefEqProofs[dN]
  refine az (λ_:Unit=>aB 20 [(0,.nils),(1,.p (.int .i64 k)),(5,.p (.int .i64 0))]) (λ_=>h) (λ_=>True) (λ_=>0) () trivial (bh (Nat.le_refl _) (by simp[below])) ?_
  intro _ _
  simp-implicitDefEqProofs[]
  exact hst
 ·have hl0:ps=[]:=List.map_eq_nil_iff.1 h0
  subst hl0
  refine AC.go dU ?_
  have hst:Mkd h (.p (.lst 1 [])) [] (aN (oT k 0)) (.int .i64 ((k+0:Nat):Int)) (.ret (.p (.int .i64 k))) h:=⟨rfl,.p _ (λ_=>rfl) .nil,λ_ _ _=>rfl,Nat.le_refl _⟩
  simp-implicitDefEqProofs[dN]
  refine az (λ_:Unit=>aB 20 [(0,.p (.lst 1 [])),(1,.p (.int .i64 k)),(5,.p (.int .i64 0))]) (λ_=>h) (λ_=>True) (λ_=>0) () trivial (bh (Nat.le_refl _) (by simp[below])) ?_
  intro _ _
  simp-implicitDefEqProofs[]
  exact hst
 ·cases h0
 rw[List.length_map]
 have hown:=hr.own
 rw[fu] at hown
 obtain⟨e1,e2⟩:=pf (PV.int .u8) (λ_ _ _ _ e=>by cases e) (λ_ _ e=>by cases e) hown
 subst e2
 have e3:=oM e1 hr.rl
 have hh:h[id]?=some (bN ps):=by rw[hr.here,e3,List.map_map];rfl
 refine(zA G hh hk).mono ?_
 rintro x h' ⟨rfl,rfl⟩
 have hid:id<h.length:=hr.lt
 refine⟨rfl,vh (List.getElem?_set_self hid) (by simp[oT]),λj hj hn=>?_,by simp⟩
 simp at hn
 exact List.getElem?_set_ne λe=>hn e.symm
theorem Et(h:List AO)(v:AV)(I:List Nat)(ps:List Int)(k:Nat)(ho:OwnL true h [v] [bc ps] I)(nd:I.Nodup)(hk:k+ps.length<=1152921504606846976):
 AC Tryz.prog G dj [v,.p (.int .i64 k)] h (Mkd h v I (bc (jd k ps.length)) (.int .i64 ((k+ps.length:Nat):Int))):=by
 rcases ho.inv nd with⟨h0,rfl,rfl|rfl⟩|⟨h0,_⟩|⟨id,rows,J,rfl,rfl,hr⟩
 ·have hl0:ps=[]:=List.map_eq_nil_iff.1 h0
  subst hl0
  refine AC.go eM ?_
  have hst:Mkd h .nils [] (bc (jd k 0)) (.int .i64 ((k+0:Nat):Int)) (.ret (.p (.int .i64 k))) h:=⟨rfl,.nils 1 .nil,λ_ _ _=>rfl,Nat.le_refl _⟩
  simp-implicitDefEqProofs[eO]
  refine az (λ_:Unit=>aB 19 [(0,.nils),(1,.p (.int .i64 k)),(5,.p (.int .i64 0))]) (λ_=>h) (λ_=>True) (λ_=>0) () trivial (bh (Nat.le_refl _) (by simp[below])) ?_
  intro _ _
  simp-implicitDefEqProofs[]
  exact hst
 ·have hl0:ps=[]:=List.map_eq_nil_iff.1 h0
  subst hl0
  refine AC.go eM ?_
  have hst:Mkd h (.p (.lst 1 [])) [] (bc (jd k 0)) (.int .i64 ((k+0:Nat):Int)) (.ret (.p (.int .i64 k))) h:=⟨rfl,.p _ (λ_=>rfl) .nil,λ_ _ _=>rfl,Nat.le_refl _⟩
  simp-implicitDefEqProofs[eO]
  refine az (λ_:Unit=>aB 19 [(0,.p (.lst 1 [])),(1,.p (.int .i64 k)),(5,.p (.int .i64 0))]) (λ_=>h) (λ_=>True) (λ_=>0) () trivial (bh (Nat.le_refl _) (by simp[below])) ?_
  intro _ _
  simp-implicitDefEqProofs[]
  exact hst
 ·cases h0
 rw[List.length_map]
 have hown:=hr.own
 rw[fu] at hown
 obtain⟨e1,e2⟩:=pf (PV.int .i64) (λ_ _ _ _ e=>by cases e) (λ_ _ e=>by cases e) hown
 subst e2
 have e3:=oM e1 hr.rl
 have hh:h[id]?=some (gy ps):=by rw[hr.here,e3,List.map_map];rfl
 refine(zY G hh hk).mono ?_
 rintro x h' ⟨rfl,rfl⟩
 have hid:id<h.length:=hr.lt
 refine⟨rfl,pZ (List.getElem?_set_self hid) (by simp[jd]),λj hj hn=>?_,by simp⟩
 simp at hn
 exact List.getElem?_set_ne λe=>hn e.symm
theorem Hz(h:List AO)(v:AV)(I:List Nat)(ps:List (List UInt8))(k:Nat)(ho:OwnL true h [v] [aW ps] I)(nd:I.Nodup)(hk:k+ps.length<=1152921504606846976):
 AC Tryz.prog G cW [v,.p (.int .i64 k)] h (Mkd h v I (aW (pt k ps.length)) (.int .i64 ((k+ps.length:Nat):Int))):=by
 rcases ho.inv nd with⟨h0,rfl,rfl|rfl⟩|⟨h0,_⟩|⟨id,rows,J,rfl,rfl,hr⟩
 ·have hl0:ps=[]:=List.map_eq_nil_iff.1 h0
  subst hl0
  refine AC.go cX ?_
  have hst:Mkd h .nils [] (aW (pt k 0)) (.int .i64 ((k+0:Nat):Int)) (.ret (.p (.int .i64 k))) h:=⟨rfl,.nils 1 .nil,λ_ _ _=>rfl,Nat.le_refl _⟩
  simp-implicitDefEqProofs[da]
  refine az (λ_:Unit=>aB 20 [(0,.nils),(1,.p (.int .i64 k)),(5,.p (.int .i64 0))]) (λ_=>h) (λ_=>True) (λ_=>0) () trivial (bh (Nat.le_refl _) (by simp[below])) ?_
  intro _ _
  simp-implicitDefEqProofs[]
  exact hst
 ·have hl0:ps=[]:=List.map_eq_nil_iff.1 h0
  subst hl0
  refine AC.go cX ?_
  have hst:Mkd h (.p (.lst 1 [])) [] (aW (pt k 0)) (.int .i64 ((k+0:Nat):Int)) (.ret (.p (.int .i64 k))) h:=⟨rfl,.p _ (λ_=>rfl) .nil,λ_ _ _=>rfl,Nat.le_refl _⟩
  simp-implicitDefEqProofs[da]
  refine az (λ_:Unit=>aB 20 [(0,.p (.lst 1 [])),(1,.p (.int .i64 k)),(5,.p (.int .i64 0))]) (λ_=>h) (λ_=>True) (λ_=>0) () trivial (bh (Nat.le_refl _) (by simp[below])) ?_
  intro _ _
  simp-implicitDefEqProofs[]
  exact hst
 ·cases h0
 rw[List.length_map]
 have hown:=hr.own
 rw[fu] at hown
 obtain⟨e1,e2⟩:=pf PV.str (λ_ _ _ _ e=>by cases e) (λ_ _ e=>by cases e) hown
 subst e2
 have e3:=oM e1 hr.rl
 have hh:h[id]?=some (fv ps):=by rw[hr.here,e3,List.map_map];rfl
 refine(uB G hh hk).mono ?_
 rintro x h' ⟨rfl,rfl⟩
 have hid:id<h.length:=hr.lt
 refine⟨rfl,vq (List.getElem?_set_self hid) (by simp[pt]),λj hj hn=>?_,by simp⟩
 simp at hn
 exact List.getElem?_set_ne λe=>hn e.symm
def obQ(o:Obj):Nat:=3+o.code.length+o.calls.length+o.names.length
def GJ(k:Nat)(o:Obj):Obj:=⟨iP k,((k+1:Nat):Int),((k+2:Nat):Int),oT (k+3) o.code.length,jd (k+3+o.code.length) o.calls.length,pt (k+3+o.code.length+o.calls.length) o.names.length⟩
def dM:List Obj->Nat
 |[]=>0
 |o::r=>obQ o+dM r
def nh(k:Nat):List Obj->List Obj
 |[]=>[]
 |o::r=>GJ k o::nh (k+obQ o) r
theorem tn:∀a b:List Obj,dM (a++b)=dM a+dM b
 |[],b=>by simp[dM]
 |s::r,b=>by rw[List.cons_append,dM,dM,tn r b];omega
theorem pu:∀(l:List Obj) (k:Nat),(nh k l).length=l.length
 |[],k=>rfl
 |e::r,k=>by rw[nh,List.length_cons,pu r,List.length_cons]
theorem zD:∀(l:List Obj) (k i:Nat) (e:Obj),l[i]?=some e->(nh k l)[i]?=some (GJ (k+dM (l.take i)) e)
 |x::r,k,0,e,h=>by cases h;rfl
 |x::r,k,i+1,e,h=>by
  have:=zD r (k+obQ x) i e h
  rw[nh,List.getElem?_cons_succ,this,List.take_succ_cons,dM]
  congr 2
  omega
theorem Di{l:List Obj}{i:Nat}(h:i<l.length):dM (l.take (i+1))=dM (l.take i)+obQ l[i]:=by
 rw[aq h,tn];simp[dM]
theorem vF(l:List Obj)(i:Nat):dM (l.take i)<=dM l:=by
 have e:dM l=dM (l.take i)+dM (l.drop i):=by rw[←tn,List.take_append_drop]
 omega
theorem Fa{l:List Obj}{e:Obj}(h:e∈l):obQ e<=dM l:=by
 induction l with
 |nil=>cases h
 |cons x r ih=>
  rw[dM]
  rcases List.mem_cons.1 h with rfl|h
  ·omega
  ·have:=ih h;omega
theorem BU:∀l:List Obj,dM l<=3*kX l
 |[]=>by simp[dM]
 |o::r=>by
  have ih:=BU r
  have hszo:szO o=o.name.length+o.code.length+o.calls.length+szW o.names:=rfl
  have hwz:szW o.names=o.names.length+(o.names.map List.length).sum:=rfl
  have h1:kX (o::r)=kX r+1+szO o:=by
   show(r.length+1)+((o::r).map szO).sum=(r.length+(r.map szO).sum)+1+szO o
   rw[List.map_cons,List.sum_cons];omega
  have h2:dM (o::r)=obQ o+dM r:=rfl
  have h3:obQ o=3+o.code.length+o.calls.length+o.names.length:=rfl
  omega
theorem uu(l:List Obj)(h:List AO)(v:AV)(I:List Nat)(k:Nat)(ho:OwnL true h [v] [obL l] I)(nd:I.Nodup)(hk:k+dM l<=1152921504606846976)(hlen:l.length<=1048576):
 AC Tryz.prog G eX [v,.p (.int .i64 k)] h (Mkd h v I (obL (nh k l)) (.int .i64 ((k+dM l:Nat):Int))):=by
 rcases ho.inv nd with⟨h0,rfl,rfl|rfl⟩|⟨h0,_⟩|⟨id,rows,J,rfl,rfl,hr⟩
 ·have hl0:l=[]:=List.map_eq_nil_iff.1 h0
  subst hl0
  refine AC.go eP ?_
  have hst:Mkd h .nils [] (obL (nh k [])) (.int .i64 ((k+dM []:Nat):Int)) (.ret (.p (.int .i64 k))) h:=⟨rfl,.nils 6 .nil,λ_ _ _=>rfl,Nat.le_refl _⟩
  simp-implicitDefEqProofs[cZ]
  refine az (λ_:Unit=>aB 56 [(0,.nils),(1,.p (.int .i64 k)),(5,.p (.int .i64 0))]) (λ_=>h) (λ_=>True) (λ_=>0) () trivial (bh (Nat.le_refl _) (by simp[below])) ?_
  intro _ _
  simp-implicitDefEqProofs[]
  exact hst
 ·have hl0:l=[]:=List.map_eq_nil_iff.1 h0
  subst hl0
  refine AC.go eP ?_
  have hst:Mkd h (.p (.lst 6 [])) [] (obL (nh k [])) (.int .i64 ((k+dM []:Nat):Int)) (.ret (.p (.int .i64 k))) h:=⟨rfl,.p _ (λ_=>rfl) .nil,λ_ _ _=>rfl,Nat.le_refl _⟩
  simp-implicitDefEqProofs[cZ]
  refine az (λ_:Unit=>aB 56 [(0,(.p (.lst 6 []))),(1,.p (.int .i64 k)),(5,.p (.int .i64 0))]) (λ_=>h) (λ_=>True) (λ_=>0) () trivial (bh (Nat.le_refl _) (by simp[below])) ?_
  intro _ _
  simp-implicitDefEqProofs[]
  exact hst
 ·cases h0
 rw[List.length_map]
 refine AC.go eP ?_
 simp-implicitDefEqProofs[cZ]
 refine az (λa:FilS=>aB 56 [(0,.sl id 6 0 l.length),(1,.p (.int .i64 ((k+dM (l.take a.i):Nat):Int))),(5,.p (.int .i64 a.i))]) (λa=>a.h) (MkI h id 6 ((nh k l).map Obj.cs) (l.map Obj.cs) J) (λa=>l.length-a.i) ⟨0,h⟩ (MkI.init hr) ?_ ?_
 ·exact bh (Nat.le_refl _) (by simp[below,dM,hr.lt])
 rintro⟨i,hh⟩ hI
 simp-implicitDefEqProofs[]
 refine bf (λh1=>?_) (λh1=>?_)
 ·simp at h1
  have hg:=List.getElem?_eq_getElem h1
  have hP:=Di h1
  have hM:=Fa (List.getElem_mem h1)
  have hT:=vF l (i+1)
  generalize l[i]=e at hg hP hM
  have hD:(l.map Obj.cs)[i]?=some e.cs:=by rw[List.getElem?_map,hg];rfl
  have hA:((nh k l).map Obj.cs)[i]?=some (GJ (k+dM (l.take i)) e).cs:=by rw[List.getElem?_map,zD l k i e hg];rfl
  obtain⟨rows',r,Ji,s1,s2,s3,s4,s5,s6,s7⟩:=hI.step hD hA
  obtain⟨A,B,E,I1,I2,I3,rfl,rfl,oA,oB,oE⟩:=DV s3
  obtain⟨c1,c2⟩:=rm oA
  obtain⟨c3,c4⟩:=rm oB
  obtain⟨c5,c6⟩:=rm oE
  have q1:∀x,(hh.set id x)[id]?=some x:=λx=>List.getElem?_set_self s5
  have q2:∀x,(rows'.set i x)[i]?=some x:=λx=>List.getElem?_set_self s6
  rw[List.nodup_cons] at s4
  obtain⟨hnid,n123⟩:=s4
  simp only[List.mem_append,not_or] at hnid
  obtain⟨x1,x2,x3⟩:=hnid
  obtain⟨n1,n23,d123⟩:=List.nodup_append.1 n123
  obtain⟨n2,n3,d23⟩:=List.nodup_append.1 n23
  have hq3:obQ e=3+e.code.length+e.calls.length+e.names.length:=rfl
  have hmt:=tY G (k+dM (l.take i)) (by omega)
  generalize hkk:k+dM (l.take i)=kk at*
  have hkI:(k:Int)+(dM (l.take i):Int)=(kk:Int):=by omega
  have w0:IntKind.i64.wrap ((kk:Int)+1)=(kk:Int)+1:=ab (by omega) (by omega)
  have w2:IntKind.i64.wrap ((kk:Int)+1+1)=(kk:Int)+1+1:=ab (by omega) (by omega)
  have w3:IntKind.i64.wrap ((kk:Int)+1+1+1)=(kk:Int)+1+1+1:=ab (by omega) (by omega)
  have e3:((kk+3:Nat):Int)=(kk:Int)+1+1+1:=by omega
  have mA:=λh1 ho=>Ht G h1 A I1 e.code (kk+3) ho n1 (by omega)
  have mB:=λh1 ho=>Et G h1 B I2 e.calls (kk+3+e.code.length) ho n2 (by omega)
  have mE:=λh1 ho=>Hz G h1 E I3 e.names (kk+3+e.code.length+e.calls.length) ho n3 (by omega)
  rw[e3] at mA
  simp-implicitDefEqProofs[-AV.cells,-AV.isCell,mI,cD,dY,mG,cA,c1,c2,c3,c4,c5,c6,s1,s2,q1,q2,hkI,w0,w2]
  refine hmt.use ?_
  simp-implicitDefEqProofs[-AV.cells,-AV.isCell,mI,cD,dY,mG,cA,c1,c2,c3,c4,c5,c6,s1,s2,q1,q2,hkI,w0,w2,w3,h1]
  refine(mA _ (oA.set_out x1 _)).mono ?_
  rintro r h2 ⟨rfl,o2,f2,l2⟩
  rw[List.length_set] at f2 l2
  have g2:h2[id]?=some (.row 6 (rows'.set i [.p (.str (iP kk)),.p (.int .i64 ((kk:Int)+1)),.p (.int .i64 ((kk:Int)+1+1)),A,B,E])):=by rw[f2 id s5 x1,q1]
  simp-implicitDefEqProofs[-AV.cells,-AV.isCell,mI,cD,dY,mG,cA,c1,c2,c3,c4,c5,c6,ag,g2,q2,h1]
  have oB2:OwnL true h2 [B] [bc e.calls] I2:=oB.frame λj hj=>by
   have hne:id≠j:=λe=>x2 (by rw[e];exact hj)
   rw[f2 j (oB.lt hj) (λhm=>d123 j hm j (List.mem_append_left _ hj) rfl),List.getElem?_set_ne hne]
  have eB:((kk+3+e.code.length:Nat):Int)=(kk:Int)+3+(e.code.length:Int):=by omega
  rw[eB] at mB
  refine(mB _ oB2).mono ?_
  rintro r h3 ⟨rfl,o3,f3,l3⟩
  have g3:h3[id]?=some (.row 6 (rows'.set i [.p (.str (iP kk)),.p (.int .i64 ((kk:Int)+1)),.p (.int .i64 ((kk:Int)+1+1)),A,B,E])):=by rw[f3 id (by omega) x2,g2]
  simp-implicitDefEqProofs[-AV.cells,-AV.isCell,mI,cD,dY,mG,cA,c1,c2,c3,c4,c5,c6,ag,g3,q2,h1]
  have oE3:OwnL true h3 [E] [aW e.names] I3:=oE.frame λj hj=>by
   have:=oE.lt hj
   have hne:id≠j:=λe=>x3 (by rw[e];exact hj)
   rw[f3 j (by omega) (λhm=>d23 j hm j hj rfl),f2 j this (λhm=>d123 j hm j (List.mem_append_right _ hj) rfl),List.getElem?_set_ne hne]
  have eE:((kk+3+e.code.length+e.calls.length:Nat):Int)=(kk:Int)+3+(e.code.length:Int)+(e.calls.length:Int):=by omega
  rw[eE] at mE
  refine(mE _ oE3).mono ?_
  rintro r h4 ⟨rfl,o4,f4,l4⟩
  have hid4:id<h4.length:=by omega
  have hwi:=w1 (i:=i) (by omega)
  have hkn:k+dM (l.take (i+1))=kk+3+e.code.length+e.calls.length+e.names.length:=by omega
  have oA4:OwnL true h4 [A] [aN (oT (kk+3) e.code.length)] I1:=o2.frame λj hj=>by
   have:=o2.lt hj
   rw[f4 j (by omega) (λhm=>d123 j hj j (List.mem_append_right _ hm) rfl),f3 j this (λhm=>d123 j hj j (List.mem_append_left _ hm) rfl)]
  have oB4:OwnL true h4 [B] [bc (jd (kk+3+e.code.length) e.calls.length)] I2:=o3.frame λj hj=>by
   have:=o3.lt hj
   rw[f4 j this (λhm=>d23 j hj j hm rfl)]
  have hgo:=s7 h4 [.p (.str (iP kk)),.p (.int .i64 ((kk:Int)+1)),.p (.int .i64 ((kk:Int)+1+1)),A,B,E] (by rw[f4 id (by omega) x3,g3]) (λj hj hn hm=>by
   simp only[List.mem_append,not_or] at hm
   rw[f4 j (by omega) hm.2.2,f3 j (by omega) hm.2.1,f2 j hj hm.1,List.getElem?_set_ne (λe=>hn e.symm)]) (by
   have e2:(kk:Int)+1+1=((kk+2:Nat):Int):=by omega
   rw[e2]
   exact Eh (o:=GJ kk e) oA4 oB4 o4) (Obj.cs_len _) (by omega)
  simp-implicitDefEqProofs[ag]
  refine⟨⟨i+1,h4⟩,hgo,by simp only;omega,bh hgo.2.2.2 ?_⟩
  simp[below,hid4,hwi]
  omega
 ·simp at h1
  have hie:i=l.length:=by have:=hI.1;simp at this;omega
  obtain⟨⟨rows2,d1⟩,d2,d3⟩:=hI.done (by simpa using h1) (by simp[pu])
  subst hie
  rw[List.take_length]
  simp-implicitDefEqProofs[]
  refine⟨by simp,?_,d2,d3⟩
  have:=d1.tree (n:=l.length) (by simp[pu])
  exact this
end
section
def Be(c:Int)(vs:List AV):AV:= .tup [kY vs,.p (.int .i64 c)]
theorem Fw(c:Int):Shp (Be c):=by
 refine⟨λσ vs=>?_,λσ vs=>?_,λvs h=>?_,λn vs h=>?_,λh vs qs hv=>?_⟩
 ·have:=shp_one.ren σ vs
  simp only[Be,ren,aF,this]
 ·have:=shp_one.shift σ vs
  simp only[Be,aU,bi,this]
 ·have:=shp_one.clean vs h
  simp[Be,clean,cY,this]
 ·exact⟨shp_one.below n vs h,True.intro,True.intro⟩
 ·cases qs with
  |nil=>
   cases hv
   exact .tup (.keep True.intro (.keep (by simp[below]) .nil)) .nil
  |cons q qs=>
   cases hv with
   |one h1 _=>exact .tup (.one h1 (.keep (by simp[below]) .nil)) .nil
   |keep h1 _=>exact .tup (.keep h1 (.keep (by simp[below]) .nil)) .nil
variable (G:ay)
theorem Aa(k n:Nat)(hk:k+n<=1152921504606846976):VF Tryz.prog G eL [.p (bc (jd k n)),.p (.int .i64 k)] (.p (.int .i64 ((k+n:Nat):Int))):=by
 refine AC.go sf ?_
 have hsl:∀l,bc l= .lst 1 (l.map λw=>[.int .i64 w]):=λ_=>rfl
 have hl:=DM k n
 simp-implicitDefEqProofs[kE]
 refine az (λi:Nat=>aB 21 [(0,.p (bc (jd k n))),(1,.p (.int .i64 ((k+i:Nat):Int))),(5,.p (.int .i64 i))]) (λ_=>[]) (λi=>i<=n) (λi=>n-i) 0 (by simp) ?_ ?_
 ·exact aA rfl (by simp[below,bc])
 intro i hi
 simp-implicitDefEqProofs[hsl,hl]
 refine bf (λh1=>?_) (λh1=>?_)
 ·simp at h1
  have hg:(jd k n)[i]?=some ((k+i:Nat):Int):=by simp[jd,h1]
  have hw1:IntKind.i64.wrap ((k:Int)+(i:Int)+1)=(k:Int)+(i:Int)+1:=ab (by omega) (by omega)
  clear hl
  simp-implicitDefEqProofs[hg,hw1]
  refine⟨i+1,h1,by omega,aA rfl ?_⟩
  simp[below,bc,w1 (i:=i) (by omega)]
  omega
 ·simp at h1
  have:i=n:=by omega
  subst this
  simp-implicitDefEqProofs[]
variable (hG:G bX=some pvForms) (hK:G ju=some iu)
include hG hK
theorem zj(os:List Obj)(ho:ObsOk os)(w:List UInt8)(hw:w.length<=1048576):AC Tryz.prog G bq [.p (obL os),.p (.str w)] [] (MkW (Be (lnk os w).2) true [bc (bv (lnk os w).1)]):=by
 refine(lZ G hG hK os ho w hw).mono λx h e=>?_
 by_cases h0:(lnk os w).2=0
 ·rw[if_pos h0] at e
  obtain⟨id,rfl,e2⟩:=e
  rw[h0]
  exact⟨[.sl id 1 0 (lnk os w).1.length],[id],rfl,pZ e2 (gY _).symm,by simp⟩
 ·rw[if_neg h0] at e
  subst e
  rw[BQ h0]
  exact⟨[.nils],[],rfl,.nils 1 .nil,List.nodup_nil⟩
theorem uM(os:List Obj)(hb:os.length<=9223372036854775807)(hsm:∀o∈os,ObjSm o)(w:List UInt8)(hwb:w.length<=9223372036854775807):VF Tryz.prog G eZ [.p (obL os),.p (.str w)] (.p (.bool true)):=by
 refine AC.go jC ?_
 have hsz':=yp G os hb hsm
 have hLn:obL os= .lst 6 (os.map Obj.cs):=rfl
 by_cases hw:w.length<=1048576
 case neg=>
  have h1:(1048576:Int)<(w.length:Int):=by omega
  simp-implicitDefEqProofs[cK,h1]
 have h1:¬(1048576:Int)<(w.length:Int):=by omega
 simp-implicitDefEqProofs[cK,h1]
 refine hsz'.use ?_
 by_cases hz:kX os<=1048576
 case neg=>
  simp-implicitDefEqProofs[hz]
 have hsz:kX os=os.length+(os.map szO).sum:=rfl
 have ho:ObsOk os:=⟨hsm,λo h=>by have:=yc h;omega,by omega⟩
 have hto:=Gl G os hz
 have hnn:¬((1048576-kX os:Nat):Int)<0:=by omega
 have hot:=λh:List AO=>AC.mkLift shp_one (BY G os hz) (h:=h) (by simp)
 have hlen:(bv (lnk os w).1).length<=1048576:=by
  rw[gY];have:=FZ os w;omega
 have hsp:=zB G os ho w hw
 have hic:=zj G hG hK os ho w hw
 have htc:=vE G hG hK os ho w hw
 generalize bv (lnk os w).1=xs at*
 generalize (lnk os w).2=c at*
 have hin:∀(h:List AO) (v:AV) (I:List Nat),OwnL true h [v] [obL os] I->AC Tryz.prog G bq [v,.p (.str w)] h (Mk (Be c) true [bc xs] h):=λh v I ho=>AC.mkLend (Fw c) hic (.one (ho.view 0 _ _ rfl rfl) (.keep (by simp[below]) .nil))
 simp-implicitDefEqProofs[hz,hnn]
 refine hto.use ?_
 simp-implicitDefEqProofs[]
 refine hsp.use ?_
 simp-implicitDefEqProofs[]
 refine(hot _).mono ?_
 rintro x h2 ⟨vs,I,os2,rfl,e2,hown,nd,hf⟩
 obtain⟨v,rfl⟩:=tJ hown
 obtain⟨c1,c2⟩:=rm hown
 simp-implicitDefEqProofs[-AV.cells,-AV.isCell,mI,cD,dY,mG,cA,c1,c2,ag,kY]
 refine(hin _ v I hown).mono ?_
 rintro x h3 ⟨vs6,I6,os6,rfl,e3,ho6,nd6,hf6⟩
 obtain⟨v6,rfl⟩:=tJ ho6
 obtain⟨c3,c4⟩:=rm ho6
 have ho3:OwnL true h3 [v] [obL os] I:=by rw[e3];exact hown.more _
 have hdl:=λh v6 I6 (ho6:OwnL true h [v6] [bc xs] I6)=>(tH G xs xs hlen).lend (h:=h) (args:=[v6,.p (bc xs)]) (.one (ho6.view 0 _ _ rfl rfl) (.keep (by simp[below]) .nil)) rfl
 simp-implicitDefEqProofs[-AV.cells,-AV.isCell,mI,cD,dY,mG,cA,c1,c2,c3,c4,ag,Be,kY]
 refine(hdl _ v6 I6 ho6).mono ?_
 rintro x h4 ⟨rfl,rfl⟩
 simp-implicitDefEqProofs[-AV.cells,-AV.isCell,mI,cD,dY,mG,cA,c1,c2,c3,c4,ag]
 refine hto.use ?_
 simp-implicitDefEqProofs[-AV.cells,-AV.isCell,mI,cD,dY,mG,cA,c1,c2,c3,c4,ag]
 have hep:=λh v I (ho:OwnL true h [v] [obL os] I)=>(Ha G os hz).lend (h:=h) (args:=[v,.p (obL os)]) (.one (ho.view 0 _ _ rfl rfl) (.keep (by simp[below]) .nil)) rfl
 refine(hep _ v I ho3).mono ?_
 rintro x h5 ⟨rfl,rfl⟩
 simp-implicitDefEqProofs[-AV.cells,-AV.isCell,mI,cD,dY,mG,cA,c1,c2,c3,c4,ag]
 have hQ:=BU os
 refine(uu G os _ v I 1 ho3 nd (by omega) (by omega)).mono ?_
 rintro x h6' ⟨rfl,o7,f7,l7⟩
 have hnn7:¬(1:Int)+(dM os:Int)<0:=by omega
 have ho7:OwnL true h6' [v6] [bc xs] I6:=ho6.frame λi hi=>f7 i (ho6.lt hi) λhm=>by have:=hf6 i hi;have:=hown.lt hm;omega
 simp-implicitDefEqProofs[-AV.cells,-AV.isCell,mI,cD,dY,mG,cA,c1,c2,c3,c4,ag,hnn7]
 refine(hdl _ v6 I6 ho7).mono ?_
 rintro x h8 ⟨rfl,rfl⟩
 simp-implicitDefEqProofs[-AV.cells,-AV.isCell,mI,cD,dY,mG,cA,c1,c2,c3,c4,ag]
 refine(Et G _ v6 I6 xs 1 ho7 nd6 (by omega)).mono ?_
 rintro x h9 ⟨rfl,o9,f9,l9⟩
 have hhe:=λh v6 I6 (ho6:OwnL true h [v6] [bc (jd 1 xs.length)] I6)=>(Aa G 1 xs.length (by omega)).lend (h:=h) (args:=[v6,.p (.int .i64 1)]) (.one (ho6.view 0 _ _ rfl rfl) (.keep (by simp[below]) .nil)) rfl
 have hnn9:¬(1:Int)+(xs.length:Int)<0:=by omega
 simp-implicitDefEqProofs[-AV.cells,-AV.isCell,mI,cD,dY,mG,cA,c1,c2,c3,c4,ag]
 refine(hhe _ v6 I6 o9).mono ?_
 rintro x h10 ⟨rfl,rfl⟩
 simp-implicitDefEqProofs[-AV.cells,-AV.isCell,mI,cD,dY,mG,cA,c1,c2,c3,c4,ag,hnn9]
 refine hto.use ?_
 simp-implicitDefEqProofs[]
 refine htc.use ?_
 simp-implicitDefEqProofs[]
 refine(tH G xs xs hlen).use ?_
 simp-implicitDefEqProofs[-AV.cells,-AV.isCell,mI,cD,dY,mG,cA,c1,c2,c3,c4,ag,hnn9]
 refine(hhe _ v6 I6 o9).mono ?_
 rintro x h11 ⟨rfl,rfl⟩
 simp-implicitDefEqProofs[-AV.cells,-AV.isCell,mI,cD,dY,mG,cA,c1,c2,c3,c4,ag,hnn9]
end
end Go.Proofs.YtbnajafpkeficaaGreatDoor
namespace Go.Proofs.YtbnajafpkeficaaGreatDoor
open Go Go.Aw Go.ChangeShapes Go.WideShapes Go.ChangeAt Go.RowKit
set_option maxRecDepth 100000
abbrev yO:TypeId:=45
abbrev EK:TypeId:=22
abbrev Ca:TypeId:=9
abbrev yy:TypeId:=3
abbrev vL:TypeId:=42
abbrev Bb:TypeId:=5
abbrev An:TypeId:=24
abbrev Ag:TypeId:=43
abbrev Bi:TypeId:=87
abbrev vH:TypeId:=140
abbrev Ie:TypeId:=124
abbrev HY:TypeId:=4
theorem Jz:Kids Tryz.prog (· <Tryz.prog.types.size):=kids_rows (by kernel_rfl) (by kernel_rfl)
theorem Jv:∀t e,t<Tryz.prog.types.size->Tryz.prog.underlying t=some (.slice e)->0<Tryz.prog.cellsOf e:=slices_full_of Tryz.prog (by kernel_rfl)
def Fb:List TypeId:=[yO,EK,Ca,yy,vL,Bb,An,Ag,Bi,vH,Ie,HY]
theorem AG:Plain Tryz.prog Fb=true:=by kernel_rfl
theorem KW:ownKnob Tryz.prog.godebug=none:=by kernel_rfl
def G0:ay:=λg=>if g=ju then some iu else if g=bX then some pvForms else none
theorem Ig:∀k,gq Tryz.prog (k+10) Bi (Rows.laid_loop_example_wholeway_impl_keys (H:=Unit))=iu:=λk=>by kernel_rfl
theorem GO:∀k,gq Tryz.prog (k+10) vH (Rows.laid_loop_example_wholeway_impl_forms (H:=Unit))=pvForms:=λk=>by kernel_rfl
theorem Lh{W:World}{laid:List (String × DataW Unit)}(hL:laidMet Tryz.prog laid W)(h1:("loop.example/wholeway/impl.keys",Rows.laid_loop_example_wholeway_impl_keys)∈laid)(h2:("loop.example/wholeway/impl.forms",Rows.laid_loop_example_wholeway_impl_forms)∈laid):
 ∀g cs,G0 g=some cs->g<W.heap.size/\∀(j:Nat) (c:PV),cs[j]?=some c->∃v,W.cell? ⟨g,j,none⟩=some v/\PRel W (· <W.heap.size) c v:=by
 intro g cs h
 unfold G0 at h
 split at h
 ·rename_i e;subst e;cases h
  exact vu AG hL (n:= "loop.example/wholeway/impl.keys") (d:=Rows.laid_loop_example_wholeway_impl_keys) (t:=Bi) h1 (by kernel_rfl) (by kernel_rfl) (by decide) Ig
 ·split at h
  ·rename_i e;subst e;cases h
   exact vu AG hL (n:= "loop.example/wholeway/impl.forms") (d:=Rows.laid_loop_example_wholeway_impl_forms) (t:=vH) h2 (by kernel_rfl) (by kernel_rfl) (by decide) GO
  ·cases h
theorem sI{H:Type}:∀l:List (DataW H),Rows.uptoBulkAll l=(l.map Rows.uptoBulk).sum
 |[]=>by simp[Rows.uptoBulkAll]
 |d::r=>by simp[Rows.uptoBulkAll,sI r]
theorem He{H:Type}:BulkOk (Rows.uptoBulk (H:=H)) where
 lit:=λl=>by cases l<;>simp[Rows.uptoBulk]
 str:=λs=>by simp[Rows.uptoBulk]
 nil:=by simp[Rows.uptoBulk]
 slice:=λes sp=>by simp only[Rows.uptoBulk,sI];omega
 agg:=λps=>by simp only[Rows.uptoBulk,sI];omega
theorem oX{t e:TypeId}{vs:List PV}(h:Conf Tryz.prog t vs)(hu:Tryz.prog.underlying t=some (.slice e)):∃es,vs=[.lst (Tryz.prog.cellsOf e) es]/\es.length<=9223372036854775807/\∀x∈es,Conf Tryz.prog e x:=by
 cases h with
 |sl es e' hl hs=>rw[hu] at e';cases e';exact⟨es,rfl,hl,hs⟩
 |bool b e=>rw[e] at hu;cases hu
 |int n e=>rw[e] at hu;cases hu
 |str s e=>rw[e] at hu;cases hu
 |st vs e=>rw[e] at hu;cases hu
 |arr vs e=>rw[e] at hu;cases hu
theorem Bm{vs:List PV}(h:Conf Tryz.prog vL vs):∃l:List Int,vs=[aN l]/\l.length<=9223372036854775807/\bO l:=by
 obtain⟨es,rfl,hl,h4⟩:=oX h (e:=Bb) (by kernel_rfl)
 have hk:∀x∈es,∃n:Int,x=[PV.int .u8 n]/\(Lit.int .u8 n).wf=true:=λx hx=>nU (h4 x hx) (by kernel_rfl)
 obtain⟨l,rfl⟩:=sv (λn:Int=>[PV.int .u8 n]) (λx hx=>by obtain⟨n,e,_⟩:=hk x hx;exact⟨n,e⟩)
 rw[show Tryz.prog.cellsOf Bb=1 by kernel_rfl]
 refine⟨l,rfl,by rwa[List.length_map] at hl,λn hn=>?_⟩
 obtain⟨m,e,hw⟩:=hk [PV.int .u8 n] (List.mem_map.2 ⟨n,hn,rfl⟩)
 cases e
 simp[Lit.wf,IntKind.min,IntKind.max,IntKind.bits,IntKind.signed] at hw
 omega
theorem Da{vs:List PV}(h:Conf Tryz.prog An vs):∃l:List Int,vs=[bc l]/\l.length<=9223372036854775807:=by
 obtain⟨es,rfl,hl,h4⟩:=oX h (e:=yy) (by kernel_rfl)
 have hk:∀x∈es,∃n:Int,x=[PV.int .i64 n]/\(Lit.int .i64 n).wf=true:=λx hx=>nU (h4 x hx) (by kernel_rfl)
 obtain⟨l,rfl⟩:=sv (λn:Int=>[PV.int .i64 n]) (λx hx=>by obtain⟨n,e,_⟩:=hk x hx;exact⟨n,e⟩)
 rw[show Tryz.prog.cellsOf yy=1 by kernel_rfl]
 exact⟨l,rfl,by rwa[List.length_map] at hl⟩
theorem Cr{vs:List PV}(h:Conf Tryz.prog Ag vs):∃l:List (List UInt8),vs=[aW l]/\l.length<=9223372036854775807/\∀x∈l,x.length<=9223372036854775807:=by
 obtain⟨es,rfl,hl,h4⟩:=oX h (e:=Ca) (by kernel_rfl)
 have hk:∀x∈es,∃s:List UInt8,x=[PV.str s]/\s.length<=maxLen:=λx hx=>to (h4 x hx) (by kernel_rfl)
 obtain⟨l,rfl⟩:=sv (λs:List UInt8=>[PV.str s]) (λx hx=>by obtain⟨n,e,_⟩:=hk x hx;exact⟨n,e⟩)
 rw[show Tryz.prog.cellsOf Ca=1 by kernel_rfl]
 refine⟨l,rfl,by rwa[List.length_map] at hl,λs hs=>?_⟩
 obtain⟨m,e,hw⟩:=hk [PV.str s] (List.mem_map.2 ⟨s,hs,rfl⟩)
 cases e
 exact hw
theorem Fk{vs:List PV}(h:Conf Tryz.prog yO vs):∃o:Obj,vs=o.cs/\ObjSm o:=by
 have h:=Gi (ts:=[Ca,yy,yy,vL,An,Ag]) h (by kernel_rfl)
 obtain⟨a,r,rfl,h1,h⟩:=fQ h
 obtain⟨b,r,rfl,h2,h⟩:=fQ h
 obtain⟨c,r,rfl,h3,h⟩:=fQ h
 obtain⟨d,r,rfl,h4,h⟩:=fQ h
 obtain⟨e,r,rfl,h5,h⟩:=fQ h
 obtain⟨f,r,rfl,h6,h⟩:=fQ h
 cases Ch h
 obtain⟨s,rfl,l1⟩:=to h1 (by kernel_rfl)
 obtain⟨n1,rfl,_⟩:=nU h2 (k:= .i64) (by kernel_rfl)
 obtain⟨n2,rfl,_⟩:=nU h3 (k:= .i64) (by kernel_rfl)
 obtain⟨bs,rfl,l4,b4⟩:=Bm h4
 obtain⟨ns,rfl,l5⟩:=Da h5
 obtain⟨ws,rfl,l6,w6⟩:=Cr h6
 exact⟨⟨s,n1,n2,bs,ns,ws⟩,rfl,⟨l1,l4,l5,l6,w6,b4⟩⟩
theorem yI{α β:Type}(g:β->α)(p:β->Prop):∀{es:List α},(∀x∈es,∃m,x=g m/\p m)->∃ms:List β,es=ms.map g/\∀m∈ms,p m
 |[],_=>⟨[],rfl,λm hm=>by cases hm⟩
 |e::r,h=>by
  obtain⟨m,hm,hp⟩:=h e (by simp)
  obtain⟨ms,hms,hps⟩:=yI g p (es:=r) λx hx=>h x (by simp[hx])
  exact⟨m::ms,by simp[hm,hms],λx hx=>by
   rcases List.mem_cons.1 hx with rfl|hx
   ·exact hp
   ·exact hps x hx⟩
theorem FE{vs:List PV}(h:Conf Tryz.prog EK vs):∃os:List Obj,vs=[obL os]/\os.length<=9223372036854775807/\∀o∈os,ObjSm o:=by
 obtain⟨es,rfl,hl,h4⟩:=oX h (e:=yO) (by kernel_rfl)
 obtain⟨os,rfl,hp⟩:=yI Obj.cs ObjSm λx hx=>Fk (h4 x hx)
 rw[show Tryz.prog.cellsOf yO=6 by kernel_rfl]
 exact⟨os,rfl,by rwa[List.length_map] at hl,hp⟩
end Go.Proofs.YtbnajafpkeficaaGreatDoor
