/-
  Contracts and lemmas that the card needs, part 4.
-/
import Derived.Test.YtigmcjbgnmpbeaaGreatKv3
import Derived.ChangeMaps
import Derived.WideShapes
import Derived.WideHanded
import Derived.Sort.Grow
namespace Go.Aw
variable {P:Program} {G:aw}
theorem IT{W:World}{S:Nat->Prop}{φ φ':Place}{n m:Nat}{σ:List Nat}(hσ:∀i,i<m->σ.getD i 0<n/\φ (σ.getD i 0)=φ' i){v:AV}{x:Value}(h:VRel W S φ' m v x):VRel W S φ n (ren σ v) x:=by
 induction h with
 |p pv x hp=>exact .p _ _ hp
 |agg cs vs hs _ ih=>
  simp only[ren];refine .agg _ vs (by rw[hs,bz]) λj c y h1 h2=>?_;rw[dD,Wf] at h1;obtain⟨c0,h1,rfl⟩:=h1;exact ih j c0 y h1 h2
 |tup cs vs hs _ ih=>
  simp only[ren];refine .tup _ vs (by rw[hs,bz]) λj c y h1 h2=>?_;rw[dD,Wf] at h1;obtain⟨c0,h1,rfl⟩:=h1;exact ih j c0 y h1 h2
 |ptr id esz i off hid=>
  have:=VRel.ptr (W:=W) (S:=S) (φ:=φ) (n:=n) (σ.getD id 0) esz i off (hσ id hid).1;rw[(hσ id hid).2] at this;exact this
 |sl id esz off len cap ba hid hl hb hc=>exact VRel.sl (W:=W) (S:=S) (φ:=φ) (n:=n) (σ.getD id 0) esz off len cap ba (hσ id hid).1 hl (by rw[(hσ id hid).2];exact hb) (by rw[(hσ id hid).2];exact hc)
 |mp id hid=>
  have:=VRel.mp (W:=W) (S:=S) (φ:=φ) (n:=n) (σ.getD id 0) (hσ id hid).1;rw[(hσ id hid).2] at this;exact this
 |it id hid=>
  have:=VRel.it (W:=W) (S:=S) (φ:=φ) (n:=n) (σ.getD id 0) (hσ id hid).1;rw[(hσ id hid).2] at this;exact this
 |fn f caps vs hs _ ih=>
  simp only[ren];refine .fn f _ vs (by rw[hs,bz]) λj c y h1 h2=>?_;rw[dD,Wf] at h1;obtain⟨c0,h1,rfl⟩:=h1;exact ih j c0 y h1 h2
 |gp g off=>exact .gp g off
 |nils=>exact .nils
 |nilp=>exact .nilp
 |nilf=>exact .nilf
 |nilm=>exact .nilm
 |nili=>exact .nili
 |any x=>exact .any x
 |eptr e off b o hb hc=>exact .eptr e off b o hb hc
 |ifc t pv x hp=>exact .ifc t pv x hp
def nH(σ:List Nat):AO->AO
 | .row sz es=> .row sz (es.map (bT σ))
 | .mp es=> .mp (es.map λx=>(x.1,ren σ x.2))
 | .sit s pos=> .sit s pos
 | .dead=> .dead
def Qv(σ:List Nat):ARes->ARes
 | .ret v=> .ret (ren σ v)
 | .pan t v=> .pan t v
def mrg(h:List AO):List Nat->List AO->List AO
 |i::π,o::os=>mrg (h.set i o) π os
 |_,_=>h
theorem ud:∀(π:List Nat) (os h:List AO),(mrg h π os).length=h.length
 |[],_,_=>by simp[mrg]
 |_::_,[],_=>by simp[mrg]
 |i::π,o::os,h=>by rw[mrg,ud,Wy]
theorem EQ:∀(π:List Nat) (os h:List AO) (j:Nat),j∉π->(mrg h π os)[j]?=h[j]?
 |[],_,_,_,_=>by simp[mrg]
 |_::_,[],_,_,_=>by simp[mrg]
 |i::π,o::os,h,j,hj=>by
  simp only[WE,not_or] at hj;rw[mrg,EQ π os _ j hj.2,Wd (Ne.symm hj.1)]
theorem NR:∀(π:List Nat) (os h:List AO),π.Nodup->(∀i∈π,i<h.length)->∀(i:Nat) (o:AO),i<π.length->os[i]?=some o->(mrg h π os)[π.getD i 0]?=some o
 |[],_,_,_,_,i,o,hi,_=>by simp at hi
 |_::_,[],_,_,_,i,o,_,e=>by simp at e
 |p::π,q::os,h,nd,hb,i,o,hi,e=>by
  simp only[WR] at nd;rw[mrg];cases i with
  |zero=>
   simp at e;subst e;have hp:=hb p (by simp);simp only[List.getD_cons_zero];rw[EQ π os _ p nd.1];simp[hp]
  |succ i=>
   simp only[List.getD_cons_succ];exact NR π os _ nd.2 (λj hj=>by rw[Wy];exact hb j (by simp[hj])) i o (by simpa using hi) (by simpa using e)
theorem gE{σ:List Nat}{o:AO}(l:(nH σ o).live):o.live:=by cases o<;>exact l
theorem AC.frame{f:FuncId}{args0 args:List AV}{h0 h:List AO}{R:ARes->List AO->Prop}(H:AC P G f args0 h0 R)(π:List Nat)(nd:π.Nodup)(hT:TW π args args0)(hW:HW π h π h0):
 AC P G f args h λx h'=>∃x0 h0',R x0 h0'/\h0.length<=h0'.length/\x=Qv (π++List.range' h.length (h0'.length-h0.length)) x0/\
  h'=mrg h π ((h0'.take h0.length).map (nH (π++List.range' h.length (h0'.length-h0.length))))++(h0'.drop h0.length).map (nH (π++List.range' h.length (h0'.length-h0.length))):=by
 obtain⟨t1,t2⟩:=HG hT;obtain⟨q1,q2,q3,q4,q5⟩:=EB hW;refine⟨H.1,λW S φ vs hH hA=>?_⟩
 have hliv:∀{id},Live h0 id->Live h (π.getD id 0):=λ{id} ⟨o,e,l⟩=>by
  cases o with
  |dead=>exact l.elim
  |row sz es=>exact bc (q3 _ _ _ e).2
  |mp es=>exact rq (q4 _ _ e).2
  |sit t pos=>exact AF (q5 _ _ _ e)
 have hmem:∀{i},i<π.length->π.getD i 0∈π:=λ{i} hi=>by rw[Wv,Wc hi];exact Wm hi
 have hinj:∀i j,i<π.length->j<π.length->π.getD i 0=π.getD j 0->i=j:=λi j hi hj e=>by
  rw[Wv,Wv,Wc hi,Wc hj] at e;refine(List.getElem?_inj hi nd).1 ?_;rw[Wc hi,Wc hj];exact congrArg some (by simpa using e)
 have hbnd:∀i∈π,i<h.length:=λi hi=>by
  obtain⟨j,hj⟩:=WA hi;have:=q2 j (Wa.1 hj).1;rwa[Wv,hj] at this
 have H0:HRel G W S (λi=>φ (π.getD i 0)) h0:=by
  refine⟨λid sz es hid=>?_,λid o hid lo=>?_,λid id' e1 e2 he=>?_,λb hb=>⟨(hH.sep b hb).1,λid hid he=>?_⟩,λid hid=>?_,hH.glob⟩
  ·obtain⟨b1,b2⟩:=q3 id sz es hid;obtain⟨c,t,fr,a1,a2,a3,a4,a5⟩:=hH.obj _ _ _ b2;refine⟨c,t,fr,a1,a2,λe he=>?_,by simpa using a4,λj u hj=>?_⟩
   ·have:=a3 (bT π e) (Ww.2 ⟨e,he,rfl⟩);rwa[bz] at this
   ·have hr:(es.map (bT π)).flatten[j]?=some (ren π u):=(by rw[fH,dD,hj];rfl);obtain⟨c1,v,c2,c3⟩:=a5 j _ hr;rw[te] at c1;exact⟨c1,v,c2,by rw[←q1];exact jH u (aT (kn _ b1) j u hj) c3⟩
  ·cases o with
   |dead=>trivial
   |row sz es=>trivial
   |sit t pos=>exact hH.oobj _ _ (q5 id t pos hid) trivial
   |mp es=>
    obtain⟨b1,b2⟩:=q4 id es hid;obtain⟨ents,clock,a1,a2,a3,a4⟩:=hH.oobj _ _ b2 trivial;refine⟨ents,clock,a1,by simpa using a2,λj k a hj=>?_,a4⟩;obtain⟨e,c1,c2,c3⟩:=a3 j k (ren π a) (by rw[Wl,hj];rfl);exact⟨e,c1,c2,by rw[←q1];exact jH a (b1 _ (Wq hj)) c3⟩
  ·exact hinj _ _ (by rw[q1];exact e1.lt) (by rw[q1];exact e2.lt) (hH.inj _ _ (hliv e1) (hliv e2) he)
  ·exact(hH.sep b hb).2 _ (hliv hid) he
  ·exact hH.bnd _ (q2 id (by rw[q1];exact hid))
 have hA0:rd W S (λi=>φ (π.getD i 0)) h0.length args0 vs:=⟨hA.1.trans t1,λj c v h1 h2=>by
  rcases t2 j c h1 with rfl|⟨b1,b2⟩
  ·exact .any _
  ·rw[←q1];exact jH c b1 (hA.2 j _ v b2 h2)⟩
 refine(H.2 W S _ vs H0 hA0).mono λe W' ⟨x,S',φ',h',k1,k2,k3,k4⟩=>?_;have hle:=k4.len;have hkl:π.length=h0.length:=q1
 let σ:List Nat:=π++List.range' h.length (h'.length-h0.length)
 let ψ:Place:=λj=>if j<h.length then φ j else φ' (h0.length+(j-h.length))
 have hψ1:∀{j},j<h.length->ψ j=φ j:=λ{j} hj=>by show(if j<h.length then φ j else _)=_;rw[Wz hj]
 have hψ2:∀j,ψ (h.length+j)=φ' (h0.length+j):=λj=>by show(if h.length+j<h.length then φ _ else φ' _)=_;rw[WB (by omega)];congr 1;omega
 have hσ1:∀i,i<h0.length->σ.getD i 0=π.getD i 0:=λi hi=>by
  show(π++_).getD i 0=_;rw[Wv,Wv,Wb (by omega)]
 have hσ2:∀i,i<h'.length-h0.length->σ.getD (h0.length+i) 0=h.length+i:=λi hi=>by
  show(π++List.range' h.length (h'.length-h0.length)).getD _ 0=_;rw[Wv,Wg (by omega),show h0.length+i-π.length=i by omega];simp[hi]
 let hm:List AO:=mrg h π ((h'.take h0.length).map (nH σ))++(h'.drop h0.length).map (nH σ)
 have hml:hm.length=h.length+(h'.length-h0.length):=by simp[hm,ud]
 have hσ:∀i,i<h'.length->σ.getD i 0<hm.length/\ψ (σ.getD i 0)=φ' i:=λi hi=>by
  rcases Xh i h0.length with h1|h1
  ·have:=q2 i (by omega);rw[hσ1 i h1];exact⟨by omega,by rw[hψ1 this];exact(k4.same i h1).symm⟩
  ·obtain⟨j,rfl⟩:∃j,i=h0.length+j:=⟨i-h0.length,by omega⟩;rw[hσ2 j (by omega)];exact⟨by omega,hψ2 j⟩
 have hget:∀{j o},hm[j]?=some o->(∃i o',i<h'.length/\σ.getD i 0=j/\h'[i]?=some o'/\o=nH σ o')\/(j<h.length/\j∉π/\h[j]?=some o):=λ{j o} e=>by
  rcases Xh j h.length with hj|hj
  ·have e':(mrg h π ((h'.take h0.length).map (nH σ)))[j]?=some o:=by rw[←e];exact(Wb (by rw[ud];exact hj)).symm
   by_cases hp:j∈π
   ·left;obtain⟨i,hi⟩:=WA hp;have hil:=(Wa.1 hi).1;have hig:π.getD i 0=j:=(by rw[Wv,hi];rfl);have hih:i<h'.length:=(by omega);have hio:h'[i]?=some h'[i]:=Wc hih;have:=NR π ((h'.take h0.length).map (nH σ)) h nd hbnd i (nH σ h'[i]) hil (by rw[Wl,YI (by omega),hio];rfl);rw[hig,e'] at this;exact⟨i,h'[i],hih,by rw[hσ1 i (by omega),hig],hio,Option.some.inj this⟩
   ·exact .inr ⟨hj,hp,by rw[←e',EQ _ _ _ _ hp]⟩
  ·left
   have e':((h'.drop h0.length).map (nH σ))[j-h.length]?=some o:=by
    rw[←e];show _=(mrg h π _++_)[j]?;rw[Wg (by rw[ud];exact hj),ud]
   rw[Wl,Wf] at e';obtain⟨o',e1,e2⟩:=e';rw[WZ] at e1;have hl:=(Wa.1 e1).1;exact⟨h0.length+(j-h.length),o',hl,by rw[hσ2 _ (by omega)];omega,e1,e2.symm⟩
 have hout:∀{j},j<h.length->j∉π->Live h j->W'.heap[(φ j).1]?=W.heap[(φ j).1]?:=λ{j} hj hp lj=>k4.out _ (hH.bnd j hj) λid hid he=>by
  have:=hH.inj _ _ (hliv hid) lj he;exact hp (this▸hmem (by rw[q1];exact hid.lt))
 have hnew:∀b,S' b->S b\/W.heap.size<=b\/∃i,Live h0 i/\(φ (π.getD i 0)).1=b:=λb hb=>k4.newS b hb
 have K:Keep W S φ h W' S' ψ hm:=
  {pure:=k4.pure,len:=by omega,same:=λ_ hid=>hψ1 hid
   blk:=λid hid c t fr e=>by
    by_cases hx:∃i,Live h0 i/\(φ (π.getD i 0)).1=(φ id).1
    ·obtain⟨i,li,ei⟩:=hx;have:=k4.blk i li.lt c t fr (by rw[ei];exact e);rwa[ei] at this
    ·rw[k4.out _ (hH.bnd id hid) λi li ei=>hx ⟨i,li,ei⟩] at e;exact⟨c,t,fr,e,rfl⟩
   os:=k4.os,tape:=k4.tape,output:=k4.output,size:=k4.size
   out:=λb hb hn=>k4.out b hb λi li=>hn _ (hliv li)
   img:=λid ⟨o,e,l⟩=>by
    rcases hget e with⟨i,o',hi,rfl,e',rfl⟩|⟨hj,_,e'⟩
    ·rw[(hσ i hi).2];rcases k4.img i ⟨_,e',gE l⟩ with h2|⟨id2,h2,h3⟩
     ·exact .inl h2
     ·exact .inr ⟨_,hliv h2,h3⟩
    ·exact .inr ⟨id,⟨_,e',l⟩,by rw[hψ1 hj]⟩
   newS:=λb hb=>by
    rcases hnew b hb with h2|h2|⟨i,h2,h3⟩
    ·exact .inl h2
    ·exact .inr (.inl h2)
    ·exact .inr (.inr ⟨_,hliv h2,h3⟩)}
 refine⟨Qv σ x,S',ψ,hm,⟨x,h',k1,hle,rfl,rfl⟩,⟨λid sz es e=>?_,λid o1 e lo=>?_,λid id' ⟨o1,e1,l1⟩ ⟨o2,e2,l2⟩ he=>?_,λb hb=>⟨(k2.sep b hb).1,λid ⟨o1,e,l1⟩ he=>?_⟩,λid hid=>?_,k2.glob⟩,?_,K⟩
 ·rcases hget e with⟨i,o',hi,rfl,e',eo⟩|⟨hj,hp,e'⟩
  ·obtain⟨es',rfl,rfl⟩:∃es',o'= .row sz es'/\es=es'.map (bT σ):=by cases o'<;>cases eo;exact⟨_,rfl,rfl⟩
   obtain⟨c,t,fr,a1,a2,a3,a4,a5⟩:=k2.obj i sz es' e';refine⟨c,t,fr,by rw[(hσ i hi).2];exact a1,a2,λe he=>?_,by rw[(hσ i hi).2];simpa using a4,λj u hj=>?_⟩
   ·obtain⟨e0,he0,rfl⟩:=Ww.1 he;rw[bz];exact a3 e0 he0
   ·rw[fH,dD,Wf] at hj;obtain⟨u0,hj,rfl⟩:=hj;obtain⟨b1,v,b2,b3⟩:=a5 j u0 hj;exact⟨by rw[te];exact b1,v,by rw[(hσ i hi).2];exact b2,IT hσ b3⟩
  ·obtain⟨c,t,fr,a1,a2,a3,a4,a5⟩:=hH.obj id sz es e';refine⟨c,t,fr,by rw[hψ1 hj,hout hj hp (bc e')];exact a1,a2,a3,by rw[hψ1 hj];exact a4,λj u hj2=>?_⟩;obtain⟨b1,v,b2,b3⟩:=a5 j u hj2;exact⟨b1,v,by rw[hψ1 hj];exact b2,b3.kept K.toKept⟩
 ·rcases hget e with⟨i,o',hi,rfl,e',rfl⟩|⟨hj,hp,e'⟩
  ·rw[(hσ i hi).2];have hq:=k2.oobj i o' e' (gE lo);cases o' with
   |dead=>trivial
   |row sz es=>trivial
   |sit t pos=>exact hq
   |mp es'=>
    obtain⟨ents,clock,a1,a2,a3,a4⟩:=hq;refine⟨ents,clock,a1,by simpa using a2,λj k a hj=>?_,a4⟩;rw[Wl,Wf] at hj;obtain⟨⟨k0,a0⟩,hj,hk⟩:=hj;cases hk;obtain⟨x,c1,c2,c3⟩:=a3 j _ _ hj;exact⟨x,c1,c2,IT hσ c3⟩
  ·rw[hψ1 hj,hout hj hp ⟨_,e',lo⟩];exact(hH.oobj id o1 e' lo).mono λa v r=>r.kept K.toKept
 ·rcases hget e1 with⟨i,o',hi,rfl,e1',rfl⟩|⟨hj,hp,e1'⟩<;>rcases hget e2 with⟨i',o'',hi',rfl,e2',rfl⟩|⟨hj',hp',e2'⟩
  ·rw[(hσ i hi).2,(hσ i' hi').2] at he;rw[k2.inj _ _ ⟨_,e1',gE l1⟩ ⟨_,e2',gE l2⟩ he]
  ·rw[(hσ i hi).2,hψ1 hj'] at he;rcases k4.img i ⟨_,e1',gE l1⟩ with h2|⟨id2,h2,h3⟩
   ·have:=hH.bnd _ hj';omega
   ·have:=hH.inj _ _ (hliv h2) ⟨_,e2',l2⟩ (h3.trans he);exact(hp' (this▸hmem (by rw[q1];exact h2.lt))).elim
  ·rw[(hσ i' hi').2,hψ1 hj] at he;rcases k4.img i' ⟨_,e2',gE l2⟩ with h2|⟨id2,h2,h3⟩
   ·have:=hH.bnd _ hj;omega
   ·have:=hH.inj _ _ (hliv h2) ⟨_,e1',l1⟩ (h3.trans he.symm);exact(hp (this▸hmem (by rw[q1];exact h2.lt))).elim
  ·rw[hψ1 hj,hψ1 hj'] at he;exact hH.inj _ _ ⟨_,e1',l1⟩ ⟨_,e2',l2⟩ he
 ·rcases hget e with⟨i,o',hi,rfl,e',rfl⟩|⟨hj,hp,e'⟩
  ·rw[(hσ i hi).2] at he;exact(k2.sep b hb).2 _ ⟨_,e',gE l1⟩ he
  ·rw[hψ1 hj] at he;rcases hnew b hb with h2|h2|⟨i,h2,h3⟩
   ·exact(hH.sep b h2).2 _ ⟨_,e',l1⟩ he
   ·have:=hH.bnd id hj;omega
   ·have:=hH.inj _ _ (hliv h2) ⟨_,e',l1⟩ (h3.trans he.symm);exact hp (this▸hmem (by rw[q1];exact h2.lt))
 ·rcases Xh id h.length with hi|hi
  ·rw[hψ1 hi];exact WN (hH.bnd id hi) k4.size
  ·obtain⟨k,rfl⟩:∃k,id=h.length+k:=⟨id-h.length,by omega⟩;rw[hψ2];exact k2.bnd _ (by omega)
 ·cases k3 with
  |ret _ x hv=>exact .ret _ _ (IT hσ hv)
  |pan t v x hp=>exact .pan t v x hp
inductive Fzs (hF:List AO) (n:Nat):List AV->List AV->Prop where
 |nil:Fzs hF n [] []
 |one {a:AV} {q:PV} {l l':List AV}:View hF a q->Fzs hF n l l'->Fzs hF n (a::l) (.p q::l')
 |agg {cs cs' l l':List AV}:Fzs hF n cs cs'->Fzs hF n l l'->Fzs hF n (.agg cs::l) (.agg cs'::l')
 |tup {cs cs' l l':List AV}:Fzs hF n cs cs'->Fzs hF n l l'->Fzs hF n (.tup cs::l) (.tup cs'::l')
 |keep {a:AV} {l l':List AV}:below n a->Fzs hF n l l'->Fzs hF n (a::l) (a::l')
 |ptr {id esz i off:Nat} {es:List (List AV)} {e:List PV} {l l':List AV}:hF[id]?=some (.row esz es)->es[i]?=some (e.map .p)->Fzs hF n l l'->Fzs hF n (.ptr id esz i off::l) (.eptr e off::l')
theorem Fzs.len{hF:List AO}{n:Nat}:∀{l l':List AV},Fzs hF n l l'->l.length=l'.length
 |_,_,.nil=>rfl
 |_,_,.one _ r=>by simp[r.len]
 |_,_,.agg _ r=>by simp[r.len]
 |_,_,.tup _ r=>by simp[r.len]
 |_,_,.keep _ r=>by simp[r.len]
 |_,_,.ptr _ _ r=>by simp[r.len]
theorem Fzs.append{hF:List AO}{n:Nat}:∀{l l' m m':List AV},Fzs hF n l l'->Fzs hF n m m'->Fzs hF n (l++m) (l'++m')
 |_,_,_,_,.nil,h=>h
 |_,_,_,_,.one v r,h=> .one v (r.append h)
 |_,_,_,_,.agg v r,h=> .agg v (r.append h)
 |_,_,_,_,.tup v r,h=> .tup v (r.append h)
 |_,_,_,_,.keep v r,h=> .keep v (r.append h)
 |_,_,_,_,.ptr a b r,h=> .ptr a b (r.append h)
theorem Bt{W:World}{S S':Nat->Prop}{φ:Place}{n m:Nat}(hS:∀b,S b->S' b){v:AV}(hb:below m v){x:Value}(h:VRel W S φ n v x):VRel W S' φ m v x:=by
 induction h with
 |p v x hp=>exact .p _ _ (hp.mono λb hb=>⟨hS b hb,rfl⟩)
 |agg cs vs hs _ ih=>exact .agg cs vs hs λj c y h1 h2=>ih j c y h1 h2 (aT (by simpa[below] using hb) j c h1)
 |tup cs vs hs _ ih=>exact .tup cs vs hs λj c y h1 h2=>ih j c y h1 h2 (aT (by simpa[below] using hb) j c h1)
 |ptr id e i o _=>exact .ptr id e i o hb
 |sl id e o l cap ba _ h1 h2 h3=>exact .sl id e o l cap ba hb h1 h2 h3
 |mp id _=>exact .mp id hb
 |it id _=>exact .it id hb
 |eptr e off b o hb' hc=>
  exact .eptr e off b o (hS b hb') λj c hj=>by
   obtain⟨v,h1,h2⟩:=hc j c hj;exact⟨v,h1,h2.mono λb hb=>⟨hS b hb,rfl⟩⟩
 |gp g off=>exact .gp g off
 |fn f caps vs hs _ ih=>exact .fn f caps vs hs λj c y h1 h2=>ih j c y h1 h2 (aT (by simpa[below] using hb) j c h1)
 |nils=>exact .nils
 |nilp=>exact .nilp
 |nilf=>exact .nilf
 |nilm=>exact .nilm
 |nili=>exact .nili
 |ifc t pv x hp=>exact .ifc _ _ _ (hp.mono λb hb=>⟨hS b hb,rfl⟩)
 |any x=>exact .any x
theorem Fzs.rel{W:World}{S:Nat->Prop}{φ:Place}{hF:List AO}{n:Nat}(H:HRel G W S φ hF):∀{l l':List AV},Fzs hF n l l'->∀(j:Nat) (c c':AV) (x:Value),l[j]?=some c->l'[j]?=some c'->VRel W S φ hF.length c x->VRel W (λb=>S b\/kM φ hF b) φ n c' x/\(c.isCell=true->c'.isCell=true)
 |_,_,.nil,j,c,c',x,h1,_,_=>by simp at h1
 |_,_,.one hv r,j,c,c',x,h1,h2,hx=>by
  cases j with
  |zero=>simp at h1 h2;subst h1;subst h2;exact⟨.p _ _ (hv.prel H hx),λ_=>rfl⟩
  |succ j=>exact r.rel H j c c' x (by simpa using h1) (by simpa using h2) hx
 |_,_,.agg (cs:=cs0) hv r,j,c,c',x,h1,h2,hx=>by
  cases j with
  |zero=>
   simp at h1 h2;subst h1;subst h2;cases hx with
   |agg cs vs hs hc=>
    refine⟨.agg _ vs (hs.trans hv.len) λi u y e1 e2=>?_,λh=>by cases h⟩;obtain⟨u0,e0⟩:∃u0,cs0[i]?=some u0:=⟨_,Wc (by rw[hv.len];exact(Wa.1 e1).1)⟩;exact(hv.rel H i u0 u y e0 e1 (hc i u0 y e0 e2)).1
  |succ j=>exact r.rel H j c c' x (by simpa using h1) (by simpa using h2) hx
 |_,_,.tup (cs:=cs0) hv r,j,c,c',x,h1,h2,hx=>by
  cases j with
  |zero=>
   simp at h1 h2;subst h1;subst h2;cases hx with
   |tup cs vs hs hc=>
    refine⟨.tup _ vs (hs.trans hv.len) λi u y e1 e2=>?_,λh=>by cases h⟩;obtain⟨u0,e0⟩:∃u0,cs0[i]?=some u0:=⟨_,Wc (by rw[hv.len];exact(Wa.1 e1).1)⟩;exact(hv.rel H i u0 u y e0 e1 (hc i u0 y e0 e2)).1
  |succ j=>exact r.rel H j c c' x (by simpa using h1) (by simpa using h2) hx
 |_,_,.keep hb r,j,c,c',x,h1,h2,hx=>by
  cases j with
  |zero=>simp at h1 h2;subst h1;subst h2;exact⟨Bt (λb hb=> .inl hb) hb hx,id⟩
  |succ j=>exact r.rel H j c c' x (by simpa using h1) (by simpa using h2) hx
 |_,_,.ptr (id:=pid) (esz:=esz) (i:=i) (off:=off) (es:=es) (e:=e) he hi r,j,c,c',x,h1,h2,hx=>by
  cases j with
  |zero=>
   simp at h1 h2;subst h1;subst h2;refine⟨?_,λ_=>rfl⟩;cases hx with
   |ptr _ _ _ _ hid=>
    obtain⟨ct,t,fr,a1,a2,a3,a4,a5⟩:=H.obj pid esz es he
    have hv:=VRel.eptr (W:=W) (S:=λb=>S b\/kM φ hF b) (φ:=φ) (n:=n) e off (φ pid).1 ((φ pid).2+i*esz) (.inr ⟨pid,bc he,rfl⟩) (λj q hq=>by
     have hle:(e.map AV.p).length=esz:=a3 _ (Wq hi)
     have hj:j<esz:=by
      have:=(Wa.1 hq).1;rw[Wj] at hle;omega
     have hfl:es.flatten[i*esz+j]?=some (.p q):=by rw[aZ a3 _ _ hj,hi];simp[hq]
     obtain⟨_,v,hv1,hv2⟩:=a5 _ _ hfl;refine⟨v,?_,?_⟩
     ·simp only[World.cell?,a1];rw[XR];simp[hv1]
     ·cases hv2 with
      |p _ _ hp=>exact hp.mono λb hb=>⟨.inl hb,rfl⟩)
    rw[XR] at hv;exact hv
  |succ j=>exact r.rel H j c c' x (by simpa using h1) (by simpa using h2) hx
inductive FzO (hF:List AO) (n:Nat):List AO->List AO->Prop where
 |nil (r:List AO):FzO hF n r []
 |same {o:AO} {r r1:List AO}:okO n o->FzO hF n r r1->FzO hF n (o::r) (o::r1)
 |one {sz:Nat} {e e1:List AV} {r r1:List AO}:Fzs hF n e e1->FzO hF n r r1->FzO hF n (.row sz [e]::r) (.row sz [e1]::r1)
 |rows {sz:Nat} {es es1:List (List AV)} {r r1:List AO}:es.length=es1.length->(∀(j:Nat) (e e1:List AV),es[j]?=some e->es1[j]?=some e1->Fzs hF n e e1)->FzO hF n r r1->FzO hF n (.row sz es::r) (.row sz es1::r1)
 |dead {o:AO} {r r1:List AO}:FzO hF n r r1->FzO hF n (o::r) (.dead::r1)
def FzI(hF:List AO)(n:Nat)(h:List AO)(i:Nat):AO->Prop
 | .row sz es1=>∃es,h[i]?=some (.row sz es)/\es.length=es1.length/\∀(j:Nat) (e e1:List AV),es[j]?=some e->es1[j]?=some e1->Fzs hF n e e1
 | .mp es=>h[i]?=some (.mp es)/\∀e∈es,below n e.2
 | .sit s p=>h[i]?=some (.sit s p)
 | .dead=>True
theorem GL{hF:List AO}{n:Nat}:∀{l:List AV},au n l->Fzs hF n l l
 |[],_=> .nil
 |_::_,h=> .keep h.1 (GL h.2)
theorem FzO.get{hF:List AO}{n:Nat}:∀{h h1:List AO},FzO hF n h h1->∀(i:Nat) (o:AO),h1[i]?=some o->FzI hF n h i o
 |_,_,.nil _,i,o,e=>by simp at e
 |_,_,.same (o:=o0) ho r,i,o,e=>by
  cases i with
  |zero=>
   simp at e;subst e;cases o0 with
   |dead=>trivial
   |row sz es=>exact⟨es,rfl,rfl,λj e e1 h1 h2=>by rw[h1] at h2;cases h2;exact GL (ho e (Wq h1))⟩
   |mp es=>exact⟨rfl,ho⟩
   |sit s p=>exact rfl
  |succ i=>
   have:=r.get i o (by simpa using e);cases o<;>exact this
 |_,_,.one (e:=e0) (e1:=e01) hv r,i,o,e=>by
  cases i with
  |zero=>
   simp at e;subst e;refine⟨_,rfl,rfl,λj e e1 h1 h2=>?_⟩;cases j with
   |zero=>simp at h1 h2;subst h1;subst h2;exact hv
   |succ j=>simp at h1
  |succ i=>
   have:=r.get i o (by simpa using e);cases o<;>exact this
 |_,_,.rows hl hv r,i,o,e=>by
  cases i with
  |zero=>simp at e;subst e;exact⟨_,rfl,hl,hv⟩
  |succ i=>
   have:=r.get i o (by simpa using e);cases o<;>exact this
 |_,_,.dead r,i,o,e=>by
  cases i with
  |zero=>simp at e;subst e;trivial
  |succ i=>
   have:=r.get i o (by simpa using e);cases o<;>exact this
theorem vY{hF:List AO}{n:Nat}:∀{es es1:List (List AV)},es.length=es1.length->(∀(j:Nat) (e e1:List AV),es[j]?=some e->es1[j]?=some e1->Fzs hF n e e1)->Fzs hF n es.flatten es1.flatten
 |[],[],_,_=> .nil
 |e::r,e1::r1,hl,h=>by
  simp only[WX];exact(h 0 e e1 rfl rfl).append (vY (by simpa using hl) λj a b ha hb=>h (j+1) a b (by simpa using ha) (by simpa using hb))
 |[],_::_,hl,_=>by simp at hl
 |_::_,[],hl,_=>by simp at hl
def lE(n:Nat)(h:List AO):List AO:=List.replicate n .dead++h.drop n
theorem Po{k n:Nat}{ts ts1:List AV}{h h1:List AO}(hk:k<=n)(hnl:n<=h.length)(hl:h1.length=n)(htl:ts.length=ts1.length)
 (hT:∀(i:Nat) (v1:AV),ts1[i]?=some v1->v1= .any\/∃v,ts[i]?=some v/\Fzs (lE n h) n [v] [v1])(ho:FzO (lE n h) n h h1):Wk k ts h ts1 h1:=by
 intro G W0 S0 φ0 h0 W S φ a ek s;subst ek;have k2:=s.hrel;have k4:=s.keep;have htn:(lE n h).length=h.length:=by simp[lE];omega
 have htg:∀{id o},(lE n h)[id]?=some o->o.live->n<=id/\h[id]?=some o:=λ{id o} e l=>by
  rcases Xh id n with hi|hi
  ·rw[lE,Wb (by simpa using hi),Xi,Wz hi] at e;cases e;exact l.elim
  ·rw[lE,Wg (by simpa using hi),Xs,WZ,show n+(id-n)=id by omega] at e;exact⟨hi,e⟩
 have HF:HRel G W S φ (lE n h):=by
  refine⟨λid sz es e=>?_,λid o e lo=>?_,λid id' ⟨o1,e1,l1⟩ ⟨o2,e2,l2⟩ he=>k2.inj _ _ ⟨_,(htg e1 l1).2,l1⟩ ⟨_,(htg e2 l2).2,l2⟩ he,λb hb=>⟨(k2.sep b hb).1,λid ⟨o1,e,l1⟩ he=>(k2.sep b hb).2 id ⟨_,(htg e l1).2,l1⟩ he⟩,λid hid=>k2.bnd id (by rwa[htn] at hid),k2.glob⟩
  ·rw[htn];exact k2.obj id sz es (htg e trivial).2
  ·rw[htn];exact k2.oobj id o (htg e lo).2 lo
 have hg:∀{i o},h1[i]?=some o->o.live->i<n/\Live h i:=λ{i o} e l=>by
  refine⟨by rw[←hl];exact(Wa.1 e).1,?_⟩;have:=ho.get i o e;cases o with
  |dead=>exact l.elim
  |row sz es=>obtain⟨es',e',_⟩:=this;exact bc e'
  |mp es=>exact rq this.1
  |sit s p=>exact AF this
 refine⟨(λb=>S b\/kM φ (lE n h) b),φ,⟨⟨λid sz es e=>?_,λid o e lo=>?_,λid id' ⟨o1,e1,l1⟩ ⟨o2,e2,l2⟩ he=>k2.inj _ _ (hg e1 l1).2 (hg e2 l2).2 he,λb hb=>⟨?_,λid ⟨o1,e,l1⟩ he=>?_⟩,λid hid=>k2.bnd id (by omega),λg cs hgl=>?_⟩,⟨s.trel.size.trans htl,λi v hi=>?_⟩,s.defers,?_⟩⟩
 ·obtain⟨es',e',hel,hef⟩:=ho.get id _ e;obtain⟨c,t,fr,a1,a2,a3,a4,a5⟩:=k2.obj id sz es' e';have hall:=vY hel hef;refine⟨c,t,fr,a1,a2,λx hx=>?_,by rw[←hel];exact a4,λj u hj=>?_⟩
  ·obtain⟨j,hj⟩:=WA hx;obtain⟨y,hy⟩:∃y,es'[j]?=some y:=⟨_,Wc (by rw[hel];exact(Wa.1 hj).1)⟩;rw[←(hef j y x hy hj).len];exact a3 y (Wq hy)
  ·obtain⟨u0,hu0⟩:∃u0,es'.flatten[j]?=some u0:=⟨_,Wc (by rw[hall.len];exact(Wa.1 hj).1)⟩;obtain⟨b1,v,b2,b3⟩:=a5 j u0 hu0;obtain⟨c1,c2⟩:=hall.rel HF j u0 u v hu0 hj (by rw[htn];exact b3);exact⟨c2 b1,v,b2,by rw[hl];exact c1⟩
 ·have hi:=ho.get id o e;cases o with
  |dead=>trivial
  |row sz es=>trivial
  |sit s p=>exact k2.oobj id _ hi trivial
  |mp es=>
   obtain⟨ents,clock,a1,a2,a3,a4⟩:=k2.oobj id _ hi.1 trivial;refine⟨ents,clock,a1,a2,λj k a hj=>?_,a4⟩;obtain⟨x,c1,c2,c3⟩:=a3 j k a hj;exact⟨x,c1,c2,by rw[hl];exact Bt (λb hb=> .inl hb) (hi.2 _ (Wq hj)) c3⟩
 ·rcases hb with hb|⟨id,⟨o,e,l⟩,he⟩
  ·exact(k2.sep b hb).1
  ·rw[←he];exact k2.bnd id (by rw[←htn];exact(Wa.1 e).1)
 ·obtain⟨g1,g2⟩:=hg e l1;rcases hb with hb|⟨id2,⟨o,e2,l⟩,he2⟩
  ·exact(k2.sep b hb).2 id g2 he
  ·obtain⟨g3,g4⟩:=htg e2 l;have:=k2.inj _ _ g2 ⟨_,g4,l⟩ (he.trans he2.symm);omega
 ·obtain⟨g1,g2⟩:=k2.glob g cs hgl;exact⟨.inl g1,λj c hj=>by obtain⟨v,q1,q2⟩:=g2 j c hj;exact⟨v,q1,q2.mono λb hb=>⟨.inl hb,rfl⟩⟩⟩
 ·rcases hT i v hi with rfl|⟨v0,e0,hv⟩
  ·exact .any _
  ·rw[hl];exact(hv.rel HF 0 v0 v _ rfl rfl (by rw[htn];exact s.trel.get i _ e0)).1
 ·exact{pure:=λb hb=>⟨.inl (k4.pure b hb).1,(k4.pure b hb).2⟩,len:=by omega,same:=k4.same
        blk:=k4.blk,os:=k4.os,tape:=k4.tape,output:=k4.output,size:=k4.size,out:=k4.out
        img:=λid ⟨o,e,l⟩=>k4.img id (hg e l).2
        newS:=λb hb=>by
         rcases hb with hb|⟨id,⟨o,e,l⟩,he⟩
         ·exact k4.newS b hb
         ·rcases k4.img id ⟨_,(htg e l).2,l⟩ with h2|⟨id2,h2,h3⟩
          ·exact .inr (.inl (by rw[←he];exact h2))
          ·exact .inr (.inr ⟨id2,h2,by rw[h3,he]⟩)}
theorem AC.wk{f:FuncId}{args:List AV}{h:List AO}{R R':ARes->List AO->Prop}(H:AC P G f args h R)(hp:∀t v h',R (.pan t v) h'->R' (.pan t v) h')
 (hw:∀v h',R (.ret v) h'->∃v1 h1,Wk h.length [v] h' [v1] h1/\R' (.ret v1) h1):AC P G f args h R':=by
 refine⟨H.1,λW S φ vs hH hA=>(H.2 W S φ vs hH hA).mono λe W' ⟨r,S',φ',h',k1,k2,k3,k4⟩=>?_⟩;cases r with
 |pan t v=>exact⟨_,S',φ',h',hp t v h' k1,k2,k3,k4⟩
 |ret v=>
  cases k3 with
  |ret _ x hv=>
   obtain⟨v1,h1,w,hr⟩:=hw v h' k1
   have s:St G W S φ h W' S' φ' {tmps:=#[x],defers:=[]} [v] h':=⟨k2,⟨rfl,λi u hi=>by
    cases i with
    |zero=>simp at hi;subst hi;exact hv
    |succ i=>simp at hi⟩,rfl,k4⟩
   obtain⟨S1,φ1,s1⟩:=w G W S φ h W' S' φ' _ rfl s;exact⟨.ret v1,S1,φ1,h1,hr,s1.hrel,.ret _ _ (s1.trel.get 0 v1 rfl),s1.keep⟩
theorem AC.frz{f:FuncId}{args:List AV}{h:List AO}{R R':ARes->List AO->Prop}(H:AC P G f args h R)(n:Nat)(hn:h.length<=n)(hp:∀t v h',R (.pan t v) h'->R' (.pan t v) h')
 (hw:∀v h',R (.ret v) h'->∃v1 h1,n<=h'.length/\h1.length=n/\Fzs (lE n h') n [v] [v1]/\FzO (lE n h') n h' h1/\R' (.ret v1) h1):AC P G f args h R':=
 H.wk hp λv h' r=>by
  obtain⟨v1,h1,a1,a2,a3,a4,a5⟩:=hw v h' r
  exact⟨v1,h1,Po hn a1 a2 rfl (λi u hi=>by
   cases i with
   |zero=>simp at hi;subst hi;exact .inr ⟨v,rfl,a3⟩
   |succ i=>simp at hi) a4,a5⟩
def FzA(hF:List AO)(m:Nat)(l:List (Nat × AV)):List (Nat × AV)->Prop
 |[]=>True
 |x::r=>Fzs hF m [look l x.1] [x.2]/\FzA hF m l r
theorem JE{hF:List AO}{m:Nat}{l:List (Nat × AV)}:∀{l1:List (Nat × AV)},FzA hF m l l1->∀i,look l1 i= .any\/Fzs hF m [look l i] [look l1 i]
 |[],_,i=> .inl rfl
 |x::r,h,i=>by
  simp only[look];split
  ·rename_i e;subst e;exact .inr h.1
  ·exact JE h.2 i
theorem Pw(m:Nat){k n:Nat}{l l1:List (Nat × AV)}{h h1:List AO}(hk:k<=m)(hm:m<=h.length)(hl:h1.length=m)(ho:FzO (lE m h) m h h1)(H:FzA (lE m h) m l l1):Wk k (aj n l) h (aj n l1) h1:=
 Po hk hm hl (by simp[aj]) (λi v1 hi=>by
  have hin:i<n:=by
   have:=(Wa.1 hi).1;simpa[aj] using this
  rw[ke hin] at hi;cases hi;rcases JE H i with e|e
  ·exact .inl e
  ·exact .inr ⟨_,ke hin,e⟩) ho
end Go.Aw
namespace Go.Aw
variable {P:Program} {G:aw}
theorem Jy{σ:List Nat}{n:Nat}(hσ:∀i,i<n->σ.getD i 0=i):∀v:AV,below n v->ren σ v=v:=by
 have key:∀(s:Nat),(∀v:AV,SizeOf.sizeOf v<s->below n v->ren σ v=v)/\(∀l:List AV,SizeOf.sizeOf l<s->au n l->bT σ l=l):=by
  intro s
  induction s with
  |zero=>exact⟨λv h=>by omega,λl h=>by omega⟩
  |succ s ih=>
   refine⟨λv hs hb=>?_,λl hs hb=>?_⟩
   ·cases v<;>simp only[ren,below] at hb⊢ <;>first
     |rfl
     |(rw[ih.2 _ (by simp at hs;omega) hb])
     |(rw[hσ _ hb])
   ·cases l with
    |nil=>rfl
    |cons v r=>simp only[bT];rw[ih.1 v (by simp at hs;omega) hb.1,ih.2 r (by simp at hs;omega) hb.2]
 exact λv=>(key _).1 v (YK _)
theorem pt{σ:List Nat}{n:Nat}(hσ:∀i,i<n->σ.getD i 0=i):∀l:List AV,au n l->bT σ l=l
 |[],_=>rfl
 |v::r,h=>by simp only[bT];rw[Jy hσ v h.1,pt hσ r h.2]
theorem AC.known{f:FuncId}{args:List AV}{h:List AO}{R:ARes->List AO->Prop}(H:AC P G f args h R):AC P G f args h λx h'=>R x h'/\HB h'/\(∀v,x= .ret v->below h'.length v)/\h.length<=h'.length:=
 ⟨H.1,λW S φ vs a b=>(H.2 W S φ vs a b).mono λ_ _ ⟨r,S',φ',h',k1,k2,k3,k4⟩=>⟨r,S',φ',h',⟨k1,k2.hb,λv e=>by
   subst e;cases k3 with
   |ret _ x hv=>exact hv.isBelow,k4.len⟩,k2,k3,k4⟩⟩
theorem Nv{n:Nat}:∀{args:List AV},au n args->TW (List.range' 0 n) args args
 |[],_=>trivial
 |v::r,h=>⟨.inr ⟨by simpa using h.1,Jy (λi hi=>by simp[Wv,hi]) v h.1⟩,Nv h.2⟩
end Go.Aw
namespace Go.Aw
section
variable {H:Type} {P:Program} {W:World} {L:List TypeId}
end
end Go.Aw
namespace Go.Aw
theorem AC.lendR{P:Program}{G:aw}{f:FuncId}{args pargs:List AV}{R:ARes->List AO->Prop}(H:AC P G f pargs [] R){h:List AO}(hv:Views h args pargs)(hp:∀t v h1,¬R (.pan t v) h1)(hc:∀v h1,R (.ret v) h1->clean v=true/\h1.all cleanO=true):
 AC P G f args h λx h'=>∃r h1,R (.ret r) h1/\x= .ret (bx h.length r)/\h'=h++h1.map (cS h.length):=by
 refine⟨H.1,λW S φ vs hH hA=>?_⟩
 have h0:HRel G W (λb=>S b\/kM φ h b) φ []:=⟨λid sz es e=>by simp at e,λid o e _=>by simp at e,λid id' e=>(aN e).elim,λb hb=>⟨by
  rcases hb with hb|⟨id,e,he⟩
  ·exact(hH.sep b hb).1
  ·rw[←he];exact hH.bnd id e.lt,λid e=>(aN e).elim⟩,λid hid=>by simp at hid,λg cs hg=>by
  obtain⟨g1,g2⟩:=hH.glob g cs hg;exact⟨.inl g1,λj c hj=>by obtain⟨v,k1,k2⟩:=g2 j c hj;exact⟨v,k1,k2.mono λb hb=>⟨.inl hb,rfl⟩⟩⟩⟩
 refine(H.2 W _ φ vs h0 ⟨by rw[hA.1,hv.len],λj c v h1 h2=>?_⟩).mono λe W' ⟨x,S',φ',h',k0,k2,k3,k4⟩=>?_
 ·have hj:j<vs.size:=(WU.1 h2).1;have hjl:j<args.length:=by rw[←hA.1];exact hj
  exact hv.rel hH j _ c v (Wc hjl) h1 (hA.2 j _ v (Wc hjl) h2)
 obtain⟨r,rfl⟩:∃r,x= .ret r:=by
  cases x with
  |ret v=>exact⟨v,rfl⟩
  |pan t v=>exact(hp _ _ _ k0).elim
 obtain⟨hr,hh⟩:=hc _ _ k0;have hout:∀b,b<W.heap.size->W'.heap[b]?=W.heap[b]?:=λb hb=>k4.out b hb λid e=>(aN e).elim;have hlt:∀{id:Nat} {o:AO},h[id]?=some o->id<h.length:=λe=>(Wa.1 e).1
 have himg:∀id,Live h' id->W.heap.size<=(φ' id).1:=λid e=>by
  rcases k4.img id e with h2|⟨id2,h2,_⟩
  ·exact h2
  ·exact(aN h2).elim
 have hφ:∀{i},i<h.length->kS h.length φ φ' i=φ i:=λhi=>by simp[kS,hi]
 have hφ':∀i,kS h.length φ φ' (h.length+i)=φ' i:=λi=>cW _ _ _ i
 have hget:∀{i o},(h++h'.map (cS h.length))[i]?=some o->(i<h.length/\h[i]?=some o)\/(∃k o',i=h.length+k/\h'[k]?=some o'/\o=cS h.length o'):=λ{i o} e=>by
  rcases Xh i h.length with hi|hi
  ·rw[Wb hi] at e;exact .inl ⟨hi,e⟩
  ·rw[Wg hi,Wl,Wf] at e;obtain⟨o,e2,e3⟩:=e;exact .inr ⟨_,o,by omega,e2,e3.symm⟩
 have hsl:∀{o:AO},(cS h.length o).live->o.live:=λ{o} l=>by cases o<;>exact l
 have K:Keep W S φ h W' S (kS h.length φ φ') (h++h'.map (cS h.length)):=
  {pure:=λb hb=>⟨hb,hout b (hH.sep b hb).1⟩,len:=by simp,same:=λ_ hid=>hφ hid
   blk:=λid hid c t fr e=>⟨c,t,fr,by rw[←hout _ (hH.bnd id hid)];exact e,rfl⟩
   os:=k4.os,tape:=k4.tape,output:=k4.output,size:=k4.size,out:=λb hb _=>hout b hb
   img:=λid ⟨o,e,l⟩=>by
    rcases hget e with⟨hi,e'⟩|⟨k,o',rfl,e',rfl⟩
    ·exact .inr ⟨id,⟨_,e',l⟩,by rw[hφ hi]⟩
    ·rw[hφ'];exact .inl (himg _ ⟨_,e',hsl l⟩)
   newS:=λb hb=> .inl hb}
 have hlen:(h++h'.map (cS h.length)).length=h.length+h'.length:=by simp
 refine⟨.ret (bx h.length r),S,kS h.length φ φ',_,⟨r,h',k0,rfl,rfl⟩,⟨λid sz es e=>?_,λid o1 e lo=>?_,λid id' ⟨o1,e1,l1⟩ ⟨o2,e2,l2⟩ he=>?_,λb hb=>⟨WN (hH.sep b hb).1 k4.size,λid ⟨o1,e,l1⟩ he=>?_⟩,λid hid=>?_,λg cs hg=>?_⟩,?_,K⟩
 ·rcases hget e with⟨hi,e'⟩|⟨k,o',rfl,e',eo⟩
  ·obtain⟨c,t,fr,a1,a2,a3,a4,a5⟩:=hH.obj id sz es e';refine⟨c,t,fr,by rw[hφ hi,hout _ (hH.bnd id hi)];exact a1,a2,a3,by rw[hφ hi];exact a4,λj u hj=>?_⟩;obtain⟨b1,v,b2,b3⟩:=a5 j u hj;exact⟨b1,v,by rw[hφ hi];exact b2,b3.kept K.toKept⟩
  ·obtain⟨es',rfl,rfl⟩:∃es',o'= .row sz es'/\es=es'.map (cm h.length):=by cases o'<;>cases eo;exact⟨_,rfl,rfl⟩
   obtain⟨c,t,fr,a1,a2,a3,a4,a5⟩:=k2.obj k sz es' e';refine⟨c,t,fr,by rw[hφ'];exact a1,a2,λe he=>?_,by rw[hφ'];simpa using a4,λj u hj=>?_⟩
   ·obtain⟨e0,he0,rfl⟩:=Ww.1 he;rw[bt];simpa using a3 e0 he0
   ·have hfl:(es'.map (cm h.length)).flatten=es'.flatten.map (bx h.length):=by
     rw[Zj];congr 1;exact WY λl _=>bt _ l
    rw[hfl,Wl,Wf] at hj;obtain⟨u0,hj,rfl⟩:=hj;obtain⟨b1,v,b2,b3⟩:=a5 j u0 hj
    have hcl:clean u0=true:=by
     have h3:=Wu.1 hh _ (Wq e');simp only[cleanO] at h3;obtain⟨l,hl,hu⟩:=Yt.1 (Wq hj);have h4:=Wu.1 h3 l hl;obtain⟨q,hq⟩:=WA hu;exact kP h4 q u0 hq
    exact⟨by rw[tK];exact b1,v,by rw[hφ'];exact b2,by rw[hlen];exact vo b3 hcl⟩
 ·rcases hget e with⟨hi,e'⟩|⟨k,o',rfl,e',eo⟩
  ·rw[hφ hi,hout _ (hH.bnd id hi)];exact(hH.oobj id o1 e' lo).mono λa v r=>r.kept K.toKept
  ·subst eo;rw[hφ'];have hq:=k2.oobj k o' e' (hsl lo);cases o' with
   |dead=>trivial
   |row sz es=>trivial
   |sit t pos=>exact hq
   |mp es'=>
    obtain⟨ents,clock,a1,a2,a3,a4⟩:=hq;refine⟨ents,clock,a1,by simpa using a2,λj k a hj=>?_,a4⟩;rw[Wl,Wf] at hj;obtain⟨⟨k0,a0⟩,hj,hk⟩:=hj;cases hk;obtain⟨x,c1,c2,c3⟩:=a3 j _ _ hj
    have hcl:clean a0=true:=by
     have h3:=Wu.1 hh _ (Wq e');simp only[cleanO] at h3;exact Wu.1 h3 _ (Wq hj)
    exact⟨x,c1,c2,by rw[hlen];exact vo c3 hcl⟩
 ·rcases hget e1 with⟨hi,e1'⟩|⟨k,_,rfl,e1',rfl⟩<;>rcases hget e2 with⟨hi',e2'⟩|⟨k',_,rfl,e2',rfl⟩
  ·rw[hφ hi,hφ hi'] at he;exact hH.inj _ _ ⟨_,e1',l1⟩ ⟨_,e2',l2⟩ he
  ·rw[hφ hi,hφ'] at he;have:=himg _ ⟨_,e2',hsl l2⟩;have:=hH.bnd id hi;omega
  ·rw[hφ hi',hφ'] at he;have:=himg _ ⟨_,e1',hsl l1⟩;have:=hH.bnd id' hi';omega
  ·rw[hφ',hφ'] at he;rw[k2.inj _ _ ⟨_,e1',hsl l1⟩ ⟨_,e2',hsl l2⟩ he]
 ·rcases hget e with⟨hi,e'⟩|⟨k,_,rfl,e',rfl⟩
  ·rw[hφ hi] at he;exact(hH.sep b hb).2 _ ⟨_,e',l1⟩ he
  ·rw[hφ'] at he;have:=himg _ ⟨_,e',hsl l1⟩;have:=(hH.sep b hb).1;omega
 ·rcases Xh id h.length with hi|hi
  ·rw[hφ hi];exact WN (hH.bnd id hi) k4.size
  ·have hid':id-h.length<h'.length:=by rw[hlen] at hid;omega
   have:=hφ' (id-h.length);rw[show h.length+(id-h.length)=id by omega] at this;rw[this];exact k2.bnd _ hid'
 ·obtain⟨g1,g2⟩:=hH.glob g cs hg;refine⟨g1,λj c hj=>?_⟩;obtain⟨v,v1,v2⟩:=g2 j c hj;exact⟨v,by rw[aJ (K.pure g g1).2];exact v1,v2.mono K.pure⟩
 ·cases k3 with
  |ret _ x hv=>rw[hlen];exact .ret _ _ (vo hv hr)
def Nn:PV->Bool
 | .lst _ (_::_)=>false
 | .tbl _ _=>false
 | .pair _ _=>false
 |_=>true
inductive OwnL (s:Bool) (h:List AO):List AV->List PV->List Nat->Prop where
 |nil:OwnL s h [] [] []
 |p (q:PV) {vs:List AV} {qs:List PV} {I:List Nat}:(s=true->Nn q=true)->OwnL s h vs qs I->OwnL s h (.p q::vs) (q::qs) I
 |nils (sz:Nat) {vs:List AV} {qs:List PV} {I:List Nat}:OwnL s h vs qs I->OwnL s h (.nils::vs) (.lst sz []::qs) I
 |sl (id sz n:Nat) (rows:List (List AV)) (es:List (List PV)) {J:List Nat} {vs:List AV} {qs:List PV} {I:List Nat}:h[id]?=some (.row sz rows)->n=es.length->rows.length=es.length->
   (∀e∈rows,e.length=sz)->(∀e∈es,e.length=sz)->OwnL s h rows.flatten es.flatten J->OwnL s h vs qs I->OwnL s h (.sl id sz 0 n::vs) (.lst sz es::qs) (id::(J++I))
section
variable {s:Bool} {h h':List AO} {vs:List AV} {qs:List PV} {I:List Nat}
theorem OwnL.len(H:OwnL s h vs qs I):vs.length=qs.length:=by
 induction H with
 |nil=>rfl
 |p q _ _ ih=>simp[ih]
 |nils sz _ ih=>simp[ih]
 |sl id sz n rows es _ _ _ _ _ _ _ _ ih=>simp[ih]
theorem OwnL.frame(H:OwnL s h vs qs I)(e:∀i∈I,h'[i]?=h[i]?):OwnL s h' vs qs I:=by
 induction H with
 |nil=>exact .nil
 |p q hq _ ih=>exact .p q hq (ih e)
 |nils sz _ ih=>exact .nils sz (ih e)
 |sl id sz n rows es a1 a2 a3 a4 a5 _ _ ih1 ih2=>exact .sl id sz n rows es (by rw[e _ (by simp)];exact a1) a2 a3 a4 a5 (ih1 λi hi=>e i (by simp[hi])) (ih2 λi hi=>e i (by simp[hi]))
theorem OwnL.more(H:OwnL s h vs qs I)(os:List AO):OwnL s (h++os) vs qs I:=by
 induction H with
 |nil=>exact .nil
 |p q hq _ ih=>exact .p q hq ih
 |nils sz _ ih=>exact .nils sz ih
 |sl id sz n rows es a1 a2 a3 a4 a5 _ _ ih1 ih2=>exact .sl id sz n rows es (by rw[Wb (Wa.1 a1).1];exact a1) a2 a3 a4 a5 ih1 ih2
theorem OwnL.set_out(H:OwnL s h vs qs I){id:Nat}(hn:id∉I)(o:AO):OwnL s (h.set id o) vs qs I:=
 H.frame λi hi=>Wd (by rintro rfl;exact hn hi)
theorem OwnL.ids(H:OwnL s h vs qs I):∀i∈I,∃sz rows,h[i]?=some (.row sz rows):=by
 induction H with
 |nil=>intro i hi;cases hi
 |p q hq _ ih=>exact ih
 |nils sz _ ih=>exact ih
 |sl id sz n rows es a1 a2 a3 a4 a5 _ _ ih1 ih2=>
  intro i hi;simp only[WE,Ws] at hi;rcases hi with rfl|hi|hi
  ·exact⟨_,_,a1⟩
  ·exact ih1 i hi
  ·exact ih2 i hi
theorem OwnL.lt(H:OwnL s h vs qs I){i:Nat}(hi:i∈I):i<h.length:=by
 obtain⟨_,_,e⟩:=H.ids i hi;exact(Wa.1 e).1
theorem OwnL.app{a b:List AV}{c d:List PV}{J:List Nat}(H:OwnL s h a c I)(H2:OwnL s h b d J):OwnL s h (a++b) (c++d) (I++J):=by
 induction H with
 |nil=>exact H2
 |p q hq _ ih=>exact .p q hq ih
 |nils sz _ ih=>exact .nils sz ih
 |sl id sz n rows es a1 a2 a3 a4 a5 a6 _ ih1 ih2=>
  have:=OwnL.sl id sz n rows es a1 a2 a3 a4 a5 a6 ih2;simpa only[Xt,Wp] using this
theorem OwnL.split:∀{a b:List AV} {c d:List PV} {I:List Nat},OwnL s h (a++b) (c++d) I->a.length=c.length->∃I1 I2,I=I1++I2/\OwnL s h a c I1/\OwnL s h b d I2
 |[],b,[],d,I,H,_=>⟨[],I,rfl,.nil,H⟩
 |v::a,b,q::c,d,I,H,hl=>by
  simp only[Xt] at H;have hl':a.length=c.length:=by simpa using hl
  cases H with
  |p _ hq H=>
   obtain⟨I1,I2,e,h1,h2⟩:=OwnL.split H hl';exact⟨I1,I2,e,.p _ hq h1,h2⟩
  |nils sz H=>
   obtain⟨I1,I2,e,h1,h2⟩:=OwnL.split H hl';exact⟨I1,I2,e,.nils _ h1,h2⟩
  |sl id sz n rows es a1 a2 a3 a4 a5 a6 H=>
   obtain⟨I1,I2,e,h1,h2⟩:=OwnL.split H hl';subst e;exact⟨_::(_++I1),I2,by simp,.sl id sz n rows es a1 a2 a3 a4 a5 a6 h1,h2⟩
 |[],_,_::_,_,_,_,hl=>by simp at hl
 |_::_,_,[],_,_,_,hl=>by simp at hl
theorem OwnL.one{v:AV}{q:PV}{vs:List AV}{qs:List PV}(H:OwnL s h (v::vs) (q::qs) I):∃I1 I2,I=I1++I2/\OwnL s h [v] [q] I1/\OwnL s h vs qs I2:=
 OwnL.split (a:=[v]) (c:=[q]) H rfl
theorem Ba{α:Type}{sz:Nat}:∀{l:List (List α)},(∀e∈l,e.length=sz)->l.flatten.length=l.length*sz
 |[],_=>by simp
 |e::r,hl=>by rw[WX,Wn,Ba (λx hx=>hl x (Xb _ hx)),hl e (Yj ..),WC,Nat.succ_mul];omega
theorem tF{α:Type}{l:List α}{i:Nat}{x:α}(e:l[i]?=some x):l=l.take i++x::l.drop (i+1):=by
 obtain⟨hi,e⟩:=Wa.1 e;rw[←e,←Xa hi,XH]
theorem sq{α:Type}{l:List α}{i:Nat}(x:α)(hi:i<l.length):l.set i x=l.take i++x::l.drop (i+1):=by rw[List.set_eq_take_append_cons_drop,Wz hi]
theorem OwnL.put{sz:Nat}{rows:List (List AV)}{es:List (List PV)}{J:List Nat}(H:OwnL s h rows.flatten es.flatten J)(hl:rows.length=es.length)(hr:∀e∈rows,e.length=sz)(he:∀e∈es,e.length=sz){i:Nat}{e:List PV}(hi:es[i]?=some e):
 ∃r J1 Ji J2,rows[i]?=some r/\J=J1++(Ji++J2)/\OwnL s h r e Ji/\∀(h':List AO) (r':List AV) (e':List PV) (Ji':List Nat),(∀j∈J1++J2,h'[j]?=h[j]?)->OwnL s h' r' e' Ji'->OwnL s h' (rows.set i r').flatten (es.set i e').flatten (J1++(Ji'++J2)):=by
 have hil:i<es.length:=(Wa.1 hi).1;have hir:i<rows.length:=by omega
 have e1:=Wc hir;have d1:=tF e1;have d2:=tF hi;generalize rows[i]=r at e1 d1
 have t1:(rows.take i).flatten.length=(es.take i).flatten.length:=by rw[Ba (λx hx=>hr x (Xp hx)),Ba (λx hx=>he x (Xp hx)),WD,WD,hl]
 have t2:r.length=e.length:=by rw[hr r (Wq e1),he e (Wq hi)]
 have H0:=H;rw[d1,d2,XS,XS,WX,WX] at H0;obtain⟨J1,J3,rfl,k1,k2⟩:=OwnL.split H0 t1;obtain⟨Ji,J2,rfl,k3,k4⟩:=OwnL.split k2 t2;refine⟨r,J1,Ji,J2,e1,rfl,k3,λh' r' e' Ji' hf ho=>?_⟩;rw[sq _ hir,sq _ hil,XS,XS,WX,WX];exact(k1.frame λj hj=>hf j (by simp[hj])).app (ho.app (k4.frame λj hj=>hf j (by simp[hj])))
theorem OwnL.view(H:OwnL s h vs qs I):∀(j:Nat) (v:AV) (q:PV),vs[j]?=some v->qs[j]?=some q->View h v q:=by
 induction H with
 |nil=>intro j v q e;simp at e
 |p q hq _ ih=>
  intro j v q' e1 e2;cases j with
  |zero=>cases e1;cases e2;exact .p _
  |succ j=>exact ih j v q' (by simpa using e1) (by simpa using e2)
 |nils sz _ ih=>
  intro j v q' e1 e2;cases j with
  |zero=>cases e1;cases e2;exact .nils _
  |succ j=>exact ih j v q' (by simpa using e1) (by simpa using e2)
 |sl id sz n rows es a1 a2 a3 a4 a5 _ _ ih1 ih2=>
  intro j v q' e1 e2;cases j with
  |succ j=>exact ih2 j v q' (by simpa using e1) (by simpa using e2)
  |zero=>
   cases e1;cases e2;subst a2;refine .sl id sz 0 rows es a1 (by omega) a5 λi j e q e' a b1 b2 b3 b4=>?_;rw[WV] at b3
   have hj:j<sz:=by
    have:=(Wa.1 b2).1;rw[a5 e (Wq b1)] at this;exact this
   exact ih1 (i*sz+j) a q (by rw[aZ a4 i j hj,b3];exact b4) (by rw[aZ a5 i j hj,b1];exact b2)
theorem OwnL.views(H:OwnL s h vs qs I):Views h vs (qs.map .p):=by
 have hv:=H.view;have hl:=H.len;clear H
 induction vs generalizing qs with
 |nil=>
  cases qs with
  |nil=>exact .nil
  |cons q qs=>simp at hl
 |cons v vs ih=>
  cases qs with
  |nil=>simp at hl
  |cons q qs=>exact .one (hv 0 v q rfl rfl) (ih (λj v q e1 e2=>hv (j+1) v q (by simpa using e1) (by simpa using e2)) (by simpa using hl))
theorem OwnL.blw(H:OwnL s h vs qs I):au h.length vs:=by
 induction H with
 |nil=>exact True.intro
 |p q hq _ ih=>exact⟨True.intro,ih⟩
 |nils sz _ ih=>exact⟨True.intro,ih⟩
 |sl id sz n rows es a1 _ _ _ _ _ _ _ ih2=>exact⟨(Wa.1 a1).1,ih2⟩
theorem OwnL.ren{σ:List Nat}(H:OwnL s h vs qs I)(hσ:∀i∈I,∀sz rows,h[i]?=some (.row sz rows)->h'[σ.getD i 0]?=some (.row sz (rows.map (bT σ)))):OwnL s h' (bT σ vs) qs (I.map λi=>σ.getD i 0):=by
 induction H with
 |nil=>exact .nil
 |p q hq _ ih=>exact .p q hq (ih hσ)
 |nils sz _ ih=>exact .nils sz (ih hσ)
 |sl id sz n rows es a1 a2 a3 a4 a5 _ _ ih1 ih2=>
  have k1:=ih1 λi hi=>hσ i (by simp[hi]);rw[←fH] at k1;have:=OwnL.sl (s:=s) (σ.getD id 0) sz n (rows.map (bT σ)) es (hσ id (by simp) _ _ a1) a2 (by simpa using a3) (λe he=>by obtain⟨e0,he0,rfl⟩:=Ww.1 he;rw[bz];exact a4 e0 he0) a5 k1 (ih2 λi hi=>hσ i (by simp[hi]));simpa[bT,Go.Aw.ren] using this
theorem BV(n:Nat)(es:List (List AV)):(es.map (cm n)).flatten=cm n es.flatten:=by rw[bt,Zj];congr 1;exact WY λl _=>bt n l
theorem OwnL.shift(H:OwnL s h vs qs I)(pre:List AO):OwnL s (pre++h.map (cS pre.length)) (cm pre.length vs) qs (I.map λi=>pre.length+i):=by
 induction H with
 |nil=>exact .nil
 |p q hq _ ih=>exact .p q hq ih
 |nils sz _ ih=>exact .nils sz ih
 |sl id sz n rows es a1 a2 a3 a4 a5 _ _ ih1 ih2=>
  rw[←BV] at ih1;have:=OwnL.sl (s:=s) (h:=pre++h.map (cS pre.length)) (pre.length+id) sz n (rows.map (cm pre.length)) es (by rw[Wg (by omega),WP,Wl,a1];rfl) a2 (by simpa using a3) (λe he=>by obtain⟨e0,he0,rfl⟩:=Ww.1 he;rw[bt,Wj];exact a4 e0 he0) a5 ih1 ih2;simpa[cm,bx] using this
theorem OwnL.clean(H:OwnL true h vs qs I):eb vs=true:=by
 induction H with
 |nil=>rfl
 |p q hq _ ih=>
  have:=hq rfl;simp only[eb,Wr];refine⟨?_,ih⟩
  match q,this with
  | .bool _,_=>rfl
  | .int _ _,_=>rfl
  | .str _,_=>rfl
  | .lst _ [],_=>rfl
 |nils sz _ ih=>simpa[eb,Go.Aw.clean] using ih
 |sl id sz n rows es a1 _ _ _ _ _ _ _ ih2=>simpa[eb,Go.Aw.clean] using ih2
theorem BP:∀{l:List AV},(∀v∈l,Go.Aw.clean v=true)->eb l=true
 |[],_=>rfl
 |v::r,hl=>by simp only[eb,Wr];exact⟨hl v (by simp),BP λx hx=>hl x (by simp[hx])⟩
theorem OwnL.cleanO(H:OwnL true h vs qs I):∀i∈I,∀o,h[i]?=some o->Go.Aw.cleanO o=true:=by
 induction H with
 |nil=>intro i hi;cases hi
 |p q hq _ ih=>exact ih
 |nils sz _ ih=>exact ih
 |sl id sz n rows es a1 a2 a3 a4 a5 k _ ih1 ih2=>
  intro i hi o ho;simp only[WE,Ws] at hi;rcases hi with rfl|hi|hi
  ·rw[a1] at ho;cases ho;have kc:=k.clean;simp only[Go.Aw.cleanO,Wu];intro e he;refine BP λv hv=>?_;obtain⟨j,hj⟩:=WA (Yt.2 ⟨e,he,hv⟩);exact kP kc j v hj
  ·exact ih1 i hi o ho
  ·exact ih2 i hi o ho
end
def MkW(w:List AV->AV)(s:Bool)(qs:List PV)(x:ARes)(h:List AO):Prop:=∃vs I,x= .ret (w vs)/\OwnL s h vs qs I/\I.Nodup
structure Shp (w:List AV->AV):Prop where
 ren:∀σ vs,Go.Aw.ren σ (w vs)=w (bT σ vs)
 shift:∀n vs,bx n (w vs)=w (cm n vs)
 clean:∀vs,eb vs=true->Go.Aw.clean (w vs)=true
 below:∀n vs,au n vs->Go.Aw.below n (w vs)
 views:∀h vs (qs:List PV),Views h vs (qs.map .p)->Views h [w vs] [w (qs.map .p)]
def dM(vs:List AV):AV:=vs.headD .any
theorem bC:Shp .agg:=⟨λ_ _=>rfl,λ_ _=>rfl,λ_ h=>h,λ_ _ h=>h,λ_ _ _ h=> .agg h .nil⟩
theorem dQ:Shp dM:=by
 refine⟨λσ vs=>?_,λσ vs=>?_,λvs h=>?_,λn vs h=>?_,λh vs qs hv=>?_⟩
 ·cases vs<;>rfl
 ·cases vs<;>rfl
 ·cases vs with
  |nil=>rfl
  |cons v r=>simp only[eb,Wr] at h;exact h.1
 ·cases vs with
  |nil=>exact True.intro
  |cons v r=>exact h.1
 ·cases qs with
  |nil=>
   cases hv;exact .keep True.intro .nil
  |cons q qs=>
   cases hv with
   |one h1 _=>exact .one h1 .nil
   |keep h1 _=>exact .keep h1 .nil
def Ov(b:Bool)(vs:List AV):AV:= .tup [.agg vs,.p (.bool b)]
theorem Gl(b:Bool):Shp (Ov b):=⟨λ_ _=>rfl,λ_ _=>rfl,λvs h=>by simp[Ov,Go.Aw.clean,eb,h],λn vs h=>⟨h,True.intro,True.intro⟩,λ_ _ _ h=> .tup (.agg h (.one (.p _) .nil)) .nil⟩
section
variable {P:Program} {G:aw} {f:FuncId} {w:List AV->AV} {s:Bool} {qs:List PV}
def Mk(w:List AV->AV)(s:Bool)(qs:List PV)(h:List AO)(x:ARes)(h':List AO):Prop:=
 ∃vs I os,x= .ret (w vs)/\h'=h++os/\OwnL s h' vs qs I/\I.Nodup/\∀i∈I,h.length<=i
theorem mf{g:Nat->Nat}(hg:∀i j,g i=g j->i=j):∀{l:List Nat},l.Nodup->(l.map g).Nodup
 |[],_=>by simp
 |a::r,hn=>by
  rw[WR] at hn;rw[WJ,WR];exact⟨λhm=>by obtain⟨b,hb,e⟩:=Ww.1 hm;rw[hg _ _ e] at hb;exact hn.1 hb,mf hg hn.2⟩
theorem AC.mkKill{args:List AV}(hw:Shp w)(H:AC P G f args [] (MkW w s qs)):AC P G f args [] λx h=>∃vs I,x= .ret (w vs)/\OwnL s h vs qs I/\I.Nodup/\∀(i:Nat) o,h[i]?=some o->o= .dead\/i∈I:=by
 refine H.known.gc (λt v h ⟨⟨_,_,e,_⟩,_⟩=>by cases e) λv h ⟨⟨vs,I,e,ho,nd⟩,hb,hbl,_⟩=>?_;cases e
 have hid:∀i,i<h.length->(List.range h.length).getD i 0=i:=λi hi=>by rw[Wv];simp[hi]
 let g:Nat->AO:=λi=>if i∈I then(h[i]?).getD .dead else .dead
 have hg:∀i,i<h.length->((List.range h.length).map g)[i]?=some (g i):=λi hi=>by simp[hi]
 refine⟨w vs,(List.range h.length).map g,⟨List.range h.length,by simp,λi hi=>by simp at hi,Zl,?_,?_,?_⟩,vs,I,rfl,ho.frame λi hi=>?_,nd,λi o hi=>?_⟩
 ·rw[Xq];exact hw.below _ _ ho.blw
 ·rw[hw.ren,pt hid _ ho.blw]
 ·have:∀(n k:Nat),k+n=h.length->HW (List.range h.length) h (List.range' k n) ((List.range' k n).map g):=by
   intro n
   induction n with
   |zero=>intro k _;exact True.intro
   |succ n ih=>
    intro k hk;rw[List.range'_succ,WJ];have ih:=ih (k+1) (by omega)
    by_cases hm:k∈I
    ·obtain⟨sz,rows,e⟩:=ho.ids k hm;have eg:g k= .row sz rows:=(by simp only[g,Wz hm,e,Yb]);rw[eg];have hb1:=hb.1 k sz rows e;refine Kc (λx hx=>by rw[Xq];exact(hb1 x hx).2.1) ?_ ih;rw[e,WY (g:=id) λx hx=>pt hid x (hb1 x hx).2.1];simp
    ·have eg:g k= .dead:=(by simp only[g,WB hm]);rw[eg];exact JZ (by omega) ih
  have:=this h.length 0 (by omega);rwa[←YQ] at this
 ·have hl:=ho.lt hi;rw[hg i hl];obtain⟨sz,rows,e⟩:=ho.ids i hi;simp only[g,Wz hi,e,Yb]
 ·have hl:i<h.length:=by simpa using(Wa.1 hi).1
  rw[hg i hl] at hi;cases hi
  by_cases hm:i∈I
  ·exact .inr hm
  ·exact .inl (WB hm)
theorem AC.mkLend{args pargs:List AV}(hw:Shp w)(H:AC P G f pargs [] (MkW w true qs)){h:List AO}(hv:Views h args pargs):AC P G f args h (Mk w true qs h):=by
 refine((AC.mkKill hw H).lendR hv (λt v h1 ⟨_,_,e,_⟩=>by cases e) λv h1 ⟨vs,I,e,ho,nd,hd⟩=>?_).mono ?_
 ·cases e;refine⟨hw.clean _ ho.clean,Wu.2 λo hm=>?_⟩;obtain⟨i,hi⟩:=WA hm;rcases hd i o hi with rfl|hI
  ·rfl
  ·exact ho.cleanO i hI o hi
 ·rintro x h' ⟨r,h1,⟨vs,I,e,ho,nd,hd⟩,rfl,rfl⟩;cases e;refine⟨cm h.length vs,I.map λi=>h.length+i,_,by rw[hw.shift],rfl,ho.shift h,mf (λi j e=>by omega) nd,λi hi=>?_⟩;obtain⟨j,_,rfl⟩:=Ww.1 hi;omega
theorem AC.mkLift{args:List AV}(hw:Shp w)(H:AC P G f args [] (MkW w s qs)){h:List AO}(hv:au 0 args):AC P G f args h (Mk w s qs h):=by
 have hT:TW [] args args:=by
  have:=Nv (n:=0) (args:=args) hv;simpa using this
 refine(H.frame (h:=h) [] Yk hT True.intro).mono ?_;rintro x h' ⟨x0,h0,⟨vs,I,rfl,ho,nd⟩,hl,rfl,rfl⟩
 have hσ:∀i,i<h0.length->([]++List.range' h.length (h0.length-([]:List AO).length)).getD i 0=h.length+i:=λi hi=>by rw[Xj,Wv];simp[hi]
 generalize hs:([]:List Nat)++List.range' h.length (h0.length-([]:List AO).length)=σ at*
 have ho2:=ho.ren (h':=h++h0.map (nH σ)) (σ:=σ) λi hi sz rows e=>by rw[hσ i (ho.lt hi),Wg (by omega),WP,Wl,e];rfl
 refine⟨bT σ vs,I.map λi=>σ.getD i 0,h0.map (nH σ),by simp only[Qv];rw[hw.ren],by simp[mrg],by simpa[mrg] using ho2,?_,λi hi=>?_⟩
 ·rw[WY (g:=λi=>h.length+i) λi hi=>hσ i (ho.lt hi)];exact mf (λi j e=>by omega) nd
 ·obtain⟨j,hj,rfl⟩:=Ww.1 hi;rw[hσ j (ho.lt hj)];omega
theorem AC.mkFreeze{args:List AV}(hw:Shp w)(H:AC P G f args [] (MkW w s qs)):VF P G f args (w (qs.map .p)):=
 H.freezeR (λt v h ⟨_,_,e,_⟩=>by cases e) λv h ⟨vs,I,e,ho,_⟩=>by cases e;exact hw.views _ _ _ ho.views
end
structure RowOwn (s:Bool) (h:List AO) (id sz:Nat) (rows:List (List AV)) (D:List (List PV)) (J:List Nat):Prop where
 here:h[id]?=some (.row sz rows)
 len:rows.length=D.length
 rl:∀e∈rows,e.length=sz
 dl:∀e∈D,e.length=sz
 own:OwnL s h rows.flatten D.flatten J
 nd:(id::J).Nodup
section
variable {s:Bool} {h:List AO} {id sz:Nat} {rows:List (List AV)} {D:List (List PV)} {J:List Nat}
theorem RowOwn.lt(H:RowOwn s h id sz rows D J):id<h.length:=(Wa.1 H.here).1
theorem RowOwn.tree(H:RowOwn s h id sz rows D J){n:Nat}(hn:n=D.length):OwnL s h [.sl id sz 0 n] [.lst sz D] (id::J):=by
 have:=OwnL.sl id sz n rows D H.here hn H.len H.rl H.dl H.own .nil;rwa[WI] at this
theorem OwnL.inv{v:AV}{I:List Nat}(H:OwnL s h [v] [.lst sz D] I)(nd:I.Nodup):(D=[]/\I=[]/\(v= .nils\/v= .p (.lst sz [])))\/(s=false/\v= .p (.lst sz D)/\I=[])\/∃id rows J,v= .sl id sz 0 D.length/\I=id::J/\RowOwn s h id sz rows D J:=by
 cases H with
 |p _ hq H=>
  cases H;cases s with
  |false=>exact .inr (.inl ⟨rfl,rfl,rfl⟩)
  |true=>
   cases D with
   |nil=>exact .inl ⟨rfl,rfl,.inr rfl⟩
   |cons=>simp[Nn] at hq
 |nils _ H=>cases H;exact .inl ⟨rfl,rfl,.inl rfl⟩
 |sl id sz n rows es a1 a2 a3 a4 a5 a6 H=>
  cases H;subst a2;rw[WI] at nd⊢;exact .inr (.inr ⟨id,rows,_,rfl,rfl,a1,a3,a4,a5,a6,nd⟩)
theorem RowOwn.fill(H:RowOwn s h id sz rows D J){i:Nat}(hi:i<D.length){h2 os:List AO}(e2:h2=h++os){r':List AV}{e':List PV}{I2:List Nat}(ho:OwnL s h2 r' e' I2)(nd2:I2.Nodup)(hf:∀j∈I2,h.length<=j)(he:e'.length=sz):
 ∃J',RowOwn s (h2.set id (.row sz (rows.set i r'))) id sz (rows.set i r') (D.set i e') J':=by
 subst e2;obtain⟨r,J1,Ji,J2,g1,rfl,g3,g4⟩:=H.own.put H.len H.rl H.dl (Wc hi);have hid:=H.lt;have hn:=H.nd;have hlt:∀j∈J1++(Ji++J2),j<h.length:=λj hj=>H.own.lt hj;simp only[WR,WG,Ws,not_or] at hn hlt;obtain⟨⟨n1,n2,n3⟩,m1,⟨m2,m3,m4⟩,m5⟩:=hn;have hid2:id∉I2:=λhm=>by have:=hf _ hm;omega
 refine⟨J1++(I2++J2),by rw[Wh (by simp;omega)],by simp[H.len],λe he'=>?_,λe he'=>?_,g4 _ r' e' I2 (λj hj=>?_) (ho.set_out hid2 _),?_⟩
 ·rcases XU he' with h1|rfl
  ·exact H.rl e h1
  ·rw[ho.len,he]
 ·rcases XU he' with h1|rfl
  ·exact H.dl e h1
  ·exact he
 ·have hj2:j≠id:=λe=>by
   subst e;rcases Ws.1 hj with hj|hj
   ·exact n1 hj
   ·exact n3 hj
  have hjl:j<h.length:=by
   rcases Ws.1 hj with hj|hj
   ·exact hlt j (.inl hj)
   ·exact hlt j (.inr (.inr hj))
  rw[Wd (Ne.symm hj2),Wb hjl]
 ·simp only[WR,WG,Ws,not_or];refine⟨⟨n1,hid2,n3⟩,m1,⟨nd2,m3,λa ha b hb e=>?_⟩,λa ha b hb e=>?_⟩
  ·have:=hf a ha;have:=hlt b (.inr (.inr hb));omega
  ·rcases hb with hb|hb
   ·have:=hf b hb;have:=hlt a (.inl ha);omega
   ·exact m5 a ha b (.inr hb) e
theorem RowOwn.change(H:RowOwn s h id sz rows D J){i:Nat}{e:List PV}(hi:D[i]?=some e):
 ∃r Ji,rows[i]?=some r/\OwnL s h r e Ji/\(id::Ji).Nodup/\(∀j∈Ji,j∈J)/\∀(h2:List AO) (r':List AV) (e':List PV),h2[id]?=some (.row sz (rows.set i r'))->(∀j,j<h.length->j≠id->j∉Ji->h2[j]?=h[j]?)->OwnL s h2 r' e' Ji->e'.length=sz->
  RowOwn s h2 id sz (rows.set i r') (D.set i e') J:=by
 obtain⟨r,J1,Ji,J2,g1,rfl,g3,g4⟩:=H.own.put H.len H.rl H.dl hi;have hn:=H.nd;have hlt:∀j∈J1++(Ji++J2),j<h.length:=λj hj=>H.own.lt hj;simp only[WR,WG,Ws,not_or] at hn hlt;obtain⟨⟨n1,n2,n3⟩,m1,⟨m2,m3,m4⟩,m5⟩:=hn;refine⟨r,Ji,g1,g3,by simp[n2,m2],λj hj=>by simp[hj],λh2 r' e' k1 k2 k3 k4=>⟨k1,by simp[H.len],λx hx=>?_,λx hx=>?_,g4 h2 r' e' Ji (λj hj=>?_) k3,H.nd⟩⟩
 ·rcases XU hx with h1|rfl
  ·exact H.rl x h1
  ·rw[k3.len,k4]
 ·rcases XU hx with h1|rfl
  ·exact H.dl x h1
  ·exact k4
 ·rcases Ws.1 hj with hj|hj
  ·exact k2 j (hlt j (.inl hj)) (λe=>n1 (e▸hj)) λhm=>m5 j hj j (.inl hm) rfl
  ·exact k2 j (hlt j (.inr (.inr hj))) (λe=>n3 (e▸hj)) λhm=>m4 j hm j hj rfl
end
theorem aa{k n:Nat}{l l1:List (Nat × AV)}{h:List AO}(hk:k<=h.length)(H:FgA h.length l l1):Wk k (aj n l) h (aj n l1) h:=by
 intro G W0 S0 φ0 h0 W S φ a ek s;exact BW hk s.hrel.hb H G W0 S0 φ0 h0 W S φ a ek s
structure FilS where (i:Nat) (h:List AO)
def FilI(s:Bool)(id sz:Nat)(D:List (List PV))(z:List PV)(a:FilS):Prop:=
 a.i<=D.length/\∃rows J,RowOwn s a.h id sz rows (D.take a.i++List.replicate (D.length-a.i) z) J
section
variable {s:Bool} {h:List AO} {id sz i:Nat} {D:List (List PV)} {z:List PV}
theorem DH{zv:List AV}{q:List PV}(hz:OwnL s h zv q []):∀n,OwnL s h (List.replicate n zv).flatten (List.replicate n q).flatten []
 |0=> .nil
 |n+1=>by
  rw[XT,XT,WX,WX];exact hz.app (DH hz n)
theorem FilI.init{zv:List AV}{n:Nat}(e:h[id]?=some (.row sz (List.replicate n zv)))(hn:n=D.length)(hz:OwnL s h zv z [])(hl:zv.length=sz):FilI s id sz D z ⟨0,h⟩:=by
 subst hn;have hzl:z.length=sz:=by rw[←hz.len,hl]
 refine⟨We _,_,[],e,by simp,λx hx=>by rw[(XL.1 hx).2,hl],λx hx=>?_,?_,by simp⟩
 ·simp only[Yc,Xj,ZK] at hx;rw[(XL.1 hx).2,hzl]
 ·simpa using DH hz D.length
theorem FilI.step(H:FilI s id sz D z ⟨i,h⟩){e:List PV}(hi:D[i]?=some e){h2 os:List AO}(e2:h2=h++os){r':List AV}{I2:List Nat}(ho:OwnL s h2 r' e I2)(nd2:I2.Nodup)(hf:∀j∈I2,h.length<=j)(he:e.length=sz):
 ∃rows r,h2[id]?=some (.row sz rows)/\rows[i]?=some r/\r.length=sz/\rows.length=D.length/\i<D.length/\FilI s id sz D z ⟨i+1,h2.set id (.row sz (rows.set i r'))⟩:=by
 obtain⟨_,rows,J,hr⟩:=H;have hil:i<D.length:=(Wa.1 hi).1;have hlen:rows.length=D.length:=by have:=hr.len;simp at this;omega
 obtain⟨J',hr'⟩:=hr.fill (i:=i) (by simp;omega) e2 ho nd2 hf he;have h2e:h2[id]?=some (.row sz rows):=by rw[e2,Wb hr.lt];exact hr.here
 have hd:(D.take i++List.replicate (D.length-i) z).set i e=D.take (i+1)++List.replicate (D.length-(i+1)) z:=MY rfl hil hi;rw[hd] at hr';have hri:=Wc (l:=rows) (i:=i) (by omega);exact⟨rows,_,h2e,hri,hr.rl _ (Wq hri),hlen,hil,hil,_,J',hr'⟩
theorem FilI.done(H:FilI s id sz D z ⟨i,h⟩)(hi:D.length<=i):∃rows J,RowOwn s h id sz rows D J:=by
 obtain⟨h1,rows,J,hr⟩:=H;simp only at h1 hr;obtain rfl:i=D.length:=by omega
 refine⟨rows,J,?_⟩;simpa using hr
end
section
variable {s:Bool} {h:List AO} {id sz i:Nat} {D:List (List PV)}
end
end Go.Aw
namespace Go.Aw
def Mkd(h:List AO)(v:AV)(I:List Nat)(q:PV)(r:PV)(x:ARes)(h':List AO):Prop:=
 x= .ret (.p r)/\OwnL true h' [v] [q] I/\(∀j,j<h.length->j∉I->h'[j]?=h[j]?)/\h.length<=h'.length
def MkI(h0:List AO)(id sz:Nat)(A L:List (List PV))(J:List Nat)(a:FilS):Prop:=
 a.i<=L.length/\(∃rows,RowOwn true a.h id sz rows (A.take a.i++L.drop a.i) J)/\(∀j,j<h0.length->j∉id::J->a.h[j]?=h0[j]?)/\h0.length<=a.h.length
section
variable {h0 h:List AO} {id sz i:Nat} {A L:List (List PV)} {J:List Nat}
theorem PC{α:Type}{A L:List α}{i:Nat}{x:α}(hA:A[i]?=some x)(hi:i<L.length):(A.take i++L.drop i).set i x=A.take (i+1)++L.drop (i+1):=by
 obtain⟨ha,e⟩:=Wa.1 hA;have hl:(A.take i).length=i:=by rw[WD];omega
 rw[Xy _ _ (by omega),hl,Xd,Xa hi,XY,WQ,hA];simp
theorem MkI.init{rows:List (List AV)}(H:RowOwn true h id sz rows L J):MkI h id sz A L J ⟨0,h⟩:=
 ⟨We _,⟨rows,by simpa using H⟩,λ_ _ _=>rfl,Wo _⟩
theorem MkI.step(H:MkI h0 id sz A L J ⟨i,h⟩){e e':List PV}(hi:L[i]?=some e)(hA:A[i]?=some e'):
 ∃rows r Ji,h[id]?=some (.row sz rows)/\rows[i]?=some r/\OwnL true h r e Ji/\(id::Ji).Nodup/\id<h.length/\i<rows.length/\∀(h2:List AO) (r':List AV),h2[id]?=some (.row sz (rows.set i r'))->(∀j,j<h.length->j≠id->j∉Ji->h2[j]?=h[j]?)->
  OwnL true h2 r' e' Ji->e'.length=sz->h.length<=h2.length->MkI h0 id sz A L J ⟨i+1,h2⟩:=by
 obtain⟨_,⟨rows,ho⟩,hf,hl⟩:=H;simp only at ho hf hl;have hil:i<L.length:=(Wa.1 hi).1;have hal:i<A.length:=(Wa.1 hA).1
 have hget:(A.take i++L.drop i)[i]?=some e:=by rw[Wg (by rw[WD];omega),WD,XK (by omega),Xd,WZ,Yq];exact hi
 obtain⟨r,Ji,k1,k2,k3,k4,k5⟩:=ho.change hget;refine⟨rows,r,Ji,ho.here,k1,k2,k3,ho.lt,(Wa.1 k1).1,λh2 r' a1 a2 a3 a4 a6=>⟨hil,⟨rows.set i r',?_⟩,λj hj hn=>?_,Xw hl a6⟩⟩
 ·have:=k5 h2 r' e' a1 a2 a3 a4;rwa[PC hA hil] at this
 ·have hn':=hn;rw[WE,not_or] at hn';rw[a2 j (by omega) hn'.1 λhm=>hn'.2 (k4 j hm)];exact hf j hj hn
theorem MkI.done(H:MkI h0 id sz A L J ⟨i,h⟩)(hi:L.length<=i)(hA:A.length=L.length):(∃rows,RowOwn true h id sz rows A J)/\(∀j,j<h0.length->j∉id::J->h[j]?=h0[j]?)/\h0.length<=h.length:=by
 obtain⟨h1,⟨rows,ho⟩,hf,hl⟩:=H;simp only at h1 ho hf hl;refine⟨⟨rows,?_⟩,hf,hl⟩;rwa[Wi (by omega),Ze (by omega),WI] at ho
end
section
variable {P:Program} {G:aw}
end
end Go.Aw
namespace Go.Aw
end Go.Aw
namespace Go.Aw
theorem HB.ok{h:List AO}(hb:HB h):∀o∈h,okO h.length o:=by
 intro o ho;obtain⟨i,hi⟩:=WA ho;cases o with
 |row sz es=>exact λe he=>(hb.1 i sz es hi e he).2.1
 |mp es=>exact λe he=>hb.2 i es hi e he
 |_=>exact True.intro
theorem Views.fzs{hF:List AO}{n:Nat}:∀{l l':List AV},Views hF l l'->Fzs hF n l l'
 |_,_,.nil=> .nil
 |_,_,.one h r=> .one h r.fzs
 |_,_,.agg h r=> .agg h.fzs r.fzs
 |_,_,.tup h r=> .tup h.fzs r.fzs
 |_,_,.keep h r=> .keep (dx (We n) [_] ⟨h,trivial⟩).1 r.fzs
theorem Hm{hF:List AO}{n:Nat}:∀{h:List AO} (r:List AO),(∀o∈h,okO n o)->FzO hF n (h++r) h
 |[],r,_=> .nil r
 |o::h,r,hk=> .same (hk o (by simp)) (Hm r λx hx=>hk x (by simp[hx]))
section
variable {P:Program} {G:aw} {f:FuncId} {w:List AV->AV} {qs:List PV}
theorem AC.mkLendF{args pargs:List AV}(hc:dH P f=true)(hw:Shp w)(H:AC P G f pargs [] (MkW w true qs)){h:List AO}(hv:Views h args pargs):AC P G f args h λx h'=>x= .ret (w (qs.map .p))/\h'=h:=
 AC.hb hc λhb=>(AC.mkLend hw H hv).frz h.length (Wo _) (λt v h' ⟨_,_,_,e,_⟩=>by cases e) λv h' ⟨vs,I,os,e,e2,ho,nd,hf⟩=>by
  cases e;have hl:h.length<=h'.length:=by rw[e2];simp
  have ho2:OwnL true (lE h.length h') vs qs I:=ho.frame λi hi=>by
   have h1:=hf i hi;rw[lE,Wg (by simpa using h1),Xs,WZ];congr 1;omega
  refine⟨_,h,hl,rfl,(hw.views _ _ _ ho2.views).fzs,?_,rfl,rfl⟩;have:=Hm (hF:=lE h.length h') (n:=h.length) (h:=h) os hb.ok;rwa[←e2] at this
end
end Go.Aw
namespace Go.Aw
open Go Go.Sort
section
variable {G:aw} {W:World} {S:Nat->Prop} {φ:Place} {h:List AO}
theorem HRel.grown(H:HRel G W S φ h)(os:Array Obj):HRel G (grow W os) S φ h/\Keep W S φ h (grow W os) S φ h:=by
 have hg:∀b,b<W.heap.size->(grow W os).heap[b]?=W.heap[b]?:=λb hb=>by simp[grow,Array.getElem?_append,hb]
 have hS:∀b,S b->b<W.heap.size:=λb hb=>(H.sep b hb).1
 have K:Kept W S φ h.length (grow W os) S φ h.length:=
  {pure:=λb hb=>⟨hb,hg b (hS b hb)⟩
   len:=Wo _
   same:=λ_ _=>rfl
   blk:=λi hi c' t' fr' e=>by
    rw[hg _ (H.bnd i hi)] at e;exact⟨c',t',fr',e,rfl⟩}
 have hs:W.heap.size<=(grow W os).heap.size:=by simp[grow]
 refine⟨⟨λi s es e=>?_,λi o e lo=>?_,H.inj,λb hb=>⟨WN (hS b hb) hs,(H.sep b hb).2⟩,λi hi=>WN (H.bnd i hi) hs,λg cs hgl=>?_⟩,
  {K with os:=rfl,tape:=rfl,output:=rfl,size:=hs,out:=λb hb _=>hg b hb,img:=λi hi=> .inr ⟨i,hi,rfl⟩,newS:=λb hb=> .inl hb}⟩
 ·obtain⟨c,t,fr,a1,a2,a3,a4,a5⟩:=H.obj i s es e;refine⟨c,t,fr,by rw[hg _ (H.bnd i (H.lt e))];exact a1,a2,a3,a4,λj a hj=>?_⟩;obtain⟨b1,v,b2,b3⟩:=a5 j a hj;exact⟨b1,v,b2,b3.kept K⟩
 ·rw[hg _ (H.bnd i (H.lt e))];exact(H.oobj i o e lo).mono λa v r=>r.kept K
 ·obtain⟨g1,g2⟩:=H.glob g cs hgl;refine⟨g1,λj c' hj=>?_⟩;obtain⟨v,k1,k2⟩:=g2 j c' hj;exact⟨v,by rw[aJ (K.pure g g1).2];exact k1,k2.mono K.pure⟩
end
theorem Lj{α:Type}[Inhabited α](enc:α->Value){W:World}{n blk off:Nat}{d:Array α}{c:Array Value}{t:TypeId}{fr:Nat × Nat}(e:W.heap[blk]?=some (.cells c t fr)):
 BlockSet W (putRow enc (Go.Sort.ahead W n) blk off d) blk (putCells enc off d c) t fr where
 at_b:=by simp[putRow,mapBlock,Go.Sort.ahead,XE,e,onCells]
 other:=λb' hb=>by
  have:¬blk=b':=λe=>hb e.symm;simp[putRow,mapBlock,Go.Sort.ahead,XE,this]
 size:=by simp[putRow,mapBlock,Go.Sort.ahead]
 os:=rfl
 tape:=rfl
 output:=rfl
def jg(xs:List Int):AO:= .row 1 (xs.map λx=>[.p (.int .i64 x)])
theorem uN(xs:List Int):(xs.map λx=>[AV.p (.int .i64 x)]).flatten=xs.map λx=> .p (.int .i64 x):=by
 induction xs with
 |nil=>rfl
 |cons x r ih=>rw[WJ,WX,ih];rfl
theorem AC.shelfInts{P:Program}{G:aw}{f:FuncId}{h:List AO}{id:Nat}{xs ys:List Int}{rv:AV}{r:Nat->Nat->Nat->Value}(hf:dH P f=true)(hid:h[id]?=some (jg xs))(hx:xs≠[])(hy:ys.length=xs.length)
 (hr:∀(W:World) (S:Nat->Prop) (φ:Place) (n cap:Nat),id<n->xs.length<=cap->(∀c t fr,W.heap[(φ id).1]?=some (.cells c t fr)->(φ id).2+cap<=c.size)->VRel W S φ n rv (r (φ id).1 (φ id).2 cap))
 (H:∀(blk off cap:Nat) (W:World),Holds (Value.int .i64) W blk off xs.toArray->blk<W.heap.size->xs.length<=cap->Calls P f #[.slice (some ⟨blk,off,none⟩) xs.length cap] W λe W'=>e= .returned (r blk off cap)/\∃n os,W'=grow (putRow (Value.int .i64) (Go.Sort.ahead W n) blk off ys.toArray) os):
 AC P G f [.sl id 1 0 xs.length] h λx h'=>x= .ret rv/\h'=h.set id (jg ys):=by
 refine⟨hf,λW S φ vs hH hA=>?_⟩;obtain⟨c,t,fr,a1,a2,a3,a4,a5⟩:=hH.obj id 1 _ hid;rw[uN] at a5;rw[Wj,Nat.mul_one] at a4;have hidl:=hH.lt hid;have hs1:vs.size=1:=hA.1
 obtain⟨v0,rfl⟩:∃v0,vs=#[v0]:=⟨vs[0],by
  apply Array.ext
  ·simp[hs1]
  ·intro i h1 h2;have:i=0:=by omega
   subst this;rfl⟩
 have hv:=hA.2 0 _ v0 rfl rfl;cases hv with
 |sl _ _ _ _ cap ba _ hl hb hc=>
  rw[ZL,Yq] at hb;have hxl:0<xs.length:=YS.2 hx;rw[hb (by omega)]
  have hcell:∀j,j<xs.length->c[(φ id).2+j]?=some (.int .i64 xs[j]!):=λj hj=>by
   obtain⟨_,v,b2,b3⟩:=a5 j (.p (.int .i64 xs[j])) (by simp[hj]);cases b3 with
   |p _ _ hp=>
    cases hp;rw[b2];simp[hj]
  refine(H (φ id).1 (φ id).2 cap W (λj hj=>?_) (hH.bnd id hidl) hl).mono ?_
  ·have hj':j<xs.length:=by simpa using hj
   refine⟨?_,?_⟩
   ·simp only[World.cell?,a1];have:=hcell j hj';simpa using this
   ·have:=a2 ((φ id).2+j) (by omega);simp only[World.frozen?,a1];simpa using this
  ·rintro e W' ⟨rfl,n,os,rfl⟩;have B:=Lj (Value.int .i64) (n:=n) (off:=(φ id).2) (d:=ys.toArray) a1
   have hU:=hH.update (es':=ys.map λx=>[.p (.int .i64 x)]) hid a1 (by simp[putCells]) B (by simpa[putCells] using a2) (by simp) (by simp[putCells,hy];exact a4) (λj a hj=>by
    rw[uN] at hj
    have hjl:j<ys.length:=by
     have:=(Wa.1 hj).1;simpa using this
    have ha:a= .p (.int .i64 ys[j]):=by
     rw[Wl,Wc hjl] at hj;cases hj;rfl
    subst ha;refine⟨rfl,.int .i64 ys[j],?_,.p _ _ (.int _ _)⟩;have hb:(φ id).2+j<c.size:=(by omega);simp[putCells,hb,hjl])
   have hG:=hU.1.grown os;refine⟨.ret rv,S,φ,h.set id (jg ys),⟨rfl,rfl⟩,hG.1,.ret _ _ (hr _ _ _ _ _ (by simpa using hidl) hl λc' t' fr' e'=>?_),hU.2.trans hG.2⟩;have hlt:(φ id).1<(putRow (Value.int .i64) (Go.Sort.ahead W n) (φ id).1 (φ id).2 ys.toArray).heap.size:=by rw[B.size];exact hH.bnd id hidl
   have e2:(grow (putRow (Value.int .i64) (Go.Sort.ahead W n) (φ id).1 (φ id).2 ys.toArray) os).heap[(φ id).1]?=(putRow (Value.int .i64) (Go.Sort.ahead W n) (φ id).1 (φ id).2 ys.toArray).heap[(φ id).1]?:=by exact YP hlt
   rw[e2,B.at_b] at e';cases e';have:=hc _ _ _ a1;simp[putCells];omega
end Go.Aw
