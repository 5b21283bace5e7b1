/-
  Contracts and lemmas that the card needs, part 9.
-/
import Derived.Test.YtdfplkcigiblcaaGreatFp8
namespace Go.Proofs.YtdfplkcigiblcaaGreat
open Go Go.Aw
set_option maxRecDepth 100000
set_option maxHeartbeats 4000000
section
def mB(l:List Int):List (PV × AV):=l.map λv=>(.int .i64 v,.p (.bool true))
theorem Hk(x:Int):∀l:List Int,ga (.int .i64 x) (mB l)=some (if x∈l then some (.p (.bool true)) else none)
 |[]=>rfl
 |y::r=>by
  have ih:=Hk x r
  rw[mB,List.map_cons,ga]
  by_cases h:x=y
  ·simp[keq,h]
  ·simp only[keq,if_true,h,decide_false,List.mem_cons,false_or]
   exact ih
theorem Hd(y:Int):∀l:List Int,y∉l->jR (.int .i64 y) (.p (.bool true)) (mB l)=some (mB (l++[y]))
 |[],_=>rfl
 |x::r,h=>by
  have h1:¬y=x:=λe=>h (by simp[e])
  have ih:=Hd y r λe=>h (by simp[e])
  rw[mB,List.map_cons,jR]
  simp only[keq,if_true,h1,decide_false]
  rw[show(r.map λv=>((PV.int .i64 v,AV.p (.bool true)):PV × AV))=mB r from rfl,ih]
  rfl
theorem IE(l:List Int):(mB l).map (·.1)=l.map (PV.int .i64):=by simp[mB]
theorem Gj{xs l:List Int}{n:Nat}(hp:xs.Perm l)(nd:l.Nodup)(h:∀v∈l,0<=v/\v.toNat<n):(xs.mergeSort λx y=>decide (x<=y))=aX (inI l) n:=by
 have h1:(xs.mergeSort λx y=>decide (x<=y)).Perm l:=(List.mergeSort_perm xs _).trans hp
 refine mX ?_ (si _ _) λx=>?_
 ·have h2:=List.pairwise_and_iff.2 ⟨Fp xs,h1.symm.nodup nd⟩
  exact h2.imp λ{a b} ⟨e1,e2⟩=>by have:a≠b:=e2;omega
 ·rw[h1.mem_iff,lW,inI,decide_eq_true_iff]
  constructor
  ·intro hx
   obtain⟨a1,a2⟩:=h x hx
   exact⟨a1,a2,by rw[show((x.toNat:Nat):Int)=x by omega];exact hx⟩
  ·rintro⟨a1,_,a3⟩
   rwa[show((x.toNat:Nat):Int)=x by omega] at a3
def WrV(X:List AO)(V:AV)(id:Nat)(pre:List (List AV))(W:List Int):Prop:=(V= .nils/\W=[])\/(V= .sl id 1 pre.length W.length/\WrI X id pre W)
theorem WrV.below{X:List AO}{V:AV}{id:Nat}{pre:List (List AV)}{W:List Int}(h:WrV X V id pre W):Aw.below X.length V:=by
 rcases h with⟨rfl,_⟩|⟨rfl,h⟩
 ·simp[Aw.below]
 ·simp only[Aw.below];exact(List.getElem?_eq_some_iff.1 h).1
variable (G:az)
end
section
structure PsI (bs:List Bk) (h:Nat) (l l':List Int):Prop where
 nd:l'.Nodup
 inl:∀v∈l',∃x:Nat,v=(x:Int)/\x<bs.length/\Bd2 bs h x
 sub:∀v∈l,v∈l'
 new:∀x p:Nat,(x:Int)∈l'->(x:Int)∉l->(p:Int)∈aI bs (x:Int)->bP bs p=true->(p:Int)∈l'
theorem PsI.len{bs:List Bk}{h:Nat}{l l':List Int}(H:PsI bs h l l'):l'.length<=bs.length:=nT H.nd λv hv=>by
 obtain⟨x,h1,h2,_⟩:=H.inl v hv
 exact⟨x,h1,h2⟩
theorem Kz{a b:List Int}(nd:a.Nodup)(h:∀v∈a,v∈b):a.length<=b.length:=by
 induction a generalizing b with
 |nil=>exact Nat.zero_le _
 |cons x t ih=>
  obtain⟨u,w,rfl⟩:=List.append_of_mem (h x (by simp))
  rw[List.nodup_cons] at nd
  have:=ih (b:=u++w) nd.2 λy hy=>by
   have h1:=h y (by simp[hy])
   simp only[List.mem_append,List.mem_cons] at h1⊢
   rcases h1 with h1|h1|h1
   ·exact .inl h1
   ·subst h1;exact absurd hy nd.1
   ·exact .inr h1
  simp only[List.length_append,List.length_cons] at this⊢
  omega
theorem PsI.refl{bs:List Bk}{h:Nat}{l l0:List Int}(H:PsI bs h l0 l):PsI bs h l l:=⟨H.nd,H.inl,λ_ h=>h,λ_ _ h1 h2=>absurd h1 h2⟩
theorem PsI.trans{bs:List Bk}{h:Nat}{l l1 l2:List Int}(H1:PsI bs h l l1)(H2:PsI bs h l1 l2):PsI bs h l l2:=by
 refine⟨H2.nd,H2.inl,λv hv=>H2.sub v (H1.sub v hv),λx p hx hn hp hr=>?_⟩
 by_cases e:(x:Int)∈l1
 ·exact H2.sub _ (H1.new x p e hn hp hr)
 ·exact H2.new x p hx e hp hr
def bdH(D:AV)(l:List Int):List AO:=[.row 1 [[D]],.mp (mB l),.row 1 [[.mp 1]],.row 1 [[.fn (.func cA) [.ptr 2 1 0 0,.ptr 0 1 0 0,.ptr 3 1 0 0]]]]
structure BvS where (j:Nat) (l:List Int)
variable (G:az)
theorem FJ(c:Cd)(hc:CBd c)(hfit:aV c.blocks=true)(h:Nat):∀(f:Nat) (l:List Int) (b:Nat),c.blocks.length<l.length+f->b<c.blocks.length->(bP c.blocks b=true->Bd2 c.blocks h b)->(h:Int)∈l->PsI c.blocks h l l->
 AC Tryz.prog G cA [.p (.int .i64 b),.ptr 2 1 0 0,.ptr 0 1 0 0,.ptr 3 1 0 0] (bdH (dmV c) l) λx h'=>x= .ret (.tup [])/\∃l',h'=bdH (dmV c) l'/\PsI c.blocks h l l'/\(bP c.blocks b=true->(b:Int)∈l'):=by
 have hl1:=hc.1
 have hP:=λx=>pR G c x hc.1 hc.2
 have hcs:=c.cs_eq2
 rw[hcs] at hP
 have hd:dmV c= .eptr (dmE c) 0:=by rw[dmV,hfit];rfl
 obtain⟨DL,BL,RL,e,hDl,hDg,hBl,hBg,hRl,hRg⟩:=sY c
 rw[hd,e]
 intro f
 induction f with
 |zero=>
  intro l b hf _ _ _ H
  have:=H.len
  omega
 |succ f ih=>
  intro l b hf hb hbd hhl H
  have hmg:=Hk (b:Int) l
  have hrb:=hRg b hb
  have hpe:ik c (b:Int)=aI c.blocks (b:Int):=pB hb
  have hPb:=hP (b:Int)
  rw[hpe] at hPb
  have hpl:=rq c.blocks (b:Int)
  refine AC.go mU ?_
  by_cases hm:(b:Int)∈l
  ·rw[if_pos hm] at hmg
   simp-implicitDefEqProofs[cD,bdH,hmg]
   exact⟨l,rfl,H,λ_=>hm⟩
  ·rw[if_neg hm] at hmg
   cases hr:bP c.blocks b with
   |false=>
    rw[hr] at hrb
    simp-implicitDefEqProofs[cD,bdH,hmg,hrb]
    exact⟨l,rfl,H⟩
   |true=>
    rw[hr] at hrb
    have hms:=Hd (b:Int) l hm
    have hbb:=hbd hr
    have hbh:¬b=h:=λe=>hm (e▸hhl)
    have hin:=λv hv=> @jK c.blocks (b:Int) v hv
    have hstp:∀p:Nat,(p:Int)∈aI c.blocks (b:Int)->bP c.blocks p=true->Bd2 c.blocks h p:=λp hp hrp=> .step hbb hp (by rw[bkE,if_neg hbh];exact hrp)
    have hfin:∀l2,PsI c.blocks h (l++[(b:Int)]) l2->(∀p:Nat,(p:Int)∈aI c.blocks (b:Int)->bP c.blocks p=true->(p:Int)∈l2)->PsI c.blocks h l l2/\(b:Int)∈l2:=λl2 H2 ht=>by
     refine⟨⟨H2.nd,H2.inl,λv hv=>H2.sub v (by simp[hv]),λx p hx hn hp hrp=>?_⟩,H2.sub _ (by simp)⟩
     by_cases ex:x=b
     ·subst ex;exact ht p hp hrp
     ·exact H2.new x p hx (λhm2=>by
       rcases List.mem_append.1 hm2 with h1|h1
       ·exact hn h1
       ·have:=List.mem_singleton.1 h1;omega) hp hrp
    have H1:PsI c.blocks h (l++[(b:Int)]) (l++[(b:Int)]):=by
     refine⟨?_,λv hv=>?_,λ_ h=>h,λ_ _ h1 h2=>absurd h1 h2⟩
     ·rw[List.nodup_append]
      exact⟨H.nd,by simp,λa ha y hy e=>hm (by rw[List.mem_singleton] at hy;rw[←hy,←e];exact ha)⟩
     ·rcases List.mem_append.1 hv with h1|h1
      ·exact H.inl v h1
      ·exact⟨b,List.mem_singleton.1 h1,hb,hbb⟩
    generalize aI c.blocks (b:Int)=P at hPb hpl hin hstp hfin
    have hPn:aC P= .lst 1 (P.map λn=>[.int .i64 n]):=rfl
    simp-implicitDefEqProofs[cD,bdH,hmg,hrb,hms]
    refine hPb.use ?_
    simp-implicitDefEqProofs[hPn]
    refine aH (λa:BvS=>aw 37 [(29,.p (.int .i64 a.j)),(28,.p (.int .i64 P.length)),(27,.p (.lst 1 (P.map λn=>[.int .i64 n]))),(0,.p (.int .i64 b)),(1,.ptr 2 1 0 0),(2,.ptr 0 1 0 0),(3,.ptr 3 1 0 0)]) (λa=>bdH (.eptr [.int .i64 c.params,.int .i64 c.regs,bkL c.blocks,.lst 1 DL,.lst 1 RL] 0) a.l)
     (λa=>a.j<=P.length/\PsI c.blocks h (l++[(b:Int)]) a.l/\∀p:Nat,(p:Int)∈P.take a.j->bP c.blocks p=true->(p:Int)∈a.l) (λa=>P.length-a.j) ⟨0,l++[(b:Int)]⟩ ⟨Nat.zero_le _,H1,λp hp=>by simp at hp⟩ (ab (by simp) (by simp[below])) ?_
    rintro⟨j,l2⟩ ⟨hj,H2,htk⟩
    simp only at hj H2 htk⊢
    simp-implicitDefEqProofs[]
    refine aF (λhc2=>?_) (λhc2=>?_)
    ·have hc2:j<P.length:=by simpa using hc2
     have hwj:=w1 (i:=j) (by omega)
     have hgj:=List.getElem?_eq_getElem hc2
     have hpm:=List.getElem_mem hc2
     obtain⟨p,hpe2,hpn⟩:=hin _ hpm
     rw[hpe2] at hgj hpm
     have hlen:=Kz H1.nd H2.sub
     rw[List.length_append,List.length_singleton] at hlen
     have hcall:=ih l2 p (by omega) hpn (hstp p hpm) (H2.sub _ (by simp[hhl])) H2.refl
     simp-implicitDefEqProofs[hgj,bdH]
     refine AC.mono hcall ?_
     rintro _ _ ⟨rfl,l3,rfl,H3,hin3⟩
     simp-implicitDefEqProofs[aa]
     refine⟨⟨j+1,l3⟩,⟨hc2,H2.trans H3,λq hq hrq=>?_⟩,by simp only;omega,ab (by simp[bdH]) (by simp[below,hwj,bdH])⟩
     rw[List.take_add_one,hgj,List.mem_append] at hq
     rcases hq with h1|h1
     ·exact H3.sub _ (htk q h1 hrq)
     ·have:q=p:=by simp at h1;omega
      subst this
      exact hin3 hrq
    ·have hje:P.length<=j:=by simpa using hc2
     rw[List.take_of_length_le hje] at htk
     obtain⟨q1,q2⟩:=hfin l2 H2 htk
     simp-implicitDefEqProofs[]
     exact⟨l2,rfl,q1,q2⟩
theorem El{bs:List Bk}{h:Nat}{l:List Int}(H:PsI bs h [(h:Int)] l)(ht:∀p:Nat,(p:Int)∈aI bs (h:Int)->co bs h p=true->(p:Int)∈l):aX (inI l) bs.length=aX (bdB bs h) bs.length:=by
 refine kh λk hk=>?_
 rw[inI,Bool.eq_iff_iff,decide_eq_true_iff,Dy]
 constructor
 ·intro hm
  obtain⟨x,e,_,hx⟩:=H.inl _ hm
  have:x=k:=by omega
  exact this▸hx
 ·intro hc
  clear hk
  induction hc with
  |head=>exact H.sub _ (by simp)
  | @step x p _ hp hd ih=>
    rw[bkE] at hd
    split at hd
    ·rename_i e
     subst e
     exact ht p hp hd
    ·rename_i e
     exact H.new x p ih (λhm=>e (by have:=List.mem_singleton.1 hm;omega)) hp hd
theorem Gc(c:Cd)(hc:CBd c)(h160:c.blocks.length<=160)(hfit:aV c.blocks=true)(h:Nat)(hh:h<c.blocks.length):VF Tryz.prog G dm [dmV c,.p (.int .i64 h)] (.p (aC (aX (bdB c.blocks h) c.blocks.length))):=by
 have hl1:=hc.1
 have hP:=λx=>pR G c x hc.1 hc.2
 have hD:=λp=>rB G c hc h p
 have hB1:=λl b=>FJ G c hc hfit h (c.blocks.length+1) l b (by omega)
 have hcs:=c.cs_eq2
 rw[hcs] at hP
 have hd:dmV c= .eptr (dmE c) 0:=by rw[dmV,hfit];rfl
 obtain⟨DL,BL,RL,e,hDl,hDg,hBl,hBg,hRl,hRg⟩:=sY c
 rw[hd,e] at hB1 hD
 rw[hd,e]
 have hpe:ik c (h:Int)=aI c.blocks (h:Int):=pB hh
 have hPb:=hP (h:Int)
 rw[hpe] at hPb
 have hpl:=rq c.blocks (h:Int)
 have hin:=λv hv=> @jK c.blocks (h:Int) v hv
 have hfin:=λl=> @El c.blocks h l
 have hstp:∀p:Nat,(p:Int)∈aI c.blocks (h:Int)->co c.blocks h p=true->Bd2 c.blocks h p:=λp hp hdp=> .step .head hp (by rw[bkE,if_pos rfl];exact hdp)
 generalize aI c.blocks (h:Int)=P at hPb hpl hin hfin hstp
 have hPn:aC P= .lst 1 (P.map λn=>[.int .i64 n]):=rfl
 have hms:jR (.int .i64 (h:Int)) (.p (.bool true)) []=some (mB [(h:Int)]):=rfl
 have H0:PsI c.blocks h [(h:Int)] [(h:Int)]:=⟨by simp,λv hv=>⟨h,List.mem_singleton.1 hv,hh,.head⟩,λ_ h=>h,λ_ _ h1 h2=>absurd h1 h2⟩
 refine dr G ?_
 refine AC.go pV ?_
 simp-implicitDefEqProofs[jy,hms]
 refine hPb.use ?_
 simp-implicitDefEqProofs[hPn]
 refine aH (λa:BvS=>aw 34 [(20,.p (.int .i64 a.j)),(19,.p (.int .i64 P.length)),(18,.p (.lst 1 (P.map λn=>[.int .i64 n]))),(1,.p (.int .i64 h)),(5,.ptr 2 1 0 0),(2,.ptr 0 1 0 0),(6,.ptr 3 1 0 0)]) (λa=>bdH (.eptr [.int .i64 c.params,.int .i64 c.regs,bkL c.blocks,.lst 1 DL,.lst 1 RL] 0) a.l)
  (λa=>a.j<=P.length/\PsI c.blocks h [(h:Int)] a.l/\∀p:Nat,(p:Int)∈P.take a.j->co c.blocks h p=true->(p:Int)∈a.l) (λa=>P.length-a.j) ⟨0,[(h:Int)]⟩ ⟨Nat.zero_le _,H0,λp hp=>by simp at hp⟩ (ab (Nat.zero_le _) (by simp[below])) ?_
 rintro⟨j,l2⟩ ⟨hj,H2,htk⟩
 simp only at hj H2 htk⊢
 simp-implicitDefEqProofs[]
 refine aF (λhc2=>?_) (λhc2=>?_)
 ·have hc2:j<P.length:=by simpa using hc2
  have hwj:=w1 (i:=j) (by omega)
  have hgj:=List.getElem?_eq_getElem hc2
  have hpm:=List.getElem_mem hc2
  obtain⟨p,hpe2,hpn⟩:=hin _ hpm
  rw[hpe2] at hgj hpm
  have hDp:=hD p
  have hdi:yP c.blocks (h:Int) (p:Int)=co c.blocks h p:=FL hfit hh (x:=(p:Int)) (zG hfit hpn)
  rw[hdi] at hDp
  have hnx:∀l3,PsI c.blocks h [(h:Int)] l3->(∀v∈l2,v∈l3)->(co c.blocks h p=true->(p:Int)∈l3)->∀q:Nat,(q:Int)∈P.take (j+1)->co c.blocks h q=true->(q:Int)∈l3:=λl3 _ hs hp3 q hq hdq=>by
   rw[List.take_add_one,hgj,List.mem_append] at hq
   rcases hq with h1|h1
   ·exact hs _ (htk q h1 hdq)
   ·have:q=p:=by simp at h1;omega
    subst this
    exact hp3 hdq
  simp-implicitDefEqProofs[hgj,bdH]
  refine hDp.use ?_
  cases hdp:co c.blocks h p with
  |false=>
   simp-implicitDefEqProofs[]
   exact⟨⟨j+1,l2⟩,⟨hc2,H2,hnx l2 H2 (λ_ h=>h) (λe=>by rw[hdp] at e;cases e)⟩,by simp only;omega,ab (Nat.zero_le _) (by simp[below,hwj])⟩
  |true=>
   have hcall:=hB1 l2 p hpn (λ_=>hstp p hpm hdp) (H2.sub _ (by simp)) H2.refl
   simp-implicitDefEqProofs[]
   refine AC.mono hcall ?_
   rintro _ _ ⟨rfl,l3,rfl,H3,hin3⟩
   simp-implicitDefEqProofs[aa]
   exact⟨⟨j+1,l3⟩,⟨hc2,H2.trans H3,hnx l3 (H2.trans H3) H3.sub λ_=>hin3 (vG hdp).2⟩,by simp only;omega,ab (Nat.zero_le _) (by simp[below,hwj,bdH])⟩
 ·have hje:P.length<=j:=by simpa using hc2
  rw[List.take_of_length_le hje] at htk
  have hdone:=hfin l2 H2 htk
  have hll:=H2.len
  have hcall:=yI G (h:=bdH (.eptr [.int .i64 c.params,.int .i64 c.regs,bkL c.blocks,.lst 1 DL,.lst 1 RL] 0) l2) (id:=1) rfl (IE l2) (by omega)
  have hin2:∀v∈l2,0<=v/\v.toNat<c.blocks.length:=λv hv=>by
   obtain⟨x,rfl,hx,_⟩:=H2.inl v hv
   exact⟨Int.natCast_nonneg x,by simpa using hx⟩
  simp-implicitDefEqProofs[bdH]
  refine AC.mono hcall ?_
  rintro _ h' ⟨xs,d,hp,rfl,hx⟩
  have hsf:=Gj (n:=c.blocks.length) hp H2.nd hin2
  rcases hx with⟨rfl,rfl⟩|⟨k,rfl,_,hk⟩
  ·simp-implicitDefEqProofs[aa]
   rw[←hdone,←hsf,show(([]:List Int).mergeSort λx y=>decide (x<=y))=[] by simp]
   exact .nils 1
  ·rw[hsf] at hk
   have hlen:xs.length=(aX (inI l2) c.blocks.length).length:=by rw[←hsf,List.length_mergeSort]
   simp-implicitDefEqProofs[aa]
   rw[←hdone,hlen]
   exact bw hk
end
section
noncomputable def dt (bs:List Bk) (h:Int):List Int:=if h∈be bs then aX (bdB bs h.toNat) bs.length else[]
noncomputable def ldN (bs:List Bk) (b:Int) (H:List Int):Nat:=(H.filter λh=>decide (b∈dt bs h)).length
noncomputable def ldC (bs:List Bk) (b:Int):Int:=if b∈cQ bs then(ldN bs b (be bs):Int) else-1
theorem sZ{bs:List Bk}{h:Int}(hm:h∈be bs):aV bs=true/\∃x:Nat,h=(x:Int)/\x<bs.length:=by
 rw[be] at hm
 split at hm
 ·rename_i hf
  obtain⟨f1,f2,f3,f4⟩:=ti hm
  exact⟨hf,h.toNat,f4.symm,f2⟩
 ·cases hm
theorem jT(bs:List Bk):(be bs).length<=bs.length:=by
 rw[be]
 split
 ·exact dE _ _
 ·simp
theorem zY(bs:List Bk)(h:Int):(dt bs h).length<=bs.length:=by
 rw[dt]
 split
 ·exact dE _ _
 ·simp
theorem uv(bs:List Bk)(b:Int)(H:List Int)(h:Int):ldN bs b (H++[h])=ldN bs b H+if b∈dt bs h then 1 else 0:=by
 rw[ldN,ldN,List.filter_append,List.length_append]
 by_cases e:b∈dt bs h<;>simp[List.filter_cons,e]
theorem yM(bs:List Bk)(b:Int)(H:List Int):ldN bs b H<=H.length:=List.length_filter_le _ _
variable (G:az)
theorem CG(c:Cd)(hc:CBd c)(h160:c.blocks.length<=160)(h:Int):VF Tryz.prog G fQ [.agg (c.cs.map .p),.p (.int .i64 h)] (.p (aC (dt c.blocks h))):=by
 have hcs:=c.cs_eq2
 have hbl:bkL c.blocks= .lst 5 (c.blocks.map Bk.cs):=rfl
 have h1:=rE G c hc
 have h2:=λhf=>vK G c hc hf
 have h3:=λx hx=>Eb G c hc h160 x hx
 have hhl:=jT c.blocks
 have hAt:=sh G (be c.blocks) h (by omega)
 have han:=zr (be c.blocks) h
 have hh:=λx=> @sZ c.blocks x
 generalize ixI ((be c.blocks).findIdx? λy=>decide (y=h))=z at hAt han
 rw[hcs,hbl] at h1 h2 h3
 refine dr G ?_
 refine AC.go rM ?_
 simp-implicitDefEqProofs[kD,hcs,hbl]
 refine h1.use ?_
 simp-implicitDefEqProofs[]
 refine hAt.use ?_
 by_cases hm:h∈be c.blocks
 ·rw[decide_eq_true hm] at han
  have hz:¬z<0:=by simpa using han
  obtain⟨hf,x,rfl,hx⟩:=hh h hm
  rw[dt,if_pos hm,Int.toNat_natCast]
  simp-implicitDefEqProofs[hz]
  refine(h2 hf).use ?_
  simp-implicitDefEqProofs[]
  refine(h3 x hx).use ?_
  simp-implicitDefEqProofs[]
  exact .p _
 ·rw[decide_eq_false hm] at han
  have hz:z<0:=by simpa using han
  rw[dt,if_neg hm]
  simp-implicitDefEqProofs[hz]
  exact bw (l:=[]) rfl
theorem Bm(c:Cd)(hc:CBd c)(h160:c.blocks.length<=160)(b:Int):VF Tryz.prog G dg [.agg (c.cs.map .p),.p (.int .i64 b)] (.p (.int .i64 (ldC c.blocks b))):=by
 have hcs:=c.cs_eq2
 have hbl:bkL c.blocks= .lst 5 (c.blocks.map Bk.cs):=rfl
 have h1:=rE G c hc
 have h2:=Ay G c hc
 have h3:=λh=>CG G c hc h160 h
 have hhl:=jT c.blocks
 have hrl:= @Eh c.blocks
 have hbl2:=zY c.blocks
 have hAt:=sh G (cQ c.blocks) b (by omega)
 have han:=zr (cQ c.blocks) b
 generalize ixI ((cQ c.blocks).findIdx? λy=>decide (y=b))=z at hAt han
 rw[hcs,hbl] at h1 h2 h3
 refine AC.go pJ ?_
 simp-implicitDefEqProofs[jD,hcs,hbl]
 refine h2.use ?_
 simp-implicitDefEqProofs[]
 refine hAt.use ?_
 by_cases hm:b∈cQ c.blocks
 ·rw[decide_eq_true hm] at han
  have hz:¬z<0:=by simpa using han
  rw[ldC,if_pos hm]
  generalize be c.blocks=H at h1 hhl
  have hHn:aC H= .lst 1 (H.map λn=>[.int .i64 n]):=rfl
  simp-implicitDefEqProofs[hz]
  refine h1.use ?_
  simp-implicitDefEqProofs[hHn]
  refine aH (λj:Nat=>aw 34 [(7,.p (.int .i64 j)),(6,.p (.lst 1 (H.map λn=>[.int .i64 n]))),(5,.p (.int .i64 (ldN c.blocks b (H.take j)))),(2,.ptr 0 3 0 0),(1,.p (.int .i64 b))]) (λ_=>[.row 3 [[.p (.int .i64 c.params),.p (.int .i64 c.regs),.p (.lst 5 (c.blocks.map Bk.cs))]]]) (λj=>j<=H.length) (λj=>H.length-j) 0 (Nat.zero_le _) (ab (Nat.zero_le _) (by simp[below,ldN])) ?_
  intro j hj
  simp-implicitDefEqProofs[]
  refine aF (λhc2=>?_) (λhc2=>?_)
  ·have hc2:j<H.length:=by simpa using hc2
   have hwj:=w1 (i:=j) (by omega)
   have hgj:=List.getElem?_eq_getElem hc2
   generalize H[j]=h at hgj
   have htk:H.take (j+1)=H.take j++[h]:=by rw[List.take_add_one,hgj];rfl
   have hls:=uv c.blocks b (H.take j) h
   rw[←htk] at hls
   have hll:=yM c.blocks b (H.take j)
   rw[List.length_take] at hll
   have hAt2:=sh G (dt c.blocks h) b (by have:=hbl2 h;omega)
   have han2:=zr (dt c.blocks h) b
   generalize ixI ((dt c.blocks h).findIdx? λy=>decide (y=b))=z2 at hAt2 han2
   have hge:decide (0<=z2)=decide (b∈dt c.blocks h):=by
    by_cases e:b∈dt c.blocks h
    ·rw[decide_eq_true e] at han2⊢
     have:¬z2<0:=by simpa using han2
     rw[decide_eq_true_iff];omega
    ·rw[decide_eq_false e] at han2⊢
     have:z2<0:=by simpa using han2
     rw[decide_eq_false_iff_not];omega
   have hwd:IntKind.i64.wrap ((ldN c.blocks b (H.take j):Int)+if 0<=z2 then 1 else 0)=(ldN c.blocks b (H.take (j+1)):Int):=by
    rw[hls]
    by_cases e:b∈dt c.blocks h
    ·rw[decide_eq_true e,decide_eq_true_iff] at hge
     rw[if_pos hge,if_pos e,ae (by omega) (by omega)];omega
    ·rw[decide_eq_false e,decide_eq_false_iff_not] at hge
     rw[if_neg hge,if_neg e,ae (by omega) (by omega)];omega
   simp-implicitDefEqProofs[hgj]
   refine(h3 h).use ?_
   simp-implicitDefEqProofs[]
   refine hAt2.use ?_
   simp-implicitDefEqProofs[]
   refine(pW G (decide (0<=z2))).use ?_
   simp-implicitDefEqProofs[hwd]
   exact⟨j+1,hc2,by omega,ab (Nat.zero_le _) (by simp[below,hwj])⟩
  ·have hje:H.length<=j:=by simpa using hc2
   rw[List.take_of_length_le hje]
   simp-implicitDefEqProofs[]
 ·rw[decide_eq_false hm] at han
  have hz:z<0:=by simpa using han
  rw[ldC,if_neg hm]
  simp-implicitDefEqProofs[hz]
theorem AR(c:Cd)(hc:CSm c)(hfit:aV c.blocks=true):VF Tryz.prog G bH [dmV c] (.p (aC (be c.blocks))):=by
 have hF:=dr G ((Bq G c hc hfit).mono λr h ⟨V,e,o⟩=>⟨V,e,o.view⟩)
 rwa[be,if_pos hfit]
theorem Bz(c:Cd)(hc:CSm c)(h160:c.blocks.length<=160)(h:Int):VF Tryz.prog G fU [.agg (c.cs.map .p),.p (.int .i64 h)] (.p (aC (dt c.blocks h))):=by
 have hcs:=c.cs_eq2
 have hbl:bkL c.blocks= .lst 5 (c.blocks.map Bk.cs):=rfl
 have hd:=tg G c hc
 rw[hcs,hbl] at hd
 have hhl:=jT c.blocks
 have hCt:=jm G (be c.blocks) h (by omega)
 refine dr G ?_
 refine AC.go rV ?_
 simp-implicitDefEqProofs[kH,hcs,hbl]
 cases hfit:aV c.blocks with
 |false=>
  have hdm:dmV c= .nilp:=by rw[dmV,hfit];rfl
  have hm:h∉be c.blocks:=by rw[be,hfit];simp
  rw[hdm] at hd
  rw[dt,if_neg hm]
  refine hd.use ?_
  simp-implicitDefEqProofs[]
  exact .nils 1
 |true=>
  have hdm:dmV c= .eptr (dmE c) 0:=by rw[dmV,hfit];rfl
  have hH:=AR G c hc hfit
  have hB:=λx hx=>Gc G c hc.1 h160 hfit x hx
  have hh:=λx=> @sZ c.blocks x
  rw[hdm] at hd hH hB
  generalize dmE c=E at hd hH hB
  refine hd.use ?_
  simp-implicitDefEqProofs[]
  refine hH.use ?_
  simp-implicitDefEqProofs[]
  refine hCt.use ?_
  by_cases hm:h∈be c.blocks
  ·obtain⟨_,x,rfl,hx⟩:=hh h hm
   rw[dt,if_pos hm,Int.toNat_natCast,decide_eq_true hm]
   simp-implicitDefEqProofs[]
   refine(hB x hx).use ?_
   simp-implicitDefEqProofs[]
   exact .p _
  ·rw[dt,if_neg hm,decide_eq_false hm]
   simp-implicitDefEqProofs[]
   exact .nils 1
theorem zZ(c:Cd)(hc:CSm c)(h160:c.blocks.length<=160)(b:Int):VF Tryz.prog G eY [.agg (c.cs.map .p),.p (.int .i64 b)] (.p (.int .i64 (ldC c.blocks b))):=by
 have hcs:=c.cs_eq2
 have hbl:bkL c.blocks= .lst 5 (c.blocks.map Bk.cs):=rfl
 have hd:=tg G c hc
 have hhas:=GO G c hc.1 b
 rw[←CE] at hhas
 rw[hcs,hbl] at hd
 have hhl:=jT c.blocks
 have hb0:below 0 (dmV c):=zJ c 0
 refine AC.go rb ?_
 simp-implicitDefEqProofs[jU,hcs,hbl]
 refine hd.use ?_ (hr:=hb0)
 simp-implicitDefEqProofs[]
 refine hhas.use ?_ (ha:=⟨hb0,by simp[below],trivial⟩)
 by_cases hm:b∈cQ c.blocks
 ·obtain⟨hfit,_⟩:=sH hm
  have hdm:dmV c= .eptr (dmE c) 0:=by rw[dmV,hfit];rfl
  have hH:=AR G c hc hfit
  have hB:=λx hx=>Gc G c hc.1 h160 hfit x hx
  have hh:=λx=> @sZ c.blocks x
  have hbo:∀x:Nat,(x:Int)∈be c.blocks->dt c.blocks (x:Int)=aX (bdB c.blocks x) c.blocks.length:=λx hx=>by rw[dt,if_pos hx,Int.toNat_natCast]
  rw[ldC,if_pos hm,decide_eq_true hm]
  rw[hdm] at hH hB
  rw[hdm]
  generalize dmE c=E at hH hB
  generalize be c.blocks=H at hH hhl hh hbo
  have hHn:aC H= .lst 1 (H.map λn=>[.int .i64 n]):=rfl
  simp-implicitDefEqProofs[]
  refine hH.use ?_
  simp-implicitDefEqProofs[hHn]
  refine aH (λj:Nat=>aw 31 [(18,.p (.int .i64 j)),(17,.p (.int .i64 H.length)),(16,.p (.lst 1 (H.map λn=>[.int .i64 n]))),(6,.p (.int .i64 (ldN c.blocks b (H.take j)))),(5,.eptr E 0),(1,.p (.int .i64 b))]) (λ_=>[]) (λj=>j<=H.length) (λj=>H.length-j) 0 (Nat.zero_le _) (aU rfl (by simp[below,ldN])) ?_
  intro j hj
  simp-implicitDefEqProofs[]
  refine aF (λhc2=>?_) (λhc2=>?_)
  ·have hc2:j<H.length:=by simpa using hc2
   have hwj:=w1 (i:=j) (by omega)
   have hgj:=List.getElem?_eq_getElem hc2
   have hhm:=List.getElem_mem hc2
   obtain⟨_,x,hxe,hx⟩:=hh _ hhm
   rw[hxe] at hgj hhm
   have htk:H.take (j+1)=H.take j++[(x:Int)]:=by rw[List.take_add_one,hgj];rfl
   have hls:=uv c.blocks b (H.take j) x
   rw[←htk,hbo x hhm] at hls
   have hll:=yM c.blocks b (H.take j)
   rw[List.length_take] at hll
   have hfl:=dE (bdB c.blocks x) c.blocks.length
   have hCt:=jm G (aX (bdB c.blocks x) c.blocks.length) b (by omega)
   have hwd:IntKind.i64.wrap ((ldN c.blocks b (H.take j):Int)+1)=(ldN c.blocks b (H.take j):Int)+1:=ae (by omega) (by omega)
   simp-implicitDefEqProofs[hgj]
   refine(hB x hx).use ?_
   simp-implicitDefEqProofs[]
   refine hCt.use ?_
   by_cases e:b∈aX (bdB c.blocks x) c.blocks.length
   ·rw[if_pos e] at hls
    rw[decide_eq_true e]
    simp-implicitDefEqProofs[hwd]
    exact⟨j+1,hc2,by omega,aU rfl (by simp[below,hwj,hls])⟩
   ·rw[if_neg e] at hls
    rw[decide_eq_false e]
    simp-implicitDefEqProofs[]
    exact⟨j+1,hc2,by omega,aU rfl (by simp[below,hwj,hls])⟩
  ·have hje:H.length<=j:=by simpa using hc2
   rw[List.take_of_length_le hje]
   simp-implicitDefEqProofs[]
 ·rw[ldC,if_neg hm,decide_eq_false hm]
  simp-implicitDefEqProofs[]
theorem rJ(code:List Int)(hb:Byt code)(hl:code.length<=9223372036854775807):VF Tryz.prog G ib [.p (mt code)] (.p (.bool true)):=by
 have hbl:mt code= .lst 1 (code.map λn=>[.int .u8 n]):=rfl
 refine AC.go nC ?_
 simp-implicitDefEqProofs[gV,hbl]
 refine aF (λ_=>?_) (λ_=>?_)
 ·simp-implicitDefEqProofs[]
 simp-implicitDefEqProofs[]
 have hd:=zN G (sa G code hb) vW (by simp) []
 rw[hbl] at hd
 refine hd.mono ?_
 rintro r h ⟨⟨c,b,rfl,hg⟩,rfl⟩
 have hcs:=hg.csm
 have h160:=hg.2.1
 have hcc:=c.cs_eq2
 have hbk:bkL c.blocks= .lst 5 (c.blocks.map Bk.cs):=rfl
 have hI:=zZ G c hcs h160 b
 have hS:=Bm G c hcs.1 h160 b
 have hH:=Bo G c hcs
 have hB:=λh=>Bz G c hcs h160 h
 rw[hcc,hbk] at hI hS hH hB
 have hhl:=jT c.blocks
 have hbl2:=zY c.blocks
 have hcase:ldC c.blocks b= -1\/ldC c.blocks b=(ldN c.blocks b (be c.blocks):Int):=by
  rw[ldC]
  split
  ·exact .inr rfl
  ·exact .inl rfl
 have hnl:=yM c.blocks b (be c.blocks)
 generalize be c.blocks=H at hH hhl hcase hnl
 have hHn:aC H= .lst 1 (H.map λn=>[.int .i64 n]):=rfl
 simp-implicitDefEqProofs[aa,hcc,hbk]
 refine hI.use ?_
 simp-implicitDefEqProofs[]
 refine hS.use ?_
 simp-implicitDefEqProofs[]
 rcases hcase with he|he
 ·rw[he] at hS⊢
  simp-implicitDefEqProofs[]
  refine hS.use ?_
  simp-implicitDefEqProofs[]
 ·rw[he]
  have hn0:¬((ldN c.blocks b H:Int)<0):=by omega
  simp-implicitDefEqProofs[hn0]
  refine hH.use ?_
  simp-implicitDefEqProofs[hHn]
  refine aH (λj:Nat=>aw 63 [(41,.p (.int .i64 j)),(40,.p (.int .i64 H.length)),(39,.p (.lst 1 (H.map λn=>[.int .i64 n]))),(6,.p (.int .i64 (ldN c.blocks b (H.take j)))),(5,.p (.int .i64 (ldN c.blocks b H))),(4,.p (.int .i64 b)),(3,.ptr 0 3 0 0)]) (λ_=>[.row 3 [[.p (.int .i64 c.params),.p (.int .i64 c.regs),.p (.lst 5 (c.blocks.map Bk.cs))]]]) (λj=>j<=H.length) (λj=>H.length-j) 0 (Nat.zero_le _) (ab (Nat.zero_le _) (by simp[below,ldN])) ?_
  intro j hj
  simp-implicitDefEqProofs[]
  refine aF (λhc2=>?_) (λhc2=>?_)
  ·have hc2:j<H.length:=by simpa using hc2
   have hwj:=w1 (i:=j) (by omega)
   have hgj:=List.getElem?_eq_getElem hc2
   generalize H[j]=h at hgj
   have htk:H.take (j+1)=H.take j++[h]:=by rw[List.take_add_one,hgj];rfl
   have hls:=uv c.blocks b (H.take j) h
   rw[←htk] at hls
   have hll:=yM c.blocks b (H.take j)
   rw[List.length_take] at hll
   have hHb:=IH G (dt c.blocks h) b (by have:=hbl2 h;omega)
   have hwd:IntKind.i64.wrap ((ldN c.blocks b (H.take j):Int)+1)=(ldN c.blocks b (H.take j):Int)+1:=ae (by omega) (by omega)
   simp-implicitDefEqProofs[hgj]
   refine(hB h).use ?_
   simp-implicitDefEqProofs[]
   refine hHb.use ?_
   by_cases e:b∈dt c.blocks h
   ·rw[if_pos e] at hls
    rw[decide_eq_true e]
    simp-implicitDefEqProofs[hwd]
    exact⟨j+1,hc2,by omega,ab (Nat.zero_le _) (by simp[below,hwj,hls])⟩
   ·rw[if_neg e] at hls
    rw[decide_eq_false e]
    simp-implicitDefEqProofs[]
    exact⟨j+1,hc2,by omega,ab (Nat.zero_le _) (by simp[below,hwj,hls])⟩
  ·have hje:H.length<=j:=by simpa using hc2
   rw[List.take_of_length_le hje]
   simp-implicitDefEqProofs[]
   refine hH.use ?_
   simp-implicitDefEqProofs[hHn,hnl]
end
end Go.Proofs.YtdfplkcigiblcaaGreat
namespace Go.Proofs.YtdfplkcigiblcaaGreat
open Go Go.Aw Go.ChangeShapes Go.WideShapes Go.ChangeAt Go.RowKit
set_option maxRecDepth 100000
abbrev DD:TypeId:=22
abbrev yX:TypeId:=5
theorem Mm:Kids Tryz.prog (· <Tryz.prog.types.size):=kids_rows (by kernel_rfl) (by kernel_rfl)
theorem Mg:∀t e,t<Tryz.prog.types.size->Tryz.prog.underlying t=some (.slice e)->0<Tryz.prog.cellsOf e:=slices_full_of Tryz.prog (by kernel_rfl)
def CR:List TypeId:=[DD,yX]
theorem KL:Plain Tryz.prog CR=true:=by kernel_rfl
theorem Om:ownKnob Tryz.prog.godebug=none:=by kernel_rfl
theorem tD{H:Type}:∀l:List (DataW H),Rows.uptoBulkAll l=(l.map Rows.uptoBulk).sum
 |[]=>by simp[Rows.uptoBulkAll]
 |d::r=>by simp[Rows.uptoBulkAll,tD r]
theorem IU{H:Type}:BulkOk (Rows.uptoBulk (H:=H)) where
 lit:=λl=>by cases l<;>simp[Rows.uptoBulk]
 str:=λs=>by simp[Rows.uptoBulk]
 nil:=by simp[Rows.uptoBulk]
 slice:=λes sp=>by simp only[Rows.uptoBulk,tD];omega
 agg:=λps=>by simp only[Rows.uptoBulk,tD];omega
theorem Gp{t e:TypeId}{vs:List PV}(h:Conf Tryz.prog t vs)(hu:Tryz.prog.underlying t=some (.slice e)):∃es,vs=[.lst (Tryz.prog.cellsOf e) es]/\es.length<=9223372036854775807/\∀x∈es,Conf Tryz.prog e x:=by
 cases h with
 |sl es e' hl hs=>rw[hu] at e';cases e';exact⟨es,rfl,hl,hs⟩
 |bool b e=>rw[e] at hu;cases hu
 |int n e=>rw[e] at hu;cases hu
 |str s e=>rw[e] at hu;cases hu
 |st vs e=>rw[e] at hu;cases hu
 |arr vs e=>rw[e] at hu;cases hu
theorem BF{vs:List PV}(h:Conf Tryz.prog DD vs):∃l:List Int,vs=[mt l]/\l.length<=9223372036854775807/\Byt l:=by
 obtain⟨es,rfl,hl,h4⟩:=Gp h (e:=yX) (by kernel_rfl)
 have hk:∀x∈es,∃n:Int,x=[PV.int .u8 n]/\(Lit.int .u8 n).wf=true:=λx hx=>Fw (h4 x hx) (by kernel_rfl)
 obtain⟨l,rfl⟩:=CX (λn:Int=>[PV.int .u8 n]) (λx hx=>by obtain⟨n,e,_⟩:=hk x hx;exact⟨n,e⟩)
 rw[show Tryz.prog.cellsOf yX=1 by kernel_rfl]
 refine⟨l,rfl,by rwa[List.length_map] at hl,λn hn=>?_⟩
 obtain⟨m,e,hw⟩:=hk [PV.int .u8 n] (List.mem_map.2 ⟨n,hn,rfl⟩)
 cases e
 simp[Lit.wf,IntKind.min,IntKind.max,IntKind.bits,IntKind.signed] at hw
 omega
def G0:az:=λ_=>none
end Go.Proofs.YtdfplkcigiblcaaGreat
