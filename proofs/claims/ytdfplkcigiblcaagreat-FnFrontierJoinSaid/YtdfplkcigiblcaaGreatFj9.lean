/-
  Contracts and lemmas that the card needs, part 9.
-/
import Derived.Test.YtdfplkcigiblcaaGreatFj8
namespace Go.Proofs.YtdfplkcigiblcaaGreat
open Go Go.Aw
set_option maxRecDepth 100000
set_option maxHeartbeats 4000000
section
def mB(l:List Int):List (PV × AV):=l.map λv=>(.int .i64 v,.p (.bool true))
theorem Fl(x:Int):∀l:List Int,fP (.int .i64 x) (mB l)=some (if x∈l then some (.p (.bool true)) else none)
 |[]=>rfl
 |y::r=>by
  have ih:=Fl x r
  rw[mB,List.map_cons,fP]
  by_cases h:x=y
  ·simp[keq,h]
  ·simp only[keq,if_true,h,decide_false,List.mem_cons,false_or]
   exact ih
theorem Fq(y:Int):∀l:List Int,y∉l->kb (.int .i64 y) (.p (.bool true)) (mB l)=some (mB (l++[y]))
 |[],_=>rfl
 |x::r,h=>by
  have h1:¬y=x:=λe=>h (by simp[e])
  have ih:=Fq y r λe=>h (by simp[e])
  rw[mB,List.map_cons,kb]
  simp only[keq,if_true,h1,decide_false]
  rw[show(r.map λv=>((PV.int .i64 v,AV.p (.bool true)):PV × AV))=mB r from rfl,ih]
  rfl
theorem HP(l:List Int):(mB l).map (·.1)=l.map (PV.int .i64):=by simp[mB]
theorem zO{xs l:List Int}{n:Nat}(hp:xs.Perm l)(nd:l.Nodup)(h:∀v∈l,0<=v/\v.toNat<n):(xs.mergeSort λx y=>decide (x<=y))=bg (inI l) n:=by
 have h1:(xs.mergeSort λx y=>decide (x<=y)).Perm l:=(List.mergeSort_perm xs _).trans hp
 refine td ?_ (vM _ _) λx=>?_
 ·have h2:=List.pairwise_and_iff.2 ⟨Fb xs,h1.symm.nodup nd⟩
  exact h2.imp λ{a b} ⟨e1,e2⟩=>by have:a≠b:=e2;omega
 ·rw[h1.mem_iff,pj,inI,decide_eq_true_iff]
  constructor
  ·intro hx
   obtain⟨a1,a2⟩:=h x hx
   exact⟨a1,a2,by rw[show((x.toNat:Nat):Int)=x by omega];exact hx⟩
  ·rintro⟨a1,_,a3⟩
   rwa[show((x.toNat:Nat):Int)=x by omega] at a3
structure FmS where (l W:List Int) (pre:List (List AV)) (id:Nat) (V:AV) (X:List AO)
def WrV(X:List AO)(V:AV)(id:Nat)(pre:List (List AV))(W:List Int):Prop:=(V= .nils/\W=[])\/(V= .sl id 1 pre.length W.length/\WrI X id pre W)
theorem WrV.below{X:List AO}{V:AV}{id:Nat}{pre:List (List AV)}{W:List Int}(h:WrV X V id pre W):Aw.below X.length V:=by
 rcases h with⟨rfl,_⟩|⟨rfl,h⟩
 ·simp[Aw.below]
 ·simp only[Aw.below];exact(List.getElem?_eq_some_iff.1 h).1
variable (G:aC)
theorem sr(c:Cd)(hc:CSm c)(h160:c.blocks.length<=160)(hfit:bA c.blocks=true)(B:List Int)(hB:B.length<=2):VF Tryz.prog G cb [dmV c,.p (ay B)] (.p (ay (bg (clB c.blocks B) c.blocks.length))):=by
 have hl1:=hc.1.1
 have hH:=λv=>Ie G c hc.1 v
 have hF:=λb0 h=>(fX G ((pH G c hc hfit b0 h).mono λr h ⟨V,e,o⟩=>⟨V,e,o.view⟩))
 have hd:dmV c= .eptr (dmE c) 0:=by rw[dmV,hfit];rfl
 obtain⟨DL,BL,RL,e,hDl,hDg,hBl,hBg,hRl,hRg⟩:=uS c
 rw[hd,e] at hH hF
 rw[hd,e]
 refine fX G ?_
 refine AC.go ju ?_
 simp-implicitDefEqProofs[dO]
 refine(GR G B (by omega) [.mp []]).mono ?_
 rintro _ _ ⟨V0,os,rfl,rfl,hV0⟩
 simp-implicitDefEqProofs[aa]
 refine aH (λa:FmS=>au 46 [(6,a.V),(5,.mp 0),(0,.eptr [.int .i64 c.params,.int .i64 c.regs,bkL c.blocks,.lst 1 DL,.lst 1 RL] 0)]) (λa=>a.X)
  (λa=>a.X[0]?=some (.mp (mB a.l))/\WrV a.X a.V a.id a.pre a.W/\WkI c.blocks B a.l a.W/\a.W.length<=2+a.l.length) (λa=>2*(c.blocks.length-a.l.length)+a.W.length) ?_ ?_ ?_ ?_
 ·exact⟨[],B,[],match V0 with| .sl id _ _ _=>id|_=>0,V0,.mp []::os⟩
 ·refine⟨rfl,?_,WkI.start c.blocks B,by simpa using hB⟩
  rcases hV0 with⟨rfl,e⟩|⟨id,rfl,_,hid⟩
  ·exact .inl ⟨rfl,e⟩
  ·exact .inr ⟨rfl,hid⟩
 ·refine ab (Nat.zero_le _) ?_
  rcases hV0 with⟨rfl,e⟩|⟨id,rfl,_,hid⟩
  ·simp[Aw.below]
  ·have:=(List.getElem?_eq_some_iff.1 hid).1
   simp[Aw.below] at this⊢;omega
 clear hV0
 rintro⟨l,W,pre,id,V,X⟩ ⟨g0,hX,hW,hsz⟩
 simp only at g0 hX hW hsz⊢
 have h0l:=(List.getElem?_eq_some_iff.1 g0).1
 have hll:=hW.len
 cases W with
 |nil=>
  have hlen0:V= .nils\/∃id off,V= .sl id 1 off 0:=by
   rcases hX with⟨rfl,_⟩|⟨rfl,_⟩
   ·exact .inl rfl
   ·exact .inr ⟨_,_,rfl⟩
  have hcall:=vI G g0 (HP l) (by omega)
  have hin:∀v∈l,0<=v/\v.toNat<c.blocks.length:=λv hv=>by
   obtain⟨x,rfl,hx,_⟩:=hW.inl v hv
   exact⟨Int.natCast_nonneg x,by simpa using hx⟩
  rcases hlen0 with rfl|⟨id,off,rfl⟩
  ·simp-implicitDefEqProofs[]
   refine hcall.mono ?_
   rintro _ h' ⟨xs,d,hp,rfl,hx⟩
   have hsf:=zO (n:=c.blocks.length) hp hW.nd hin
   rcases hx with⟨rfl,rfl⟩|⟨j,rfl,_,hj⟩
   ·simp-implicitDefEqProofs[aa]
    rw[←hW.done,←hsf,show(([]:List Int).mergeSort λx y=>decide (x<=y))=[] by simp]
    exact .nils 1
   ·rw[hsf] at hj
    have hlen:xs.length=(bg (inI l) c.blocks.length).length:=by rw[←hsf,List.length_mergeSort]
    simp-implicitDefEqProofs[aa]
    rw[←hW.done,hlen]
    exact bL hj
  ·simp-implicitDefEqProofs[]
   refine hcall.mono ?_
   rintro _ h' ⟨xs,d,hp,rfl,hx⟩
   have hsf:=zO (n:=c.blocks.length) hp hW.nd hin
   rcases hx with⟨rfl,rfl⟩|⟨j,rfl,_,hj⟩
   ·simp-implicitDefEqProofs[aa]
    rw[←hW.done,←hsf,show(([]:List Int).mergeSort λx y=>decide (x<=y))=[] by simp]
    exact .nils 1
   ·rw[hsf] at hj
    have hlen:xs.length=(bg (inI l) c.blocks.length).length:=by rw[←hsf,List.length_mergeSort]
    simp-implicitDefEqProofs[aa]
    rw[←hW.done,hlen]
    exact bL hj
 |cons v W=>
  obtain⟨rfl,hXw⟩:=hX.resolve_left (by simp)
  have hXe:X[id]?=some (AO.row 1 (pre++am (v::W))):=hXw
  have hidl:=(List.getElem?_eq_some_iff.1 hXe).1
  have hpre2:pre++am (v::W)=(pre++[[.p (.int .i64 v)]])++am W:=by simp[am]
  have hX2:WrI X id (pre++[[.p (.int .i64 v)]]) W:=by rw[WrI,←hpre2];exact hXw
  have hc0:am (v::W)=[AV.p (.int .i64 v)]::am W:=rfl
  have hpl:(pre++[[AV.p (.int .i64 v)]]).length=pre.length+1:=by simp
  have hWl:(am W).length=W.length:=by simp[am]
  have hwv:WrV X (.sl id 1 (pre.length+1) W.length) id (pre++[[.p (.int .i64 v)]]) W:= .inr ⟨by rw[hpl],hX2⟩
  simp-implicitDefEqProofs[hXe,hc0,hWl]
  refine(hH v).use ?_
  cases hin:inC c.blocks v&&jM c.blocks v.toNat with
  |false=>
   have hW2:=hW.skip λx hx hxl f hf=>by
    subst hx
    rw[Cq hfit hxl,Bool.true_and,Int.toNat_natCast] at hin
    rw[frB,List.any_eq_false]
    intro r _
    simp[frP,uj hin]
   simp-implicitDefEqProofs[]
   refine⟨⟨l,W,pre++[[.p (.int .i64 v)]],id,.sl id 1 (pre.length+1) W.length,X⟩,⟨g0,hwv,hW2,by simp only[List.length_cons] at hsz⊢;omega⟩,by simp only[List.length_cons];omega,ab (Nat.zero_le _) ?_⟩
   simp[Aw.below];omega
  |true=>
   rw[Bool.and_eq_true] at hin
   obtain⟨_,hv0,hv1,hv2⟩:=om hin.1
   obtain⟨x,rfl⟩:∃x:Nat,v=(x:Int):=⟨v.toNat,by omega⟩
   have hxl:x<c.blocks.length:=by omega
   have hJ0:=hW.take
   have hFx:=hF x hxl
   have hFm:∀t∈bg (frB c.blocks x) c.blocks.length,∃f:Nat,t=(f:Int)/\f<c.blocks.length/\frB c.blocks x f=true:=λt ht=>by
    obtain⟨f1,f2,f3,f4⟩:=kK ht
    exact⟨t.toNat,f4.symm,f2,f3⟩
   have hFl:=fG (frB c.blocks x) c.blocks.length
   have hend:=λl' W' (h:WkJ c.blocks B x (bg (frB c.blocks x) c.blocks.length) l' W')=>h.done
   generalize bg (frB c.blocks x) c.blocks.length=F at hFx hFm hFl hend
   have hFn:ay F= .lst 1 (F.map λn=>[.int .i64 n]):=rfl
   simp-implicitDefEqProofs[]
   refine hFx.use ?_
   simp-implicitDefEqProofs[hFn]
   refine aH (λa:FvS=>au 46 [(29,.p (.int .i64 a.j)),(28,.p (.int .i64 F.length)),(27,.p (.lst 1 (F.map λn=>[.int .i64 n]))),(6,.sl a.id 1 a.pre.length a.W.length),(5,.mp 0),(0,.eptr [.int .i64 c.params,.int .i64 c.regs,bkL c.blocks,.lst 1 DL,.lst 1 RL] 0)]) (λa=>a.X)
    (λa=>a.j<=F.length/\a.X[0]?=some (.mp (mB a.l))/\WrI a.X a.id a.pre a.W/\WkJ c.blocks B x (F.take a.j) a.l a.W/\a.W.length<=2+a.l.length/\2*(c.blocks.length-a.l.length)+a.W.length<2*(c.blocks.length-l.length)+(W.length+1)) (λa=>F.length-a.j) ⟨0,l,W,pre++[[.p (.int .i64 x)]],id,X⟩ ⟨Nat.zero_le _,g0,hX2,hJ0,by simp only[List.length_cons] at hsz⊢;omega,by simp only;omega⟩ (ab (Nat.zero_le _) (by simp[Aw.below];omega)) ?_
   rintro⟨j,l2,W2,pre2,id2,X2⟩ ⟨hj,g0,hX,hJ,hsz2,hms⟩
   simp only at hj g0 hX hJ hsz2 hms⊢
   have hll2:=hJ.len
   have hXe:X2[id2]?=some (AO.row 1 (pre2++am W2)):=hX
   have hidl2:=(List.getElem?_eq_some_iff.1 hXe).1
   have h0l:=(List.getElem?_eq_some_iff.1 g0).1
   have hW2l:(am W2).length=W2.length:=by simp[am]
   simp-implicitDefEqProofs[]
   refine aG (λhc2=>?_) (λhc2=>?_)
   ·have hc2:j<F.length:=by simpa using hc2
    have hwj:=w1 (i:=j) (by omega)
    have hgj:=List.getElem?_eq_getElem hc2
    have hfm:=hFm _ (List.getElem_mem hc2)
    generalize F[j]=t at hgj hfm
    obtain⟨f,rfl,hfl,hfr⟩:=hfm
    have htk:F.take (j+1)=F.take j++[(f:Int)]:=by rw[List.take_add_one,hgj];rfl
    have hmg:=Fl (f:Int) l2
    cases hm:decide ((f:Int)∈l2) with
    |true=>
     have hm:(f:Int)∈l2:=by simpa using hm
     rw[if_pos hm] at hmg
     simp-implicitDefEqProofs[hgj,g0,hmg]
     exact⟨⟨j+1,l2,W2,pre2,id2,X2⟩,⟨hc2,g0,hX,by simp only[htk];exact hJ.old hm,hsz2,hms⟩,by simp only;omega,ab (Nat.zero_le _) (by simp[Aw.below,hwj];omega)⟩
    |false=>
     have hm:(f:Int)∉l2:=by simpa using hm
     rw[if_neg hm] at hmg
     have hms2:=Fq (f:Int) l2 hm
     have hnw:=hJ.new hm hxl hfl hfr
     rw[←htk] at hnw
     have hln:=hnw.len
     have hid0:id2≠0:=by
      rintro rfl
      rw[hXe] at g0
      simp at g0
     have hgm:∀o t,(X2.set 0 o++t)[id2]?=some (.row 1 (pre2++am W2)):=λo t=>by rw[List.getElem?_append_left (by simp;omega),List.getElem?_set_ne (by omega)];exact hXe
     have hgme:=λo t hh=>eX (hgm o t) hh
     have htt:List.take W2.length (am W2)=am W2:=List.take_of_length_le (by omega)
     simp-implicitDefEqProofs[hgj,g0,hmg,hms2,hgm,hgme,hW2l,htt]
     refine⟨⟨by omega,by omega⟩,⟨j+1,l2++[(f:Int)],W2++[(f:Int)],[],X2.length+1,_⟩,⟨hc2,?_,?_,hnw,by simp only[List.length_append];simp;omega,by simp only[List.length_append] at hln⊢;simp at hln⊢;omega⟩,by simp only;omega,ab (Nat.zero_le _) (by simp[Aw.below,hwj])⟩
     ·simp only
      rw[List.getElem?_append_left (by simp),List.getElem?_set_ne hid0,List.getElem?_append_left (by simp;omega),List.getElem?_set_self h0l]
     ·rw[WrI]
      simp only
      rw[List.getElem?_append_right (by simp)];simp[am]
   ·have hje:F.length<=j:=by simpa using hc2
    rw[List.take_of_length_le hje] at hJ
    exact⟨⟨l2,W2,pre2,id2,.sl id2 1 pre2.length W2.length,X2⟩,⟨g0,.inr ⟨rfl,hX⟩,hend _ _ hJ,hsz2⟩,by simp only[List.length_cons];omega,ab (Nat.zero_le _) (by simp[Aw.below];omega)⟩
theorem tP(c:Cd)(hc:CSm c)(h160:c.blocks.length<=160)(B:List Int)(hB:B.length<=2):VF Tryz.prog G dI [.agg (c.cs.map .p),.p (ay B)] (.p (ay (eI c.blocks B))):=by
 have hcs:=c.cs_eq2
 have hbl:bkL c.blocks= .lst 5 (c.blocks.map Bk.cs):=rfl
 have hd:=yS G c hc
 have hb0:below 0 (dmV c):=Fe c 0
 rw[hcs,hbl] at hd
 refine fX G ?_
 refine AC.go mI ?_
 simp-implicitDefEqProofs[gx,hcs,hbl]
 cases hfit:bA c.blocks with
 |false=>
  have hdm:dmV c= .nilp:=by rw[dmV,hfit];rfl
  have hm:eI c.blocks B=[]:=by rw[eI,hfit];rfl
  rw[hdm] at hd
  rw[hm]
  refine hd.use ?_
  simp-implicitDefEqProofs[]
  exact .nils 1
 |true=>
  have hdm:dmV c= .eptr (dmE c) 0:=by rw[dmV,hfit];rfl
  have hF:=sr G c hc h160 hfit B hB
  have hm:eI c.blocks B=bg (clB c.blocks B) c.blocks.length:=by rw[eI,if_pos hfit]
  rw[hm]
  rw[hdm] at hd hF
  generalize dmE c=E at hd hF
  refine hd.use ?_
  simp-implicitDefEqProofs[]
  refine hF.use ?_
  simp-implicitDefEqProofs[]
  exact .p _
end
section
theorem DY{bs:List Bk}{x f:Int}(h:f∈cB bs x):bA bs=true/\∃a b:Nat,x=(a:Int)/\f=(b:Int)/\a<bs.length/\b<bs.length/\frB bs a b=true:=by
 rw[cB] at h
 split at h
 ·rename_i hi
  obtain⟨hf,h0,h1,h2⟩:=om hi
  obtain⟨f1,f2,f3,f4⟩:=kK h
  exact⟨hf,x.toNat,f.toNat,h2.symm,f4.symm,h1,f2,f3⟩
 ·cases h
theorem frAll_mem{bs:List Bk}{B:List Int}{f:Int}:f∈eI bs B↔bA bs=true/\∃b:Nat,f=(b:Int)/\b<bs.length/\Cl bs B b:=by
 cases hf:bA bs with
 |false=>rw[eI,hf];simp
 |true=>
  rw[eI,if_pos hf]
  constructor
  ·intro h
   obtain⟨f1,f2,f3,f4⟩:=kK h
   exact⟨rfl,f.toNat,f4.symm,f2,clB_iff.1 f3⟩
  ·rintro⟨_,b,rfl,hb,hc⟩
   exact mem_fltI.2 ⟨hb,clB_iff.2 hc⟩
theorem Df(bs:List Bk)(B:List Int):(eI bs B).length<=bs.length:=by
 rw[eI]
 split
 ·exact fG _ _
 ·simp
theorem As{bs:List Bk}{B:List Int}{x f:Int}(hx:x∈B++eI bs B)(h:f∈cB bs x):f∈eI bs B:=by
 obtain⟨hf,a,b,rfl,rfl,ha,hb,he⟩:=DY h
 rw[frAll_mem]
 refine⟨hf,b,rfl,hb,?_⟩
 rcases List.mem_append.1 hx with h1|h1
 ·exact .base h1 ha hb he
 ·obtain⟨_,a',e,_,hc⟩:=frAll_mem.1 h1
  have:a'=a:=by omega
  subst this
  exact .step hc ha hb he
theorem Dp{bs:List Bk}{B:List Int}{g:Int}(h:g∈eI bs B):((B++eI bs B).any λx=>decide (g∈cB bs x))=true:=by
 obtain⟨hf,b,rfl,hb,hc⟩:=frAll_mem.1 h
 rw[List.any_eq_true]
 have key:∀a:Nat,a<bs.length->frB bs a b=true->decide ((b:Int)∈cB bs (a:Int))=true:=λa ha he=>by
  rw[decide_eq_true_iff,cB,if_pos (Cq hf ha),Int.toNat_natCast]
  exact mem_fltI.2 ⟨hb,he⟩
 cases hc with
 | @base x _ h1 h2 _ h4=>exact⟨(x:Int),List.mem_append.2 (.inl h1),key x h2 h4⟩
 | @step x _ h1 h2 _ h4=>exact⟨(x:Int),List.mem_append.2 (.inr (frAll_mem.2 ⟨hf,x,rfl,h2,h1⟩)),key x h2 h4⟩
theorem CC(bs:List Bk)(b:Int):(cB bs b).length<=bs.length:=by
 rw[cB]
 split
 ·exact fG _ _
 ·simp
variable (G:aC)
theorem mU(code:List Int)(hb:Byt code)(hl:code.length<=9223372036854775807):VF Tryz.prog G eO [.p (nW code)] (.p (.bool true)):=by
 have hbl:nW code= .lst 1 (code.map λn=>[.int .u8 n]):=rfl
 refine AC.go ko ?_
 simp-implicitDefEqProofs[eM,hbl]
 refine aG (λ_=>?_) (λ_=>?_)
 ·simp-implicitDefEqProofs[]
 simp-implicitDefEqProofs[]
 have hd:=EU G (od G code hb hl) Gg (by simp) []
 rw[hbl] at hd
 refine hd.mono ?_
 rintro r h ⟨⟨c,B,rfl,hg,hB2⟩,rfl⟩
 have hcs:=hg.csm
 have h160:=hg.2.1
 have hcc:=c.cs_eq2
 have hbk:bkL c.blocks= .lst 5 (c.blocks.map Bk.cs):=rfl
 have hI:=tP G c hcs h160 B hB2
 have hS:=ty G c hcs.1 h160 B hB2
 have hF:=λx=>vV G c hcs x
 have hBn:ay B= .lst 1 (B.map λn=>[.int .i64 n]):=rfl
 rw[hcc,hbk] at hI hS hF
 rw[hBn] at hI hS
 have hkl:=Df c.blocks B
 have hst:=λx f=> @As c.blocks B x f
 have hled:=λg=> @Dp c.blocks B g
 have hfl:=λb=>CC c.blocks b
 generalize eI c.blocks B=K at*
 have hW:=EI G K (by omega)
 have hKn:ay K= .lst 1 (K.map λn=>[.int .i64 n]):=rfl
 have hHas:=λk=>BN G K k (by omega)
 simp-implicitDefEqProofs[aa,hcc,hbk,hBn]
 refine hI.use ?_
 simp-implicitDefEqProofs[]
 refine hS.use ?_
 simp-implicitDefEqProofs[]
 refine hW.use ?_
 have hBw:List.map ((λx=>List.map AV.p x)∘λn=>[PV.int IntKind.i64 n]) B=am B:=by simp[am]
 have hKw:List.map ((λx=>List.map AV.p x)∘λn=>[PV.int IntKind.i64 n]) K=am K:=by simp[am]
 have hBl:(am B).length=B.length:=by simp[am]
 have hKl:(am K).length=K.length:=by simp[am]
 have hBt:List.take B.length (am B)=am B:=List.take_of_length_le (by omega)
 obtain⟨A,hA⟩:∃A,A=B++K:=⟨_,rfl⟩
 have hAl:A.length=B.length+K.length:=by rw[hA,List.length_append]
 have hAw:am B++am K=am A:=by rw[hA];simp[am]
 rw[←hA] at hst hled
 simp-implicitDefEqProofs[hKn,hBw,hKw,hBl,hKl,hBt,hAw]
 refine⟨⟨by omega,by omega⟩,⟨by omega,by omega⟩,?_⟩
 have hvA:View [.dead,.dead,.dead,.row 1 (am A)] (.sl 3 1 0 (B.length+K.length)) (ay A):=by rw[←hAl];exact bL rfl
 have hAn:ay A= .lst 1 (A.map λn=>[.int .i64 n]):=rfl
 have hAc:(B.length:Int)+(K.length:Int)=(A.length:Int):=by omega
 rw[hAc]
 refine aH (λi:Nat=>au 84 [(38,.p (.int .i64 i)),(37,.p (.int .i64 A.length)),(36,.p (ay A)),(5,.p (.lst 1 (K.map λn=>[.int .i64 n]))),(4,.p (.lst 1 (B.map λn=>[.int .i64 n]))),(3,.ptr 0 3 0 0)]) (λ_=>[.row 3 [[.p (.int .i64 c.params),.p (.int .i64 c.regs),.p (.lst 5 (c.blocks.map Bk.cs))]]]) (λi=>i<=A.length) (λi=>A.length-i) 0 (Nat.zero_le _) ?_ ?_
 ·refine jZ 1 (Nat.zero_le _) (by simp) rfl (.same (by simp[okO,below]) (.nil _)) ?_
  exact⟨.keep (by simp[below]) .nil,.keep (by simp[below]) .nil,.one hvA .nil,.keep (by simp[below]) .nil,.keep (by simp[below]) .nil,.keep (by simp[below]) .nil,trivial⟩
 intro i hi
 simp-implicitDefEqProofs[hAn]
 refine aG (λhc=>?_) (λhc=>?_)
 ·have hc:i<A.length:=by simpa using hc
  have hwi:=w1 (i:=i) (by omega)
  have hgi:=List.getElem?_eq_getElem hc
  have hmi:=List.getElem_mem hc
  generalize A[i]=v at hgi hmi
  have hsv:=λf=>hst v f hmi
  have hfv:=hfl v
  have hFv:=hF v
  generalize cB c.blocks v=F at hsv hfv hFv
  have hFn:ay F= .lst 1 (F.map λn=>[.int .i64 n]):=rfl
  simp-implicitDefEqProofs[hgi]
  refine hFv.use ?_
  simp-implicitDefEqProofs[hFn]
  refine aH (λj:Nat=>au 84 [(46,.p (.int .i64 j)),(45,.p (.int .i64 F.length)),(44,.p (.lst 1 (F.map λn=>[.int .i64 n]))),(38,.p (.int .i64 i)),(37,.p (.int .i64 A.length)),(36,.p (ay A)),(5,.p (.lst 1 (K.map λn=>[.int .i64 n]))),(4,.p (.lst 1 (B.map λn=>[.int .i64 n]))),(3,.ptr 0 3 0 0)]) (λ_=>[.row 3 [[.p (.int .i64 c.params),.p (.int .i64 c.regs),.p (.lst 5 (c.blocks.map Bk.cs))]]]) (λj=>j<=F.length) (λj=>F.length-j) 0 (Nat.zero_le _) (ab (Nat.zero_le _) (by simp[below,hAn])) ?_
  intro j hj
  simp-implicitDefEqProofs[]
  refine aG (λhc2=>?_) (λhc2=>?_)
  ·have hc2:j<F.length:=by simpa using hc2
   have hwj:=w1 (i:=j) (by omega)
   have hgj:=List.getElem?_eq_getElem hc2
   have hin:=hsv _ (List.getElem_mem hc2)
   generalize F[j]=f at hgj hin
   simp-implicitDefEqProofs[hgj]
   refine(hHas f).use ?_
   rw[decide_eq_true hin]
   simp-implicitDefEqProofs[]
   exact⟨j+1,hc2,by omega,ab (Nat.zero_le _) (by simp[below,hwj])⟩
  ·simp-implicitDefEqProofs[]
   exact⟨i+1,hc,by omega,ab (Nat.zero_le _) (by simp[below,hwi,hAn])⟩
 simp-implicitDefEqProofs[]
 refine aH (λg:Nat=>au 84 [(58,.p (.int .i64 g)),(57,.p (.int .i64 K.length)),(56,.p (.lst 1 (K.map λn=>[.int .i64 n]))),(5,.p (.lst 1 (K.map λn=>[.int .i64 n]))),(4,.p (.lst 1 (B.map λn=>[.int .i64 n]))),(3,.ptr 0 3 0 0)]) (λ_=>[.row 3 [[.p (.int .i64 c.params),.p (.int .i64 c.regs),.p (.lst 5 (c.blocks.map Bk.cs))]]]) (λg=>g<=K.length) (λg=>K.length-g) 0 (Nat.zero_le _) (ab (Nat.zero_le _) (by simp[below])) ?_
 intro g hgl
 simp-implicitDefEqProofs[]
 refine aG (λhcg=>?_) (λhcg=>?_)
 ·have hcg:g<K.length:=by simpa using hcg
  have hwg:=w1 (i:=g) (by omega)
  have hgg:=List.getElem?_eq_getElem hcg
  have hlg:=hled _ (List.getElem_mem hcg)
  generalize K[g]=v at hgg hlg
  simp-implicitDefEqProofs[hgg,hBw,hKw,hBl,hKl,hBt,hAw]
  refine⟨⟨by omega,by omega⟩,⟨by omega,by omega⟩,?_⟩
  rw[hAc]
  refine aH (λi:Nat=>au 84 [(68,.p (.int .i64 i)),(67,.p (.int .i64 A.length)),(66,.p (ay A)),(12,.p (.bool ((A.take i).any λx=>decide (v∈cB c.blocks x)))),(11,.p (.int .i64 v)),(58,.p (.int .i64 g)),(57,.p (.int .i64 K.length)),(56,.p (.lst 1 (K.map λn=>[.int .i64 n]))),(5,.p (.lst 1 (K.map λn=>[.int .i64 n]))),(4,.p (.lst 1 (B.map λn=>[.int .i64 n]))),(3,.ptr 0 3 0 0)]) (λ_=>[.row 3 [[.p (.int .i64 c.params),.p (.int .i64 c.regs),.p (.lst 5 (c.blocks.map Bk.cs))]]]) (λi=>i<=A.length) (λi=>A.length-i) 0 (Nat.zero_le _) ?_ ?_
  ·refine jZ 1 (Nat.zero_le _) (by simp) rfl (.same (by simp[okO,below]) (.nil _)) ?_
   exact⟨.keep (by simp[below]) .nil,.keep (by simp[below]) .nil,.one hvA .nil,.keep (by simp[below]) .nil,.keep (by simp[below]) .nil,.keep (by simp[below]) .nil,.keep (by simp[below]) .nil,.keep (by simp[below]) .nil,.keep (by simp[below]) .nil,.keep (by simp[below]) .nil,.keep (by simp[below]) .nil,trivial⟩
  intro i hi
  simp-implicitDefEqProofs[hAn]
  refine aG (λhc=>?_) (λhc=>?_)
  ·have hc:i<A.length:=by simpa using hc
   have hwi:=w1 (i:=i) (by omega)
   have hgi:=List.getElem?_eq_getElem hc
   have htk:=yG (p:=λx=>decide (v∈cB c.blocks x)) hc
   generalize A[i]=w at hgi htk
   generalize hAB:((A.take i).any λx=>decide (v∈cB c.blocks x))=AB at htk
   cases AB with
   |true=>
    simp-implicitDefEqProofs[hgi,hAB]
    exact⟨i+1,hc,by omega,ab (Nat.zero_le _) (by simp[below,hwi,htk,hAn])⟩
   |false=>
    have hH2:=BN G (cB c.blocks w) v (by have:=hfl w;omega)
    simp-implicitDefEqProofs[hgi,hAB]
    refine(hF w).use ?_
    simp-implicitDefEqProofs[]
    refine hH2.use ?_
    simp-implicitDefEqProofs[]
    exact⟨i+1,hc,by omega,ab (Nat.zero_le _) (by simp[below,hwi,htk,hAn])⟩
  ·have hie:A.length<=i:=by simpa using hc
   rw[List.take_of_length_le hie,hlg]
   simp-implicitDefEqProofs[]
   exact⟨g+1,hcg,by omega,ab (Nat.zero_le _) (by simp[below,hwg])⟩
 ·simp-implicitDefEqProofs[]
end
end Go.Proofs.YtdfplkcigiblcaaGreat
namespace Go.Proofs.YtdfplkcigiblcaaGreat
open Go Go.Aw Go.ChangeShapes Go.WideShapes Go.ChangeAt Go.RowKit
set_option maxRecDepth 100000
abbrev Ci:TypeId:=22
abbrev yy:TypeId:=5
theorem KN:Kids Tryz.prog (· <Tryz.prog.types.size):=kids_rows (by kernel_rfl) (by kernel_rfl)
theorem KY:∀t e,t<Tryz.prog.types.size->Tryz.prog.underlying t=some (.slice e)->0<Tryz.prog.cellsOf e:=slices_full_of Tryz.prog (by kernel_rfl)
def Cw:List TypeId:=[Ci,yy]
theorem IC:Plain Tryz.prog Cw=true:=by kernel_rfl
theorem MT:ownKnob Tryz.prog.godebug=none:=by kernel_rfl
theorem rY{H:Type}:∀l:List (DataW H),Rows.uptoBulkAll l=(l.map Rows.uptoBulk).sum
 |[]=>by simp[Rows.uptoBulkAll]
 |d::r=>by simp[Rows.uptoBulkAll,rY r]
theorem Hj{H:Type}:BulkOk (Rows.uptoBulk (H:=H)) where
 lit:=λl=>by cases l<;>simp[Rows.uptoBulk]
 str:=λs=>by simp[Rows.uptoBulk]
 nil:=by simp[Rows.uptoBulk]
 slice:=λes sp=>by simp only[Rows.uptoBulk,rY];omega
 agg:=λps=>by simp only[Rows.uptoBulk,rY];omega
theorem FG{t e:TypeId}{vs:List PV}(h:Conf Tryz.prog t vs)(hu:Tryz.prog.underlying t=some (.slice e)):∃es,vs=[.lst (Tryz.prog.cellsOf e) es]/\es.length<=9223372036854775807/\∀x∈es,Conf Tryz.prog e x:=by
 cases h with
 |sl es e' hl hs=>rw[hu] at e';cases e';exact⟨es,rfl,hl,hs⟩
 |bool b e=>rw[e] at hu;cases hu
 |int n e=>rw[e] at hu;cases hu
 |str s e=>rw[e] at hu;cases hu
 |st vs e=>rw[e] at hu;cases hu
 |arr vs e=>rw[e] at hu;cases hu
theorem AH{vs:List PV}(h:Conf Tryz.prog Ci vs):∃l:List Int,vs=[nW l]/\l.length<=9223372036854775807/\Byt l:=by
 obtain⟨es,rfl,hl,h4⟩:=FG h (e:=yy) (by kernel_rfl)
 have hk:∀x∈es,∃n:Int,x=[PV.int .u8 n]/\(Lit.int .u8 n).wf=true:=λx hx=>ES (h4 x hx) (by kernel_rfl)
 obtain⟨l,rfl⟩:=BC (λn:Int=>[PV.int .u8 n]) (λx hx=>by obtain⟨n,e,_⟩:=hk x hx;exact⟨n,e⟩)
 rw[show Tryz.prog.cellsOf yy=1 by kernel_rfl]
 refine⟨l,rfl,by rwa[List.length_map] at hl,λn hn=>?_⟩
 obtain⟨m,e,hw⟩:=hk [PV.int .u8 n] (List.mem_map.2 ⟨n,hn,rfl⟩)
 cases e
 simp[Lit.wf,IntKind.min,IntKind.max,IntKind.bits,IntKind.signed] at hw
 omega
def G0:aC:=λ_=>none
end Go.Proofs.YtdfplkcigiblcaaGreat
