/-
  Contracts and lemmas that the card needs, part 8.
-/
import Derived.Test.YtbnajafpkeficaaGreatDoorLo7
import Derived.Test.YtbnajafpkeficaaGreatDoorRows
import Derived.WalkKit
import Derived.ProofKit
import Derived.LaidMore
namespace Go.Proofs.YtbnajafpkeficaaGreatDoor
open Go Go.Aw
set_option maxRecDepth 100000
set_option maxHeartbeats 4000000
section
structure PlM (os:List Obj) (L:List Nat) (i:Nat) (es:List (PV × AV)):Prop where
 str:Hq es
 get:∀(j k:Nat) (h:k<os.length),j<i->L[j]?=some k->bB (.str os[k].name) es=some (some (.p (.int .i64 (j:Int))))
theorem PlM.start(os:List Obj)(L:List Nat):PlM os L 0 []:=⟨λe he=>(by cases he),λj k h hj=>(by omega)⟩
theorem PlM.step{os:List Obj}{L:List Nat}(hO:OrdOk os L){i:Nat}{es:List (PV × AV)}(h:PlM os L i es){k:Nat}(hk:L[i]?=some k)(hl:k<os.length):∃es',eA (.str os[k].name) (.p (.int .i64 i)) es=some es'/\PlM os L (i+1) es':=by
 obtain⟨es',h1,h2,h3,h4⟩:=uo os[k].name (.p (.int .i64 i)) h.str
 refine⟨es',h1,h2,λj k2 hk2 hj hL=>?_⟩
 rcases Nat.lt_or_ge j i with hji|hji
 ·have hne:os[k2].name≠os[k].name:=λe=>by
   have e1:=hO.apart k2 hk2
   rw[e,hO.apart k hl] at e1
   cases e1
   obtain⟨a1,a2⟩:=List.getElem?_eq_some_iff.1 hL
   obtain⟨b1,b2⟩:=List.getElem?_eq_some_iff.1 hk
   have:=(List.getElem_inj (h₀:=a1) (h₁:=b1) hO.nd).1 (by rw[a2,b2])
   omega
  rw[h4 _ hne]
  exact h.get j k2 hk2 hji hL
 ·have:j=i:=by omega
  subst this
  rw[hk] at hL
  cases hL
  exact h3
theorem Bp{acc:List (List UInt8)}{w v:List UInt8}(h:v∈acc\/v=w):v∈tF acc w:=by
 unfold tF
 split
 ·rename_i hc
  rcases h with h|h
  ·exact h
  ·rw[h];simpa using hc
 ·rcases h with h|h<;>simp[h]
theorem FP{l:List (List UInt8)}{v:List UInt8}(h:v∈l):v∈tw l:=by
 have key:∀(l acc:List (List UInt8)),(v∈acc\/v∈l)->v∈l.foldl tF acc:=by
  intro l
  induction l with
  |nil=>intro acc h;simpa using h
  |cons w r ih=>
   intro acc h
   rw[List.foldl_cons]
   refine ih _ ?_
   rcases h with h|h
   ·exact .inl (Bp (.inl h))
   ·rcases List.mem_cons.1 h with h|h
    ·exact .inl (Bp (.inr h))
    ·exact .inr h
 exact key l [] (.inr h)
theorem PlM.look{os:List Obj}{L:List Nat}(hO:OrdOk os L){i:Nat}{es:List (PV × AV)}(h:PlM os L (i+1) es){k:Nat}(hk:L[i]?=some k)(hl:k<os.length){v:List UInt8}(hv:v∈os[k].names):bB (.str v) es=some (some (.p (.int .i64 (fw os L v)))):=by
 have hvc:v∈csW os k:=by rw[nA hl,kA,if_pos (hO.ok _ (List.getElem_mem hl))];exact FP hv
 obtain⟨j,hj,y,hy,hLj⟩:=hO.topo i k hk v hvc
 obtain⟨hyl,hyn⟩:=vW hy
 have hg:=h.get j y hyl (by omega) hLj
 rw[hyn] at hg
 have hp:fw os L v=(j:Int):=by
  rw[fw,hy]
  have:((aP L).findIdx? λx=>decide (x=ixI (some y)))=some j:=by
   rw[List.findIdx?_eq_some_iff_getElem]
   obtain⟨a1,a2⟩:=List.getElem?_eq_some_iff.1 hLj
   refine⟨by rw[fz];exact a1,by simp[aP,a2,ixI],λq hq=>?_⟩
   have hq1:q<L.length:=by omega
   have hne:L[q]≠y:=λe=>by
    have:=(List.getElem_inj (h₀:=hq1) (h₁:=a1) hO.nd).1 (by rw[e,a2])
    omega
   simp only[aP,List.getElem_map,ixI,decide_eq_true_eq]
   exact λe=>hne (Int.ofNat.inj e)
  rw[this];rfl
 rw[hp];exact hg
structure LpS where (i:Nat) (es:List (PV × AV)) (V:AV) (I:List Nat) (X:List AO)
variable (G:az)
variable (hG:G bW=some pvForms) (hK:G ig=some gB)
include hG hK
theorem mg(os:List Obj)(ho:ObsOk os)(w:List UInt8)(hw:w.length<=1048576):AC Tryz.prog G bN [.p (obL os),.p (.str w)] [] (MkW (AJ (jr os w).2) true [bc (jr os w).1]):=by
 have hLn:obL os= .lst 6 (os.map Obj.cs):=rfl
 have hSL:=zU G hG hK os ho w hw
 have hSL2:=λh=>zy G hG hK os ho w hw h
 have hlen:=ho.len
 rw[hLn] at hSL hSL2⊢
 by_cases h0:(lnk os w).2=0
 case neg=>
  have hM:jr os w=([],(lnk os w).2):=by rw[jr,if_neg h0]
  rw[hM]
  refine AC.go iH ?_
  simp-implicitDefEqProofs[fp]
  refine hSL.use ?_
  simp-implicitDefEqProofs[h0]
  exact⟨[.nils],[],rfl,.nils 3 .nil,List.nodup_nil⟩
 have hO:=Cw h0
 have hM:jr os w=if bn (dD os (lnk os w).1)=true then(dD os (lnk os w).1,0) else([],1):=by rw[jr,if_pos h0]
 rw[hM]
 rw[h0] at hSL
 generalize (lnk os w).1=L at*
 have hLL:bk (aP L)= .lst 1 ((aP L).map λn=>[.int .i64 n]):=rfl
 have hLlen:=fz L
 have h4:=hO.le4
 simp only[hLL] at hSL
 refine AC.go iH ?_
 simp-implicitDefEqProofs[fp]
 refine hSL.use ?_
 simp-implicitDefEqProofs[hLlen]
 refine aw (λa:LpS=>aB 92 [(29,.p (.int .i64 a.i)),(28,.p (.int .i64 L.length)),(27,.p (.lst 1 ((aP L).map λn=>[.int .i64 n]))),(0,.p (.lst 6 (os.map Obj.cs))),(4,.ptr 0 1 0 0),(8,.mp 1),(9,.ptr 2 1 0 0)]) (λa=>a.X)
  (λa=>a.i<=L.length/\a.X[0]?=some (.row 1 [[.nils]])/\a.X[1]?=some (.mp a.es)/\a.X[2]?=some (.row 1 [[a.V]])/\PlM os L a.i a.es/\LnI 3 ((dD os L).take a.i) a.V a.I a.X) (λa=>L.length-a.i) ⟨0,[],.nils,[],[.row 1 [[.nils]],.mp [],.row 1 [[.nils]]]⟩ ⟨Nat.zero_le _,rfl,rfl,rfl,.start os L,.nils 3 .nil,List.nodup_nil,by simp,λq e=>by cases e⟩ (aA (Nat.zero_le _) (by simp[below])) ?_
 rintro⟨i,es,V,I,X⟩ ⟨hi,g0,g1,g2,hP,hX⟩
 simp only at hi g0 g1 g2 hP hX⊢
 have h2l:=(List.getElem?_eq_some_iff.1 g2).1
 simp-implicitDefEqProofs[]
 refine aR (λhc=>?_) (λhc=>?_)
 ·have hc:i<L.length:=by simpa using hc
  have hwi:=w1 (i:=i) (by omega)
  have hgi:=List.getElem?_eq_getElem hc
  have hLm:=List.getElem_mem hc
  generalize hk:L[i]=k at hgi hLm
  have hkl:=hO.lt k hLm
  have hgo:=List.getElem?_eq_getElem hkl
  have hom:os[k]∈os:=List.getElem_mem hkl
  obtain⟨f,hdec,hcode,hnames,_,h2000,hne⟩:=ua (hO.ok _ hom)
  have hsm:=ho.sm _ hom
  have hsz:=ho.sz _ hom
  have hfo:fnO os k=f:=by rw[fnO,hgo];simp only;rw[hdec];rfl
  have hno:nmO os k=os[k].names:=by rw[nmO,hgo]
  have hnx:(dD os L).take (i+1)=(dD os L).take i++[md f (fw os L) os[k].names]:=by
   rw[List.take_add_one,dD,List.getElem?_map,hgi]
   simp only[Option.map_some,Option.toList_some,hfo,hno]
  have hszo:szO os[k]=os[k].name.length+os[k].code.length+os[k].calls.length+szW os[k].names:=rfl
  have hwz:szW os[k].names=os[k].names.length+(os[k].names.map List.length).sum:=rfl
  have hDec:=KF G hG hK os[k] hsm hsz (hO.ok _ hom) hdec
  obtain⟨es',hm1,hP2⟩:=hP.step hO hgi hkl
  have hlk:=λv hv=>hP2.look hO hgi hkl (v:=v) hv
  have hA:=λh=>AC.mkLift (vF true) hDec (h:=h) (by simp)
  rw[Obj.cs] at hA
  have hgiI:(aP L)[i]?=some (k:Int):=by rw[aP,List.getElem?_map,hgi];rfl
  simp-implicitDefEqProofs[hgiI,hgo,hkl,Obj.cs,g1,hm1]
  refine(hA _).mono ?_
  rintro _ h2 ⟨vs,J,os2,rfl,e2,hown,nd2,hf2⟩
  obtain⟨K,rfl,hK⟩:=ue hown
  obtain⟨id,rfl,rfl,hrow⟩:=pR hK nd2 hne
  have hidX:=hf2 id (by simp)
  simp at hidX
  have hidl:=(List.getElem?_eq_some_iff.1 hrow).1
  simp-implicitDefEqProofs[Ar,ag]
  obtain⟨Y,hY⟩:∃Y:List AO,Y=h2++[AO.row 3 [[AV.p (.int .i64 f.params),AV.p (.int .i64 f.slots),AV.sl id 5 0 f.ins.length]]]:=⟨_,rfl⟩
  rw[←hY]
  obtain⟨q,hq⟩:∃q,q=h2.length:=⟨_,rfl⟩
  rw[←hq]
  have hYl:Y.length=q+1:=by rw[hY,hq];simp
  have hYid:Y[id]?=some (bq f.ins):=by rw[hY,List.getElem?_append_left hidl];exact hrow
  have hXq:X.length<=q:=by rw[hq,e2];simp
  have hidq:id<q:=by omega
  have hYX:∀j,j<X.length->Y[j]?=(X.set 1 (.mp es'))[j]?:=λj hj=>by rw[hY,List.getElem?_append_left (by omega),e2,List.getElem?_append_left (by simpa using hj)]
  have hYf:Y[q]?=some (AO.row 3 [[AV.p (.int .i64 f.params),AV.p (.int .i64 f.slots),AV.sl id 5 0 f.ins.length]]):=by rw[hY,hq,List.getElem?_append_right (Nat.le_refl _),Nat.sub_self];rfl
  have hYm:Y[1]?=some (.mp es'):=by rw[hYX 1 (by omega),List.getElem?_set_self (by omega)]
  have zf:∀o,(Y.set id o)[q]?=some (AO.row 3 [[AV.p (.int .i64 f.params),AV.p (.int .i64 f.slots),AV.sl id 5 0 f.ins.length]]):=λo=>by rw[List.getElem?_set_ne (by omega)];exact hYf
  have zm:∀o,(Y.set id o)[1]?=some (.mp es'):=λo=>by rw[List.getElem?_set_ne (by omega)];exact hYm
  have zi:∀o,(Y.set id o)[id]?=some o:=λo=>List.getElem?_set_self (by omega)
  have hset0:Y=Y.set id (bq (kK f (fw os L) os[k].names 0)):=by
   rw[yS]
   obtain⟨h1,h3⟩:=List.getElem?_eq_some_iff.1 hYid
   conv=>lhs;rw[←List.set_getElem_self h1,h3]
  clear hY e2 hrow hown hK hf2
  refine aw (λa:LjS=>aB 92 [(52,.p (.int .i64 a.j)),(51,.p (.int .i64 f.ins.length)),(14,.p (.int .i64 (cN f a.j))),(12,.ptr q 3 0 0),(11,.p (.int .i64 k)),(29,.p (.int .i64 i)),(28,.p (.int .i64 L.length)),(27,.p (.lst 1 ((aP L).map λn=>[.int .i64 n]))),(0,.p (.lst 6 (os.map Obj.cs))),(4,.ptr 0 1 0 0),(8,.mp 1),(9,.ptr 2 1 0 0)])
   (λa=>Y.set id (bq (kK f (fw os L) os[k].names a.j))) (λa=>a.j<=f.ins.length) (λa=>f.ins.length-a.j) ⟨0⟩ (Nat.zero_le _) (by rw[←hset0];exact aA (Nat.zero_le _) (by simp[below,DK];omega)) ?_
  rintro⟨j⟩ hj
  simp only at hj⊢
  simp-implicitDefEqProofs[zf]
  refine aR (λhc2=>?_) (λhc2=>?_)
  ·have hc2:j<f.ins.length:=by simpa using hc2
   have hwj:=w1 (i:=j) (by omega)
   have hgj:=xZ (pl:=fw os L) (ws:=os[k].names) hc2
   have hbo:∀l,bq l= .row 5 (l.map Mins.av):=λ_=>rfl
   have hcs:=tS hcode hc2
   have hcn:=Cm hcode (f:=f) (i:=f.ins.length) (Nat.le_refl _)
   have hcm:=uc hcode (i:=j) (j:=f.ins.length) hj (Nat.le_refl _)
   by_cases hop:f.ins[j].op=14
   ·have hs:=uE (pl:=fw os L) (ws:=os[k].names) hc2
    have hlt:=JH hcode hc2 hop
    rw[if_pos hop] at hcs
    have hgn:=List.getElem?_eq_getElem (l:=os[k].names) (i:=cN f j) (by omega)
    have hwn:=w1 (i:=cN f j) (by omega)
    have hvm:=hlk _ (List.getElem_mem (l:=os[k].names) (n:=cN f j) (by omega))
    generalize os[k].names[cN f j]'(by omega)=v at hgn hvm
    have hs2:((kK f (fw os L) os[k].names j).map Mins.av).set j [.p (.int .i64 14),.p (.int .i64 f.ins[j].a),.p (.int .i64 f.ins[j].b),.p (.int .i64 f.ins[j].c),.p (.int .i64 (fw os L v))]=(kK f (fw os L) os[k].names (j+1)).map Mins.av:=by
     rw[←hs,List.map_set,Er,if_pos hop,hgn,Mins.av_eq,hop];rfl
    have hsl:aQ os[k].names= .lst 1 (os[k].names.map λw=>[.str w]):=rfl
    simp-implicitDefEqProofs[zi,zf,zm,hbo,hgj,hc2,Mins.av_eq,hop,hsl,hgn,hgo,hkl,Obj.cs,hvm,dP,hs2]
    refine⟨⟨j+1⟩,hc2,by simp only;omega,?_⟩
    rw[hcs]
    exact aA (Nat.zero_le _) (by simp[below,hwj,hwn];omega)
   ·have hs:=za (pl:=fw os L) (ws:=os[k].names) hc2 hop
    rw[if_neg hop] at hcs
    simp-implicitDefEqProofs[zi,zf,zm,hbo,hgj,hc2,Mins.av_eq,hop]
    refine⟨⟨j+1⟩,hc2,by simp only;omega,?_⟩
    rw[hs,hcs]
    exact aA (Nat.zero_le _) (by simp[below,hwj];omega)
  ·have hje:f.ins.length<=j:=by simpa using hc2
   have hra:=AR f (fw os L) os[k].names hje
   have hRl:(md f (fw os L) os[k].names).ins.length=f.ins.length:=by simp[md]
   rw[hra]
   generalize hRg:md f (fw os L) os[k].names=R at hnx hRl
   rw[←hRl] at zf
   have hRp:f.params=R.params/\f.slots=R.slots:=by rw[←hRg];exact⟨rfl,rfl⟩
   rw[hRp.1,hRp.2] at zf
   have zfx:=zf (bq R.ins)
   have zix:=zi (bq R.ins)
   have z0:(Y.set id (bq R.ins))[0]?=some (.row 1 [[.nils]]):=by rw[List.getElem?_set_ne (by omega),hYX 0 (by omega),List.getElem?_set_ne (by omega)];exact g0
   have zmx:=zm (bq R.ins)
   have z1:(Y.set id (bq R.ins))[2]?=some (.row 1 [[V]]):=by rw[List.getElem?_set_ne (by omega),hYX 2 (by omega),List.getElem?_set_ne (by omega)];exact g2
   have hZX:LnI 3 ((dD os L).take i) V I (Y.set id (bq R.ins)):=hX.up λj hj=>by
    have:=hX.own.lt hj
    have:=hX.lo j hj
    rw[List.getElem?_set_ne (by omega),hYX j (by omega),List.getElem?_set_ne (by omega)]
   have hZl:(Y.set id (bq R.ins)).length=q+1:=by rw[List.length_set];exact hYl
   have hIX:∀a∈I,a<X.length:=λa ha=>hX.own.lt ha
   generalize Y.set id (bq R.ins)=Z at*
   have hKZ:=gO (n:=R.ins.length) zix rfl
   have hfs:((dD os L).take i).length=i:=by rw[List.length_take,dD,List.length_map];omega
   generalize hlit:AO.row 3 [[AV.p (.int .i64 R.params),AV.p (.int .i64 R.slots),AV.sl id 5 0 R.ins.length]]=lit
   have y1:∀t,(Z++t)[2]?=some (.row 1 [[V]]):=λt=>by rw[List.getElem?_append_left (by omega)];exact z1
   have hZ2:LnI 3 ((dD os L).take i) V I (Z++[lit]):=hZX.up λj hj=>by rw[List.getElem?_append_left (by have:=hIX j hj;omega)]
   have hps:=hZ2.push (hKZ.more [lit]) (by simp) (λa ha hm=>by have:=hIX a ha;have:=List.mem_singleton.1 hm;omega) (λj hj=>by have:=List.mem_singleton.1 hj;omega)
   rw[hfs] at hps
   rcases hps with⟨rfl,hnil⟩|⟨oid,rows,rfl,ho2,horow,hrl,hnew⟩
   ·have y1e:=λt hh=>rT (y1 t) hh
    have hF:=LnI.first (b:=3) (f:=R) (hKZ.more [lit]) (by simp) (λj hj=>by have:=List.mem_singleton.1 hj;omega) (by simp;omega)
    rw[List.length_append,List.length_singleton,List.append_assoc] at hF
    subst hlit
    simp-implicitDefEqProofs[zfx,z1,y1,y1e]
    refine⟨⟨i+1,es',.sl (Z.length+1) 3 0 1,(Z.length+1)::[id],_⟩,⟨hc,?_,?_,?_,hP2,?_⟩,by simp only;omega,aA (Nat.zero_le _) (by simp[below,hwi]<;>omega)⟩
    ·simp only
     rw[List.getElem?_set_ne (by omega),List.getElem?_append_left (by omega)];exact z0
    ·simp only
     rw[List.getElem?_set_ne (by omega),List.getElem?_append_left (by omega)];exact zmx
    ·simp only
     rw[List.getElem?_set_self (by simp<;>omega)]
    ·simp only
     rw[hnx,hnil]
     exact hF.up λj hj=>List.getElem?_set_ne (by have:=hF.lo j hj;omega)
   ·have hoX:=hIX oid (by
     have:=hZX.own
     cases this with
     |sl=>simp)
    have zor:∀t,(Z++t)[oid]?=some (.row 3 rows):=λt=>by
     rw[List.getElem?_append_left (by omega)]
     rw[List.getElem?_append_left (by omega)] at horow
     exact horow
    have htt:List.take i rows=rows:=List.take_of_length_le (by omega)
    have y1d:∀t o t2,((Z++t).set oid o++t2)[2]?=some (.row 1 [[.sl oid 3 0 i]]):=λt o t2=>by
     rw[List.getElem?_append_left (by simp;omega),List.getElem?_set_ne (by omega)];exact y1 t
    have y1e:=λt hh=>rT (y1 t) hh
    have y1de:=λt o t2 hh=>rT (y1d t o t2) hh
    rw[List.length_append,List.length_singleton] at hnew
    subst hlit
    simp-implicitDefEqProofs[zfx,z1,y1,y1e,zor,htt,hrl,y1d,y1de]
    refine⟨⟨by omega,by omega⟩,⟨i+1,es',.sl (Z.length+1) 3 0 (i+1),(Z.length+1)::(I.filter (λj=>decide (j≠oid))++[id]),_⟩,⟨hc,?_,?_,?_,hP2,?_⟩,by simp only;omega,aA (Nat.zero_le _) (by simp[below,hwi]<;>omega)⟩
    ·simp only
     rw[List.getElem?_set_ne (by omega),List.getElem?_append_left (by simp<;>omega),List.getElem?_set_ne (by omega),List.getElem?_append_left (by omega)];exact z0
    ·simp only
     rw[List.getElem?_set_ne (by omega),List.getElem?_append_left (by simp<;>omega),List.getElem?_set_ne (by omega),List.getElem?_append_left (by omega)];exact zmx
    ·simp only
     rw[List.getElem?_set_self (by simp<;>omega)]
    ·simp only
     rw[hnx]
     exact hnew.up λj hj=>List.getElem?_set_ne (by have:=hnew.lo j hj;omega)
 ·have hie:L.length<=i:=by simpa using hc
  have hfull:(dD os L).take i=dD os L:=List.take_of_length_le (by rw[dD,List.length_map];exact hie)
  rw[hfull] at hX
  have hszF:=zX hO
  have hMV:=sT G hG (dD os L) hszF
  simp-implicitDefEqProofs[g2]
  refine(VF.lend hMV (.agg (.one (hX.own.view 0 _ _ rfl rfl) .nil) .nil) rfl).mono ?_
  rintro _ Y ⟨rfl,eY⟩
  subst eY
  have hs0:∀o,(Y.set 0 o)[0]?=some o:=λo=>List.getElem?_set_self (by omega)
  obtain⟨c1,c2⟩:=lU hX.own
  cases hm:bn (dD os L) with
  |false=>
   simp-implicitDefEqProofs[ag,g0,hs0]
   exact⟨[.nils],[],rfl,.nils 3 .nil,List.nodup_nil⟩
  |true=>
   simp-implicitDefEqProofs[-AV.cells,-AV.isCell,jo,bL,co,jp,bK,c1,c2,ag,g0,g2,hs0]
   exact⟨[V],I,rfl,hX.own.frame λj hj=>List.getElem?_set_ne (by have:=hX.lo j hj;omega),hX.nd⟩
theorem yd(os:List Obj)(ho:ObsOk os)(w:List UInt8)(hw:w.length<=1048576):VF Tryz.prog G bN [.p (obL os),.p (.str w)] (.tup [.agg [.p (bc (jr os w).1)],.p (.int .i64 (jr os w).2)]):=
 AC.mkFreeze (w:=AJ (jr os w).2) (qs:=[_]) (vL _) (mg G hG hK os ho w hw)
end
section
theorem pI{α:Type}:∀{rows:List (List α)} {l:List α},rows.flatten=l->(∀e∈rows,e.length=1)->rows=l.map λx=>[x]
 |[],l,e,_=>by subst e;rfl
 |r::rs,l,e,h=>by
  subst e
  have h1:=h r (by simp)
  match r,h1 with
  |[x],_=>
   have ih:=pI (rows:=rs) rfl λe he=>h e (by simp[he])
   rw[List.flatten_cons,List.singleton_append,List.map_cons,←ih]
theorem px{α:Type}(f:α->PV)(hn:∀x sz y es,f x≠ .lst sz (y::es))(hn2:∀x sz,f x≠ .lst sz []){h:List AO}:∀{ps:List α} {vs:List AV} {J:List Nat},OwnL true h vs (ps.map f) J->vs=ps.map (λw=> .p (f w))/\J=[]
 |[],vs,J,H=>by
  cases H
  exact⟨rfl,rfl⟩
 |w::r,vs,J,H=>by
  rw[List.map_cons] at H
  generalize hq:f w=q at H
  cases H with
  |p _ _ H=>
   obtain⟨e1,e2⟩:=px f hn hn2 H
   exact⟨by rw[e1,List.map_cons,hq],e2⟩
  |nils sz H=>exact absurd hq (hn2 w sz)
  |sl id sz n rows es a1 a2 a3 a4 a5 a6 H=>
   cases es with
   |nil=>exact absurd hq (hn2 w sz)
   |cons y es=>exact absurd hq (hn w sz y es)
variable (G:az)
theorem JT(h:List AO)(v:AV)(I:List Nat)(ps:List Int)(k:Nat)(ho:OwnL true h [v] [aN ps] I)(nd:I.Nodup)(hk:k+ps.length<=1152921504606846976):
 AC Tryz.prog G eq [v,.p (.int .i64 k)] h (Mkd h v I (aN (rn k ps.length)) (.int .i64 ((k+ps.length:Nat):Int))):=by
 rcases ho.inv nd with⟨h0,rfl,rfl|rfl⟩|⟨h0,_⟩|⟨id,rows,J,rfl,rfl,hr⟩
 ·have hl0:ps=[]:=List.map_eq_nil_iff.1 h0
  subst hl0
  refine AC.go en ?_
  have hst:Mkd h .nils [] (aN (rn k 0)) (.int .i64 ((k+0:Nat):Int)) (.ret (.p (.int .i64 k))) h:=⟨rfl,.nils 1 .nil,λ_ _ _=>rfl,Nat.le_refl _⟩
  simp-implicitDefEqProofs[ef]
  refine aw (λ_:Unit=>aB 20 [(0,.nils),(1,.p (.int .i64 k)),(5,.p (.int .i64 0))]) (λ_=>h) (λ_=>True) (λ_=>0) () trivial (aA (Nat.le_refl _) (by simp[below])) ?_
  intro _ _
  simp-implicitDefEqProofs[]
  exact hst
 ·have hl0:ps=[]:=List.map_eq_nil_iff.1 h0
  subst hl0
  refine AC.go en ?_
  have hst:Mkd h (.p (.lst 1 [])) [] (aN (rn k 0)) (.int .i64 ((k+0:Nat):Int)) (.ret (.p (.int .i64 k))) h:=⟨rfl,.p _ (λ_=>rfl) .nil,λ_ _ _=>rfl,Nat.le_refl _⟩
  simp-implicitDefEqProofs[ef]
  refine aw (λ_:Unit=>aB 20 [(0,.p (.lst 1 [])),(1,.p (.int .i64 k)),(5,.p (.int .i64 0))]) (λ_=>h) (λ_=>True) (λ_=>0) () trivial (aA (Nat.le_refl _) (by simp[below])) ?_
  intro _ _
  simp-implicitDefEqProofs[]
  exact hst
 ·cases h0
 rw[List.length_map]
 have hown:=hr.own
 rw[fT] at hown
 obtain⟨e1,e2⟩:=px (PV.int .u8) (λ_ _ _ _ e=>by cases e) (λ_ _ e=>by cases e) hown
 subst e2
 have e3:=pI e1 hr.rl
 have hh:h[id]?=some (bV ps):=by rw[hr.here,e3,List.map_map];rfl
 refine(BU G hh hk).mono ?_
 rintro x h' ⟨rfl,rfl⟩
 have hid:id<h.length:=hr.lt
 refine⟨rfl,yQ (List.getElem?_set_self hid) (by simp[rn]),λj hj hn=>?_,by simp⟩
 simp at hn
 exact List.getElem?_set_ne λe=>hn e.symm
theorem Kg(h:List AO)(v:AV)(I:List Nat)(ps:List Int)(k:Nat)(ho:OwnL true h [v] [bk ps] I)(nd:I.Nodup)(hk:k+ps.length<=1152921504606846976):
 AC Tryz.prog G ff [v,.p (.int .i64 k)] h (Mkd h v I (bk (rk k ps.length)) (.int .i64 ((k+ps.length:Nat):Int))):=by
 rcases ho.inv nd with⟨h0,rfl,rfl|rfl⟩|⟨h0,_⟩|⟨id,rows,J,rfl,rfl,hr⟩
 ·have hl0:ps=[]:=List.map_eq_nil_iff.1 h0
  subst hl0
  refine AC.go fa ?_
  have hst:Mkd h .nils [] (bk (rk k 0)) (.int .i64 ((k+0:Nat):Int)) (.ret (.p (.int .i64 k))) h:=⟨rfl,.nils 1 .nil,λ_ _ _=>rfl,Nat.le_refl _⟩
  simp-implicitDefEqProofs[eX]
  refine aw (λ_:Unit=>aB 19 [(0,.nils),(1,.p (.int .i64 k)),(5,.p (.int .i64 0))]) (λ_=>h) (λ_=>True) (λ_=>0) () trivial (aA (Nat.le_refl _) (by simp[below])) ?_
  intro _ _
  simp-implicitDefEqProofs[]
  exact hst
 ·have hl0:ps=[]:=List.map_eq_nil_iff.1 h0
  subst hl0
  refine AC.go fa ?_
  have hst:Mkd h (.p (.lst 1 [])) [] (bk (rk k 0)) (.int .i64 ((k+0:Nat):Int)) (.ret (.p (.int .i64 k))) h:=⟨rfl,.p _ (λ_=>rfl) .nil,λ_ _ _=>rfl,Nat.le_refl _⟩
  simp-implicitDefEqProofs[eX]
  refine aw (λ_:Unit=>aB 19 [(0,.p (.lst 1 [])),(1,.p (.int .i64 k)),(5,.p (.int .i64 0))]) (λ_=>h) (λ_=>True) (λ_=>0) () trivial (aA (Nat.le_refl _) (by simp[below])) ?_
  intro _ _
  simp-implicitDefEqProofs[]
  exact hst
 ·cases h0
 rw[List.length_map]
 have hown:=hr.own
 rw[fT] at hown
 obtain⟨e1,e2⟩:=px (PV.int .i64) (λ_ _ _ _ e=>by cases e) (λ_ _ e=>by cases e) hown
 subst e2
 have e3:=pI e1 hr.rl
 have hh:h[id]?=some (gM ps):=by rw[hr.here,e3,List.map_map];rfl
 refine(Dn G hh hk).mono ?_
 rintro x h' ⟨rfl,rfl⟩
 have hid:id<h.length:=hr.lt
 refine⟨rfl,sg (List.getElem?_set_self hid) (by simp[rk]),λj hj hn=>?_,by simp⟩
 simp at hn
 exact List.getElem?_set_ne λe=>hn e.symm
theorem Kw(h:List AO)(v:AV)(I:List Nat)(ps:List (List UInt8))(k:Nat)(ho:OwnL true h [v] [aQ ps] I)(nd:I.Nodup)(hk:k+ps.length<=1152921504606846976):
 AC Tryz.prog G dq [v,.p (.int .i64 k)] h (Mkd h v I (aQ (rB k ps.length)) (.int .i64 ((k+ps.length:Nat):Int))):=by
 rcases ho.inv nd with⟨h0,rfl,rfl|rfl⟩|⟨h0,_⟩|⟨id,rows,J,rfl,rfl,hr⟩
 ·have hl0:ps=[]:=List.map_eq_nil_iff.1 h0
  subst hl0
  refine AC.go dr ?_
  have hst:Mkd h .nils [] (aQ (rB k 0)) (.int .i64 ((k+0:Nat):Int)) (.ret (.p (.int .i64 k))) h:=⟨rfl,.nils 1 .nil,λ_ _ _=>rfl,Nat.le_refl _⟩
  simp-implicitDefEqProofs[dz]
  refine aw (λ_:Unit=>aB 20 [(0,.nils),(1,.p (.int .i64 k)),(5,.p (.int .i64 0))]) (λ_=>h) (λ_=>True) (λ_=>0) () trivial (aA (Nat.le_refl _) (by simp[below])) ?_
  intro _ _
  simp-implicitDefEqProofs[]
  exact hst
 ·have hl0:ps=[]:=List.map_eq_nil_iff.1 h0
  subst hl0
  refine AC.go dr ?_
  have hst:Mkd h (.p (.lst 1 [])) [] (aQ (rB k 0)) (.int .i64 ((k+0:Nat):Int)) (.ret (.p (.int .i64 k))) h:=⟨rfl,.p _ (λ_=>rfl) .nil,λ_ _ _=>rfl,Nat.le_refl _⟩
  simp-implicitDefEqProofs[dz]
  refine aw (λ_:Unit=>aB 20 [(0,.p (.lst 1 [])),(1,.p (.int .i64 k)),(5,.p (.int .i64 0))]) (λ_=>h) (λ_=>True) (λ_=>0) () trivial (aA (Nat.le_refl _) (by simp[below])) ?_
  intro _ _
  simp-implicitDefEqProofs[]
  exact hst
 ·cases h0
 rw[List.length_map]
 have hown:=hr.own
 rw[fT] at hown
 obtain⟨e1,e2⟩:=px PV.str (λ_ _ _ _ e=>by cases e) (λ_ _ e=>by cases e) hown
 subst e2
 have e3:=pI e1 hr.rl
 have hh:h[id]?=some (fR ps):=by rw[hr.here,e3,List.map_map];rfl
 refine(yH G hh hk).mono ?_
 rintro x h' ⟨rfl,rfl⟩
 have hid:id<h.length:=hr.lt
 refine⟨rfl,yU (List.getElem?_set_self hid) (by simp[rB]),λj hj hn=>?_,by simp⟩
 simp at hn
 exact List.getElem?_set_ne λe=>hn e.symm
def obQ(o:Obj):Nat:=3+o.code.length+o.calls.length+o.names.length
def Jz(k:Nat)(o:Obj):Obj:=⟨jt k,((k+1:Nat):Int),((k+2:Nat):Int),rn (k+3) o.code.length,rk (k+3+o.code.length) o.calls.length,rB (k+3+o.code.length+o.calls.length) o.names.length⟩
def dY:List Obj->Nat
 |[]=>0
 |o::r=>obQ o+dY r
def nT(k:Nat):List Obj->List Obj
 |[]=>[]
 |o::r=>Jz k o::nT (k+obQ o) r
theorem uG:∀a b:List Obj,dY (a++b)=dY a+dY b
 |[],b=>by simp[dY]
 |s::r,b=>by rw[List.cons_append,dY,dY,uG r b];omega
theorem sh:∀(l:List Obj) (k:Nat),(nT k l).length=l.length
 |[],k=>rfl
 |e::r,k=>by rw[nT,List.length_cons,sh r,List.length_cons]
theorem BF:∀(l:List Obj) (k i:Nat) (e:Obj),l[i]?=some e->(nT k l)[i]?=some (Jz (k+dY (l.take i)) e)
 |x::r,k,0,e,h=>by cases h;rfl
 |x::r,k,i+1,e,h=>by
  have:=BF r (k+obQ x) i e h
  rw[nT,List.getElem?_cons_succ,this,List.take_succ_cons,dY]
  congr 2
  omega
theorem Fz{l:List Obj}{i:Nat}(h:i<l.length):dY (l.take (i+1))=dY (l.take i)+obQ l[i]:=by
 rw[aq h,uG];simp[dY]
theorem zG(l:List Obj)(i:Nat):dY (l.take i)<=dY l:=by
 have e:dY l=dY (l.take i)+dY (l.drop i):=by rw[←uG,List.take_append_drop]
 omega
theorem Ge{l:List Obj}{e:Obj}(h:e∈l):obQ e<=dY l:=by
 induction l with
 |nil=>cases h
 |cons x r ih=>
  rw[dY]
  rcases List.mem_cons.1 h with rfl|h
  ·omega
  ·have:=ih h;omega
theorem DE:∀l:List Obj,dY l<=3*mc l
 |[]=>by simp[dY]
 |o::r=>by
  have ih:=DE r
  have hszo:szO o=o.name.length+o.code.length+o.calls.length+szW o.names:=rfl
  have hwz:szW o.names=o.names.length+(o.names.map List.length).sum:=rfl
  have h1:mc (o::r)=mc r+1+szO o:=by
   show(r.length+1)+((o::r).map szO).sum=(r.length+(r.map szO).sum)+1+szO o
   rw[List.map_cons,List.sum_cons];omega
  have h2:dY (o::r)=obQ o+dY r:=rfl
  have h3:obQ o=3+o.code.length+o.calls.length+o.names.length:=rfl
  omega
theorem yF(l:List Obj)(h:List AO)(v:AV)(I:List Nat)(k:Nat)(ho:OwnL true h [v] [obL l] I)(nd:I.Nodup)(hk:k+dY l<=1152921504606846976)(hlen:l.length<=1048576):
 AC Tryz.prog G fj [v,.p (.int .i64 k)] h (Mkd h v I (obL (nT k l)) (.int .i64 ((k+dY l:Nat):Int))):=by
 rcases ho.inv nd with⟨h0,rfl,rfl|rfl⟩|⟨h0,_⟩|⟨id,rows,J,rfl,rfl,hr⟩
 ·have hl0:l=[]:=List.map_eq_nil_iff.1 h0
  subst hl0
  refine AC.go fq ?_
  have hst:Mkd h .nils [] (obL (nT k [])) (.int .i64 ((k+dY []:Nat):Int)) (.ret (.p (.int .i64 k))) h:=⟨rfl,.nils 6 .nil,λ_ _ _=>rfl,Nat.le_refl _⟩
  simp-implicitDefEqProofs[dw]
  refine aw (λ_:Unit=>aB 56 [(0,.nils),(1,.p (.int .i64 k)),(5,.p (.int .i64 0))]) (λ_=>h) (λ_=>True) (λ_=>0) () trivial (aA (Nat.le_refl _) (by simp[below])) ?_
  intro _ _
  simp-implicitDefEqProofs[]
  exact hst
 ·have hl0:l=[]:=List.map_eq_nil_iff.1 h0
  subst hl0
  refine AC.go fq ?_
  have hst:Mkd h (.p (.lst 6 [])) [] (obL (nT k [])) (.int .i64 ((k+dY []:Nat):Int)) (.ret (.p (.int .i64 k))) h:=⟨rfl,.p _ (λ_=>rfl) .nil,λ_ _ _=>rfl,Nat.le_refl _⟩
  simp-implicitDefEqProofs[dw]
  refine aw (λ_:Unit=>aB 56 [(0,(.p (.lst 6 []))),(1,.p (.int .i64 k)),(5,.p (.int .i64 0))]) (λ_=>h) (λ_=>True) (λ_=>0) () trivial (aA (Nat.le_refl _) (by simp[below])) ?_
  intro _ _
  simp-implicitDefEqProofs[]
  exact hst
 ·cases h0
 rw[List.length_map]
 refine AC.go fq ?_
 simp-implicitDefEqProofs[dw]
 refine aw (λa:FilS=>aB 56 [(0,.sl id 6 0 l.length),(1,.p (.int .i64 ((k+dY (l.take a.i):Nat):Int))),(5,.p (.int .i64 a.i))]) (λa=>a.h) (MkI h id 6 ((nT k l).map Obj.cs) (l.map Obj.cs) J) (λa=>l.length-a.i) ⟨0,h⟩ (MkI.init hr) ?_ ?_
 ·exact aA (Nat.le_refl _) (by simp[below,dY,hr.lt])
 rintro⟨i,hh⟩ hI
 simp-implicitDefEqProofs[]
 refine aR (λh1=>?_) (λh1=>?_)
 ·simp at h1
  have hg:=List.getElem?_eq_getElem h1
  have hP:=Fz h1
  have hM:=Ge (List.getElem_mem h1)
  have hT:=zG l (i+1)
  generalize l[i]=e at hg hP hM
  have hD:(l.map Obj.cs)[i]?=some e.cs:=by rw[List.getElem?_map,hg];rfl
  have hA:((nT k l).map Obj.cs)[i]?=some (Jz (k+dY (l.take i)) e).cs:=by rw[List.getElem?_map,BF l k i e hg];rfl
  obtain⟨rows',r,Ji,s1,s2,s3,s4,s5,s6,s7⟩:=hI.step hD hA
  obtain⟨A,B,E,I1,I2,I3,rfl,rfl,oA,oB,oE⟩:=Hf s3
  obtain⟨c1,c2⟩:=lU oA
  obtain⟨c3,c4⟩:=lU oB
  obtain⟨c5,c6⟩:=lU oE
  have q1:∀x,(hh.set id x)[id]?=some x:=λx=>List.getElem?_set_self s5
  have q2:∀x,(rows'.set i x)[i]?=some x:=λx=>List.getElem?_set_self s6
  rw[List.nodup_cons] at s4
  obtain⟨hnid,n123⟩:=s4
  simp only[List.mem_append,not_or] at hnid
  obtain⟨x1,x2,x3⟩:=hnid
  obtain⟨n1,n23,d123⟩:=List.nodup_append.1 n123
  obtain⟨n2,n3,d23⟩:=List.nodup_append.1 n23
  have hq3:obQ e=3+e.code.length+e.calls.length+e.names.length:=rfl
  have hmt:=uM G (k+dY (l.take i)) (by omega)
  generalize hkk:k+dY (l.take i)=kk at*
  have hkI:(k:Int)+(dY (l.take i):Int)=(kk:Int):=by omega
  have w0:IntKind.i64.wrap ((kk:Int)+1)=(kk:Int)+1:=aa (by omega) (by omega)
  have w2:IntKind.i64.wrap ((kk:Int)+1+1)=(kk:Int)+1+1:=aa (by omega) (by omega)
  have w3:IntKind.i64.wrap ((kk:Int)+1+1+1)=(kk:Int)+1+1+1:=aa (by omega) (by omega)
  have e3:((kk+3:Nat):Int)=(kk:Int)+1+1+1:=by omega
  have mA:=λh1 ho=>JT G h1 A I1 e.code (kk+3) ho n1 (by omega)
  have mB:=λh1 ho=>Kg G h1 B I2 e.calls (kk+3+e.code.length) ho n2 (by omega)
  have mE:=λh1 ho=>Kw G h1 E I3 e.names (kk+3+e.code.length+e.calls.length) ho n3 (by omega)
  rw[e3] at mA
  simp-implicitDefEqProofs[-AV.cells,-AV.isCell,jo,bL,co,jp,bK,c1,c2,c3,c4,c5,c6,s1,s2,q1,q2,hkI,w0,w2]
  refine hmt.use ?_
  simp-implicitDefEqProofs[-AV.cells,-AV.isCell,jo,bL,co,jp,bK,c1,c2,c3,c4,c5,c6,s1,s2,q1,q2,hkI,w0,w2,w3,h1]
  refine(mA _ (oA.set_out x1 _)).mono ?_
  rintro r h2 ⟨rfl,o2,f2,l2⟩
  rw[List.length_set] at f2 l2
  have g2:h2[id]?=some (.row 6 (rows'.set i [.p (.str (jt kk)),.p (.int .i64 ((kk:Int)+1)),.p (.int .i64 ((kk:Int)+1+1)),A,B,E])):=by rw[f2 id s5 x1,q1]
  simp-implicitDefEqProofs[-AV.cells,-AV.isCell,jo,bL,co,jp,bK,c1,c2,c3,c4,c5,c6,ag,g2,q2,h1]
  have oB2:OwnL true h2 [B] [bk e.calls] I2:=oB.frame λj hj=>by
   have hne:id≠j:=λe=>x2 (by rw[e];exact hj)
   rw[f2 j (oB.lt hj) (λhm=>d123 j hm j (List.mem_append_left _ hj) rfl),List.getElem?_set_ne hne]
  have eB:((kk+3+e.code.length:Nat):Int)=(kk:Int)+3+(e.code.length:Int):=by omega
  rw[eB] at mB
  refine(mB _ oB2).mono ?_
  rintro r h3 ⟨rfl,o3,f3,l3⟩
  have g3:h3[id]?=some (.row 6 (rows'.set i [.p (.str (jt kk)),.p (.int .i64 ((kk:Int)+1)),.p (.int .i64 ((kk:Int)+1+1)),A,B,E])):=by rw[f3 id (by omega) x2,g2]
  simp-implicitDefEqProofs[-AV.cells,-AV.isCell,jo,bL,co,jp,bK,c1,c2,c3,c4,c5,c6,ag,g3,q2,h1]
  have oE3:OwnL true h3 [E] [aQ e.names] I3:=oE.frame λj hj=>by
   have:=oE.lt hj
   have hne:id≠j:=λe=>x3 (by rw[e];exact hj)
   rw[f3 j (by omega) (λhm=>d23 j hm j hj rfl),f2 j this (λhm=>d123 j hm j (List.mem_append_right _ hj) rfl),List.getElem?_set_ne hne]
  have eE:((kk+3+e.code.length+e.calls.length:Nat):Int)=(kk:Int)+3+(e.code.length:Int)+(e.calls.length:Int):=by omega
  rw[eE] at mE
  refine(mE _ oE3).mono ?_
  rintro r h4 ⟨rfl,o4,f4,l4⟩
  have hid4:id<h4.length:=by omega
  have hwi:=w1 (i:=i) (by omega)
  have hkn:k+dY (l.take (i+1))=kk+3+e.code.length+e.calls.length+e.names.length:=by omega
  have oA4:OwnL true h4 [A] [aN (rn (kk+3) e.code.length)] I1:=o2.frame λj hj=>by
   have:=o2.lt hj
   rw[f4 j (by omega) (λhm=>d123 j hj j (List.mem_append_right _ hm) rfl),f3 j this (λhm=>d123 j hj j (List.mem_append_left _ hm) rfl)]
  have oB4:OwnL true h4 [B] [bk (rk (kk+3+e.code.length) e.calls.length)] I2:=o3.frame λj hj=>by
   have:=o3.lt hj
   rw[f4 j this (λhm=>d23 j hj j hm rfl)]
  have hgo:=s7 h4 [.p (.str (jt kk)),.p (.int .i64 ((kk:Int)+1)),.p (.int .i64 ((kk:Int)+1+1)),A,B,E] (by rw[f4 id (by omega) x3,g3]) (λj hj hn hm=>by
   simp only[List.mem_append,not_or] at hm
   rw[f4 j (by omega) hm.2.2,f3 j (by omega) hm.2.1,f2 j hj hm.1,List.getElem?_set_ne (λe=>hn e.symm)]) (by
   have e2:(kk:Int)+1+1=((kk+2:Nat):Int):=by omega
   rw[e2]
   exact GY (o:=Jz kk e) oA4 oB4 o4) (Obj.cs_len _) (by omega)
  simp-implicitDefEqProofs[ag]
  refine⟨⟨i+1,h4⟩,hgo,by simp only;omega,aA hgo.2.2.2 ?_⟩
  simp[below,hid4,hwi]
  omega
 ·simp at h1
  have hie:i=l.length:=by have:=hI.1;simp at this;omega
  obtain⟨⟨rows2,d1⟩,d2,d3⟩:=hI.done (by simpa using h1) (by simp[sh])
  subst hie
  rw[List.take_length]
  simp-implicitDefEqProofs[]
  refine⟨by simp,?_,d2,d3⟩
  have:=d1.tree (n:=l.length) (by simp[sh])
  exact this
end
section
variable (G:az)
theorem IU(h:List AO)(v:AV)(I:List Nat)(ins:List Mins)(k:Nat)(ho:OwnL true h [v] [bp ins] I)(nd:I.Nodup)(hk:k+5*ins.length<=1152921504606846976):
 AC Tryz.prog G eu [v,.p (.int .i64 k)] h (Mkd h v I (bp (mkI k ins.length)) (.int .i64 ((k+5*ins.length:Nat):Int))):=by
 by_cases hne:ins=[]
 ·subst hne
  rcases ho.inv nd with⟨h0,rfl,rfl|rfl⟩|⟨h0,_⟩|⟨id,rows,J,rfl,rfl,hr⟩
  ·refine AC.go cV ?_
   have hst:Mkd h .nils [] (bp (mkI k 0)) (.int .i64 ((k+5*0:Nat):Int)) (.ret (.p (.int .i64 k))) h:=⟨rfl,.nils 5 .nil,λ_ _ _=>rfl,Nat.le_refl _⟩
   simp-implicitDefEqProofs[dd]
   refine aw (λ_:Unit=>aB 48 [(0,.nils),(1,.p (.int .i64 k)),(5,.p (.int .i64 0))]) (λ_=>h) (λ_=>True) (λ_=>0) () trivial (aA (Nat.le_refl _) (by simp[below])) ?_
   intro _ _
   simp-implicitDefEqProofs[]
   exact hst
  ·refine AC.go cV ?_
   have hst:Mkd h (.p (.lst 5 [])) [] (bp (mkI k 0)) (.int .i64 ((k+5*0:Nat):Int)) (.ret (.p (.int .i64 k))) h:=⟨rfl,.p _ (λ_=>rfl) .nil,λ_ _ _=>rfl,Nat.le_refl _⟩
   simp-implicitDefEqProofs[dd]
   refine aw (λ_:Unit=>aB 48 [(0,.p (.lst 5 [])),(1,.p (.int .i64 k)),(5,.p (.int .i64 0))]) (λ_=>h) (λ_=>True) (λ_=>0) () trivial (aA (Nat.le_refl _) (by simp[below])) ?_
   intro _ _
   simp-implicitDefEqProofs[]
   exact hst
  ·cases h0
  ·refine AC.go cV ?_
   have hst:Mkd h (.sl id 5 0 0) (id::J) (bp (mkI k 0)) (.int .i64 ((k+5*0:Nat):Int)) (.ret (.p (.int .i64 k))) h:=⟨rfl,ho,λ_ _ _=>rfl,Nat.le_refl _⟩
   have hid:=hr.lt
   simp-implicitDefEqProofs[dd]
   refine aw (λ_:Unit=>aB 48 [(0,.sl id 5 0 0),(1,.p (.int .i64 k)),(5,.p (.int .i64 0))]) (λ_=>h) (λ_=>True) (λ_=>0) () trivial (aA (Nat.le_refl _) (by simp[below];omega)) ?_
   intro _ _
   simp-implicitDefEqProofs[]
   exact hst
 ·obtain⟨id,rfl,rfl,hrow⟩:=pR ho nd hne
  have hid:=(List.getElem?_eq_some_iff.1 hrow).1
  refine(Bz G hrow hk).mono ?_
  rintro x h' ⟨rfl,rfl⟩
  refine⟨rfl,gO (List.getElem?_set_self hid) (by simp[ln]),λj hj hn=>?_,by simp⟩
  simp at hn
  exact List.getElem?_set_ne λe=>hn e.symm
def CA(k:Nat)(fs:List Mfn)(i n:Nat):Mfn:=⟨(k:Int)+2*i+5*szT fs i,(k:Int)+2*i+5*szT fs i+1,mkI (k+2*i+5*szT fs i+2) n⟩
theorem Fm(k:Nat){fs:List Mfn}{i:Nat}(h:i<fs.length):(dR k fs fs.length)[i]?=some (CA k fs i fs[i].ins.length):=by
 simp[dR,List.getElem?_mapIdx,h,CA]
theorem Ky(fs:List Mfn)(h:List AO)(v:AV)(I:List Nat)(k:Nat)(ho:OwnL true h [v] [bc fs] I)(nd:I.Nodup)(hk:k+5*szF fs<=1152921504606846976)(hlen:fs.length<=1048576):
 AC Tryz.prog G io [v,.p (.int .i64 k)] h (Mkd h v I (bc (dR k fs fs.length)) (.int .i64 ((k+2*fs.length+5*szT fs fs.length:Nat):Int))):=by
 have hsz:szF fs=fs.length+(fs.map (·.ins.length)).sum:=rfl
 rcases ho.inv nd with⟨h0,rfl,rfl|rfl⟩|⟨h0,_⟩|⟨id,rows,J,rfl,rfl,hr⟩
 ·have hl0:fs=[]:=List.map_eq_nil_iff.1 h0
  subst hl0
  refine AC.go ic ?_
  have hst:Mkd h .nils [] (bc (dR k [] 0)) (.int .i64 ((k+2*0+5*szT [] 0:Nat):Int)) (.ret (.p (.int .i64 k))) h:=⟨rfl,.nils 3 .nil,λ_ _ _=>rfl,Nat.le_refl _⟩
  simp-implicitDefEqProofs[eW]
  refine aw (λ_:Unit=>aB 34 [(0,.nils),(1,.p (.int .i64 k)),(5,.p (.int .i64 0))]) (λ_=>h) (λ_=>True) (λ_=>0) () trivial (aA (Nat.le_refl _) (by simp[below])) ?_
  intro _ _
  simp-implicitDefEqProofs[]
  exact hst
 ·have hl0:fs=[]:=List.map_eq_nil_iff.1 h0
  subst hl0
  refine AC.go ic ?_
  have hst:Mkd h (.p (.lst 3 [])) [] (bc (dR k [] 0)) (.int .i64 ((k+2*0+5*szT [] 0:Nat):Int)) (.ret (.p (.int .i64 k))) h:=⟨rfl,.p _ (λ_=>rfl) .nil,λ_ _ _=>rfl,Nat.le_refl _⟩
  simp-implicitDefEqProofs[eW]
  refine aw (λ_:Unit=>aB 34 [(0,(.p (.lst 3 []))),(1,.p (.int .i64 k)),(5,.p (.int .i64 0))]) (λ_=>h) (λ_=>True) (λ_=>0) () trivial (aA (Nat.le_refl _) (by simp[below])) ?_
  intro _ _
  simp-implicitDefEqProofs[]
  exact hst
 ·cases h0
 rw[List.length_map]
 refine AC.go ic ?_
 simp-implicitDefEqProofs[eW]
 refine aw (λa:FilS=>aB 34 [(0,.sl id 3 0 fs.length),(1,.p (.int .i64 ((k+2*a.i+5*szT fs a.i:Nat):Int))),(5,.p (.int .i64 a.i))]) (λa=>a.h) (MkI h id 3 ((dR k fs fs.length).map Mfn.cs) (fs.map Mfn.cs) J) (λa=>fs.length-a.i) ⟨0,h⟩ (MkI.init hr) ?_ ?_
 ·exact aA (Nat.le_refl _) (by simp[below,hr.lt])
 rintro⟨i,hh⟩ hI
 simp-implicitDefEqProofs[]
 refine aR (λh1=>?_) (λh1=>?_)
 ·simp at h1
  have hg:=List.getElem?_eq_getElem h1
  have hP:=mi h1
  have hT:=pp (fs:=fs) (i:=i+1)
  have hma:=Fm k h1
  generalize fs[i]=e at hg hP hma
  have hD:(fs.map Mfn.cs)[i]?=some e.cs:=by rw[List.getElem?_map,hg];rfl
  have hA:((dR k fs fs.length).map Mfn.cs)[i]?=some (CA k fs i e.ins.length).cs:=by rw[List.getElem?_map,hma];rfl
  obtain⟨rows',r,Ji,s1,s2,s3,s4,s5,s6,s7⟩:=hI.step hD hA
  obtain⟨A,rfl,oA⟩:=ue s3
  obtain⟨c1,c2⟩:=lU oA
  have q1:∀x,(hh.set id x)[id]?=some x:=λx=>List.getElem?_set_self s5
  have q2:∀x,(rows'.set i x)[i]?=some x:=λx=>List.getElem?_set_self s6
  rw[List.nodup_cons] at s4
  obtain⟨x1,n1⟩:=s4
  have hmk:(CA k fs i e.ins.length).params=((k+2*i+5*szT fs i:Nat):Int)/\(CA k fs i e.ins.length).slots=((k+2*i+5*szT fs i:Nat):Int)+1/\(CA k fs i e.ins.length).ins=mkI (k+2*i+5*szT fs i+2) e.ins.length:=by
   refine⟨?_,?_,rfl⟩<;>simp only[CA]<;>omega
  generalize hkk:k+2*i+5*szT fs i=kk at*
  have hkI:(k:Int)+2*(i:Int)+5*(szT fs i:Int)=(kk:Int):=by omega
  have w0:IntKind.i64.wrap ((kk:Int)+1)=(kk:Int)+1:=aa (by omega) (by omega)
  have w2:IntKind.i64.wrap ((kk:Int)+1+1)=(kk:Int)+1+1:=aa (by omega) (by omega)
  have e2:((kk+2:Nat):Int)=(kk:Int)+1+1:=by omega
  have mA:=λh1 ho=>IU G h1 A Ji e.ins (kk+2) ho n1 (by omega)
  rw[e2] at mA
  simp-implicitDefEqProofs[-AV.cells,-AV.isCell,jo,bL,co,jp,bK,c1,c2,s1,s2,q1,q2,hkI,w0,w2,h1]
  refine(mA _ (oA.set_out x1 _)).mono ?_
  rintro r h2 ⟨rfl,o2,f2,l2⟩
  rw[List.length_set] at f2 l2
  have g2:h2[id]?=some (.row 3 (rows'.set i [.p (.int .i64 (kk:Int)),.p (.int .i64 ((kk:Int)+1)),A])):=by rw[f2 id s5 x1,q1]
  have hid2:id<h2.length:=by omega
  have hwi:=w1 (i:=i) (by omega)
  have hkn:k+2*(i+1)+5*szT fs (i+1)=kk+2+5*e.ins.length:=by omega
  have hgo:=s7 h2 [.p (.int .i64 (kk:Int)),.p (.int .i64 ((kk:Int)+1)),A] g2 (λj hj hn hm=>by rw[f2 j hj hm,List.getElem?_set_ne (λe=>hn e.symm)]) (by
   rw[←hmk.2.1,←hmk.1]
   rw[←hmk.2.2] at o2
   exact jE o2) (Mfn.cs_len _) (by omega)
  simp-implicitDefEqProofs[ag]
  refine⟨⟨i+1,h2⟩,hgo,by simp only;omega,aA hgo.2.2.2 ?_⟩
  simp[below,hid2,hwi]
  omega
 ·simp at h1
  have hie:i=fs.length:=by have:=hI.1;simp at this;omega
  obtain⟨⟨rows2,d1⟩,d2,d3⟩:=hI.done (by simpa using h1) (by simp[pa])
  subst hie
  simp-implicitDefEqProofs[]
  refine⟨by simp,?_,d2,d3⟩
  have:=d1.tree (n:=fs.length) (by simp[pa])
  exact this
theorem IH(fs:List Mfn)(h:List AO)(v:AV)(I:List Nat)(k:Nat)(ho:OwnL true h [v] [bc fs] I)(nd:I.Nodup)(hk:k+5*szF fs<=1152921504606846976)(hlen:fs.length<=1048576):
 AC Tryz.prog G hE [.agg [v],.p (.int .i64 k)] h (Mkd h v I (bc (dR k fs fs.length)) (.int .i64 ((k+2*fs.length+5*szT fs fs.length:Nat):Int))):=by
 refine AC.go tC ?_
 obtain⟨c1,c2⟩:=lU ho
 have mM:=λh1 ho=>Ky G fs h1 v I k ho nd hk hlen
 have hql:∀x t,(h++x::t)[h.length]?=some x:=λx t=>by rw[List.getElem?_append_right (Nat.le_refl _),Nat.sub_self];rfl
 simp-implicitDefEqProofs[-AV.cells,-AV.isCell,jo,bL,co,jp,bK,c1,c2,lF,hql]
 refine(mM _ (ho.more _)).mono ?_
 rintro r h2 ⟨rfl,o2,f2,l2⟩
 simp-implicitDefEqProofs[ag]
 refine⟨by simp,o2,λj hj hn=>?_,by simp at l2;omega⟩
 rw[f2 j (by simp;omega) hn,List.getElem?_append_left hj]
end
section
theorem Is(os:List Obj)(w:List UInt8):szF (jr os w).1<=1048576:=by
 unfold jr
 split
 ·rename_i h
  split
  ·exact zX (Cw h)
  ·simp[szF]
 ·simp[szF]
variable (G:az)
variable (hG:G bW=some pvForms) (hK:G ig=some gB)
include hG hK
theorem tr(os:List Obj)(hb:os.length<=9223372036854775807)(hsm:∀o∈os,ObjSm o)(w:List UInt8)(hwb:w.length<=9223372036854775807):VF Tryz.prog G eC [.p (obL os),.p (.str w)] (.p (.bool true)):=by
 refine AC.go jn ?_
 have hsz':=AB G os hb hsm
 by_cases hw:w.length<=1048576
 case neg=>
  have h1:(1048576:Int)<(w.length:Int):=by omega
  simp-implicitDefEqProofs[cq,h1]
 have h1:¬(1048576:Int)<(w.length:Int):=by omega
 simp-implicitDefEqProofs[cq,h1]
 refine hsz'.use ?_
 by_cases hz:mc os<=1048576
 case neg=>
  simp-implicitDefEqProofs[hz]
 have hsz:mc os=os.length+(os.map szO).sum:=rfl
 have ho:ObsOk os:=⟨hsm,λo h=>by have:=zR h;omega,by omega⟩
 have hto:=IF G os hz
 have hnn:¬((1048576-mc os:Nat):Int)<0:=by omega
 have hot:=λh:List AO=>AC.mkLift zN (Ej G os hz) (h:=h) (by simp)
 have hlen:=Is os w
 have hsp:=yG G os ho w hw
 have hic:=mg G hG hK os ho w hw
 have htc:=yd G hG hK os ho w hw
 generalize (jr os w).1=fs at*
 generalize (jr os w).2=c at*
 have hszf:szF fs=fs.length+(fs.map (·.ins.length)).sum:=rfl
 have hszT:=pp (fs:=fs) (i:=fs.length)
 have hin:∀(h:List AO) (v:AV) (I:List Nat),OwnL true h [v] [obL os] I->AC Tryz.prog G bN [v,.p (.str w)] h (Mk (AJ c) true [bc fs] h):=λh v I ho=>AC.mkLend (vL c) hic (.one (ho.view 0 _ _ rfl rfl) (.keep (by simp[below]) .nil))
 simp-implicitDefEqProofs[hz,hnn]
 refine hto.use ?_
 simp-implicitDefEqProofs[]
 refine hsp.use ?_
 simp-implicitDefEqProofs[]
 refine(hot _).mono ?_
 rintro x h2 ⟨vs,I,os2,rfl,e2,hown,nd,hf⟩
 obtain⟨v,rfl⟩:=oW hown
 obtain⟨c1,c2⟩:=lU hown
 have hb2:h2[0]?=some (.row 1 [[.p (bc fs)]]):=by rw[e2];rfl
 simp-implicitDefEqProofs[-AV.cells,-AV.isCell,jo,bL,co,jp,bK,c1,c2,ag,lZ]
 refine(hin _ v I hown).mono ?_
 rintro x h3 ⟨vs6,I6,os6,rfl,e3,ho6,nd6,hf6⟩
 obtain⟨v6,rfl⟩:=oW ho6
 obtain⟨c3,c4⟩:=lU ho6
 have ho3:OwnL true h3 [v] [obL os] I:=by rw[e3];exact hown.more _
 have h2l:=(List.getElem?_eq_some_iff.1 hb2).1
 have hl3:h2.length<=h3.length:=by rw[e3];simp
 have hb0:h3[0]?=some (.row 1 [[.p (bc fs)]]):=by rw[e3,List.getElem?_append_left h2l];exact hb2
 obtain⟨H,hH⟩:∃H:List AO,H=h3++[AO.row 1 [[v6]]]:=⟨_,rfl⟩
 obtain⟨q,hq⟩:∃q,q=h3.length:=⟨_,rfl⟩
 have hHl:H.length=q+1:=by rw[hH,hq];simp
 have hH0:H[0]?=some (.row 1 [[.p (bc fs)]]):=by rw[hH,List.getElem?_append_left (by omega)];exact hb0
 have hHq:H[q]?=some (.row 1 [[v6]]):=by rw[hH,hq,List.getElem?_append_right (Nat.le_refl _),Nat.sub_self];rfl
 have hoH:OwnL true H [v] [obL os] I:=by rw[hH];exact ho3.more _
 have ho6H:OwnL true H [v6] [bc fs] I6:=by rw[hH];exact ho6.more _
 have hI6:∀i∈I6,h2.length<=i/\i<q:=λi hi=>⟨hf6 i hi,by rw[hq];exact ho6.lt hi⟩
 have hI:∀i∈I,1<=i/\i<h2.length:=λi hi=>⟨by have:=hf i hi;simpa using this,hown.lt hi⟩
 have heq:=FR G fs fs (by omega)
 have hdl:=λh v6 I6 (ho6:OwnL true h [v6] [bc fs] I6)=>heq.lend (h:=h) (args:=[.agg [v6],.agg [.p (bc fs)]]) (.agg ho6.views (.keep (by simp[below]) .nil)) rfl
 simp-implicitDefEqProofs[-AV.cells,-AV.isCell,jo,bL,co,jp,bK,c1,c2,c3,c4,ag,AJ,←hH,←hq,hH0,hHq]
 refine(hdl _ v6 I6 ho6H).mono ?_
 rintro x H1 ⟨rfl,eH⟩
 subst eH
 simp-implicitDefEqProofs[-AV.cells,-AV.isCell,jo,bL,co,jp,bK,c1,c2,c3,c4,ag,hH0,hHq]
 refine hto.use ?_
 simp-implicitDefEqProofs[-AV.cells,-AV.isCell,jo,bL,co,jp,bK,c1,c2,c3,c4,ag,hH0,hHq]
 have hep:=λh v I (ho:OwnL true h [v] [obL os] I)=>(Jf G os hz).lend (h:=h) (args:=[v,.p (obL os)]) (.one (ho.view 0 _ _ rfl rfl) (.keep (by simp[below]) .nil)) rfl
 refine(hep _ v I hoH).mono ?_
 rintro x H2 ⟨rfl,eH⟩
 subst eH
 simp-implicitDefEqProofs[-AV.cells,-AV.isCell,jo,bL,co,jp,bK,c1,c2,c3,c4,ag,hH0,hHq]
 have hQ:=DE os
 refine(yF G os _ v I 1 hoH nd (by omega) (by omega)).mono ?_
 rintro x H3 ⟨rfl,o7,f7,l7⟩
 have hnn7:¬(1:Int)+(dY os:Int)<0:=by omega
 have ho7:OwnL true H3 [v6] [bc fs] I6:=ho6H.frame λi hi=>f7 i (ho6H.lt hi) λhm=>by have:=hI6 i hi;have:=hI i hm;omega
 have h30:H3[0]?=some (.row 1 [[.p (bc fs)]]):=by rw[f7 0 (by omega) λhm=>by have:=hI 0 hm;omega];exact hH0
 have h3q:H3[q]?=some (.row 1 [[v6]]):=by rw[f7 q (by omega) λhm=>by have:=hI q hm;omega];exact hHq
 simp-implicitDefEqProofs[-AV.cells,-AV.isCell,jo,bL,co,jp,bK,c1,c2,c3,c4,ag,hnn7,h30,h3q]
 refine(hdl _ v6 I6 ho7).mono ?_
 rintro x H4 ⟨rfl,eH⟩
 subst eH
 simp-implicitDefEqProofs[-AV.cells,-AV.isCell,jo,bL,co,jp,bK,c1,c2,c3,c4,ag,h30,h3q]
 refine(IH G fs _ v6 I6 1 ho7 nd6 (by omega) (by omega)).mono ?_
 rintro x H5 ⟨rfl,o9,f9,l9⟩
 have h50:H5[0]?=some (.row 1 [[.p (bc fs)]]):=by rw[f9 0 (by omega) λhm=>by have:=hI6 0 hm;omega];exact h30
 have h5q:H5[q]?=some (.row 1 [[v6]]):=by rw[f9 q (by omega) λhm=>by have:=hI6 q hm;omega];exact h3q
 have hhe:=λh v6 I6 (ho6:OwnL true h [v6] [bc (dR 1 fs fs.length)] I6)=>(Cg G 1 fs (by omega)).lend (h:=h) (args:=[.agg [v6],.p (.int .i64 1)]) (.agg ho6.views (.keep (by simp[below]) .nil)) rfl
 have hnn9:¬(1:Int)+2*(fs.length:Int)+5*(szT fs fs.length:Int)<0:=by omega
 simp-implicitDefEqProofs[-AV.cells,-AV.isCell,jo,bL,co,jp,bK,c1,c2,c3,c4,ag,h50,h5q]
 refine(hhe _ v6 I6 o9).mono ?_
 rintro x H6 ⟨rfl,eH⟩
 subst eH
 simp-implicitDefEqProofs[-AV.cells,-AV.isCell,jo,bL,co,jp,bK,c1,c2,c3,c4,ag,h50,h5q,hnn9]
 refine hto.use ?_
 simp-implicitDefEqProofs[]
 refine htc.use ?_
 have k0:∀t,(H6++t)[0]?=some (.row 1 [[.p (bc fs)]]):=λt=>by rw[List.getElem?_append_left (by omega)];exact h50
 have kq:∀t,(H6++t)[q]?=some (.row 1 [[v6]]):=λt=>by rw[List.getElem?_append_left (by omega)];exact h5q
 have k0e:=λt hh=>rT (k0 t) hh
 have kqe:=λt hh=>rT (kq t) hh
 simp-implicitDefEqProofs[-AV.cells,-AV.isCell,jo,bL,co,jp,bK,c1,c2,c3,c4,ag,k0,kq,k0e,kqe]
 refine heq.use ?_
 simp-implicitDefEqProofs[-AV.cells,-AV.isCell,jo,bL,co,jp,bK,c1,c2,c3,c4,ag,k0,kq,k0e,kqe]
 refine(hhe _ v6 I6 (o9.more _)).mono ?_
 rintro x H7 ⟨rfl,eH⟩
 subst eH
 simp-implicitDefEqProofs[-AV.cells,-AV.isCell,jo,bL,co,jp,bK,c1,c2,c3,c4,ag,k0,kq,hnn9]
end
end Go.Proofs.YtbnajafpkeficaaGreatDoor
namespace Go.Proofs.YtbnajafpkeficaaGreatDoor
open Go Go.Aw Go.ChangeShapes Go.WideShapes Go.ChangeAt Go.RowKit
set_option maxRecDepth 100000
abbrev BG:TypeId:=45
abbrev Hi:TypeId:=22
abbrev Ee:TypeId:=9
abbrev BW:TypeId:=3
abbrev zP:TypeId:=42
abbrev CY:TypeId:=5
abbrev De:TypeId:=24
abbrev CR:TypeId:=43
abbrev Dw:TypeId:=87
abbrev zH:TypeId:=140
abbrev KE:TypeId:=124
abbrev Kx:TypeId:=4
theorem Lz:Kids Tryz.prog (· <Tryz.prog.types.size):=kids_rows (by kernel_rfl) (by kernel_rfl)
theorem My:∀t e,t<Tryz.prog.types.size->Tryz.prog.underlying t=some (.slice e)->0<Tryz.prog.cellsOf e:=slices_full_of Tryz.prog (by kernel_rfl)
def GN:List TypeId:=[BG,Hi,Ee,BW,zP,CY,De,CR,Dw,zH,KE,Kx]
theorem Dz:Plain Tryz.prog GN=true:=by kernel_rfl
theorem Oc:ownKnob Tryz.prog.godebug=none:=by kernel_rfl
def G0:az:=λg=>if g=ig then some gB else if g=bW then some pvForms else none
theorem JX:∀k,gS Tryz.prog (k+10) Dw (Rows.laid_loop_example_wholeway_impl_keys (H:=Unit))=gB:=λk=>by kernel_rfl
theorem Ii:∀k,gS Tryz.prog (k+10) zH (Rows.laid_loop_example_wholeway_impl_forms (H:=Unit))=pvForms:=λk=>by kernel_rfl
theorem NJ{W:World}{laid:List (String × DataW Unit)}(hL:laidMet Tryz.prog laid W)(h1:("loop.example/wholeway/impl.keys",Rows.laid_loop_example_wholeway_impl_keys)∈laid)(h2:("loop.example/wholeway/impl.forms",Rows.laid_loop_example_wholeway_impl_forms)∈laid):
 ∀g cs,G0 g=some cs->g<W.heap.size/\∀(j:Nat) (c:PV),cs[j]?=some c->∃v,W.cell? ⟨g,j,none⟩=some v/\PRel W (· <W.heap.size) c v:=by
 intro g cs h
 unfold G0 at h
 split at h
 ·rename_i e;subst e;cases h
  exact zb Dz hL (n:= "loop.example/wholeway/impl.keys") (d:=Rows.laid_loop_example_wholeway_impl_keys) (t:=Dw) h1 (by kernel_rfl) (by kernel_rfl) (by decide) JX
 ·split at h
  ·rename_i e;subst e;cases h
   exact zb Dz hL (n:= "loop.example/wholeway/impl.forms") (d:=Rows.laid_loop_example_wholeway_impl_forms) (t:=zH) h2 (by kernel_rfl) (by kernel_rfl) (by decide) Ii
  ·cases h
theorem vZ{H:Type}:∀l:List (DataW H),Rows.uptoBulkAll l=(l.map Rows.uptoBulk).sum
 |[]=>by simp[Rows.uptoBulkAll]
 |d::r=>by simp[Rows.uptoBulkAll,vZ r]
theorem Jp{H:Type}:BulkOk (Rows.uptoBulk (H:=H)) where
 lit:=λl=>by cases l<;>simp[Rows.uptoBulk]
 str:=λs=>by simp[Rows.uptoBulk]
 nil:=by simp[Rows.uptoBulk]
 slice:=λes sp=>by simp only[Rows.uptoBulk,vZ];omega
 agg:=λps=>by simp only[Rows.uptoBulk,vZ];omega
theorem rc{t e:TypeId}{vs:List PV}(h:Conf Tryz.prog t vs)(hu:Tryz.prog.underlying t=some (.slice e)):∃es,vs=[.lst (Tryz.prog.cellsOf e) es]/\es.length<=9223372036854775807/\∀x∈es,Conf Tryz.prog e x:=by
 cases h with
 |sl es e' hl hs=>rw[hu] at e';cases e';exact⟨es,rfl,hl,hs⟩
 |bool b e=>rw[e] at hu;cases hu
 |int n e=>rw[e] at hu;cases hu
 |str s e=>rw[e] at hu;cases hu
 |st vs e=>rw[e] at hu;cases hu
 |arr vs e=>rw[e] at hu;cases hu
theorem Cy{vs:List PV}(h:Conf Tryz.prog zP vs):∃l:List Int,vs=[aN l]/\l.length<=9223372036854775807/\bJ l:=by
 obtain⟨es,rfl,hl,h4⟩:=rc h (e:=CY) (by kernel_rfl)
 have hk:∀x∈es,∃n:Int,x=[PV.int .u8 n]/\(Lit.int .u8 n).wf=true:=λx hx=>pA (h4 x hx) (by kernel_rfl)
 obtain⟨l,rfl⟩:=tY (λn:Int=>[PV.int .u8 n]) (λx hx=>by obtain⟨n,e,_⟩:=hk x hx;exact⟨n,e⟩)
 rw[show Tryz.prog.cellsOf CY=1 by kernel_rfl]
 refine⟨l,rfl,by rwa[List.length_map] at hl,λn hn=>?_⟩
 obtain⟨m,e,hw⟩:=hk [PV.int .u8 n] (List.mem_map.2 ⟨n,hn,rfl⟩)
 cases e
 simp[Lit.wf,IntKind.min,IntKind.max,IntKind.bits,IntKind.signed] at hw
 omega
theorem EM{vs:List PV}(h:Conf Tryz.prog De vs):∃l:List Int,vs=[bk l]/\l.length<=9223372036854775807:=by
 obtain⟨es,rfl,hl,h4⟩:=rc h (e:=BW) (by kernel_rfl)
 have hk:∀x∈es,∃n:Int,x=[PV.int .i64 n]/\(Lit.int .i64 n).wf=true:=λx hx=>pA (h4 x hx) (by kernel_rfl)
 obtain⟨l,rfl⟩:=tY (λn:Int=>[PV.int .i64 n]) (λx hx=>by obtain⟨n,e,_⟩:=hk x hx;exact⟨n,e⟩)
 rw[show Tryz.prog.cellsOf BW=1 by kernel_rfl]
 exact⟨l,rfl,by rwa[List.length_map] at hl⟩
theorem Fj{vs:List PV}(h:Conf Tryz.prog CR vs):∃l:List (List UInt8),vs=[aQ l]/\l.length<=9223372036854775807/\∀x∈l,x.length<=9223372036854775807:=by
 obtain⟨es,rfl,hl,h4⟩:=rc h (e:=Ee) (by kernel_rfl)
 have hk:∀x∈es,∃s:List UInt8,x=[PV.str s]/\s.length<=maxLen:=λx hx=>vh (h4 x hx) (by kernel_rfl)
 obtain⟨l,rfl⟩:=tY (λs:List UInt8=>[PV.str s]) (λx hx=>by obtain⟨n,e,_⟩:=hk x hx;exact⟨n,e⟩)
 rw[show Tryz.prog.cellsOf Ee=1 by kernel_rfl]
 refine⟨l,rfl,by rwa[List.length_map] at hl,λs hs=>?_⟩
 obtain⟨m,e,hw⟩:=hk [PV.str s] (List.mem_map.2 ⟨s,hs,rfl⟩)
 cases e
 exact hw
theorem FS{vs:List PV}(h:Conf Tryz.prog BG vs):∃o:Obj,vs=o.cs/\ObjSm o:=by
 have h:=Jo (ts:=[Ee,BW,BW,zP,De,CR]) h (by kernel_rfl)
 obtain⟨a,r,rfl,h1,h⟩:=gn h
 obtain⟨b,r,rfl,h2,h⟩:=gn h
 obtain⟨c,r,rfl,h3,h⟩:=gn h
 obtain⟨d,r,rfl,h4,h⟩:=gn h
 obtain⟨e,r,rfl,h5,h⟩:=gn h
 obtain⟨f,r,rfl,h6,h⟩:=gn h
 cases Ex h
 obtain⟨s,rfl,l1⟩:=vh h1 (by kernel_rfl)
 obtain⟨n1,rfl,_⟩:=pA h2 (k:= .i64) (by kernel_rfl)
 obtain⟨n2,rfl,_⟩:=pA h3 (k:= .i64) (by kernel_rfl)
 obtain⟨bs,rfl,l4,b4⟩:=Cy h4
 obtain⟨ns,rfl,l5⟩:=EM h5
 obtain⟨ws,rfl,l6,w6⟩:=Fj h6
 exact⟨⟨s,n1,n2,bs,ns,ws⟩,rfl,⟨l1,l4,l5,l6,w6,b4⟩⟩
theorem BC{α β:Type}(g:β->α)(p:β->Prop):∀{es:List α},(∀x∈es,∃m,x=g m/\p m)->∃ms:List β,es=ms.map g/\∀m∈ms,p m
 |[],_=>⟨[],rfl,λm hm=>by cases hm⟩
 |e::r,h=>by
  obtain⟨m,hm,hp⟩:=h e (by simp)
  obtain⟨ms,hms,hps⟩:=BC g p (es:=r) λx hx=>h x (by simp[hx])
  exact⟨m::ms,by simp[hm,hms],λx hx=>by
   rcases List.mem_cons.1 hx with rfl|hx
   ·exact hp
   ·exact hps x hx⟩
theorem Gx{vs:List PV}(h:Conf Tryz.prog Hi vs):∃os:List Obj,vs=[obL os]/\os.length<=9223372036854775807/\∀o∈os,ObjSm o:=by
 obtain⟨es,rfl,hl,h4⟩:=rc h (e:=BG) (by kernel_rfl)
 obtain⟨os,rfl,hp⟩:=BC Obj.cs ObjSm λx hx=>FS (h4 x hx)
 rw[show Tryz.prog.cellsOf BG=6 by kernel_rfl]
 exact⟨os,rfl,by rwa[List.length_map] at hl,hp⟩
end Go.Proofs.YtbnajafpkeficaaGreatDoor
