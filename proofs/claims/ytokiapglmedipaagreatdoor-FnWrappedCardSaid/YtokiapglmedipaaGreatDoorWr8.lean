/-
  Contracts and lemmas that the card needs, part 8.
-/
import Derived.Test.YtokiapglmedipaaGreatDoorWr7
namespace Go.Proofs.YtokiapglmedipaaGreatDoor
open Go Go.Aw
set_option maxRecDepth 100000
set_option maxHeartbeats 4000000
section
variable (G:al)
theorem MF{s:Bool}{b:List Int}{q:Nat}{T:List AO}{vs:List AV}{qs:List PV}{I:List Nat}(H:OwnL s (rdO b q::T) vs qs I)(hI:∀i∈I,1<=i)(o:AO):OwnL s (o::T) vs qs I:=
 H.frame λi hi=>by
  have:=hI i hi
  obtain⟨k,rfl⟩:∃k,i=k+1:=⟨i-1,by omega⟩
  rfl
theorem Lg{b:List Int}{p q:Nat}{T:List AO}{v:AV}{l:List Fd}{I:List Nat}(H:OwnL true (rdO b q::T) [v] [fdL l] I)(hI:∀i∈I,1<=i)(hz:aH l<=900000000)(h1:p<=q)(h2:q<=p+400500000):DP b (PgQ p 900000000 400500000) (.ret (.agg [v])) (rdO b q::T):=
 ⟨_,T,q,.agg [.p (fdL l)],rfl,rfl,.agg (.one ((MF H hI .dead).view 0 v _ rfl rfl) .nil) .nil,⟨l,rfl,hz⟩,h1,h2⟩
theorem Kr{l:List Sm}{k:Nat}{s0:Sm}(s:Sm)(h:l[k]?=some s0):aC (l.set k s)+s0.sz=aC l+s.sz:=by
 obtain⟨hk,h⟩:=Vx.1 h
 subst h
 ·rw[fM s hk,bC]
  have e:l=l.take k++l.drop k:=(Wu _ _).symm
  have h1:aC l=aC (l.take k)+aC (l.drop k):=by rw[←bC,←e]
  have h4:aC (l.drop k)=l[k].sz+aC (l.drop (k+1)):=by rw[Wz hk];rfl
  simp only[aC]
  omega
theorem MG(l:List Ex)(k:Nat)(s:Ex):aX (l.set k s)<=aX l+s.sz:=by
 by_cases hk:k<l.length
 ·rw[fM s hk,eM]
  have e:l=l.take k++l.drop k:=(Wu _ _).symm
  have h1:aX l=aX (l.take k)+aX (l.drop k):=by rw[←eM,←e]
  have h4:aX (l.drop k)=l[k].sz+aX (l.drop (k+1)):=by rw[Wz hk];rfl
  simp only[aX]
  omega
 ·rw[List.set_eq_of_length_le (by omega)];omega
theorem mX{α:Type}{l:List α}{k:Nat}{x:α}(h:l[k]?=some x):l.set k x=l:=by
 apply List.ext_getElem?
 intro i
 by_cases hi:k=i
 ·subst hi;rw[VC (Vx.1 h).1,h]
 ·rw[Vy hi]
theorem Er{h:List AO}{id sz n m:Nat}{es:List (List PV)}(H:View h (.sl id sz 0 n) (.lst sz es))(hm:m<=es.length):View h (.sl id sz 0 m) (.lst sz (es.take m)):=by
 cases H with
 |sl _ _ _ rows _ e1 e2 e3 e4=>
  have hl:(es.take m).length=m:=by rw[Wb];omega
  have:=View.sl id sz 0 rows (es.take m) e1 (by omega) (λe he=>e3 e (Wr he)) (λi j e q e' a a1 a2 a3 a4=>by
   have hi:i<m:=by have:=(Vx.1 a1).1;omega
   rw[List.getElem?_take_of_lt hi] at a1
   exact e4 i j e q e' a a1 a2 a3 a4)
  rwa[hl] at this
theorem KY{b:List Int}(hb:Byt b)(hl:b.length<=2000){p:Nat}(hp:p<=5000000000):AC Tryz.prog G mI [.ptr 0 2 0 0] [rdO b p] λx h=>∃v q,x= .ret v/\h=[rdO b q]/\PgQ p 900000000 400500000 v q:=by
 refine lM G (AC.go BL ?_)
 have hprog:AC Tryz.prog G dm [.ptr 0 2 0 0] [rdO b p] λx h=>∃v q,x= .ret v/\h=[rdO b q]/\((∃l:List Fd,v= .agg [.p (fdL l)]/\bl l=true/\aH l<=200000000)/\p<=q/\q<=p+200000000):=
  (GA G hb hl (by omega)).mono λx h ⟨l,q,e1,e2,e3,e4,e5,e6⟩=>⟨_,q,e1,e2,⟨l,rfl,e3,e4⟩,e5,e6⟩
 simp-implicitDefEqProofs[sj]
 refine(jL G hprog _ (by simp[below])).mono ?_
 rintro r h ⟨v,q,rfl,rfl,⟨l,rfl,hok,hz⟩,h1,h2⟩
 have hlen:=((iY l).1 hok).1
 have hfd:=((iY l).1 hok).2.1
 simp-implicitDefEqProofs[aa]
 refine(aP G b hb hl q (by omega) 5 _).mono ?_
 rintro r h ⟨k1,rfl,rfl,_⟩
 simp-implicitDefEqProofs[aa]
 refine bh (λhc=>?_) (λhc=>?_)
 ·simp-implicitDefEqProofs[]
  exact⟨_,_,q+1,.agg [.p (fdL l)],rfl,rfl,.keep (by simp) .nil,⟨l,rfl,by omega⟩,by omega,by omega⟩
 simp-implicitDefEqProofs[]
 refine(aP G b hb hl (q+1) (by omega) 6 _).mono ?_
 rintro r h ⟨k2,rfl,rfl,_⟩
 simp-implicitDefEqProofs[aa]
 refine bh (λhc2=>?_) (λhc2=>?_)
 ·simp-implicitDefEqProofs[]
  refine(jL G (Lu G hb hl (p:=q+1+1) (by omega)) _ (by simp[below])).mono ?_
  rintro r h ⟨v,q2,rfl,rfl,⟨l2,rfl,hz2⟩,h3,h4⟩
  simp-implicitDefEqProofs[aa]
  exact⟨_,_,q2,.agg [.p (fdL l2)],rfl,rfl,.keep (by simp) .nil,⟨l2,rfl,by omega⟩,by omega,by omega⟩
 simp-implicitDefEqProofs[]
 refine(AC.mkLift DE (MA G l (by omega)) (by simp)).mono ?_
 rintro r h ⟨vs,I,os,rfl,rfl,ho,nd,hI⟩
 obtain⟨v,rfl⟩:=gu ho
 have hne:l.map Fd.cs≠[]:=by intro h;rw[List.map_eq_nil_iff] at h;rw[h] at hlen;simp at hlen
 simp at hI
 rcases ho.inv nd with⟨h0,_⟩|⟨h0,_⟩|⟨id,rowsF,JF,rfl,rfl,hF⟩
 ·exact absurd h0 hne
 ·cases h0
 have hid3:3<=id:=hI id (by simp)
 obtain⟨fF,rfl⟩:∃fF,id=fF+1:=⟨id-1,by omega⟩
 rw[Wl]
 simp-implicitDefEqProofs[aa]
 have hF2:∀q',RowOwn true (rdO b q':: .row 1 [[.nils]]:: .row 1 [[.sl (fF+1) 3 0 l.length]]::os) (fF+1) 3 rowsF (l.map Fd.cs) JF:=λq'=>hF.frame λi hi=>by
  have:=hI i (by simpa using hi)
  obtain⟨k,rfl⟩:∃k,i=k+3:=⟨i-3,by omega⟩
  rfl
 have hI3:∀j∈JF,3<=j:=λj hj=>hI j (by simp[hj])
 have hnF:=hF.nd
 clear hF ho
 obtain⟨T,hT⟩:∃T,T= .row 1 [[.nils]]:: .row 1 [[AV.sl (fF+1) 3 0 l.length]]::os:=⟨_,rfl⟩
 rw[←hT] at hF2⊢
 have t0:T[0]?=some (.row 1 [[.nils]]):=by rw[hT];rfl
 have t1:T[1]?=some (.row 1 [[.sl (fF+1) 3 0 l.length]]):=by rw[hT];rfl
 have tF:T[fF]?=some (.row 3 rowsF):=(hF2 0).here
 clear hT
 refine(aP G b hb hl (q+1+1) (by omega) l.length _).mono ?_
 rintro r h ⟨k,rfl,rfl,hk⟩
 have hkl:k<l.length:=by omega
 have hgk:=VA hkl
 have hfk:=hfd _ (VT hkl)
 have hzk:=cN (VT hkl)
 have hDk:(l.map Fd.cs)[k]?=some l[k].cs:=by rw[VN,hgk];rfl
 generalize l[k]=f at hgk hfk hzk hDk
 obtain⟨rF,J1,Jk,J2,r1,rfl,r2,r5⟩:=(hF2 (q+1+1+1)).own.put (hF2 0).len (hF2 0).rl (hF2 0).dl hDk
 obtain⟨A,B,IA,IB,rfl,rfl,oA,oB⟩:=Ra r2
 have hltJ:∀j∈J1++(IA++IB++J2),j<T.length+1:=λj hj=>by have:=(hF2 0).own.lt hj;simpa using this
 have hnd:=hnF
 rw[Wy] at hnd
 have hn1:fF+1∉J1++(IA++IB++J2):=hnd.1
 have hn2:=hnd.2
 have hIB:∀j∈IB,3<=j:=λj hj=>hI3 j (by simp[hj])
 have nIB:IB.Nodup:=(List.nodup_append.1 (List.nodup_append.1 (List.nodup_append.1 hn2).2.1).1).2.1
 have hDl:(l.map Fd.cs).length=l.length:=by simp
 have finG:∀(U:List AO) (q':Nat) (B':AV) (I':List Nat) (sl':List Sm),(∀i,2<=i->i<T.length->i≠fF->i+1∉IB->U[i]?=T[i]?)->U[fF]?=some (.row 3 (rowsF.set k [.p (.str f.name),A,B']))->OwnL true (rdO b q'::U) [B'] [smL sl'] I'->(∀i∈I',1<=i)->
  aC sl'<=450000000->p<=q'->q'<=p+400500000->DP b (PgQ p 900000000 400500000) (.ret (.agg [.sl (fF+1) 3 0 l.length])) (rdO b q'::U):=by
  intro U q' B' I' sl' hU hUF oB' hI' hz' h3 h4
  have hfr:∀j∈J1++J2++IA,(rdO b q'::U)[j]?=(rdO b (q+1+1+1)::T)[j]?:=λj hj=>by
   have hjm:j∈J1++(IA++IB++J2):=by simp only[VJ] at hj⊢;rcases hj with(hj|hj)|hj<;>simp[hj]
   have hj3:=hI3 j hjm
   have hjl:=hltJ j hjm
   obtain⟨i,rfl⟩:∃i,j=i+1:=⟨j-1,by omega⟩
   rw[VQ,VQ]
   refine hU i (by omega) (by omega) (λe=>hn1 (e▸hjm)) λhm=>?_
   simp only[List.nodup_append,VJ] at hn2
   obtain⟨n1,⟨⟨n2,n3,n4⟩,n5,n6⟩,n7⟩:=hn2
   simp only[VJ] at hj
   rcases hj with(hj|hj)|hj
   ·exact n7 _ hj _ (.inl (.inr hm)) rfl
   ·exact n6 _ (.inr hm) _ hj rfl
   ·exact n4 _ hj _ hm rfl
  have oR:=sO (s:=true) (w:=f.name) (oA.frame λi hi=>hfr i (by simp[hi])) oB'
  have oW:=r5 (rdO b q'::U) _ _ _ (λj hj=>hfr j (by simp only[VJ] at hj⊢;exact .inl hj)) oR
  have hD':(l.map Fd.cs).set k (Fd.mk f.name f.params sl').cs=(l.set k ⟨f.name,f.params,sl'⟩).map Fd.cs:=by rw[List.map_set]
  have tree:=OwnL.sl (s:=true) (h:=rdO b q'::U) (fF+1) 3 l.length (rowsF.set k [.p (.str f.name),A,B']) ((l.map Fd.cs).set k (Fd.mk f.name f.params sl').cs) hUF (by simp) (by have:=(hF2 0).len;simpa using this) (λe he=>by
   rcases Wv he with h|rfl
   ·exact(hF2 0).rl e h
   ·rfl) (λe he=>by
   rcases Wv he with h|rfl
   ·exact(hF2 0).dl e h
   ·rfl) oW .nil
  rw[hD'] at tree
  have hsz:=EQ l k ⟨f.name,f.params,sl'⟩
  have hfz:f.sz=1+f.name.length+(f.params.length+(f.params.map List.length).sum)+aC f.body:=rfl
  have hfz':(Fd.mk f.name f.params sl').sz=1+f.name.length+(f.params.length+(f.params.map List.length).sum)+aC sl':=rfl
  refine Lg (l:=l.set k ⟨f.name,f.params,sl'⟩) tree (λi hi=>?_) (by omega) h3 h4
  simp only[VL,VJ,Wa,or_false] at hi
  rcases hi with rfl|hi|(hi|hi)|hi
  ·omega
  ·have:=hI3 i (by simp[hi]);omega
  ·have:=hI3 i (by simp[hi]);omega
  ·exact hI' i hi
  ·have:=hI3 i (by simp[hi]);omega
 have hset:rowsF.set k [.p (.str f.name),A,B]=rowsF:=by
  apply List.ext_getElem?
  intro i
  by_cases hi:k=i
  ·subst hi;rw[VC (Vx.1 r1).1,r1]
  ·rw[Vy hi]
 have hf2:2<=fF:=by omega
 have s0:∀x,(T.set 0 x)[0]?=some x:=λx=>VC (by have:=(Vx.1 t0).1;omega)
 have hbz:f.sz=1+f.name.length+(f.params.length+(f.params.map List.length).sum)+aC f.body:=rfl
 simp-implicitDefEqProofs[aa,t0,t1,tF,r1,hkl]
 have fin0:∀q' x,p<=q'->q'<=p+400500000->DP b (PgQ p 900000000 400500000) (.ret (.agg [.sl (fF+1) 3 0 l.length])) (rdO b q'::T.set 0 x):=λq' x h3 h4=>
  finG (T.set 0 x) q' B IB f.body (λi h1 _ _ _=>Vy (by omega)) (by rw[Vy (by omega),hset];exact tF) (oB.frame λj hj=>by
   have:=hIB j hj
   obtain⟨i,rfl⟩:∃i,j=i+1:=⟨j-1,by omega⟩
   rw[VQ,VQ,Vy (by omega)]) (λi hi=>by have:=hIB i hi;omega) (by omega) h3 h4
 rcases oB.inv nIB with⟨h0,_,rfl|rfl⟩|⟨h0,_⟩|⟨idB,rowsB,JB,rfl,rfl,hB⟩
 ·simp-implicitDefEqProofs[t0,t1,s0]
  exact fin0 _ _ (by omega) (by omega)
 ·simp-implicitDefEqProofs[t0,t1,s0]
  exact fin0 _ _ (by omega) (by omega)
 ·cases h0
 rw[Wl] at*
 by_cases hbe:f.body.length=0
 ·simp-implicitDefEqProofs[hbe,t0,t1,s0]
  have:=fin0 (q+1+1+1) (.row 1 [[.sl (fF+1) 3 0 l.length]]) (by omega) (by omega)
  exact this
 simp-implicitDefEqProofs[hbe,t0,t1,tF,r1]
 refine(aP G b hb hl (q+1+1+1) (by omega) f.body.length _).mono ?_
 rintro r h ⟨j,rfl,rfl,hj⟩
 have hjl:j<f.body.length:=by omega
 obtain⟨fB,rfl⟩:∃fB,idB=fB+1:=⟨idB-1,by have:=hIB idB (by simp);omega⟩
 have hB3:=hIB (fB+1) (by simp)
 have tB:T[fB]?=some (.row 5 rowsB):=hB.here
 have hgj:=VA hjl
 have hzj:=dT (VT hjl)
 have hok5:az 4 f.body[j]=true:=by
  simp only[iL,VS] at hfk
  exact VH.1 hfk.2 _ (VT hjl)
 have hDj:(f.body.map Sm.cs)[j]?=some f.body[j].cs:=by rw[VN,hgj];rfl
 generalize f.body[j]=sm at hgj hzj hok5 hDj
 obtain⟨rB,K1,Kj,K2,u1,rfl,u2,u5⟩:=hB.own.put hB.len hB.rl hB.dl hDj
 obtain⟨A1,B1,E1,I1,I2,I3,rfl,rfl,oA1,oB1,oE1⟩:=QR u2
 simp-implicitDefEqProofs[aa,hjl,t0,t1,tF,r1,tB,u1]
 refine(En G hb hl (p:=q+1+1+1+1) (by omega) [[122,122],[97],[98],[99],[100]] (k:=T.length+1) (by simp) (by simp) (by omega) rfl (by simp[cJ])).mono ?_
 rintro r h ⟨s,hs,rfl,rfl⟩
 have hs8:s.length<=8:=by simp at hs;rcases hs with rfl|rfl|rfl|rfl|rfl<;>simp
 have nB:=nIB
 rw[Wy] at nB
 have finS:∀(U:List AO) (q':Nat) (o':Int) (nm':List UInt8) (A':AV) (I':List Nat) (ar':List Ex),(∀i,2<=i->i<T.length->i≠fB->i+1∉I1->U[i]?=T[i]?)->U[fB]?=some (.row 5 (rowsB.set j [.p (.int .i64 o'),.p (.str nm'),A',B1,E1]))->OwnL true (rdO b q'::U) [A'] [exL ar'] I'->(∀i∈I',1<=i)->
  aX ar'+nm'.length<=aX sm.args+sm.name.length+1000->p<=q'->q'<=p+400500000->DP b (PgQ p 900000000 400500000) (.ret (.agg [.sl (fF+1) 3 0 l.length])) (rdO b q'::U):=by
  intro U q' o' nm' A' I' ar' hU hUB oA' hI' hz' h3 h4
  have hmem:∀x∈K1++K2++I2++I3,x∈K1++(I1++(I2++I3)++K2):=λx hx=>by
   simp only[VJ] at hx⊢
   rcases hx with((hx|hx)|hx)|hx<;>simp[hx]
  have hltB:∀x∈K1++(I1++(I2++I3)++K2),x<T.length+1:=λx hx=>by have:=hB.own.lt hx;simpa using this
  have hfr:∀x∈K1++K2++I2++I3,(rdO b q'::U)[x]?=(rdO b (q+1+1+1)::T)[x]?:=λx hx=>by
   have hm:=hmem x hx
   have hx3:=hIB x (Wq _ hm)
   have hxl:=hltB x hm
   obtain⟨i,rfl⟩:∃i,x=i+1:=⟨x-1,by omega⟩
   rw[VQ,VQ]
   refine hU i (by omega) (by omega) (λe=>nB.1 (e▸hm)) λhm1=>?_
   have hn:=nB.2
   simp only[List.nodup_append,VJ] at hn
   obtain⟨n1,⟨⟨n2,⟨n3,n3',n3''⟩,n4⟩,n5,n6⟩,n7⟩:=hn
   simp only[VJ] at hx
   rcases hx with((hx|hx)|hx)|hx
   ·exact n7 _ hx _ (.inl (.inl hm1)) rfl
   ·exact n6 _ (.inl hm1) _ hx rfl
   ·exact n4 _ hm1 _ (.inl hx) rfl
   ·exact n4 _ hm1 _ (.inr hx) rfl
  have oS:=QJ (s:=true) (o:=o') (w:=nm') oA' (oB1.frame λi hi=>hfr i (by simp[hi])) (oE1.frame λi hi=>hfr i (by simp[hi]))
  have oW:=u5 (rdO b q'::U) _ _ _ (λx hx=>hfr x (by simp only[VJ] at hx⊢;exact .inl (.inl hx))) oS
  have hD':(f.body.map Sm.cs).set j (Sm.mk o' nm' ar' sm.body sm.els).cs=(f.body.set j ⟨o',nm',ar',sm.body,sm.els⟩).map Sm.cs:=by rw[List.map_set]
  have tree:=OwnL.sl (s:=true) (h:=rdO b q'::U) (fB+1) 5 f.body.length (rowsB.set j [.p (.int .i64 o'),.p (.str nm'),A',B1,E1]) ((f.body.map Sm.cs).set j (Sm.mk o' nm' ar' sm.body sm.els).cs) hUB (by simp) (by have:=hB.len;simpa using this) (λe he=>by
   rcases Wv he with h|rfl
   ·exact hB.rl e h
   ·rfl) (λe he=>by
   rcases Wv he with h|rfl
   ·exact hB.dl e h
   ·exact Sm.cs_len _) oW .nil
  rw[hD'] at tree
  have hsz:=Kr (s:=⟨o',nm',ar',sm.body,sm.els⟩) hgj
  have hsm:=sm.sz_eq
  have hsm':(Sm.mk o' nm' ar' sm.body sm.els).sz=1+nm'.length+aX ar'+aC sm.body+aC sm.els:=rfl
  have hFB:fF≠fB:=λe=>hn1 (by rw[e];simp)
  have hFI:fF+1∉I1:=λhm=>hn1 (by simp[hm])
  have hFT:fF<T.length:=(Vx.1 tF).1
  refine finG U q' (.sl (fB+1) 5 0 f.body.length) _ (f.body.set j ⟨o',nm',ar',sm.body,sm.els⟩) (λi g1 g2 g3 g4=>hU i g1 g2 (λe=>g4 (by rw[e];simp)) λhm=>g4 (by simp[hm])) (by rw[hU fF hf2 hFT hFB hFI,hset];exact tF) tree (λi hi=>?_) (by omega) h3 h4
  simp only[VL,VJ,Wa,or_false] at hi
  rcases hi with rfl|hi|(hi|hi|hi)|hi
  ·omega
  ·have:=hIB i (by simp[hi]);omega
  ·exact hI' i hi
  ·have:=hIB i (by simp[hi]);omega
  ·have:=hIB i (by simp[hi]);omega
  ·have:=hIB i (by simp[hi]);omega
 have hTl:2<=T.length:=by have:=(Vx.1 t1).1;omega
 have hBT:fB<T.length:=(Vx.1 tB).1
 have hI1:∀i∈I1,3<=i/\i<T.length+1:=λi hi=>⟨hIB i (by simp[hi]),by have:=oA1.lt hi;simpa using this⟩
 have oA1u:∀(U:List AO) (q':Nat),(∀i,2<=i->i<T.length->i+1∈I1->U[i]?=T[i]?)->OwnL true (rdO b q'::U) [A1] [exL sm.args] I1:=λU q' hU=>oA1.frame λx hx=>by
  obtain⟨h3,h4⟩:=hI1 x hx
  obtain⟨i,rfl⟩:∃i,x=i+1:=⟨x-1,by omega⟩
  rw[VQ,VQ]
  exact hU i (by omega) (by omega) hx
 have hsmz:=sm.sz_eq
 have finU:∀(U:List AO) (q':Nat),(∀i,2<=i->i<T.length->U[i]?=T[i]?)->p<=q'->q'<=p+400500000->DP b (PgQ p 900000000 400500000) (.ret (.agg [.sl (fF+1) 3 0 l.length])) (rdO b q'::U):=λU q' hU h3 h4=>
  finS U q' sm.op sm.name A1 I1 sm.args (λi a1 a2 _ _=>hU i a1 a2) (by rw[hU fB (by omega) hBT,mX u1];exact tB) (oA1u U q' λi a1 a2 _=>hU i a1 a2) (λi hi=>by have:=(hI1 i hi).1;omega) (by omega) h3 h4
 have a0:∀os,(T++os)[0]?=some (.row 1 [[.nils]]):=λos=>by rw[Vz (Vx.1 t0).1];exact t0
 have a1:∀os,(T++os)[1]?=some (.row 1 [[.sl (fF+1) 3 0 l.length]]):=λos=>by rw[Vz (Vx.1 t1).1];exact t1
 have aF:∀os,(T++os)[fF]?=some (.row 3 rowsF):=λos=>by rw[Vz (Vx.1 tF).1];exact tF
 have aB:∀os,(T++os)[fB]?=some (.row 5 (rowsB)):=λos=>by rw[Vz (Vx.1 tB).1];exact tB
 simp-implicitDefEqProofs[aa]
 refine(aP G b hb hl (q+1+1+1+1+1) (by omega) 4 _).mono ?_
 rintro r h ⟨k3,rfl,rfl,_⟩
 have nI1:I1.Nodup:=(List.nodup_append.1 (List.nodup_append.1 (List.nodup_append.1 nB.2).2.1).1).1
 have hargs:0<sm.args.length:=by
  simp only[az,gP,VS,decide_eq_true_eq] at hok5
  have:=hok5.1.1.1.1.1.1.1.1.2
  rw[this];unfold gz;split<;>omega
 have hA0:sm.args.map Ex.cs≠[]:=by intro h;rw[List.map_eq_nil_iff] at h;rw[h] at hargs;simp at hargs
 obtain⟨idA,rowsA,JA,rfl,rfl,hA⟩:∃id rows J,A1= .sl id 4 0 sm.args.length/\I1=id::J/\RowOwn true (rdO b (q+1+1+1)::T) id 4 rows (sm.args.map Ex.cs) J:=by
  rcases oA1.inv nI1 with⟨h0,_⟩|⟨h0,_⟩|⟨id,rows,J,e1,e2,e3⟩
  ·exact absurd h0 hA0
  ·cases h0
  ·rw[Wl] at e1;exact⟨id,rows,J,e1,e2,e3⟩
 obtain⟨fA,rfl⟩:∃fA,idA=fA+1:=⟨idA-1,by have:=(hI1 idA (by simp)).1;omega⟩
 have hA3:=hI1 (fA+1) (by simp)
 have tA:T[fA]?=some (.row 4 rowsA):=hA.here
 have aA:∀os,(T++os)[fA]?=some (.row 4 rowsA):=λos=>by rw[Vz (by omega)];exact tA
 have hg0:=VA hargs
 have hz0:=bQ (VT hargs)
 have hD0:(sm.args.map Ex.cs)[0]?=some sm.args[0].cs:=by rw[VN,hg0];rfl
 generalize sm.args[0]=e0 at hg0 hz0 hD0
 obtain⟨r0,L1,L0,L2,g1,rfl,g3,g5⟩:=hA.own.put hA.len hA.rl hA.dl hD0
 obtain⟨K0,rfl,_⟩:=GI g3
 have nA:=nI1
 rw[Wy] at nA
 have finA:∀(U:List AO) (q':Nat) (o n:Int) (w:List UInt8) (K:AV) (IK:List Nat) (ks:List Ex),(∀i,2<=i->i<T.length->i≠fA->U[i]?=T[i]?)->U[fA]?=some (.row 4 (rowsA.set 0 [.p (.int .i64 o),.p (.int .i64 n),.p (.str w),K]))->OwnL true (rdO b q'::U) [K] [exL ks] IK->(∀i∈IK,1<=i)->
  (Ex.mk o n w ks).sz<=500->p<=q'->q'<=p+400500000->DP b (PgQ p 900000000 400500000) (.ret (.agg [.sl (fF+1) 3 0 l.length])) (rdO b q'::U):=by
  intro U q' o n w K IK ks hU hUA oK hIK hz' h3 h4
  have hfr:∀x∈L1++L2,(rdO b q'::U)[x]?=(rdO b (q+1+1+1)::T)[x]?:=λx hx=>by
   have hm:x∈L1++(L0++L2):=by
    simp only[VJ] at hx⊢
    rcases hx with hx|hx
    ·exact .inl hx
    ·exact .inr (.inr hx)
   obtain⟨hx3,hx4⟩:=hI1 x (Wq _ hm)
   obtain⟨i,rfl⟩:∃i,x=i+1:=⟨x-1,by omega⟩
   rw[VQ,VQ]
   exact hU i (by omega) (by omega) λe=>nA.1 (e▸hm)
  have oW:=g5 (rdO b q'::U) _ _ _ hfr (LU (o:=o) (n:=n) (w:=w) oK)
  have hD':(sm.args.map Ex.cs).set 0 (Ex.mk o n w ks).cs=(sm.args.set 0 ⟨o,n,w,ks⟩).map Ex.cs:=by rw[List.map_set]
  have tree:=OwnL.sl (s:=true) (h:=rdO b q'::U) (fA+1) 4 sm.args.length (rowsA.set 0 [.p (.int .i64 o),.p (.int .i64 n),.p (.str w),K]) ((sm.args.map Ex.cs).set 0 (Ex.mk o n w ks).cs) hUA (by simp) (by have:=hA.len;simpa using this) (λe he=>by
   rcases Wv he with h|rfl
   ·exact hA.rl e h
   ·rfl) (λe he=>by
   rcases Wv he with h|rfl
   ·exact hA.dl e h
   ·exact Ex.cs_len _) oW .nil
  rw[hD'] at tree
  have hsz:=MG sm.args 0 ⟨o,n,w,ks⟩
  have hBA:fB≠fA:=λe=>nB.1 (by rw[e];simp)
  refine finS U q' sm.op sm.name (.sl (fA+1) 4 0 sm.args.length) _ (sm.args.set 0 ⟨o,n,w,ks⟩) (λi g1 g2 _ g4=>hU i g1 g2 λe=>g4 (by rw[e];simp)) (by rw[hU fB (by omega) hBT hBA,mX u1];exact tB) tree (λi hi=>?_) (by omega) h3 h4
  simp only[VL,VJ,Wa,or_false] at hi
  rcases hi with rfl|hi|hi|hi
  ·omega
  ·have:=(hI1 i (by simp[hi])).1;omega
  ·exact hIK i hi
  ·have:=(hI1 i (by simp[hi])).1;omega
 have w0:∀os x,((T++os).set 0 x)[0]?=some x:=λos x=>VC (by simp only[VO];omega)
 have v0:∀os x,((T++os).set fA x)[0]?=some (.row 1 [[.nils]]):=λos x=>by rw[Vy (by omega)];exact a0 os
 have v1:∀os x,((T++os).set fA x)[1]?=some (.row 1 [[.sl (fF+1) 3 0 l.length]]):=λos x=>by rw[Vy (by omega)];exact a1 os
 have v2:∀os x y,(((T++os).set fA x).set 0 y)[0]?=some y:=λos x y=>VC (by simp only[We,VO];omega)
 have hv:∀os x y (i:Nat),2<=i->i<T.length->i≠fA->(((T++os).set fA x).set 0 y)[i]?=T[i]?:=λos x y i h1 h2 h3=>by
  rw[Vy (by omega),Vy (by omega),Vz h2]
 have aE:∀x y os,(T++x::y::os)[T.length+1]?=some y:=λx y os=>by rw[VG (by omega),Wi];rfl
 have aE2:∀x y z os,(T++x::y::os).set (T.length+1) z=T++x::z::os:=λx y z os=>by rw[List.set_append_right _ _ (by omega),Wi];rfl
 by_cases c1:k3=1
 ·subst c1
  simp-implicitDefEqProofs[aa, ↓a0, ↓a1, ↓aF, ↓aB,u1,hjl]
  refine bh (λhn=>?_) (λhn=>?_)
  ·simp-implicitDefEqProofs[]
   refine(En G hb hl (p:=q+1+1+1+1+1+1) (by omega) [[97],[98],[122,122],[99],[100]] (k:=T.length+2+1) (by simp) (by simp) (by omega) rfl (by simp[cJ])).mono ?_
   rintro r h ⟨s2,hs2,rfl,rfl⟩
   have hs28:s2.length<=8:=by simp at hs2;rcases hs2 with rfl|rfl|rfl|rfl|rfl<;>simp
   have v0:∀os x,((T++os).set fB x)[0]?=some (.row 1 [[.nils]]):=λos x=>by rw[Vy (by omega)];exact a0 os
   have v1:∀os x,((T++os).set fB x)[1]?=some (.row 1 [[.sl (fF+1) 3 0 l.length]]):=λos x=>by rw[Vy (by omega)];exact a1 os
   have v2:∀os x y,(((T++os).set fB x).set 0 y)[0]?=some y:=λos x y=>VC (by simp only[We,VO];omega)
   simp-implicitDefEqProofs[aa, ↓a0, ↓a1, ↓aF, ↓aB,u1,hjl, ↓v0, ↓v1, ↓v2,-getElem?_pos,Ww,VQ]
   have hv:∀os x y (i:Nat),2<=i->i<T.length->i≠fB->(((T++os).set fB x).set 0 y)[i]?=T[i]?:=λos x y i h1 h2 h3=>by
    rw[Vy (by omega),Vy (by omega),Vz h2]
   refine finS _ _ sm.op s2 (.sl (fA+1) 4 0 sm.args.length) _ sm.args ?_ ?_ (oA1u _ _ ?_) (λi hi=>by have:=(hI1 i hi).1;omega) (by omega) (by omega) (by omega)
   ·intro i h1 h2 h3 _;exact hv _ _ _ i h1 h2 h3
   ·rw[Vy (by omega),VC (by simp only[VO];omega)]
   ·intro i h1 h2 h3
    exact hv _ _ _ i h1 h2 (λe=>nB.1 (by rw[←e];simp only[VJ];exact .inr (.inl (.inl h3))))
  ·simp-implicitDefEqProofs[↓a0, ↓a1, ↓w0,-getElem?_pos,Ww,VQ]
   refine finU _ _ ?_ (by omega) (by omega)
   intro i h1 h2
   rw[Vy (by omega),Vz h2]
 by_cases c2:k3=2
 ·subst c2
  have hw:∀(q':Nat) (os:List AO),OwnL true (rdO b q'::(T++os)) [.sl (fB+1) 5 0 f.body.length] [smL f.body] ((fB+1)::(K1++(((fA+1)::(L1++(L0++L2)))++(I2++I3)++K2))):=λq' os=>oB.frame λx hx=>by
   have h3:=hIB x hx
   have h4:x<T.length+1:=by have:=oB.lt hx;simpa using this
   obtain⟨i,rfl⟩:∃i,x=i+1:=⟨x-1,by omega⟩
   rw[VQ,VQ,Vz (by omega)]
  have hv1:∀(q':Nat) (os:List AO),View (rdO b q'::(T++os)) (.sl (fB+1) 5 0 1) (smL (f.body.take 1)):=λq' os=>by
   have:=Er (m:=1) ((hw q' os).view 0 _ _ rfl rfl) (by simp;omega)
   rw[←List.map_take] at this
   exact this
  have hz1:aC (f.body.take 1)<=aC f.body:=by
   have e:f.body=f.body.take 1++f.body.drop 1:=(Wu _ _).symm
   have:aC f.body=aC (f.body.take 1)+aC (f.body.drop 1):=by rw[←bC,←e]
   omega
  have hS:=BZ G _ (f.body.take 1) (Nat.lt_succ_self _) (by omega)
  simp-implicitDefEqProofs[aa, ↓a0, ↓a1, ↓aF, ↓aB,r1,hkl]
  refine⟨by omega,?_⟩
  refine(AC.mkLend ud hS (.one (hv1 _ _) .nil)).mono ?_
  rintro r h ⟨vs,IN,os2,rfl,rfl,oN,nN,hN⟩
  obtain⟨vN,rfl⟩:=gu oN
  have hl1:(f.body.take 1).length=1:=by rw[Wb];omega
  have hneN:(f.body.take 1).map Sm.cs≠[]:=by intro h;rw[List.map_eq_nil_iff] at h;rw[h] at hl1;simp at hl1
  obtain⟨idN,rowsN,JN,rfl,rfl,hRN⟩:∃id rows J,vN= .sl id 5 0 1/\IN=id::J/\RowOwn true _ id 5 rows ((f.body.take 1).map Sm.cs) J:=by
   rcases oN.inv nN with⟨h0,_⟩|⟨h0,_⟩|⟨id,rows,J,e1,e2,e3⟩
   ·exact absurd h0 hneN
   ·cases h0
   ·rw[Wl,hl1] at e1;exact⟨id,rows,J,e1,e2,e3⟩
  have hidN:=hN idN (by simp)
  simp at hidN
  obtain⟨fN,rfl⟩:∃fN,idN=fN+1:=⟨idN-1,by omega⟩
  have hFT:fF<T.length:=(Vx.1 tF).1
  have tN:=hRN.here
  simp only[Wn,Wg,VQ,List.nil_append] at tN
  have hrN:rowsN.length=1:=by have:=hRN.len;rw[Wl,hl1] at this;exact this
  have hrB:rowsB.length=f.body.length:=by have:=hB.len;simpa using this
  have z1:∀os o y,((T++os).set fB o++y)[fF]?=some (.row 3 rowsF):=λos o y=>by
   rw[Vz (by simp only[We,VO];omega),Vy (λe=>hn1 (by rw[←e];simp))];exact aF os
  have z2:∀os o y x,(((T++os).set fB o++y).set fF x)[0]?=some (.row 1 [[.nils]]):=λos o y x=>by
   rw[Vy (by omega),Vz (by simp only[We,VO];omega),Vy (by omega)];exact a0 os
  have z3:∀os o y x,(((T++os).set fB o++y).set fF x)[1]?=some (.row 1 [[.sl (fF+1) 3 0 l.length]]):=λos o y x=>by
   rw[Vy (by omega),Vz (by simp only[We,VO];omega),Vy (by omega)];exact a1 os
  have z4:∀os o y x w,((((T++os).set fB o++y).set fF x).set 0 w)[0]?=some w:=λos o y x w=>VC (by simp only[We,VO];omega)
  simp-implicitDefEqProofs[aa,dL, ↓a0, ↓a1, ↓aF, ↓aB, ↓tN, ↓z1, ↓z2, ↓z3, ↓z4,r1,hkl,hrN,hrB,-getElem?_pos,Ww,VQ]
  rw[VE (l:=rowsB) (by omega),VE (l:=rowsN) (by omega)]
  have hbl:=cr f.body
  refine⟨⟨by omega,by omega⟩,?_⟩
  have hJB:∀x∈K1++(((fA+1)::(L1++(L0++L2)))++(I2++I3)++K2),3<=x/\x<T.length+1/\x≠fF+1/\x≠fB+1:=λx hx=>⟨hIB x (Wq _ hx),by have:=hB.own.lt hx;simpa using this,λe=>hn1 (by rw[←e];simp only[VJ];exact .inr (.inl (.inr (Wq _ hx)))),λe=>nB.1 (e▸hx)⟩
  have hJN:∀x∈JN,T.length+3<=x/\x<T.length+3+os2.length:=λx hx=>⟨by have:=hN x (by simp[hx]);simp at this;omega,by have:=hRN.own.lt hx;simp at this;omega⟩
  have nle:∀(W:List AO) (fo bo:AO) (x y:AO),∀i,2<=i->i<T.length->i≠fF->i≠fB->(((((T++W).set fB bo)++[y]).set fF fo).set 0 x)[i]?=T[i]?:=λW fo bo x y i h1 h2 h3 h4=>by
   rw[Vy (by omega),Vy (by omega),Vz (by simp only[We,VO];omega),Vy (by omega),Vz h2]
  have nri:∀(W:List AO) (fo bo:AO) (x y:AO),∀i,T.length<=i->i<(T++W).length->(((((T++W).set fB bo)++[y]).set fF fo).set 0 x)[i]?=(T++W)[i]?:=λW fo bo x y i h1 h2=>by
   rw[Vy (by omega),Vy (by omega),Vz (by simpa using h2),Vy (by omega)]
  have hbl2:=cr f.body
  have hzN:aC (f.body++f.body.take 1)<=400000000:=by rw[bC];omega
  refine finG _ _ (.sl (T.length+(os2.length+1+1)+1) 5 0 (f.body.length+1)) ((T.length+(os2.length+1+1)+1)::((K1++(((fA+1)::(L1++(L0++L2)))++(I2++I3)++K2))++JN++[])) (f.body++f.body.take 1) (λi g1 g2 g3 g4=>nle _ _ _ _ _ i g1 g2 g3 (λe=>g4 (by rw[e];simp))) ?_ ?_ ?_ (by omega) (by omega) (by omega)
  ·rw[Vy (by omega),VC (by simp only[We,VO];omega)]
  ·refine OwnL.sl _ 5 (f.body.length+1) (rowsB++rowsN) ((f.body++f.body.take 1).map Sm.cs) ?_ (by rw[Wl,VO,hl1]) (by rw[VO,Wl,VO,hl1,hrB,hrN]) (λe he=>?_) (λe he=>by obtain⟨x,_,rfl⟩:=VW.1 he;simp) ?_ .nil
   ·rw[VQ,Vy (by omega),Vy (by omega),VG (by simp)]
    simp
   ·rcases VJ.1 he with h|h
    ·exact hB.rl e h
    ·exact hRN.rl e h
   ·rw[List.map_append,List.flatten_append,List.flatten_append]
    refine(hB.own.frame λx hx=>?_).app (hRN.own.frame λx hx=>?_)
    ·obtain⟨x1,x2,x3,x4⟩:=hJB x hx
     obtain⟨i,rfl⟩:∃i,x=i+1:=⟨x-1,by omega⟩
     rw[VQ,VQ]
     exact nle _ _ _ _ _ i (by omega) (by omega) (by omega) (by omega)
    ·obtain⟨x1,x2⟩:=hJN x hx
     obtain⟨i,rfl⟩:∃i,x=i+1:=⟨x-1,by omega⟩
     simp only[Wn,Wg,VQ,List.nil_append]
     exact nri _ _ _ _ _ i (by omega) (by simp;omega)
  ·intro i hi
   simp only[VL,VJ,Wa,or_false] at hi
   rcases hi with rfl|hi|hi
   ·omega
   ·have:=(hJB i (by simp only[VL,VJ];exact hi)).1;omega
   ·have:=(hJN i hi).1;omega
 by_cases c0:k3=0
 ·subst c0
  simp-implicitDefEqProofs[aa]
  refine(En G hb hl (p:=q+1+1+1+1+1+1) (by omega) [[102],[103],[109],[113]] (k:=T.length+2+1) (by simp) (by simp) (by omega) rfl (by simp[cJ])).mono ?_
  rintro r h ⟨s2,hs2,rfl,rfl⟩
  have hs28:s2.length<=8:=by simp at hs2;rcases hs2 with rfl|rfl|rfl|rfl<;>simp
  simp-implicitDefEqProofs[aa, ↓a0, ↓a1, ↓aB,u1,hjl, ↓aE, ↓aE2,-getElem?_pos,Ww,VQ]
  refine bh (λhn=>?_) (λhn=>?_)
  ·simp-implicitDefEqProofs[↓a0, ↓a1, ↓aB, ↓aA,u1,hjl,g1,hargs, ↓v0, ↓v1, ↓v2, ↓aE,-getElem?_pos,Ww,VQ]
   refine finA _ _ 13 0 s2 (.sl (T.length+3+1) 4 0 1) [T.length+3+1] [⟨1,1,[],[]⟩] (λi h1 h2 h3=>hv _ _ _ i h1 h2 h3) ?_ ?_ (by simp) (by simp[Ex.sz,aX];omega) (by omega) (by omega)
   ·rw[Vy (by omega),VC (by simp only[VO];omega)]
   ·refine RowOwn.tree (rows:=[[.p (.int .i64 1),.p (.int .i64 1),.p (.str []),.nils]]) (J:=[]) ⟨?_,rfl,by simp,by simp,?_,by simp⟩ rfl
    ·rw[VQ,Vy (by omega),Vy (by omega),VG (by omega),Wi];rfl
    ·simpa using LU (s:=true) (o:=1) (n:=1) (w:=[]) (k:=[]) (.nils 4 .nil)
  ·simp-implicitDefEqProofs[↓a0, ↓a1, ↓w0,-getElem?_pos,Ww,VQ]
   refine finU _ _ ?_ (by omega) (by omega)
   intro i h1 h2
   rw[Vy (by omega),Vz h2]
 have d1:¬(k3:Int)=1:=by omega
 have d2:¬(k3:Int)=2:=by omega
 simp-implicitDefEqProofs[aa,c0,d1,d2, ↓a0, ↓a1, ↓aF, ↓aB,u1,hjl]
 refine bh (λhn=>?_) (λhn=>?_)
 ·simp-implicitDefEqProofs[↓a0, ↓a1, ↓aB, ↓aA,u1,hjl,g1,hargs, ↓v0, ↓v1, ↓v2, ↓aE,-getElem?_pos,Ww,VQ]
  refine finA _ _ 2 0 s .nils [] [] (λi h1 h2 h3=>hv _ _ _ i h1 h2 h3) ?_ (.nils 4 .nil) (by simp) (by simp[Ex.sz,aX];omega) (by omega) (by omega)
  rw[Vy (by omega),VC (by simp only[VO];omega)]
 ·simp-implicitDefEqProofs[↓a0, ↓a1, ↓w0,-getElem?_pos,Ww,VQ]
  refine finU _ _ ?_ (by omega) (by omega)
  intro i h1 h2
  rw[Vy (by omega),Vz h2]
end
section
variable (G:al)
theorem AQ{R cid sid:Nat}{l:List Fd}{s:S5}{e c:Int}{o:Bool}{h:List AO}(H:h[R]?=some (aL l sid cid s e o)):
 AC Tryz.prog G cb [.ptr R 7 0 0,.p (.int .i64 c)] h λx h'=>x= .ret (.tup [])/\h'=h.set R (aL l sid cid s (if o then e else c) true):=by
 have s0:∀z,(h.set R z)[R]?=some z:=λz=>VC (Vx.1 H).1
 refine AC.go tt ?_
 cases o with
 |true=>
  simp-implicitDefEqProofs[iz,H,aL]
  exact(mX (by rw[H];rfl)).symm
 |false=>simp-implicitDefEqProofs[iz,H,aL,s0]
theorem MT{R cid sid:Nat}{l:List Fd}{s:S5}{h:List AO}(H:h[R]?=some (aL l sid cid s 0 false))(hs:s.left<=1000000):
 AC Tryz.prog G ey [.ptr R 7 0 0] h λx h'=>x= .ret (.tup [])/\h'=h.set R (if s.left=0 then aL l sid cid s 3 true else aL l sid cid (s.at_ (s.left-1)) 0 false):=by
 refine AC.go tk ?_
 by_cases h0:s.left=0
 ·simp-implicitDefEqProofs[gF,H,aL,h0]
  refine(AQ G H).mono ?_
  rintro r h1 ⟨rfl,rfl⟩
  simp-implicitDefEqProofs[aa,aL,h0]
 ·have h1:IntKind.i64.wrap ((s.left:Int)-1)=((s.left-1:Nat):Int):=by rw[ab (by omega) (by omega)];omega
  simp-implicitDefEqProofs[gF,H,aL,h0,h1,S5.at_]
theorem EK(a:Sc5)(x:List UInt8 × Int)(s:List UInt8):cS (a++[x]) s=if x.1=s then some a.length else cS a s:=by
 rw[nu]
 by_cases h:x.1=s
 ·simp[cS,h]
 ·simp[cS,h]
theorem Im(w:Sc5)(s:List UInt8)(hl:w.length<=1000000000000):VF Tryz.prog G kq [.p (am (w.map (·.1))),.p (.str s)] (.p (.int .i64 (ixI (cS w s)))):=by
 have hsl:am (w.map (·.1))= .lst 1 (w.map λx=>[.str x.1]):=by simp[am,Function.comp_def]
 refine AC.go CS ?_
 have hw:∀n:Nat,n<=1000000000000->IntKind.i64.wrap ((n:Int)-1)=(n:Int)-1:=λn hn=>ab (by omega) (by omega)
 simp-implicitDefEqProofs[tz,hsl,hw _ hl]
 refine aN (λn:Nat=>ah 20 [(5,.p (.int .i64 ((n:Int)-1))),(1,.p (.str s)),(0,.p (.lst 1 (w.map λx=>[.str x.1])))]) (λ_=>[]) (λn=>n<=w.length/\cS w s=cS (w.take n) s) (λn=>n) w.length ⟨VM _,by rw[List.take_length]⟩ ?_ ?_
 ·exact bX rfl (by simp[below])
 rintro n ⟨hn,hi⟩
 simp-implicitDefEqProofs[]
 refine bh (λh1=>?_) (λh1=>?_)
 ·simp at h1
  obtain⟨m,rfl⟩:∃m,n=m+1:=⟨n-1,by omega⟩
  have hg:=VA (show m<w.length by omega)
  have ht:w.take (m+1)=w.take m++[w[m]]:=an (by omega)
  have hnn:((m+1:Nat):Int)-1=(m:Int):=by omega
  rw[ht,EK,Wb,Nat.min_eq_left (by omega)] at hi
  generalize w[m]=x at hg hi
  simp-implicitDefEqProofs[hnn,hg]
  by_cases hx:x.1=s
  ·rw[if_pos hx] at hi
   simp-implicitDefEqProofs[hx,hi,ixI]
  ·rw[if_neg hx] at hi
   simp-implicitDefEqProofs[hx,hw m (by omega)]
   exact⟨m,⟨by omega,hi⟩,by omega,bX rfl (by simp[below])⟩
 ·simp at h1
  have:n=0:=by omega
  subst this
  simp-implicitDefEqProofs[hi,cS,ixI]
theorem yT{R:Nat}{cid sid:Nat}{l:List Fd}{s:S5}{c:Int}{h:List AO}(H:h[R]?=some (aL l sid cid s c true))(e:Ex)(v:AV):
 AC Tryz.prog G bi [.ptr R 7 0 0,.agg (e.cs.map .p),v] h λx h'=>x= .ret (.p (.int .i64 0))/\∃os,h'=h++os:=by
 have hec:=e.cs_eq
 have a0:∀os,(h++os)[R]?=some (aL l sid cid s c true):=λos=>by rw[Vz (Vx.1 H).1];exact H
 refine AC.go gG ?_
 simp-implicitDefEqProofs[aD,hec, ↓a0,aL]
end
section
def Cok(l:List Fd)(k:Nat)(x:Ex):Prop:=∃j f,be l x.name=some j/\j<k/\l[j]?=some f/\f.params.length=x.kids.length
mutual
theorem KF{fns:List Fd}{k:Nat}{vs:List LV}:∀(e:Ex) (c:Int),jy fns k vs e c=0->∀x∈e.pre,x.op=13->Cok fns k x
 | .mk o n t ks,c,h,x,hx,hop=>by
   rw[jy] at h
   rw[Ex.pre] at hx
   have h0:=ck h
   rcases VL.1 hx with rfl|hx
   ·have hop':o=13:=hop
    have hz:¬(13:Int)=2:=by omega
    rw[fg,hop',if_neg hz,if_pos rfl,ki] at h0
    show∃j f,be fns t=some j/\j<k/\fns[j]?=some f/\f.params.length=ks.length
    cases e:be fns t with
    |none=>rw[e] at h0;simp only[fl] at h0;split at h0<;>omega
    |some j=>
     rw[e] at h0
     simp only[fl] at h0
     by_cases hj:k<=j
     ·rw[if_pos hj] at h0;split at h0<;>omega
     ·rw[if_neg hj] at h0
      have hjl:j<fns.length:=(VU.1 e).1
      have hg:=VA hjl
      refine⟨j,fns[j],rfl,by omega,hg,?_⟩
      rw[rt,hg] at h0
      simp only at h0
      by_cases hp:fns[j].params.length=ks.length
      ·exact hp
      ·rw[if_neg hp] at h0;split at h0<;>omega
   ·exact uI ks _ h x hx hop
theorem uI{fns:List Fd}{k:Nat}{vs:List LV}:∀(l:List Ex) (c:Int),bc fns k vs l c=0->∀x∈dt l,x.op=13->Cok fns k x
 |[],c,h,x,hx,_=>by simp[dt] at hx
 |e::r,c,h,x,hx,hop=>by
  rw[bc] at h
  rw[dt] at hx
  rcases VJ.1 hx with hx|hx
  ·exact KF e _ (ck h) x hx hop
  ·exact uI r _ h x hx hop
end
mutual
theorem NY{fns:List Fd}{k:Nat}:∀(s:Sm) (b d:Nat) (w:WS),(stW fns k b s w).code=0->∀x∈dt s.args++(dy (d+1) s.body++dy (d+1) s.els),x.op=13->Cok fns k x
 | .mk o n a bd el,b,d,w,h,x,hx,hop=>by
   rw[stW] at h
   rw[cH] at h
   have h1:=bE h
   rw[cH] at h1
   have h2:=bE h1
   have h3:=tq h2
   simp only[Sm.args,Sm.body,Sm.els,VJ] at hx
   rcases hx with hx|hx|hx
   ·exact uI a _ h3 x hx hop
   ·exact ut bd _ (d+1) _ h1 x hx hop
   ·exact ut el _ (d+1) _ h x hx hop
theorem ut{fns:List Fd}{k:Nat}:∀(l:List Sm) (b d:Nat) (w:WS),(bv fns k b l w).code=0->∀x∈dy d l,x.op=13->Cok fns k x
 |[],b,d,w,h,x,hx,_=>by simp[dy,bI] at hx
 |s::r,b,d,w,h,x,hx,hop=>by
  rw[bv] at h
  rw[nz] at hx
  rcases VJ.1 hx with hx|hx
  ·exact NY s b d _ (bE h) x hx hop
  ·exact ut r b d _ h x hx hop
end
theorem Np{l:List Fd}{k:Nat}{f:Fd}(hc:aI l=0)(hk:l[k]?=some f):(fnW l k f).code=0:=by
 unfold aI at hc
 split at hc
 ·have:=(mr l l 0).1 hc k f hk
  rwa[WC] at this
 ·omega
theorem zJ{l:List Fd}{k:Nat}{f:Fd}(hc:aI l=0)(hk:l[k]?=some f):∀x∈dy 1 f.body,x.op=13->Cok l k x:=by
 have h:=Np hc hk
 rw[fnW] at h
 exact ut _ _ 1 _ h
def CoE(l:List Fd)(k:Nat)(e:Ex):Prop:=∀x∈e.pre,x.op=13->Cok l k x
def CoS(l:List Fd)(k d:Nat)(xs:List Sm):Prop:=∀x∈dy d xs,x.op=13->Cok l k x
theorem zh{a:Ex}:∀{l:List Ex},a∈l->∀x∈a.pre,x∈dt l
 |b::r,h,x,hx=>by
  rw[dt]
  rcases VL.1 h with rfl|h
  ·exact List.mem_append_left _ hx
  ·exact List.mem_append_right _ (zh h x hx)
theorem CoE.kid{l:List Fd}{k:Nat}{e a:Ex}(h:CoE l k e)(ha:a∈e.kids):CoE l k a:=λx hx ho=>h x (by rw[Ex.pre_eq];exact Wq _ (zh ha x hx)) ho
theorem CoS.head{l:List Fd}{k d:Nat}{s:Sm}{r:List Sm}(h:CoS l k d (s::r)):(∀a∈s.args,CoE l k a)/\CoS l k (d+1) s.body/\CoS l k (d+1) s.els/\CoS l k d r:=by
 have e:=nz d s r
 unfold CoS at*
 rw[e] at h
 simp only[VJ] at h
 exact⟨λa ha x hx ho=>h x (.inl (.inl (zh ha x hx))) ho,λx hx ho=>h x (.inl (.inr (.inl hx))) ho,λx hx ho=>h x (.inl (.inr (.inr hx))) ho,λx hx ho=>h x (.inr hx) ho⟩
end
section
structure In5 (v:List Sc5) (s:S5):Prop where
 g:G5 s
 ge:GE5 v
 un:Un5 v
 m:M5 s<=4000
 f:(ay v).length+s.left<=1073750000
theorem In5.ex{l:List Fd}{k:Nat}{v:List Sc5}{s s':S5}{e:Ex}{r:O5 Int}(I:In5 v s)(h:Ev l (.ex k v s e s' r)):In5 v s'/\∀n,r= .ok n->V5 n:=by
 have a:=da h ⟨I.g,I.ge⟩
 have b:=mL h
 exact⟨⟨a.1,I.ge,I.un,VR b.1 I.m,by have:=b.2;have:=I.f;omega⟩,a.2.2⟩
structure WfE (l:List Fd) (k:Nat) (e:Ex):Prop where
 form:∃d,bU d e=true
 co:CoE l k e
 sz:e.sz<=1073741824
theorem Ip{d:Nat}{e a:Ex}(h:bU d e=true)(ha:a∈e.kids):∃d,bU d a=true:=by
 obtain⟨c,rfl⟩:=Jl h
 exact⟨c,IZ h ha⟩
theorem WfE.kid{l:List Fd}{k:Nat}{e a:Ex}(h:WfE l k e)(ha:a∈e.kids):WfE l k a:=by
 obtain⟨d,hd⟩:=h.form
 exact⟨Ip hd ha,h.co.kid ha,by have:=bQ ha;have:=e.sz_eq;have:=h.sz;omega⟩
variable (G:al)
def ExC(l:List Fd)(R cid k:Nat)(e:Ex):Prop:=∀v s s' r,Ev l (.ex k v s e s' r)->In5 v s->∀V b x sid nid uid uv h,RI R cid l sid s 0 false h->EI V nid uid uv (ay v) b x h->Ap R V sid cid nid uid->
 AC Tryz.prog G bi [.ptr R 7 0 0,.agg (e.cs.map .p),.ptr V 4 0 0] h (ExL R cid l sid h s' r)
def StC(l:List Fd)(R cid k:Nat):Prop:=∀(xs:List Sm) v s v' s' r,(∀x∈xs,∃d,az d x=true)->aC xs<=1073741824->(∃d,CoS l k d xs)->Ev l (.blk k v s xs v' s' r)->In5 v s->
 ∀V x0 sid nid uid uv h,RI R cid l sid s 0 false h->EI V nid uid uv (ay v) false x0 h->Ap R V sid cid nid uid->AC Tryz.prog G aK [.ptr R 7 0 0,.p (smL xs),.ptr V 4 0 0] h (StL R cid l V sid nid uid h ((ay v').take (ay v).length) x0 s' r)
theorem AE{l:List Fd}{R cid sid:Nat}{v:List Sc5}{s s1:S5}{r:O5 Int}{V nid uid:Nat}{uv:AV}{b:Bool}{x:Int}{h os h2:List AO}{z:ARes}(H:RI R cid l sid s 0 false h)(E:EI V nid uid uv (ay v) b x h)(A:Ap R V sid cid nid uid)
 (L:ExL R cid l sid (h++os) s1 r z h2):∃n sid1,z= .ret (.p (.int .i64 n))/\V5 n/\(∀m,r= .ok m->n=m)/\RI R cid l sid1 s1 (bt r) (di r) h2/\EI V nid uid uv (ay v) b x h2/\Ap R V sid1 cid nid uid/\Fr [R,sid,cid] h h2/\(sid1=sid\/h.length<=sid1)/\
   (∀i,i<os.length->h2[h.length+i]?=os[i]?)/\h.length+os.length<=h2.length:=by
 obtain⟨n,sid1,rfl,e1,e2,e3,e4,e5⟩:=L
 have hl:=H.lt
 refine⟨n,sid1,rfl,e1,e2,e3,?_,?_,e4.from,?_,λi hi=>?_,by have:=e4.1;simpa using this⟩
 ·exact(E.more os).keep (H.more os) A e4
 ·exact Ap.step (E.more os) A e5
 ·rcases e5 with e|e
  ·exact .inl e
  ·exact .inr (by simp at e;omega)
 ·rw[e4.2 (h.length+i) (by simp;omega) (by simp;omega),VG (by omega),Wi]
theorem Am{V nid uid:Nat}{uv:AV}{w:Sc5}{b:Bool}{x:Int}{h:List AO}(E:EI V nid uid uv w b x h):View h (.sl nid 1 0 w.length) (am (w.map (·.1))):=by
 obtain⟨t,hn⟩:=E.names
 have h1:View h (.sl nid 1 0 (w.map (·.1)++t).length) (am (w.map (·.1)++t)):=gB hn
 have h2:=Er (m:=w.length) h1 (by simp)
 have e:((w.map (·.1)++t).map λn=>[PV.str n]).take w.length=(w.map (·.1)).map λn=>[PV.str n]:=by
  rw[List.map_append,List.take_append_of_le_length (by simp),VE (by simp)]
 rw[e] at h2
 exact h2
theorem Ok{s:S5}(g:G5 s){n:Int}(hn:V5 n)(h16:n<16):∃(m:Nat) (c:Int),n=(m:Int)/\m<16/\s.cells[m]?=some c/\V5 c:=by
 obtain⟨m,rfl⟩:∃m:Nat,n=(m:Int):=⟨n.toNat,by have:=hn.1;omega⟩
 have hm:m<s.cells.length:=by rw[g.len];omega
 exact⟨m,s.cells[m],rfl,by omega,VA hm,g.cells _ (VT hm)⟩
theorem RI.ended{R cid:Nat}{l:List Fd}{sid:Nat}{s:S5}{e c:Int}{o:Bool}{h:List AO}(H:RI R cid l sid s e o h):RI R cid l sid s c true (h.set R (aL l sid cid s c true)):=
 ⟨VC H.lt.1,by rw[Vy H.neR.1];exact H.said,by rw[Vy H.neR.2];exact H.cells,H.ne⟩
theorem Fr.set{K:List Nat}{h h2:List AO}(F:Fr K h h2){i:Nat}(hi:i∈K)(o:AO):Fr K h (h2.set i o):=
 ⟨by rw[We];exact F.1,λj hj hn=>by
   rw[Vy (show i≠j from λe=>hn (e▸hi))];exact F.2 j hj hn⟩
theorem PD{l:List Fd}{R cid k:Nat}(hC:∀e:Ex,e.op=13->WfE l k e->(∀a∈e.kids,ExC G l R cid k a)->∀v s s' r,Ev l (.ex k v s e s' r)->In5 v s->∀V b x sid nid uid uv h,RI R cid l sid s 0 false h->EI V nid uid uv (ay v) b x h->Ap R V sid cid nid uid->
 AC Tryz.prog G eC [.ptr R 7 0 0,.agg (e.cs.map .p),.ptr V 4 0 0] h (ExL R cid l sid h s' r)):∀(N:Nat) (e:Ex),e.sz<=N->WfE l k e->ExC G l R cid k e:=by
 intro N
 induction N with
 |zero=>intro e he;have:=e.sz_eq;omega
 |succ N ih=>
  intro e hN W v s s' r hE I V b x sid nid uid uv h H E A
  have hec:=e.cs_eq
  have hsz:=e.sz_eq
  have hkl:=bG e.kids
  have hsl:exL e.kids= .lst 4 (e.kids.map Ex.cs):=rfl
  have ihk:∀a∈e.kids,ExC G l R cid k a:=λa ha=>ih a (by have:=bQ ha;omega) (W.kid ha)
  have aR:∀os,(h++os)[R]?=some (aL l sid cid s 0 false):=λos=>(H.more os).run
  have aV:∀os,(h++os)[V]?=some (ca nid (ay v).length uv b x):=λos=>(E.more os).env
  have fin0:∀n os,V5 n->ExL R cid l sid h s (.ok n) (.ret (.p (.int .i64 n))) (h++os):=λn os hn=>⟨n,sid,rfl,hn,λm h=>by cases h;rfl,H.more _,Fr.more _ _ _,.inl rfl⟩
  by_cases hop:e.op=13
  ·refine AC.go gG ?_
   simp-implicitDefEqProofs[aD,hec, ↓aR, ↓aV,aL,ca,hop]
   have hcall:=hC e hop W ihk v s s' r hE I V b x sid nid uid uv _ (H.more [.row 4 [[.p (.int .i64 13),.p (.int .i64 e.n),.p (.str e.name),.p (exL e.kids)]]]) (E.more _) A
   rw[hec,hop] at hcall
   refine hcall.mono ?_
   rintro z h2 L
   obtain⟨n,sid1,rfl,e1,e2,e3,E2,A2,e4,e5,e6,e7⟩:=AE H E A L
   simp-implicitDefEqProofs[aa]
   exact⟨n,sid1,rfl,e1,e2,e3,e4,e5⟩
  refine AC.go gG ?_
  obtain⟨box,hbox⟩:∃box,box=AO.row 4 [[.p (.int .i64 e.op),.p (.int .i64 e.n),.p (.str e.name),.p (.lst 4 (e.kids.map Ex.cs))]]:=⟨_,rfl⟩
  have first:∀a s1 r1 (Q:ARes->List AO->Prop),a∈e.kids->Ev l (.ex k v s a s1 r1)->(∀n sid1 h2,V5 n->(∀m,r1= .ok m->n=m)->RI R cid l sid1 s1 (bt r1) (di r1) h2->EI V nid uid uv (ay v) b x h2->Ap R V sid1 cid nid uid->Fr [R,sid,cid] h h2->(sid1=sid\/h.length<=sid1)->
   h2[h.length]?=some box->h.length+1<=h2.length->In5 v s1->Q (.ret (.p (.int .i64 n))) h2)->AC Tryz.prog G bi [.ptr R 7 0 0,.agg [.p (.int .i64 a.op),.p (.int .i64 a.n),.p (.str a.name),.p (exL a.kids)],.ptr V 4 0 0] (h++[box]) Q:=λa s1 r1 Q ha hE1 hq=>by
   have hac:a.cs.map AV.p=[.p (.int .i64 a.op),.p (.int .i64 a.n),.p (.str a.name),.p (exL a.kids)]:=by rw[a.cs_eq];rfl
   rw[←hac]
   refine(ihk a ha v s s1 r1 hE1 I V b x sid nid uid uv _ (H.more [box]) (E.more _) A).mono ?_
   rintro z h2 L
   obtain⟨n,sid1,rfl,e1,e2,e3,E2,A2,e4,e5,e6,e7⟩:=AE H E A L
   exact hq n sid1 h2 e1 e2 e3 E2 A2 e4 e5 (by have:=e6 0 (by simp);simpa using this) (by simpa using e7) (I.ex hE1).1
  have second:∀a s1 s2 r2 sid1 h2 (Q:ARes->List AO->Prop),a∈e.kids->Ev l (.ex k v s1 a s2 r2)->In5 v s1->RI R cid l sid1 s1 0 false h2->EI V nid uid uv (ay v) b x h2->Ap R V sid1 cid nid uid->Fr [R,sid,cid] h h2->(sid1=sid\/h.length<=sid1)->h2[h.length]?=some box->h.length+1<=h2.length->
   (∀n sid2 h3,V5 n->(∀m,r2= .ok m->n=m)->RI R cid l sid2 s2 (bt r2) (di r2) h3->Fr [R,sid,cid] h h3->(sid2=sid\/h.length<=sid2)->h3[h.length]?=some box->In5 v s2->Q (.ret (.p (.int .i64 n))) h3)->
   AC Tryz.prog G bi [.ptr R 7 0 0,.agg [.p (.int .i64 a.op),.p (.int .i64 a.n),.p (.str a.name),.p (exL a.kids)],.ptr V 4 0 0] h2 Q:=λa s1 s2 r2 sid1 h2 Q ha hE1 I1 H1 E1 A1 F1 f1 b1 l1 hq=>by
   have hac:a.cs.map AV.p=[.p (.int .i64 a.op),.p (.int .i64 a.n),.p (.str a.name),.p (exL a.kids)]:=by rw[a.cs_eq];rfl
   rw[←hac]
   refine(ihk a ha v s1 s2 r2 hE1 I1 V b x sid1 nid uid uv h2 H1 E1 A1).mono ?_
   rintro z h3 ⟨n,sid2,rfl,e1,e2,e3,e4,e5⟩
   have hlR:=H.lt
   refine hq n sid2 h3 e1 e2 e3 (F1.trans e4 λi hi=>?_) ?_ ?_ (I1.ex hE1).1
   ·simp only[VL,Wa,or_false] at hi⊢
    rcases hi with rfl|rfl|rfl
    ·exact .inl (.inl rfl)
    ·rcases f1 with rfl|f1
     ·exact .inl (.inr (.inl rfl))
     ·exact .inr f1
    ·exact .inl (.inr (.inr rfl))
   ·rcases e5 with rfl|e5
    ·exact f1
    ·exact .inr (by omega)
   ·rw[e4.2 _ (by omega) ?_,b1]
    simp only[VL,Wa,or_false,not_or]
    refine⟨by omega,λe=>?_,by omega⟩
    have:=H1.said
    rw[←e,b1,hbox] at this
    simp[bs] at this
  have kids2:3<=e.op->e.op<=10->∃a b,e.kids=[a,b]:=λq1 q2=>by
   obtain⟨d,hd⟩:=W.form
   obtain⟨f1,f2,_,_⟩:=Cs hd
   have hlen:e.kids.length=2:=by
    have:e.op=3\/e.op=4\/e.op=5\/e.op=6\/e.op=7\/e.op=8\/e.op=9\/e.op=10:=by omega
    rcases this with q|q|q|q|q|q|q|q<;>rw[q] at f1 f2<;>simp[loK,hiK] at f1 f2<;>omega
   match hk:e.kids,hlen with
   |[a,b],_=>exact⟨a,b,rfl⟩
  cases hE with
  |num hop hv=>
   simp-implicitDefEqProofs[aD,hec, ↓aR,aL,hop]
   exact fin0 _ _ hv
  | @var _ _ _ _ n hop hv=>
    obtain⟨i,v1,v2,v3⟩:=AD I.un hv
    have hiw:i<(ay v).length:=(Vx.1 v2).1
    have hnv:=uY I.ge hv
    obtain⟨t,rfl,hu⟩:=E.vals.ne (by simpa using Nat.lt_of_le_of_lt (WA _) hiw)
    obtain⟨t2,hn⟩:=E.names
    obtain⟨rows,hr,hri⟩:∃rows,bs ((ay v).map (·.2)++t)= .row 1 rows/\rows[i]?=some [.p (.int .i64 n)]:=⟨_,rfl,by
     rw[VN,Vz (by simpa using hiw),VN,v2];rfl⟩
    rw[hr] at hu
    have au:∀os,(h++os)[uid]?=some (.row 1 rows):=λos=>by rw[Vz E.ul];exact hu
    simp-implicitDefEqProofs[aD,hec, ↓aR, ↓aV,aL,ca,hop]
    refine((Im G (ay v) e.name (by have:=I.f;omega)).lend (.one (Am (E.more _)) (.keep (by simp) .nil)) rfl).mono ?_
    rintro r h' ⟨rfl,rfl⟩
    simp-implicitDefEqProofs[aa,v1,ixI]
    refine⟨by simp[aV,ca],?_⟩
    simp-implicitDefEqProofs[hiw, ↓au,hri]
    exact fin0 _ _ hnv
  |call h0 _ _ _ _=>exact(hop h0).elim
  |callS h0 _=>exact(hop h0).elim
  | @firstS _ _ _ _ a rr _ c h1 h2 h3 h4=>
    have ha:a∈e.kids:=by rw[h3];simp
    have n1:¬e.op=1:=by omega
    have n2:¬e.op=2:=by omega
    have hg:e.kids[0]?=some a:=by rw[h3];rfl
    have hka:=a.cs_eq
    simp-implicitDefEqProofs[aD,hec,hsl, ↓aR, ↓aV,aL,ca,hg,hka,n1,n2,hop]
    rw[←hbox]
    refine first a _ _ _ ha h4 ?_
    intro n sid1 h2 e1 e2 e3 E2 A2 e4 e5 e6 e7 I2
    have cR:=e3.run
    have finO:∀n' os,V5 n'->ExL R cid l sid h s' (.st c) (.ret (.p (.int .i64 n'))) (h2++os):=λn' os hn'=>⟨n',sid1,rfl,hn',(λm h=>by cases h),e3.more os,⟨by have:=e4.1;simp;omega,λi hi hh=>by rw[Vz (by omega)];exact e4.2 i hi hh⟩,e5⟩
    have finO':∀n',V5 n'->ExL R cid l sid h s' (.st c) (.ret (.p (.int .i64 n'))) h2:=λn' hn'=>by have:=finO n' [] hn';rwa[Ws] at this
    simp only[bt,di] at cR
    have cO:∀b:Ex,AC Tryz.prog G bi [.ptr R 7 0 0,.agg [.p (.int .i64 b.op),.p (.int .i64 b.n),.p (.str b.name),.p (exL b.kids)],.ptr V 4 0 0] h2 λx h'=>x= .ret (.p (.int .i64 0))/\∃os,h'=h2++os:=λb=>by
     have hbc:b.cs.map AV.p=[.p (.int .i64 b.op),.p (.int .i64 b.n),.p (.str b.name),.p (exL b.kids)]:=by rw[b.cs_eq];rfl
     rw[←hbc]
     exact yT G cR b _
    have cR2:∀os,(h2++os)[R]?=some (aL l sid1 cid s' c true):=λos=>by rw[Vz (e3.lt.1)];exact cR
    have cB:∀os,(h2++os)[h.length]?=some box:=λos=>by rw[Vz (by omega)];exact e6
    simp only[aL] at cR cR2
    rw[hbox] at e6 cB
    by_cases o11:e.op=11
    ·simp-implicitDefEqProofs[aa,cR,e6,o11]
     refine(iK G _).use ?_
     simp-implicitDefEqProofs[]
     exact finO' _ (ip _)
    by_cases o12:e.op=12
    ·by_cases hn:16<=n
     ·simp-implicitDefEqProofs[aa,cR,e6,o11,o12,hn]
      refine(AQ G e3.run).mono ?_
      rintro z h3 ⟨rfl,rfl⟩
      rw[show h2.set R (aL l sid1 cid s' (if di (O5.st c:O5 Int)=true then bt (O5.st c:O5 Int) else 2) true)=h2 from mX e3.run]
      simp-implicitDefEqProofs[aa]
      exact finO' 0 ⟨by omega,by omega⟩
     ·obtain⟨m,c0,rfl,hm,hc0,hcv⟩:=Ok I2.g e1 (by omega)
      have cc:=e3.cells
      have hcr:(bs s'.cells)= .row 1 (s'.cells.map λx=>[.p (.int .i64 x)]):=rfl
      rw[hcr] at cc
      simp-implicitDefEqProofs[aa,cR,e6,o11,o12,hn,hm,cc,hc0]
      exact⟨by omega,finO' _ hcv⟩
    obtain⟨a',b',hk⟩:=kids2 h1 (by omega)
    have hgb:e.kids[1]?=some b':=by rw[hk];rfl
    have hkb:=b'.cs_eq
    by_cases o10:e.op=10
    ·by_cases hn0:n=0
     ·simp-implicitDefEqProofs[aa,cR,e6,o11,o12,o10,hn0]
      exact finO' 0 ⟨by omega,by omega⟩
     ·simp-implicitDefEqProofs[aa,cR,e6,o11,o12,o10,hn0,hgb,hkb]
      refine(cO b').mono ?_
      rintro z h3 ⟨rfl,os,rfl⟩
      simp-implicitDefEqProofs[aa]
      refine(iK G _).use ?_
      simp-implicitDefEqProofs[]
      exact finO _ _ (ip _)
    ·simp-implicitDefEqProofs[aa,cR,e6,o11,o12,o10,hgb,hkb]
     refine(cO b').mono ?_
     rintro z h3 ⟨rfl,os,rfl⟩
     simp-implicitDefEqProofs[aa, ↓cR2]
     exact finO 0 _ ⟨by omega,by omega⟩
  | @and0 _ _ _ _ a b' _ h1 h2 h3=>
    have ha:a∈e.kids:=by rw[h2];simp
    have n1:¬e.op=1:=by omega
    have n2:¬e.op=2:=by omega
    have hg:e.kids[0]?=some a:=by rw[h2];rfl
    have hka:=a.cs_eq
    simp-implicitDefEqProofs[aD,hec,hsl, ↓aR, ↓aV,aL,ca,hg,hka,n1,n2,hop]
    rw[←hbox]
    refine first a _ _ _ ha h3 ?_
    intro n' sid1 hh2 e1 e2 e3 E2 A2 e4 e5 e6 e7 I2
    have hnn:=e2 _ rfl
    have cR:=e3.run
    simp only[bt,di] at cR e3
    subst hnn
    simp only[aL] at cR
    rw[hbox] at e6
    simp-implicitDefEqProofs[aa,cR,e6,h1]
    exact⟨0,sid1,rfl,⟨by omega,by omega⟩,(λm h=>by cases h;rfl),e3,e4,e5⟩
  | @not _ _ _ _ a _ n h1 h2 h3=>
    have ha:a∈e.kids:=by rw[h2];simp
    have n1:¬e.op=1:=by omega
    have n2:¬e.op=2:=by omega
    have hg:e.kids[0]?=some a:=by rw[h2];rfl
    have hka:=a.cs_eq
    simp-implicitDefEqProofs[aD,hec,hsl, ↓aR, ↓aV,aL,ca,hg,hka,n1,n2,hop]
    rw[←hbox]
    refine first a _ _ _ ha h3 ?_
    intro n' sid1 hh2 e1 e2 e3 E2 A2 e4 e5 e6 e7 I2
    have hnn:=e2 _ rfl
    have cR:=e3.run
    simp only[bt,di] at cR e3
    subst hnn
    simp only[aL] at cR
    rw[hbox] at e6
    simp-implicitDefEqProofs[aa,cR,e6,h1]
    refine(iK G _).use ?_
    simp-implicitDefEqProofs[]
    exact⟨_,sid1,rfl,ip _,(λm h=>by cases h;rfl),e3,e4,e5⟩
  | @at_ _ _ _ _ a _ n m h1 h2 h3 h4 h5=>
    have ha:a∈e.kids:=by rw[h2];simp
    have n1:¬e.op=1:=by omega
    have n2:¬e.op=2:=by omega
    have hg:e.kids[0]?=some a:=by rw[h2];rfl
    have hka:=a.cs_eq
    simp-implicitDefEqProofs[aD,hec,hsl, ↓aR, ↓aV,aL,ca,hg,hka,n1,n2,hop]
    rw[←hbox]
    refine first a _ _ _ ha h3 ?_
    intro n' sid1 hh2 e1 e2 e3 E2 A2 e4 e5 e6 e7 I2
    have hnn:=e2 _ rfl
    have cR:=e3.run
    simp only[bt,di] at cR e3
    subst hnn
    have cc:=e3.cells
    have hcr:(bs s'.cells)= .row 1 (s'.cells.map λx=>[.p (.int .i64 x)]):=rfl
    rw[hcr] at cc
    have hn16:¬(16:Int)<=n:=by omega
    have hmv:V5 m:=I2.g.cells _ (VD h5)
    simp only[aL] at cR
    rw[hbox] at e6
    simp-implicitDefEqProofs[aa,cR,e6,h1,hn16,cc,h4,h5]
    exact⟨by omega,m,sid1,rfl,hmv,(λm h=>by cases h;rfl),e3,e4,e5⟩
  | @atS _ _ _ _ a _ n h1 h2 h3 h4=>
    have ha:a∈e.kids:=by rw[h2];simp
    have n1:¬e.op=1:=by omega
    have n2:¬e.op=2:=by omega
    have hg:e.kids[0]?=some a:=by rw[h2];rfl
    have hka:=a.cs_eq
    simp-implicitDefEqProofs[aD,hec,hsl, ↓aR, ↓aV,aL,ca,hg,hka,n1,n2,hop]
    rw[←hbox]
    refine first a _ _ _ ha h3 ?_
    intro n' sid1 hh2 e1 e2 e3 E2 A2 e4 e5 e6 e7 I2
    have hnn:=e2 _ rfl
    have cR:=e3.run
    simp only[bt,di] at cR e3
    subst hnn
    have hst:=AQ G (c:=2) cR
    simp only[aL] at cR
    rw[hbox] at e6
    simp-implicitDefEqProofs[aa,cR,e6,h1,h4]
    refine hst.mono ?_
    rintro z h3 ⟨rfl,rfl⟩
    simp-implicitDefEqProofs[aa]
    exact⟨0,sid1,rfl,⟨by omega,by omega⟩,(λm h=>by cases h),e3.ended,e4.set (by simp) _,e5⟩
  | @and1 _ _ _ _ a b' s1 n _ m h1 h2 h3 h4 h5=>
    have ha:a∈e.kids:=by rw[h2];simp
    have n1:¬e.op=1:=by omega
    have n2:¬e.op=2:=by omega
    have hg:e.kids[0]?=some a:=by rw[h2];rfl
    have hka:=a.cs_eq
    simp-implicitDefEqProofs[aD,hec,hsl, ↓aR, ↓aV,aL,ca,hg,hka,n1,n2,hop]
    rw[←hbox]
    refine first a _ _ _ ha h3 ?_
    intro n' sid1 hh2 e1 e2 e3 E2 A2 e4 e5 e6 e7 I2
    have hnn:=e2 _ rfl
    have cR:=e3.run
    simp only[bt,di] at cR e3
    have hb:b'∈e.kids:=by rw[h2];simp
    have hgb:e.kids[1]?=some b':=by rw[h2];rfl
    have hkb:=b'.cs_eq
    have e6':=e6
    subst hnn
    simp only[aL] at cR
    rw[hbox] at e6
    simp-implicitDefEqProofs[aa,cR,e6,h1,h4,hgb,hkb]
    refine second b' _ _ _ _ _ _ hb h5 I2 e3 E2 A2 e4 e5 e6' e7 ?_
    intro n2 sid2 h3 i1 i2 i3 i4 i5 i6 i7
    have:=i2 _ rfl
    subst this
    simp-implicitDefEqProofs[aa]
    refine(iK G _).use ?_
    simp-implicitDefEqProofs[]
    exact⟨_,sid2,rfl,ip _,(λm h=>by cases h;simp),i3,i4,i5⟩
  | @andS _ _ _ _ a b' s1 n _ c h1 h2 h3 h4 h5=>
    have ha:a∈e.kids:=by rw[h2];simp
    have n1:¬e.op=1:=by omega
    have n2:¬e.op=2:=by omega
    have hg:e.kids[0]?=some a:=by rw[h2];rfl
    have hka:=a.cs_eq
    simp-implicitDefEqProofs[aD,hec,hsl, ↓aR, ↓aV,aL,ca,hg,hka,n1,n2,hop]
    rw[←hbox]
    refine first a _ _ _ ha h3 ?_
    intro n' sid1 hh2 e1 e2 e3 E2 A2 e4 e5 e6 e7 I2
    have hnn:=e2 _ rfl
    have cR:=e3.run
    simp only[bt,di] at cR e3
    have hb:b'∈e.kids:=by rw[h2];simp
    have hgb:e.kids[1]?=some b':=by rw[h2];rfl
    have hkb:=b'.cs_eq
    have e6':=e6
    subst hnn
    simp only[aL] at cR
    rw[hbox] at e6
    simp-implicitDefEqProofs[aa,cR,e6,h1,h4,hgb,hkb]
    refine second b' _ _ _ _ _ _ hb h5 I2 e3 E2 A2 e4 e5 e6' e7 ?_
    intro n2 sid2 h3 i1 i2 i3 i4 i5 i6 i7
    simp-implicitDefEqProofs[aa]
    refine(iK G _).use ?_
    simp-implicitDefEqProofs[]
    exact⟨_,sid2,rfl,ip _,(λm h=>by cases h),i3,i4,i5⟩
  | @bin _ _ _ _ a b' s1 n _ m q h1 h2 h3 h4 h5 h6=>
    have ha:a∈e.kids:=by rw[h3];simp
    have n1:¬e.op=1:=by omega
    have n2:¬e.op=2:=by omega
    have hg:e.kids[0]?=some a:=by rw[h3];rfl
    have hka:=a.cs_eq
    simp-implicitDefEqProofs[aD,hec,hsl, ↓aR, ↓aV,aL,ca,hg,hka,n1,n2,hop]
    rw[←hbox]
    refine first a _ _ _ ha h4 ?_
    intro n' sid1 hh2 e1 e2 e3 E2 A2 e4 e5 e6 e7 I2
    have hnn:=e2 _ rfl
    have cR:=e3.run
    simp only[bt,di] at cR e3
    have hb:b'∈e.kids:=by rw[h3];simp
    have hgb:e.kids[1]?=some b':=by rw[h3];rfl
    have hkb:=b'.cs_eq
    have e6':=e6
    have o10:¬e.op=10:=by omega
    have o11:¬e.op=11:=by omega
    have o12:¬e.op=12:=by omega
    subst hnn
    simp only[aL] at cR
    rw[hbox] at e6
    simp-implicitDefEqProofs[aa,cR,e6,o10,o11,o12,hgb,hkb]
    refine second b' _ _ _ _ _ _ hb h5 I2 e3 E2 A2 e4 e5 e6' e7 ?_
    intro n2 sid2 h3 i1 i2 i3 i4 i5 i6 i7
    have:=i2 _ rfl
    subst this
    have dR:=i3.run
    simp only[bt,di,aL] at dR i3
    rw[hbox] at i6
    simp-implicitDefEqProofs[aa,dR,i6]
    have hT:=HE G e.op _ _ h1 h2 e1 i1
    rw[h6] at hT
    simp only[Dv] at hT
    refine hT.use ?_
    simp-implicitDefEqProofs[]
    exact⟨_,sid2,rfl,Ch e1 i1 h6,(λm h=>by cases h;rfl),i3,i4,i5⟩
  | @binS _ _ _ _ a b' s1 n _ c h1 h2 h3 h4 h5=>
    have ha:a∈e.kids:=by rw[h3];simp
    have n1:¬e.op=1:=by omega
    have n2:¬e.op=2:=by omega
    have hg:e.kids[0]?=some a:=by rw[h3];rfl
    have hka:=a.cs_eq
    simp-implicitDefEqProofs[aD,hec,hsl, ↓aR, ↓aV,aL,ca,hg,hka,n1,n2,hop]
    rw[←hbox]
    refine first a _ _ _ ha h4 ?_
    intro n' sid1 hh2 e1 e2 e3 E2 A2 e4 e5 e6 e7 I2
    have hnn:=e2 _ rfl
    have cR:=e3.run
    simp only[bt,di] at cR e3
    have hb:b'∈e.kids:=by rw[h3];simp
    have hgb:e.kids[1]?=some b':=by rw[h3];rfl
    have hkb:=b'.cs_eq
    have e6':=e6
    have o10:¬e.op=10:=by omega
    have o11:¬e.op=11:=by omega
    have o12:¬e.op=12:=by omega
    subst hnn
    simp only[aL] at cR
    rw[hbox] at e6
    simp-implicitDefEqProofs[aa,cR,e6,o10,o11,o12,hgb,hkb]
    refine second b' _ _ _ _ _ _ hb h5 I2 e3 E2 A2 e4 e5 e6' e7 ?_
    intro n2 sid2 h3 i1 i2 i3 i4 i5 i6 i7
    have dR:=i3.run
    simp only[bt,di,aL] at dR i3
    simp-implicitDefEqProofs[aa,dR]
    exact⟨0,sid2,rfl,⟨by omega,by omega⟩,(λm h=>by cases h),i3,i4,i5⟩
  | @binD _ _ _ _ a b' s1 n _ m h1 h2 h3 h4 h5 h6=>
    have ha:a∈e.kids:=by rw[h3];simp
    have n1:¬e.op=1:=by omega
    have n2:¬e.op=2:=by omega
    have hg:e.kids[0]?=some a:=by rw[h3];rfl
    have hka:=a.cs_eq
    simp-implicitDefEqProofs[aD,hec,hsl, ↓aR, ↓aV,aL,ca,hg,hka,n1,n2,hop]
    rw[←hbox]
    refine first a _ _ _ ha h4 ?_
    intro n' sid1 hh2 e1 e2 e3 E2 A2 e4 e5 e6 e7 I2
    have hnn:=e2 _ rfl
    have cR:=e3.run
    simp only[bt,di] at cR e3
    have hb:b'∈e.kids:=by rw[h3];simp
    have hgb:e.kids[1]?=some b':=by rw[h3];rfl
    have hkb:=b'.cs_eq
    have e6':=e6
    have o10:¬e.op=10:=by omega
    have o11:¬e.op=11:=by omega
    have o12:¬e.op=12:=by omega
    subst hnn
    simp only[aL] at cR
    rw[hbox] at e6
    simp-implicitDefEqProofs[aa,cR,e6,o10,o11,o12,hgb,hkb]
    refine second b' _ _ _ _ _ _ hb h5 I2 e3 E2 A2 e4 e5 e6' e7 ?_
    intro n2 sid2 h3 i1 i2 i3 i4 i5 i6 i7
    have:=i2 _ rfl
    subst this
    have dR:=i3.run
    simp only[bt,di] at dR i3
    have hst:=AQ G (c:=1) dR
    simp only[aL] at dR
    rw[hbox] at i6
    simp-implicitDefEqProofs[aa,dR,i6]
    have hT:=HE G e.op _ _ h1 h2 e1 i1
    rw[h6] at hT
    simp only[Dv] at hT
    refine hT.use ?_
    simp-implicitDefEqProofs[]
    refine hst.mono ?_
    rintro z h3 ⟨rfl,rfl⟩
    simp-implicitDefEqProofs[aa]
    exact⟨0,sid2,rfl,⟨by omega,by omega⟩,(λm h=>by cases h),i3.ended,i4.set (by simp) _,i5⟩
end
section
variable (G:al)
theorem nj(b:Bool):VF Tryz.prog G lv [.p (.bool b)] (.p (.int .i64 (tr5 b))):=by
 refine AC.go Aq ?_
 cases b<;>simp-implicitDefEqProofs[pr,tr5]
def yR:Option Int->AV
 |some q=> .tup [.p (.int .i64 q),.p (.bool true)]
 |none=> .tup [.p (.int .i64 0),.p (.bool false)]
theorem Lp(a b:Int):VF Tryz.prog G iy [.p (.int .i64 11),.p (.int .i64 a),.p (.int .i64 b)] (.tup [.p (.int .i64 (tr5 (decide (a=0)))),.p (.bool true)]):=by
 refine AC.go uz ?_
 simp-implicitDefEqProofs[nL]
 refine(nj G _).use ?_
 simp-implicitDefEqProofs[]
theorem Dm(o a b:Int)(ho:3<=o)(h9:o<=10)(ha:V5 a)(hb:V5 b):VF Tryz.prog G iy [.p (.int .i64 o),.p (.int .i64 a),.p (.int .i64 b)] (yR (ar5 o a b)):=by
 obtain⟨a0,a1⟩:=ha
 obtain⟨b0,b1⟩:=hb
 refine AC.go uz ?_
 have hm:a*b<=65025:=by
  have h1:=Int.mul_le_mul_of_nonneg_right a1 b0
  omega
 have hm0:0<=a*b:=Int.mul_nonneg a0 b0
 have ho':o=3\/o=4\/o=5\/o=6\/o=7\/o=8\/o=9\/o=10:=by omega
 rcases ho' with rfl|rfl|rfl|rfl|rfl|rfl|rfl|rfl
 all_goals simp-implicitDefEqProofs[nL,ar5,Dr]
 ·rw[ab (by omega) (by omega),Int.tmod_eq_emod_of_nonneg (by omega)];rfl
 ·have hw:IntKind.i64.wrap (a-b)=a-b:=ab (by omega) (by omega)
  rw[hw,ab (by omega) (by omega),Int.tmod_eq_emod_of_nonneg (by omega)]
  have:(a-b+256)%256=(a-b)%256:=by omega
  rw[this];rfl
 ·rw[ab (by omega) (by omega),Int.tmod_eq_emod_of_nonneg (by omega)];rfl
 ·refine bh (λh=>?_) (λh=>?_)
  ·simp at h
   simp-implicitDefEqProofs[h,yR]
  ·simp at h
   simp-implicitDefEqProofs[h,yR]
   rw[Int.tdiv_eq_ediv_of_nonneg (by omega)]
   have h1:a/b<=a:=Int.ediv_le_self b a0
   have h2:0<=a/b:=Int.ediv_nonneg a0 b0
   exact ab (by omega) (by omega)
 ·refine bh (λh=>?_) (λh=>?_)
  ·simp at h
   simp-implicitDefEqProofs[h,yR]
  ·simp at h
   simp-implicitDefEqProofs[h,yR]
   rw[Int.tmod_eq_emod_of_nonneg (by omega)]
 ·refine(nj G _).use ?_
  simp-implicitDefEqProofs[yR]
 ·refine(nj G _).use ?_
  simp-implicitDefEqProofs[yR]
 ·by_cases h:a=0
  ·simp-implicitDefEqProofs[h]
   refine(nj G _).use ?_
   simp-implicitDefEqProofs[yR]
  ·simp-implicitDefEqProofs[h]
   refine(nj G _).use ?_
   simp-implicitDefEqProofs[yR]
end
section
def du:O5 Int->ARes
 | .ok n=> .ret (.p (.int .i64 n))
 | .st c=> .pan bH (.int .i64 c)
structure PL (M:Nat) (l:List Fd) (fuel sid:Nat) (h:List AO) (s':S5) (sv':AV) (sid':Nat) (h':List AO):Prop where
 run:MI M l fuel sv' sid' s' h'
 fr:Fr [M,sid] h h'
 fs:sid'=sid\/h.length<=sid'
def PxL(M:Nat)(l:List Fd)(fuel sid:Nat)(h:List AO)(s':S5)(r:O5 Int)(x:ARes)(h':List AO):Prop:=x=du r/\∃sv' sid',PL M l fuel sid h s' sv' sid' h'
structure CI (h:List AO) (u:AV) (v:List Sc5) (I:List Nat) (M sid:Nat):Prop where
 chn:Chn h u v I
 nd:I.Nodup
 sn:sid∉I
 mn:M∉I
section
variable {M:Nat} {l:List Fd} {fuel sid:Nat} {h h' h2 os:List AO} {s s1 s':S5} {sv sv1 sv':AV} {sid1 sid':Nat} {u:AV} {v:List Sc5} {I:List Nat}
theorem CI.more(C:CI h u v I M sid)(os:List AO):CI (h++os) u v I M sid:=⟨C.chn.more os,C.nd,C.sn,C.mn⟩
theorem PL.from(P:PL M l fuel sid (h++os) s' sv' sid' h'):PL M l fuel sid h s' sv' sid' h':=⟨P.run,P.fr.from,by
 rcases P.fs with e|e
 ·exact .inl e
 ·exact .inr (by simp at e;omega)⟩
theorem CI.after(C:CI h u v I M sid)(P:PL M l fuel sid h s' sv' sid' h'):CI h' u v I M sid':=
 ⟨C.chn.frame λi hi=>P.fr.2 i (C.chn.lt i hi) (by simp only[VL,Wa,or_false,not_or];exact⟨λe=>C.mn (e▸hi),λe=>C.sn (e▸hi)⟩),C.nd,λhm=>by
   rcases P.fs with e|e
   ·exact C.sn (e▸hm)
   ·have:=C.chn.lt _ hm;omega,C.mn⟩
theorem PL.keep(H:MI M l fuel sv sid s h)(P:PL M l fuel sid (h++os) s' sv' sid' h'){i:Nat}(hi:i<os.length):h'[h.length+i]?=os[i]?:=by
 have a:=H.lt
 have b:=H.said.lt
 rw[P.fr.2 (h.length+i) (by simp;omega) (by simp;omega),VG (by omega),Wi]
theorem PL.trans(P:PL M l fuel sid h s1 sv1 sid1 h2)(Q:PL M l fuel sid1 h2 s' sv' sid' h'):PL M l fuel sid h s' sv' sid' h':=by
 refine⟨Q.run,P.fr.trans Q.fr λi hi=>?_,?_⟩
 ·have:=P.fs
  simp only[VL,Wa,or_false] at hi⊢
  omega
 ·have:=P.fs
  have:=Q.fs
  have:=P.fr.1
  omega
theorem PL.refl(H:MI M l fuel sv sid s h)(os:List AO):PL M l fuel sid h s sv sid (h++os):=⟨H.more os,Fr.more _ _ _,.inl rfl⟩
end
variable (G:al)
def PxC(l:List Fd)(M k fuel:Nat)(e:Ex):Prop:=∀v s s' r,Ev l (.ex k v s e s' r)->In5 v s->∀u I sid sv h,MI M l fuel sv sid s h->CI h u v I M sid->
 AC Tryz.prog G bN [.ptr M 20 0 0,.agg (e.cs.map .p),u] h (PxL M l fuel sid h s' r)
inductive AgV (h:List AO) (lo sid:Nat):AV->List Int->Prop where
 |nn:AgV h lo sid .nils []
 |ss (aid:Nat) (xs:List Int):h[aid]?=some (bs xs)->lo<=aid->aid≠sid->AgV h lo sid (.sl aid 1 0 xs.length) xs
 |pp (xs:List Int):AgV h lo sid (.p (bu xs)) xs
def PcC(l:List Fd)(M k fuel:Nat):Prop:=∀us s s' r,Ev l (.cal k us s s' r)->(∀n∈us,V5 n)->G5 s->M5 s<=4000->∀av sid sv h,MI M l fuel sv sid s h->AgV h 0 sid av us->
 AC Tryz.prog G dC [.ptr M 20 0 0,.p (.int .i64 k),av] h (PxL M l fuel sid h s' r)
theorem QC{l:List Fd}{M k fuel:Nat}(hC:∀e:Ex,e.op=13->WfE l k e->(∀a∈e.kids,PxC G l M k fuel a)->PxC G l M k fuel e):∀(N:Nat) (e:Ex),e.sz<=N->WfE l k e->PxC G l M k fuel e:=by
 intro N
 induction N with
 |zero=>intro e he;have:=e.sz_eq;omega
 |succ N ih=>
  intro e hN W
  have hsz:=e.sz_eq
  have ihk:∀a∈e.kids,PxC G l M k fuel a:=λa ha=>ih a (by have:=bQ ha;omega) (W.kid ha)
  by_cases hop:e.op=13
  ·exact hC e hop W ihk
  intro v s s' r hE I0 u I sid sv h H C
  have hec:=e.cs_eq
  have hkl:=bG e.kids
  have hsl:exL e.kids= .lst 4 (e.kids.map Ex.cs):=rfl
  have fin0:∀n os,PxL M l fuel sid h s (.ok n) (.ret (.p (.int .i64 n))) (h++os):=λn os=>⟨rfl,_,_,PL.refl H os⟩
  obtain⟨e0,rfl,_,hue⟩:=C.chn.is
  obtain⟨box,hbox⟩:∃box,box=AO.row 4 [[.p (.int .i64 e.op),.p (.int .i64 e.n),.p (.str e.name),.p (.lst 4 (e.kids.map Ex.cs))]]:=⟨_,rfl⟩
  have first:∀a s1 r1 (Q:ARes->List AO->Prop),a∈e.kids->Ev l (.ex k v s a s1 r1)->(∀sv1 sid1 h2,PL M l fuel sid (h++[box]) s1 sv1 sid1 h2->CI h2 (.ptr e0 2 0 0) v I M sid1->h2[h.length]?=some box->In5 v s1->(∀n,r1= .ok n->V5 n)->Q (du r1) h2)->
   AC Tryz.prog G bN [.ptr M 20 0 0,.agg [.p (.int .i64 a.op),.p (.int .i64 a.n),.p (.str a.name),.p (exL a.kids)],.ptr e0 2 0 0] (h++[box]) Q:=λa s1 r1 Q ha hE1 hq=>by
   have hac:a.cs.map AV.p=[.p (.int .i64 a.op),.p (.int .i64 a.n),.p (.str a.name),.p (exL a.kids)]:=by rw[a.cs_eq];rfl
   rw[←hac]
   refine(ihk a ha v s s1 r1 hE1 I0 _ I sid sv _ (H.more [box]) (C.more [box])).mono ?_
   rintro z h2 ⟨rfl,sv1,sid1,P⟩
   have I1:=I0.ex hE1
   exact hq sv1 sid1 h2 P ((C.more [box]).after P) (by have:=PL.keep H P (i:=0) (by simp);simpa using this) I1.1 I1.2
  have second:∀a s1 s2 r2 sv1 sid1 h2 (Q:ARes->List AO->Prop),a∈e.kids->Ev l (.ex k v s1 a s2 r2)->In5 v s1->PL M l fuel sid (h++[box]) s1 sv1 sid1 h2->CI h2 (.ptr e0 2 0 0) v I M sid1->
   (∀sv2 sid2 h3,PL M l fuel sid (h++[box]) s2 sv2 sid2 h3->h3[h.length]?=some box->In5 v s2->(∀n,r2= .ok n->V5 n)->Q (du r2) h3)->
   AC Tryz.prog G bN [.ptr M 20 0 0,.agg [.p (.int .i64 a.op),.p (.int .i64 a.n),.p (.str a.name),.p (exL a.kids)],.ptr e0 2 0 0] h2 Q:=λa s1 s2 r2 sv1 sid1 h2 Q ha hE1 I1 P1 C1 hq=>by
   have hac:a.cs.map AV.p=[.p (.int .i64 a.op),.p (.int .i64 a.n),.p (.str a.name),.p (exL a.kids)]:=by rw[a.cs_eq];rfl
   rw[←hac]
   refine(ihk a ha v s1 s2 r2 hE1 I1 _ I sid1 sv1 _ P1.run C1).mono ?_
   rintro z h3 ⟨rfl,sv2,sid2,P⟩
   have I2:=I1.ex hE1
   exact hq sv2 sid2 h3 (P1.trans P) (by have:=PL.keep H (P1.trans P) (i:=0) (by simp);simpa using this) I2.1 I2.2
  have kids2:3<=e.op->e.op<=10->∃a b,e.kids=[a,b]:=λq1 q2=>by
   obtain⟨d,hd⟩:=W.form
   obtain⟨f1,f2,_,_⟩:=Cs hd
   have hlen:e.kids.length=2:=by
    have:e.op=3\/e.op=4\/e.op=5\/e.op=6\/e.op=7\/e.op=8\/e.op=9\/e.op=10:=by omega
    rcases this with q|q|q|q|q|q|q|q<;>rw[q] at f1 f2<;>simp[loK,hiK] at f1 f2<;>omega
   match hk:e.kids,hlen with
   |[a,b],_=>exact⟨a,b,rfl⟩
  refine AC.go kg ?_
  cases hE with
  |num hop hv=>
   simp-implicitDefEqProofs[aw,hec,hop]
   exact fin0 _ _
  | @var _ _ _ _ n hop hv=>
    simp-implicitDefEqProofs[aw,hec,hop]
    refine(HZ G (C.more _).chn C.nd hv).mono ?_
    rintro z h1 ⟨rfl,e1,rfl,m,c,w,g1,g2,g3,g4,g5⟩
    have hq:=zm e.name c
    rw[g3] at hq
    simp-implicitDefEqProofs[aa,g1,g2,hq]
    exact fin0 _ _
  |call h0 _ _ _ _=>exact(hop h0).elim
  |callS h0 _=>exact(hop h0).elim
  | @firstS _ _ _ _ a rr _ c h1 h2 h3 h4=>
    have ha:a∈e.kids:=by rw[h3];simp
    have n1:¬e.op=1:=by omega
    have n2:¬e.op=2:=by omega
    have hg:e.kids[0]?=some a:=by rw[h3];rfl
    have hka:=a.cs_eq
    by_cases o10:e.op=10
    ·rw[o10] at hbox
     simp-implicitDefEqProofs[aw,hec,hsl,hg,hka,o10]
     rw[←hbox]
     refine first a _ _ _ ha h4 λsv1 sid1 h2 P C1 b1 I1 hv=>?_
     simp-implicitDefEqProofs[du]
     exact⟨rfl,sv1,sid1,P.from⟩
    by_cases o12:e.op=12
    ·rw[o12] at hbox
     simp-implicitDefEqProofs[aw,hec,hsl,hg,hka,o12]
     rw[←hbox]
     refine first a _ _ _ ha h4 λsv1 sid1 h2 P C1 b1 I1 hv=>?_
     simp-implicitDefEqProofs[du]
     exact⟨rfl,sv1,sid1,P.from⟩
    simp-implicitDefEqProofs[aw,hec,hsl,hg,hka,n1,n2,hop,o10,o12]
    rw[←hbox]
    refine first a _ _ _ ha h4 λsv1 sid1 h2 P C1 b1 I1 hv=>?_
    simp-implicitDefEqProofs[du]
    exact⟨rfl,sv1,sid1,P.from⟩
  | @and0 _ _ _ _ a b _ h1 h2 h3=>
    have ha:a∈e.kids:=by rw[h2];simp
    have n1:¬e.op=1:=by omega
    have n2:¬e.op=2:=by omega
    have hg:e.kids[0]?=some a:=by rw[h2];rfl
    have hka:=a.cs_eq
    rw[h1] at hbox
    simp-implicitDefEqProofs[aw,hec,hsl,hg,hka,n1,n2,hop,h1]
    rw[←hbox]
    refine first a _ _ _ ha h3 λsv1 sid1 h2 P C1 b1 I1 hv=>?_
    simp-implicitDefEqProofs[du,aa]
    exact⟨rfl,sv1,sid1,P.from⟩
  | @and1 _ _ _ _ a b s1 n _ m h1 h2 h3 h4 h5=>
    have ha:a∈e.kids:=by rw[h2];simp
    have n1:¬e.op=1:=by omega
    have n2:¬e.op=2:=by omega
    have hg:e.kids[0]?=some a:=by rw[h2];rfl
    have hka:=a.cs_eq
    have hb:b∈e.kids:=by rw[h2];simp
    have hgb:e.kids[1]?=some b:=by rw[h2];rfl
    have hkb:=b.cs_eq
    rw[h1] at hbox
    simp-implicitDefEqProofs[aw,hec,hsl,hg,hka,n1,n2,hop,h1]
    rw[←hbox]
    refine first a _ _ _ ha h3 λsv1 sid1 h2 P C1 b1 I1 hv=>?_
    rw[hbox] at b1
    simp-implicitDefEqProofs[du,aa,h4,b1,hsl,hgb,hkb]
    refine second b _ _ _ _ _ _ _ hb h5 I1 P C1 λsv2 sid2 h3 P2 b2 I2 hv2=>?_
    have hA:ar5 10 1 m=some (tr5 (decide (m≠0))):=by simp[ar5]
    have hT:=Dm G 10 1 m (by omega) (by omega) ⟨by omega,by omega⟩ (hv2 m rfl)
    rw[hA] at hT
    simp only[yR] at hT
    simp-implicitDefEqProofs[du,aa]
    refine hT.use ?_
    simp-implicitDefEqProofs[]
    exact⟨by simp[du],sv2,sid2,P2.from⟩
  | @andS _ _ _ _ a b s1 n _ c h1 h2 h3 h4 h5=>
    have ha:a∈e.kids:=by rw[h2];simp
    have n1:¬e.op=1:=by omega
    have n2:¬e.op=2:=by omega
    have hg:e.kids[0]?=some a:=by rw[h2];rfl
    have hka:=a.cs_eq
    have hb:b∈e.kids:=by rw[h2];simp
    have hgb:e.kids[1]?=some b:=by rw[h2];rfl
    have hkb:=b.cs_eq
    rw[h1] at hbox
    simp-implicitDefEqProofs[aw,hec,hsl,hg,hka,n1,n2,hop,h1]
    rw[←hbox]
    refine first a _ _ _ ha h3 λsv1 sid1 h2 P C1 b1 I1 hv=>?_
    rw[hbox] at b1
    simp-implicitDefEqProofs[du,aa,h4,b1,hsl,hgb,hkb]
    refine second b _ _ _ _ _ _ _ hb h5 I1 P C1 λsv2 sid2 h3 P2 b2 I2 hv2=>?_
    simp-implicitDefEqProofs[du]
    exact⟨rfl,sv2,sid2,P2.from⟩
  | @not _ _ _ _ a _ n h1 h2 h3=>
    have ha:a∈e.kids:=by rw[h2];simp
    have n1:¬e.op=1:=by omega
    have n2:¬e.op=2:=by omega
    have hg:e.kids[0]?=some a:=by rw[h2];rfl
    have hka:=a.cs_eq
    have hl1:e.kids.length=1:=by rw[h2];rfl
    rw[h1] at hbox
    simp-implicitDefEqProofs[aw,hec,hsl,hg,hka,n1,n2,hop,h1]
    rw[←hbox]
    refine first a _ _ _ ha h3 λsv1 sid1 h2 P C1 b1 I1 hv=>?_
    rw[hbox] at b1
    simp-implicitDefEqProofs[du,aa,b1,hsl,hl1]
    refine(Lp G n 0).use ?_
    simp-implicitDefEqProofs[]
    exact⟨by simp[du],sv1,sid1,P.from⟩
  | @at_ _ _ _ _ a s1 n m h1 h2 h3 h4 h5=>
    have ha:a∈e.kids:=by rw[h2];simp
    have n1:¬e.op=1:=by omega
    have n2:¬e.op=2:=by omega
    have hg:e.kids[0]?=some a:=by rw[h2];rfl
    have hka:=a.cs_eq
    rw[h1] at hbox
    simp-implicitDefEqProofs[aw,hec,hsl,hg,hka,n1,n2,hop,h1]
    rw[←hbox]
    refine first a _ _ _ ha h3 λsv1 sid1 h2 P C1 b1 I1 hv=>?_
    simp-implicitDefEqProofs[du,aa]
    refine(FU G P.run n (by omega)).mono ?_
    rintro z h3 hz
    rw[if_neg (by omega)] at hz
    obtain⟨rfl,rfl⟩:=hz
    have hm:=P.run.men
    simp only[jv] at hm
    have hcl:∀a b c d,(a::b::c::d::s'.cells.map (λn=>AV.p (.int .i64 n)))[4+n]?=some (.p (.int .i64 m)):=λa b c d=>by
     rw[show 4+n=n+1+1+1+1 by omega]
     simp[h5]
    simp-implicitDefEqProofs[aa,hm,hcl]
    exact⟨rfl,sv1,sid1,P.from⟩
  | @atS _ _ _ _ a _ n h1 h2 h3 h4=>
    have ha:a∈e.kids:=by rw[h2];simp
    have n1:¬e.op=1:=by omega
    have n2:¬e.op=2:=by omega
    have hg:e.kids[0]?=some a:=by rw[h2];rfl
    have hka:=a.cs_eq
    rw[h1] at hbox
    simp-implicitDefEqProofs[aw,hec,hsl,hg,hka,n1,n2,hop,h1]
    rw[←hbox]
    refine first a _ _ _ ha h3 λsv1 sid1 h2 P C1 b1 I1 hv=>?_
    simp-implicitDefEqProofs[du,aa]
    obtain⟨q0,q1⟩:=hv n rfl
    obtain⟨i,rfl⟩:∃i:Nat,n=(i:Int):=⟨n.toNat,by omega⟩
    refine(FU G P.run i (by omega)).mono ?_
    rintro z h3 hz
    rw[if_pos (by omega)] at hz
    obtain⟨rfl,rfl⟩:=hz
    simp-implicitDefEqProofs[]
    exact⟨rfl,sv1,sid1,P.from⟩
  | @bin _ _ _ _ a b s1 n _ m q h1 h2 h3 h4 h5 h6=>
    have ha:a∈e.kids:=by rw[h3];simp
    have n1:¬e.op=1:=by omega
    have n2:¬e.op=2:=by omega
    have hg:e.kids[0]?=some a:=by rw[h3];rfl
    have hka:=a.cs_eq
    have hb:b∈e.kids:=by rw[h3];simp
    have hgb:e.kids[1]?=some b:=by rw[h3];rfl
    have hkb:=b.cs_eq
    have hl2:e.kids.length=2:=by rw[h3];rfl
    have hgi:e.kids[1]'(by omega)=b:=(Vx.1 hgb).2
    have o10:¬e.op=10:=by omega
    have o12:¬e.op=12:=by omega
    simp-implicitDefEqProofs[aw,hec,hsl,hg,hka,n1,n2,hop,o10,o12]
    rw[←hbox]
    refine first a _ _ _ ha h4 λsv1 sid1 h2 P C1 b1 I1 hv=>?_
    rw[hbox] at b1
    simp-implicitDefEqProofs[du,aa,b1,hsl,hgi,hkb,hl2]
    refine second b _ _ _ _ _ _ _ hb h5 I1 P C1 λsv2 sid2 h3 P2 b2 I2 hv2=>?_
    rw[hbox] at b2
    have hT:=Dm G e.op n m h1 (by omega) (hv n rfl) (hv2 m rfl)
    rw[ar5,if_neg o10,h6] at hT
    simp only[yR] at hT
    simp-implicitDefEqProofs[du,aa,b2]
    refine hT.use ?_
    simp-implicitDefEqProofs[]
    exact⟨rfl,sv2,sid2,P2.from⟩
  | @binS _ _ _ _ a b s1 n _ c h1 h2 h3 h4 h5=>
    have ha:a∈e.kids:=by rw[h3];simp
    have n1:¬e.op=1:=by omega
    have n2:¬e.op=2:=by omega
    have hg:e.kids[0]?=some a:=by rw[h3];rfl
    have hka:=a.cs_eq
    have hb:b∈e.kids:=by rw[h3];simp
    have hgb:e.kids[1]?=some b:=by rw[h3];rfl
    have hkb:=b.cs_eq
    have hl2:e.kids.length=2:=by rw[h3];rfl
    have hgi:e.kids[1]'(by omega)=b:=(Vx.1 hgb).2
    have o10:¬e.op=10:=by omega
    have o12:¬e.op=12:=by omega
    simp-implicitDefEqProofs[aw,hec,hsl,hg,hka,n1,n2,hop,o10,o12]
    rw[←hbox]
    refine first a _ _ _ ha h4 λsv1 sid1 h2 P C1 b1 I1 hv=>?_
    rw[hbox] at b1
    simp-implicitDefEqProofs[du,aa,b1,hsl,hgi,hkb,hl2]
    refine second b _ _ _ _ _ _ _ hb h5 I1 P C1 λsv2 sid2 h3 P2 b2 I2 hv2=>?_
    simp-implicitDefEqProofs[du]
    exact⟨rfl,sv2,sid2,P2.from⟩
  | @binD _ _ _ _ a b s1 n _ m h1 h2 h3 h4 h5 h6=>
    have ha:a∈e.kids:=by rw[h3];simp
    have n1:¬e.op=1:=by omega
    have n2:¬e.op=2:=by omega
    have hg:e.kids[0]?=some a:=by rw[h3];rfl
    have hka:=a.cs_eq
    have hb:b∈e.kids:=by rw[h3];simp
    have hgb:e.kids[1]?=some b:=by rw[h3];rfl
    have hkb:=b.cs_eq
    have hl2:e.kids.length=2:=by rw[h3];rfl
    have hgi:e.kids[1]'(by omega)=b:=(Vx.1 hgb).2
    have o10:¬e.op=10:=by omega
    have o12:¬e.op=12:=by omega
    simp-implicitDefEqProofs[aw,hec,hsl,hg,hka,n1,n2,hop,o10,o12]
    rw[←hbox]
    refine first a _ _ _ ha h4 λsv1 sid1 h2 P C1 b1 I1 hv=>?_
    rw[hbox] at b1
    simp-implicitDefEqProofs[du,aa,b1,hsl,hgi,hkb,hl2]
    refine second b _ _ _ _ _ _ _ hb h5 I1 P C1 λsv2 sid2 h3 P2 b2 I2 hv2=>?_
    rw[hbox] at b2
    have hT:=Dm G e.op n m h1 (by omega) (hv n rfl) (hv2 m rfl)
    rw[ar5,if_neg o10,h6] at hT
    simp only[yR] at hT
    simp-implicitDefEqProofs[du,aa,b2]
    refine hT.use ?_
    simp-implicitDefEqProofs[]
    refine(GG G 1 h3).mono ?_
    rintro z h4 ⟨rfl,rfl⟩
    simp-implicitDefEqProofs[]
    exact⟨rfl,sv2,sid2,P2.from⟩
end
section
theorem iV{l:List Fd}(h:aI l=0):l≠[]/\∀f∈l,∀x∈f.body,az 4 x=true:=by
 have hp:=((pK l).1 h).1
 obtain⟨h1,h2,h3⟩:=(iY l).1 hp
 refine⟨?_,λf hf x hx=>?_⟩
 ·rintro rfl;simp at h1
 ·have:=h2 f hf
  simp only[iL,VS,VH] at this
  exact this.2 x hx
variable (G:al)
end
section
variable (G:al)
theorem LQ{R cid sid W nid n:Nat}{l:List Fd}{s:S5}{c x:Int}{b:Bool}{uv:AV}{h:List AO}(H:h[R]?=some (aL l sid cid s c true))(E:h[W]?=some (ca nid n uv b x))(hu:(uv= .nils/\n=0)\/∃uid,uv= .sl uid 1 0 n)(xs:List Sm):
 AC Tryz.prog G aK [.ptr R 7 0 0,.p (smL xs),.ptr W 4 0 0] h λz h'=>z= .ret (.tup [])/\h'=h:=by
 have hsl:smL xs= .lst 5 (xs.map Sm.cs):=rfl
 have hW:=(Vx.1 E).1
 have s0:∀z,(h.set W z)[W]?=some z:=λz=>VC hW
 have key:AC Tryz.prog G aK [.ptr R 7 0 0,.p (smL xs),.ptr W 4 0 0] h λz h'=>z= .ret (.tup [])/\h'=h.set W (ca nid n uv b x):=by
  refine AC.go lm ?_
  simp-implicitDefEqProofs[gk,hsl,E,ca]
  refine aN (λ_:Unit=>ah 65 [(7,.p (.int .i64 0)),(6,.p (.int .i64 n)),(0,.ptr R 7 0 0),(1,.p (.lst 5 (xs.map Sm.cs))),(2,.ptr W 4 0 0)]) (λ_=>h) (λ_=>True) (λ_=>0) () trivial ?_ ?_
  ·exact aY (VM _) (by simp[below];exact⟨(Vx.1 H).1,hW⟩)
  rintro⟨⟩-
  by_cases h0:xs.length=0
  ·rcases hu with⟨rfl,rfl⟩|⟨uid,rfl⟩
   ·simp-implicitDefEqProofs[h0,H,E,aL,ca,s0]
   ·simp-implicitDefEqProofs[h0,H,E,aL,ca,s0]
  ·have hpos:0<xs.length:=by omega
   rcases hu with⟨rfl,rfl⟩|⟨uid,rfl⟩
   ·simp-implicitDefEqProofs[hpos,H,E,aL,ca,s0]
   ·simp-implicitDefEqProofs[hpos,H,E,aL,ca,s0]
 refine key.mono ?_
 rintro z h' ⟨rfl,rfl⟩
 exact⟨rfl,mX E⟩
def yP(xs:List Int):O5 (List Int)->O5 (List Int)
 | .ok us=> .ok (xs++us)
 | .st c=> .st c
structure CaS where (i sid uw:Nat) (hh:List AO) (wv:AV) (xs:List Int) (s:S5) (o:Bool)
structure CaI (l:List Fd) (R cid k V sid nid uid:Nat) (uv:AV) (v:List Sc5) (b:Bool) (x:Int) (h:List AO) (e:Ex) (f:Fd) (s1:S5) (rr:O5 (List Int)) (a:CaS):Prop where
 run:RI R cid l a.sid a.s (if a.o then bt rr else 0) a.o a.hh
 env:EI V nid uid uv (ay v) b x a.hh
 ap:Ap R V a.sid cid nid uid
 fr:Fr [R,sid,cid] h a.hh
 fs:a.sid=sid\/h.length+5<=a.sid
 box:a.hh[h.length]?=some (.row 4 [[.p (.int .i64 13),.p (.int .i64 e.n),.p (.str e.name),.p (exL e.kids)]])
 fbox:a.hh[h.length+1]?=some (.row 3 [[.p (.str f.name),.p (am f.params),.p (smL f.body)]])
 nms:a.hh[h.length+3]?=some (cJ f.params)
 envW:a.hh[h.length+4]?=some (ca (h.length+3) f.params.length a.wv false 0)
 len:h.length+5<=a.hh.length
 vals:UV a.hh a.wv a.uw a.xs
 fu:a.uw=h.length+2\/h.length+5<=a.uw
 ul:a.uw<a.hh.length
 us:a.uw≠a.sid
 xl:a.xs.length=a.i
 il:a.i<=e.kids.length
 v5:∀n∈a.xs,V5 n
 go:a.o=false->In5 v a.s/\∃r2,Ev l (.exs k v a.s (e.kids.drop a.i) s1 r2)/\rr=yP a.xs r2
 over:a.o=true->a.s=s1/\∃c,rr= .st c
theorem Qt{l:List Fd}{R cid k:Nat}(hc:aI l=0)(hz:aH l<=1073741824)(hB:∀j,j<k->StC G l R cid j)(e:Ex)(hop:e.op=13)(W:WfE l k e)(ihk:∀a∈e.kids,ExC G l R cid k a)(v:List Sc5)(s s':S5)(r:O5 Int)(hE:Ev l (.ex k v s e s' r))(I:In5 v s)
 (V:Nat)(b:Bool)(x:Int)(sid nid uid:Nat)(uv:AV)(h:List AO)(H:RI R cid l sid s 0 false h)(E:EI V nid uid uv (ay v) b x h)(A:Ap R V sid cid nid uid):
 AC Tryz.prog G eC [.ptr R 7 0 0,.agg (e.cs.map .p),.ptr V 4 0 0] h (ExL R cid l sid h s' r):=by
 obtain⟨j,f,hj,hjk,hf,hpl⟩:=W.co e (by rw[Ex.pre_eq];simp) hop
 obtain⟨s1,rr,hX,hX2⟩:∃s1 rr,Ev l (.exs k v s e.kids s1 rr)/\((∃us,rr= .ok us/\Ev l (.cal j us s1 s' r))\/∃c,rr= .st c/\s'=s1/\r= .st c):=by
  cases hE with
  |call _ h1 h2 h3 h4=>
   rw[hj] at h2;cases h2
   exact⟨_,_,h1,.inl ⟨_,rfl,h4⟩⟩
  |callS _ h1=>exact⟨_,_,h1,.inr ⟨_,rfl,rfl,rfl⟩⟩
  |num h1 _=>omega
  |var h1 _=>omega
  |firstS h1 h2 _ _=>omega
  |and0 h1 _ _=>omega
  |and1 h1 _ _ _ _=>omega
  |andS h1 _ _ _ _=>omega
  |not h1 _ _=>omega
  |at_ h1 _ _ _ _=>omega
  |atS h1 _ _ _=>omega
  |bin _ h1 _ _ _ _=>omega
  |binS _ h1 _ _ _=>omega
  |binD _ h1 _ _ _ _=>omega
 have hec:=e.cs_eq
 have hsl:exL e.kids= .lst 4 (e.kids.map Ex.cs):=rfl
 have hfl:fdL l= .lst 3 (l.map Fd.cs):=rfl
 have hfc:f.cs=[.str f.name,am f.params,smL f.body]:=rfl
 have hpL:am f.params= .lst 1 (f.params.map λw=>[.str w]):=rfl
 have hfz:=cN (VD hf)
 have hfs:f.sz=1+f.name.length+(f.params.length+(f.params.map List.length).sum)+aC f.body:=rfl
 have hll:l.length<=aH l:=gC l
 have hjl:=(Vx.1 hf).1
 have aR:∀os,(h++os)[R]?=some (aL l sid cid s 0 false):=λos=>(H.more os).run
 refine AC.go tU ?_
 simp-implicitDefEqProofs[lS,hec,hop, ↓aR,aL]
 refine(GU G l e.name (by omega)).use ?_
 simp-implicitDefEqProofs[hj,ixI]
 refine⟨by simp[aR,aL],?_⟩
 simp-implicitDefEqProofs[hfl,hf,hfc,hpL]
 have hst:(AO.row 1 (List.map ((λx=>List.map AV.p x)∘λw=>[PV.str w]) f.params))=cJ f.params:=by simp[cJ,Function.comp_def]
 rw[hst,←hpL]
 refine⟨⟨by omega,by omega⟩,?_⟩
 obtain⟨hR0,hs0,hc0⟩:=H.lt
 have helt:=E.lt
 have hRV:=E.neR H
 obtain⟨hh0,hhh⟩:∃x,x=h++[.row 4 [[.p (.int .i64 13),.p (.int .i64 e.n),.p (.str e.name),.p (exL e.kids)]],.row 3 [[.p (.str f.name),.p (am f.params),.p (smL f.body)]],.dead,cJ f.params,.row 4 [[.sl (h.length+3) 1 0 f.params.length,.nils,.p (.bool false),.p (.int .i64 0)]]]:=⟨_,rfl⟩
 rw[←hhh]
 have J0:CaI l R cid k V sid nid uid uv v b x h e f s1 rr ⟨0,sid,h.length+2,hh0,.nils,[],s,false⟩:=by
  subst hhh
  refine⟨H.more _,E.more _,A,Fr.more _ _ _,.inl rfl,by simp,by simp,by simp,by simp[ca],by simp,.nn _,.inl rfl,by simp,?_,rfl,WA _,(λn h=>by cases h),(λ_=>⟨I,rr,hX,?_⟩),(λh=>by cases h)⟩
  ·simp only;omega
  ·cases rr<;>rfl
 clear hhh
 refine aN (λa:CaS=>ah 67 [(9,.p (.int .i64 a.i)),(8,.ptr (h.length+4) 4 0 0),(7,.ptr (h.length+1) 3 0 0),(4,.ptr h.length 4 0 0),(0,.ptr R 7 0 0),(2,.ptr V 4 0 0)]) (λa=>a.hh) (CaI l R cid k V sid nid uid uv v b x h e f s1 rr) (λa=>e.kids.length-a.i) ⟨0,sid,h.length+2,hh0,.nils,[],s,false⟩ J0 ?_ ?_
 ·refine aY (by have:=J0.len;simp only at this;omega) ?_
  have:=J0.len
  simp only at this
  simp[below]
  omega
 clear J0
 rintro⟨i,sidc,uw,hh,wv,xs,sc,o⟩ J
 have jR:=J.run.run
 have jB:=J.box
 have jF:=J.fbox
 have jN:=J.nms
 have jW:=J.envW
 have jl:=J.len
 have jc:=J.vals.cell
 simp only at jR jB jF jN jW jl jc
 simp-implicitDefEqProofs[jB,hsl]
 refine bh (λh1=>?_) (λh1=>?_)
 ·simp at h1
  have hg:=VA h1
  have ha:=VT h1
  generalize e.kids[i]=a at hg ha
  have hka:=a.cs_eq
  have hdr:e.kids.drop i=a::e.kids.drop (i+1):=by
   rw[Wz h1,(Vx.1 hg).2]
  have step:AC Tryz.prog G bi [.ptr R 7 0 0,.agg [.p (.int .i64 a.op),.p (.int .i64 a.n),.p (.str a.name),.p (exL a.kids)],.ptr V 4 0 0] hh λz h3=>∃n sid2 s2 o2,z= .ret (.p (.int .i64 n))/\V5 n/\RI R cid l sid2 s2 (if o2 then bt rr else 0) o2 h3/\Fr [R,sidc,cid] hh h3/\(sid2=sidc\/hh.length<=sid2)/\
   (o2=false->In5 v s2/\∃r2,Ev l (.exs k v s2 (e.kids.drop (i+1)) s1 r2)/\rr=yP (xs++[n]) r2)/\(o2=true->s2=s1/\∃c,rr= .st c):=by
   have hac:a.cs.map AV.p=[.p (.int .i64 a.op),.p (.int .i64 a.n),.p (.str a.name),.p (exL a.kids)]:=by rw[a.cs_eq];rfl
   rw[←hac]
   cases o with
   |true=>
    refine(yT G jR a _).mono ?_
    rintro z h3 ⟨rfl,os,rfl⟩
    exact⟨0,sidc,sc,true,rfl,⟨by omega,by omega⟩,J.run.more os,Fr.more _ _ _,.inl rfl,(λh=>by cases h),J.over⟩
   |false=>
    obtain⟨Ic,r2,hx,hr⟩:=J.go rfl
    simp only[hdr] at hx
    have hexc:=λs2 r3 (he:Ev l (.ex k v sc a s2 r3))=>ihk a ha v sc s2 r3 he Ic V b x sidc nid uid uv hh J.run J.env J.ap
    cases hx with
    | @cons _ _ _ _ _ s2 n _ ns h1 h2=>
      refine(hexc _ _ h1).mono ?_
      rintro z h3 ⟨n',sid2,rfl,e1,e2,e3,e4,e5⟩
      have:=e2 _ rfl
      subst this
      refine⟨n',sid2,s2,false,rfl,e1,e3,e4,e5,λ_=>⟨(Ic.ex h1).1,_,h2,?_⟩,λh=>by cases h⟩
      rw[hr];simp[yP]
    | @consS _ _ _ _ _ _ c h1=>
      refine(hexc _ _ h1).mono ?_
      rintro z h3 ⟨n',sid2,rfl,e1,e2,e3,e4,e5⟩
      rw[hr]
      exact⟨n',sid2,s1,true,rfl,e1,e3,e4,e5,(λh=>by cases h),λ_=>⟨rfl,c,rfl⟩⟩
    | @consT _ _ _ _ _ s2 n _ c h1 h2=>
      refine(hexc _ _ h1).mono ?_
      rintro z h3 ⟨n',sid2,rfl,e1,e2,e3,e4,e5⟩
      have:=e2 _ rfl
      subst this
      refine⟨n',sid2,s2,false,rfl,e1,e3,e4,e5,λ_=>⟨(Ic.ex h1).1,_,h2,?_⟩,λh=>by cases h⟩
      rw[hr];simp[yP]
  simp-implicitDefEqProofs[-AV.isCell,-AV.cells,Tl,SA,Qk,SW,Tw,QU,jB,jW,ca,jc.1,jc.2,hg,hka,hsl]
  refine step.mono ?_
  rintro z h3 ⟨n,sid2,s2,o2,rfl,t1,t2,t3,t4,t5,t6⟩
  have hlR:=J.run.lt
  simp only at hlR
  have hsc:=J.fs
  have hsv:=J.us
  have huf:=J.fu
  have hul:=J.ul
  simp only at hsc hsv huf hul
  have kB:=t3.2 (h.length) (by omega) (by simp;omega)
  have kF:=t3.2 (h.length+1) (by omega) (by simp;omega)
  have kN:=t3.2 (h.length+3) (by omega) (by simp;omega)
  have kW:=t3.2 (h.length+4) (by omega) (by simp;omega)
  have kU:=t3.2 uw (by omega) (by simp;omega)
  rw[jB] at kB
  rw[jF] at kF
  rw[jN] at kN
  rw[jW] at kW
  have kE:EI V nid uid uv (ay v) b x h3:=J.env.keep J.run J.ap t3
  have kA:Ap R V sid2 cid nid uid:=Ap.step J.env J.ap t4
  have kv:=J.vals
  simp only at kv
  have kl:=t3.1
  have hs2:sid2<h3.length:=t2.lt.2.1
  have hsb:sid2≠h.length+4/\sid2≠uw:=by rcases t4 with rfl|t4<;>omega
  obtain⟨hV0,hn0,hu0⟩:=helt
  have hxl:=J.xl
  simp only at hxl
  have hkb:e.kids.length<=1073741824:=by have:=W.sz;have:=bG e.kids;have:=e.sz_eq;omega
  have next:∀h5:List AO,h5.length=h3.length+1->(∀j,j<h3.length->j≠h.length+4->j≠uw->h5[j]?=h3[j]?)->h5[h.length+4]?=some (ca (h.length+3) f.params.length (.sl h3.length 1 0 (xs++[n]).length) false 0)->h5[h3.length]?=some (bs (xs++[n]))->
   CaI l R cid k V sid nid uid uv v b x h e f s1 rr ⟨i+1,sid2,h3.length,h5,.sl h3.length 1 0 (xs++[n]).length,xs++[n],s2,o2⟩:=λh5 g1 g2 g3 g4=>by
   refine⟨t2.frame (g2 _ (by omega) (by omega) (by omega)) (g2 _ (by omega) hsb.1 hsb.2) (g2 _ (by omega) (by omega) (by omega)),kE.frame (show h3.length<=h5.length by omega) (g2 _ (by omega) (by omega) (by omega)) (g2 _ (by omega) (by omega) (by omega)) (g2 _ (by omega) (by omega) (by omega)),kA,?_,?_,by rw[g2 _ (by omega) (by omega) (by omega)];exact kB,by rw[g2 _ (by omega) (by omega) (by omega)];exact kF,by rw[g2 _ (by omega) (by omega) (by omega)];exact kN,g3,by simp only;omega,.ss _ _ [] (by rw[Ws];exact g4),.inr (by simp only;omega),by simp only;omega,by simp only;omega,by simp[hxl],by simp only;omega,λm hm=>?_,t5,t6⟩
   ·refine⟨by simp only;omega,λj j1 j2=>?_⟩
    simp only[VL,Wa,or_false,not_or] at j2
    rw[g2 j (by omega) (by omega) (by omega),t3.2 j (by omega) ?_,J.fr.2 j j1 (by simp[j2])]
    simp only[VL,Wa,or_false,not_or]
    exact⟨j2.1,by omega,j2.2.2⟩
   ·simp only
    rcases t4 with rfl|t4
    ·exact hsc
    ·exact .inr (by omega)
   ·rcases VJ.1 hm with hm|hm
    ·exact J.v5 m hm
    ·rw[VK.1 hm];exact t1
  have hwi:=w1 (i:=i) (by have:=W.sz;have:=bG e.kids;have:=e.sz_eq;omega)
  have kWa:∀os,(h3++os)[h.length+4]?=some (ca (h.length+3) f.params.length wv false 0):=λos=>by rw[Vz (by omega)];exact kW
  have kWs:∀os z,(h3.set uw z++os)[h.length+4]?=some (ca (h.length+3) f.params.length wv false 0):=λos z=>by
   rw[Vz (by rw[We];omega),Vy (by omega)];exact kW
  have fin:∀(h5:List AO) (sl:List (Nat × AV)),CaI l R cid k V sid nid uid uv v b x h e f s1 rr ⟨i+1,sid2,h3.length,h5,.sl h3.length 1 0 (xs++[n]).length,xs++[n],s2,o2⟩->Aw.look sl 9= .p (.int .i64 (IntKind.i64.wrap ((i:Int)+1)))->Aw.look sl 8= .ptr (h.length+4) 4 0 0->Aw.look sl 7= .ptr (h.length+1) 3 0 0->Aw.look sl 4= .ptr h.length 4 0 0->Aw.look sl 0= .ptr R 7 0 0->Aw.look sl 2= .ptr V 4 0 0->
   ∃a:CaS,CaI l R cid k V sid nid uid uv v b x h e f s1 rr a/\e.kids.length-a.i<e.kids.length-i/\Wk h.length (ah 67 sl) h5 (ah 67 [(9,.p (.int .i64 a.i)),(8,.ptr (h.length+4) 4 0 0),(7,.ptr (h.length+1) 3 0 0),(4,.ptr h.length 4 0 0),(0,.ptr R 7 0 0),(2,.ptr V 4 0 0)]) a.hh:=λh5 sl J5 e9 e8 e7 e4 e0 e2=>by
   have hl5:=J5.len
   simp only at hl5
   refine⟨_,J5,by simp only;omega,aY (by omega) ?_⟩
   simp[below,e9,e8,e7,e4,e0,e2,hwi]
   omega
  cases kv with
  |nn=>
   simp-implicitDefEqProofs[aa,kW, ↓kWa,ca]
   refine fin _ _ (next _ (by simp) (λj j1 j2 j3=>?_) ?_ ?_) (by simp) (by simp) (by simp) (by simp) (by simp) (by simp)
   ·rw[Vy (by omega),Vz j1]
   ·rw[VC (by simp;omega)];rfl
   ·rw[Vy (by omega),VG (VM _),Nat.sub_self];rfl
  |ss _ _ t hu=>
   rw[hu] at kU
   simp-implicitDefEqProofs[aa,kW, ↓kWs,ca,kU,bs]
   refine⟨⟨by omega,by omega⟩,?_⟩
   refine fin _ _ (next _ (by simp) (λj j1 j2 j3=>?_) ?_ ?_) (by simp) (by simp) (by simp) (by simp) (by simp) (by simp)
   ·rw[Vy (by omega),Vz (by simpa using j1),Vy (by omega)]
   ·rw[VC (by simp;omega)];simp[ca]
   ·rw[Vy (by omega),VG (by simp)];simp[bs]
 ·simp at h1
  have hie:i=e.kids.length:=by have:=J.il;simp only at this;omega
  subst hie
  obtain⟨hR0',hs0',hc0'⟩:=J.run.lt
  simp only at hR0' hs0' hc0'
  have hsc:=J.fs
  have hsv:=J.us
  have huf:=J.fu
  have hul:=J.ul
  simp only at hsc hsv huf hul
  obtain⟨hV0,hn0,hu0⟩:=helt
  have hxl:=J.xl
  simp only at hxl
  simp-implicitDefEqProofs[jF]
  have hvu:=J.vals
  simp only at hvu
  cases o with
  |true=>
   obtain⟨e1,c,e2⟩:=J.over rfl
   simp only at e1
   subst e1
   rcases hX2 with⟨us,h3,_⟩|⟨c',h3,rfl,rfl⟩
   ·rw[e2] at h3;cases h3
   rw[e2] at h3
   cases h3
   have hrun:=J.run
   simp only[e2] at hrun
   refine(LQ G hrun.run jW (by
    cases hvu with
    |nn=>exact .inl ⟨rfl,by rw[hpl,←hxl];rfl⟩
    |ss _ _ t _=>exact .inr ⟨uw,by rw[hpl,←hxl]⟩) f.body).mono ?_
   rintro z h' ⟨rfl,rfl⟩
   have jR2:=hrun.run
   simp only[aL] at jR2
   simp-implicitDefEqProofs[aa,jR2]
   exact⟨0,sidc,rfl,⟨by omega,by omega⟩,(λm h=>by cases h),hrun,J.fr,by rcases hsc with e|e<;>omega⟩
  |false=>
   obtain⟨Ic,r2,hx,hr⟩:=J.go rfl
   simp only[List.drop_length] at hx Ic hr
   cases hx with
   |nil=>
   have hrr:rr= .ok xs:=by rw[hr];simp[yP]
   rcases hX2 with⟨us,h3,hcal⟩|⟨c',h3,_,_⟩
   case inr=>rw[hrr] at h3;cases h3
   rw[hrr] at h3
   cases h3
   cases hcal with
   | @cal _ f' _ _ v'' _ r'' q1 q2 q3=>
   rw[hf] at q1
   cases q1
   have hap:=kr hc hf
   have hflat:ay [f.params.zip xs]=f.params.zip xs:=by simp[ay]
   have hz1:(f.params.zip xs).map (·.1)=f.params:=List.map_fst_zip (by omega)
   have hz2:(f.params.zip xs).map (·.2)=xs:=List.map_snd_zip (by omega)
   have hzl:(f.params.zip xs).length=f.params.length:=by rw[List.length_zip];omega
   have IW:In5 [f.params.zip xs] s1:=by
    refine⟨Ic.g,λm hm y hy=>?_,vf hap q2,Ic.m,?_⟩
    ·rw[VK.1 hm] at hy
     exact J.v5 _ (by rw[show y.2=y.2 from rfl];have:=List.mem_map_of_mem (f:=Prod.snd) hy;rw[hz2] at this;exact this)
    ·rw[hflat,hzl]
     have:=Ic.m
     unfold M5 at this
     omega
   have EW:EI (h.length+4) (h.length+3) uw wv (ay [f.params.zip xs]) false 0 hh:=by
    rw[hflat]
    refine⟨by rw[hzl];exact jW,⟨[],by rw[hz1,Ws];exact jN⟩,by rw[hz2];exact hvu,by omega,hul⟩
   have AW:Ap R (h.length+4) sidc cid (h.length+3) uw:=⟨by omega,by omega,hsv,by omega,by omega,by omega⟩
   have hrun:=J.run
   simp only at hrun
   refine(hB j hjk f.body [f.params.zip xs] s1 v'' s' r'' (λy hy=>⟨4,(iV hc).2 f (VD hf) y hy⟩) (by omega) ⟨1,zJ hc hf⟩ q3 IW (h.length+4) 0 sidc (h.length+3) uw wv hh hrun EW AW).mono ?_
   rintro z h' ⟨sid',nid',uid',uv',rfl,p1,p2,p3,p4,p5,p6,p7⟩
   have pR:=p1.run
   have pW:=p2.env
   simp only[aL] at pR
   have hfr:Fr [R,sid,cid] h h':=by
    refine J.fr.trans p4 λy hy=>?_
    simp only[VL,Wa,or_false] at hy⊢
    rcases hy with rfl|rfl|rfl|rfl|rfl|rfl
    ·exact .inl (.inl rfl)
    ·rcases hsc with e|e
     ·exact .inl (.inr (.inl e))
     ·exact .inr (by omega)
    ·exact .inl (.inr (.inr rfl))
    ·exact .inr (by omega)
    ·exact .inr (by omega)
    ·exact .inr (by omega)
   have hsd:sid'=sid\/h.length<=sid':=by
    have hl0:=J.len
    simp only at hl0
    rcases p5 with e|e
    ·rw[e];rcases hsc with q|q<;>omega
    ·exact .inr (by omega)
   cases r'' with
   |st c=>
    simp only[di,bt] at pR p1
    simp-implicitDefEqProofs[aa,pR]
    exact⟨0,sid',rfl,⟨by omega,by omega⟩,(λm h=>by cases h),p1,hfr,hsd⟩
   |ok q=>
    simp only[di,bt] at pR p1
    simp-implicitDefEqProofs[aa,pR,pW,ca]
    have hgood:=(da q3 ⟨IW.g,IW.ge⟩).2.2.2
    cases q with
    |none=>exact⟨0,sid',rfl,⟨by omega,by omega⟩,(λm h=>by cases h;rfl),p1,hfr,hsd⟩
    |some n=>exact⟨n,sid',rfl,hgood n rfl,(λm h=>by cases h;rfl),p1,hfr,hsd⟩
end
section
theorem AgV.step{h h':List AO}{lo sid sid':Nat}{av:AV}{xs:List Int}(A:AgV h lo sid av xs)(e:∀i,lo<=i->i<h.length->i≠sid->h'[i]?=h[i]?)(hs:sid'=sid\/h.length<=sid'):AgV h' lo sid' av xs:=by
 cases A with
 |nn=>exact .nn
 |pp xs=>exact .pp xs
 |ss aid xs h1 h2 h3=>
  have hl:=(Vx.1 h1).1
  exact .ss aid xs (by rw[e aid h2 hl h3];exact h1) h2 (by omega)
theorem AgV.low{h:List AO}{lo lo' sid:Nat}{av:AV}{xs:List Int}(A:AgV h lo sid av xs)(hl:lo'<=lo):AgV h lo' sid av xs:=by
 cases A with
 |nn=>exact .nn
 |pp xs=>exact .pp xs
 |ss aid xs h1 h2 h3=>exact .ss aid xs h1 (VR hl h2) h3
theorem AgV.sl_inv{h:List AO}{lo sid nid n:Nat}{xs:List Int}(A:AgV h lo sid (.sl nid 1 0 n) xs):h[nid]?=some (bs xs)/\lo<=nid/\nid≠sid:=by
 generalize hz:AV.sl nid 1 0 n=z at A
 cases A with
 |nn=>cases hz
 |pp=>cases hz
 |ss aid _ h1 h2 h3=>
  simp only[AV.sl.injEq] at hz
  obtain⟨rfl,_⟩:=hz
  exact⟨h1,h2,h3⟩
structure CbS where (i sid:Nat) (sv:AV) (hh:List AO) (av:AV) (xs:List Int) (s:S5)
structure CbI (l:List Fd) (M k fuel sid:Nat) (u:AV) (v:List Sc5) (I:List Nat) (h:List AO) (box:AO) (e:Ex) (s1:S5) (rr:O5 (List Int)) (a:CbS):Prop where
 pl:PL M l fuel sid (h++[box]) a.s a.sv a.sid a.hh
 ci:CI a.hh u v I M a.sid
 args:AgV a.hh (h.length+1) a.sid a.av a.xs
 np:∀xs,a.av≠ .p (bu xs)
 xl:a.xs.length=a.i
 il:a.i<=e.kids.length
 v5:∀n∈a.xs,V5 n
 go:In5 v a.s/\∃r2,Ev l (.exs k v a.s (e.kids.drop a.i) s1 r2)/\rr=yP a.xs r2
variable (G:al)
theorem Fz{P:Program}{k:Nat}{c:AK}{ts:List AV}{h:List AO}{Q:Aw.AX->List AV->List AO->Prop}(n:Nat)(R:List AV->List AO->Prop)(Z:TypeId->PV->List AO->Prop)
 (h1:∀Q',(∀ts' h',R ts' h'->Q' (.exit n) ts' h')->(∀t v ts' h',Z t v h'->Q' (.pan t v) ts' h')->AKW P G k c ts h Q')(h2:∀ts' h',R ts' h'->Q (.exit n) ts' h')(h3:∀t v ts' h',Z t v h'->Q (.pan t v) ts' h'):AKW P G k c ts h Q:=h1 Q h2 h3
theorem NL{l:List Fd}{M k fuel:Nat}(hc:aI l=0)(hz:aH l<=1073741824)(hB:∀j,j<k->PcC G l M j fuel)(e:Ex)(hop:e.op=13)(W:WfE l k e)(ihk:∀a∈e.kids,PxC G l M k fuel a):PxC G l M k fuel e:=by
 intro v s s' r hE I0 u I sid sv h H C
 obtain⟨j,f,hj,hjk,hf,hpl⟩:=W.co e (by rw[Ex.pre_eq];simp) hop
 obtain⟨s1,rr,hX,hX2⟩:∃s1 rr,Ev l (.exs k v s e.kids s1 rr)/\((∃us,rr= .ok us/\Ev l (.cal j us s1 s' r))\/∃c,rr= .st c/\s'=s1/\r= .st c):=by
  cases hE with
  |call _ h1 h2 h3 h4=>
   rw[hj] at h2;cases h2
   exact⟨_,_,h1,.inl ⟨_,rfl,h4⟩⟩
  |callS _ h1=>exact⟨_,_,h1,.inr ⟨_,rfl,rfl,rfl⟩⟩
  |num h1 _=>omega
  |var h1 _=>omega
  |firstS h1 h2 _ _=>omega
  |and0 h1 _ _=>omega
  |and1 h1 _ _ _ _=>omega
  |andS h1 _ _ _ _=>omega
  |not h1 _ _=>omega
  |at_ h1 _ _ _ _=>omega
  |atS h1 _ _ _=>omega
  |bin _ h1 _ _ _ _=>omega
  |binS _ h1 _ _ _=>omega
  |binD _ h1 _ _ _ _=>omega
 have hec:=e.cs_eq
 have hsl:exL e.kids= .lst 4 (e.kids.map Ex.cs):=rfl
 have hll:l.length<=aH l:=gC l
 obtain⟨e0,rfl,_,hue⟩:=C.chn.is
 obtain⟨box,hbox⟩:∃box,box=AO.row 4 [[.p (.int .i64 13),.p (.int .i64 e.n),.p (.str e.name),.p (.lst 4 (e.kids.map Ex.cs))]]:=⟨_,rfl⟩
 refine AC.go kg ?_
 simp-implicitDefEqProofs[aw,hec,hsl,hop]
 rw[←hbox]
 have J0:CbI l M k fuel sid (.ptr e0 2 0 0) v I h box e s1 rr ⟨0,sid,sv,h++[box],.nils,[],s⟩:=by
  refine⟨⟨H.more _,Fr.refl _ _,.inl rfl⟩,C.more _,.nn,(λxs h=>by cases h),rfl,WA _,(λn h=>by cases h),I0,rr,hX,?_⟩
  cases rr<;>rfl
 have hmb:M<h.length:=H.lt
 have hsb:=H.said.lt
 refine Fz G 1 (λts' h'=>∃a,CbI l M k fuel sid (.ptr e0 2 0 0) v I h box e s1 rr a/\a.i=e.kids.length/\h'=a.hh/\∃z,ts'=ah 126 ((75,z)::[(74,.p (.int .i64 a.i)),(73,.p (.int .i64 e.kids.length)),(72,.p (.lst 4 (e.kids.map Ex.cs))),(9,a.av),(4,.ptr h.length 4 0 0),(0,.ptr M 20 0 0),(2,.ptr e0 2 0 0)]))
  (λt x h'=>∃c,t=bH/\x= .int .i64 c/\rr= .st c/\∃sv' sid',PL M l fuel sid h s1 sv' sid' h') (λQ' qE qP=>?_) ?_ ?_
 ·refine aN (λa:CbS=>ah 126 [(74,.p (.int .i64 a.i)),(73,.p (.int .i64 e.kids.length)),(72,.p (.lst 4 (e.kids.map Ex.cs))),(9,a.av),(4,.ptr h.length 4 0 0),(0,.ptr M 20 0 0),(2,.ptr e0 2 0 0)]) (λa=>a.hh) (CbI l M k fuel sid (.ptr e0 2 0 0) v I h box e s1 rr) (λa=>e.kids.length-a.i) ⟨0,sid,sv,h++[box],.nils,[],s⟩ J0 ?_ ?_
  ·refine aY (by simp) ?_
   simp[below]
   omega
  clear J0
  rintro⟨i,sidc,svc,hh,av,xs,sc⟩ J
  have jB:hh[h.length]?=some box:=by have:=PL.keep H J.pl (i:=0) (by simp);simpa using this
  have jl:=J.pl.fr.1
  simp only[VO,VV,List.length_nil] at jl
  have hxl:=J.xl
  have hil:=J.il
  simp only at hxl hil
  by_cases h1:i<e.kids.length
  ·have hg:=VA h1
   have ha:=VT h1
   obtain⟨a,hga⟩:∃a,a=e.kids[i]:=⟨_,rfl⟩
   rw[←hga] at hg ha
   have hka:=a.cs_eq
   have hdr:e.kids.drop i=a::e.kids.drop (i+1):=by
    rw[Wz h1,hga]
   obtain⟨Ic,r2,hx,hr⟩:=J.go
   simp only[hdr] at hx hr Ic
   simp-implicitDefEqProofs[h1,hg,hka]
   rw[←hga]
   have P0:PL M l fuel sid (h++[box]) sc svc sidc (hh++[.row 4 [a.cs.map .p]]):=⟨J.pl.run.more _,J.pl.fr.trans (Fr.more [] _ _) (λi hi=>by cases hi),J.pl.fs⟩
   have C0:CI (hh++[.row 4 [a.cs.map .p]]) (.ptr e0 2 0 0) v I M sidc:=J.ci.more _
   have hexc:=λs2 r3 (he:Ev l (.ex k v sc a s2 r3))=>ihk a ha v sc s2 r3 he Ic _ I sidc svc (hh++[.row 4 [a.cs.map .p]]) P0.run C0
   have hwi:=w1 (i:=i) (by have:=W.sz;have:=bG e.kids;have:=e.sz_eq;omega)
   have hav:=J.args
   have hnp:=J.np
   simp only at hav hnp
   have step:∀s2 n r4,Ev l (.ex k v sc a s2 (.ok n))->Ev l (.exs k v s2 (e.kids.drop (i+1)) s1 r4)->rr=yP (xs++[n]) r4->AC Tryz.prog G bN [.ptr M 20 0 0,.agg (a.cs.map .p),.ptr e0 2 0 0] (hh++[.row 4 [a.cs.map .p]]) λz h2=>z= .ret (.p (.int .i64 n))/\∃sv2 sid2,CI h2 (.ptr e0 2 0 0) v I M sid2/\PL M l fuel sid (h++[box]) s2 sv2 sid2 h2/\V5 n/\In5 v s2/\AgV h2 (h.length+1) sid2 av xs:=λs2 n r4 q1 q2 q3=>by
    refine(hexc _ _ q1).mono ?_
    rintro z h2 ⟨rfl,sv2,sid2,P⟩
    have Ie:=Ic.ex q1
    refine⟨rfl,sv2,sid2,C0.after P,P0.trans P,Ie.2 n rfl,Ie.1,AgV.step hav (λj j1 j2 j3=>?_) ?_⟩
    ·rw[P.fr.2 j (by simp;omega) (by simp only[VL,Wa,or_false,not_or];exact⟨by omega,j3⟩),Vz j2]
    ·rcases P.fs with q|q
     ·exact .inl q
     ·simp at q;exact .inr (by omega)
   have next:∀s2 n r4,Ev l (.exs k v s2 (e.kids.drop (i+1)) s1 r4)->rr=yP (xs++[n]) r4->∀sv2 sid2 h2,CI h2 (.ptr e0 2 0 0) v I M sid2->PL M l fuel sid (h++[box]) s2 sv2 sid2 h2->V5 n->In5 v s2->∀h5 nid,h2.length<=nid->(∀j,j<h2.length->j<h.length+1\/j=sid2->h5[j]?=h2[j]?)->h5[nid]?=some (bs (xs++[n]))->
    CbI l M k fuel sid (.ptr e0 2 0 0) v I h box e s1 rr ⟨i+1,sid2,sv2,h5,.sl nid 1 0 (xs++[n]).length,xs++[n],s2⟩:=λs2 n r4 q2 q3 sv2 sid2 h2 C2 P hn I2 h5 nid g1 g2 g3=>by
    have hnl:=(Vx.1 g3).1
    have hM:=P.run.lt
    have hS:=P.run.said.lt
    have hl:=P.fr.1
    simp only[VO,VV,List.length_nil] at hl
    refine⟨⟨P.run.frame (by simp only;omega) (g2 _ hM (.inl (by omega))) (g2 _ hS (.inr rfl)),⟨by simp only[VO,VV,List.length_nil];omega,λj j1 j2=>?_⟩,P.fs⟩,⟨C2.chn.frame λj j1=>g2 j (C2.chn.lt j j1) (.inl (by have:=C.chn.lt j j1;omega)),C2.nd,C2.sn,C2.mn⟩,.ss _ _ g3 (by omega) (by simp only;omega),(λxs h=>by cases h),by simp[hxl],by simp only;omega,λm hm=>?_,I2,r4,q2,q3⟩
    ·simp only[VO,VV,List.length_nil] at j1
     rw[g2 j (by omega) (.inl (by omega))]
     exact P.fr.2 j (by simp;omega) j2
    ·rcases VJ.1 hm with hm|hm
     ·exact J.v5 m hm
     ·rw[VK.1 hm];exact hn
   have fin:∀(h5:List AO) (sl:List (Nat × AV)) (nid sid2:Nat) (sv2:AV) (n:Int) (s2:S5),CbI l M k fuel sid (.ptr e0 2 0 0) v I h box e s1 rr ⟨i+1,sid2,sv2,h5,.sl nid 1 0 (xs++[n]).length,xs++[n],s2⟩->Aw.look sl 74= .p (.int .i64 (IntKind.i64.wrap ((i:Int)+1)))->Aw.look sl 73= .p (.int .i64 e.kids.length)->Aw.look sl 72= .p (.lst 4 (e.kids.map Ex.cs))->Aw.look sl 9= .sl nid 1 0 (xs++[n]).length->Aw.look sl 4= .ptr h.length 4 0 0->Aw.look sl 0= .ptr M 20 0 0->Aw.look sl 2= .ptr e0 2 0 0->
    ∃a:CbS,CbI l M k fuel sid (.ptr e0 2 0 0) v I h box e s1 rr a/\e.kids.length-a.i<e.kids.length-i/\Wk h.length (ah 126 sl) h5 (ah 126 [(74,.p (.int .i64 a.i)),(73,.p (.int .i64 e.kids.length)),(72,.p (.lst 4 (e.kids.map Ex.cs))),(9,a.av),(4,.ptr h.length 4 0 0),(0,.ptr M 20 0 0),(2,.ptr e0 2 0 0)]) a.hh:=λh5 sl nid sid2 sv2 n s2 J5 e74 e73 e72 e9 e4 e0' e2=>by
    have hl5:=J5.pl.fr.1
    simp only[VO,VV,List.length_nil] at hl5
    have hn5:nid<h5.length:=by
     exact(Vx.1 J5.args.sl_inv.1).1
    refine⟨_,J5,by simp only;omega,aY (by omega) ?_⟩
    simp[below,e74,e73,e72,e9,e4,e0',e2,hwi]
    omega
   have hx':(∃c,Ev l (.ex k v sc a s1 (.st c))/\rr= .st c)\/∃s2 n r4,Ev l (.ex k v sc a s2 (.ok n))/\Ev l (.exs k v s2 (e.kids.drop (i+1)) s1 r4)/\rr=yP (xs++[n]) r4:=by
    cases hx with
    |consS h1=>exact .inl ⟨_,h1,hr⟩
    |cons h1 h2=>exact .inr ⟨_,_,_,h1,h2,by rw[hr];simp[yP]⟩
    |consT h1 h2=>exact .inr ⟨_,_,_,h1,h2,by rw[hr];simp[yP]⟩
   rcases hx' with⟨c,h1,hr'⟩|⟨s2,n,r4,h1,h2,hr'⟩
   ·refine(hexc _ _ h1).mono ?_
    rintro z h3 ⟨rfl,sv2,sid2,P⟩
    simp-implicitDefEqProofs[du]
    exact λts=>qP _ _ _ _ ⟨c,rfl,rfl,hr',sv2,sid2,(P0.trans P).from⟩
   ·have hkb:e.kids.length<=1073741824:=by have:=W.sz;have:=bG e.kids;have:=e.sz_eq;omega
    cases hav with
    |pp=>exact(hnp _ rfl).elim
    |nn=>
     refine(step s2 n _ h1 h2 hr').mono ?_
     rintro z h3 ⟨rfl,sv2,sid2,C2,P,hn,I2,A2⟩
     simp-implicitDefEqProofs[aa]
     refine fin _ _ (h3.length+1) _ _ n _ (next _ n _ h2 hr' _ _ _ C2 P hn I2 _ _ (by omega) (λj j1 j2=>by rw[Vz j1]) ?_) (by simp) (by simp) (by simp) (by simp) (by simp) (by simp) (by simp)
     rw[VG (by omega)];simp[bs]
    |ss aid _ hu h4 h5=>
     refine(step s2 n _ h1 h2 hr').mono ?_
     rintro z h3 ⟨rfl,sv2,sid2,C2,P,hn,I2,A2⟩
     obtain⟨hu3,h43,h53⟩:=A2.sl_inv
     have hul:=(Vx.1 hu3).1
     simp only[bs] at hu3
     have hua:∀os,(h3++os)[aid]?=some (.row 1 (xs.map λn=>[.p (.int .i64 n)])):=λos=>by rw[Vz hul];exact hu3
     simp-implicitDefEqProofs[aa, ↓hua]
     refine⟨⟨by omega,by omega⟩,?_⟩
     refine fin _ _ (h3.length+1) _ _ n _ (next _ n _ h2 hr' _ _ _ C2 P hn I2 _ _ (by omega) (λj j1 j2=>?_) ?_) (by simp) (by simp) (by simp) (by simp) (by simp) (by simp) (by simp)
     ·rw[Vz (by simp;omega),Vy (by omega),Vz j1]
     ·rw[VG (by simp)];simp[bs]
      exact VE (by simp)
  ·simp-implicitDefEqProofs[h1]
   refine qE _ _ ⟨⟨i,sidc,svc,hh,av,xs,sc⟩,J,by simp only;omega,rfl,_,rfl⟩
 ·rintro ts' h' ⟨a,J,hi,rfl,z,rfl⟩
  obtain⟨i,sidc,svc,hh,av,xs,sc⟩:=a
  have jB:hh[h.length]?=some box:=by have:=PL.keep H J.pl (i:=0) (by simp);simpa using this
  simp only at hi
  subst hi
  obtain⟨Ic,r2,hx,hr⟩:=J.go
  simp only[List.drop_length] at hx Ic hr
  cases hx with
  |nil=>
  have hrr:rr= .ok xs:=by rw[hr];simp[yP]
  rcases hX2 with⟨us,h3,hcal⟩|⟨c',h3,_,_⟩
  case inr=>rw[hrr] at h3;cases h3
  rw[hrr] at h3
  cases h3
  have jM:=J.pl.run.men
  simp only[jv] at jM
  rw[hbox] at jB
  simp-implicitDefEqProofs[jM,jB]
  refine(DB G l e.name (by omega)).use ?_
  simp-implicitDefEqProofs[hj,ixI]
  refine(hB j hjk xs s1 s' r hcal J.v5 Ic.g Ic.m av sidc svc hh J.pl.run (J.args.low (WA _))).mono ?_
  rintro z h3 ⟨rfl,sv2,sid2,P⟩
  have PP:=(J.pl.trans P).from
  cases r with
  |ok n=>
   simp-implicitDefEqProofs[aa,du]
   exact⟨rfl,sv2,sid2,PP⟩
  |st c=>
   simp-implicitDefEqProofs[du]
   exact⟨rfl,sv2,sid2,PP⟩
 ·rintro t x ts' h' ⟨c,rfl,rfl,hr,sv',sid',P⟩
  rcases hX2 with⟨us,h3,hcal⟩|⟨c',h3,rfl,rfl⟩
  ·rw[hr] at h3;cases h3
  rw[hr] at h3
  cases h3
  simp-implicitDefEqProofs[]
  exact⟨rfl,sv',sid',P⟩
end
section
def UI(r:O5 (Option Int))(x:ARes)(h':List AO):Prop:=
 match r with
 | .ok none=>x= .ret .nilp
 | .ok (some n)=>∃b,x= .ret (.ptr b 1 0 0)/\h'[b]?=some (.row 1 [[.p (.int .i64 n)]])
 | .st c=>x= .pan bH (.int .i64 c)
structure BkL (M:Nat) (l:List Fd) (fuel sid:Nat) (u:AV) (v':List Sc5) (I:List Nat) (h:List AO) (s':S5) (sv':AV) (sid':Nat) (h':List AO):Prop where
 run:MI M l fuel sv' sid' s' h'
 ci:CI h' u v' I M sid'
 fr:Fr (M::sid::I) h h'
 fs:sid'=sid\/h.length<=sid'
 env:∀i∈I,∀x,h[i]?=some (.row 2 x)->h'[i]?=some (.row 2 x)
def BkX(M:Nat)(l:List Fd)(fuel sid:Nat)(u:AV)(v':List Sc5)(I:List Nat)(h:List AO)(s':S5)(r:O5 (Option Int))(x:ARes)(h':List AO):Prop:=UI r x h'/\∃sv' sid',BkL M l fuel sid u v' I h s' sv' sid' h'
def jQ(h:List AO)(ps:List (List UInt8))(us:List Int)(i:Nat):List AO:=h++[.mp (mpV ((ps.zip us).take i)),.row 2 [[.mp h.length,.nilp]]]
theorem HU{h:List AO}{ps:List (List UInt8)}{us:List Int}{i j:Nat}(hj:j<h.length):(jQ h ps us i)[j]?=h[j]?:=Vz hj
theorem Gp{h:List AO}{ps:List (List UInt8)}{us:List Int}{i:Nat}:(jQ h ps us i)[h.length]?=some (.mp (mpV ((ps.zip us).take i))):=by simp[jQ]
theorem Ge{h:List AO}{ps:List (List UInt8)}{us:List Int}{i:Nat}:(jQ h ps us i)[h.length+1]?=some (.row 2 [[.mp h.length,.nilp]]):=by simp[jQ]
theorem JC{h:List AO}{ps:List (List UInt8)}{us:List Int}{i:Nat}{p:List UInt8}{n:Int}(hp:ps[i]?=some p)(hn:us[i]?=some n)(hap:ps.Pairwise (· ≠ ·)):
 ∃m,gX (.str p) (.p (.int .i64 n)) (mpV ((ps.zip us).take i))=some m/\(jQ h ps us i).set h.length (.mp m)=jQ h ps us (i+1):=by
 have hz:(ps.zip us)[i]?=some (p,n):=by rw[List.getElem?_zip_eq_some];exact⟨hp,hn⟩
 have hl:=(Vx.1 hz).1
 refine⟨_,tC p n _,?_⟩
 have hno:p∉((ps.zip us).take i).map (·.1):=λhm=>by
  obtain⟨x,hx,rfl⟩:=VW.1 hm
  obtain⟨j,hj,he⟩:=WH.1 hx
  have hji:j<i:=by omega
  have:=List.pairwise_iff_getElem.1 hap j i (by simp at hl hj;omega) (Vx.1 hp).1 hji
  rw[(Vx.1 hp).2,←he,List.getElem_zip] at this
  exact this rfl
 rw[CM hno]
 unfold jQ
 rw[an hl,(Vx.1 hz).2]
 simp
variable (G:al)
def PbC(l:List Fd)(M k fuel:Nat)(xs:List Sm):Prop:=∀v s v' s' r,Ev l (.blk k v s xs v' s' r)->In5 v s->∀u I sid sv h,MI M l fuel sv sid s h->CI h u v I M sid->
 AC Tryz.prog G bp [.ptr M 20 0 0,.p (smL xs),u] h (BkX M l fuel sid u v' I h s' r)
theorem QL{l:List Fd}{M k fuel:Nat}(hc:aI l=0)(hz:aH l<=1073741824)(hB:∀f,l[k]?=some f->PbC G l M k fuel f.body):PcC G l M k fuel:=by
 intro us s s' r hE hus hg hm av sid sv h H A
 cases hE with
 | @cal _ f _ _ v' _ r' q1 q2 q3=>
 have hap:=kr hc q1
 have hflat:ay [f.params.zip us]=f.params.zip us:=by simp[ay]
 have hz1:(f.params.zip us).map (·.1)=f.params:=List.map_fst_zip (by omega)
 have hz2:(f.params.zip us).map (·.2)=us:=List.map_snd_zip (by omega)
 have hzl:(f.params.zip us).length=f.params.length:=by rw[List.length_zip];omega
 have hfz:=cN (VD q1)
 have hfs:f.sz=1+f.name.length+(f.params.length+(f.params.map List.length).sum)+aC f.body:=rfl
 have IW:In5 [f.params.zip us] s:=by
  refine⟨hg,λm hm y hy=>?_,vf hap q2,hm,?_⟩
  ·rw[VK.1 hm] at hy
   exact hus _ (by rw[show y.2=y.2 from rfl];have:=List.mem_map_of_mem (f:=Prod.snd) hy;rw[hz2] at this;exact this)
  ·rw[hflat,hzl]
   unfold M5 at hm
   omega
 have hfl:fdL l= .lst 3 (l.map Fd.cs):=rfl
 have hfc:f.cs=[.str f.name,am f.params,smL f.body]:=rfl
 have hpL:am f.params= .lst 1 (f.params.map λw=>[.str w]):=rfl
 have hmb:=H.lt
 have hsb:=H.said.lt
 have aM:∀os,(h++os)[M]?=some (jv l fuel sv s):=λos=>(H.more os).men
 simp only[jv] at aM
 refine AC.go rj ?_
 simp-implicitDefEqProofs[jZ, ↓aM,hfl,q1,hfc,hpL]
 rw[←hpL]
 have h0:h++[AO.mp [],AO.row 2 [[.mp h.length,.nilp]]]=jQ h f.params us 0:=by simp[jQ,mpV]
 rw[h0]
 have hpn:f.params.length<=1073741824:=by omega
 refine Fz G 0 (λts' h'=>h'=jQ h f.params us f.params.length/\∃z,ts'=ah 57 ((25,z)::[(24,.p (.int .i64 f.params.length)),(23,.p (.int .i64 f.params.length)),(22,.p (am f.params)),(7,.ptr (h.length+1) 2 0 0),(0,.ptr M 20 0 0),(1,.p (.int .i64 k)),(2,av)]))
  (λt x h'=>False) (λQ' qE _=>?_) ?_ ?_
 ·refine aN (λi:Nat=>ah 57 [(24,.p (.int .i64 i)),(23,.p (.int .i64 f.params.length)),(22,.p (am f.params)),(7,.ptr (h.length+1) 2 0 0),(0,.ptr M 20 0 0),(1,.p (.int .i64 k)),(2,av)]) (λi=>jQ h f.params us i) (λi=>i<=f.params.length) (λi=>f.params.length-i) 0 (WA _) ?_ ?_
  ·refine aY (by simp[jQ]) ?_
   cases A with
   |nn=>simp[below,jQ];omega
   |pp=>simp[below,jQ];omega
   |ss aid _ q4 q5 q6=>have:=(Vx.1 q4).1;simp[below,jQ];omega
  rintro i hi
  by_cases h1:i<f.params.length
  ·have hp:=VA h1
   have hu:us[i]?=some us[i]:=VA (by omega)
   generalize us[i]=n at hu
   obtain⟨m,e1,e2⟩:=JC (h:=h) hp hu hap
   have hwi:=w1 (i:=i) (by omega)
   cases A with
   |nn=>simp at hu
   |pp=>
    have hnL:bu us= .lst 1 (us.map λn=>[.int .i64 n]):=rfl
    simp-implicitDefEqProofs[h1,hpL,hp,hu,Ge,Gp,e1,hnL]
    refine⟨i+1,by omega,by omega,?_⟩
    rw[e2]
    refine aY (by simp[jQ]) ?_
    simp[below,jQ,hwi,hpL]
    omega
   |ss aid _ q4 q5 q6=>
    have q7:∀i,(jQ h f.params us i)[aid]?=some (bs us):=λi=>by rw[HU (Vx.1 q4).1];exact q4
    simp only[bs] at q7
    simp-implicitDefEqProofs[h1,hpL,hp,hu,Ge,Gp,e1,q7]
    refine⟨by omega,i+1,by omega,by omega,?_⟩
    rw[e2]
    have:=(Vx.1 q4).1
    refine aY (by simp[jQ]) ?_
    simp[below,jQ,hwi,hpL]
    omega
  ·simp-implicitDefEqProofs[h1]
   have:i=f.params.length:=by omega
   subst this
   exact qE _ _ ⟨rfl,_,rfl⟩
 ·rintro ts' h' ⟨rfl,z,rfl⟩
  have hM:(jQ h f.params us f.params.length)[M]?=some (jv l fuel sv s):=by rw[HU hmb];exact H.men
  simp only[jv] at hM
  have hall:(f.params.zip us).take f.params.length=f.params.zip us:=VE (by omega)
  have C0:CI (jQ h f.params us f.params.length) (.ptr (h.length+1) 2 0 0) [f.params.zip us] [h.length+1,h.length] M sid:=by
   refine⟨.last _ h.length _ Ge (by rw[Gp,hall]),by simp,?_,?_⟩
   ·simp only[VL,Wa,or_false,not_or];omega
   ·simp only[VL,Wa,or_false,not_or];omega
  simp-implicitDefEqProofs[hM,hfl,q1,hfc]
  refine(hB f q1 _ _ _ _ _ q3 IW _ _ sid sv _ (H.more _) C0).mono ?_
  rintro z h2 ⟨hR,sv2,sid2,B⟩
  have PP:PL M l fuel sid h s' sv2 sid2 h2:=by
   have hfr:=B.fr
   unfold jQ at hfr
   refine⟨B.run,hfr.from.sub λi hi=>?_,?_⟩
   ·simp only[VL,Wa,or_false] at hi⊢
    omega
   ·have:=B.fs
    simp only[jQ,VO] at this
    omega
  match r',hR with
  | .ok none,hR=>
    cases hR
    simp-implicitDefEqProofs[aa]
    exact⟨rfl,sv2,sid2,PP⟩
  | .ok (some n),⟨b,hb1,hb2⟩=>
    cases hb1
    simp-implicitDefEqProofs[aa,hb2]
    exact⟨rfl,sv2,sid2,PP⟩
  | .st c,hR=>
    cases hR
    simp-implicitDefEqProofs[]
    exact⟨rfl,sv2,sid2,PP⟩
 ·rintro t x ts' h' ⟨⟩
end
section
structure Snc (R cid V sid nid uid:Nat) (hb:List AO) (sid' nid' uid':Nat) (hh:List AO):Prop where
 fr:Fr [R,sid,cid,V,nid,uid] hb hh
 fs:sid'=sid\/hb.length<=sid'
 fn:nid'=nid\/hb.length<=nid'
 fu:uid'=uid\/hb.length<=uid'
section
variable {R cid V sid nid uid:Nat} {hb hh h2:List AO} {sid1 nid1 uid1 sid2 nid2 uid2:Nat}
theorem Snc.init(hb:List AO):Snc R cid V sid nid uid hb sid nid uid hb:=⟨Fr.refl _ _,.inl rfl,.inl rfl,.inl rfl⟩
theorem pE{a b c n m:Nat}(h1:b=a\/n<=b)(h2:c=b\/m<=c)(hnm:n<=m):c=a\/n<=c:=by
 rcases h2 with rfl|h2
 ·exact h1
 ·exact .inr (by omega)
theorem Snc.st(S:Snc R cid V sid nid uid hb sid1 nid1 uid1 hh)(F:Fr [R,sid1,cid,V,nid1,uid1] hh h2)(a:sid2=sid1\/hh.length<=sid2)(b:nid2=nid1\/hh.length<=nid2)(c:uid2=uid1\/hh.length<=uid2):Snc R cid V sid nid uid hb sid2 nid2 uid2 h2:=by
 refine⟨S.fr.trans F λy hy=>?_,pE S.fs a S.fr.1,pE S.fn b S.fr.1,pE S.fu c S.fr.1⟩
 have h1:=S.fs
 have h2:=S.fn
 have h3:=S.fu
 simp only[VL,Wa,or_false] at hy⊢
 omega
theorem Fr.wide{K:List Nat}{V nid uid:Nat}(F:Fr [R,sid,cid] hb hh):Fr [R,sid,cid,V,nid,uid] hb hh:=F.sub λi hi=> .inl (by
 simp only[VL,Wa,or_false] at hi⊢;omega)
theorem Snc.ex(S:Snc R cid V sid nid uid hb sid1 nid1 uid1 hh)(F:Fr [R,sid1,cid] hh h2)(a:sid2=sid1\/hh.length<=sid2):Snc R cid V sid nid uid hb sid2 nid1 uid1 h2:=
 S.st (Fr.wide (K:=[]) F) a (.inl rfl) (.inl rfl)
theorem Snc.keep(S:Snc R cid V sid nid uid hb sid1 nid1 uid1 hh){i:Nat}(hi:i<hb.length)(hn:i≠R/\i≠sid/\i≠cid/\i≠V/\i≠nid/\i≠uid):hh[i]?=hb[i]?:=
 S.fr.2 i hi (by simp only[VL,Wa,or_false];omega)
theorem Snc.base{h os:List AO}(S:Snc R cid V sid nid uid (h++os) sid1 nid1 uid1 hh):Snc R cid V sid nid uid h sid1 nid1 uid1 hh:=
 ⟨S.fr.from,pE (.inl rfl) S.fs (by simp),pE (.inl rfl) S.fn (by simp),pE (.inl rfl) S.fu (by simp)⟩
end
structure WfS (l:List Fd) (k:Nat) (x:Sm):Prop where
 form:∃d,az d x=true
 args:∀a∈x.args,WfE l k a
 body:(∀y∈x.body,∃d,az d y=true)/\aC x.body<=1073741824/\∃d,CoS l k d x.body
 els:(∀y∈x.els,∃d,az d y=true)/\aC x.els<=1073741824/\∃d,CoS l k d x.els
 argn:x.args.length=gz x.op
 op:1<=x.op/\x.op<=8
structure InS (v:List Sc5) (s:S5):Prop where
 g:G5 s
 ge:GE5 v
 un:Un5 v
 m:M5 s+1<=4000
 f:(ay v).length+s.left+1<=1073750000
theorem InS.in5{v:List Sc5}{s:S5}(I:InS v s):In5 v s:=⟨I.g,I.ge,I.un,by have:=I.m;omega,by have:=I.f;omega⟩
variable (G:al)
def StX(l:List Fd)(R cid k:Nat)(xs:List Sm):Prop:=∀v s v' s' r,Ev l (.blk k v s xs v' s' r)->In5 v s->
 ∀V x0 sid nid uid uv h,RI R cid l sid s 0 false h->EI V nid uid uv (ay v) false x0 h->Ap R V sid cid nid uid->AC Tryz.prog G aK [.ptr R 7 0 0,.p (smL xs),.ptr V 4 0 0] h (StL R cid l V sid nid uid h ((ay v').take (ay v).length) x0 s' r)
def SmX(l:List Fd)(R cid k:Nat)(x:Sm):Prop:=∀v s v' s' r,Ev l (.stm k v s x v' s' r)->InS v s->
 ∀V x0 sid nid uid uv h,RI R cid l sid s 0 false h->EI V nid uid uv (ay v) false x0 h->Ap R V sid cid nid uid->AC Tryz.prog G ie [.ptr R 7 0 0,.agg (x.cs.map .p),.ptr V 4 0 0] h (StL R cid l V sid nid uid h (ay v') x0 s' r)
def LpA(l:List Fd)(k:Nat)(x:Sm)(v:List Sc5)(s1:S5)(n:Int)(v':List Sc5)(s':S5)(q:O5 (Option Int)):Prop:=
 (n=0/\v'=v/\s'=s1/\q= .ok none)\/(n≠0/\∃m v1 s2 q1,Ev l (.blk k ([]::v) s1 x.body (m::v1) s2 q1)/\((q1≠ .ok none/\v'=v1/\s'=s2/\q=q1)\/(q1= .ok none/\((s2.left=0/\v'=v1/\s'=s2/\q= .st 3)\/∃F,s2.left=F+1/\Ev l (.lp k v1 (s2.at_ F) x v' s' q)))))
theorem CT{l:List Fd}{k:Nat}{x:Sm}{v v':List Sc5}{s s':S5}{q:O5 (Option Int)}(h:Ev l (.lp k v s x v' s' q)):∃a s1 r1,x.args=[a]/\Ev l (.ex k v s a s1 r1)/\((∃c,r1= .st c/\v'=v/\s'=s1/\q= .st c)\/∃n,r1= .ok n/\LpA l k x v s1 n v' s' q):=by
 cases h with
 |lpS ha h1=>exact⟨_,_,_,ha,h1,.inl ⟨_,rfl,rfl,rfl,rfl⟩⟩
 |lp0 ha h1=>exact⟨_,_,_,ha,h1,.inr ⟨_,rfl,.inl ⟨rfl,rfl,rfl,rfl⟩⟩⟩
 |lpEnd ha h1 hn h2 hq=>exact⟨_,_,_,ha,h1,.inr ⟨_,rfl,.inr ⟨hn,_,_,_,_,h2,.inl ⟨hq,rfl,rfl,rfl⟩⟩⟩⟩
 |lpFuel ha h1 hn h2 hl=>exact⟨_,_,_,ha,h1,.inr ⟨_,rfl,.inr ⟨hn,_,_,_,_,h2,.inr ⟨rfl,.inl ⟨hl,rfl,rfl,rfl⟩⟩⟩⟩⟩
 |lpGo ha h1 hn h2 hl h3=>exact⟨_,_,_,ha,h1,.inr ⟨_,rfl,.inr ⟨hn,_,_,_,_,h2,.inr ⟨rfl,.inr ⟨_,hl,h3⟩⟩⟩⟩⟩
def LpX(l:List Fd)(R cid k:Nat)(x:Sm):Prop:=∀v s n v' s' r,LpA l k x v s n v' s' r->InS v s->
 ∀V x0 sid nid uid uv h,RI R cid l sid s 0 false h->EI V nid uid uv (ay v) false x0 h->Ap R V sid cid nid uid->AC Tryz.prog G ig [.ptr R 7 0 0,.agg (x.cs.map .p),.p (.int .i64 n),.ptr V 4 0 0] h (StL R cid l V sid nid uid h (ay v') x0 s' r)
theorem StL.mk{l:List Fd}{R cid V sid nid uid:Nat}{h hh:List AO}{w:Sc5}{x0:Int}{s':S5}{r:O5 (Option Int)}{sid' nid' uid':Nat}{uv':AV}(H:RI R cid l sid' s' (bt r) (di r) hh)(E:EI V nid' uid' uv' w (bkB r) (bkV x0 r) hh)(A:Ap R V sid' cid nid' uid')(S:Snc R cid V sid nid uid h sid' nid' uid' hh):StL R cid l V sid nid uid h w x0 s' r (.ret (.tup [])) hh:=
 ⟨sid',nid',uid',uv',rfl,H,E,A,S.fr,S.fs,S.fn,S.fu⟩
theorem RI.setV{R cid V sid nid uid:Nat}{l:List Fd}{s s2:S5}{e:Int}{o:Bool}{uv:AV}{w:Sc5}{b:Bool}{x:Int}{h:List AO}(H:RI R cid l sid s e o h)(E:EI V nid uid uv w b x h)(z:AO):RI R cid l sid s e o (h.set V z):=by
 obtain⟨a1,a2,a3,a4⟩:=E.neR H
 exact H.frame (Vy a1) (Vy a2) (Vy a3)
theorem EI.setV{R cid V sid nid uid:Nat}{uv:AV}{w:Sc5}{b b':Bool}{x x':Int}{h:List AO}(E:EI V nid uid uv w b x h)(A:Ap R V sid cid nid uid):EI V nid uid uv w b' x' (h.set V (ca nid w.length uv b' x')):=by
 obtain⟨t,h1⟩:=E.names
 refine⟨VC E.lt.1,⟨t,by rw[Vy E.neN];exact h1⟩,E.vals.frame λ_=>Vy (Ne.symm A.uV),E.ne,by rw[We];exact E.ul⟩
theorem QD{l:List Fd}{R cid k:Nat}{x:Sm}(W:WfS l k x)(hX:∀e,WfE l k e->ExC G l R cid k e)(hB:StX G l R cid k x.body)(hE:StX G l R cid k x.els)(hL:x.op=6->LpX G l R cid k x):SmX G l R cid k x:=by
 intro v s v' s' r hS I V x0 sid nid uid uv h H E A
 have hxc:=x.cs_eq
 have hsl:exL x.args= .lst 4 (x.args.map Ex.cs):=rfl
 obtain⟨hR0,hs0,hc0⟩:=H.lt
 obtain⟨hV0,hn0,hu0⟩:=E.lt
 have aR:∀os,(h++os)[R]?=some (aL l sid cid s 0 false):=λos=>(H.more os).run
 have aV:∀os,(h++os)[V]?=some (ca nid (ay v).length uv false x0):=λos=>(E.more os).env
 obtain⟨box,hbox⟩:∃box,box=AO.row 5 [[.p (.int .i64 x.op),.p (.str x.name),.p (exL x.args),.p (smL x.body),.p (smL x.els)]]:=⟨_,rfl⟩
 obtain⟨a,ha0⟩:∃a,x.args[0]?=some a:=by
  have:x.args.length≠0:=by
   rw[W.argn]
   obtain⟨q1,q2⟩:=W.op
   have:x.op=1\/x.op=2\/x.op=3\/x.op=4\/x.op=5\/x.op=6\/x.op=7\/x.op=8:=by omega
   rcases this with q|q|q|q|q|q|q|q<;>rw[q]<;>decide
  exact⟨x.args[0],VA (by omega)⟩
 have ham:=VD ha0
 have hka:=a.cs_eq
 obtain⟨s1,r1,hx1,hrest⟩:∃s1 r1,Ev l (.ex k v s a s1 r1)/\((∃c,r1= .st c/\v'=v/\s'=s1/\r= .st c)\/∃n,r1= .ok n/\
  ((x.op=1/\∃m up,v=m::up/\bO m x.name=none/\v'=(m++[(x.name,n)])::up/\s'=s1/\r= .ok none)\/(x.op=2/\(fQ v x.name).isSome=true/\v'=gq v x.name n/\s'=s1/\r= .ok none)\/(x.op=3/\v'=v/\s'=s1.say n/\r= .ok none)\/
    (x.op=4/\v'=v/\∃b s2 r2,x.args[1]?=some b/\Ev l (.ex k v s1 b s2 r2)/\((∃c,r2= .st c/\s'=s2/\r= .st c)\/∃m,r2= .ok m/\((16<=n/\s'=s2/\r= .st 2)\/∃i:Nat,n=(i:Int)/\i<16/\s'=s2.put i m/\r= .ok none)))\/
    (x.op=5/\∃m,Ev l (.blk k ([]::v) s1 (if n≠0 then x.body else x.els) (m::v') s' r))\/(x.op=6/\LpA l k x v s1 n v' s' r)\/(x.op=7/\v'=v/\s'=s1/\r= .ok (some n))\/(x.op=8/\v'=v/\s'=s1/\r= .ok none))):=by
  have hd:∀{b:Ex} {q:List Ex},x.args=b::q->b=a:=λ{b q} e=>by rw[e] at ha0;cases ha0;rfl
  cases hS with
  |argS h6 hA h1=>cases hd hA;exact⟨_,_,h1,.inl ⟨_,rfl,rfl,rfl,rfl⟩⟩
  |slet h6 hA h1 h2 h3=>cases hd hA;exact⟨_,_,h1,.inr ⟨_,rfl,.inl ⟨h6,_,_,h2,h3,rfl,rfl,rfl⟩⟩⟩
  |sset h6 hA h1 h2=>cases hd hA;exact⟨_,_,h1,.inr ⟨_,rfl,.inr (.inl ⟨h6,h2,rfl,rfl,rfl⟩)⟩⟩
  |ssay h6 hA h1=>cases hd hA;exact⟨_,_,h1,.inr ⟨_,rfl,.inr (.inr (.inl ⟨h6,rfl,rfl,rfl⟩))⟩⟩
  |sput h6 hA h1 h2 h3=>cases hd hA;exact⟨_,_,h1,.inr ⟨_,rfl,.inr (.inr (.inr (.inl ⟨h6,rfl,_,_,_,by rw[hA];rfl,h2,.inr ⟨_,rfl,.inr ⟨_,rfl,h3,rfl,rfl⟩⟩⟩)))⟩⟩
  |sputC h6 hA h1 h2 h3=>cases hd hA;exact⟨_,_,h1,.inr ⟨_,rfl,.inr (.inr (.inr (.inl ⟨h6,rfl,_,_,_,by rw[hA];rfl,h2,.inr ⟨_,rfl,.inl ⟨h3,rfl,rfl⟩⟩⟩)))⟩⟩
  |sputS h6 hA h1 h2=>cases hd hA;exact⟨_,_,h1,.inr ⟨_,rfl,.inr (.inr (.inr (.inl ⟨h6,rfl,_,_,_,by rw[hA];rfl,h2,.inl ⟨_,rfl,rfl,rfl⟩⟩)))⟩⟩
  |sif h6 hA h1 h2=>cases hd hA;exact⟨_,_,h1,.inr ⟨_,rfl,.inr (.inr (.inr (.inr (.inl ⟨h6,_,h2⟩))))⟩⟩
  |sloop h6 h1=>
   obtain⟨b,s1,r1,hA,g1,g2⟩:=CT h1
   cases hd hA
   rcases g2 with g2|⟨n,g2,g3⟩
   ·exact⟨_,_,g1,.inl g2⟩
   ·exact⟨_,_,g1,.inr ⟨n,g2,.inr (.inr (.inr (.inr (.inr (.inl ⟨h6,g3⟩)))))⟩⟩
  |sback h6 hA h1=>cases hd hA;exact⟨_,_,h1,.inr ⟨_,rfl,.inr (.inr (.inr (.inr (.inr (.inr (.inl ⟨h6,rfl,rfl,rfl⟩))))))⟩⟩
  |sdo h6 hA h1=>cases hd hA;exact⟨_,_,h1,.inr ⟨_,rfl,.inr (.inr (.inr (.inr (.inr (.inr (.inr ⟨h6,rfl,rfl,rfl⟩))))))⟩⟩
 clear hS
 refine AC.go tS ?_
 simp-implicitDefEqProofs[md,hxc,hsl,ha0,hka]
 have hbox':AO.row 5 [[.p (.int .i64 x.op),.p (.str x.name),.p (.lst 4 (x.args.map Ex.cs)),.p (smL x.body),.p (smL x.els)]]=box:=hbox.symm
 rw[hbox']
 have hX1:=hX a (W.args a ham) v s s1 r1 hx1 I.in5 V false x0 sid nid uid uv _ (H.more [box]) (E.more [box]) A
 rw[show a.cs.map AV.p=[.p (.int .i64 a.op),.p (.int .i64 a.n),.p (.str a.name),.p (exL a.kids)] by rw[hka];rfl] at hX1
 refine hX1.mono ?_
 rintro z h2 L
 obtain⟨n,sid1,rfl,e1,e2,e3,E2,A2,e4,e5,e6,e7⟩:=AE H E A L
 have I1:=(I.in5.ex hx1).1
 have hc1:=mL hx1
 have b2:h2[h.length]?=some box:=by have:=e6 0 (by simp);simpa using this
 have S1:Snc R cid V sid nid uid h sid1 nid uid h2:=⟨Fr.wide (K:=[]) e4,e5,.inl rfl,.inl rfl⟩
 have cR:=e3.run
 have lB:h.length+1<=h2.length:=by simpa using e7
 clear L hX1 e6 e7
 rcases hrest with⟨c,rfl,rfl,rfl,rfl⟩|⟨n',rfl,hrest⟩
 ·
  simp only[bt,di] at cR e3
  have cO:∀b:Ex,AC Tryz.prog G bi [.ptr R 7 0 0,.agg [.p (.int .i64 b.op),.p (.int .i64 b.n),.p (.str b.name),.p (exL b.kids)],.ptr V 4 0 0] h2 λx h'=>x= .ret (.p (.int .i64 0))/\∃os,h'=h2++os:=λb=>by
   have hbc:b.cs.map AV.p=[.p (.int .i64 b.op),.p (.int .i64 b.n),.p (.str b.name),.p (exL b.kids)]:=by rw[b.cs_eq];rfl
   rw[←hbc]
   exact yT G cR b _
  have cR2:∀os,(h2++os)[R]?=some (aL l sid1 cid s' c true):=λos=>(e3.more os).run
  simp only[aL] at cR cR2
  rw[hbox] at b2
  by_cases o4:x.op=4
  ·obtain⟨b,hb1⟩:∃b,x.args[1]?=some b:=by
    have:x.args.length=2:=by rw[W.argn,o4];decide
    exact⟨x.args[1],VA (by omega)⟩
   have hkb:=b.cs_eq
   simp-implicitDefEqProofs[aa,b2,o4,hsl,hb1,hkb]
   refine(cO b).mono ?_
   rintro z h3 ⟨rfl,os,rfl⟩
   simp-implicitDefEqProofs[aa, ↓cR2]
   exact StL.mk (e3.more os) (E2.more os) A2 (S1.st (Fr.more _ _ _) (.inl rfl) (.inl rfl) (.inl rfl))
  ·simp-implicitDefEqProofs[aa,b2,o4,cR]
   exact StL.mk e3 E2 A2 S1
 ·have hnn:=e2 _ rfl
  subst hnn
  simp only[bt,di] at cR e3
  have cR2:∀os,(h2++os)[R]?=some (aL l sid1 cid s1 0 false):=λos=>(e3.more os).run
  have cV:=E2.env
  have vS:∀z,(h2.set V z)[V]?=some z:=λz=>VC E2.lt.1
  obtain⟨lV,ln,lu⟩:=E2.lt
  obtain⟨lR,ls,lc⟩:=e3.lt
  obtain⟨d1,d2,d3,d4⟩:=E2.neR e3
  obtain⟨d5,d6⟩:=e3.neR
  have d7:=E2.neN
  have d8:=E2.ne
  have d9:=e3.ne
  obtain⟨A3,A4,A5,A6,A7,A8⟩:=A2
  have A2:Ap R V sid1 cid nid uid:=⟨A3,A4,A5,A6,A7,A8⟩
  have b2':=b2
  rw[hbox] at b2
  have fin:=λ(q:O5 (Option Int)) (sid2 nid2 uid2:Nat) (uv2:AV) (h3:List AO) (w:Sc5) (s2:S5) (g1:RI R cid l sid2 s2 (bt q) (di q) h3) (g2:EI V nid2 uid2 uv2 w (bkB q) (bkV x0 q) h3) (g3:Ap R V sid2 cid nid2 uid2) (g4:Snc R cid V sid nid uid h sid2 nid2 uid2 h3)=>StL.mk (l:=l) (w:=w) (x0:=x0) (s':=s2) (r:=q) g1 g2 g3 g4
  rcases hrest with⟨o1,m,up,rfl,hsg,rfl,rfl,rfl⟩|⟨o2,hvs,rfl,rfl,rfl⟩|⟨o3,rfl,rfl,rfl⟩|⟨o4,rfl,b,s2,r2,hb1,hx2,hrest⟩|⟨o5,m,hbk⟩|⟨o6,hlp⟩|⟨o7,rfl,rfl,rfl⟩|⟨o8,rfl,rfl,rfl⟩
  ·
   have hfl:=Kw (m:=m) (up:=up) (x.name,n)
   obtain⟨t,hn⟩:=E2.names
   have hul:=E2.vals
   have hwl:(ay (m::up)).length+1<=1073750000:=by have:=I.f;omega
   have next:∀(h5:List AO) (nid5 uid5:Nat),h2.length<=h5.length->(∀j,j<h2.length->j≠V->j≠nid->j≠uid->h5[j]?=h2[j]?)->h5[V]?=some (ca nid5 ((ay (m::up)).length+1) (.sl uid5 1 0 ((ay (m::up)).length+1)) false x0)->h5[nid5]?=some (cJ ((ay (m::up)).map (·.1)++[x.name]))->h5[uid5]?=some (bs ((ay (m::up)).map (·.2)++[n]))->
    h2.length<=nid5->h2.length<=uid5->nid5≠uid5->StL R cid l V sid nid uid h (ay ((m++[(x.name,n)])::up)) x0 s' (.ok none) (.ret (.tup [])) h5:=λh5 nid5 uid5 g1 g2 g3 g4 g5 g6 g7 g8=>by
    have hu5:=(Vx.1 g5).1
    refine fin (.ok none) sid1 nid5 uid5 (.sl uid5 1 0 ((ay (m::up)).length+1)) h5 _ _ (e3.frame (g2 _ lR (by omega) (by omega) (by omega)) (g2 _ ls (by omega) (by omega) (by omega)) (g2 _ lc (by omega) (by omega) (by omega))) ?_ ⟨by omega,by omega,by omega,by omega,by omega,by omega⟩ (S1.st (hh:=h2) ⟨g1,λj j1 j2=>?_⟩ (.inl rfl) (.inr g6) (.inr g7))
    ·rw[hfl]
     refine⟨by simpa[bkB,bkV] using g3,⟨[],by simpa using g4⟩,?_,g8,hu5⟩
     have:=UV.ss uid5 ((ay (m::up)).map (·.2)++[n]) [] (by rw[Ws];exact g5)
     simpa using this
    ·simp only[VL,Wa,or_false,not_or] at j2
     exact g2 j j1 (by omega) (by omega) (by omega)
   simp only[ca] at cV
   have cVs:∀z os,(h2.set nid z++os)[V]?=some (.row 4 [[.sl nid 1 0 (ay (m::up)).length,uv,.p (.bool false),.p (.int .i64 x0)]]):=λz os=>by
    rw[Vz (by rw[We];exact lV),Vy (Ne.symm d7)];exact cV
   have cVt:∀z os w,((h2.set nid z++os).set V w)[V]?=some w:=λz os w=>VC (by simp;omega)
   have cVu:∀z os w os2,((h2.set nid z++os).set V w++os2)[V]?=some w:=λz os w os2=>by
    rw[Vz (by simp;omega)];exact cVt z os w
   generalize hfm:ay (m::up)=fm at*
   have hvl:(fm.map (·.2)).length=fm.length:=by simp
   generalize hvm:fm.map (·.2)=vm at*
   cases hul with
   |nn=>
    have hf0:fm=[]:=Wp (by rw[←hvl];rfl)
    subst hf0
    simp-implicitDefEqProofs[aa,b2,o1,hsl,cR,aL,cV,hn,cJ, ↓cVs, ↓cVt, ↓cVu]
    refine next _ h2.length (h2.length+1+1) (by simp;omega) (λj j1 j2 j3 j4=>?_) ?_ ?_ ?_ (by omega) (by omega) (by omega)
    ·rw[Vy (by omega),Vz (by simp;omega),Vy (by omega),Vz (by simp;omega),Vy (by omega)]
    ·rw[VC (by simp;omega)];simp[ca]
    ·rw[Vy (by omega),Vz (by simp),Vy (by omega),VG (by simp)];simp[cJ]
    ·rw[Vy (by omega),VG (by simp)];simp[bs]
   |ss _ _ t2 hu=>
    have cUu:∀z os w os2,((h2.set nid z++os).set V w++os2)[uid]?=some (.row 1 ((vm++t2).map λx=>[.p (.int .i64 x)])):=λz os w os2=>by
     rw[Vz (by simp;omega),Vy (by omega),Vz (by simp;omega),Vy (by omega)];exact hu
    have cVw:∀z os w os2 z2 os3,((((h2.set nid z++os).set V w++os2).set uid z2)++os3)[V]?=some w:=λz os w os2 z2 os3=>by
     rw[Vz (by simp;omega),Vy (by omega)];exact cVu z os w os2
    simp-implicitDefEqProofs[aa,b2,o1,hsl,cR,aL,cV,hn,cJ, ↓cVs, ↓cVt, ↓cVu, ↓cUu, ↓cVw]
    refine⟨⟨by omega,by omega⟩,⟨by omega,by omega⟩,?_⟩
    refine next _ h2.length (h2.length+1+1) (by simp;omega) (λj j1 j2 j3 j4=>?_) ?_ ?_ ?_ (by omega) (by omega) (by omega)
    ·rw[Vy (by omega),Vz (by simp;omega),Vy (by omega),Vz (by simp;omega),Vy (by omega),Vz (by simp;omega),Vy (by omega)]
    ·rw[VC (by simp;omega)];simp[ca,hvl]
    ·rw[Vy (by omega),Vz (by simp;omega),Vy (by omega),Vz (by simp),Vy (by omega),VG (by simp)];simp[cJ]
    ·rw[Vy (by omega),VG (by simp)];simp[bs]
  ·
   obtain⟨n0,hv0⟩:=Option.isSome_iff_exists.1 hvs
   obtain⟨i,v1,v2,v3⟩:=AD I.un hv0
   have hiw:i<(ay v).length:=(Vx.1 v2).1
   obtain⟨t,rfl,hu⟩:=E2.vals.ne (by simpa using Nat.lt_of_le_of_lt (WA _) hiw)
   have cVe:=cV
   simp only[ca] at cVe
   have hlen:((ay v).map (·.2)).length=(ay v).length:=by simp
   simp-implicitDefEqProofs[aa,b2,o2,hsl,cR,aL,cVe]
   refine((Im G (ay v) x.name (by have:=I.f;omega)).lend (.one (Am E2) (.keep (by simp) .nil)) rfl).mono ?_
   rintro z h3 ⟨rfl,hh3⟩
   rw[hh3]
   simp-implicitDefEqProofs[aa,v1,ixI,cVe]
   have hgi:(bs ((ay v).map (·.2)++t))= .row 1 (((ay v).map (·.2)++t).map λx=>[.p (.int .i64 x)]):=rfl
   have hri:(((ay v).map (·.2)++t).map λx=>[AV.p (.int .i64 x)])[i]?=some [.p (.int .i64 n0)]:=by
    rw[VN,Vz (by simpa using hiw),VN,v2];rfl
   rw[hgi] at hu
   generalize hrows:(((ay v).map (·.2)++t).map λx=>[AV.p (.int .i64 x)])=rows at hu hri
   simp-implicitDefEqProofs[hu,hri,hiw]
   have hset:rows.set i [.p (.int .i64 n)]=(((ay v).set i (x.name,n)).map (·.2)++t).map λx=>[AV.p (.int .i64 x)]:=by
    rw[←hrows,List.map_set,List.set_append_left _ _ (by simpa using hiw)|>.symm,List.map_set]
   have hnm:((ay v).set i (x.name,n)).map (·.1)=(ay v).map (·.1):=by
    rw[List.map_set]
    exact mX (by rw[VN,v2];rfl)
   refine fin (.ok none) sid1 nid uid (.sl uid 1 0 (ay v).length) _ _ _ (e3.frame (Vy (by omega)) (Vy (by omega)) (Vy (by omega))) ?_ A2 ⟨S1.fr.set (by simp) _,S1.fs,S1.fn,S1.fu⟩
   rw[v3 n]
   obtain⟨t2,hn⟩:=E2.names
   refine⟨by rw[Vy (by omega),We];simpa[bkB,bkV] using cV,⟨t2,by rw[Vy (by omega),hnm];exact hn⟩,?_,d8,by rw[We];exact lu⟩
   have hself:(h2.set uid (.row 1 (rows.set i [.p (.int .i64 n)])))[uid]?=some (bs (((ay v).set i (x.name,n)).map (·.2)++t)):=by
    rw[VC lu,hset];rfl
   have:=UV.ss uid _ t hself
   simpa using this
  ·
   have hs:=e3.said
   have hsr:bs s1.said= .row 1 (s1.said.map λx=>[.p (.int .i64 x)]):=rfl
   have hm5:=I1.m
   unfold M5 at hm5
   rw[hsr] at hs
   have cRs:∀os z os2,((h2++os).set sid1 z++os2)[R]?=some (aL l sid1 cid s1 0 false):=λos z os2=>by
    rw[Vz (by simp;omega),Vy (by omega)];exact cR2 os
   have cSs:∀os,(h2++os)[sid1]?=some (.row 1 (s1.said.map λx=>[.p (.int .i64 x)])):=λos=>by rw[Vz ls];exact hs
   simp only[aL] at cR cR2 cRs
   simp-implicitDefEqProofs[aa,b2,o3,hsl,cR, ↓cR2, ↓cRs, ↓cSs]
   refine⟨⟨by omega,by omega⟩,?_⟩
   have keep:∀(h5:List AO),h2.length<=h5.length->(∀j,j<h2.length->j≠R->j≠sid1->h5[j]?=h2[j]?)->∀sid5,h2.length<=sid5->h5[R]?=some (aL l sid5 cid (s1.say n) 0 false)->h5[sid5]?=some (bs (s1.said++[n]))->StL R cid l V sid nid uid h (ay v') x0 (s1.say n) (.ok none) (.ret (.tup [])) h5:=λh5 g1 g2 sid5 g3 g4 g5=>by
    have E5:EI V nid uid uv (ay v') false x0 h5:=E2.frame g1 (g2 _ lV (by omega) (by omega)) (g2 _ ln (by omega) (by omega)) (g2 _ lu (by omega) (by omega))
    refine fin (.ok none) sid5 nid uid uv h5 _ _ ⟨g4,g5,by rw[g2 _ lc (by omega) (by omega)];exact e3.cells,by omega⟩ E5 ⟨by omega,A4,by omega,A6,A7,A8⟩ (S1.st (hh:=h2) ⟨g1,λj j1 j2=>?_⟩ (.inr g3) (.inl rfl) (.inl rfl))
    simp only[VL,Wa,or_false,not_or] at j2
    exact g2 j j1 (by omega) (by omega)
   refine keep _ (by simp;omega) (λj j1 j2 j3=>?_) (h2.length+1) (by omega) ?_ ?_
   ·rw[Vy (by omega),Vz (by simp;omega),Vy (by omega),Vz (by omega)]
   ·rw[VC (by simp;omega)];simp[aL,S5.say]
   ·rw[Vy (by omega),VG (by simp)]
    simp only[We,VO,VV,List.length_nil,WC,Nat.sub_self,Ww,bs]
    rw[VE (by simp)]
    simp
  ·
   have hgb:=VD hb1
   have hkb:=b.cs_eq
   have hac:b.cs.map AV.p=[.p (.int .i64 b.op),.p (.int .i64 b.n),.p (.str b.name),.p (exL b.kids)]:=by rw[hkb];rfl
   have hX2:=hX b (W.args b hgb) v' s1 s2 r2 hx2 I1 V false x0 sid1 nid uid uv h2 e3 E2 A2
   rw[hac] at hX2
   simp-implicitDefEqProofs[aa,b2,o4,hsl,hb1,hkb]
   refine hX2.mono ?_
   rintro z h3 ⟨n2,sid2,rfl,f1,f2,f3,f4,f5⟩
   have I2:=(I1.ex hx2).1
   have E3:=E2.keep e3 A2 f4
   have A3':=Ap.step E2 A2 f5
   have S2:=S1.ex f4 f5
   have c2:h3[h.length]?=some box:=by
    rw[f4.2 _ (by omega) ?_];exact b2'
    simp only[VL,Wa,or_false,not_or]
    refine⟨by omega,λe=>?_,by omega⟩
    have:=e3.said
    rw[←e,b2',hbox] at this
    simp[bs] at this
   rw[hbox] at c2
   rcases hrest with⟨c,rfl,rfl,rfl⟩|⟨m,rfl,hrest⟩
   ·simp only[bt,di] at f3
    have dR:=f3.run
    simp only[aL] at dR
    simp-implicitDefEqProofs[aa,dR]
    exact fin (.st c) _ _ _ _ _ _ _ f3 E3 A3' S2
   ·have hm:=f2 _ rfl
    subst hm
    simp only[bt,di] at f3
    have dR:=f3.run
    rcases hrest with⟨h16,rfl,rfl⟩|⟨i,rfl,h16,rfl,rfl⟩
    ·have hst:=AQ G (c:=2) dR
     simp only[aL] at dR
     simp-implicitDefEqProofs[aa,dR,c2,o4,h16]
     refine hst.mono ?_
     rintro z h4 ⟨rfl,rfl⟩
     simp-implicitDefEqProofs[aa]
     have hRV:=E3.neR f3
     exact fin (.st 2) _ _ _ _ _ _ _ f3.ended (E3.frame (by simp) (Vy (by omega)) (Vy (by omega)) (Vy (by omega))) A3' ⟨S2.fr.set (by simp) _,S2.fs,S2.fn,S2.fu⟩
    ·have cc:=f3.cells
     have hcr:(bs s2.cells)= .row 1 (s2.cells.map λx=>[.p (.int .i64 x)]):=rfl
     rw[hcr] at cc
     have hn16:¬(16:Int)<=i:=by omega
     have hi16:i<s2.cells.length:=by rw[I2.g.len];omega
     have hgc:=VA hi16
     generalize s2.cells[i]=c0 at hgc
     simp only[aL] at dR
     simp-implicitDefEqProofs[aa,dR,c2,o4,hn16,cc,hgc]
     have hRV:=E3.neR f3
     have hRc:=f3.neR
     have hlc:=f3.lt
     have hne3:=f3.ne
     refine⟨by omega,fin (.ok none) sid2 nid uid uv _ _ _ ⟨by rw[Vy (by omega)];exact f3.run,by rw[Vy (by omega)];exact f3.said,?_,hne3⟩ (E3.frame (by simp) (Vy (by omega)) (Vy (by have:=A3'.nc;omega)) (Vy (by have:=A3'.uc;omega))) A3' ⟨S2.fr.set (by simp) _,S2.fs,S2.fn,S2.fu⟩⟩
     rw[VC hlc.2.2]
     simp[bs,S5.put,List.map_set]
  ·
   have hsh:nmV v'=nmV v:=(show Grw ([]::v) (m::v') from zY hbk).tail
   have hft:(ay (m::v')).take (ay ([]::v)).length=ay v':=by
    rw[mj];exact BX hsh
   have Ib:In5 ([]::v) s1:=⟨I1.g,I1.ge.opn,I1.un.opn,I1.m,by rw[mj];exact I1.f⟩
   have Eb:EI V nid uid uv (ay ([]::v)) false x0 h2:=by rw[Ce];exact E2
   simp only[aL] at cR
   by_cases hn:n=0
   ·rw[if_neg (by simpa using hn)] at hbk
    have:=hE _ _ _ _ _ hbk Ib V x0 sid1 nid uid uv h2 e3 Eb A2
    rw[hft] at this
    simp-implicitDefEqProofs[aa,b2,o5,hsl,cR,hn]
    refine this.mono ?_
    rintro z h3 ⟨sid',nid',uid',uv',rfl,p1,p2,p3,p4,p5,p6,p7⟩
    simp-implicitDefEqProofs[aa]
    exact fin r _ _ _ _ _ _ _ p1 p2 p3 (S1.st p4 p5 p6 p7)
   ·rw[if_pos hn] at hbk
    have:=hB _ _ _ _ _ hbk Ib V x0 sid1 nid uid uv h2 e3 Eb A2
    rw[hft] at this
    simp-implicitDefEqProofs[aa,b2,o5,hsl,cR,hn]
    refine this.mono ?_
    rintro z h3 ⟨sid',nid',uid',uv',rfl,p1,p2,p3,p4,p5,p6,p7⟩
    simp-implicitDefEqProofs[aa]
    exact fin r _ _ _ _ _ _ _ p1 p2 p3 (S1.st p4 p5 p6 p7)
  ·
   simp only[Gs] at hc1
   have Il:InS v s1:=⟨I1.g,I1.ge,I1.un,by have:=I.m;omega,by have:=I.f;omega⟩
   have:=hL o6 _ _ _ _ _ _ hlp Il V x0 sid1 nid uid uv h2 e3 E2 A2
   rw[hxc,hsl] at this
   simp only[aL] at cR
   simp-implicitDefEqProofs[aa,b2,o6,hsl,cR]
   rw[o6] at this
   refine this.mono ?_
   rintro z h3 ⟨sid',nid',uid',uv',rfl,p1,p2,p3,p4,p5,p6,p7⟩
   simp-implicitDefEqProofs[aa]
   exact fin r _ _ _ _ _ _ _ p1 p2 p3 (S1.st p4 p5 p6 p7)
  ·simp only[aL] at cR
   simp only[ca] at cV
   simp-implicitDefEqProofs[aa,b2,o7,hsl,cR,cV,vS]
   exact fin (.ok (some n)) _ _ _ _ _ _ _ (e3.setV (s2:=s') E2 _) (E2.setV A2) A2 ⟨S1.fr.set (by simp) _,S1.fs,S1.fn,S1.fu⟩
  ·simp only[aL] at cR
   simp-implicitDefEqProofs[aa,b2,o8,hsl,cR]
   exact fin (.ok none) _ _ _ _ _ _ _ e3 E2 A2 S1
end
section
theorem In5.opn{v:List Sc5}{s:S5}(I:In5 v s):In5 ([]::v) s:=⟨I.g,I.ge.opn,I.un.opn,I.m,by rw[mj];exact I.f⟩
theorem In5.blk{l:List Fd}{k:Nat}{v v':List Sc5}{s s':S5}{xs:List Sm}{q:O5 (Option Int)}(I:In5 v s)(h:Ev l (.blk k v s xs v' s' q)):In5 v' s':=by
 have a:=da h ⟨I.g,I.ge⟩
 have b:=mL h
 have c:=Pq h I.un
 exact⟨a.1,a.2.2.1,c,VR b.1 I.m,VR b.2.2 I.f⟩
theorem In5.tl{m:Sc5}{v:List Sc5}{s:S5}(I:In5 (m::v) s):In5 v s:=⟨I.g,I.ge.tail,I.un.tail,I.m,by have:=to m v;have:=I.f;omega⟩
theorem In5.tick{v:List Sc5}{s:S5}{F:Nat}(I:In5 v s)(h:s.left=F+1):InS v (s.at_ F):=by
 obtain⟨a,b⟩:=HC h
 exact⟨I.g.at_ F,I.ge,I.un,by have:=I.m;omega,by have:=I.f;omega⟩
theorem In5.stm{l:List Fd}{k:Nat}{v v':List Sc5}{s s':S5}{x:Sm}{q:O5 (Option Int)}(I:InS v s)(h:Ev l (.stm k v s x v' s' q)):In5 v' s':=by
 have a:=da h ⟨I.g,I.ge⟩
 have b:=mL h
 have c:=Pq h I.un
 simp only[Gs] at b
 exact⟨a.1,a.2.2.1,c,by have:=I.m;omega,by have:=I.f;omega⟩
structure LoS where (sid nid uid:Nat) (uv:AV) (hh:List AO) (v:List Sc5) (s:S5) (n:Int) (o:Bool)
structure LoI (l:List Fd) (R cid k V sid nid uid:Nat) (x0:Int) (hb:List AO) (x:Sm) (v':List Sc5) (s':S5) (r:O5 (Option Int)) (a:LoS):Prop where
 run:RI R cid l a.sid a.s (if a.o then bt r else 0) a.o a.hh
 env:EI V a.nid a.uid a.uv (ay a.v) false x0 a.hh
 ap:Ap R V a.sid cid a.nid a.uid
 snc:Snc R cid V sid nid uid hb a.sid a.nid a.uid a.hh
 go:a.o=false->InS a.v a.s/\LpA l k x a.v a.s a.n v' s' r
 over:a.o=true->a.v=v'/\a.s=s'/\∃c,r= .st c
variable (G:al)
theorem Qd{l:List Fd}{R cid k:Nat}{x:Sm}(W:WfS l k x)(h6:x.op=6)(hX:∀e,WfE l k e->ExC G l R cid k e)(hB:StX G l R cid k x.body):LpX G l R cid k x:=by
 intro v s n v' s' r hS I V x0 sid nid uid uv h H E A
 have hxc:=x.cs_eq
 have hsl:exL x.args= .lst 4 (x.args.map Ex.cs):=rfl
 obtain⟨hR0,hs0,hc0⟩:=H.lt
 obtain⟨hV0,hn0,hu0⟩:=E.lt
 have hNR:=E.neR H
 obtain⟨a,ha⟩:∃a,x.args=[a]:=by
  have:x.args.length=1:=by rw[W.argn,h6];decide
  match hx:x.args,this with
  |[a],_=>exact⟨a,rfl⟩
 have ham:a∈x.args:=by rw[ha];simp
 have hg0:x.args[0]?=some a:=by rw[ha];rfl
 have hka:=a.cs_eq
 refine AC.go uE ?_
 simp-implicitDefEqProofs[lQ,hxc]
 obtain⟨box,hbox⟩:∃box,box=AO.row 5 [[.p (.int .i64 x.op),.p (.str x.name),.p (exL x.args),.p (smL x.body),.p (smL x.els)]]:=⟨_,rfl⟩
 rw[←hbox]
 obtain⟨hb,hhb⟩:∃hb,hb=h++[box]:=⟨_,rfl⟩
 have hbl:hb.length=h.length+1:=by rw[hhb];simp
 have hbb:hb[h.length]?=some box:=by rw[hhb];simp
 have J0:LoI l R cid k V sid nid uid x0 hb x v' s' r ⟨sid,nid,uid,uv,hb,v,s,n,false⟩:=
  ⟨by rw[hhb];exact H.more _,by rw[hhb];exact E.more _,A,Snc.init _,λ_=>⟨I,hS⟩,λh=>by cases h⟩
 refine aN (λa:LoS=>ah 41 [(2,.p (.int .i64 a.n)),(5,.ptr h.length 5 0 0),(0,.ptr R 7 0 0),(3,.ptr V 4 0 0)]) (λa=>a.hh) (LoI l R cid k V sid nid uid x0 hb x v' s' r) (λa=>if a.o then 0 else a.s.left+1) ⟨sid,nid,uid,uv,hb,v,s,n,false⟩ J0 ?_ ?_
 ·rw[hhb]
  refine aY (by simp) ?_
  simp[below]
  omega
 clear J0
 rintro⟨sc,nc,uc,uvc,hh,vc,sx,nx,o⟩ J
 have jR:=J.run.run
 have jV:=J.env.env
 have jS:=J.snc
 simp only at jR jV jS
 have fin:∀(q:O5 (Option Int)) (sid2 nid2 uid2:Nat) (uv2:AV) (h3:List AO) (w:Sc5) (s2:S5),RI R cid l sid2 s2 (bt q) (di q) h3->EI V nid2 uid2 uv2 w (bkB q) (bkV x0 q) h3->Ap R V sid2 cid nid2 uid2->Snc R cid V sid nid uid hb sid2 nid2 uid2 h3->StL R cid l V sid nid uid h w x0 s2 q (.ret (.tup [])) h3:=λq sid2 nid2 uid2 uv2 h3 w s2 g1 g2 g3 g4=>StL.mk g1 g2 g3 (by rw[hhb] at g4;exact g4.base)
 cases o with
 |true=>
  obtain⟨rfl,rfl,c,rfl⟩:=J.over rfl
  simp only[bt,if_true] at jR
  have hrun:=J.run
  have henv:=J.env
  simp only[bt,if_true] at hrun henv
  simp only[aL] at jR
  by_cases hn:nx=0
  ·simp-implicitDefEqProofs[hn]
   exact fin (.st c) _ _ _ _ _ _ _ hrun henv J.ap J.snc
  ·simp-implicitDefEqProofs[hn,jR]
   exact fin (.st c) _ _ _ _ _ _ _ hrun henv J.ap J.snc
 |false=>
  obtain⟨Ic,hlp⟩:=J.go rfl
  simp only at Ic hlp
  have hrun:=J.run
  have henv:=J.env
  simp only[Bool.false_eq_true,if_false] at jR hrun henv
  rcases hlp with⟨rfl,rfl,rfl,rfl⟩|⟨hn,m,v1,s2,q1,hbk,hrest⟩
  ·simp-implicitDefEqProofs[]
   exact fin (.ok none) _ _ _ _ _ _ _ hrun henv J.ap J.snc
  have hsh:nmV v1=nmV vc:=(show Grw ([]::vc) (m::v1) from zY hbk).tail
  have hft:(ay (m::v1)).take (ay ([]::vc)).length=ay v1:=by
   rw[mj];exact BX hsh
  have Eb:EI V nc uc uvc (ay ([]::vc)) false x0 hh:=by rw[Ce];exact henv
  have I2:In5 v1 s2:=(Ic.in5.opn.blk hbk).tl
  have hBk:=hB _ _ _ _ _ hbk Ic.in5.opn V x0 sc nc uc uvc hh hrun Eb J.ap
  rw[hft] at hBk
  have hbox2:hh[h.length]?=some box:=by
   rw[jS.keep (by omega) (by omega)];exact hbb
  rw[hbox] at hbox2
  simp only[aL] at jR
  simp-implicitDefEqProofs[hn,jR,hbox2]
  refine hBk.mono ?_
  rintro z h3 ⟨sid',nid',uid',uv',rfl,p1,p2,p3,p4,p5,p6,p7⟩
  have S3:=jS.st p4 p5 p6 p7
  have pR:=p1.run
  have pV:=p2.env
  rcases hrest with⟨hq,rfl,rfl,rfl⟩|⟨rfl,hrest⟩
  ·cases r with
   |st c=>
    simp only[bt,di,aL] at pR
    simp-implicitDefEqProofs[aa,pR]
    exact fin (.st c) _ _ _ _ _ _ _ p1 p2 p3 S3
   |ok q=>
    cases q with
    |none=>exact(hq rfl).elim
    |some m=>
     simp only[bt,di,aL] at pR
     simp only[bkB,bkV,ca] at pV
     simp-implicitDefEqProofs[aa,pR,pV]
     exact fin (.ok (some m)) _ _ _ _ _ _ _ p1 p2 p3 S3
  ·simp only[bt,di] at pR p1
   simp only[bkB,bkV] at pV p2
   have htk:=MT G pR (by have:=I2.m;unfold M5 at this;omega)
   obtain⟨q1,q2,q3⟩:=p1.lt
   obtain⟨q4,q5,q6⟩:=p2.lt
   have q7:=p2.neR p1
   have q8:=p1.neR
   have q9:=p1.ne
   have uR:=p3.uR
   simp only[aL] at pR
   simp only[ca] at pV
   simp-implicitDefEqProofs[aa,pR,pV]
   refine htk.mono ?_
   rintro z h4 ⟨rfl,rfl⟩
   have hlen3:∀z,(h3.set R z).length=h3.length:=λz=>We
   have S4:∀z,Snc R cid V sid nid uid hb sid' nid' uid' (h3.set R z):=λz=>⟨S3.fr.set (by simp) _,S3.fs,S3.fn,S3.fu⟩
   have c4:∀z,(h3.set R z)[h.length]?=some (.row 5 [[.p (.int .i64 x.op),.p (.str x.name),.p (.lst 4 (x.args.map Ex.cs)),.p (smL x.body),.p (smL x.els)]]):=λz=>by
    rw[(S4 z).keep (by omega) (by omega),hbb,hbox];rfl
   have E4:∀z,EI V nid' uid' uv' (ay v1) false x0 (h3.set R z):=λz=>p2.frame (by simp) (Vy (by omega)) (Vy (by omega)) (Vy (by omega))
   have next:∀(sid5:Nat) (h5:List AO) (s5:S5) (n5:Int) (o5:Bool) (sl:List (Nat × AV)),LoI l R cid k V sid nid uid x0 hb x v' s' r ⟨sid5,nid',uid',uv',h5,v1,s5,n5,o5⟩->s5.left<=s2.left->s2.left<=sx.left->(o5=false->s5.left<sx.left)->Aw.look sl 2= .p (.int .i64 n5)->Aw.look sl 5= .ptr h.length 5 0 0->Aw.look sl 0= .ptr R 7 0 0->Aw.look sl 3= .ptr V 4 0 0->
    ∃a:LoS,LoI l R cid k V sid nid uid x0 hb x v' s' r a/\(if a.o=true then 0 else a.s.left+1)<sx.left+1/\Wk h.length (ah 41 sl) h5 (ah 41 [(2,.p (.int .i64 a.n)),(5,.ptr h.length 5 0 0),(0,.ptr R 7 0 0),(3,.ptr V 4 0 0)]) a.hh:=λsid5 h5 s5 n5 o5 sl J5 g1 g2 g3 e2 e5 e0 e3=>by
    refine⟨_,J5,?_,aY ?_ ?_⟩
    ·cases o5 with
     |true=>simp
     |false=>have:=g3 rfl;simp only[Bool.false_eq_true,if_false];omega
    ·have:=J5.snc.fr.1;simp only at this;omega
    ·have:=J5.snc.fr.1
     simp only at this
     simp[below,e2,e5,e0,e3]
     omega
   have hcb:=mL hbk
   simp only[Gs] at hcb
   have hac:a.cs.map AV.p=[.p (.int .i64 a.op),.p (.int .i64 a.n),.p (.str a.name),.p (exL a.kids)]:=by rw[hka];rfl
   rcases hrest with⟨h0,rfl,rfl,rfl⟩|⟨F,hF,hl2⟩
   ·rw[if_pos h0]
    have rS:(h3.set R (aL l sid' cid s' 3 true))[R]?=some (aL l sid' cid s' 3 true):=VC q1
    have hxo:=yT G rS a (.ptr V 4 0 0)
    rw[hac] at hxo
    have c5:=c4 (aL l sid' cid s' 3 true)
    simp-implicitDefEqProofs[aa,c5,hsl,hg0,hka]
    refine hxo.mono ?_
    rintro z h5 ⟨rfl,os,rfl⟩
    simp-implicitDefEqProofs[aa]
    refine next sid' _ s' 0 true _ ⟨by simpa[bt] using p1.ended.more os,(E4 _).more os,p3,(S4 _).st (Fr.more _ _ _) (.inl rfl) (.inl rfl) (.inl rfl),(λh=>by cases h),λ_=>⟨rfl,rfl,3,rfl⟩⟩ (VM _) hcb.2.1 (λh=>by cases h) (by simp) (by simp) (by simp) (by simp)
   ·rw[if_neg (by omega)]
    have hF1:s2.left-1=F:=by omega
    rw[hF1]
    have I4:=I2.tick hF
    have R4:RI R cid l sid' (s2.at_ F) 0 false (h3.set R (aL l sid' cid (s2.at_ F) 0 false)):=⟨VC q1,by rw[Vy (by omega)];exact p1.said,by rw[Vy (by omega)];exact p1.cells,q9⟩
    obtain⟨a',s4,r4,hA',hx4,hr4⟩:=CT hl2
    rw[ha] at hA'
    cases hA'
    have hx5:=hX a (W.args a ham) v1 (s2.at_ F) s4 r4 hx4 I4.in5 V false x0 sid' nid' uid' uv' _ R4 (E4 _) p3
    rw[hac] at hx5
    have c5:=c4 (aL l sid' cid (s2.at_ F) 0 false)
    have hc4:=mL hx4
    simp only[Gs,S5.at_] at hc4
    simp-implicitDefEqProofs[aa,c5,hsl,hg0,hka]
    refine hx5.mono ?_
    rintro z h5 ⟨n5,sid5,rfl,f1,f2,f3,f4,f5⟩
    have E5:=(E4 _).keep R4 p3 f4
    have A5:=Ap.step (E4 _) p3 f5
    have S5':=(S4 _).ex f4 f5
    have I5:=I4.in5.ex hx4
    simp-implicitDefEqProofs[aa]
    rcases hr4 with⟨c,rfl,rfl,rfl,rfl⟩|⟨n6,rfl,hl6⟩
    ·simp only[bt,di] at f3
     exact next sid5 _ s' n5 true _ ⟨by simpa[bt] using f3,E5,A5,S5',(λh=>by cases h),λ_=>⟨rfl,rfl,c,rfl⟩⟩ (by omega) hcb.2.1 (λh=>by cases h) (by simp) (by simp) (by simp) (by simp)
    ·have:=f2 _ rfl
     subst this
     simp only[bt,di] at f3
     refine next sid5 _ s4 n5 false _ ⟨by simpa using f3,E5,A5,S5',(λ_=>⟨⟨I5.1.g,I5.1.ge,I5.1.un,?_,?_⟩,hl6⟩),(λh=>by cases h)⟩ (by omega) hcb.2.1 (λh=>by omega) (by simp) (by simp) (by simp) (by simp)
     ·have:=I4.m;simp only[M5,S5.at_] at this hc4⊢;omega
     ·have:=I4.f;simp only[S5.at_] at this⊢;omega
end
section
section
variable {M:Nat} {l:List Fd} {fuel sid sid1 sid2:Nat} {u sv sv1 sv2:AV} {v v1 v2:List Sc5} {I:List Nat} {h h1 h2 os:List AO} {s s1 s2:S5}
theorem BkL.refl(H:MI M l fuel sv sid s h)(C:CI h u v I M sid):BkL M l fuel sid u v I h s sv sid h:=⟨H,C,Fr.refl _ _,.inl rfl,λ_ _ _ q=>q⟩
theorem BkL.trans(B:BkL M l fuel sid u v1 I h s1 sv1 sid1 h1)(D:BkL M l fuel sid1 u v2 I h1 s2 sv2 sid2 h2):BkL M l fuel sid u v2 I h s2 sv2 sid2 h2:=by
 have hb:=B.fs
 have hd:=D.fs
 have hl:=B.fr.1
 refine⟨D.run,D.ci,B.fr.trans D.fr λi hi=>?_,by omega,λi hi x q=>D.env i hi x (B.env i hi x q)⟩
 simp only[VL] at hi⊢
 rcases hi with rfl|rfl|hi
 ·exact .inl (.inl rfl)
 ·rcases hb with rfl|hb
  ·exact .inl (.inr (.inl rfl))
  ·exact .inr hb
 ·exact .inl (.inr (.inr hi))
theorem BkL.more(B:BkL M l fuel sid u v I h s sv1 sid1 h1)(os:List AO):BkL M l fuel sid u v I h s sv1 sid1 (h1++os):=
 ⟨B.run.more os,B.ci.more os,B.fr.trans (Fr.more [] _ _) (λi hi=>by cases hi),B.fs,λi hi x q=>by rw[Vz (B.ci.chn.lt i hi)];exact B.env i hi x q⟩
theorem BkL.ex(B:BkL M l fuel sid u v I h s1 sv1 sid1 h1)(P:PL M l fuel sid1 h1 s2 sv2 sid2 h2):BkL M l fuel sid u v I h s2 sv2 sid2 h2:=
 B.trans ⟨P.run,B.ci.after P,P.fr.sub λi hi=> .inl (by simp only[VL,Wa,or_false] at hi⊢;omega),P.fs,λi hi x q=>by
  rw[P.fr.2 i (B.ci.chn.lt i hi) (by simp only[VL,Wa,or_false,not_or];exact⟨λe=>B.ci.mn (e▸hi),λe=>B.ci.sn (e▸hi)⟩)];exact q⟩
theorem BkL.upd(B:BkL M l fuel sid u v I h s1 sv1 sid1 h1)(a1:s2.said=s1.said)(a2:s2.left<=s1.left)(a3:s2.cells.length=16):BkL M l fuel sid u v I h s2 sv1 sid1 (h1.set M (jv l fuel sv1 s2)):=
 ⟨B.run.upd a1 a2 a3,⟨B.ci.chn.frame λi hi=>Vy (show M≠i from λe=>B.ci.mn (e▸hi)),B.ci.nd,B.ci.sn,B.ci.mn⟩,B.fr.set (by simp) _,B.fs,λi hi x q=>by rw[Vy (show M≠i from λe=>B.ci.mn (e▸hi))];exact B.env i hi x q⟩
end
theorem Ef{P:Program}{G:al}{k:Nat}{c:AK}{ts:List AV}{h:List AO}{Q:Aw.AX->List AV->List AO->Prop}(n:Nat)(R Y:List AV->List AO->Prop)(Z:TypeId->PV->List AO->Prop)
 (h1:∀Q',(∀ts' h',R ts' h'->Q' (.exit n) ts' h')->(∀ts' h',Y ts' h'->Q' .ret ts' h')->(∀t v ts' h',Z t v h'->Q' (.pan t v) ts' h')->AKW P G k c ts h Q')(h2:∀ts' h',R ts' h'->Q (.exit n) ts' h')(h4:∀ts' h',Y ts' h'->Q .ret ts' h')(h3:∀t v ts' h',Z t v h'->Q (.pan t v) ts' h'):AKW P G k c ts h Q:=h1 Q h2 h4 h3
variable (G:al)
def PsC(l:List Fd)(M k fuel:Nat)(x:Sm):Prop:=∀v s v' s' r,Ev l (.stm k v s x v' s' r)->InS v s->∀u I sid sv h,MI M l fuel sv sid s h->CI h u v I M sid->
 AC Tryz.prog G fp [.ptr M 20 0 0,.agg (x.cs.map .p),u] h (BkX M l fuel sid u v' I h s' r)
theorem InS.stm{l:List Fd}{k:Nat}{v v':List Sc5}{s s':S5}{x:Sm}{q:O5 (Option Int)}(I:InS v s)(h:Ev l (.stm k v s x v' s' q)):In5 v' s':=In5.stm I h
structure BlS where (i sid:Nat) (sv:AV) (hh:List AO) (v:List Sc5) (s:S5)
structure BlI (l:List Fd) (M k fuel sid:Nat) (u:AV) (I:List Nat) (h:List AO) (xs:List Sm) (v':List Sc5) (s':S5) (r:O5 (Option Int)) (a:BlS):Prop where
 bk:BkL M l fuel sid u a.v I h a.s a.sv a.sid a.hh
 inn:In5 a.v a.s
 ev:Ev l (.blk k a.v a.s (xs.drop a.i) v' s' r)
 il:a.i<=xs.length
theorem NI{l:List Fd}{M k fuel:Nat}{xs:List Sm}(hz:xs.length<=1073741824)(hS:∀x∈xs,PsC G l M k fuel x):PbC G l M k fuel xs:=by
 intro v s v' s' r hE I0 u I sid sv h H C
 have hsl:smL xs= .lst 5 (xs.map Sm.cs):=rfl
 obtain⟨e0,rfl,_,hue⟩:=C.chn.is
 have hmb:=H.lt
 refine AC.go oh ?_
 simp-implicitDefEqProofs[jA,hsl]
 refine Ef 0 (λts' h'=>r= .ok none/\(∃sv2 sid2,BkL M l fuel sid (.ptr e0 2 0 0) v' I h s' sv2 sid2 h')/\∃l,ts'=ah 26 l)
  (λts' h'=>∃n b,r= .ok (some n)/\(∃sv2 sid2,BkL M l fuel sid (.ptr e0 2 0 0) v' I h s' sv2 sid2 h')/\h'[b]?=some (.row 1 [[.p (.int .i64 n)]])/\∃l,ts'=ah 26 ((6,.ptr b 1 0 0)::l))
  (λt x h'=>∃c,t=bH/\x= .int .i64 c/\r= .st c/\∃sv2 sid2,BkL M l fuel sid (.ptr e0 2 0 0) v' I h s' sv2 sid2 h') (λQ' qE qR qP=>?_) ?_ ?_ ?_
 ·refine aN (λa:BlS=>ah 26 [(12,.p (.int .i64 a.i)),(11,.p (.int .i64 xs.length)),(10,.p (.lst 5 (xs.map Sm.cs))),(0,.ptr M 20 0 0),(2,.ptr e0 2 0 0)]) (λa=>a.hh) (BlI l M k fuel sid (.ptr e0 2 0 0) I h xs v' s' r) (λa=>xs.length-a.i) ⟨0,sid,sv,h,v,s⟩ ⟨BkL.refl H C,I0,hE,WA _⟩ ?_ ?_
  ·refine aY (VM _) ?_
   simp[below]
   omega
  rintro⟨i,sidc,svc,hh,vc,sc⟩ J
  have hil:=J.il
  have jl:=J.bk.fr.1
  simp only at hil jl
  by_cases h1:i<xs.length
  ·have hg:=VA h1
   have ha:=VT h1
   obtain⟨x,hgx⟩:∃x,x=xs[i]:=⟨_,rfl⟩
   rw[←hgx] at hg ha
   have hkx:=x.cs_eq
   have hdr:xs.drop i=x::xs.drop (i+1):=by
    rw[Wz h1,hgx]
   have hev:=J.ev
   simp only[hdr] at hev
   simp-implicitDefEqProofs[h1,hg,hkx]
   rw[←hgx]
   have B0:=J.bk.more [.row 5 [x.cs.map .p]]
   have hM0:=J.bk.run.lt
   simp only at hM0 B0
   have hwi:=w1 (i:=i) (by omega)
   refine(Md G B0.run).mono ?_
   rintro z h2 hz2
   by_cases hF:sc.left=0
   ·rw[if_pos hF] at hz2
    obtain⟨rfl,rfl⟩:=hz2
    have hr:r= .st 3/\v'=vc/\s'=sc:=by
     cases hev with
     |bfuel _=>exact⟨rfl,rfl,rfl⟩
     |bgo q _ _=>omega
     |bend q _ _=>omega
    obtain⟨rfl,rfl,rfl⟩:=hr
    simp-implicitDefEqProofs[]
    exact λts=>qP _ _ _ _ ⟨3,rfl,rfl,rfl,_,_,B0⟩
   rw[if_neg hF] at hz2
   obtain⟨rfl,rfl⟩:=hz2
   obtain⟨F,hF1⟩:∃F,sc.left=F+1:=⟨sc.left-1,by omega⟩
   have hFF:sc.left-1=F:=by omega
   rw[hFF]
   have IS:=J.inn.tick hF1
   have B1:BkL M l fuel sid (.ptr e0 2 0 0) vc I h (sc.at_ F) svc sidc ((hh++[AO.row 5 [x.cs.map AV.p]]).set M (jv l fuel svc (sc.at_ F))):=B0.upd rfl (by simp only[S5.at_];omega) B0.run.len
   have hb:((hh++[AO.row 5 [x.cs.map AV.p]]).set M (jv l fuel svc (sc.at_ F)))[hh.length]?=some (.row 5 [x.cs.map .p]):=by
    rw[Vy (by omega)];simp
   have hlen:((hh++[AO.row 5 [x.cs.map AV.p]]).set M (jv l fuel svc (sc.at_ F))).length=hh.length+1:=by simp
   generalize (hh++[AO.row 5 [x.cs.map AV.p]]).set M (jv l fuel svc (sc.at_ F))=h2 at B1 hb hlen
   simp-implicitDefEqProofs[aa,hb]
   have fin:∀v1 s1 sv2 sid2 h3,BkL M l fuel sid (.ptr e0 2 0 0) v1 I h s1 sv2 sid2 h3->In5 v1 s1->Ev l (.blk k v1 s1 (xs.drop (i+1)) v' s' r)->∀sl,Aw.look sl 12= .p (.int .i64 (IntKind.i64.wrap ((i:Int)+1)))->Aw.look sl 11= .p (.int .i64 xs.length)->Aw.look sl 10= .p (.lst 5 (xs.map Sm.cs))->Aw.look sl 0= .ptr M 20 0 0->Aw.look sl 2= .ptr e0 2 0 0->
    ∃a:BlS,BlI l M k fuel sid (.ptr e0 2 0 0) I h xs v' s' r a/\xs.length-a.i<xs.length-i/\Wk h.length (ah 26 sl) h3 (ah 26 [(12,.p (.int .i64 a.i)),(11,.p (.int .i64 xs.length)),(10,.p (.lst 5 (xs.map Sm.cs))),(0,.ptr M 20 0 0),(2,.ptr e0 2 0 0)]) a.hh:=λv1 s1 sv2 sid2 h3 B I1 hE1 sl e12 e11 e10 e0' e2=>by
    have:=B.fr.1
    refine⟨⟨i+1,sid2,sv2,h3,v1,s1⟩,⟨B,I1,hE1,by simp only;omega⟩,by simp only;omega,aY (by omega) ?_⟩
    simp[below,e12,e11,e10,e0',e2,hwi]
    omega
   have hone:∃v1 s1 q,Ev l (.stm k vc (sc.at_ F) x v1 s1 q)/\((q= .ok none/\Ev l (.blk k v1 s1 (xs.drop (i+1)) v' s' r))\/(q≠ .ok none/\v'=v1/\s'=s1/\r=q)):=by
    cases hev with
    |bfuel q=>omega
    |bgo q q2 q3=>rw[hF1] at q;cases q;exact⟨_,_,_,q2,.inl ⟨rfl,q3⟩⟩
    |bend q q2 q3=>rw[hF1] at q;cases q;exact⟨_,_,_,q2,.inr ⟨q3,rfl,rfl,rfl⟩⟩
   obtain⟨v1,s1,q,q1,q2⟩:=hone
   refine(hS x ha _ _ _ _ _ q1 IS _ I sidc svc h2 B1.run B1.ci).mono ?_
   rintro z h3 ⟨hR,sv2,sid2,B2⟩
   have B3:=B1.trans B2
   match q,hR with
   | .ok none,hR=>
     cases hR
     rcases q2 with⟨_,q2⟩|⟨q2,_⟩
     case inr=>exact(q2 rfl).elim
     simp-implicitDefEqProofs[aa]
     exact fin _ _ _ _ _ B3 (IS.stm q1) q2 _ (by simp) (by simp) (by simp) (by simp) (by simp)
   | .ok (some n),⟨b,hb1,hb2⟩=>
     cases hb1
     rcases q2 with⟨q2,_⟩|⟨_,rfl,rfl,rfl⟩
     ·cases q2
     simp-implicitDefEqProofs[aa]
     exact qR _ _ ⟨n,b,rfl,⟨sv2,sid2,B3⟩,hb2,_,rfl⟩
   | .st c,hR=>
     cases hR
     rcases q2 with⟨q2,_⟩|⟨_,rfl,rfl,rfl⟩
     ·cases q2
     simp-implicitDefEqProofs[]
     exact λts=>qP _ _ _ _ ⟨c,rfl,rfl,rfl,sv2,sid2,B3⟩
  ·simp-implicitDefEqProofs[h1]
   have:i=xs.length:=by omega
   subst this
   have hev:=J.ev
   simp only[List.drop_length] at hev
   cases hev
   exact qE _ _ ⟨rfl,⟨svc,sidc,J.bk⟩,_,rfl⟩
 ·rintro ts' h' ⟨rfl,B,l',rfl⟩
  simp-implicitDefEqProofs[]
  exact⟨rfl,B⟩
 ·rintro ts' h' ⟨n,b,rfl,B,hb,l',rfl⟩
  simp-implicitDefEqProofs[]
  exact⟨⟨b,rfl,hb⟩,B⟩
 ·rintro t y ts' h' ⟨c,rfl,rfl,rfl,B⟩
  simp-implicitDefEqProofs[]
  exact⟨rfl,B⟩
end
section
section
variable {M:Nat} {l:List Fd} {fuel sid sid1 sid2:Nat} {u sv sv1 sv2:AV} {v v1 v2:List Sc5} {I:List Nat} {h h1 h2 os:List AO} {s s1 s2:S5}
theorem BkL.map(B:BkL M l fuel sid u v1 I h s1 sv1 sid1 h1){m:Nat}(hm:m∈I){o:AO}{q0:List (PV × AV)}(hq:h1[m]?=some (.mp q0))(hC:Chn (h1.set m o) u v2 I):BkL M l fuel sid u v2 I h s1 sv1 sid1 (h1.set m o):=
 ⟨B.run.frame (by rw[We];exact VM _) (Vy (show m≠M from λe=>B.ci.mn (e▸hm))) (Vy (show m≠sid1 from λe=>B.ci.sn (e▸hm))),⟨hC,B.ci.nd,B.ci.sn,B.ci.mn⟩,B.fr.set (by simp[hm]) _,B.fs,λi hi x q=>by
   have h3:=B.env i hi x q
   rw[Vy (show m≠i from λe=>by subst e;rw[hq] at h3;cases h3)];exact h3⟩
theorem Chn.hd{c:Sc5}{up:List Sc5}(H:Chn h u (c::up) I)(nd:I.Nodup):∃e m w,u= .ptr e 2 0 0/\h[e]?=some (.row 2 [[.mp m,w]])/\h[m]?=some (.mp (mpV c))/\m∈I/\∀c',Chn (h.set m (.mp (mpV c'))) u (c'::up) I:=by
 cases H with
 |last e m c h1 h2=>
  have hm:=(Vx.1 h2).1
  have hne:m≠e:=λq=>by subst q;rw[h1] at h2;cases h2
  exact⟨e,m,_,rfl,h1,h2,by simp,λc'=> .last e m _ (by rw[Vy hne];exact h1) (VC hm)⟩
 |cons e m c u v I h1 h2 H=>
  have hm:=(Vx.1 h2).1
  have hne:m≠e:=λq=>by subst q;rw[h1] at h2;cases h2
  simp only[Wy,VL,not_or] at nd
  exact⟨e,m,_,rfl,h1,h2,by simp,λc'=> .cons e m _ u _ I (by rw[Vy hne];exact h1) (VC hm) (H.frame λi hi=>Vy (show m≠i from λq=>nd.2.1 (q▸hi)))⟩
theorem BkL.say(B:BkL M l fuel sid u v I h s1 sv1 sid1 h1){n:Int}{nid:Nat}(a1:h1.length<=nid)(a2:∀j,j<h1.length->j≠M->j≠sid1->h2[j]?=h1[j]?)(a3:h2[M]?=some (jv l fuel (.sl nid 1 0 (s1.said++[n]).length) (s1.say n)))(a4:h2[nid]?=some (bs (s1.said++[n]))):
 BkL M l fuel sid u v I h (s1.say n) (.sl nid 1 0 (s1.said++[n]).length) nid h2:=by
 have hn:=(Vx.1 a4).1
 have hs:=B.fs
 have hl:=B.fr.1
 refine⟨⟨a3,.ss _ _ a4,B.run.le,B.run.fu,B.run.len⟩,⟨B.ci.chn.frame λi hi=>a2 i (B.ci.chn.lt i hi) (λe=>B.ci.mn (e▸hi)) (λe=>B.ci.sn (e▸hi)),B.ci.nd,λhm=>by have:=B.ci.chn.lt _ hm;omega,B.ci.mn⟩,⟨by omega,λi hi hk=>?_⟩,.inr (by omega),λi hi x q=>by rw[a2 i (B.ci.chn.lt i hi) (λe=>B.ci.mn (e▸hi)) (λe=>B.ci.sn (e▸hi))];exact B.env i hi x q⟩
 simp only[VL,not_or] at hk
 rw[a2 i (by omega) hk.1 (by omega),B.fr.2 i hi (by simp only[VL,not_or];exact hk)]
end
theorem NC{l:List Fd}{fuel:Nat}{sv:AV}{s:S5}{i:Nat}{m:Int}(hi:i<s.cells.length)(a b c:AV)(ha:a= .p (fdL l))(hb:b= .p (.int .i64 fuel))(hc:c= .p (.int .i64 ((fuel-s.left:Nat):Int))):
 AO.row 20 [List.take (4+i) (a::b::c::sv::s.cells.map λn=> .p (.int .i64 n))++ .p (.int .i64 m)::List.drop (4+i) (b::c::sv::s.cells.map λn=> .p (.int .i64 n))]=jv l fuel sv (s.put i m):=by
 subst ha;subst hb;subst hc
 rw[show 4+i=i+1+1+1+1 by omega]
 simp only[List.take_succ_cons,List.drop_succ_cons,jv,S5.put,Wn,List.nil_append]
 rw[List.map_set,List.set_eq_take_append_cons_drop,if_pos (by simpa using hi)]
variable (G:al)
theorem Chn.tl{h:List AO}{e e2 m:Nat}{c:Sc5}{v:List Sc5}{I:List Nat}(H:Chn h (.ptr e 2 0 0) (c::v) (e::m::I))(hI:I≠[])(he:h[e]?=some (.row 2 [[.mp m,.ptr e2 2 0 0]])):Chn h (.ptr e2 2 0 0) v I:=by
 cases H with
 |last=>exact(hI rfl).elim
 |cons _ _ _ u _ _ h1 h2 h3=>
  rw[he] at h1
  simp only[Option.some.injEq,AO.row.injEq,List.cons.injEq,and_true,true_and] at h1
  subst h1
  exact h3
theorem QX{l:List Fd}{M k fuel sid e0:Nat}{sv:AV}{v v':List Sc5}{m:Sc5}{s s':S5}{I:List Nat}{h2:List AO}{r:O5 (Option Int)}{xs:List Sm}(hP:PbC G l M k fuel xs)(hev:Ev l (.blk k ([]::v) s xs (m::v') s' r))(I1:In5 v s)(H:MI M l fuel sv sid s h2)(C:CI h2 (.ptr e0 2 0 0) v I M sid):
 AC Tryz.prog G bp [.ptr M 20 0 0,.p (smL xs),.ptr (h2.length+1) 2 0 0] (h2++[.mp [],.row 2 [[.mp h2.length,.ptr e0 2 0 0]]]) (BkX M l fuel sid (.ptr e0 2 0 0) v' I h2 s' r):=by
 have hch:Chn (h2++[.mp [],.row 2 [[.mp h2.length,.ptr e0 2 0 0]]]) (.ptr (h2.length+1) 2 0 0) ([]::v) ((h2.length+1)::h2.length::I):= .cons _ _ [] _ _ _ (by simp) (by simp[mpV]) (C.chn.more _)
 have hIl:=C.chn.lt
 have hM1:=H.lt
 have hS1:=H.said.lt
 have C3:CI (h2++[.mp [],.row 2 [[.mp h2.length,.ptr e0 2 0 0]]]) (.ptr (h2.length+1) 2 0 0) ([]::v) ((h2.length+1)::h2.length::I) M sid:=by
  refine⟨hch,?_,?_,?_⟩
  ·simp only[Wy,VL,not_or]
   exact⟨⟨by omega,λq=>by have:=hIl _ q;omega⟩,λq=>by have:=hIl _ q;omega,C.nd⟩
  ·simp only[VL,not_or];exact⟨by omega,by omega,C.sn⟩
  ·simp only[VL,not_or];exact⟨by omega,by omega,C.mn⟩
 have hI0:I≠[]:=by
  obtain⟨_,_,q,_⟩:=C.chn.is
  intro e
  rw[e] at q
  cases q
 refine(hP _ _ _ _ _ hev I1.opn _ _ sid sv _ (H.more _) C3).mono ?_
 rintro z h3 ⟨hR,sv3,sid3,B3⟩
 have hsd:sid3=sid\/h2.length<=sid3:=by
  have:=B3.fs
  simp at this
  omega
 have hfr:Fr (M::sid::I) h2 h3:=B3.fr.from.sub λi hi=>by
  simp only[VL] at hi⊢
  rcases hi with rfl|rfl|rfl|rfl|hi
  ·exact .inl (.inl rfl)
  ·exact .inl (.inr (.inl rfl))
  ·exact .inr (by omega)
  ·exact .inr (VM _)
  ·exact .inl (.inr (.inr hi))
 have hsn:=B3.ci.sn
 simp only[VL,not_or] at hsn
 refine⟨hR,sv3,sid3,B3.run,⟨B3.ci.chn.tl hI0 (B3.env _ (by simp) _ (by simp)),C.nd,hsn.2.2,C.mn⟩,hfr,hsd,λi hi x q=>B3.env i (by simp[hi]) x (by rw[Vz (hIl i hi)];exact q)⟩
theorem PY{l:List Fd}{M k fuel:Nat}{x:Sm}(W:WfS l k x)(hX:∀e,WfE l k e->PxC G l M k fuel e)(hB:PbC G l M k fuel x.body)(hE:PbC G l M k fuel x.els)(n6:x.op≠6):PsC G l M k fuel x:=by
 intro v s v' s' r hS I0 u I sid sv h H C
 have hxc:=x.cs_eq
 have hsl:exL x.args= .lst 4 (x.args.map Ex.cs):=rfl
 obtain⟨e0,rfl,_,hue⟩:=C.chn.is
 have hmb:=H.lt
 have hsb:=H.said.lt
 obtain⟨box,hbox⟩:∃box,box=AO.row 5 [[.p (.int .i64 x.op),.p (.str x.name),.p (exL x.args),.p (smL x.body),.p (smL x.els)]]:=⟨_,rfl⟩
 obtain⟨a,ha0⟩:∃a,x.args[0]?=some a:=by
  have:x.args.length≠0:=by
   rw[W.argn]
   obtain⟨q1,q2⟩:=W.op
   have:x.op=1\/x.op=2\/x.op=3\/x.op=4\/x.op=5\/x.op=6\/x.op=7\/x.op=8:=by omega
   rcases this with q|q|q|q|q|q|q|q<;>rw[q]<;>decide
  exact⟨x.args[0],VA (by omega)⟩
 have ham:=VD ha0
 have hka:=a.cs_eq
 obtain⟨s1,r1,hx1,hrest⟩:∃s1 r1,Ev l (.ex k v s a s1 r1)/\((∃c,r1= .st c/\v'=v/\s'=s1/\r= .st c)\/∃n,r1= .ok n/\
  ((x.op=1/\∃m up,v=m::up/\bO m x.name=none/\v'=(m++[(x.name,n)])::up/\s'=s1/\r= .ok none)\/(x.op=2/\(fQ v x.name).isSome=true/\v'=gq v x.name n/\s'=s1/\r= .ok none)\/(x.op=3/\v'=v/\s'=s1.say n/\r= .ok none)\/
    (x.op=4/\v'=v/\∃b s2 r2,x.args[1]?=some b/\Ev l (.ex k v s1 b s2 r2)/\((∃c,r2= .st c/\s'=s2/\r= .st c)\/∃m,r2= .ok m/\((16<=n/\s'=s2/\r= .st 2)\/∃i:Nat,n=(i:Int)/\i<16/\s'=s2.put i m/\r= .ok none)))\/
    (x.op=5/\∃m,Ev l (.blk k ([]::v) s1 (if n≠0 then x.body else x.els) (m::v') s' r))\/(x.op=6/\LpA l k x v s1 n v' s' r)\/(x.op=7/\v'=v/\s'=s1/\r= .ok (some n))\/(x.op=8/\v'=v/\s'=s1/\r= .ok none))):=by
  have hd:∀{b:Ex} {q:List Ex},x.args=b::q->b=a:=λ{b q} e=>by rw[e] at ha0;cases ha0;rfl
  cases hS with
  |argS h6 hA h1=>cases hd hA;exact⟨_,_,h1,.inl ⟨_,rfl,rfl,rfl,rfl⟩⟩
  |slet h6 hA h1 h2 h3=>cases hd hA;exact⟨_,_,h1,.inr ⟨_,rfl,.inl ⟨h6,_,_,h2,h3,rfl,rfl,rfl⟩⟩⟩
  |sset h6 hA h1 h2=>cases hd hA;exact⟨_,_,h1,.inr ⟨_,rfl,.inr (.inl ⟨h6,h2,rfl,rfl,rfl⟩)⟩⟩
  |ssay h6 hA h1=>cases hd hA;exact⟨_,_,h1,.inr ⟨_,rfl,.inr (.inr (.inl ⟨h6,rfl,rfl,rfl⟩))⟩⟩
  |sput h6 hA h1 h2 h3=>cases hd hA;exact⟨_,_,h1,.inr ⟨_,rfl,.inr (.inr (.inr (.inl ⟨h6,rfl,_,_,_,by rw[hA];rfl,h2,.inr ⟨_,rfl,.inr ⟨_,rfl,h3,rfl,rfl⟩⟩⟩)))⟩⟩
  |sputC h6 hA h1 h2 h3=>cases hd hA;exact⟨_,_,h1,.inr ⟨_,rfl,.inr (.inr (.inr (.inl ⟨h6,rfl,_,_,_,by rw[hA];rfl,h2,.inr ⟨_,rfl,.inl ⟨h3,rfl,rfl⟩⟩⟩)))⟩⟩
  |sputS h6 hA h1 h2=>cases hd hA;exact⟨_,_,h1,.inr ⟨_,rfl,.inr (.inr (.inr (.inl ⟨h6,rfl,_,_,_,by rw[hA];rfl,h2,.inl ⟨_,rfl,rfl,rfl⟩⟩)))⟩⟩
  |sif h6 hA h1 h2=>cases hd hA;exact⟨_,_,h1,.inr ⟨_,rfl,.inr (.inr (.inr (.inr (.inl ⟨h6,_,h2⟩))))⟩⟩
  |sloop h6 h1=>
   obtain⟨b,s1,r1,hA,g1,g2⟩:=CT h1
   cases hd hA
   rcases g2 with g2|⟨n,g2,g3⟩
   ·exact⟨_,_,g1,.inl g2⟩
   ·exact⟨_,_,g1,.inr ⟨n,g2,.inr (.inr (.inr (.inr (.inr (.inl ⟨h6,g3⟩)))))⟩⟩
  |sback h6 hA h1=>cases hd hA;exact⟨_,_,h1,.inr ⟨_,rfl,.inr (.inr (.inr (.inr (.inr (.inr (.inl ⟨h6,rfl,rfl,rfl⟩))))))⟩⟩
  |sdo h6 hA h1=>cases hd hA;exact⟨_,_,h1,.inr ⟨_,rfl,.inr (.inr (.inr (.inr (.inr (.inr (.inr ⟨h6,rfl,rfl,rfl⟩))))))⟩⟩
 clear hS
 refine AC.go kn ?_
 simp-implicitDefEqProofs[fv,hxc,hsl,ha0,hka,n6]
 have hbox':AO.row 5 [[.p (.int .i64 x.op),.p (.str x.name),.p (.lst 4 (x.args.map Ex.cs)),.p (smL x.body),.p (smL x.els)]]=box:=hbox.symm
 rw[hbox']
 have hX1:=hX a (W.args a ham) v s s1 r1 hx1 I0.in5 _ I sid sv _ (H.more [box]) (C.more [box])
 rw[show a.cs.map AV.p=[.p (.int .i64 a.op),.p (.int .i64 a.n),.p (.str a.name),.p (exL a.kids)] by rw[hka];rfl] at hX1
 refine hX1.mono ?_
 rintro z h2 ⟨rfl,sv1,sid1,P⟩
 have b2:h2[h.length]?=some box:=by have:=PL.keep H P (i:=0) (by simp);simpa using this
 have B1:BkL M l fuel sid (.ptr e0 2 0 0) v I h s1 sv1 sid1 h2:=(BkL.refl H C).ex P.from
 have I1:=I0.in5.ex hx1
 rcases hrest with⟨c,rfl,rfl,rfl,rfl⟩|⟨n,rfl,hrest⟩
 ·simp-implicitDefEqProofs[du]
  exact⟨rfl,sv1,sid1,B1⟩
 ·rw[hbox] at b2
  rcases hrest with⟨o1,m,up,rfl,hsg,rfl,rfl,rfl⟩|⟨o2,hvs,rfl,rfl,rfl⟩|⟨o3,rfl,rfl,rfl⟩|⟨o4,rfl,b,s2,r2,hb1,hx2,hrest⟩|⟨o5,m,hbk⟩|⟨o6,hlp⟩|⟨o7,rfl,rfl,rfl⟩|⟨o8,rfl,rfl,rfl⟩
  ·obtain⟨e,mm,w,he,g1,g2,g3,g4⟩:=B1.ci.chn.hd B1.ci.nd
   cases he
   have hq:=tC x.name n m
   rw[hsg] at hq
   simp only[Option.isSome_none,Bool.false_eq_true,if_false] at hq
   simp-implicitDefEqProofs[aa,du,b2,o1,g1,g2,hq]
   exact⟨rfl,_,_,B1.map g3 g2 (g4 _)⟩
  ·obtain⟨n0,hn0⟩:=Option.isSome_iff_exists.1 hvs
   simp-implicitDefEqProofs[aa,du,b2,o2]
   refine(HZ G B1.ci.chn B1.ci.nd hn0).mono ?_
   rintro z h3 ⟨rfl,e1,rfl,m,c,w,g1,g2,g3,g4,g5⟩
   have hq:=tC x.name n c
   rw[if_pos (pL g3)] at hq
   simp-implicitDefEqProofs[aa,g1,g2,hq,b2]
   exact⟨rfl,_,_,B1.map g4 g2 (g5 _)⟩
  ·have jM:=B1.run.men
   simp only[jv] at jM
   have hM2:=B1.run.lt
   have hm5:=I1.1.m
   unfold M5 at hm5
   have hsd:=B1.run.said
   obtain⟨xs,hxs⟩:∃xs,xs=s1.said:=⟨_,rfl⟩
   rw[←hxs] at hsd hm5
   cases hsd with
   |nn _ _=>
    have jMa:∀os,(h2++os)[M]?=_:=λos=>(Vz hM2).trans jM
    simp-implicitDefEqProofs[aa,du,b2,o3,jM, ↓jMa]
    refine⟨rfl,_,_,B1.say (n:=n) (nid:=h2.length+1) (by omega) (λj j1 j2 _=>by rw[Vy (Ne.symm j2),Vz j1]) ?_ ?_⟩
    ·rw[VC (by simp;omega),←hxs];rfl
    ·rw[Vy (by omega),VG (by omega),←hxs];simp[bs]
   |ss _ _ hu=>
    have hul:=(Vx.1 hu).1
    simp only[bs] at hu
    have hua:∀os,(h2++os)[sid1]?=some (.row 1 (xs.map λn=>[.p (.int .i64 n)])):=λos=>by rw[Vz hul];exact hu
    have hne:sid1≠M:=Ne.symm (B1.run.neS (by simp))
    have jMb:∀os z os',((h2++os).set sid1 z++os')[M]?=_:=λos z os'=>((Vz (by simp;omega)).trans (Vy hne)).trans ((Vz hM2).trans jM)
    simp-implicitDefEqProofs[aa,du,b2,o3,jM, ↓hua, ↓jMb]
    have htk:List.take xs.length (xs.map λn=>[AV.p (.int .i64 n)])=xs.map λn=>[AV.p (.int .i64 n)]:=VE (by simp)
    refine⟨⟨by omega,by omega⟩,?_⟩
    refine⟨rfl,_,_,B1.say (n:=n) (nid:=h2.length+1) (by omega) (λj j1 j2 j3=>?_) ?_ ?_⟩
    ·rw[Vy (Ne.symm j2),Vz (by simp;omega),Vy (Ne.symm j3),Vz j1]
    ·rw[VC (by simp;omega),←hxs];simp[jv,S5.say]
    ·rw[Vy (by omega),VG (by simp),←hxs];simp[bs,htk]
  ·have hb:=VD hb1
   have hkb:=b.cs_eq
   simp-implicitDefEqProofs[aa,du,b2,o4,hsl,hb1,hkb]
   have hX2:=hX b (W.args b hb) _ _ _ _ hx2 I1.1 _ I sid1 sv1 _ P.run B1.ci
   rw[show b.cs.map AV.p=[.p (.int .i64 b.op),.p (.int .i64 b.n),.p (.str b.name),.p (exL b.kids)] by rw[hkb];rfl] at hX2
   refine hX2.mono ?_
   rintro z h3 ⟨rfl,sv2,sid2,P2⟩
   have B2:=B1.ex P2
   have I2:=I1.1.ex hx2
   rcases hrest with⟨c,rfl,rfl,rfl⟩|⟨m,rfl,hrest⟩
   ·simp-implicitDefEqProofs[du]
    exact⟨rfl,sv2,sid2,B2⟩
   ·simp-implicitDefEqProofs[aa,du]
    have hn5:=I1.2 n rfl
    obtain⟨i,rfl⟩:∃i:Nat,n=(i:Int):=⟨n.toNat,by have:=hn5.1;omega⟩
    refine(FU G B2.run i (by have:=hn5.2;omega)).mono ?_
    rintro z h4 hz
    rcases hrest with⟨h16,rfl,rfl⟩|⟨i',hi,h16,rfl,rfl⟩
    ·rw[if_pos (by omega)] at hz
     obtain⟨rfl,rfl⟩:=hz
     simp-implicitDefEqProofs[]
     exact⟨rfl,sv2,sid2,B2⟩
    ·have hii:i'=i:=by omega
     subst hii
     rw[if_neg (by omega)] at hz
     obtain⟨rfl,rfl⟩:=hz
     have jM:=B2.run.men
     simp only[jv] at jM
     have hcl:=B2.run.len
     simp-implicitDefEqProofs[aa,jM]
     rw[NC (by omega) _ _ _ rfl rfl rfl]
     exact⟨by omega,rfl,_,_,B2.upd rfl (VM _) (by simp[S5.put,hcl])⟩
  ·have fin:∀z h3,BkX M l fuel sid1 (.ptr e0 2 0 0) v' I h2 s' r z h3->BkX M l fuel sid (.ptr e0 2 0 0) v' I h s' r z h3:=λz h3 ⟨hR,sv3,sid3,B3⟩=>⟨hR,sv3,sid3,B1.trans B3⟩
   by_cases hn0:n=0
   ·simp-implicitDefEqProofs[aa,du,b2,o5,hn0]
    refine(CL G B1.ci.chn).mono ?_
    rintro z h3 ⟨rfl,rfl⟩
    have b3:∀os,(h2++os)[h.length]?=_:=λos=>(Vz (Vx.1 b2).1).trans b2
    simp-implicitDefEqProofs[aa,b3,b2]
    rw[if_neg (by omega)] at hbk
    refine(QX G hE hbk I1.1 B1.run B1.ci).mono ?_
    rintro z h3 hz
    have hz:=fin _ _ hz
    obtain⟨hR,B3⟩:=hz
    match r,hR with
    | .ok none,hR=>
      cases hR
      simp-implicitDefEqProofs[aa]
      exact⟨rfl,B3⟩
    | .ok (some q),⟨b,hb1,hb2⟩=>
      cases hb1
      simp-implicitDefEqProofs[aa]
      exact⟨⟨b,rfl,hb2⟩,B3⟩
    | .st c,hR=>
      cases hR
      simp-implicitDefEqProofs[]
      exact⟨rfl,B3⟩
   ·simp-implicitDefEqProofs[aa,du,b2,o5,hn0]
    refine(CL G B1.ci.chn).mono ?_
    rintro z h3 ⟨rfl,rfl⟩
    have b3:∀os,(h2++os)[h.length]?=_:=λos=>(Vz (Vx.1 b2).1).trans b2
    simp-implicitDefEqProofs[aa,b3,b2]
    rw[if_pos hn0] at hbk
    refine(QX G hB hbk I1.1 B1.run B1.ci).mono ?_
    rintro z h3 hz
    have hz:=fin _ _ hz
    obtain⟨hR,B3⟩:=hz
    match r,hR with
    | .ok none,hR=>
      cases hR
      simp-implicitDefEqProofs[aa]
      exact⟨rfl,B3⟩
    | .ok (some q),⟨b,hb1,hb2⟩=>
      cases hb1
      simp-implicitDefEqProofs[aa]
      exact⟨⟨b,rfl,hb2⟩,B3⟩
    | .st c,hR=>
      cases hR
      simp-implicitDefEqProofs[]
      exact⟨rfl,B3⟩
  ·exact(n6 o6).elim
  ·simp-implicitDefEqProofs[aa,du,b2,o7]
   exact⟨⟨h2.length,rfl,by simp⟩,_,_,B1.more _⟩
  ·simp-implicitDefEqProofs[aa,du,b2,o8]
   exact⟨rfl,_,_,B1⟩
end
section
structure LzS where (sid:Nat) (sv:AV) (hh:List AO) (v:List Sc5) (s:S5)
structure LzI (l:List Fd) (M k fuel sid:Nat) (u:AV) (I:List Nat) (h:List AO) (box:AO) (x:Sm) (v':List Sc5) (s':S5) (r:O5 (Option Int)) (a:LzS):Prop where
 bk:BkL M l fuel sid u a.v I (h++[box]) a.s a.sv a.sid a.hh
 inn:In5 a.v a.s
 ev:Ev l (.lp k a.v a.s x v' s' r)
theorem BkL.keep{M:Nat}{l:List Fd}{fuel sid sid1:Nat}{u sv sv1:AV}{v v1:List Sc5}{I:List Nat}{h h1 os:List AO}{s s1:S5}(H:MI M l fuel sv sid s h)(C:CI h u v I M sid)(B:BkL M l fuel sid u v1 I (h++os) s1 sv1 sid1 h1){i:Nat}(hi:i<os.length):h1[h.length+i]?=os[i]?:=by
 have a:=H.lt
 have b:=H.said.lt
 rw[B.fr.2 (h.length+i) (by simp;omega) (by simp only[VL,not_or];exact⟨by omega,by omega,λq=>by have:=C.chn.lt _ q;omega⟩),VG (by omega),Wi]
theorem BkL.from{M:Nat}{l:List Fd}{fuel sid sid1:Nat}{u sv1:AV}{v v1:List Sc5}{I:List Nat}{h h1 os:List AO}{s1:S5}(C:CI h u v I M sid)(B:BkL M l fuel sid u v1 I (h++os) s1 sv1 sid1 h1):BkL M l fuel sid u v1 I h s1 sv1 sid1 h1:=
 ⟨B.run,B.ci,B.fr.from,by have:=B.fs;simp at this;omega,λi hi x q=>B.env i hi x (by rw[Vz (C.chn.lt i hi)];exact q)⟩
variable (G:al)
theorem PF{l:List Fd}{M k fuel:Nat}{x:Sm}(W:WfS l k x)(hX:∀e,WfE l k e->PxC G l M k fuel e)(hB:PbC G l M k fuel x.body)(h6:x.op=6):PsC G l M k fuel x:=by
 intro v s v' s' r hS I0 u I sid sv h H C
 have hxc:=x.cs_eq
 have hsl:exL x.args= .lst 4 (x.args.map Ex.cs):=rfl
 obtain⟨e0,rfl,_,hue⟩:=C.chn.is
 have hmb:=H.lt
 have hsb:=H.said.lt
 obtain⟨box,hbox⟩:∃box,box=AO.row 5 [[.p (.int .i64 6),.p (.str x.name),.p (.lst 4 (x.args.map Ex.cs)),.p (smL x.body),.p (smL x.els)]]:=⟨_,rfl⟩
 obtain⟨a,ha0⟩:∃a,x.args[0]?=some a:=by
  have:x.args.length≠0:=by rw[W.argn,h6];decide
  exact⟨x.args[0],VA (by omega)⟩
 have ham:=VD ha0
 have hka:=a.cs_eq
 have hlp:Ev l (.lp k v s x v' s' r):=by
  cases hS with
  |argS q _ _=>exact(q h6).elim
  |sloop _ q=>exact q
  |slet q _ _ _ _=>omega
  |sset q _ _ _=>omega
  |ssay q _ _=>omega
  |sput q _ _ _ _=>omega
  |sputC q _ _ _ _=>omega
  |sputS q _ _ _=>omega
  |sif q _ _ _=>omega
  |sback q _ _=>omega
  |sdo q _ _=>omega
 clear hS
 refine AC.go kn ?_
 simp-implicitDefEqProofs[fv,hxc,hsl,h6]
 rw[←hbox]
 refine Ef 0 (λts' h'=>r= .ok none/\(∃sv2 sid2,BkL M l fuel sid (.ptr e0 2 0 0) v' I h s' sv2 sid2 h')/\∃l,ts'=ah 109 l)
  (λts' h'=>∃n b,r= .ok (some n)/\(∃sv2 sid2,BkL M l fuel sid (.ptr e0 2 0 0) v' I h s' sv2 sid2 h')/\h'[b]?=some (.row 1 [[.p (.int .i64 n)]])/\∃l,ts'=ah 109 ((6,.ptr b 1 0 0)::l))
  (λt x h'=>∃c,t=bH/\x= .int .i64 c/\r= .st c/\∃sv2 sid2,BkL M l fuel sid (.ptr e0 2 0 0) v' I h s' sv2 sid2 h') (λQ' qE qR qP=>?_) ?_ ?_ ?_
 ·refine aN (λa:LzS=>ah 109 [(4,.ptr h.length 5 0 0),(0,.ptr M 20 0 0),(2,.ptr e0 2 0 0)]) (λa=>a.hh) (LzI l M k fuel sid (.ptr e0 2 0 0) I h box x v' s' r) (λa=>a.s.left) ⟨sid,sv,h++[box],v,s⟩ ⟨BkL.refl (H.more _) (C.more _),I0.in5,hlp⟩ ?_ ?_
  ·refine aY (by simp) ?_
   simp[below]
   omega
  rintro⟨sidc,svc,hh,vc,sc⟩ J
  have jB:hh[h.length]?=some box:=by have:=BkL.keep H C J.bk (i:=0) (by simp);simpa using this
  have jl:=J.bk.fr.1
  simp only[VO,VV,List.length_nil] at jl
  rw[hbox] at jB
  have hge:=J.bk.from C
  simp-implicitDefEqProofs[jB,hsl,ha0,hka]
  have hev:=J.ev
  simp only at hev
  obtain⟨a',s1,r1,hxa,hx1,hrest⟩:=CT hev
  have haa:a'=a:=by rw[hxa] at ha0;cases ha0;rfl
  subst haa
  have hX1:=hX a' (W.args a' ham) _ _ _ _ hx1 J.inn _ I sidc svc hh J.bk.run J.bk.ci
  rw[show a'.cs.map AV.p=[.p (.int .i64 a'.op),.p (.int .i64 a'.n),.p (.str a'.name),.p (exL a'.kids)] by rw[hka];rfl] at hX1
  refine hX1.mono ?_
  rintro z h2 ⟨rfl,sv1,sid1,P⟩
  have B1:=J.bk.ex P
  simp only at B1
  have jB2:h2[h.length]?=some box:=by have:=BkL.keep H C B1 (i:=0) (by simp);simpa using this
  rw[hbox] at jB2
  have I1:=J.inn.ex hx1
  have hcn:=mL hx1
  simp only[Gs] at hcn
  rcases hrest with⟨c,rfl,rfl,rfl,rfl⟩|⟨n,rfl,hrest⟩
  ·simp-implicitDefEqProofs[du]
   exact λts=>qP _ _ _ _ ⟨c,rfl,rfl,rfl,_,_,B1.from C⟩
  rcases hrest with⟨rfl,rfl,rfl,rfl⟩|⟨hn0,m,v1,s2,q1,hbk,hrest⟩
  ·simp-implicitDefEqProofs[aa,du]
   exact qE _ _ ⟨rfl,⟨_,_,B1.from C⟩,_,rfl⟩
  have b3:∀os,(h2++os)[h.length]?=_:=λos=>(Vz (Vx.1 jB2).1).trans jB2
  simp-implicitDefEqProofs[aa,du,hn0,jB2]
  refine(CL G B1.ci.chn).mono ?_
  rintro z h3 ⟨rfl,rfl⟩
  simp-implicitDefEqProofs[aa,b3,jB2]
  refine(QX G hB hbk I1.1 B1.run B1.ci).mono ?_
  rintro z h3 ⟨hR,sv3,sid3,B3⟩
  have B4:=B1.trans B3
  have I3:=(I1.1.opn.blk hbk).tl
  have hcb:=mL hbk
  simp only[Gs] at hcb
  match q1,hR with
  | .st c,hR=>
    cases hR
    rcases hrest with⟨_,rfl,rfl,rfl⟩|⟨q,_⟩
    case inr=>cases q
    simp-implicitDefEqProofs[]
    exact λts=>qP _ _ _ _ ⟨c,rfl,rfl,rfl,_,_,B4.from C⟩
  | .ok (some q),⟨b,hb1,hb2⟩=>
    cases hb1
    rcases hrest with⟨_,rfl,rfl,rfl⟩|⟨q,_⟩
    case inr=>cases q
    simp-implicitDefEqProofs[aa]
    exact qR _ _ ⟨q,b,rfl,⟨_,_,B4.from C⟩,hb2,_,rfl⟩
  | .ok none,hR=>
    cases hR
    rcases hrest with⟨q,_⟩|⟨_,hrest⟩
    ·exact(q rfl).elim
    simp-implicitDefEqProofs[aa]
    refine(Md G B4.run).mono ?_
    rintro z h4 hz
    rcases hrest with⟨hF,rfl,rfl,rfl⟩|⟨F,hF,hlp2⟩
    ·rw[if_pos hF] at hz
     obtain⟨rfl,rfl⟩:=hz
     simp-implicitDefEqProofs[]
     exact λts=>qP _ _ _ _ ⟨3,rfl,rfl,rfl,_,_,B4.from C⟩
    ·rw[if_neg (by omega)] at hz
     obtain⟨rfl,rfl⟩:=hz
     have hFF:s2.left-1=F:=by omega
     rw[hFF]
     have B5:=B4.upd (s2:=s2.at_ F) rfl (by simp only[S5.at_];omega) B4.run.len
     simp-implicitDefEqProofs[aa]
     refine⟨⟨sid3,sv3,_,v1,s2.at_ F⟩,⟨B5,(I3.tick hF).in5,hlp2⟩,by simp only[S5.at_];omega,aY (by have:=B5.fr.1;simp at this⊢;omega) ?_⟩
     have:=B5.fr.1
     simp at this
     simp[below]
     omega
 ·rintro ts' h' ⟨rfl,B,l',rfl⟩
  simp-implicitDefEqProofs[]
  exact⟨rfl,B⟩
 ·rintro ts' h' ⟨n,b,rfl,B,hb,l',rfl⟩
  simp-implicitDefEqProofs[]
  exact⟨⟨b,rfl,hb⟩,B⟩
 ·rintro t y ts' h' ⟨c,rfl,rfl,rfl,B⟩
  simp-implicitDefEqProofs[]
  exact⟨rfl,B⟩
end
section
theorem Pb{v v':List Sc5}(h:Grw v v'):(ay v).length<=(ay v').length:=by
 rcases h with h|⟨m,up,m',up',t,rfl,rfl,h1,h2⟩
 ·rw[hZ h];exact VM _
 ·have e1:=hZ h1
  have e2:=congrArg List.length h2
  simp only[nmS,Wl,VO] at e2
  simp only[ay,VO]
  omega
def sM(uid n:Nat):AV->AV
 | .nils=> .nils
 |_=> .sl uid 1 0 n
theorem EI.cut{R cid V sid nid uid:Nat}{uv:AV}{w:Sc5}{b:Bool}{x:Int}{h:List AO}(E:EI V nid uid uv w b x h)(A:Ap R V sid cid nid uid){n:Nat}(hn:n<=w.length):EI V nid uid (sM uid n uv) (w.take n) b x (h.set V (ca nid n (sM uid n uv) b x)):=by
 obtain⟨t,h1⟩:=E.names
 have hl:(w.take n).length=n:=by rw[Wb];omega
 refine⟨by rw[hl];exact VC E.lt.1,⟨(w.drop n).map (·.1)++t,?_⟩,?_,E.ne,by rw[We];exact E.ul⟩
 ·rw[Vy E.neN,h1,←Wg,←List.map_append,Wu]
 ·have hv:=E.vals
  have hx:∀z,(h.set V z)[uid]?=h[uid]?:=λz=>Vy (Ne.symm A.uV)
  have hwl:(w.map (·.2)).length=w.length:=by simp
  generalize hvm:w.map (·.2)=vm at hv hwl
  have hvt:(w.take n).map (·.2)=vm.take n:=by rw[←hvm,List.map_take]
  rw[hvt]
  cases hv with
  |nn=>simp only[sM,List.take_nil];exact .nn _
  |ss _ _ t2 h2=>
   have hl2:(vm.take n).length=n:=by rw[Wb];omega
   have:=UV.ss (h:=h.set V (ca nid n (sM uid n (.sl uid 1 0 vm.length)) b x)) uid (vm.take n) (vm.drop n++t2) (by rw[hx,h2,←Wg,Wu])
   rw[hl2] at this
   exact this
structure BqS where (sid nid uid:Nat) (uv:AV) (hh:List AO) (v:List Sc5) (s:S5) (i:Nat) (q:O5 (Option Int))
structure BqI (l:List Fd) (R cid k V sid nid uid:Nat) (x0:Int) (hb:List AO) (xs:List Sm) (v':List Sc5) (s':S5) (r:O5 (Option Int)) (a:BqS):Prop where
 run:RI R cid l a.sid a.s (bt a.q) (di a.q) a.hh
 env:EI V a.nid a.uid a.uv (ay a.v) (bkB a.q) (bkV x0 a.q) a.hh
 ap:Ap R V a.sid cid a.nid a.uid
 snc:Snc R cid V sid nid uid hb a.sid a.nid a.uid a.hh
 il:a.i<=xs.length
 go:a.q= .ok none->In5 a.v a.s/\Ev l (.blk k a.v a.s (xs.drop a.i) v' s' r)
 over:a.q≠ .ok none->a.v=v'/\a.s=s'/\a.q=r
variable (G:al)
theorem OO{l:List Fd}{R cid k:Nat}{xs:List Sm}(hz:xs.length<=1073741824)(hS:∀x∈xs,SmX G l R cid k x):StX G l R cid k xs:=by
 intro v s v' s' r hE I V x0 sid nid uid uv h H E A
 have hsl:smL xs= .lst 5 (xs.map Sm.cs):=rfl
 have hgw:Grw v v':=zY hE
 have hlen:=Pb hgw
 obtain⟨hR0,hs0,hc0⟩:=H.lt
 obtain⟨hV0,hn0,hu0⟩:=E.lt
 obtain⟨u1,u2⟩:=E.vals.cell
 have aV:=E.env
 simp only[ca] at aV
 refine AC.go lm ?_
 simp-implicitDefEqProofs[gk,hsl,aV]
 have J0:BqI l R cid k V sid nid uid x0 h xs v' s' r ⟨sid,nid,uid,uv,h,v,s,0,.ok none⟩:=⟨H,E,A,Snc.init _,WA _,λ_=>⟨I,hE⟩,λh=>(h rfl).elim⟩
 refine aN (λa:BqS=>ah 65 [(7,.p (.int .i64 a.i)),(6,.p (.int .i64 (ay v).length)),(0,.ptr R 7 0 0),(1,.p (.lst 5 (xs.map Sm.cs))),(2,.ptr V 4 0 0)]) (λa=>a.hh) (BqI l R cid k V sid nid uid x0 h xs v' s' r) (λa=>xs.length-a.i) ⟨sid,nid,uid,uv,h,v,s,0,.ok none⟩ J0 ?_ ?_
 ·refine aY (VM _) ?_
  simp[below]
  omega
 clear J0
 rintro⟨sc,nc,uc,uvc,hh,vc,sx,i,q⟩ J
 have jR:=J.run.run
 have jV:=J.env.env
 have jS:=J.snc
 have jl:=jS.fr.1
 simp only at jR jV jS jl
 obtain⟨q1,q2,q3⟩:=J.run.lt
 obtain⟨q4,q5,q6⟩:=J.env.lt
 have q7:=J.env.neR J.run
 have q8:=J.run.neR
 have q9:=J.run.ne
 have uR:=J.ap.uR
 simp only at q1 q2 q3 q4 q5 q6 q7 q8 q9 uR
 have out:∀hv:vc=v'/\sx=s'/\q=r,StL R cid l V sid nid uid h ((ay v').take (ay v).length) x0 s' r (.ret (.tup [])) ((hh.set V (.row 4 [[.sl nc 1 0 (ay v).length,sM uc (ay v).length uvc,.p (.bool (bkB q)),.p (.int .i64 (bkV x0 q))]]))):=by
  rintro⟨rfl,rfl,rfl⟩
  exact StL.mk (J.run.setV (s2:=sx) J.env _) (J.env.cut J.ap hlen) J.ap ⟨jS.fr.set (by simp) _,jS.fs,jS.fn,jS.fu⟩
 have vS:∀z,(hh.set V z)[V]?=some z:=λz=>VC q4
 have huv:=J.env.vals
 simp only at huv
 have hwl:((ay vc).map (·.2)).length=(ay vc).length:=by simp
 simp only[aL] at jR
 simp only[ca] at jV
 by_cases hq:q= .ok none
 case neg=>
  have ho:=out (J.over hq)
  have hvl:(ay v).length<=(ay vc).length:=by have:=(J.over hq).1;simp only at this;rw[this];exact hlen
  generalize hvm:(ay vc).map (·.2)=vm at huv hwl
  cases q with
  |st c=>
   simp only[di,bt] at jR
   by_cases hi:i<xs.length
   ·cases huv with
    |nn=>
     have h0:(ay v).length=0:=by simp at hwl;omega
     simp-implicitDefEqProofs[hi,jR,jV,vS,h0]
     simpa[h0,sM] using ho
    |ss _ _ t hu=>
     simp-implicitDefEqProofs[hi,jR,jV,vS,hvl,hwl]
     simpa[sM] using ho
   ·cases huv with
    |nn=>
     have h0:(ay v).length=0:=by simp at hwl;omega
     simp-implicitDefEqProofs[hi,jR,jV,vS,h0]
     simpa[h0,sM] using ho
    |ss _ _ t hu=>
     simp-implicitDefEqProofs[hi,jR,jV,vS,hvl,hwl]
     simpa[sM] using ho
  |ok p=>
   cases p with
   |none=>exact(hq rfl).elim
   |some m=>
    simp only[di,bt,bkB,bkV] at jR jV ho
    by_cases hi:i<xs.length
    ·cases huv with
     |nn=>
      have h0:(ay v).length=0:=by simp at hwl;omega
      simp-implicitDefEqProofs[hi,jR,jV,vS,h0]
      simpa[h0,sM] using ho
     |ss _ _ t hu=>
      simp-implicitDefEqProofs[hi,jR,jV,vS,hvl,hwl]
      simpa[sM] using ho
    ·cases huv with
     |nn=>
      have h0:(ay v).length=0:=by simp at hwl;omega
      simp-implicitDefEqProofs[hi,jR,jV,vS,h0]
      simpa[h0,sM] using ho
     |ss _ _ t hu=>
      simp-implicitDefEqProofs[hi,jR,jV,vS,hvl,hwl]
      simpa[sM] using ho
 subst hq
 obtain⟨Ic,hev⟩:=J.go rfl
 simp only at Ic hev
 simp only[di,bt,bkB,bkV] at jR jV out
 by_cases hi:i<xs.length
 case neg=>
  rw[List.drop_eq_nil_of_le (by omega)] at hev
  cases hev
  have ho:=out ⟨rfl,rfl,rfl⟩
  generalize hvm:(ay v').map (·.2)=vm at huv hwl
  cases huv with
  |nn=>
   have h0:(ay v).length=0:=by simp at hwl;omega
   simp-implicitDefEqProofs[hi,jR,jV,vS,h0]
   simpa[h0,sM] using ho
  |ss _ _ t hu=>
   simp-implicitDefEqProofs[hi,jR,jV,vS,hlen,hwl]
   simpa[sM] using ho
 have hg:=VA hi
 have hmem:=VT hi
 have hdr:xs.drop i=xs[i]::xs.drop (i+1):=Wz hi
 generalize xs[i]=x at hg hmem hdr
 have hxc:=x.cs_eq
 have hSx:=hS x hmem
 have hac:x.cs.map AV.p=[.p (.int .i64 x.op),.p (.str x.name),.p (exL x.args),.p (smL x.body),.p (smL x.els)]:=by rw[hxc];rfl
 have hrun:=J.run
 have henv:=J.env
 have hap:=J.ap
 simp only[bt,di,bkB,bkV] at hrun henv hap
 have htk:=MT G hrun.run (by have:=Ic.m;unfold M5 at this;omega)
 have hwi:=w1 (i:=i) (by omega)
 have next:∀(sid5 nid5 uid5:Nat) (uv5:AV) (h5:List AO) (v5:List Sc5) (s5:S5) (q5:O5 (Option Int)) (sl:List (Nat × AV)),BqI l R cid k V sid nid uid x0 h xs v' s' r ⟨sid5,nid5,uid5,uv5,h5,v5,s5,i+1,q5⟩->Aw.look sl 7= .p (.int .i64 (IntKind.i64.wrap ((i:Int)+1)))->Aw.look sl 6= .p (.int .i64 (ay v).length)->Aw.look sl 0= .ptr R 7 0 0->Aw.look sl 1= .p (.lst 5 (xs.map Sm.cs))->Aw.look sl 2= .ptr V 4 0 0->
  ∃a:BqS,BqI l R cid k V sid nid uid x0 h xs v' s' r a/\xs.length-a.i<xs.length-i/\Wk h.length (ah 65 sl) h5 (ah 65 [(7,.p (.int .i64 a.i)),(6,.p (.int .i64 (ay v).length)),(0,.ptr R 7 0 0),(1,.p (.lst 5 (xs.map Sm.cs))),(2,.ptr V 4 0 0)]) a.hh:=λsid5 nid5 uid5 uv5 h5 v5 s5 q5 sl J5 e7 e6 e0 e1 e2=>by
  have:=J5.snc.fr.1
  simp only at this
  refine⟨_,J5,by simp only;omega,aY this ?_⟩
  simp[below,e7,e6,e0,e1,e2,hwi]
  omega
 have S4:∀z,Snc R cid V sid nid uid h sc nc uc (hh.set R z):=λz=>⟨jS.fr.set (by simp) _,jS.fs,jS.fn,jS.fu⟩
 have E4:∀z,EI V nc uc uvc (ay vc) false x0 (hh.set R z):=λz=>henv.frame (by simp) (Vy (by omega)) (Vy (by omega)) (Vy (by omega))
 simp-implicitDefEqProofs[hi,jR,jV]
 refine htk.mono ?_
 rintro z h4 ⟨rfl,rfl⟩
 rw[hdr] at hev
 have rS:∀z,(hh.set R z)[R]?=some z:=λz=>VC q1
 by_cases h0:sx.left=0
 ·rw[if_pos h0]
  have hr:v'=vc/\s'=sx/\r= .st 3:=by
   cases hev with
   |bfuel _=>exact⟨rfl,rfl,rfl⟩
   |bgo h1 _ _=>omega
   |bend h1 _ _=>omega
  obtain⟨rfl,rfl,rfl⟩:=hr
  simp-implicitDefEqProofs[aa,rS,aL]
  exact next sc nc uc uvc _ v' s' (.st 3) _ ⟨hrun.ended,E4 _,hap,S4 _,by simp only;omega,(λh=>by cases h),λ_=>⟨rfl,rfl,rfl⟩⟩ (by simp) (by simp) (by simp) (by simp) (by simp)
 ·rw[if_neg h0]
  obtain⟨F,hF⟩:∃F,sx.left=F+1:=⟨sx.left-1,by omega⟩
  have hF1:sx.left-1=F:=by omega
  rw[hF1]
  have R4:RI R cid l sc (sx.at_ F) 0 false (hh.set R (aL l sc cid (sx.at_ F) 0 false)):=⟨rS _,by rw[Vy (by omega)];exact hrun.said,by rw[Vy (by omega)];exact hrun.cells,q9⟩
  have I4:=Ic.tick hF
  have hq:∃v1 s1 q1,Ev l (.stm k vc (sx.at_ F) x v1 s1 q1)/\((q1= .ok none/\Ev l (.blk k v1 s1 (xs.drop (i+1)) v' s' r))\/(q1≠ .ok none/\v1=v'/\s1=s'/\q1=r)):=by
   cases hev with
   |bfuel h1=>omega
   |bgo h1 h2 h3=>
    rw[hF] at h1
    cases h1
    exact⟨_,_,_,h2,.inl ⟨rfl,h3⟩⟩
   |bend h1 h2 h3=>
    rw[hF] at h1
    cases h1
    exact⟨_,_,_,h2,.inr ⟨h3,rfl,rfl,rfl⟩⟩
  obtain⟨v1,s1,q1',hst,hrest⟩:=hq
  have hcall:=hSx _ _ _ _ _ hst I4 V x0 sc nc uc uvc _ R4 (E4 _) hap
  rw[hac] at hcall
  have rS':=rS (aL l sc cid (sx.at_ F) 0 false)
  simp only[aL] at rS'
  simp-implicitDefEqProofs[aa,rS',aL,hg,hxc]
  refine hcall.mono ?_
  rintro z h5 ⟨sid',nid',uid',uv',rfl,p1,p2,p3,p4,p5,p6,p7⟩
  simp-implicitDefEqProofs[aa]
  refine next sid' nid' uid' uv' h5 v1 s1 q1' _ ⟨p1,p2,p3,(S4 _).st p4 p5 p6 p7,by simp only;omega,λhq=>?_,λhq=>?_⟩ (by simp) (by simp) (by simp) (by simp) (by simp)
  ·rcases hrest with⟨_,h3⟩|⟨h3,_⟩
   ·exact⟨In5.stm I4 hst,h3⟩
   ·exact(h3 hq).elim
  ·rcases hrest with⟨h3,_⟩|⟨_,h3⟩
   ·exact(hq h3).elim
   ·exact h3
end
section
theorem CoS.mem{l:List Fd}{k:Nat}{x:Sm}:∀{xs:List Sm} {d:Nat},CoS l k d xs->x∈xs->(∀a∈x.args,CoE l k a)/\(∃d,CoS l k d x.body)/\∃d,CoS l k d x.els
 |y::r,d,h,hx=>by
  obtain⟨a,b,c,e⟩:=h.head
  rcases VL.1 hx with rfl|hx
  ·exact⟨a,⟨_,b⟩,⟨_,c⟩⟩
  ·exact e.mem hx
theorem LA{l:List Fd}{k d:Nat}{xs:List Sm}{x:Sm}(hf:∀x∈xs,∃d,az d x=true)(hz:aC xs<=1073741824)(hc:CoS l k d xs)(hx:x∈xs):WfS l k x:=by
 obtain⟨c,hform⟩:=hf x hx
 obtain⟨h1,h2,h3,h4,h5⟩:=Ng hform
 obtain⟨g1,g2,g3⟩:=hc.mem hx
 have hxz:=dT hx
 have hse:=x.sz_eq
 exact⟨⟨c,hform⟩,λa ha=>⟨⟨6,vD (h3 a ha)⟩,g1 a ha,by have:=bQ ha;omega⟩,⟨h4,by omega,g2⟩,⟨h5,by omega,g3⟩,h2,h1⟩
variable (G:al)
theorem Tn{l:List Fd}(hc:aI l=0)(hz:aH l<=1073741824)(R cid:Nat):∀k,StC G l R cid k:=by
 intro k
 induction k using Nat.strongRecOn with
 |_ k ih=>
  have hX:∀e,WfE l k e->ExC G l R cid k e:=λe W=>PD G (λe hop W ihk v s s' r hE I V b x sid nid uid uv h H E A=>Qt G hc hz ih e hop W ihk v s s' r hE I V b x sid nid uid uv h H E A) e.sz e (VM _) W
  have key:∀(N:Nat) (xs:List Sm),aC xs<N->(∀x∈xs,∃d,az d x=true)->aC xs<=1073741824->(∃d,CoS l k d xs)->StX G l R cid k xs:=by
   intro N
   induction N with
   |zero=>intro xs h;omega
   |succ N ihN=>
    rintro xs hN hf hzx ⟨d,hco⟩
    refine OO G (by have:=cr xs;omega) λx hx=>?_
    have W:=LA hf hzx hco hx
    have hxz:=dT hx
    have hse:=x.sz_eq
    have hB:=ihN x.body (by omega) W.body.1 W.body.2.1 W.body.2.2
    exact QD G W hX hB (ihN x.els (by omega) W.els.1 W.els.2.1 W.els.2.2) λh6=>Qd G W h6 hX hB
  intro xs v s v' s' r hf hzx hco
  exact key (aC xs+1) xs (Nat.lt_succ_self _) hf hzx hco v s v' s' r
def FS:O5 Int->Int
 | .ok n=>n
 | .st _=>0
def rd(s:S5)(r:O5 Int):List PV:=[bu s.said,.int .i64 (bt r),.int .i64 (FS r),bu s.cells]
theorem Kk{l:List Fd}{f:Fd}{us:List Int}{fuel:Nat}{s':S5}{r:O5 Int}(hc:aI l=0)(hz:aH l<=1073741824)(hf:l[l.length-1]?=some f)(hl:us.length=f.params.length)(hu:∀n∈us,V5 n)(hfu:fuel<=4000)(hE:Ev l (.cal (l.length-1) us (s0 fuel) s' r)):
 VF Tryz.prog G jC [.agg [.p (fdL l)],.p (bu us),.p (.int .i64 fuel)] (.tup [.agg ((rd s' r).map .p),.p (.int .i64 s'.left)]):=by
 have hfl:fdL l= .lst 3 (l.map Fd.cs):=rfl
 have hfc:f.cs=[.str f.name,am f.params,smL f.body]:=rfl
 have hpL:am f.params= .lst 1 (f.params.map λw=>[.str w]):=rfl
 have hnL:bu us= .lst 1 (us.map λn=>[.int .i64 n]):=rfl
 have hfz:=cN (VD hf)
 have hfs:f.sz=1+f.name.length+(f.params.length+(f.params.map List.length).sum)+aC f.body:=rfl
 have hll:l.length<=aH l:=gC l
 have hjl:=(Vx.1 hf).1
 have hn1:IntKind.i64.wrap ((l.length:Int)-1)=((l.length-1:Nat):Int):=by rw[ab (by omega) (by omega)];omega
 cases hE with
 | @cal _ f' _ _ v'' _ r'' q1 q2 q3=>
 rw[hf] at q1
 cases q1
 have key:AC Tryz.prog G jC [.agg [.p (fdL l)],.p (bu us),.p (.int .i64 fuel)] [] λx h=>∃sid cid,x= .ret (.tup [.agg [.sl sid 1 0 s'.said.length,.p (.int .i64 (bt (GT r''))),.p (.int .i64 (FS (GT r''))),.sl cid 1 0 16],.p (.int .i64 s'.left)])/\h[sid]?=some (bs s'.said)/\h[cid]?=some (bs s'.cells):=by
  refine AC.go Fa ?_
  have hap:=kr hc hf
  have hflat:ay [f.params.zip us]=f.params.zip us:=by simp[ay]
  have hz1:(f.params.zip us).map (·.1)=f.params:=List.map_fst_zip (by omega)
  have hz2:(f.params.zip us).map (·.2)=us:=List.map_snd_zip (by omega)
  have hzl:(f.params.zip us).length=f.params.length:=by rw[List.length_zip];omega
  have IW:In5 [f.params.zip us] (s0 fuel):=by
   refine⟨nD fuel,λm hm y hy=>?_,vf hap q2,by simp[M5,s0];omega,by rw[hflat,hzl];simp only[s0];omega⟩
   rw[VK.1 hm] at hy
   have:=List.mem_map_of_mem (f:=Prod.snd) hy
   rw[hz2] at this
   exact hu _ this
  have hI2:=IW.blk q3
  have call:∀(sid cid:Nat) (hh:List AO),RI 4 cid l sid (s0 fuel) 0 false hh->hh[10]?=some (ca 7 f.params.length (.sl 9 1 0 us.length) false 0)->hh[7]?=some (cJ f.params)->hh[9]?=some (bs us)->hh.length=11->(sid=2\/sid=3)->(cid=2\/cid=3)->sid≠cid->
   AC Tryz.prog G aK [.ptr 4 7 0 0,.p (smL f.body),.ptr 10 4 0 0] hh λx h'=>x= .ret (.tup [])/\∃sid2 nid uid uv w,RI 4 cid l sid2 s' (bt r'') (di r'') h'/\EI 10 nid uid uv w (bkB r'') (bkV 0 r'') h'/\h'[1]?=hh[1]?/\(sid2=sid\/11<=sid2):=λsid cid hh g1 g2 g3 g4 g5 g6 g7 g8=>by
   have EW:EI 10 7 9 (.sl 9 1 0 us.length) (ay [f.params.zip us]) false 0 hh:=by
    rw[hflat]
    refine⟨by rw[hzl];exact g2,⟨[],by rw[hz1,Ws];exact g3⟩,by rw[hz2];exact .ss _ _ [] (by rw[Ws];exact g4),by omega,by omega⟩
   have AW:Ap 4 10 sid cid 7 9:=⟨by omega,by omega,by omega,by omega,by omega,by omega⟩
   refine(Tn G hc hz 4 cid (l.length-1) f.body [f.params.zip us] (s0 fuel) v'' s' r'' (λy hy=>⟨4,(iV hc).2 f (VD hf) y hy⟩) (by omega) ⟨1,zJ hc hf⟩ q3 IW 10 0 sid 7 9 _ hh g1 EW AW).mono ?_
   rintro z h' ⟨sid',nid',uid',uv',rfl,p1,p2,p3,p4,p5,p6,p7⟩
   exact⟨rfl,sid',nid',uid',uv',_,p1,p2,p4.2 1 (by omega) (by simp only[VL,Wa,or_false,not_or];omega),by omega⟩
  simp-implicitDefEqProofs[vW]
  have hst:(AO.row 1 (List.map ((λx=>List.map AV.p x)∘λw=>[PV.str w]) f.params))=cJ f.params:=by simp[cJ,Function.comp_def]
  have hnt:(AO.row 1 (List.map ((λx=>List.map AV.p x)∘λn=>[PV.int IntKind.i64 n]) us))=bs us:=by simp[bs,Function.comp_def]
  refine⟨?_,?_⟩
  ·simp-implicitDefEqProofs[hfl,hn1,hf,hfc,hpL,hnL]
   rw[hst,hnt]
   refine⟨⟨by omega,by omega⟩,⟨by omega,by omega⟩,?_⟩
   refine(call 2 3 _ ⟨rfl,rfl,rfl,by omega⟩ rfl rfl rfl rfl (.inl rfl) (.inr rfl) (by omega)).mono ?_
   rintro z h' ⟨rfl,sid2,nid,uid,uv,w,p1,p2,p3,p4⟩
   have pR:=p1.run
   have pV:=p2.env
   have pS:=p1.said
   have pC:=p1.cells
   simp only[VQ,Ww] at p3
   have rT:∀z,(h'.set 1 z)[1]?=some z:=λz=>VC (Vx.1 p3).1
   have rS:∀z,(h'.set 4 z)[4]?=some z:=λz=>VC p1.lt.1
   have rS1:∀z,(h'.set 4 z)[1]?=some (.row 4 [[AV.nils,AV.p (PV.int IntKind.i64 0),AV.p (PV.int IntKind.i64 0),AV.nils]]):=λz=>by rw[Vy (by omega)];exact p3
   have rSo:∀z w,((h'.set 4 z).set 1 w)[1]?=some w:=λz w=>VC (by rw[We];exact(Vx.1 p3).1)
   have rS4:∀z w,((h'.set 4 z).set 1 w)[4]?=some z:=λz w=>by rw[Vy (by omega)];exact rS z
   simp only[aL] at pR
   simp only[ca] at pV
   have q4:=p1.neR.1
   cases r'' with
   |st c=>
    simp only[di,bt] at pR p1
    simp-implicitDefEqProofs[aa,pR,pV,p3,rT]
    refine⟨sid2,3,⟨rfl,rfl,rfl,rfl⟩,by rw[Vy (by omega)];exact pS,by rw[Vy (by omega)];exact pC⟩
   |ok q=>
    simp only[di,bt] at pR p1
    simp-implicitDefEqProofs[aa,pR,pV,p3,rS,rS1,rSo,rS4]
    refine⟨sid2,3,⟨rfl,?_,?_,rfl⟩,by rw[Vy (by omega),Vy (by omega)];exact pS,by rw[Vy (by omega),Vy (by omega)];exact pC⟩
    ·cases q<;>rfl
    ·cases q<;>rfl
  ·simp-implicitDefEqProofs[hfl,hn1,hf,hfc,hpL,hnL]
   rw[hst,hnt]
   refine⟨⟨by omega,by omega⟩,⟨by omega,by omega⟩,?_⟩
   refine(call 3 2 _ ⟨rfl,rfl,rfl,by omega⟩ rfl rfl rfl rfl (.inr rfl) (.inl rfl) (by omega)).mono ?_
   rintro z h' ⟨rfl,sid2,nid,uid,uv,w,p1,p2,p3,p4⟩
   have pR:=p1.run
   have pV:=p2.env
   have pS:=p1.said
   have pC:=p1.cells
   simp only[VQ,Ww] at p3
   have rT:∀z,(h'.set 1 z)[1]?=some z:=λz=>VC (Vx.1 p3).1
   have rS:∀z,(h'.set 4 z)[4]?=some z:=λz=>VC p1.lt.1
   have rS1:∀z,(h'.set 4 z)[1]?=some (.row 4 [[AV.nils,AV.p (PV.int IntKind.i64 0),AV.p (PV.int IntKind.i64 0),AV.nils]]):=λz=>by rw[Vy (by omega)];exact p3
   have rSo:∀z w,((h'.set 4 z).set 1 w)[1]?=some w:=λz w=>VC (by rw[We];exact(Vx.1 p3).1)
   have rS4:∀z w,((h'.set 4 z).set 1 w)[4]?=some z:=λz w=>by rw[Vy (by omega)];exact rS z
   simp only[aL] at pR
   simp only[ca] at pV
   have q4:=p1.neR.1
   cases r'' with
   |st c=>
    simp only[di,bt] at pR p1
    simp-implicitDefEqProofs[aa,pR,pV,p3,rT]
    refine⟨sid2,2,⟨rfl,rfl,rfl,rfl⟩,by rw[Vy (by omega)];exact pS,by rw[Vy (by omega)];exact pC⟩
   |ok q=>
    simp only[di,bt] at pR p1
    simp-implicitDefEqProofs[aa,pR,pV,p3,rS,rS1,rSo,rS4]
    refine⟨sid2,2,⟨rfl,?_,?_,rfl⟩,by rw[Vy (by omega),Vy (by omega)];exact pS,by rw[Vy (by omega),Vy (by omega)];exact pC⟩
    ·cases q<;>rfl
    ·cases q<;>rfl
 refine key.freezeR (λt v h e=>by obtain⟨_,_,e,_⟩:=e;cases e) λv h e=>?_
 obtain⟨sid,cid,e,h1,h2⟩:=e
 cases e
 have hgv:GE5 [f.params.zip us]:=λm hm y hy=>by
  have hz2:(f.params.zip us).map (·.2)=us:=List.map_snd_zip (by omega)
  rw[VK.1 hm] at hy
  have:=List.mem_map_of_mem (f:=Prod.snd) hy
  rw[hz2] at this
  exact hu _ this
 have hg:=(da q3 ⟨nD fuel,hgv⟩).1
 have v1:=iW (l:=s'.said) h1
 have v2:=iW (l:=s'.cells) h2
 rw[hg.len] at v2
 exact .tup (.agg (.one v1 (.keep (by simp) (.keep (by simp) (.one v2 .nil)))) (.keep (by simp) .nil)) .nil
end
end Go.Proofs.YtokiapglmedipaaGreatDoor
